/- What the functions compute, as functions over plain data, with their contracts: written by gen.py. -/
import Derived.Test.YtdkfkpoenbenmaaProg
import Derived.Test.YtdkfkpoenbenmaaQr
import Derived.Test.YtdkfkpoenbenmaaTa
import Derived.Test.YtdkfkpoenbenmaaSh
import Derived.Test.YtdkfkpoenbenmaaSr
set_option maxRecDepth 100000
set_option linter.all false
namespace Go.Proofs.Ytdkfkpoenbenmaa.pv
open Go.RowKit
def TT : List TI := [
⟨1, 0, .oth, []⟩,
⟨1, 8, .oth, [.nf]⟩,
⟨1, 8, .int .i64, [.i .i64]⟩,
⟨1, 8, .int .i64, [.i .i64]⟩,
⟨1, 1, .bool, [.b]⟩,
⟨1, 1, .int .u8, [.i .u8]⟩,
⟨1, 1, .int .u8, [.i .u8]⟩,
⟨4, 24, .st [(0, 2), (1, 3), (2, 4), (3, 6)], [.i .i64, .i .i64, .b, .i .u8]⟩,
⟨4, 24, .st [(0, 2), (1, 3), (2, 4), (3, 6)], [.i .i64, .i .i64, .b, .i .u8]⟩,
⟨1, 16, .str, [.s]⟩,
⟨1, 16, .str, [.s]⟩,
⟨1, 16, .str, [.s]⟩,
⟨1, 8, .int .u64, [.i .u64]⟩,
⟨2, 24, .st [(0, 9), (1, 12)], [.s, .i .u64]⟩,
⟨2, 24, .st [(0, 9), (1, 12)], [.s, .i .u64]⟩,
⟨1, 8, .ptr 75, [.np]⟩,
⟨1, 8, .ptr 78, [.np]⟩,
⟨1, 8, .ptr 87, [.np]⟩,
⟨1, 8, .st [(0, 17)], [.np]⟩,
⟨1, 8, .st [(0, 17)], [.np]⟩,
⟨1, 16, .oth, [.ni]⟩,
⟨1, 4, .int .i32, [.i .i32]⟩,
⟨1, 4, .int .u32, [.i .u32]⟩,
⟨8, 32, .arr 8 22, [.i .u32, .i .u32, .i .u32, .i .u32, .i .u32, .i .u32, .i .u32, .i .u32]⟩,
⟨10, 48, .st [(0, 23), (8, 22), (9, 3)], [.i .u32, .i .u32, .i .u32, .i .u32, .i .u32, .i .u32, .i .u32, .i .u32, .i .u32, .i .i64]⟩,
⟨10, 48, .st [(0, 23), (8, 22), (9, 3)], [.i .u32, .i .u32, .i .u32, .i .u32, .i .u32, .i .u32, .i .u32, .i .u32, .i .u32, .i .i64]⟩,
⟨1, 24, .sl 5, [.sl]⟩,
⟨3, 40, .st [(0, 22), (1, 26), (2, 3)], [.i .u32, .sl, .i .i64]⟩,
⟨3, 40, .st [(0, 22), (1, 26), (2, 3)], [.i .u32, .sl, .i .i64]⟩,
⟨1, 8, .oth, [.nf]⟩,
⟨1, 8, .oth, [.nf]⟩,
⟨1, 8, .oth, [.nf]⟩,
⟨2, 16, .st [(0, 3), (1, 22)], [.i .i64, .i .u32]⟩,
⟨2, 16, .st [(0, 3), (1, 22)], [.i .i64, .i .u32]⟩,
⟨1, 0, .oth, []⟩,
⟨1, 8, .oth, [.nf]⟩,
⟨1, 8, .ptr 28, [.np]⟩,
⟨1, 8, .oth, [.nf]⟩,
⟨1, 8, .oth, [.nf]⟩,
⟨1, 8, .oth, [.nf]⟩,
⟨1, 16, .oth, [.ni]⟩,
⟨1, 16, .oth, [.ni]⟩,
⟨1, 0, .oth, []⟩,
⟨1, 8, .oth, [.nf]⟩,
⟨4, 32, .st [(0, 3), (1, 3), (2, 3), (3, 3)], [.i .i64, .i .i64, .i .i64, .i .i64]⟩,
⟨4, 32, .st [(0, 3), (1, 3), (2, 3), (3, 3)], [.i .i64, .i .i64, .i .i64, .i .i64]⟩,
⟨1, 8, .int .i64, [.i .i64]⟩,
⟨1, 0, .oth, []⟩,
⟨1, 8, .oth, [.nf]⟩,
⟨1, 0, .oth, []⟩,
⟨1, 8, .oth, [.nf]⟩,
⟨1, 8, .oth, [.nf]⟩,
⟨1, 8, .ptr 25, [.np]⟩,
⟨1, 8, .oth, [.nf]⟩,
⟨1, 8, .oth, [.nf]⟩,
⟨1, 8, .oth, [.nf]⟩,
⟨1, 8, .oth, [.nf]⟩,
⟨1, 8, .int .u64, [.i .u64]⟩,
⟨1, 8, .oth, [.nf]⟩,
⟨1, 0, .oth, []⟩,
⟨1, 8, .oth, [.nf]⟩,
⟨1, 2, .int .i16, [.i .i16]⟩,
⟨1, 0, .oth, []⟩,
⟨1, 8, .oth, [.nf]⟩,
⟨1, 8, .oth, [.nf]⟩,
⟨1, 8, .oth, [.nf]⟩,
⟨1, 2, .int .u16, [.i .u16]⟩,
⟨1, 8, .oth, [.nf]⟩,
⟨1, 8, .int .u64, [.i .u64]⟩,
⟨1, 0, .oth, []⟩,
⟨1, 8, .oth, [.nf]⟩,
⟨1, 0, .oth, []⟩,
⟨1, 8, .oth, [.nf]⟩,
⟨1, 8, .oth, [.nf]⟩,
⟨4, 40, .st [(0, 17), (1, 17), (2, 17), (3, 9)], [.np, .np, .np, .s]⟩,
⟨4, 40, .st [(0, 17), (1, 17), (2, 17), (3, 9)], [.np, .np, .np, .s]⟩,
⟨0, 0, .arr 0 16, []⟩,
⟨0, 0, .st [(0, 76)], []⟩,
⟨0, 0, .st [(0, 76)], []⟩,
⟨1, 8, .oth, [.nf]⟩,
⟨1, 1, .int .u8, [.i .u8]⟩,
⟨1, 1, .int .u8, [.i .u8]⟩,
⟨1, 8, .oth, [.nf]⟩,
⟨1, 8, .ptr 5, [.np]⟩,
⟨1, 4, .int .i32, [.i .i32]⟩,
⟨1, 4, .int .i32, [.i .i32]⟩,
⟨11, 48, .st [(0, 12), (1, 12), (2, 22), (3, 80), (4, 5), (5, 5), (6, 81), (7, 82), (8, 83), (9, 84), (10, 85)], [.i .u64, .i .u64, .i .u32, .i .u8, .i .u8, .i .u8, .i .u8, .nf, .np, .i .i32, .i .i32]⟩,
⟨11, 48, .st [(0, 12), (1, 12), (2, 22), (3, 80), (4, 5), (5, 5), (6, 81), (7, 82), (8, 83), (9, 84), (10, 85)], [.i .u64, .i .u64, .i .u32, .i .u8, .i .u8, .i .u8, .i .u8, .nf, .np, .i .i32, .i .i32]⟩,
⟨1, 8, .oth, [.np]⟩]
theorem TTok : TOk Try.prog TT := by unfold TOk; kernel_rfl
theorem mix : Try.prog.follows .mixedOrders = true := by kernel_rfl
structure S_api_Regs where
  fR : (Fin 8 → Int)
  fPc : Int
  fRing : Int
def cS_api_Regs (x : S_api_Regs) : List PV := [.v (.int .u32 (x.fR 0)), .v (.int .u32 (x.fR 1)), .v (.int .u32 (x.fR 2)), .v (.int .u32 (x.fR 3)), .v (.int .u32 (x.fR 4)), .v (.int .u32 (x.fR 5)), .v (.int .u32 (x.fR 6)), .v (.int .u32 (x.fR 7)), .v (.int .u32 x.fPc), .v (.int .i64 x.fRing)]
def eS_api_Regs (x : S_api_Regs) : PV := .agg (cS_api_Regs x)
structure S_ringref5_Room where
  fAt : Int
  fBytes : (List Int)
  fMay : Int
def eS_ringref5_Room (x : S_ringref5_Room) : PV := .agg [.v (.int .u32 x.fAt), .sl (x.fBytes.map (eI .u8)), .v (.int .i64 x.fMay)]
structure S_api_Trap where
  fKind : Int
  fAddr : Int
def eS_api_Trap (x : S_api_Trap) : PV := .agg [.v (.int .i64 x.fKind), .v (.int .u32 x.fAddr)]
structure S_api_Ins where
  fOp : Int
  fA : Int
  fB : Int
  fC : Int
def eS_api_Ins (x : S_api_Ins) : PV := .agg [.v (.int .i64 x.fOp), .v (.int .i64 x.fA), .v (.int .i64 x.fB), .v (.int .i64 x.fC)]

def eqS_api_Regs (x y : S_api_Regs) : Bool := ((((x.fR 0) == (y.fR 0)) && (((x.fR 1) == (y.fR 1)) && (((x.fR 2) == (y.fR 2)) && (((x.fR 3) == (y.fR 3)) && (((x.fR 4) == (y.fR 4)) && (((x.fR 5) == (y.fR 5)) && (((x.fR 6) == (y.fR 6)) && (((x.fR 7) == (y.fR 7)) && true)))))))) && ((x.fPc == y.fPc) && ((x.fRing == y.fRing) && true)))
theorem eqS_api_Regs_ok (x y : S_api_Regs) : EqA Try.prog 25 [((.int .u32 (x.fR 0))), ((.int .u32 (x.fR 1))), ((.int .u32 (x.fR 2))), ((.int .u32 (x.fR 3))), ((.int .u32 (x.fR 4))), ((.int .u32 (x.fR 5))), ((.int .u32 (x.fR 6))), ((.int .u32 (x.fR 7))), ((.int .u32 x.fPc)), ((.int .i64 x.fRing))] [((.int .u32 (y.fR 0))), ((.int .u32 (y.fR 1))), ((.int .u32 (y.fR 2))), ((.int .u32 (y.fR 3))), ((.int .u32 (y.fR 4))), ((.int .u32 (y.fR 5))), ((.int .u32 (y.fR 6))), ((.int .u32 (y.fR 7))), ((.int .u32 y.fPc)), ((.int .i64 y.fRing))] (eqS_api_Regs x y) := eqA_of TTok (by kernel_rfl) (by kernel_rfl) (by kernel_rfl)
def eqS_api_Trap (x y : S_api_Trap) : Bool := ((x.fKind == y.fKind) && ((x.fAddr == y.fAddr) && true))
theorem eqS_api_Trap_ok (x y : S_api_Trap) : EqA Try.prog 33 [((.int .i64 x.fKind)), ((.int .u32 x.fAddr))] [((.int .i64 y.fKind)), ((.int .u32 y.fAddr))] (eqS_api_Trap x y) := eqA_of TTok (by kernel_rfl) (by kernel_rfl) (by kernel_rfl)
/- (*ringhall/ringref5.Room).Load -/
def G_ringref5_Room_Load_h (n : Nat) (v_r25 : S_ringref5_Room) (v_at26 : Int) (v_want27 : Int) : Option (Int × Int × S_ringref5_Room) :=
  if (wi .u64 (wi .u32 (v_at26 - v_r25.fAt))) ≥ (wi .u64 (v_r25.fBytes.length : Int)) then
   some (0, 11, v_r25)
  else
   if (bits .andNot .i64 v_want27 v_r25.fMay) = 0 then
    if 0 ≤ (wi .u32 (v_at26 - v_r25.fAt)) ∧ ((wi .u32 (v_at26 - v_r25.fAt))).toNat < v_r25.fBytes.length then
     (v_r25.fBytes[((wi .u32 (v_at26 - v_r25.fAt))).toNat]?).bind fun (v_y28 : Int) =>
     some (v_y28, 0, v_r25)
    else none
   else
    some (0, 11, v_r25)
theorem G_ringref5_Room_Load_h_ok (n : Nat) (v_r25 : S_ringref5_Room) (v_at26 : Int) (v_want27 : Int) (r : Int × Int × S_ringref5_Room) (h : G_ringref5_Room_Load_h n v_r25 v_at26 v_want27 = some r) : RetH Try.prog 22 [.ref 0 0, .d ((eI .u32) v_at26), .d ((eI .i64) v_want27)] [.box [.d (.v (.int .u32 v_r25.fAt)), .srf 1, .d (.v (.int .i64 v_r25.fMay))], .row 5 1 (v_r25.fBytes.map (eI .u8))] (.tup [.d ((eI .u8) r.1), .d ((eI .i64) r.2.1)]) [.box [.d (.v (.int .u32 r.2.2.fAt)), .srf 2, .d (.v (.int .i64 r.2.2.fMay))], .none, .row 5 1 (r.2.2.fBytes.map (eI .u8))] := by
  refine retH_run (n := 40) (fn := Try.f22) (c := bodyOf Try.f22) (by kernel_rfl) (by kernel_rfl) (by kernel_rfl) (by kernel_rfl) ?_
  have hF : KC 40 (FinH Try.prog Try.f22 [.box [.d (.v (.int .u32 v_r25.fAt)), .srf 1, .d (.v (.int .i64 v_r25.fMay))], .row 5 1 (v_r25.fBytes.map (eI .u8))] (.tup [.d ((eI .u8) r.1), .d ((eI .i64) r.2.1)]) [.box [.d (.v (.int .u32 r.2.2.fAt)), .srf 2, .d (.v (.int .i64 r.2.2.fMay))], .none, .row 5 1 (r.2.2.fBytes.map (eI .u8))]) := FinH.kc' (by kernel_rfl)
  unfold G_ringref5_Room_Load_h at h
  by_cases h6 : (wi .u64 (wi .u32 (v_at26 - v_r25.fAt))) ≥ (wi .u64 (v_r25.fBytes.length : Int))
  · rw [if_pos h6] at h
    obtain rfl := Option.some.inj h
    exact pendH_sound TTok mix 13 (hs := [.c, .c, .u (.d (.v (.int .i64 (v_r25.fBytes.length : Int)))), .t true, .c, .c, .c, .c, .c, .c, .c, .dl 4, .mv 1]) [0, 1, 149] (by kernel_rfl) (by kernel_rfl) (by kernel_rfl) (.cons (len_ob (f := (eI .u8)) (l := v_r25.fBytes)) (.cons (dt h6) .nil))
  · rw [if_neg h6] at h
    by_cases h7 : (bits .andNot .i64 v_want27 v_r25.fMay) = 0
    · rw [if_pos h7] at h
      by_cases h8 : 0 ≤ (wi .u32 (v_at26 - v_r25.fAt)) ∧ ((wi .u32 (v_at26 - v_r25.fAt))).toNat < v_r25.fBytes.length
      · rw [if_pos h8] at h
        obtain ⟨v_y28, h9, h⟩ := bind_some h
        obtain rfl := Option.some.inj h
        exact pendH_sound TTok mix 13 (hs := [.c, .c, .u (.d (.v (.int .i64 (v_r25.fBytes.length : Int)))), .t false, .c, .c, .c, .c, .c, .c, .c, .t false, .c, .y ((eI .u8) v_y28), .dl 1, .mv 1]) [0, 1, 184] (by kernel_rfl) (by kernel_rfl) (by kernel_rfl) (.cons (len_ob (f := (eI .u8)) (l := v_r25.fBytes)) (.cons (df h6) (.cons (nf h7) (.cons (idx_ob (f := (eI .u8)) h8) (.cons (get_ob (f := (eI .u8)) h9) .nil)))))
      · rw [if_neg h8] at h; cases h
    · rw [if_neg h7] at h
      obtain rfl := Option.some.inj h
      exact pendH_sound TTok mix 13 (hs := [.c, .c, .u (.d (.v (.int .i64 (v_r25.fBytes.length : Int)))), .t false, .c, .c, .c, .c, .c, .c, .c, .t true, .dl 4, .mv 1]) [0, 1, 149] (by kernel_rfl) (by kernel_rfl) (by kernel_rfl) (.cons (len_ob (f := (eI .u8)) (l := v_r25.fBytes)) (.cons (df h6) (.cons (nt h7) .nil)))
inductive G_cpu_fetch_h_L1_R where
  | x0 (v_x55 : Int) (v_b56 : Int) (v_b57 : Int) (v_w58 : (List Int)) (v_b59 : S_api_Trap)
  | x1 (v_w60 : Int) (v_b61 : Int) (v_b62 : Int) (v_w63 : (List Int))
def G_cpu_fetch_h_L1_ex : G_cpu_fetch_h_L1_R → Ex
  | .x0 _ _ _ _ _ => .ret
  | .x1 _ _ _ _ => .exit 0
def G_cpu_fetch_h_L1_st (v_at19 : Int) (v_want20 : Int) : G_cpu_fetch_h_L1_R → PS
  | .x0 v_x55 v_b56 v_b57 v_w58 v_b59 => ⟨[dd, dd, dd, dd, dd, dd, .d (.v (.int .u32 v_x55)), .ref 7 0, dd, dd, dd, dd, dd, dd, dd, dd, dd, dd, dd, dd, dd, dd, dd, dd, dd, dd, dd, dd, dd, dd, dd, dd, dd, dd, dd, dd, dd, dd, dd, dd, dd, dd, dd, dd, dd], [.gh 0 (.srf 3), .gh 1 (.ref 4 0), .gh 2 (.srf 6), .cu (ifC 36) [.ref 4 0], .box [.d (.v (.int .u32 v_b56)), .srf 5, .d (.v (.int .i64 v_b57))], .row 5 1 (v_w58.map (eI .u8)), .none, .box [.d (.v (.int .i64 v_b59.fKind)), .d (.v (.int .u32 v_b59.fAddr))]]⟩
  | .x1 v_w60 v_b61 v_b62 v_w63 => ⟨[dd, dd, dd, dd, dd, dd, dd, .ref 7 0, .d (.v (.int .u32 v_w60)), dd, dd, dd, dd, dd, dd, dd, dd, dd, dd, dd, dd, dd, dd, dd, dd, dd, dd, dd, dd, dd, dd, dd, dd, dd, dd, dd, dd, dd, dd, dd, dd, dd, dd, dd, dd], [.gh 0 (.srf 3), .gh 1 (.ref 4 0), .gh 2 (.srf 6), .cu (ifC 36) [.ref 4 0], .box [.d (.v (.int .u32 v_b61)), .srf 5, .d (.v (.int .i64 v_b62))], .row 5 1 (v_w63.map (eI .u8)), .none, .box [.d (.v (.int .i64 0)), .d (.v (.int .u32 0))]]⟩
def G_cpu_fetch_h_L1_hd (v_at19 : Int) (v_want20 : Int) (v_w47 : Int) (v_x48 : Int) (v_b49 : Int) (v_b50 : Int) (v_w51 : (List Int)) : PS := ⟨[.srf 3, .d (.v (.int .u32 v_at19)), .d (.v (.int .i64 v_want20)), dd, dd, dd, dd, .ref 7 0, .d (.v (.int .u32 v_w47)), dd, dd, dd, dd, dd, dd, dd, dd, .d (.v (.int .u32 v_x48)), dd, dd, dd, dd, dd, dd, dd, dd, dd, dd, dd, dd, dd, dd, dd, dd, dd, dd, dd, dd, dd, dd, dd, dd, dd, dd, dd], [.gh 0 (.srf 3), .gh 1 (.ref 4 0), .gh 2 (.srf 6), .cu (ifC 36) [.ref 4 0], .box [.d (.v (.int .u32 v_b49)), .srf 5, .d (.v (.int .i64 v_b50))], .row 5 1 (v_w51.map (eI .u8)), .none, .box [.d (.v (.int .i64 0)), .d (.v (.int .u32 0))]]⟩
def G_cpu_fetch_h_L1 (n : Nat) (v_at19 : Int) (v_want20 : Int) : Nat → Int → Int → Int → Int → (List Int) → Option G_cpu_fetch_h_L1_R
  | 0, _, _, _, _, _ => none
  | k + 1, v_w47, v_x48, v_b49, v_b50, v_w51 =>
    if v_x48 < 4 then
     (G_ringref5_Room_Load_h n (S_ringref5_Room.mk v_b49 v_w51 v_b50) (wi .u32 (v_at19 + v_x48)) v_want20).bind fun (v_r54 : (Int × Int × S_ringref5_Room)) =>
     if v_r54.2.1 = 0 then
      if 0 ≤ (wi .u32 (8 * v_x48)) then
       G_cpu_fetch_h_L1 n v_at19 v_want20 k (bits .or .u32 v_w47 (shlI .u32 (wi .u32 v_r54.1) (wi .u32 (8 * v_x48)))) (wi .u32 (v_x48 + 1)) v_r54.2.2.fAt v_r54.2.2.fMay v_r54.2.2.fBytes
      else none
     else
      some (.x0 0 v_r54.2.2.fAt v_r54.2.2.fMay v_r54.2.2.fBytes (S_api_Trap.mk 2 (wi .u32 (v_at19 + v_x48))))
    else
     some (.x1 v_w47 v_b49 v_b50 v_w51)
theorem G_cpu_fetch_h_L1_ok {Fi : Ex → PS → Prop} (hF : KC 45 Fi) (ks : List Fr) (n : Nat) (v_at19 : Int) (v_want20 : Int)  : ∀ (k : Nat) (v_w47 : Int) (v_x48 : Int) (v_b49 : Int) (v_b50 : Int) (v_w51 : (List Int)) (o : G_cpu_fetch_h_L1_R), G_cpu_fetch_h_L1 n v_at19 v_want20 k v_w47 v_x48 v_b49 v_b50 v_w51 = some o → RunE Try.prog 45 Fi ks (G_cpu_fetch_h_L1_ex o) (G_cpu_fetch_h_L1_st v_at19 v_want20 o) → RunE Try.prog 45 Fi (.l k (cP (cB (cR (cL (cR (cR (cR (bodyOf Try.f10)))))))) :: ks) .normal (G_cpu_fetch_h_L1_hd v_at19 v_want20 v_w47 v_x48 v_b49 v_b50 v_w51)
  | 0, v_w47, v_x48, v_b49, v_b50, v_w51, o, h, q => by rw [G_cpu_fetch_h_L1] at h; cases h
  | k + 1, v_w47, v_x48, v_b49, v_b50, v_w51, o, h, q => by
    rw [G_cpu_fetch_h_L1] at h
    by_cases h27 : v_x48 < 4
    · rw [if_pos h27] at h
      obtain ⟨v_r54, h32, h⟩ := bind_some h
      by_cases h34 : v_r54.2.1 = 0
      · rw [if_pos h34] at h
        by_cases h35 : 0 ≤ (wi .u32 (8 * v_x48))
        · rw [if_pos h35] at h
          exact pkk_sound TTok mix hF 20 (hs := [.t true, .e 48 [3, 4, 5, 48] (.tup [.d (.v (.int .u8 v_r54.1)), .d (.v (.int .i64 v_r54.2.1))]) [(4, .box [.d (.v (.int .u32 v_r54.2.2.fAt)), .srf 48, .d (.v (.int .i64 v_r54.2.2.fMay))]), (5, .none), (48, .row 5 1 (v_r54.2.2.fBytes.map (eI .u8)))], .t false]) (ts := []) (s := [0, 1, 2, 3, 4, 48, 6, 7]) (l := [0, 1, 2, 7, 8, 17]) (by kernel_rfl) (by kernel_rfl) (.cons (dt h27) (.cons (icall (P := Try.prog) (T := TT) (x := (.tmp 21)) (args := #[(.tmp 24), (.tmp 25)]) (tys := #[22, 3]) (name := "Load") (t := 36) (l := 4) (off := 0) (I := 3) (vs := [.d (.v (.int .u32 (wi .u32 (v_at19 + v_x48)))), .d (.v (.int .i64 v_want20))]) (ms := [(4, .box [.d (.v (.int .u32 v_b49)), .srf 5, .d (.v (.int .i64 v_b50))]), (5, .row 5 1 (v_w51.map (eI .u8)))]) (g := 22) (τ := [4, 5, 48]) (m2 := [.box [.d (.v (.int .u32 v_r54.2.2.fAt)), .srf 2, .d (.v (.int .i64 v_r54.2.2.fMay))], .none, .row 5 1 (v_r54.2.2.fBytes.map (eI .u8))]) (r := .tup [.d (.v (.int .u8 v_r54.1)), .d (.v (.int .i64 v_r54.2.1))]) (nl := 48) (by kernel_rfl) rfl rfl rfl rfl (Nat.le_of_ble_eq_true rfl) (G_ringref5_Room_Load_h_ok n (S_ringref5_Room.mk v_b49 v_w51 v_b50) (wi .u32 (v_at19 + v_x48)) v_want20 _ h32)) (.cons (nf h34) (.cons h35 .nil)))) (G_cpu_fetch_h_L1_ok hF ks n v_at19 v_want20 k (bits .or .u32 v_w47 (shlI .u32 (wi .u32 v_r54.1) (wi .u32 (8 * v_x48)))) (wi .u32 (v_x48 + 1)) v_r54.2.2.fAt v_r54.2.2.fMay v_r54.2.2.fBytes _ h q)
        · rw [if_neg h35] at h; cases h
      · rw [if_neg h34] at h
        cases h
        exact pkk_sound TTok mix hF 23 (hs := [.t true, .e 48 [3, 4, 5, 48] (.tup [.d (.v (.int .u8 v_r54.1)), .d (.v (.int .i64 v_r54.2.1))]) [(4, .box [.d (.v (.int .u32 v_r54.2.2.fAt)), .srf 48, .d (.v (.int .i64 v_r54.2.2.fMay))]), (5, .none), (48, .row 5 1 (v_r54.2.2.fBytes.map (eI .u8)))], .t true, .c]) (ts := []) (s := [0, 1, 2, 3, 4, 48, 6, 7]) (l := [6, 7]) (by kernel_rfl) (by kernel_rfl) (.cons (dt h27) (.cons (icall (P := Try.prog) (T := TT) (x := (.tmp 21)) (args := #[(.tmp 24), (.tmp 25)]) (tys := #[22, 3]) (name := "Load") (t := 36) (l := 4) (off := 0) (I := 3) (vs := [.d (.v (.int .u32 (wi .u32 (v_at19 + v_x48)))), .d (.v (.int .i64 v_want20))]) (ms := [(4, .box [.d (.v (.int .u32 v_b49)), .srf 5, .d (.v (.int .i64 v_b50))]), (5, .row 5 1 (v_w51.map (eI .u8)))]) (g := 22) (τ := [4, 5, 48]) (m2 := [.box [.d (.v (.int .u32 v_r54.2.2.fAt)), .srf 2, .d (.v (.int .i64 v_r54.2.2.fMay))], .none, .row 5 1 (v_r54.2.2.fBytes.map (eI .u8))]) (r := .tup [.d (.v (.int .u8 v_r54.1)), .d (.v (.int .i64 v_r54.2.1))]) (nl := 48) (by kernel_rfl) rfl rfl rfl rfl (Nat.le_of_ble_eq_true rfl) (G_ringref5_Room_Load_h_ok n (S_ringref5_Room.mk v_b49 v_w51 v_b50) (wi .u32 (v_at19 + v_x48)) v_want20 _ h32)) (.cons (nt h34) (.cons (show 0 + 2 ≤ 2 by decide) .nil)))) q
    · rw [if_neg h27] at h
      cases h
      exact pkk_sound TTok mix hF 8 (hs := [.t false]) (ts := []) (s := [0, 1, 2, 3, 4, 5, 6, 7]) (l := [7, 8]) (by kernel_rfl) (by kernel_rfl) (.cons (df h27) .nil) q
/- ringhall/cpu.fetch -/
def G_cpu_fetch_h (n : Nat) (v_b18 : S_ringref5_Room) (v_at19 : Int) (v_want20 : Int) : Option (Int × S_api_Trap × S_ringref5_Room) :=
  if (remI v_at19 4) = 0 then
   (G_cpu_fetch_h_L1 n v_at19 v_want20 n 0 0 v_b18.fAt v_b18.fMay v_b18.fBytes).bind fun v_o64 => match v_o64 with
   | .x0 v_z65 v_z66 v_z67 v_z68 v_z69 =>
     some (v_z65, v_z69, (S_ringref5_Room.mk v_z66 v_z68 v_z67))
   | .x1 v_z70 v_z71 v_z72 v_z73 =>
     some (v_z70, (S_api_Trap.mk 0 0), (S_ringref5_Room.mk v_z71 v_z73 v_z72))
  else
   some (0, (S_api_Trap.mk 2 v_at19), v_b18)
theorem G_cpu_fetch_h_ok (n : Nat) (v_b18 : S_ringref5_Room) (v_at19 : Int) (v_want20 : Int) (r : Int × S_api_Trap × S_ringref5_Room) (h : G_cpu_fetch_h n v_b18 v_at19 v_want20 = some r) : RetH Try.prog 10 [.srf 0, .d ((eI .u32) v_at19), .d ((eI .i64) v_want20)] [.cu (ifC 36) [.ref 1 0], .box [.d (.v (.int .u32 v_b18.fAt)), .srf 2, .d (.v (.int .i64 v_b18.fMay))], .row 5 1 (v_b18.fBytes.map (eI .u8))] (.tup [.d ((eI .u32) r.1), .d (eS_api_Trap r.2.1)]) [.cu (ifC 36) [.ref 1 0], .box [.d (.v (.int .u32 r.2.2.fAt)), .srf 3, .d (.v (.int .i64 r.2.2.fMay))], .none, .row 5 1 (r.2.2.fBytes.map (eI .u8))] := by
  refine retH_run (n := 45) (fn := Try.f10) (c := bodyOf Try.f10) (by kernel_rfl) (by kernel_rfl) (by kernel_rfl) (by kernel_rfl) ?_
  have hF : KC 45 (FinH Try.prog Try.f10 [.cu (ifC 36) [.ref 1 0], .box [.d (.v (.int .u32 v_b18.fAt)), .srf 2, .d (.v (.int .i64 v_b18.fMay))], .row 5 1 (v_b18.fBytes.map (eI .u8))] (.tup [.d ((eI .u32) r.1), .d (eS_api_Trap r.2.1)]) [.cu (ifC 36) [.ref 1 0], .box [.d (.v (.int .u32 r.2.2.fAt)), .srf 3, .d (.v (.int .i64 r.2.2.fMay))], .none, .row 5 1 (r.2.2.fBytes.map (eI .u8))]) := FinH.kc' (by kernel_rfl)
  unfold G_cpu_fetch_h at h
  by_cases h3 : (remI v_at19 4) = 0
  · rw [if_pos h3] at h
    obtain ⟨v_o64, h36, h⟩ := bind_some h
    refine pkk_sound TTok mix hF 15 (hs := [.t false, .dl 7, .mv 2, .n n]) (ts := []) (s := [3, 4, 5, 0, 1, 41, 2, 11]) (l := [0, 1, 2, 7, 8, 17]) (by kernel_rfl) (by kernel_rfl) (.cons (show (4 : Int) ≠ 0 by decide) (.cons (nf h3) .nil)) (G_cpu_fetch_h_L1_ok hF (.b 0 :: .s (cR (cR (cR (cR (bodyOf Try.f10))))) :: []) n v_at19 v_want20 n 0 0 v_b18.fAt v_b18.fMay v_b18.fBytes _ h36 ?_)
    cases v_o64 with
    | x0 v_z65 v_z66 v_z67 v_z68 v_z69 =>
      try dsimp only at h
      obtain rfl := Option.some.inj h
      exact pendH_sound TTok mix 2 (hs := []) [3, 4, 6, 5] (by kernel_rfl) (by kernel_rfl) (by kernel_rfl) .nil
    | x1 v_z70 v_z71 v_z72 v_z73 =>
      try dsimp only at h
      obtain rfl := Option.some.inj h
      exact pendH_sound TTok mix 4 (hs := [.c]) [3, 4, 6, 5] (by kernel_rfl) (by kernel_rfl) (by kernel_rfl) (.cons (show 0 + 2 ≤ 2 by decide) .nil)
  · rw [if_neg h3] at h
    obtain rfl := Option.some.inj h
    exact pendH_sound TTok mix 11 (hs := [.t true, .c, .dl 2, .mv 2]) [0, 1, 2, 51] (by kernel_rfl) (by kernel_rfl) (by kernel_rfl) (.cons (show (4 : Int) ≠ 0 by decide) (.cons (nt h3) (.cons (show 0 + 2 ≤ 2 by decide) .nil)))
/- ringhall/code.later -/
def G_code_later (n : Nat) (v_op88 : Int) : Option (ByteArray × Int) :=
  if v_op88 = 14 then
   some ((ByteArray.mk #[112, 108, 117, 115]), 7)
  else
   if v_op88 = 15 then
    some ((ByteArray.mk #[108, 111, 97, 100]), 7)
   else
    if v_op88 = 16 then
     some ((ByteArray.mk #[108, 111, 97, 100, 98]), 7)
    else
     if v_op88 = 17 then
      some ((ByteArray.mk #[115, 116, 111, 114, 101]), 7)
     else
      if v_op88 = 18 then
       some ((ByteArray.mk #[115, 116, 111, 114, 101, 98]), 7)
      else
       if v_op88 = 19 then
        some ((ByteArray.mk #[106, 117, 109, 112]), 4)
       else
        if v_op88 = 20 then
         some ((ByteArray.mk #[122, 101, 114, 111]), 5)
        else
         if v_op88 = 21 then
          some ((ByteArray.mk #[108, 101, 115, 115]), 7)
         else
          if v_op88 = 22 then
           some ((ByteArray.mk #[99, 97, 108, 108]), 5)
          else
           if v_op88 = 23 then
            some ((ByteArray.mk #[98, 97, 99, 107]), 1)
           else
            if v_op88 = 24 then
             some ((ByteArray.mk #[115, 121, 115]), 0)
            else
             if v_op88 = 25 then
              some ((ByteArray.mk #[115, 119, 97, 112]), 7)
             else
              if v_op88 = 26 then
               some ((ByteArray.mk #[104, 111, 109, 101]), 1)
              else
               some ((ByteArray.mk #[]), 0)
theorem G_code_later_ok (n : Nat) (v_op88 : Int) (r : ByteArray × Int) (h : G_code_later n v_op88 = some r) : Ret Try.prog 28 [(eI .i64) v_op88] (.tup [eS r.1, (eI .i64) r.2]) := by
  refine ret_run (n := 31) (fn := Try.f28) (c := bodyOf Try.f28) (by kernel_rfl) (by kernel_rfl) (by kernel_rfl) (by kernel_rfl) ?_
  have hF : KC 31 (FinR Try.prog Try.f28 (.tup [eS r.1, (eI .i64) r.2])) := FinR.kc' (by kernel_rfl)
  unfold G_code_later at h
  by_cases h365 : v_op88 = 14
  · rw [if_pos h365] at h
    obtain rfl := Option.some.inj h
    exact pend_sound TTok mix 14 (hs := [.t true]) (by kernel_rfl) (by kernel_rfl) (by kernel_rfl) (.cons (bt h365) .nil)
  · rw [if_neg h365] at h
    by_cases h378 : v_op88 = 15
    · rw [if_pos h378] at h
      obtain rfl := Option.some.inj h
      exact pend_sound TTok mix 17 (hs := [.t false, .t true]) (by kernel_rfl) (by kernel_rfl) (by kernel_rfl) (.cons (bf h365) (.cons (bt h378) .nil))
    · rw [if_neg h378] at h
      by_cases h390 : v_op88 = 16
      · rw [if_pos h390] at h
        obtain rfl := Option.some.inj h
        exact pend_sound TTok mix 20 (hs := [.t false, .t false, .t true]) (by kernel_rfl) (by kernel_rfl) (by kernel_rfl) (.cons (bf h365) (.cons (bf h378) (.cons (bt h390) .nil)))
      · rw [if_neg h390] at h
        by_cases h401 : v_op88 = 17
        · rw [if_pos h401] at h
          obtain rfl := Option.some.inj h
          exact pend_sound TTok mix 23 (hs := [.t false, .t false, .t false, .t true]) (by kernel_rfl) (by kernel_rfl) (by kernel_rfl) (.cons (bf h365) (.cons (bf h378) (.cons (bf h390) (.cons (bt h401) .nil))))
        · rw [if_neg h401] at h
          by_cases h411 : v_op88 = 18
          · rw [if_pos h411] at h
            obtain rfl := Option.some.inj h
            exact pend_sound TTok mix 26 (hs := [.t false, .t false, .t false, .t false, .t true]) (by kernel_rfl) (by kernel_rfl) (by kernel_rfl) (.cons (bf h365) (.cons (bf h378) (.cons (bf h390) (.cons (bf h401) (.cons (bt h411) .nil)))))
          · rw [if_neg h411] at h
            by_cases h420 : v_op88 = 19
            · rw [if_pos h420] at h
              obtain rfl := Option.some.inj h
              exact pend_sound TTok mix 29 (hs := [.t false, .t false, .t false, .t false, .t false, .t true]) (by kernel_rfl) (by kernel_rfl) (by kernel_rfl) (.cons (bf h365) (.cons (bf h378) (.cons (bf h390) (.cons (bf h401) (.cons (bf h411) (.cons (bt h420) .nil))))))
            · rw [if_neg h420] at h
              by_cases h428 : v_op88 = 20
              · rw [if_pos h428] at h
                obtain rfl := Option.some.inj h
                exact pend_sound TTok mix 32 (hs := [.t false, .t false, .t false, .t false, .t false, .t false, .t true]) (by kernel_rfl) (by kernel_rfl) (by kernel_rfl) (.cons (bf h365) (.cons (bf h378) (.cons (bf h390) (.cons (bf h401) (.cons (bf h411) (.cons (bf h420) (.cons (bt h428) .nil)))))))
              · rw [if_neg h428] at h
                by_cases h435 : v_op88 = 21
                · rw [if_pos h435] at h
                  obtain rfl := Option.some.inj h
                  exact pend_sound TTok mix 35 (hs := [.t false, .t false, .t false, .t false, .t false, .t false, .t false, .t true]) (by kernel_rfl) (by kernel_rfl) (by kernel_rfl) (.cons (bf h365) (.cons (bf h378) (.cons (bf h390) (.cons (bf h401) (.cons (bf h411) (.cons (bf h420) (.cons (bf h428) (.cons (bt h435) .nil))))))))
                · rw [if_neg h435] at h
                  by_cases h441 : v_op88 = 22
                  · rw [if_pos h441] at h
                    obtain rfl := Option.some.inj h
                    exact pend_sound TTok mix 38 (hs := [.t false, .t false, .t false, .t false, .t false, .t false, .t false, .t false, .t true]) (by kernel_rfl) (by kernel_rfl) (by kernel_rfl) (.cons (bf h365) (.cons (bf h378) (.cons (bf h390) (.cons (bf h401) (.cons (bf h411) (.cons (bf h420) (.cons (bf h428) (.cons (bf h435) (.cons (bt h441) .nil)))))))))
                  · rw [if_neg h441] at h
                    by_cases h446 : v_op88 = 23
                    · rw [if_pos h446] at h
                      obtain rfl := Option.some.inj h
                      exact pend_sound TTok mix 41 (hs := [.t false, .t false, .t false, .t false, .t false, .t false, .t false, .t false, .t false, .t true]) (by kernel_rfl) (by kernel_rfl) (by kernel_rfl) (.cons (bf h365) (.cons (bf h378) (.cons (bf h390) (.cons (bf h401) (.cons (bf h411) (.cons (bf h420) (.cons (bf h428) (.cons (bf h435) (.cons (bf h441) (.cons (bt h446) .nil))))))))))
                    · rw [if_neg h446] at h
                      by_cases h450 : v_op88 = 24
                      · rw [if_pos h450] at h
                        obtain rfl := Option.some.inj h
                        exact pend_sound TTok mix 44 (hs := [.t false, .t false, .t false, .t false, .t false, .t false, .t false, .t false, .t false, .t false, .t true]) (by kernel_rfl) (by kernel_rfl) (by kernel_rfl) (.cons (bf h365) (.cons (bf h378) (.cons (bf h390) (.cons (bf h401) (.cons (bf h411) (.cons (bf h420) (.cons (bf h428) (.cons (bf h435) (.cons (bf h441) (.cons (bf h446) (.cons (bt h450) .nil)))))))))))
                      · rw [if_neg h450] at h
                        by_cases h453 : v_op88 = 25
                        · rw [if_pos h453] at h
                          obtain rfl := Option.some.inj h
                          exact pend_sound TTok mix 47 (hs := [.t false, .t false, .t false, .t false, .t false, .t false, .t false, .t false, .t false, .t false, .t false, .t true]) (by kernel_rfl) (by kernel_rfl) (by kernel_rfl) (.cons (bf h365) (.cons (bf h378) (.cons (bf h390) (.cons (bf h401) (.cons (bf h411) (.cons (bf h420) (.cons (bf h428) (.cons (bf h435) (.cons (bf h441) (.cons (bf h446) (.cons (bf h450) (.cons (bt h453) .nil))))))))))))
                        · rw [if_neg h453] at h
                          by_cases h454 : v_op88 = 26
                          · rw [if_pos h454] at h
                            obtain rfl := Option.some.inj h
                            exact pend_sound TTok mix 50 (hs := [.t false, .t false, .t false, .t false, .t false, .t false, .t false, .t false, .t false, .t false, .t false, .t false, .t true]) (by kernel_rfl) (by kernel_rfl) (by kernel_rfl) (.cons (bf h365) (.cons (bf h378) (.cons (bf h390) (.cons (bf h401) (.cons (bf h411) (.cons (bf h420) (.cons (bf h428) (.cons (bf h435) (.cons (bf h441) (.cons (bf h446) (.cons (bf h450) (.cons (bf h453) (.cons (bt h454) .nil)))))))))))))
                          · rw [if_neg h454] at h
                            obtain rfl := Option.some.inj h
                            exact pend_sound TTok mix 50 (hs := [.t false, .t false, .t false, .t false, .t false, .t false, .t false, .t false, .t false, .t false, .t false, .t false, .t false]) (by kernel_rfl) (by kernel_rfl) (by kernel_rfl) (.cons (bf h365) (.cons (bf h378) (.cons (bf h390) (.cons (bf h401) (.cons (bf h411) (.cons (bf h420) (.cons (bf h428) (.cons (bf h435) (.cons (bf h441) (.cons (bf h446) (.cons (bf h450) (.cons (bf h453) (.cons (bf h454) .nil)))))))))))))
/- ringhall/code.row -/
def G_code_row (n : Nat) (v_op87 : Int) : Option (ByteArray × Int) :=
  if v_op87 = 1 then
   some ((ByteArray.mk #[104, 97, 108, 116]), 0)
  else
   if v_op87 = 2 then
    some ((ByteArray.mk #[115, 101, 116]), 5)
   else
    if v_op87 = 3 then
     some ((ByteArray.mk #[104, 105, 103, 104]), 5)
    else
     if v_op87 = 4 then
      some ((ByteArray.mk #[109, 111, 118, 101]), 3)
     else
      if v_op87 = 5 then
       some ((ByteArray.mk #[97, 100, 100]), 3)
      else
       if v_op87 = 6 then
        some ((ByteArray.mk #[115, 117, 98]), 3)
       else
        if v_op87 = 7 then
         some ((ByteArray.mk #[109, 117, 108]), 3)
        else
         if v_op87 = 8 then
          some ((ByteArray.mk #[100, 105, 118]), 3)
         else
          if v_op87 = 9 then
           some ((ByteArray.mk #[97, 110, 100]), 3)
          else
           if v_op87 = 10 then
            some ((ByteArray.mk #[111, 114]), 3)
           else
            if v_op87 = 11 then
             some ((ByteArray.mk #[120, 111, 114]), 3)
            else
             if v_op87 = 12 then
              some ((ByteArray.mk #[108, 101, 102, 116]), 3)
             else
              if v_op87 = 13 then
               some ((ByteArray.mk #[114, 105, 103, 104, 116]), 3)
              else
               (G_code_later n v_op87).bind fun (v_r89 : (ByteArray × Int)) =>
               some (v_r89.1, v_r89.2)
theorem G_code_row_ok (n : Nat) (v_op87 : Int) (r : ByteArray × Int) (h : G_code_row n v_op87 = some r) : Ret Try.prog 26 [(eI .i64) v_op87] (.tup [eS r.1, (eI .i64) r.2]) := by
  refine ret_run (n := 35) (fn := Try.f26) (c := bodyOf Try.f26) (by kernel_rfl) (by kernel_rfl) (by kernel_rfl) (by kernel_rfl) ?_
  have hF : KC 35 (FinR Try.prog Try.f26 (.tup [eS r.1, (eI .i64) r.2])) := FinR.kc' (by kernel_rfl)
  unfold G_code_row at h
  by_cases h159 : v_op87 = 1
  · rw [if_pos h159] at h
    obtain rfl := Option.some.inj h
    exact pend_sound TTok mix 14 (hs := [.t true]) (by kernel_rfl) (by kernel_rfl) (by kernel_rfl) (.cons (bt h159) .nil)
  · rw [if_neg h159] at h
    by_cases h172 : v_op87 = 2
    · rw [if_pos h172] at h
      obtain rfl := Option.some.inj h
      exact pend_sound TTok mix 17 (hs := [.t false, .t true]) (by kernel_rfl) (by kernel_rfl) (by kernel_rfl) (.cons (bf h159) (.cons (bt h172) .nil))
    · rw [if_neg h172] at h
      by_cases h184 : v_op87 = 3
      · rw [if_pos h184] at h
        obtain rfl := Option.some.inj h
        exact pend_sound TTok mix 20 (hs := [.t false, .t false, .t true]) (by kernel_rfl) (by kernel_rfl) (by kernel_rfl) (.cons (bf h159) (.cons (bf h172) (.cons (bt h184) .nil)))
      · rw [if_neg h184] at h
        by_cases h195 : v_op87 = 4
        · rw [if_pos h195] at h
          obtain rfl := Option.some.inj h
          exact pend_sound TTok mix 23 (hs := [.t false, .t false, .t false, .t true]) (by kernel_rfl) (by kernel_rfl) (by kernel_rfl) (.cons (bf h159) (.cons (bf h172) (.cons (bf h184) (.cons (bt h195) .nil))))
        · rw [if_neg h195] at h
          by_cases h205 : v_op87 = 5
          · rw [if_pos h205] at h
            obtain rfl := Option.some.inj h
            exact pend_sound TTok mix 26 (hs := [.t false, .t false, .t false, .t false, .t true]) (by kernel_rfl) (by kernel_rfl) (by kernel_rfl) (.cons (bf h159) (.cons (bf h172) (.cons (bf h184) (.cons (bf h195) (.cons (bt h205) .nil)))))
          · rw [if_neg h205] at h
            by_cases h214 : v_op87 = 6
            · rw [if_pos h214] at h
              obtain rfl := Option.some.inj h
              exact pend_sound TTok mix 29 (hs := [.t false, .t false, .t false, .t false, .t false, .t true]) (by kernel_rfl) (by kernel_rfl) (by kernel_rfl) (.cons (bf h159) (.cons (bf h172) (.cons (bf h184) (.cons (bf h195) (.cons (bf h205) (.cons (bt h214) .nil))))))
            · rw [if_neg h214] at h
              by_cases h222 : v_op87 = 7
              · rw [if_pos h222] at h
                obtain rfl := Option.some.inj h
                exact pend_sound TTok mix 32 (hs := [.t false, .t false, .t false, .t false, .t false, .t false, .t true]) (by kernel_rfl) (by kernel_rfl) (by kernel_rfl) (.cons (bf h159) (.cons (bf h172) (.cons (bf h184) (.cons (bf h195) (.cons (bf h205) (.cons (bf h214) (.cons (bt h222) .nil)))))))
              · rw [if_neg h222] at h
                by_cases h229 : v_op87 = 8
                · rw [if_pos h229] at h
                  obtain rfl := Option.some.inj h
                  exact pend_sound TTok mix 35 (hs := [.t false, .t false, .t false, .t false, .t false, .t false, .t false, .t true]) (by kernel_rfl) (by kernel_rfl) (by kernel_rfl) (.cons (bf h159) (.cons (bf h172) (.cons (bf h184) (.cons (bf h195) (.cons (bf h205) (.cons (bf h214) (.cons (bf h222) (.cons (bt h229) .nil))))))))
                · rw [if_neg h229] at h
                  by_cases h235 : v_op87 = 9
                  · rw [if_pos h235] at h
                    obtain rfl := Option.some.inj h
                    exact pend_sound TTok mix 38 (hs := [.t false, .t false, .t false, .t false, .t false, .t false, .t false, .t false, .t true]) (by kernel_rfl) (by kernel_rfl) (by kernel_rfl) (.cons (bf h159) (.cons (bf h172) (.cons (bf h184) (.cons (bf h195) (.cons (bf h205) (.cons (bf h214) (.cons (bf h222) (.cons (bf h229) (.cons (bt h235) .nil)))))))))
                  · rw [if_neg h235] at h
                    by_cases h240 : v_op87 = 10
                    · rw [if_pos h240] at h
                      obtain rfl := Option.some.inj h
                      exact pend_sound TTok mix 41 (hs := [.t false, .t false, .t false, .t false, .t false, .t false, .t false, .t false, .t false, .t true]) (by kernel_rfl) (by kernel_rfl) (by kernel_rfl) (.cons (bf h159) (.cons (bf h172) (.cons (bf h184) (.cons (bf h195) (.cons (bf h205) (.cons (bf h214) (.cons (bf h222) (.cons (bf h229) (.cons (bf h235) (.cons (bt h240) .nil))))))))))
                    · rw [if_neg h240] at h
                      by_cases h244 : v_op87 = 11
                      · rw [if_pos h244] at h
                        obtain rfl := Option.some.inj h
                        exact pend_sound TTok mix 44 (hs := [.t false, .t false, .t false, .t false, .t false, .t false, .t false, .t false, .t false, .t false, .t true]) (by kernel_rfl) (by kernel_rfl) (by kernel_rfl) (.cons (bf h159) (.cons (bf h172) (.cons (bf h184) (.cons (bf h195) (.cons (bf h205) (.cons (bf h214) (.cons (bf h222) (.cons (bf h229) (.cons (bf h235) (.cons (bf h240) (.cons (bt h244) .nil)))))))))))
                      · rw [if_neg h244] at h
                        by_cases h247 : v_op87 = 12
                        · rw [if_pos h247] at h
                          obtain rfl := Option.some.inj h
                          exact pend_sound TTok mix 47 (hs := [.t false, .t false, .t false, .t false, .t false, .t false, .t false, .t false, .t false, .t false, .t false, .t true]) (by kernel_rfl) (by kernel_rfl) (by kernel_rfl) (.cons (bf h159) (.cons (bf h172) (.cons (bf h184) (.cons (bf h195) (.cons (bf h205) (.cons (bf h214) (.cons (bf h222) (.cons (bf h229) (.cons (bf h235) (.cons (bf h240) (.cons (bf h244) (.cons (bt h247) .nil))))))))))))
                        · rw [if_neg h247] at h
                          by_cases h248 : v_op87 = 13
                          · rw [if_pos h248] at h
                            obtain rfl := Option.some.inj h
                            exact pend_sound TTok mix 50 (hs := [.t false, .t false, .t false, .t false, .t false, .t false, .t false, .t false, .t false, .t false, .t false, .t false, .t true]) (by kernel_rfl) (by kernel_rfl) (by kernel_rfl) (.cons (bf h159) (.cons (bf h172) (.cons (bf h184) (.cons (bf h195) (.cons (bf h205) (.cons (bf h214) (.cons (bf h222) (.cons (bf h229) (.cons (bf h235) (.cons (bf h240) (.cons (bf h244) (.cons (bf h247) (.cons (bt h248) .nil)))))))))))))
                          · rw [if_neg h248] at h
                            obtain ⟨v_r89, h455, h⟩ := bind_some h
                            obtain rfl := Option.some.inj h
                            exact pend_sound TTok mix 50 (hs := [.t false, .t false, .t false, .t false, .t false, .t false, .t false, .t false, .t false, .t false, .t false, .t false, .t false, .r (.tup [eS v_r89.1, (eI .i64) v_r89.2])]) (by kernel_rfl) (by kernel_rfl) (by kernel_rfl) (.cons (bf h159) (.cons (bf h172) (.cons (bf h184) (.cons (bf h195) (.cons (bf h205) (.cons (bf h214) (.cons (bf h222) (.cons (bf h229) (.cons (bf h235) (.cons (bf h240) (.cons (bf h244) (.cons (bf h247) (.cons (bf h248) (.cons (G_code_later_ok n v_op87 _ h455) .nil))))))))))))))
inductive G_code_Encode_C1_R where
  | x0 (v_x196 : Bool)
def G_code_Encode_C1_ex : G_code_Encode_C1_R → Ex
  | .x0 _ => .normal
def G_code_Encode_C1_st (v_r90 : (ByteArray × Int)) (v_i84 : S_api_Ins) : G_code_Encode_C1_R → PS
  | .x0 v_x196 => ⟨[dd, .ref 0 0, dd, dd, dd, .d (.v (.int .i64 v_r90.2)), dd, dd, dd, dd, dd, dd, dd, dd, dd, .d (.v (.bool v_x196)), dd, dd, dd, dd, dd, dd, dd, dd, dd, dd, dd, dd, dd, dd, dd, dd, dd, dd, dd, dd, dd, dd, dd, dd, dd, dd, dd, dd, dd, dd, dd, dd, dd, dd, dd, dd, dd, dd, dd, dd, dd, dd, dd, dd, dd, dd, dd, dd, dd, dd, dd, dd, dd, dd, dd, dd, dd, dd, dd, dd, dd, dd, dd, dd, dd, dd, dd, dd, dd, dd, dd, dd, dd, dd, dd, dd], [.box [.d (.v (.int .i64 v_i84.fOp)), .d (.v (.int .i64 v_i84.fA)), .d (.v (.int .i64 v_i84.fB)), .d (.v (.int .i64 v_i84.fC))]]⟩
def G_code_Encode_C1_hd (v_r90 : (ByteArray × Int)) (v_i84 : S_api_Ins)  : PS := ⟨[dd, .ref 0 0, dd, dd, dd, .d (.v (.int .i64 v_r90.2)), dd, dd, dd, dd, dd, dd, dd, dd, dd, dd, dd, dd, dd, dd, dd, dd, dd, dd, dd, dd, dd, dd, dd, dd, dd, dd, dd, dd, dd, dd, dd, dd, dd, dd, dd, dd, dd, dd, dd, dd, dd, dd, dd, dd, dd, dd, dd, dd, dd, dd, dd, dd, dd, dd, dd, dd, dd, dd, dd, dd, dd, dd, dd, dd, dd, dd, dd, dd, dd, dd, dd, dd, dd, dd, dd, dd, dd, dd, dd, dd, dd, dd, dd, dd, dd, dd], [.box [.d (.v (.int .i64 v_i84.fOp)), .d (.v (.int .i64 v_i84.fA)), .d (.v (.int .i64 v_i84.fB)), .d (.v (.int .i64 v_i84.fC))]]⟩
def G_code_Encode_C1 (n : Nat) (v_r90 : (ByteArray × Int)) (v_i84 : S_api_Ins) : Option G_code_Encode_C1_R :=
  if v_i84.fA < 0 then
   some (.x0 true)
  else
   if v_i84.fA ≥ 8 then
    some (.x0 true)
   else
    if v_i84.fB < 0 then
     some (.x0 true)
    else
     if v_i84.fB ≥ 8 then
      some (.x0 true)
     else
      if v_i84.fC < (-32768) then
       some (.x0 true)
      else
       some (.x0 (decide (v_i84.fC > 32767)))
theorem G_code_Encode_C1_ok {Fi : Ex → PS → Prop} (hF : KC 92 Fi) (ks : List Fr) (n : Nat) (v_r90 : (ByteArray × Int)) (v_i84 : S_api_Ins)  (o : G_code_Encode_C1_R) (h : G_code_Encode_C1 n v_r90 v_i84 = some o) (q : RunE Try.prog 92 Fi ks (G_code_Encode_C1_ex o) (G_code_Encode_C1_st v_r90 v_i84 o)) : RunE Try.prog 92 Fi (.s (cL (cF (cR (cB (cL (cR (cR (bodyOf Try.f20)))))))) :: ks) .normal (G_code_Encode_C1_hd v_r90 v_i84) := by
  unfold G_code_Encode_C1 at h
  by_cases h591 : v_i84.fA < 0
  · rw [if_pos h591] at h
    cases h
    exact pkk_sound TTok mix hF 1 (hs := [.c, .t true, .c, .c, .c, .c, .c, .c, .c, .c, .c, .c, .c, .c, .c, .c]) (ts := []) (s := [0]) (l := [1, 5, 15]) (by kernel_rfl) (by kernel_rfl) (.cons (dt h591) .nil) q
  · rw [if_neg h591] at h
    by_cases h592 : v_i84.fA ≥ 8
    · rw [if_pos h592] at h
      cases h
      exact pkk_sound TTok mix hF 1 (hs := [.c, .t false, .c, .c, .c, .t true, .c, .c, .c, .c, .c, .c, .c, .c, .c, .c, .c]) (ts := []) (s := [0]) (l := [1, 5, 15]) (by kernel_rfl) (by kernel_rfl) (.cons (df h591) (.cons (dt h592) .nil)) q
    · rw [if_neg h592] at h
      by_cases h593 : v_i84.fB < 0
      · rw [if_pos h593] at h
        cases h
        exact pkk_sound TTok mix hF 1 (hs := [.c, .t false, .c, .c, .c, .t false, .c, .c, .c, .t true, .c, .c, .c, .c, .c, .c, .c, .c]) (ts := []) (s := [0]) (l := [1, 5, 15]) (by kernel_rfl) (by kernel_rfl) (.cons (df h591) (.cons (df h592) (.cons (dt h593) .nil))) q
      · rw [if_neg h593] at h
        by_cases h594 : v_i84.fB ≥ 8
        · rw [if_pos h594] at h
          cases h
          exact pkk_sound TTok mix hF 1 (hs := [.c, .t false, .c, .c, .c, .t false, .c, .c, .c, .t false, .c, .c, .c, .t true, .c, .c, .c, .c, .c]) (ts := []) (s := [0]) (l := [1, 5, 15]) (by kernel_rfl) (by kernel_rfl) (.cons (df h591) (.cons (df h592) (.cons (df h593) (.cons (dt h594) .nil)))) q
        · rw [if_neg h594] at h
          by_cases h595 : v_i84.fC < (-32768)
          · rw [if_pos h595] at h
            cases h
            exact pkk_sound TTok mix hF 1 (hs := [.c, .t false, .c, .c, .c, .t false, .c, .c, .c, .t false, .c, .c, .c, .t false, .c, .c, .c, .t true, .c, .c]) (ts := []) (s := [0]) (l := [1, 5, 15]) (by kernel_rfl) (by kernel_rfl) (.cons (df h591) (.cons (df h592) (.cons (df h593) (.cons (df h594) (.cons (dt h595) .nil))))) q
          · rw [if_neg h595] at h
            cases h
            exact pkk_sound TTok mix hF 1 (hs := [.c, .t false, .c, .c, .c, .t false, .c, .c, .c, .t false, .c, .c, .c, .t false, .c, .c, .c, .t false, .c, .c, .c]) (ts := []) (s := [0]) (l := [1, 5, 15]) (by kernel_rfl) (by kernel_rfl) (.cons (df h591) (.cons (df h592) (.cons (df h593) (.cons (df h594) (.cons (df h595) .nil))))) q
inductive G_code_Encode_C2_R where
  | x0 (v_x228 : Bool)
def G_code_Encode_C2_ex : G_code_Encode_C2_R → Ex
  | .x0 _ => .normal
def G_code_Encode_C2_st (v_r90 : (ByteArray × Int)) (v_i84 : S_api_Ins) : G_code_Encode_C2_R → PS
  | .x0 v_x228 => ⟨[dd, .ref 0 0, dd, dd, dd, dd, dd, dd, dd, dd, dd, dd, dd, dd, dd, dd, dd, dd, dd, dd, dd, dd, dd, dd, dd, dd, dd, dd, dd, dd, dd, dd, dd, dd, dd, dd, dd, dd, dd, dd, dd, dd, dd, dd, .d (.v (.bool v_x228)), dd, dd, dd, dd, dd, dd, dd, dd, dd, dd, dd, dd, dd, dd, dd, dd, dd, dd, dd, dd, dd, dd, dd, dd, dd, dd, dd, dd, dd, dd, dd, dd, dd, dd, dd, dd, dd, dd, dd, dd, dd, dd, dd, dd, dd, dd, dd], [.box [.d (.v (.int .i64 v_i84.fOp)), .d (.v (.int .i64 v_i84.fA)), .d (.v (.int .i64 v_i84.fB)), .d (.v (.int .i64 v_i84.fC))]]⟩
def G_code_Encode_C2_hd (v_r90 : (ByteArray × Int)) (v_i84 : S_api_Ins)  : PS := ⟨[dd, .ref 0 0, dd, dd, dd, .d (.v (.int .i64 v_r90.2)), dd, dd, dd, dd, dd, dd, dd, dd, dd, dd, dd, dd, dd, dd, dd, dd, dd, dd, dd, dd, dd, dd, dd, dd, dd, dd, dd, dd, dd, dd, dd, dd, dd, dd, dd, dd, dd, dd, dd, dd, dd, dd, dd, dd, dd, dd, dd, dd, dd, dd, dd, dd, dd, dd, dd, dd, dd, dd, dd, dd, dd, dd, dd, dd, dd, dd, dd, dd, dd, dd, dd, dd, dd, dd, dd, dd, dd, dd, dd, dd, dd, dd, dd, dd, dd, dd], [.box [.d (.v (.int .i64 v_i84.fOp)), .d (.v (.int .i64 v_i84.fA)), .d (.v (.int .i64 v_i84.fB)), .d (.v (.int .i64 v_i84.fC))]]⟩
def G_code_Encode_C2 (n : Nat) (v_r90 : (ByteArray × Int)) (v_i84 : S_api_Ins) : Option G_code_Encode_C2_R :=
  if (bits .and .i64 v_r90.2 1) = 0 then
   if v_i84.fA = 0 then
    if (bits .and .i64 v_r90.2 2) = 0 then
     if v_i84.fB = 0 then
      if (bits .and .i64 v_r90.2 4) = 0 then
       some (.x0 (v_i84.fC != 0))
      else
       some (.x0 false)
     else
      some (.x0 true)
    else
     if (bits .and .i64 v_r90.2 4) = 0 then
      some (.x0 (v_i84.fC != 0))
     else
      some (.x0 false)
   else
    some (.x0 true)
  else
   if (bits .and .i64 v_r90.2 2) = 0 then
    if v_i84.fB = 0 then
     if (bits .and .i64 v_r90.2 4) = 0 then
      some (.x0 (v_i84.fC != 0))
     else
      some (.x0 false)
    else
     some (.x0 true)
   else
    if (bits .and .i64 v_r90.2 4) = 0 then
     some (.x0 (v_i84.fC != 0))
    else
     some (.x0 false)
theorem G_code_Encode_C2_ok {Fi : Ex → PS → Prop} (hF : KC 92 Fi) (ks : List Fr) (n : Nat) (v_r90 : (ByteArray × Int)) (v_i84 : S_api_Ins)  (o : G_code_Encode_C2_R) (h : G_code_Encode_C2 n v_r90 v_i84 = some o) (q : RunE Try.prog 92 Fi ks (G_code_Encode_C2_ex o) (G_code_Encode_C2_st v_r90 v_i84 o)) : RunE Try.prog 92 Fi (.s (cL (cF (cR (cF (cR (cB (cL (cR (cR (bodyOf Try.f20)))))))))) :: ks) .normal (G_code_Encode_C2_hd v_r90 v_i84) := by
  unfold G_code_Encode_C2 at h
  by_cases h631 : (bits .and .i64 v_r90.2 1) = 0
  · rw [if_pos h631] at h
    by_cases h632 : v_i84.fA = 0
    · rw [if_pos h632] at h
      by_cases h633 : (bits .and .i64 v_r90.2 2) = 0
      · rw [if_pos h633] at h
        by_cases h634 : v_i84.fB = 0
        · rw [if_pos h634] at h
          by_cases h635 : (bits .and .i64 v_r90.2 4) = 0
          · rw [if_pos h635] at h
            cases h
            exact pkk_sound TTok mix hF 1 (hs := [.t true, .c, .c, .c, .t false, .c, .c, .c, .t true, .c, .c, .c, .c, .t false, .c, .c, .c, .t true, .c, .c, .c, .c]) (ts := []) (s := [0]) (l := [1, 44]) (by kernel_rfl) (by kernel_rfl) (.cons (bt h631) (.cons (nf h632) (.cons (bt h633) (.cons (nf h634) (.cons (bt h635) .nil))))) q
          · rw [if_neg h635] at h
            cases h
            exact pkk_sound TTok mix hF 1 (hs := [.t true, .c, .c, .c, .t false, .c, .c, .c, .t true, .c, .c, .c, .c, .t false, .c, .c, .c, .t false, .c, .c, .c]) (ts := []) (s := [0]) (l := [1, 44]) (by kernel_rfl) (by kernel_rfl) (.cons (bt h631) (.cons (nf h632) (.cons (bt h633) (.cons (nf h634) (.cons (bf h635) .nil))))) q
        · rw [if_neg h634] at h
          cases h
          exact pkk_sound TTok mix hF 1 (hs := [.t true, .c, .c, .c, .t false, .c, .c, .c, .t true, .c, .c, .c, .c, .t true, .c, .c, .c, .c]) (ts := []) (s := [0]) (l := [1, 44]) (by kernel_rfl) (by kernel_rfl) (.cons (bt h631) (.cons (nf h632) (.cons (bt h633) (.cons (nt h634) .nil)))) q
      · rw [if_neg h633] at h
        by_cases h636 : (bits .and .i64 v_r90.2 4) = 0
        · rw [if_pos h636] at h
          cases h
          exact pkk_sound TTok mix hF 1 (hs := [.t true, .c, .c, .c, .t false, .c, .c, .c, .t false, .c, .c, .c, .c, .c, .c, .c, .t true, .c, .c, .c, .c]) (ts := []) (s := [0]) (l := [1, 44]) (by kernel_rfl) (by kernel_rfl) (.cons (bt h631) (.cons (nf h632) (.cons (bf h633) (.cons (bt h636) .nil)))) q
        · rw [if_neg h636] at h
          cases h
          exact pkk_sound TTok mix hF 1 (hs := [.t true, .c, .c, .c, .t false, .c, .c, .c, .t false, .c, .c, .c, .c, .c, .c, .c, .t false, .c, .c, .c]) (ts := []) (s := [0]) (l := [1, 44]) (by kernel_rfl) (by kernel_rfl) (.cons (bt h631) (.cons (nf h632) (.cons (bf h633) (.cons (bf h636) .nil)))) q
    · rw [if_neg h632] at h
      cases h
      exact pkk_sound TTok mix hF 1 (hs := [.t true, .c, .c, .c, .t true, .c, .c, .c, .c, .c, .c, .c, .c, .c]) (ts := []) (s := [0]) (l := [1, 44]) (by kernel_rfl) (by kernel_rfl) (.cons (bt h631) (.cons (nt h632) .nil)) q
  · rw [if_neg h631] at h
    by_cases h637 : (bits .and .i64 v_r90.2 2) = 0
    · rw [if_pos h637] at h
      by_cases h638 : v_i84.fB = 0
      · rw [if_pos h638] at h
        by_cases h639 : (bits .and .i64 v_r90.2 4) = 0
        · rw [if_pos h639] at h
          cases h
          exact pkk_sound TTok mix hF 1 (hs := [.t false, .c, .c, .c, .c, .c, .c, .t true, .c, .c, .c, .c, .t false, .c, .c, .c, .t true, .c, .c, .c, .c]) (ts := []) (s := [0]) (l := [1, 44]) (by kernel_rfl) (by kernel_rfl) (.cons (bf h631) (.cons (bt h637) (.cons (nf h638) (.cons (bt h639) .nil)))) q
        · rw [if_neg h639] at h
          cases h
          exact pkk_sound TTok mix hF 1 (hs := [.t false, .c, .c, .c, .c, .c, .c, .t true, .c, .c, .c, .c, .t false, .c, .c, .c, .t false, .c, .c, .c]) (ts := []) (s := [0]) (l := [1, 44]) (by kernel_rfl) (by kernel_rfl) (.cons (bf h631) (.cons (bt h637) (.cons (nf h638) (.cons (bf h639) .nil)))) q
      · rw [if_neg h638] at h
        cases h
        exact pkk_sound TTok mix hF 1 (hs := [.t false, .c, .c, .c, .c, .c, .c, .t true, .c, .c, .c, .c, .t true, .c, .c, .c, .c]) (ts := []) (s := [0]) (l := [1, 44]) (by kernel_rfl) (by kernel_rfl) (.cons (bf h631) (.cons (bt h637) (.cons (nt h638) .nil))) q
    · rw [if_neg h637] at h
      by_cases h640 : (bits .and .i64 v_r90.2 4) = 0
      · rw [if_pos h640] at h
        cases h
        exact pkk_sound TTok mix hF 1 (hs := [.t false, .c, .c, .c, .c, .c, .c, .t false, .c, .c, .c, .c, .c, .c, .c, .t true, .c, .c, .c, .c]) (ts := []) (s := [0]) (l := [1, 44]) (by kernel_rfl) (by kernel_rfl) (.cons (bf h631) (.cons (bf h637) (.cons (bt h640) .nil))) q
      · rw [if_neg h640] at h
        cases h
        exact pkk_sound TTok mix hF 1 (hs := [.t false, .c, .c, .c, .c, .c, .c, .t false, .c, .c, .c, .c, .c, .c, .c, .t false, .c, .c, .c]) (ts := []) (s := [0]) (l := [1, 44]) (by kernel_rfl) (by kernel_rfl) (.cons (bf h631) (.cons (bf h637) (.cons (bf h640) .nil))) q
/- ringhall/code.Encode -/
def G_code_Encode (n : Nat) (v_i84 : S_api_Ins) : Option (Int × Int) :=
  (G_code_row n v_i84.fOp).bind fun (v_r90 : (ByteArray × Int)) =>
  if (v_r90.1.toList == (ByteArray.mk #[]).toList) = true then
   some (0, 4)
  else
   (G_code_Encode_C1 n v_r90 v_i84).bind fun v_o202 => match v_o202 with
   | .x0 v_z203 =>
     if v_z203 = true then
      some (0, 1)
     else
      (G_code_Encode_C2 n v_r90 v_i84).bind fun v_o239 => match v_o239 with
      | .x0 v_z240 =>
        if v_z240 = true then
         some (0, 3)
        else
         some ((bits .or .u32 (bits .or .u32 (bits .or .u32 (shlI .u32 (wi .u32 v_i84.fOp) 24) (shlI .u32 (wi .u32 v_i84.fA) 20)) (shlI .u32 (wi .u32 v_i84.fB) 16)) (wi .u32 (wi .u16 v_i84.fC))), 0)
theorem G_code_Encode_ok (n : Nat) (v_i84 : S_api_Ins) (r : Int × Int) (h : G_code_Encode n v_i84 = some r) : Ret Try.prog 20 [eS_api_Ins v_i84] (.tup [(eI .u32) r.1, (eI .i64) r.2]) := by
  refine ret_run (n := 92) (fn := Try.f20) (c := bodyOf Try.f20) (by kernel_rfl) (by kernel_rfl) (by kernel_rfl) (by kernel_rfl) ?_
  have hF : KC 92 (FinR Try.prog Try.f20 (.tup [(eI .u32) r.1, (eI .i64) r.2])) := FinR.kc' (by kernel_rfl)
  unfold G_code_Encode at h
  obtain ⟨v_r90, h456, h⟩ := bind_some h
  by_cases h585 : (v_r90.1.toList == (ByteArray.mk #[]).toList) = true
  · rw [if_pos h585] at h
    obtain rfl := Option.some.inj h
    exact pend_sound TTok mix 14 (hs := [.c, .r (.tup [eS v_r90.1, (eI .i64) v_r90.2]), .t true]) (by kernel_rfl) (by kernel_rfl) (by kernel_rfl) (.cons (G_code_row_ok n v_i84.fOp _ h456) (.cons h585 .nil))
  · rw [if_neg h585] at h
    obtain ⟨v_o202, h596, h⟩ := bind_some h
    refine pkk_sound TTok mix hF 10 (hs := [.c, .r (.tup [eS v_r90.1, (eI .i64) v_r90.2]), .t false]) (ts := []) (s := [0]) (l := [1, 5]) (by kernel_rfl) (by kernel_rfl) (.cons (G_code_row_ok n v_i84.fOp _ h456) (.cons (vf h585) .nil)) (G_code_Encode_C1_ok hF (.s (cR (cF (cR (cB (cL (cR (cR (bodyOf Try.f20)))))))) :: .b 0 :: .s (cR (cR (cR (bodyOf Try.f20)))) :: []) n v_r90 v_i84 _ h596 ?_)
    cases v_o202 with
    | x0 v_z203 =>
      try dsimp only at h
      by_cases h620 : v_z203 = true
      · rw [if_pos h620] at h
        obtain rfl := Option.some.inj h
        exact pend_sound TTok mix 6 (hs := [.t true]) (by kernel_rfl) (by kernel_rfl) (by kernel_rfl) (.cons h620 .nil)
      · rw [if_neg h620] at h
        obtain ⟨v_o239, h641, h⟩ := bind_some h
        refine pkk_sound TTok mix hF 2 (hs := [.t false]) (ts := []) (s := [0]) (l := [1, 5]) (by kernel_rfl) (by kernel_rfl) (.cons (vf h620) .nil) (G_code_Encode_C2_ok hF (.s (cR (cF (cR (cF (cR (cB (cL (cR (cR (bodyOf Try.f20)))))))))) :: .b 0 :: .s (cR (cR (cR (bodyOf Try.f20)))) :: []) n v_r90 v_i84 _ h641 ?_)
        cases v_o239 with
        | x0 v_z240 =>
          try dsimp only at h
          by_cases h642 : v_z240 = true
          · rw [if_pos h642] at h
            obtain rfl := Option.some.inj h
            exact pend_sound TTok mix 6 (hs := [.t true]) (by kernel_rfl) (by kernel_rfl) (by kernel_rfl) (.cons h642 .nil)
          · rw [if_neg h642] at h
            obtain rfl := Option.some.inj h
            exact pend_sound TTok mix 6 (hs := [.t false, .c, .c, .c, .c]) (by kernel_rfl) (by kernel_rfl) (by kernel_rfl) (.cons (vf h642) (.cons (show (0 : Int) ≤ 24 by decide) (.cons (show (0 : Int) ≤ 20 by decide) (.cons (show (0 : Int) ≤ 16 by decide) .nil))))
/- ringhall/code.Decode -/
def G_code_Decode (n : Nat) (v_w75 : Int) : Option (S_api_Ins × Int) :=
  (G_code_Encode n (S_api_Ins.mk (wi .i64 (shrI .u32 v_w75 24)) (wi .i64 (bits .and .u32 (shrI .u32 v_w75 20) 15)) (wi .i64 (bits .and .u32 (shrI .u32 v_w75 16) 15)) (wi .i64 (wi .i16 v_w75)))).bind fun (v_r248 : (Int × Int)) =>
  if v_r248.2 = 0 then
   if v_r248.1 = v_w75 then
    some ((S_api_Ins.mk (wi .i64 (shrI .u32 v_w75 24)) (wi .i64 (bits .and .u32 (shrI .u32 v_w75 20) 15)) (wi .i64 (bits .and .u32 (shrI .u32 v_w75 16) 15)) (wi .i64 (wi .i16 v_w75))), 0)
   else
    some ((S_api_Ins.mk 0 0 0 0), 3)
  else
   some ((S_api_Ins.mk 0 0 0 0), 3)
theorem G_code_Decode_ok (n : Nat) (v_w75 : Int) (r : S_api_Ins × Int) (h : G_code_Decode n v_w75 = some r) : Ret Try.prog 11 [(eI .u32) v_w75] (.tup [eS_api_Ins r.1, (eI .i64) r.2]) := by
  refine ret_run (n := 36) (fn := Try.f11) (c := bodyOf Try.f11) (by kernel_rfl) (by kernel_rfl) (by kernel_rfl) (by kernel_rfl) ?_
  have hF : KC 36 (FinR Try.prog Try.f11 (.tup [eS_api_Ins r.1, (eI .i64) r.2])) := FinR.kc' (by kernel_rfl)
  unfold G_code_Decode at h
  obtain ⟨v_r248, h646, h⟩ := bind_some h
  by_cases h647 : v_r248.2 = 0
  · rw [if_pos h647] at h
    by_cases h649 : v_r248.1 = v_w75
    · rw [if_pos h649] at h
      obtain rfl := Option.some.inj h
      exact pend_sound TTok mix 14 (hs := [.c, .c, .r (.tup [(eI .u32) v_r248.1, (eI .i64) v_r248.2]), .t false, .c, .c, .t false, .c, .c]) (by kernel_rfl) (by kernel_rfl) (by kernel_rfl) (.cons (show (0 : Int) ≤ 24 by decide) (.cons (show (0 : Int) ≤ 20 by decide) (.cons (show (0 : Int) ≤ 16 by decide) (.cons (show 0 + 4 ≤ 4 by decide) (.cons (G_code_Encode_ok n (S_api_Ins.mk (wi .i64 (shrI .u32 v_w75 24)) (wi .i64 (bits .and .u32 (shrI .u32 v_w75 20) 15)) (wi .i64 (bits .and .u32 (shrI .u32 v_w75 16) 15)) (wi .i64 (wi .i16 v_w75))) _ h646) (.cons (nf h647) (.cons (nf h649) (.cons (show 0 + 4 ≤ 4 by decide) .nil))))))))
    · rw [if_neg h649] at h
      obtain rfl := Option.some.inj h
      exact pend_sound TTok mix 14 (hs := [.c, .c, .r (.tup [(eI .u32) v_r248.1, (eI .i64) v_r248.2]), .t false, .c, .c, .t true, .c]) (by kernel_rfl) (by kernel_rfl) (by kernel_rfl) (.cons (show (0 : Int) ≤ 24 by decide) (.cons (show (0 : Int) ≤ 20 by decide) (.cons (show (0 : Int) ≤ 16 by decide) (.cons (show 0 + 4 ≤ 4 by decide) (.cons (G_code_Encode_ok n (S_api_Ins.mk (wi .i64 (shrI .u32 v_w75 24)) (wi .i64 (bits .and .u32 (shrI .u32 v_w75 20) 15)) (wi .i64 (bits .and .u32 (shrI .u32 v_w75 16) 15)) (wi .i64 (wi .i16 v_w75))) _ h646) (.cons (nf h647) (.cons (nt h649) (.cons (show 0 + 4 ≤ 4 by decide) .nil))))))))
  · rw [if_neg h647] at h
    obtain rfl := Option.some.inj h
    exact pend_sound TTok mix 14 (hs := [.c, .c, .r (.tup [(eI .u32) v_r248.1, (eI .i64) v_r248.2]), .t true, .c, .c, .c, .c]) (by kernel_rfl) (by kernel_rfl) (by kernel_rfl) (.cons (show (0 : Int) ≤ 24 by decide) (.cons (show (0 : Int) ≤ 20 by decide) (.cons (show (0 : Int) ≤ 16 by decide) (.cons (show 0 + 4 ≤ 4 by decide) (.cons (G_code_Encode_ok n (S_api_Ins.mk (wi .i64 (shrI .u32 v_w75 24)) (wi .i64 (bits .and .u32 (shrI .u32 v_w75 20) 15)) (wi .i64 (bits .and .u32 (shrI .u32 v_w75 16) 15)) (wi .i64 (wi .i16 v_w75))) _ h646) (.cons (nt h647) (.cons (show 0 + 4 ≤ 4 by decide) .nil)))))))
/- ringhall/cpu.reckon -/
def G_cpu_reckon (n : Nat) (v_op272 : Int) (v_a273 : Int) (v_b274 : Int) : Option (Int × Bool) :=
  if v_op272 = 5 then
   some ((wi .u32 (v_a273 + v_b274)), true)
  else
   if v_op272 = 6 then
    some ((wi .u32 (v_a273 - v_b274)), true)
   else
    if v_op272 = 7 then
     some ((wi .u32 (v_a273 * v_b274)), true)
    else
     if v_op272 = 8 then
      if v_b274 = 0 then
       some (0, false)
      else
       if v_b274 ≠ 0 then
        some ((quoI .u32 v_a273 v_b274), true)
       else none
     else
      if v_op272 = 9 then
       some ((bits .and .u32 v_a273 v_b274), true)
      else
       if v_op272 = 10 then
        some ((bits .or .u32 v_a273 v_b274), true)
       else
        if v_op272 = 11 then
         some ((bits .xor .u32 v_a273 v_b274), true)
        else
         if v_op272 = 12 then
          if 0 ≤ (remI v_b274 32) then
           some ((shlI .u32 v_a273 (remI v_b274 32)), true)
          else none
         else
          if 0 ≤ (remI v_b274 32) then
           some ((shrI .u32 v_a273 (remI v_b274 32)), true)
          else none
theorem G_cpu_reckon_ok (n : Nat) (v_op272 : Int) (v_a273 : Int) (v_b274 : Int) (r : Int × Bool) (h : G_cpu_reckon n v_op272 v_a273 v_b274 = some r) : Ret Try.prog 12 [(eI .i64) v_op272, (eI .u32) v_a273, (eI .u32) v_b274] (.tup [(eI .u32) r.1, eB r.2]) := by
  refine ret_run (n := 56) (fn := Try.f12) (c := bodyOf Try.f12) (by kernel_rfl) (by kernel_rfl) (by kernel_rfl) (by kernel_rfl) ?_
  have hF : KC 56 (FinR Try.prog Try.f12 (.tup [(eI .u32) r.1, eB r.2])) := FinR.kc' (by kernel_rfl)
  unfold G_cpu_reckon at h
  by_cases h750 : v_op272 = 5
  · rw [if_pos h750] at h
    obtain rfl := Option.some.inj h
    exact pend_sound TTok mix 14 (hs := [.t true]) (by kernel_rfl) (by kernel_rfl) (by kernel_rfl) (.cons (bt h750) .nil)
  · rw [if_neg h750] at h
    by_cases h762 : v_op272 = 6
    · rw [if_pos h762] at h
      obtain rfl := Option.some.inj h
      exact pend_sound TTok mix 17 (hs := [.t false, .t true]) (by kernel_rfl) (by kernel_rfl) (by kernel_rfl) (.cons (bf h750) (.cons (bt h762) .nil))
    · rw [if_neg h762] at h
      by_cases h773 : v_op272 = 7
      · rw [if_pos h773] at h
        obtain rfl := Option.some.inj h
        exact pend_sound TTok mix 20 (hs := [.t false, .t false, .t true]) (by kernel_rfl) (by kernel_rfl) (by kernel_rfl) (.cons (bf h750) (.cons (bf h762) (.cons (bt h773) .nil)))
      · rw [if_neg h773] at h
        by_cases h783 : v_op272 = 8
        · rw [if_pos h783] at h
          by_cases h784 : v_b274 = 0
          · rw [if_pos h784] at h
            obtain rfl := Option.some.inj h
            exact pend_sound TTok mix 28 (hs := [.t false, .t false, .t false, .t true, .t true]) (by kernel_rfl) (by kernel_rfl) (by kernel_rfl) (.cons (bf h750) (.cons (bf h762) (.cons (bf h773) (.cons (bt h783) (.cons (bt h784) .nil)))))
          · rw [if_neg h784] at h
            by_cases h785 : v_b274 ≠ 0
            · rw [if_pos h785] at h
              obtain rfl := Option.some.inj h
              exact pend_sound TTok mix 28 (hs := [.t false, .t false, .t false, .t true, .t false]) (by kernel_rfl) (by kernel_rfl) (by kernel_rfl) (.cons (bf h750) (.cons (bf h762) (.cons (bf h773) (.cons (bt h783) (.cons (bf h784) (.cons h785 .nil))))))
            · rw [if_neg h785] at h; cases h
        · rw [if_neg h783] at h
          by_cases h792 : v_op272 = 9
          · rw [if_pos h792] at h
            obtain rfl := Option.some.inj h
            exact pend_sound TTok mix 26 (hs := [.t false, .t false, .t false, .t false, .t true]) (by kernel_rfl) (by kernel_rfl) (by kernel_rfl) (.cons (bf h750) (.cons (bf h762) (.cons (bf h773) (.cons (bf h783) (.cons (bt h792) .nil)))))
          · rw [if_neg h792] at h
            by_cases h798 : v_op272 = 10
            · rw [if_pos h798] at h
              obtain rfl := Option.some.inj h
              exact pend_sound TTok mix 29 (hs := [.t false, .t false, .t false, .t false, .t false, .t true]) (by kernel_rfl) (by kernel_rfl) (by kernel_rfl) (.cons (bf h750) (.cons (bf h762) (.cons (bf h773) (.cons (bf h783) (.cons (bf h792) (.cons (bt h798) .nil))))))
            · rw [if_neg h798] at h
              by_cases h803 : v_op272 = 11
              · rw [if_pos h803] at h
                obtain rfl := Option.some.inj h
                exact pend_sound TTok mix 32 (hs := [.t false, .t false, .t false, .t false, .t false, .t false, .t true]) (by kernel_rfl) (by kernel_rfl) (by kernel_rfl) (.cons (bf h750) (.cons (bf h762) (.cons (bf h773) (.cons (bf h783) (.cons (bf h792) (.cons (bf h798) (.cons (bt h803) .nil)))))))
              · rw [if_neg h803] at h
                by_cases h807 : v_op272 = 12
                · rw [if_pos h807] at h
                  by_cases h809 : 0 ≤ (remI v_b274 32)
                  · rw [if_pos h809] at h
                    obtain rfl := Option.some.inj h
                    exact pend_sound TTok mix 35 (hs := [.t false, .t false, .t false, .t false, .t false, .t false, .t false, .t true]) (by kernel_rfl) (by kernel_rfl) (by kernel_rfl) (.cons (bf h750) (.cons (bf h762) (.cons (bf h773) (.cons (bf h783) (.cons (bf h792) (.cons (bf h798) (.cons (bf h803) (.cons (bt h807) (.cons (show (32 : Int) ≠ 0 by decide) (.cons h809 .nil))))))))))
                  · rw [if_neg h809] at h; cases h
                · rw [if_neg h807] at h
                  by_cases h811 : 0 ≤ (remI v_b274 32)
                  · rw [if_pos h811] at h
                    obtain rfl := Option.some.inj h
                    exact pend_sound TTok mix 35 (hs := [.t false, .t false, .t false, .t false, .t false, .t false, .t false, .t false]) (by kernel_rfl) (by kernel_rfl) (by kernel_rfl) (.cons (bf h750) (.cons (bf h762) (.cons (bf h773) (.cons (bf h783) (.cons (bf h792) (.cons (bf h798) (.cons (bf h803) (.cons (bf h807) (.cons (show (32 : Int) ≠ 0 by decide) (.cons h811 .nil))))))))))
                  · rw [if_neg h811] at h; cases h
/- (*ringhall/ringref5.Room).Store -/
def G_ringref5_Room_Store_h (n : Nat) (v_r303 : S_ringref5_Room) (v_at304 : Int) (v_b305 : Int) : Option (Int × S_ringref5_Room) :=
  if (wi .u64 (wi .u32 (v_at304 - v_r303.fAt))) ≥ (wi .u64 (v_r303.fBytes.length : Int)) then
   some (11, v_r303)
  else
   if (bits .and .i64 v_r303.fMay 2) = 0 then
    some (11, v_r303)
   else
    if 0 ≤ (wi .u32 (v_at304 - v_r303.fAt)) ∧ ((wi .u32 (v_at304 - v_r303.fAt))).toNat < v_r303.fBytes.length then
     (v_r303.fBytes[((wi .u32 (v_at304 - v_r303.fAt))).toNat]?).bind fun (v_y306 : Int) =>
     some (0, (S_ringref5_Room.mk v_r303.fAt (v_r303.fBytes.set ((wi .u32 (v_at304 - v_r303.fAt))).toNat v_b305) v_r303.fMay))
    else none
theorem G_ringref5_Room_Store_h_ok (n : Nat) (v_r303 : S_ringref5_Room) (v_at304 : Int) (v_b305 : Int) (r : Int × S_ringref5_Room) (h : G_ringref5_Room_Store_h n v_r303 v_at304 v_b305 = some r) : RetH Try.prog 24 [.ref 0 0, .d ((eI .u32) v_at304), .d ((eI .u8) v_b305)] [.box [.d (.v (.int .u32 v_r303.fAt)), .srf 1, .d (.v (.int .i64 v_r303.fMay))], .row 5 1 (v_r303.fBytes.map (eI .u8))] (.d ((eI .i64) r.1)) [.box [.d (.v (.int .u32 r.2.fAt)), .srf 2, .d (.v (.int .i64 r.2.fMay))], .none, .row 5 1 (r.2.fBytes.map (eI .u8))] := by
  refine retH_run (n := 38) (fn := Try.f24) (c := bodyOf Try.f24) (by kernel_rfl) (by kernel_rfl) (by kernel_rfl) (by kernel_rfl) ?_
  have hF : KC 38 (FinH Try.prog Try.f24 [.box [.d (.v (.int .u32 v_r303.fAt)), .srf 1, .d (.v (.int .i64 v_r303.fMay))], .row 5 1 (v_r303.fBytes.map (eI .u8))] (.d ((eI .i64) r.1)) [.box [.d (.v (.int .u32 r.2.fAt)), .srf 2, .d (.v (.int .i64 r.2.fMay))], .none, .row 5 1 (r.2.fBytes.map (eI .u8))]) := FinH.kc' (by kernel_rfl)
  unfold G_ringref5_Room_Store_h at h
  by_cases h848 : (wi .u64 (wi .u32 (v_at304 - v_r303.fAt))) ≥ (wi .u64 (v_r303.fBytes.length : Int))
  · rw [if_pos h848] at h
    obtain rfl := Option.some.inj h
    exact pendH_sound TTok mix 13 (hs := [.c, .c, .u (.d (.v (.int .i64 (v_r303.fBytes.length : Int)))), .t true, .c, .c, .c, .c, .c, .c, .dl 4, .mv 1]) [0, 1, 134] (by kernel_rfl) (by kernel_rfl) (by kernel_rfl) (.cons (len_ob (f := (eI .u8)) (l := v_r303.fBytes)) (.cons (dt h848) .nil))
  · rw [if_neg h848] at h
    by_cases h849 : (bits .and .i64 v_r303.fMay 2) = 0
    · rw [if_pos h849] at h
      obtain rfl := Option.some.inj h
      exact pendH_sound TTok mix 13 (hs := [.c, .c, .u (.d (.v (.int .i64 (v_r303.fBytes.length : Int)))), .t false, .c, .c, .c, .c, .c, .c, .t true, .dl 4, .mv 1]) [0, 1, 134] (by kernel_rfl) (by kernel_rfl) (by kernel_rfl) (.cons (len_ob (f := (eI .u8)) (l := v_r303.fBytes)) (.cons (df h848) (.cons (bt h849) .nil)))
    · rw [if_neg h849] at h
      by_cases h850 : 0 ≤ (wi .u32 (v_at304 - v_r303.fAt)) ∧ ((wi .u32 (v_at304 - v_r303.fAt))).toNat < v_r303.fBytes.length
      · rw [if_pos h850] at h
        obtain ⟨v_y306, h851, h⟩ := bind_some h
        obtain rfl := Option.some.inj h
        exact pendH_sound TTok mix 15 (hs := [.c, .c, .u (.d (.v (.int .i64 (v_r303.fBytes.length : Int)))), .t false, .c, .c, .c, .c, .c, .c, .t false, .c, .w ((v_r303.fBytes.set ((wi .u32 (v_at304 - v_r303.fAt))).toNat v_b305).map (eI .u8)), .y ((eI .u8) v_y306), .dl 3, .mv 1]) [0, 1, 174] (by kernel_rfl) (by kernel_rfl) (by kernel_rfl) (.cons (len_ob (f := (eI .u8)) (l := v_r303.fBytes)) (.cons (df h848) (.cons (bf h849) (.cons (idx_ob (f := (eI .u8)) h850) (.cons (get_ob (f := (eI .u8)) h851) (.cons (Eq.refl (pcells (.v (.int .u8 v_b305)))) (.cons (set_ob (f := (eI .u8)) (l := v_r303.fBytes) (k := ((wi .u32 (v_at304 - v_r303.fAt))).toNat) (z := v_b305) (p := .v (.int .u8 v_b305)) rfl) .nil)))))))
      · rw [if_neg h850] at h; cases h
inductive G_cpu_put_h_L1_R where
  | x0 (v_b329 : Int) (v_b330 : Int) (v_w331 : (List Int)) (v_b332 : S_api_Trap)
  | x1 (v_b333 : Int) (v_b334 : Int) (v_w335 : (List Int))
def G_cpu_put_h_L1_ex : G_cpu_put_h_L1_R → Ex
  | .x0 _ _ _ _ => .ret
  | .x1 _ _ _ => .exit 0
def G_cpu_put_h_L1_st (v_at298 : Int) (v_w299 : Int) : G_cpu_put_h_L1_R → PS
  | .x0 v_b329 v_b330 v_w331 v_b332 => ⟨[dd, dd, dd, dd, dd, dd, .ref 7 0, dd, dd, dd, dd, dd, dd, dd, dd, dd, dd, dd, dd, dd, dd, dd, dd, dd, dd, dd, dd, dd, dd, dd, dd, dd, dd, dd, dd], [.gh 0 (.srf 3), .gh 1 (.ref 4 0), .gh 2 (.srf 6), .cu (ifC 36) [.ref 4 0], .box [.d (.v (.int .u32 v_b329)), .srf 5, .d (.v (.int .i64 v_b330))], .row 5 1 (v_w331.map (eI .u8)), .none, .box [.d (.v (.int .i64 v_b332.fKind)), .d (.v (.int .u32 v_b332.fAddr))]]⟩
  | .x1 v_b333 v_b334 v_w335 => ⟨[dd, dd, dd, dd, dd, dd, .ref 7 0, dd, dd, dd, dd, dd, dd, dd, dd, dd, dd, dd, dd, dd, dd, dd, dd, dd, dd, dd, dd, dd, dd, dd, dd, dd, dd, dd, dd], [.gh 0 (.srf 3), .gh 1 (.ref 4 0), .gh 2 (.srf 6), .cu (ifC 36) [.ref 4 0], .box [.d (.v (.int .u32 v_b333)), .srf 5, .d (.v (.int .i64 v_b334))], .row 5 1 (v_w335.map (eI .u8)), .none, .box [.d (.v (.int .i64 0)), .d (.v (.int .u32 0))]]⟩
def G_cpu_put_h_L1_hd (v_at298 : Int) (v_w299 : Int) (v_x322 : Int) (v_b323 : Int) (v_b324 : Int) (v_w325 : (List Int)) : PS := ⟨[.srf 3, .d (.v (.int .u32 v_at298)), .d (.v (.int .u32 v_w299)), dd, dd, dd, .ref 7 0, dd, dd, dd, dd, dd, dd, dd, .d (.v (.int .u32 v_x322)), dd, dd, dd, dd, dd, dd, dd, dd, dd, dd, dd, dd, dd, dd, dd, dd, dd, dd, dd, dd], [.gh 0 (.srf 3), .gh 1 (.ref 4 0), .gh 2 (.srf 6), .cu (ifC 36) [.ref 4 0], .box [.d (.v (.int .u32 v_b323)), .srf 5, .d (.v (.int .i64 v_b324))], .row 5 1 (v_w325.map (eI .u8)), .none, .box [.d (.v (.int .i64 0)), .d (.v (.int .u32 0))]]⟩
def G_cpu_put_h_L1 (n : Nat) (v_at298 : Int) (v_w299 : Int) : Nat → Int → Int → Int → (List Int) → Option G_cpu_put_h_L1_R
  | 0, _, _, _, _ => none
  | k + 1, v_x322, v_b323, v_b324, v_w325 =>
    if v_x322 < 4 then
     if 0 ≤ (wi .u32 (8 * v_x322)) then
      (G_ringref5_Room_Store_h n (S_ringref5_Room.mk v_b323 v_w325 v_b324) (wi .u32 (v_at298 + v_x322)) (wi .u8 (shrI .u32 v_w299 (wi .u32 (8 * v_x322))))).bind fun (v_r328 : (Int × S_ringref5_Room)) =>
      if v_r328.1 = 0 then
       G_cpu_put_h_L1 n v_at298 v_w299 k (wi .u32 (v_x322 + 1)) v_r328.2.fAt v_r328.2.fMay v_r328.2.fBytes
      else
       some (.x0 v_r328.2.fAt v_r328.2.fMay v_r328.2.fBytes (S_api_Trap.mk 2 (wi .u32 (v_at298 + v_x322))))
     else none
    else
     some (.x1 v_b323 v_b324 v_w325)
theorem G_cpu_put_h_L1_ok {Fi : Ex → PS → Prop} (hF : KC 35 Fi) (ks : List Fr) (n : Nat) (v_at298 : Int) (v_w299 : Int)  : ∀ (k : Nat) (v_x322 : Int) (v_b323 : Int) (v_b324 : Int) (v_w325 : (List Int)) (o : G_cpu_put_h_L1_R), G_cpu_put_h_L1 n v_at298 v_w299 k v_x322 v_b323 v_b324 v_w325 = some o → RunE Try.prog 35 Fi ks (G_cpu_put_h_L1_ex o) (G_cpu_put_h_L1_st v_at298 v_w299 o) → RunE Try.prog 35 Fi (.l k (cP (cB (cR (cL (cR (cR (bodyOf Try.f21))))))) :: ks) .normal (G_cpu_put_h_L1_hd v_at298 v_w299 v_x322 v_b323 v_b324 v_w325)
  | 0, v_x322, v_b323, v_b324, v_w325, o, h, q => by rw [G_cpu_put_h_L1] at h; cases h
  | k + 1, v_x322, v_b323, v_b324, v_w325, o, h, q => by
    rw [G_cpu_put_h_L1] at h
    by_cases h868 : v_x322 < 4
    · rw [if_pos h868] at h
      by_cases h873 : 0 ≤ (wi .u32 (8 * v_x322))
      · rw [if_pos h873] at h
        obtain ⟨v_r328, h874, h⟩ := bind_some h
        by_cases h876 : v_r328.1 = 0
        · rw [if_pos h876] at h
          exact pkk_sound TTok mix hF 18 (hs := [.t true, .e 68 [3, 4, 5, 68] (.d (.v (.int .i64 v_r328.1))) [(4, .box [.d (.v (.int .u32 v_r328.2.fAt)), .srf 68, .d (.v (.int .i64 v_r328.2.fMay))]), (5, .none), (68, .row 5 1 (v_r328.2.fBytes.map (eI .u8)))], .t false]) (ts := []) (s := [0, 1, 2, 3, 4, 68, 6, 7]) (l := [0, 1, 2, 6, 14]) (by kernel_rfl) (by kernel_rfl) (.cons (dt h868) (.cons h873 (.cons (icall (P := Try.prog) (T := TT) (x := (.tmp 17)) (args := #[(.tmp 20), (.tmp 25)]) (tys := #[22, 5]) (name := "Store") (t := 36) (l := 4) (off := 0) (I := 3) (vs := [.d (.v (.int .u32 (wi .u32 (v_at298 + v_x322)))), .d (.v (.int .u8 (wi .u8 (shrI .u32 v_w299 (wi .u32 (8 * v_x322))))))]) (ms := [(4, .box [.d (.v (.int .u32 v_b323)), .srf 5, .d (.v (.int .i64 v_b324))]), (5, .row 5 1 (v_w325.map (eI .u8)))]) (g := 24) (τ := [4, 5, 68]) (m2 := [.box [.d (.v (.int .u32 v_r328.2.fAt)), .srf 2, .d (.v (.int .i64 v_r328.2.fMay))], .none, .row 5 1 (v_r328.2.fBytes.map (eI .u8))]) (r := .d (.v (.int .i64 v_r328.1))) (nl := 68) (by kernel_rfl) rfl rfl rfl rfl (Nat.le_of_ble_eq_true rfl) (G_ringref5_Room_Store_h_ok n (S_ringref5_Room.mk v_b323 v_w325 v_b324) (wi .u32 (v_at298 + v_x322)) (wi .u8 (shrI .u32 v_w299 (wi .u32 (8 * v_x322)))) _ h874)) (.cons (nf h876) .nil)))) (G_cpu_put_h_L1_ok hF ks n v_at298 v_w299 k (wi .u32 (v_x322 + 1)) v_r328.2.fAt v_r328.2.fMay v_r328.2.fBytes _ h q)
        · rw [if_neg h876] at h
          cases h
          exact pkk_sound TTok mix hF 21 (hs := [.t true, .e 68 [3, 4, 5, 68] (.d (.v (.int .i64 v_r328.1))) [(4, .box [.d (.v (.int .u32 v_r328.2.fAt)), .srf 68, .d (.v (.int .i64 v_r328.2.fMay))]), (5, .none), (68, .row 5 1 (v_r328.2.fBytes.map (eI .u8)))], .t true, .c]) (ts := []) (s := [0, 1, 2, 3, 4, 68, 6, 7]) (l := [6]) (by kernel_rfl) (by kernel_rfl) (.cons (dt h868) (.cons h873 (.cons (icall (P := Try.prog) (T := TT) (x := (.tmp 17)) (args := #[(.tmp 20), (.tmp 25)]) (tys := #[22, 5]) (name := "Store") (t := 36) (l := 4) (off := 0) (I := 3) (vs := [.d (.v (.int .u32 (wi .u32 (v_at298 + v_x322)))), .d (.v (.int .u8 (wi .u8 (shrI .u32 v_w299 (wi .u32 (8 * v_x322))))))]) (ms := [(4, .box [.d (.v (.int .u32 v_b323)), .srf 5, .d (.v (.int .i64 v_b324))]), (5, .row 5 1 (v_w325.map (eI .u8)))]) (g := 24) (τ := [4, 5, 68]) (m2 := [.box [.d (.v (.int .u32 v_r328.2.fAt)), .srf 2, .d (.v (.int .i64 v_r328.2.fMay))], .none, .row 5 1 (v_r328.2.fBytes.map (eI .u8))]) (r := .d (.v (.int .i64 v_r328.1))) (nl := 68) (by kernel_rfl) rfl rfl rfl rfl (Nat.le_of_ble_eq_true rfl) (G_ringref5_Room_Store_h_ok n (S_ringref5_Room.mk v_b323 v_w325 v_b324) (wi .u32 (v_at298 + v_x322)) (wi .u8 (shrI .u32 v_w299 (wi .u32 (8 * v_x322)))) _ h874)) (.cons (nt h876) (.cons (show 0 + 2 ≤ 2 by decide) .nil))))) q
      · rw [if_neg h873] at h; cases h
    · rw [if_neg h868] at h
      cases h
      exact pkk_sound TTok mix hF 8 (hs := [.t false]) (ts := []) (s := [0, 1, 2, 3, 4, 5, 6, 7]) (l := [6]) (by kernel_rfl) (by kernel_rfl) (.cons (df h868) .nil) q
/- ringhall/cpu.put -/
def G_cpu_put_h (n : Nat) (v_b297 : S_ringref5_Room) (v_at298 : Int) (v_w299 : Int) : Option (S_api_Trap × S_ringref5_Room) :=
  if (remI v_at298 4) = 0 then
   (G_cpu_put_h_L1 n v_at298 v_w299 n 0 v_b297.fAt v_b297.fMay v_b297.fBytes).bind fun v_o336 => match v_o336 with
   | .x0 v_z337 v_z338 v_z339 v_z340 =>
     some (v_z340, (S_ringref5_Room.mk v_z337 v_z339 v_z338))
   | .x1 v_z341 v_z342 v_z343 =>
     some ((S_api_Trap.mk 0 0), (S_ringref5_Room.mk v_z341 v_z343 v_z342))
  else
   some ((S_api_Trap.mk 2 v_at298), v_b297)
theorem G_cpu_put_h_ok (n : Nat) (v_b297 : S_ringref5_Room) (v_at298 : Int) (v_w299 : Int) (r : S_api_Trap × S_ringref5_Room) (h : G_cpu_put_h n v_b297 v_at298 v_w299 = some r) : RetH Try.prog 21 [.srf 0, .d ((eI .u32) v_at298), .d ((eI .u32) v_w299)] [.cu (ifC 36) [.ref 1 0], .box [.d (.v (.int .u32 v_b297.fAt)), .srf 2, .d (.v (.int .i64 v_b297.fMay))], .row 5 1 (v_b297.fBytes.map (eI .u8))] (.d (eS_api_Trap r.1)) [.cu (ifC 36) [.ref 1 0], .box [.d (.v (.int .u32 r.2.fAt)), .srf 3, .d (.v (.int .i64 r.2.fMay))], .none, .row 5 1 (r.2.fBytes.map (eI .u8))] := by
  refine retH_run (n := 35) (fn := Try.f21) (c := bodyOf Try.f21) (by kernel_rfl) (by kernel_rfl) (by kernel_rfl) (by kernel_rfl) ?_
  have hF : KC 35 (FinH Try.prog Try.f21 [.cu (ifC 36) [.ref 1 0], .box [.d (.v (.int .u32 v_b297.fAt)), .srf 2, .d (.v (.int .i64 v_b297.fMay))], .row 5 1 (v_b297.fBytes.map (eI .u8))] (.d (eS_api_Trap r.1)) [.cu (ifC 36) [.ref 1 0], .box [.d (.v (.int .u32 r.2.fAt)), .srf 3, .d (.v (.int .i64 r.2.fMay))], .none, .row 5 1 (r.2.fBytes.map (eI .u8))]) := FinH.kc' (by kernel_rfl)
  unfold G_cpu_put_h at h
  by_cases h844 : (remI v_at298 4) = 0
  · rw [if_pos h844] at h
    obtain ⟨v_o336, h877, h⟩ := bind_some h
    refine pkk_sound TTok mix hF 13 (hs := [.t false, .dl 5, .mv 2, .n n]) (ts := []) (s := [3, 4, 5, 0, 1, 31, 2, 6]) (l := [0, 1, 2, 6, 14]) (by kernel_rfl) (by kernel_rfl) (.cons (show (4 : Int) ≠ 0 by decide) (.cons (nf h844) .nil)) (G_cpu_put_h_L1_ok hF (.b 0 :: .s (cR (cR (cR (bodyOf Try.f21)))) :: []) n v_at298 v_w299 n 0 v_b297.fAt v_b297.fMay v_b297.fBytes _ h877 ?_)
    cases v_o336 with
    | x0 v_z337 v_z338 v_z339 v_z340 =>
      try dsimp only at h
      obtain rfl := Option.some.inj h
      exact pendH_sound TTok mix 2 (hs := []) [3, 4, 6, 5] (by kernel_rfl) (by kernel_rfl) (by kernel_rfl) .nil
    | x1 v_z341 v_z342 v_z343 =>
      try dsimp only at h
      obtain rfl := Option.some.inj h
      exact pendH_sound TTok mix 4 (hs := [.c]) [3, 4, 6, 5] (by kernel_rfl) (by kernel_rfl) (by kernel_rfl) (.cons (show 0 + 2 ≤ 2 by decide) .nil)
  · rw [if_neg h844] at h
    obtain rfl := Option.some.inj h
    exact pendH_sound TTok mix 11 (hs := [.t true, .c, .dl 2, .mv 2]) [0, 1, 2, 41] (by kernel_rfl) (by kernel_rfl) (by kernel_rfl) (.cons (show (4 : Int) ≠ 0 by decide) (.cons (nt h844) (.cons (show 0 + 2 ≤ 2 by decide) .nil)))
inductive G_cpu_memory_h_C1_R where
  | x0 (v_w381 : (List Int))
  | x1 (v_w382 : (List Int))
def G_cpu_memory_h_C1_ex : G_cpu_memory_h_C1_R → Ex
  | .x0 _ => .normal
  | .x1 _ => .normal
def G_cpu_memory_h_C1_st (v_r377 : (Int × S_api_Trap × S_ringref5_Room)) (v_r287 : S_api_Regs) (v_i288 : S_api_Ins) : G_cpu_memory_h_C1_R → PS
  | .x0 v_w381 => ⟨[dd, dd, dd, dd, dd, dd, .ref 9 0, dd, dd, .ref 10 0, dd, dd, dd, dd, dd, dd, dd, dd, dd, dd, dd, dd, dd, dd, dd, dd, dd, dd, dd, dd, dd, dd, dd, dd, dd, dd, dd, dd, dd, dd, dd, dd, dd, dd, dd, dd, dd, dd, dd, dd, dd, dd, dd, dd, dd, dd, dd, dd, dd, dd, dd, dd, dd, dd, dd, dd, dd, dd, dd, dd, dd, dd, dd, dd, dd, dd, dd, dd, dd, dd, dd, dd, dd, dd, dd, dd, dd, dd, dd, dd, dd, dd, dd, dd, dd, dd, dd, dd, dd, dd, dd, dd, dd, dd, dd, dd, dd, dd, dd, dd, dd, dd, dd, dd, dd, dd, dd, dd, dd, dd, dd, dd, dd, dd, dd, dd, dd, dd, dd, dd, dd], [.gh 0 (.ref 4 0), .gh 1 (.srf 5), .gh 2 (.ref 6 0), .gh 3 (.srf 8), .box ((cS_api_Regs (S_api_Regs.mk (setA v_r287.fR v_i288.fA v_r377.1) v_r287.fPc v_r287.fRing)).map FV.d), .cu (ifC 36) [.ref 6 0], .box [.d (.v (.int .u32 v_r377.2.2.fAt)), .srf 7, .d (.v (.int .i64 v_r377.2.2.fMay))], .row 5 1 (v_w381.map (eI .u8)), .none, .box [.d (.v (.int .i64 0)), .d (.v (.int .u32 0))], .box [.d (.v (.int .i64 v_r377.2.1.fKind)), .d (.v (.int .u32 v_r377.2.1.fAddr))]]⟩
  | .x1 v_w382 => ⟨[dd, dd, dd, dd, dd, dd, .ref 9 0, dd, dd, .ref 10 0, dd, dd, dd, dd, dd, dd, dd, dd, dd, dd, dd, dd, dd, dd, dd, dd, dd, dd, dd, dd, dd, dd, dd, dd, dd, dd, dd, dd, dd, dd, dd, dd, dd, dd, dd, dd, dd, dd, dd, dd, dd, dd, dd, dd, dd, dd, dd, dd, dd, dd, dd, dd, dd, dd, dd, dd, dd, dd, dd, dd, dd, dd, dd, dd, dd, dd, dd, dd, dd, dd, dd, dd, dd, dd, dd, dd, dd, dd, dd, dd, dd, dd, dd, dd, dd, dd, dd, dd, dd, dd, dd, dd, dd, dd, dd, dd, dd, dd, dd, dd, dd, dd, dd, dd, dd, dd, dd, dd, dd, dd, dd, dd, dd, dd, dd, dd, dd, dd, dd, dd, dd], [.gh 0 (.ref 4 0), .gh 1 (.srf 5), .gh 2 (.ref 6 0), .gh 3 (.srf 8), .box ((cS_api_Regs v_r287).map FV.d), .cu (ifC 36) [.ref 6 0], .box [.d (.v (.int .u32 v_r377.2.2.fAt)), .srf 7, .d (.v (.int .i64 v_r377.2.2.fMay))], .row 5 1 (v_w382.map (eI .u8)), .none, .box [.d (.v (.int .i64 0)), .d (.v (.int .u32 0))], .box [.d (.v (.int .i64 v_r377.2.1.fKind)), .d (.v (.int .u32 v_r377.2.1.fAddr))]]⟩
def G_cpu_memory_h_C1_hd (v_r377 : (Int × S_api_Trap × S_ringref5_Room)) (v_r287 : S_api_Regs) (v_i288 : S_api_Ins)  : PS := ⟨[.ref 4 0, dd, dd, dd, .ref 9 0, dd, .ref 10 0, dd, .d (.v (.int .u32 v_r377.1)), .ref 11 0, dd, dd, dd, dd, dd, dd, dd, dd, dd, dd, dd, dd, dd, dd, dd, dd, dd, dd, dd, dd, dd, dd, dd, dd, dd, dd, dd, dd, .d (.v (.bool (v_r377.2.1.fKind == 0))), dd, dd, dd, dd, dd, dd, dd, dd, dd, dd, dd, dd, dd, dd, dd, dd, dd, dd, dd, dd, dd, dd, dd, dd, dd, dd, dd, dd, dd, dd, dd, dd, dd, dd, dd, dd, dd, dd, dd, dd, dd, dd, dd, dd, dd, dd, dd, dd, dd, dd, dd, dd, dd, dd, dd, dd, dd, dd, dd, dd, dd, dd, dd, dd, dd, dd, dd, dd, dd, dd, dd, dd, dd, dd, dd, dd, dd, dd, dd, dd, dd, dd, dd, dd, dd, dd, dd, dd, dd, dd, dd, dd], [.gh 0 (.ref 4 0), .gh 1 (.srf 5), .gh 2 (.ref 6 0), .gh 3 (.srf 8), .box ((cS_api_Regs v_r287).map FV.d), .cu (ifC 36) [.ref 6 0], .box [.d (.v (.int .u32 v_r377.2.2.fAt)), .srf 7, .d (.v (.int .i64 v_r377.2.2.fMay))], .row 5 1 (v_r377.2.2.fBytes.map (eI .u8)), .none, .box [.d (.v (.int .i64 v_i288.fOp)), .d (.v (.int .i64 v_i288.fA)), .d (.v (.int .i64 v_i288.fB)), .d (.v (.int .i64 v_i288.fC))], .box [.d (.v (.int .i64 0)), .d (.v (.int .u32 0))], .box [.d (.v (.int .i64 v_r377.2.1.fKind)), .d (.v (.int .u32 v_r377.2.1.fAddr))]]⟩
def G_cpu_memory_h_C1 (n : Nat) (v_r377 : (Int × S_api_Trap × S_ringref5_Room)) (v_r287 : S_api_Regs) (v_i288 : S_api_Ins) : Option G_cpu_memory_h_C1_R :=
  if v_r377.2.1.fKind = 0 then
   if 0 ≤ v_i288.fA ∧ v_i288.fA < (8 : Int) then
    (getA v_r287.fR v_i288.fA).bind fun (v_y380 : Int) =>
    some (.x0 v_r377.2.2.fBytes)
   else none
  else
   some (.x1 v_r377.2.2.fBytes)
theorem G_cpu_memory_h_C1_ok {Fi : Ex → PS → Prop} (hF : KC 131 Fi) (ks : List Fr) (n : Nat) (v_r377 : (Int × S_api_Trap × S_ringref5_Room)) (v_r287 : S_api_Regs) (v_i288 : S_api_Ins)  (o : G_cpu_memory_h_C1_R) (h : G_cpu_memory_h_C1 n v_r377 v_r287 v_i288 = some o) (q : RunE Try.prog 131 Fi ks (G_cpu_memory_h_C1_ex o) (G_cpu_memory_h_C1_st v_r377 v_r287 v_i288 o)) : RunE Try.prog 131 Fi (.s (cR (cL (cR (cT (cR (cB (cR (cL (cR (cR (bodyOf Try.f13))))))))))) :: ks) .normal (G_cpu_memory_h_C1_hd v_r377 v_r287 v_i288) := by
  unfold G_cpu_memory_h_C1 at h
  by_cases h970 : v_r377.2.1.fKind = 0
  · rw [if_pos h970] at h
    by_cases h971 : 0 ≤ v_i288.fA ∧ v_i288.fA < (8 : Int)
    · rw [if_pos h971] at h
      obtain ⟨v_y380, h972, h⟩ := bind_some h
      cases h
      exact pkk_sound TTok mix hF 2 (hs := [.t true, .c, .x ((cS_api_Regs (S_api_Regs.mk (setA v_r287.fR v_i288.fA v_r377.1) v_r287.fPc v_r287.fRing)).map FV.d), .c]) (ts := []) (s := [0, 1, 2, 3, 4, 5, 6, 7, 8, 10, 11]) (l := [6, 9]) (by kernel_rfl) (by kernel_rfl) (.cons (bt h970) (.cons h971 (.cons (arr_store (γ := FV) (sz := 1) (g := (fun x => [.d (.v (.int .u32 x))])) (pre := []) (post := [.d (.v (.int .u32 v_r287.fPc)), .d (.v (.int .i64 v_r287.fRing))]) (o := 0) (y := v_r377.1) (zs := [.d (.v (.int .u32 v_r377.1))]) (fun _ => rfl) h972 rfl (Nat.le_of_ble_eq_true rfl)).1 (.cons (arr_store (γ := FV) (sz := 1) (g := (fun x => [.d (.v (.int .u32 x))])) (pre := []) (post := [.d (.v (.int .u32 v_r287.fPc)), .d (.v (.int .i64 v_r287.fRing))]) (o := 0) (y := v_r377.1) (zs := [.d (.v (.int .u32 v_r377.1))]) (fun _ => rfl) h972 rfl (Nat.le_of_ble_eq_true rfl)).2 .nil)))) q
    · rw [if_neg h971] at h; cases h
  · rw [if_neg h970] at h
    cases h
    exact pkk_sound TTok mix hF 2 (hs := [.t false]) (ts := []) (s := [0, 1, 2, 3, 4, 5, 6, 7, 8, 10, 11]) (l := [6, 9]) (by kernel_rfl) (by kernel_rfl) (.cons (bf h970) .nil) q
/- ringhall/cpu.memory -/
def G_cpu_memory_h (n : Nat) (v_r287 : S_api_Regs) (v_i288 : S_api_Ins) (v_b289 : S_ringref5_Room) : Option (S_api_Trap × S_api_Regs × S_ringref5_Room) :=
  if 0 ≤ v_i288.fB ∧ v_i288.fB < (8 : Int) then
   (getA v_r287.fR v_i288.fB).bind fun (v_y290 : Int) =>
   if v_i288.fOp = 15 then
    (G_cpu_fetch_h n v_b289 (wi .u32 (v_y290 + (wi .u32 v_i288.fC))) 1).bind fun (v_r377 : (Int × S_api_Trap × S_ringref5_Room)) =>
    (G_cpu_memory_h_C1 n v_r377 v_r287 v_i288).bind fun v_o383 => match v_o383 with
    | .x0 v_z384 =>
      some (v_r377.2.1, (S_api_Regs.mk (setA v_r287.fR v_i288.fA v_r377.1) v_r287.fPc v_r287.fRing), (S_ringref5_Room.mk v_r377.2.2.fAt v_z384 v_r377.2.2.fMay))
    | .x1 v_z385 =>
      some (v_r377.2.1, v_r287, (S_ringref5_Room.mk v_r377.2.2.fAt v_z385 v_r377.2.2.fMay))
   else
    if v_i288.fOp = 16 then
     (G_ringref5_Room_Load_h n v_b289 (wi .u32 (v_y290 + (wi .u32 v_i288.fC))) 1).bind fun (v_r392 : (Int × Int × S_ringref5_Room)) =>
     if v_r392.2.1 = 0 then
      if 0 ≤ v_i288.fA ∧ v_i288.fA < (8 : Int) then
       (getA v_r287.fR v_i288.fA).bind fun (v_y393 : Int) =>
       some ((S_api_Trap.mk 0 0), (S_api_Regs.mk (setA v_r287.fR v_i288.fA (wi .u32 v_r392.1)) v_r287.fPc v_r287.fRing), v_r392.2.2)
      else none
     else
      some ((S_api_Trap.mk 2 (wi .u32 (v_y290 + (wi .u32 v_i288.fC)))), v_r287, v_r392.2.2)
    else
     if v_i288.fOp = 17 then
      if 0 ≤ v_i288.fA ∧ v_i288.fA < (8 : Int) then
       (getA v_r287.fR v_i288.fA).bind fun (v_y398 : Int) =>
       (G_cpu_put_h n v_b289 (wi .u32 (v_y290 + (wi .u32 v_i288.fC))) v_y398).bind fun (v_r399 : (S_api_Trap × S_ringref5_Room)) =>
       some (v_r399.1, v_r287, v_r399.2)
      else none
     else
      if v_i288.fOp = 18 then
       if 0 ≤ v_i288.fA ∧ v_i288.fA < (8 : Int) then
        (getA v_r287.fR v_i288.fA).bind fun (v_y402 : Int) =>
        (G_ringref5_Room_Store_h n v_b289 (wi .u32 (v_y290 + (wi .u32 v_i288.fC))) (wi .u8 v_y402)).bind fun (v_r403 : (Int × S_ringref5_Room)) =>
        if v_r403.1 = 0 then
         some ((S_api_Trap.mk 0 0), v_r287, v_r403.2)
        else
         some ((S_api_Trap.mk 2 (wi .u32 (v_y290 + (wi .u32 v_i288.fC)))), v_r287, v_r403.2)
       else none
      else
       (G_cpu_fetch_h n v_b289 (wi .u32 (v_y290 + (wi .u32 v_i288.fC))) 1).bind fun (v_r404 : (Int × S_api_Trap × S_ringref5_Room)) =>
       if v_r404.2.1.fKind = 0 then
        if 0 ≤ v_i288.fA ∧ v_i288.fA < (8 : Int) then
         (getA v_r287.fR v_i288.fA).bind fun (v_y407 : Int) =>
         (G_cpu_put_h n v_r404.2.2 (wi .u32 (v_y290 + (wi .u32 v_i288.fC))) v_y407).bind fun (v_r408 : (S_api_Trap × S_ringref5_Room)) =>
         if v_r408.1.fKind = 0 then
          if 0 ≤ v_i288.fA ∧ v_i288.fA < (8 : Int) then
           (getA v_r287.fR v_i288.fA).bind fun (v_y410 : Int) =>
           some (v_r408.1, (S_api_Regs.mk (setA v_r287.fR v_i288.fA v_r404.1) v_r287.fPc v_r287.fRing), v_r408.2)
          else none
         else
          some (v_r408.1, v_r287, v_r408.2)
        else none
       else
        some (v_r404.2.1, v_r287, v_r404.2.2)
  else none
theorem G_cpu_memory_h_ok (n : Nat) (v_r287 : S_api_Regs) (v_i288 : S_api_Ins) (v_b289 : S_ringref5_Room) (r : S_api_Trap × S_api_Regs × S_ringref5_Room) (h : G_cpu_memory_h n v_r287 v_i288 v_b289 = some r) : RetH Try.prog 13 [.ref 0 0, .d (eS_api_Ins v_i288), .srf 1] [.box ((cS_api_Regs v_r287).map FV.d), .cu (ifC 36) [.ref 2 0], .box [.d (.v (.int .u32 v_b289.fAt)), .srf 3, .d (.v (.int .i64 v_b289.fMay))], .row 5 1 (v_b289.fBytes.map (eI .u8))] (.d (eS_api_Trap r.1)) [.box ((cS_api_Regs r.2.1).map FV.d), .cu (ifC 36) [.ref 2 0], .box [.d (.v (.int .u32 r.2.2.fAt)), .srf 4, .d (.v (.int .i64 r.2.2.fMay))], .none, .row 5 1 (r.2.2.fBytes.map (eI .u8))] := by
  refine retH_run (n := 131) (fn := Try.f13) (c := bodyOf Try.f13) (by kernel_rfl) (by kernel_rfl) (by kernel_rfl) (by kernel_rfl) ?_
  have hF : KC 131 (FinH Try.prog Try.f13 [.box ((cS_api_Regs v_r287).map FV.d), .cu (ifC 36) [.ref 2 0], .box [.d (.v (.int .u32 v_b289.fAt)), .srf 3, .d (.v (.int .i64 v_b289.fMay))], .row 5 1 (v_b289.fBytes.map (eI .u8))] (.d (eS_api_Trap r.1)) [.box ((cS_api_Regs r.2.1).map FV.d), .cu (ifC 36) [.ref 2 0], .box [.d (.v (.int .u32 r.2.2.fAt)), .srf 4, .d (.v (.int .i64 r.2.2.fMay))], .none, .row 5 1 (r.2.2.fBytes.map (eI .u8))]) := FinH.kc' (by kernel_rfl)
  unfold G_cpu_memory_h at h
  by_cases h823 : 0 ≤ v_i288.fB ∧ v_i288.fB < (8 : Int)
  · rw [if_pos h823] at h
    obtain ⟨v_y290, h824, h⟩ := bind_some h
    by_cases h965 : v_i288.fOp = 15
    · rw [if_pos h965] at h
      obtain ⟨v_r377, h966, h⟩ := bind_some h
      obtain ⟨v_o383, h973, h⟩ := bind_some h
      refine pkk_sound TTok mix hF 16 (hs := [.c, .l (.d (.v (.int .u32 v_y290))), .c, .c, .t true, .h [1, 2, 3] [] [.cu (ifC 36) [.ref 1 0], .box [.d (.v (.int .u32 v_r377.2.2.fAt)), .srf 3, .d (.v (.int .i64 v_r377.2.2.fMay))], .none, .row 5 1 (v_r377.2.2.fBytes.map (eI .u8))] (.tup [.d (.v (.int .u32 v_r377.1)), .d (.agg [.v (.int .i64 v_r377.2.1.fKind), .v (.int .u32 v_r377.2.1.fAddr)])]), .c, .c]) (ts := []) (s := [4, 5, 6, 7, 0, 1, 2, 108, 3, 8, 13, 128]) (l := [0, 4, 6, 8, 9, 38]) (by kernel_rfl) (by kernel_rfl) (.cons h823 (.cons (arr_cell (γ := FV) (sz := 1) (g := (fun x => [.d (.v (.int .u32 x))])) (pre := []) (post := [.d (.v (.int .u32 v_r287.fPc)), .d (.v (.int .i64 v_r287.fRing))]) (o := 0) (fun _ => rfl) h824 rfl) (.cons (bt h965) (.cons (G_cpu_fetch_h_ok n v_b289 (wi .u32 (v_y290 + (wi .u32 v_i288.fC))) 1 _ h966) (.cons (show 0 + 2 ≤ 2 by decide) .nil))))) (G_cpu_memory_h_C1_ok hF (.s (cR (cR (cT (cR (cB (cR (cL (cR (cR (bodyOf Try.f13)))))))))) :: .b 0 :: .s (cR (cR (cR (bodyOf Try.f13)))) :: []) n v_r377 v_r287 v_i288 _ h973 ?_)
      cases v_o383 with
      | x0 v_z384 =>
        try dsimp only at h
        obtain rfl := Option.some.inj h
        exact pendH_sound TTok mix 5 (hs := [.c, .c]) [4, 5, 6, 8, 7] (by kernel_rfl) (by kernel_rfl) (by kernel_rfl) (.cons (show 0 + 2 ≤ 2 by decide) .nil)
      | x1 v_z385 =>
        try dsimp only at h
        obtain rfl := Option.some.inj h
        exact pendH_sound TTok mix 5 (hs := [.c, .c]) [4, 5, 6, 8, 7] (by kernel_rfl) (by kernel_rfl) (by kernel_rfl) (.cons (show 0 + 2 ≤ 2 by decide) .nil)
    · rw [if_neg h965] at h
      by_cases h990 : v_i288.fOp = 16
      · rw [if_pos h990] at h
        obtain ⟨v_r392, h991, h⟩ := bind_some h
        by_cases h993 : v_r392.2.1 = 0
        · rw [if_pos h993] at h
          by_cases h994 : 0 ≤ v_i288.fA ∧ v_i288.fA < (8 : Int)
          · rw [if_pos h994] at h
            obtain ⟨v_y393, h995, h⟩ := bind_some h
            obtain rfl := Option.some.inj h
            exact pendH_sound TTok mix 28 (hs := [.c, .l (.d (.v (.int .u32 v_y290))), .c, .c, .t false, .t true, .e 118 [1, 2, 3, 118] (.tup [.d (.v (.int .u8 v_r392.1)), .d (.v (.int .i64 v_r392.2.1))]) [(2, .box [.d (.v (.int .u32 v_r392.2.2.fAt)), .srf 118, .d (.v (.int .i64 v_r392.2.2.fMay))]), (3, .none), (118, .row 5 1 (v_r392.2.2.fBytes.map (eI .u8)))], .t false, .c, .x ((cS_api_Regs (S_api_Regs.mk (setA v_r287.fR v_i288.fA (wi .u32 v_r392.1)) v_r287.fPc v_r287.fRing)).map FV.d), .c, .c]) [0, 1, 2, 3, 118] (by kernel_rfl) (by kernel_rfl) (by kernel_rfl) (.cons h823 (.cons (arr_cell (γ := FV) (sz := 1) (g := (fun x => [.d (.v (.int .u32 x))])) (pre := []) (post := [.d (.v (.int .u32 v_r287.fPc)), .d (.v (.int .i64 v_r287.fRing))]) (o := 0) (fun _ => rfl) h824 rfl) (.cons (bf h965) (.cons (bt h990) (.cons (icall (P := Try.prog) (T := TT) (x := (.tmp 50)) (args := #[(.tmp 51), (.const (.int .i64 1))]) (tys := #[22, 3]) (name := "Load") (t := 36) (l := 2) (off := 0) (I := 1) (vs := [.d (.v (.int .u32 (wi .u32 (v_y290 + (wi .u32 v_i288.fC))))), .d (.v (.int .i64 1))]) (ms := [(2, .box [.d (.v (.int .u32 v_b289.fAt)), .srf 3, .d (.v (.int .i64 v_b289.fMay))]), (3, .row 5 1 (v_b289.fBytes.map (eI .u8)))]) (g := 22) (τ := [2, 3, 118]) (m2 := [.box [.d (.v (.int .u32 v_r392.2.2.fAt)), .srf 2, .d (.v (.int .i64 v_r392.2.2.fMay))], .none, .row 5 1 (v_r392.2.2.fBytes.map (eI .u8))]) (r := .tup [.d (.v (.int .u8 v_r392.1)), .d (.v (.int .i64 v_r392.2.1))]) (nl := 118) (by kernel_rfl) rfl rfl rfl rfl (Nat.le_of_ble_eq_true rfl) (G_ringref5_Room_Load_h_ok n v_b289 (wi .u32 (v_y290 + (wi .u32 v_i288.fC))) 1 _ h991)) (.cons (nf h993) (.cons h994 (.cons (arr_store (γ := FV) (sz := 1) (g := (fun x => [.d (.v (.int .u32 x))])) (pre := []) (post := [.d (.v (.int .u32 v_r287.fPc)), .d (.v (.int .i64 v_r287.fRing))]) (o := 0) (y := (wi .u32 v_r392.1)) (zs := [.d (.v (.int .u32 (wi .u32 v_r392.1)))]) (fun _ => rfl) h995 rfl (Nat.le_of_ble_eq_true rfl)).1 (.cons (arr_store (γ := FV) (sz := 1) (g := (fun x => [.d (.v (.int .u32 x))])) (pre := []) (post := [.d (.v (.int .u32 v_r287.fPc)), .d (.v (.int .i64 v_r287.fRing))]) (o := 0) (y := (wi .u32 v_r392.1)) (zs := [.d (.v (.int .u32 (wi .u32 v_r392.1)))]) (fun _ => rfl) h995 rfl (Nat.le_of_ble_eq_true rfl)).2 (.cons (show 0 + 2 ≤ 2 by decide) .nil))))))))))
          · rw [if_neg h994] at h; cases h
        · rw [if_neg h993] at h
          obtain rfl := Option.some.inj h
          exact pendH_sound TTok mix 26 (hs := [.c, .l (.d (.v (.int .u32 v_y290))), .c, .c, .t false, .t true, .e 118 [1, 2, 3, 118] (.tup [.d (.v (.int .u8 v_r392.1)), .d (.v (.int .i64 v_r392.2.1))]) [(2, .box [.d (.v (.int .u32 v_r392.2.2.fAt)), .srf 118, .d (.v (.int .i64 v_r392.2.2.fMay))]), (3, .none), (118, .row 5 1 (v_r392.2.2.fBytes.map (eI .u8)))], .t true, .c]) [0, 1, 2, 3, 118] (by kernel_rfl) (by kernel_rfl) (by kernel_rfl) (.cons h823 (.cons (arr_cell (γ := FV) (sz := 1) (g := (fun x => [.d (.v (.int .u32 x))])) (pre := []) (post := [.d (.v (.int .u32 v_r287.fPc)), .d (.v (.int .i64 v_r287.fRing))]) (o := 0) (fun _ => rfl) h824 rfl) (.cons (bf h965) (.cons (bt h990) (.cons (icall (P := Try.prog) (T := TT) (x := (.tmp 50)) (args := #[(.tmp 51), (.const (.int .i64 1))]) (tys := #[22, 3]) (name := "Load") (t := 36) (l := 2) (off := 0) (I := 1) (vs := [.d (.v (.int .u32 (wi .u32 (v_y290 + (wi .u32 v_i288.fC))))), .d (.v (.int .i64 1))]) (ms := [(2, .box [.d (.v (.int .u32 v_b289.fAt)), .srf 3, .d (.v (.int .i64 v_b289.fMay))]), (3, .row 5 1 (v_b289.fBytes.map (eI .u8)))]) (g := 22) (τ := [2, 3, 118]) (m2 := [.box [.d (.v (.int .u32 v_r392.2.2.fAt)), .srf 2, .d (.v (.int .i64 v_r392.2.2.fMay))], .none, .row 5 1 (v_r392.2.2.fBytes.map (eI .u8))]) (r := .tup [.d (.v (.int .u8 v_r392.1)), .d (.v (.int .i64 v_r392.2.1))]) (nl := 118) (by kernel_rfl) rfl rfl rfl rfl (Nat.le_of_ble_eq_true rfl) (G_ringref5_Room_Load_h_ok n v_b289 (wi .u32 (v_y290 + (wi .u32 v_i288.fC))) 1 _ h991)) (.cons (nt h993) (.cons (show 0 + 2 ≤ 2 by decide) .nil)))))))
      · rw [if_neg h990] at h
        by_cases h1006 : v_i288.fOp = 17
        · rw [if_pos h1006] at h
          by_cases h1007 : 0 ≤ v_i288.fA ∧ v_i288.fA < (8 : Int)
          · rw [if_pos h1007] at h
            obtain ⟨v_y398, h1008, h⟩ := bind_some h
            obtain ⟨v_r399, h1009, h⟩ := bind_some h
            obtain rfl := Option.some.inj h
            exact pendH_sound TTok mix 22 (hs := [.c, .l (.d (.v (.int .u32 v_y290))), .c, .c, .t false, .t false, .t true, .c, .l (.d (.v (.int .u32 v_y398))), .h [1, 2, 3] [] [.cu (ifC 36) [.ref 1 0], .box [.d (.v (.int .u32 v_r399.2.fAt)), .srf 3, .d (.v (.int .i64 v_r399.2.fMay))], .none, .row 5 1 (v_r399.2.fBytes.map (eI .u8))] (.d (.agg [.v (.int .i64 v_r399.1.fKind), .v (.int .u32 v_r399.1.fAddr)])), .c]) [0, 1, 2, 3, 163] (by kernel_rfl) (by kernel_rfl) (by kernel_rfl) (.cons h823 (.cons (arr_cell (γ := FV) (sz := 1) (g := (fun x => [.d (.v (.int .u32 x))])) (pre := []) (post := [.d (.v (.int .u32 v_r287.fPc)), .d (.v (.int .i64 v_r287.fRing))]) (o := 0) (fun _ => rfl) h824 rfl) (.cons (bf h965) (.cons (bf h990) (.cons (bt h1006) (.cons h1007 (.cons (arr_cell (γ := FV) (sz := 1) (g := (fun x => [.d (.v (.int .u32 x))])) (pre := []) (post := [.d (.v (.int .u32 v_r287.fPc)), .d (.v (.int .i64 v_r287.fRing))]) (o := 0) (fun _ => rfl) h1008 rfl) (.cons (G_cpu_put_h_ok n v_b289 (wi .u32 (v_y290 + (wi .u32 v_i288.fC))) v_y398 _ h1009) (.cons (show 0 + 2 ≤ 2 by decide) .nil)))))))))
          · rw [if_neg h1007] at h; cases h
        · rw [if_neg h1006] at h
          by_cases h1016 : v_i288.fOp = 18
          · rw [if_pos h1016] at h
            by_cases h1017 : 0 ≤ v_i288.fA ∧ v_i288.fA < (8 : Int)
            · rw [if_pos h1017] at h
              obtain ⟨v_y402, h1018, h⟩ := bind_some h
              obtain ⟨v_r403, h1019, h⟩ := bind_some h
              by_cases h1021 : v_r403.1 = 0
              · rw [if_pos h1021] at h
                obtain rfl := Option.some.inj h
                exact pendH_sound TTok mix 32 (hs := [.c, .l (.d (.v (.int .u32 v_y290))), .c, .c, .t false, .t false, .t false, .t true, .c, .l (.d (.v (.int .u32 v_y402))), .e 178 [178] (.srf 178) [(178, .cu (mfC "Store") [.srf 1])], .e 183 [178, 1] (dd) [], .e 193 [1, 2, 3, 193] (.d (.v (.int .i64 v_r403.1))) [(2, .box [.d (.v (.int .u32 v_r403.2.fAt)), .srf 193, .d (.v (.int .i64 v_r403.2.fMay))]), (3, .none), (193, .row 5 1 (v_r403.2.fBytes.map (eI .u8)))], .t false, .c]) [0, 1, 2, 3, 193] (by kernel_rfl) (by kernel_rfl) (by kernel_rfl) (.cons h823 (.cons (arr_cell (γ := FV) (sz := 1) (g := (fun x => [.d (.v (.int .u32 x))])) (pre := []) (post := [.d (.v (.int .u32 v_r287.fPc)), .d (.v (.int .i64 v_r287.fRing))]) (o := 0) (fun _ => rfl) h824 rfl) (.cons (bf h965) (.cons (bf h990) (.cons (bf h1006) (.cons (bt h1016) (.cons h1017 (.cons (arr_cell (γ := FV) (sz := 1) (g := (fun x => [.d (.v (.int .u32 x))])) (pre := []) (post := [.d (.v (.int .u32 v_r287.fPc)), .d (.v (.int .i64 v_r287.fRing))]) (o := 0) (fun _ => rfl) h1018 rfl) (.cons (ymkF (P := Try.prog) (T := TT) (name := "Store") (I := 1) (nl := 178) (x := (.tmp 82))) (.cons (ynilF (P := Try.prog) (T := TT) (name := "Store") (I := 1) (M := 178) (t := 36) (fs := [.ref 2 0]) (g := 24) (x := (.tmp 92)) (by kernel_rfl)) (.cons (icall (P := Try.prog) (T := TT) (x := (.tmp 94)) (args := #[(.tmp 83), (.tmp 91)]) (tys := #[22, 5]) (name := "Store") (t := 36) (l := 2) (off := 0) (I := 1) (vs := [.d (.v (.int .u32 (wi .u32 (v_y290 + (wi .u32 v_i288.fC))))), .d (.v (.int .u8 (wi .u8 v_y402)))]) (ms := [(2, .box [.d (.v (.int .u32 v_b289.fAt)), .srf 3, .d (.v (.int .i64 v_b289.fMay))]), (3, .row 5 1 (v_b289.fBytes.map (eI .u8)))]) (g := 24) (τ := [2, 3, 193]) (m2 := [.box [.d (.v (.int .u32 v_r403.2.fAt)), .srf 2, .d (.v (.int .i64 v_r403.2.fMay))], .none, .row 5 1 (v_r403.2.fBytes.map (eI .u8))]) (r := .d (.v (.int .i64 v_r403.1))) (nl := 193) (by kernel_rfl) rfl rfl rfl rfl (Nat.le_of_ble_eq_true rfl) (G_ringref5_Room_Store_h_ok n v_b289 (wi .u32 (v_y290 + (wi .u32 v_i288.fC))) (wi .u8 v_y402) _ h1019)) (.cons (nf h1021) (.cons (show 0 + 2 ≤ 2 by decide) .nil)))))))))))))
              · rw [if_neg h1021] at h
                obtain rfl := Option.some.inj h
                exact pendH_sound TTok mix 32 (hs := [.c, .l (.d (.v (.int .u32 v_y290))), .c, .c, .t false, .t false, .t false, .t true, .c, .l (.d (.v (.int .u32 v_y402))), .e 178 [178] (.srf 178) [(178, .cu (mfC "Store") [.srf 1])], .e 183 [178, 1] (dd) [], .e 193 [1, 2, 3, 193] (.d (.v (.int .i64 v_r403.1))) [(2, .box [.d (.v (.int .u32 v_r403.2.fAt)), .srf 193, .d (.v (.int .i64 v_r403.2.fMay))]), (3, .none), (193, .row 5 1 (v_r403.2.fBytes.map (eI .u8)))], .t true, .c]) [0, 1, 2, 3, 193] (by kernel_rfl) (by kernel_rfl) (by kernel_rfl) (.cons h823 (.cons (arr_cell (γ := FV) (sz := 1) (g := (fun x => [.d (.v (.int .u32 x))])) (pre := []) (post := [.d (.v (.int .u32 v_r287.fPc)), .d (.v (.int .i64 v_r287.fRing))]) (o := 0) (fun _ => rfl) h824 rfl) (.cons (bf h965) (.cons (bf h990) (.cons (bf h1006) (.cons (bt h1016) (.cons h1017 (.cons (arr_cell (γ := FV) (sz := 1) (g := (fun x => [.d (.v (.int .u32 x))])) (pre := []) (post := [.d (.v (.int .u32 v_r287.fPc)), .d (.v (.int .i64 v_r287.fRing))]) (o := 0) (fun _ => rfl) h1018 rfl) (.cons (ymkF (P := Try.prog) (T := TT) (name := "Store") (I := 1) (nl := 178) (x := (.tmp 82))) (.cons (ynilF (P := Try.prog) (T := TT) (name := "Store") (I := 1) (M := 178) (t := 36) (fs := [.ref 2 0]) (g := 24) (x := (.tmp 92)) (by kernel_rfl)) (.cons (icall (P := Try.prog) (T := TT) (x := (.tmp 94)) (args := #[(.tmp 83), (.tmp 91)]) (tys := #[22, 5]) (name := "Store") (t := 36) (l := 2) (off := 0) (I := 1) (vs := [.d (.v (.int .u32 (wi .u32 (v_y290 + (wi .u32 v_i288.fC))))), .d (.v (.int .u8 (wi .u8 v_y402)))]) (ms := [(2, .box [.d (.v (.int .u32 v_b289.fAt)), .srf 3, .d (.v (.int .i64 v_b289.fMay))]), (3, .row 5 1 (v_b289.fBytes.map (eI .u8)))]) (g := 24) (τ := [2, 3, 193]) (m2 := [.box [.d (.v (.int .u32 v_r403.2.fAt)), .srf 2, .d (.v (.int .i64 v_r403.2.fMay))], .none, .row 5 1 (v_r403.2.fBytes.map (eI .u8))]) (r := .d (.v (.int .i64 v_r403.1))) (nl := 193) (by kernel_rfl) rfl rfl rfl rfl (Nat.le_of_ble_eq_true rfl) (G_ringref5_Room_Store_h_ok n v_b289 (wi .u32 (v_y290 + (wi .u32 v_i288.fC))) (wi .u8 v_y402) _ h1019)) (.cons (nt h1021) (.cons (show 0 + 2 ≤ 2 by decide) .nil)))))))))))))
            · rw [if_neg h1017] at h; cases h
          · rw [if_neg h1016] at h
            obtain ⟨v_r404, h1022, h⟩ := bind_some h
            by_cases h1027 : v_r404.2.1.fKind = 0
            · rw [if_pos h1027] at h
              by_cases h1028 : 0 ≤ v_i288.fA ∧ v_i288.fA < (8 : Int)
              · rw [if_pos h1028] at h
                obtain ⟨v_y407, h1029, h⟩ := bind_some h
                obtain ⟨v_r408, h1030, h⟩ := bind_some h
                by_cases h1034 : v_r408.1.fKind = 0
                · rw [if_pos h1034] at h
                  by_cases h1035 : 0 ≤ v_i288.fA ∧ v_i288.fA < (8 : Int)
                  · rw [if_pos h1035] at h
                    obtain ⟨v_y410, h1036, h⟩ := bind_some h
                    obtain rfl := Option.some.inj h
                    exact pendH_sound TTok mix 37 (hs := [.c, .l (.d (.v (.int .u32 v_y290))), .c, .c, .t false, .t false, .t false, .t false, .h [1, 2, 3] [] [.cu (ifC 36) [.ref 1 0], .box [.d (.v (.int .u32 v_r404.2.2.fAt)), .srf 3, .d (.v (.int .i64 v_r404.2.2.fMay))], .none, .row 5 1 (v_r404.2.2.fBytes.map (eI .u8))] (.tup [.d (.v (.int .u32 v_r404.1)), .d (.agg [.v (.int .i64 v_r404.2.1.fKind), .v (.int .u32 v_r404.2.1.fAddr)])]), .c, .c, .t true, .c, .l (.d (.v (.int .u32 v_y407))), .h [1, 2, 138] [] [.cu (ifC 36) [.ref 1 0], .box [.d (.v (.int .u32 v_r408.2.fAt)), .srf 3, .d (.v (.int .i64 v_r408.2.fMay))], .none, .row 5 1 (v_r408.2.fBytes.map (eI .u8))] (.d (.agg [.v (.int .i64 v_r408.1.fKind), .v (.int .u32 v_r408.1.fAddr)])), .c, .c, .t true, .c, .x ((cS_api_Regs (S_api_Regs.mk (setA v_r287.fR v_i288.fA v_r404.1) v_r287.fPc v_r287.fRing)).map FV.d), .c, .c, .c]) [0, 1, 2, 3, 233] (by kernel_rfl) (by kernel_rfl) (by kernel_rfl) (.cons h823 (.cons (arr_cell (γ := FV) (sz := 1) (g := (fun x => [.d (.v (.int .u32 x))])) (pre := []) (post := [.d (.v (.int .u32 v_r287.fPc)), .d (.v (.int .i64 v_r287.fRing))]) (o := 0) (fun _ => rfl) h824 rfl) (.cons (bf h965) (.cons (bf h990) (.cons (bf h1006) (.cons (bf h1016) (.cons (G_cpu_fetch_h_ok n v_b289 (wi .u32 (v_y290 + (wi .u32 v_i288.fC))) 1 _ h1022) (.cons (show 0 + 2 ≤ 2 by decide) (.cons (bt h1027) (.cons h1028 (.cons (arr_cell (γ := FV) (sz := 1) (g := (fun x => [.d (.v (.int .u32 x))])) (pre := []) (post := [.d (.v (.int .u32 v_r287.fPc)), .d (.v (.int .i64 v_r287.fRing))]) (o := 0) (fun _ => rfl) h1029 rfl) (.cons (G_cpu_put_h_ok n v_r404.2.2 (wi .u32 (v_y290 + (wi .u32 v_i288.fC))) v_y407 _ h1030) (.cons (show 0 + 2 ≤ 2 by decide) (.cons (bt h1034) (.cons h1035 (.cons (arr_store (γ := FV) (sz := 1) (g := (fun x => [.d (.v (.int .u32 x))])) (pre := []) (post := [.d (.v (.int .u32 v_r287.fPc)), .d (.v (.int .i64 v_r287.fRing))]) (o := 0) (y := v_r404.1) (zs := [.d (.v (.int .u32 v_r404.1))]) (fun _ => rfl) h1036 rfl (Nat.le_of_ble_eq_true rfl)).1 (.cons (arr_store (γ := FV) (sz := 1) (g := (fun x => [.d (.v (.int .u32 x))])) (pre := []) (post := [.d (.v (.int .u32 v_r287.fPc)), .d (.v (.int .i64 v_r287.fRing))]) (o := 0) (y := v_r404.1) (zs := [.d (.v (.int .u32 v_r404.1))]) (fun _ => rfl) h1036 rfl (Nat.le_of_ble_eq_true rfl)).2 (.cons (show 0 + 2 ≤ 2 by decide) .nil))))))))))))))))))
                  · rw [if_neg h1035] at h; cases h
                · rw [if_neg h1034] at h
                  obtain rfl := Option.some.inj h
                  exact pendH_sound TTok mix 37 (hs := [.c, .l (.d (.v (.int .u32 v_y290))), .c, .c, .t false, .t false, .t false, .t false, .h [1, 2, 3] [] [.cu (ifC 36) [.ref 1 0], .box [.d (.v (.int .u32 v_r404.2.2.fAt)), .srf 3, .d (.v (.int .i64 v_r404.2.2.fMay))], .none, .row 5 1 (v_r404.2.2.fBytes.map (eI .u8))] (.tup [.d (.v (.int .u32 v_r404.1)), .d (.agg [.v (.int .i64 v_r404.2.1.fKind), .v (.int .u32 v_r404.2.1.fAddr)])]), .c, .c, .t true, .c, .l (.d (.v (.int .u32 v_y407))), .h [1, 2, 138] [] [.cu (ifC 36) [.ref 1 0], .box [.d (.v (.int .u32 v_r408.2.fAt)), .srf 3, .d (.v (.int .i64 v_r408.2.fMay))], .none, .row 5 1 (v_r408.2.fBytes.map (eI .u8))] (.d (.agg [.v (.int .i64 v_r408.1.fKind), .v (.int .u32 v_r408.1.fAddr)])), .c, .c, .t false, .c, .c]) [0, 1, 2, 3, 233] (by kernel_rfl) (by kernel_rfl) (by kernel_rfl) (.cons h823 (.cons (arr_cell (γ := FV) (sz := 1) (g := (fun x => [.d (.v (.int .u32 x))])) (pre := []) (post := [.d (.v (.int .u32 v_r287.fPc)), .d (.v (.int .i64 v_r287.fRing))]) (o := 0) (fun _ => rfl) h824 rfl) (.cons (bf h965) (.cons (bf h990) (.cons (bf h1006) (.cons (bf h1016) (.cons (G_cpu_fetch_h_ok n v_b289 (wi .u32 (v_y290 + (wi .u32 v_i288.fC))) 1 _ h1022) (.cons (show 0 + 2 ≤ 2 by decide) (.cons (bt h1027) (.cons h1028 (.cons (arr_cell (γ := FV) (sz := 1) (g := (fun x => [.d (.v (.int .u32 x))])) (pre := []) (post := [.d (.v (.int .u32 v_r287.fPc)), .d (.v (.int .i64 v_r287.fRing))]) (o := 0) (fun _ => rfl) h1029 rfl) (.cons (G_cpu_put_h_ok n v_r404.2.2 (wi .u32 (v_y290 + (wi .u32 v_i288.fC))) v_y407 _ h1030) (.cons (show 0 + 2 ≤ 2 by decide) (.cons (bf h1034) (.cons (show 0 + 2 ≤ 2 by decide) .nil)))))))))))))))
              · rw [if_neg h1028] at h; cases h
            · rw [if_neg h1027] at h
              obtain rfl := Option.some.inj h
              exact pendH_sound TTok mix 37 (hs := [.c, .l (.d (.v (.int .u32 v_y290))), .c, .c, .t false, .t false, .t false, .t false, .h [1, 2, 3] [] [.cu (ifC 36) [.ref 1 0], .box [.d (.v (.int .u32 v_r404.2.2.fAt)), .srf 3, .d (.v (.int .i64 v_r404.2.2.fMay))], .none, .row 5 1 (v_r404.2.2.fBytes.map (eI .u8))] (.tup [.d (.v (.int .u32 v_r404.1)), .d (.agg [.v (.int .i64 v_r404.2.1.fKind), .v (.int .u32 v_r404.2.1.fAddr)])]), .c, .c, .t false, .c, .t false, .c, .c]) [0, 1, 2, 3, 138] (by kernel_rfl) (by kernel_rfl) (by kernel_rfl) (.cons h823 (.cons (arr_cell (γ := FV) (sz := 1) (g := (fun x => [.d (.v (.int .u32 x))])) (pre := []) (post := [.d (.v (.int .u32 v_r287.fPc)), .d (.v (.int .i64 v_r287.fRing))]) (o := 0) (fun _ => rfl) h824 rfl) (.cons (bf h965) (.cons (bf h990) (.cons (bf h1006) (.cons (bf h1016) (.cons (G_cpu_fetch_h_ok n v_b289 (wi .u32 (v_y290 + (wi .u32 v_i288.fC))) 1 _ h1022) (.cons (show 0 + 2 ≤ 2 by decide) (.cons (bf h1027) (.cons (bf h1027) (.cons (show 0 + 2 ≤ 2 by decide) .nil)))))))))))
  · rw [if_neg h823] at h; cases h
inductive G_cpu_jump_h_C1_R where
  | x0 (v_x427 : Bool)
def G_cpu_jump_h_C1_ex : G_cpu_jump_h_C1_R → Ex
  | .x0 _ => .normal
def G_cpu_jump_h_C1_st (v_at415 : Int) (v_i414 : S_api_Ins) (v_r413 : S_api_Regs) : G_cpu_jump_h_C1_R → PS
  | .x0 v_x427 => ⟨[.ref 1 0, dd, .d (.v (.int .u32 v_at415)), dd, .ref 2 0, dd, .d (.v (.int .u32 (wi .u32 (v_at415 + (wi .u32 v_i414.fC))))), dd, dd, dd, dd, dd, .d (.v (.bool v_x427)), dd, dd, dd, dd, dd, dd, dd, dd, dd, dd, dd, dd, dd, dd, dd, dd, dd, dd, dd, dd, dd, dd, dd, dd, dd, dd, dd, dd, dd, dd, dd, dd, dd, dd, dd, dd, dd, dd, dd, dd, dd, dd, dd, dd, dd, dd, dd, dd, dd, dd, dd, dd, dd, dd, dd, dd, dd, dd, dd, dd, dd, dd, dd, dd, dd, dd, dd, dd, dd, dd], [.gh 0 (.ref 1 0), .box ((cS_api_Regs v_r413).map FV.d), .box [.d (.v (.int .i64 v_i414.fOp)), .d (.v (.int .i64 v_i414.fA)), .d (.v (.int .i64 v_i414.fB)), .d (.v (.int .i64 v_i414.fC))]]⟩
def G_cpu_jump_h_C1_hd (v_at415 : Int) (v_i414 : S_api_Ins) (v_r413 : S_api_Regs)  : PS := ⟨[.ref 1 0, dd, .d (.v (.int .u32 v_at415)), dd, .ref 2 0, dd, .d (.v (.int .u32 (wi .u32 (v_at415 + (wi .u32 v_i414.fC))))), dd, dd, dd, dd, dd, .d (.v (.bool (v_i414.fOp == 19))), dd, dd, dd, dd, dd, dd, dd, dd, dd, dd, dd, dd, dd, dd, dd, dd, dd, dd, dd, dd, dd, dd, dd, dd, dd, dd, dd, dd, dd, dd, dd, dd, dd, dd, dd, dd, dd, dd, dd, dd, dd, dd, dd, dd, dd, dd, dd, dd, dd, dd, dd, dd, dd, dd, dd, dd, dd, dd, dd, dd, dd, dd, dd, dd, dd, dd, dd, dd, dd, dd], [.gh 0 (.ref 1 0), .box ((cS_api_Regs v_r413).map FV.d), .box [.d (.v (.int .i64 v_i414.fOp)), .d (.v (.int .i64 v_i414.fA)), .d (.v (.int .i64 v_i414.fB)), .d (.v (.int .i64 v_i414.fC))]]⟩
def G_cpu_jump_h_C1 (n : Nat) (v_at415 : Int) (v_i414 : S_api_Ins) (v_r413 : S_api_Regs) : Option G_cpu_jump_h_C1_R :=
  if v_i414.fOp = 19 then
   some (.x0 true)
  else
   if v_i414.fOp = 20 then
    if 0 ≤ v_i414.fA ∧ v_i414.fA < (8 : Int) then
     (getA v_r413.fR v_i414.fA).bind fun (v_y429 : Int) =>
     if v_y429 = 0 then
      some (.x0 true)
     else
      if v_i414.fOp = 21 then
       if 0 ≤ v_i414.fA ∧ v_i414.fA < (8 : Int) then
        (getA v_r413.fR v_i414.fA).bind fun (v_y433 : Int) =>
        if 0 ≤ v_i414.fB ∧ v_i414.fB < (8 : Int) then
         (getA v_r413.fR v_i414.fB).bind fun (v_y434 : Int) =>
         some (.x0 (decide (v_y433 < v_y434)))
        else none
       else none
      else
       some (.x0 false)
    else none
   else
    if v_i414.fOp = 21 then
     if 0 ≤ v_i414.fA ∧ v_i414.fA < (8 : Int) then
      (getA v_r413.fR v_i414.fA).bind fun (v_y439 : Int) =>
      if 0 ≤ v_i414.fB ∧ v_i414.fB < (8 : Int) then
       (getA v_r413.fR v_i414.fB).bind fun (v_y440 : Int) =>
       some (.x0 (decide (v_y439 < v_y440)))
      else none
     else none
    else
     some (.x0 false)
theorem G_cpu_jump_h_C1_ok {Fi : Ex → PS → Prop} (hF : KC 83 Fi) (ks : List Fr) (n : Nat) (v_at415 : Int) (v_i414 : S_api_Ins) (v_r413 : S_api_Regs)  (o : G_cpu_jump_h_C1_R) (h : G_cpu_jump_h_C1 n v_at415 v_i414 v_r413 = some o) (q : RunE Try.prog 83 Fi ks (G_cpu_jump_h_C1_ex o) (G_cpu_jump_h_C1_st v_at415 v_i414 v_r413 o)) : RunE Try.prog 83 Fi (.s (cR (cL (cB (cR (cR (bodyOf Try.f14)))))) :: ks) .normal (G_cpu_jump_h_C1_hd v_at415 v_i414 v_r413) := by
  unfold G_cpu_jump_h_C1 at h
  by_cases h1072 : v_i414.fOp = 19
  · rw [if_pos h1072] at h
    cases h
    exact pkk_sound TTok mix hF 2 (hs := [.t true]) (ts := []) (s := [0, 1, 2]) (l := [0, 2, 4, 6, 12]) (by kernel_rfl) (by kernel_rfl) (.cons (bt h1072) .nil) q
  · rw [if_neg h1072] at h
    by_cases h1076 : v_i414.fOp = 20
    · rw [if_pos h1076] at h
      by_cases h1077 : 0 ≤ v_i414.fA ∧ v_i414.fA < (8 : Int)
      · rw [if_pos h1077] at h
        obtain ⟨v_y429, h1078, h⟩ := bind_some h
        by_cases h1079 : v_y429 = 0
        · rw [if_pos h1079] at h
          cases h
          exact pkk_sound TTok mix hF 5 (hs := [.t false, .c, .t true, .c, .c, .c, .c, .c, .c, .c, .l (.d (.v (.int .u32 v_y429))), .c, .t true]) (ts := []) (s := [0, 1, 2]) (l := [0, 2, 4, 6, 12]) (by kernel_rfl) (by kernel_rfl) (.cons (bf h1072) (.cons (bt h1076) (.cons h1077 (.cons (arr_cell (γ := FV) (sz := 1) (g := (fun x => [.d (.v (.int .u32 x))])) (pre := []) (post := [.d (.v (.int .u32 v_r413.fPc)), .d (.v (.int .i64 v_r413.fRing))]) (o := 0) (fun _ => rfl) h1078 rfl) (.cons (bt h1079) .nil))))) q
        · rw [if_neg h1079] at h
          by_cases h1085 : v_i414.fOp = 21
          · rw [if_pos h1085] at h
            by_cases h1086 : 0 ≤ v_i414.fA ∧ v_i414.fA < (8 : Int)
            · rw [if_pos h1086] at h
              obtain ⟨v_y433, h1087, h⟩ := bind_some h
              by_cases h1088 : 0 ≤ v_i414.fB ∧ v_i414.fB < (8 : Int)
              · rw [if_pos h1088] at h
                obtain ⟨v_y434, h1089, h⟩ := bind_some h
                cases h
                exact pkk_sound TTok mix hF 5 (hs := [.t false, .c, .t true, .c, .c, .c, .c, .c, .c, .c, .l (.d (.v (.int .u32 v_y429))), .c, .t false, .c, .t true, .c, .c, .c, .c, .c, .c, .c, .l (.d (.v (.int .u32 v_y433))), .c, .c, .c, .c, .c, .c, .c, .c, .l (.d (.v (.int .u32 v_y434))), .c]) (ts := []) (s := [0, 1, 2]) (l := [0, 2, 4, 6, 12]) (by kernel_rfl) (by kernel_rfl) (.cons (bf h1072) (.cons (bt h1076) (.cons h1077 (.cons (arr_cell (γ := FV) (sz := 1) (g := (fun x => [.d (.v (.int .u32 x))])) (pre := []) (post := [.d (.v (.int .u32 v_r413.fPc)), .d (.v (.int .i64 v_r413.fRing))]) (o := 0) (fun _ => rfl) h1078 rfl) (.cons (bf h1079) (.cons (bt h1085) (.cons h1086 (.cons (arr_cell (γ := FV) (sz := 1) (g := (fun x => [.d (.v (.int .u32 x))])) (pre := []) (post := [.d (.v (.int .u32 v_r413.fPc)), .d (.v (.int .i64 v_r413.fRing))]) (o := 0) (fun _ => rfl) h1087 rfl) (.cons h1088 (.cons (arr_cell (γ := FV) (sz := 1) (g := (fun x => [.d (.v (.int .u32 x))])) (pre := []) (post := [.d (.v (.int .u32 v_r413.fPc)), .d (.v (.int .i64 v_r413.fRing))]) (o := 0) (fun _ => rfl) h1089 rfl) .nil)))))))))) q
              · rw [if_neg h1088] at h; cases h
            · rw [if_neg h1086] at h; cases h
          · rw [if_neg h1085] at h
            cases h
            exact pkk_sound TTok mix hF 5 (hs := [.t false, .c, .t true, .c, .c, .c, .c, .c, .c, .c, .l (.d (.v (.int .u32 v_y429))), .c, .t false, .c, .t false, .c, .c, .c, .c, .c, .c, .c, .c, .c, .c, .c, .c, .c, .c]) (ts := []) (s := [0, 1, 2]) (l := [0, 2, 4, 6, 12]) (by kernel_rfl) (by kernel_rfl) (.cons (bf h1072) (.cons (bt h1076) (.cons h1077 (.cons (arr_cell (γ := FV) (sz := 1) (g := (fun x => [.d (.v (.int .u32 x))])) (pre := []) (post := [.d (.v (.int .u32 v_r413.fPc)), .d (.v (.int .i64 v_r413.fRing))]) (o := 0) (fun _ => rfl) h1078 rfl) (.cons (bf h1079) (.cons (bf h1085) .nil)))))) q
      · rw [if_neg h1077] at h; cases h
    · rw [if_neg h1076] at h
      by_cases h1095 : v_i414.fOp = 21
      · rw [if_pos h1095] at h
        by_cases h1096 : 0 ≤ v_i414.fA ∧ v_i414.fA < (8 : Int)
        · rw [if_pos h1096] at h
          obtain ⟨v_y439, h1097, h⟩ := bind_some h
          by_cases h1098 : 0 ≤ v_i414.fB ∧ v_i414.fB < (8 : Int)
          · rw [if_pos h1098] at h
            obtain ⟨v_y440, h1099, h⟩ := bind_some h
            cases h
            exact pkk_sound TTok mix hF 5 (hs := [.t false, .c, .t false, .c, .c, .c, .c, .c, .c, .c, .c, .c, .t true, .c, .c, .c, .c, .c, .c, .c, .l (.d (.v (.int .u32 v_y439))), .c, .c, .c, .c, .c, .c, .c, .c, .l (.d (.v (.int .u32 v_y440))), .c]) (ts := []) (s := [0, 1, 2]) (l := [0, 2, 4, 6, 12]) (by kernel_rfl) (by kernel_rfl) (.cons (bf h1072) (.cons (bf h1076) (.cons (bt h1095) (.cons h1096 (.cons (arr_cell (γ := FV) (sz := 1) (g := (fun x => [.d (.v (.int .u32 x))])) (pre := []) (post := [.d (.v (.int .u32 v_r413.fPc)), .d (.v (.int .i64 v_r413.fRing))]) (o := 0) (fun _ => rfl) h1097 rfl) (.cons h1098 (.cons (arr_cell (γ := FV) (sz := 1) (g := (fun x => [.d (.v (.int .u32 x))])) (pre := []) (post := [.d (.v (.int .u32 v_r413.fPc)), .d (.v (.int .i64 v_r413.fRing))]) (o := 0) (fun _ => rfl) h1099 rfl) .nil))))))) q
          · rw [if_neg h1098] at h; cases h
        · rw [if_neg h1096] at h; cases h
      · rw [if_neg h1095] at h
        cases h
        exact pkk_sound TTok mix hF 5 (hs := [.t false, .c, .t false, .c, .c, .c, .c, .c, .c, .c, .c, .c, .t false, .c, .c, .c, .c, .c, .c, .c, .c, .c, .c, .c, .c, .c, .c]) (ts := []) (s := [0, 1, 2]) (l := [0, 2, 4, 6, 12]) (by kernel_rfl) (by kernel_rfl) (.cons (bf h1072) (.cons (bf h1076) (.cons (bf h1095) .nil))) q
inductive G_cpu_jump_h_C2_R where
  | x0 
  | x1 
  | x2 (v_b450 : S_api_Regs)
  | x3 
def G_cpu_jump_h_C2_ex : G_cpu_jump_h_C2_R → Ex
  | .x0  => .normal
  | .x1  => .normal
  | .x2 _ => .normal
  | .x3  => .normal
def G_cpu_jump_h_C2_st (v_at415 : Int) (v_i414 : S_api_Ins) (v_z444 : Bool) (v_r413 : S_api_Regs) : G_cpu_jump_h_C2_R → PS
  | .x0  => ⟨[dd, dd, dd, dd, dd, dd, dd, dd, dd, dd, dd, dd, dd, dd, dd, dd, dd, dd, dd, dd, dd, dd, dd, dd, dd, dd, dd, dd, dd, dd, dd, dd, dd, dd, dd, dd, dd, dd, dd, dd, dd, dd, dd, dd, dd, dd, dd, dd, dd, dd, dd, dd, dd, dd, dd, dd, dd, dd, dd, dd, dd, dd, dd, dd, dd, dd, dd, dd, dd, dd, dd, dd, dd, dd, dd, dd, dd, dd, dd, dd, dd, dd, dd], [.gh 0 (.ref 1 0), .box ((cS_api_Regs (S_api_Regs.mk v_r413.fR (wi .u32 (v_at415 + (wi .u32 v_i414.fC))) v_r413.fRing)).map FV.d)]⟩
  | .x1  => ⟨[dd, dd, dd, dd, dd, dd, dd, dd, dd, dd, dd, dd, dd, dd, dd, dd, dd, dd, dd, dd, dd, dd, dd, dd, dd, dd, dd, dd, dd, dd, dd, dd, dd, dd, dd, dd, dd, dd, dd, dd, dd, dd, dd, dd, dd, dd, dd, dd, dd, dd, dd, dd, dd, dd, dd, dd, dd, dd, dd, dd, dd, dd, dd, dd, dd, dd, dd, dd, dd, dd, dd, dd, dd, dd, dd, dd, dd, dd, dd, dd, dd, dd, dd], [.gh 0 (.ref 1 0), .box ((cS_api_Regs (S_api_Regs.mk (setA v_r413.fR v_i414.fA (wi .u32 (v_at415 + 4))) (wi .u32 (v_at415 + (wi .u32 v_i414.fC))) v_r413.fRing)).map FV.d)]⟩
  | .x2 v_b450 => ⟨[dd, dd, dd, dd, dd, dd, dd, dd, dd, dd, dd, dd, dd, dd, dd, dd, dd, dd, dd, dd, dd, dd, dd, dd, dd, dd, dd, dd, dd, dd, dd, dd, dd, dd, dd, dd, dd, dd, dd, dd, dd, dd, dd, dd, dd, dd, dd, dd, dd, dd, dd, dd, dd, dd, dd, dd, dd, dd, dd, dd, dd, dd, dd, dd, dd, dd, dd, dd, dd, dd, dd, dd, dd, dd, dd, dd, dd, dd, dd, dd, dd, dd, dd], [.gh 0 (.ref 1 0), .box ((cS_api_Regs v_b450).map FV.d)]⟩
  | .x3  => ⟨[dd, dd, dd, dd, dd, dd, dd, dd, dd, dd, dd, dd, dd, dd, dd, dd, dd, dd, dd, dd, dd, dd, dd, dd, dd, dd, dd, dd, dd, dd, dd, dd, dd, dd, dd, dd, dd, dd, dd, dd, dd, dd, dd, dd, dd, dd, dd, dd, dd, dd, dd, dd, dd, dd, dd, dd, dd, dd, dd, dd, dd, dd, dd, dd, dd, dd, dd, dd, dd, dd, dd, dd, dd, dd, dd, dd, dd, dd, dd, dd, dd, dd, dd], [.gh 0 (.ref 1 0), .box ((cS_api_Regs v_r413).map FV.d)]⟩
def G_cpu_jump_h_C2_hd (v_at415 : Int) (v_i414 : S_api_Ins) (v_z444 : Bool) (v_r413 : S_api_Regs)  : PS := ⟨[.ref 1 0, dd, .d (.v (.int .u32 v_at415)), dd, .ref 2 0, dd, .d (.v (.int .u32 (wi .u32 (v_at415 + (wi .u32 v_i414.fC))))), dd, dd, dd, dd, dd, .d (.v (.bool v_z444)), dd, dd, dd, dd, dd, dd, dd, dd, dd, dd, dd, dd, dd, dd, dd, dd, dd, dd, dd, dd, dd, dd, dd, dd, dd, dd, dd, dd, dd, dd, dd, dd, dd, dd, dd, dd, dd, dd, dd, dd, dd, dd, dd, dd, dd, dd, dd, dd, dd, dd, dd, dd, dd, dd, dd, dd, dd, dd, dd, dd, dd, dd, dd, dd, dd, dd, dd, dd, dd, dd], [.gh 0 (.ref 1 0), .box ((cS_api_Regs v_r413).map FV.d), .box [.d (.v (.int .i64 v_i414.fOp)), .d (.v (.int .i64 v_i414.fA)), .d (.v (.int .i64 v_i414.fB)), .d (.v (.int .i64 v_i414.fC))]]⟩
def G_cpu_jump_h_C2 (n : Nat) (v_at415 : Int) (v_i414 : S_api_Ins) (v_z444 : Bool) (v_r413 : S_api_Regs) : Option G_cpu_jump_h_C2_R :=
  if v_z444 = true then
   some (.x0 )
  else
   if v_i414.fOp = 22 then
    if 0 ≤ v_i414.fA ∧ v_i414.fA < (8 : Int) then
     (getA v_r413.fR v_i414.fA).bind fun (v_y448 : Int) =>
     some (.x1 )
    else none
   else
    if v_i414.fOp = 23 then
     if 0 ≤ v_i414.fA ∧ v_i414.fA < (8 : Int) then
      (getA v_r413.fR v_i414.fA).bind fun (v_y449 : Int) =>
      some (.x2 (S_api_Regs.mk v_r413.fR v_y449 v_r413.fRing))
     else none
    else
     some (.x3 )
theorem G_cpu_jump_h_C2_ok {Fi : Ex → PS → Prop} (hF : KC 83 Fi) (ks : List Fr) (n : Nat) (v_at415 : Int) (v_i414 : S_api_Ins) (v_z444 : Bool) (v_r413 : S_api_Regs)  (o : G_cpu_jump_h_C2_R) (h : G_cpu_jump_h_C2 n v_at415 v_i414 v_z444 v_r413 = some o) (q : RunE Try.prog 83 Fi ks (G_cpu_jump_h_C2_ex o) (G_cpu_jump_h_C2_st v_at415 v_i414 v_z444 v_r413 o)) : RunE Try.prog 83 Fi (.s (cR (cB (cR (cR (bodyOf Try.f14))))) :: ks) .normal (G_cpu_jump_h_C2_hd v_at415 v_i414 v_z444 v_r413) := by
  unfold G_cpu_jump_h_C2 at h
  by_cases h1108 : v_z444 = true
  · rw [if_pos h1108] at h
    cases h
    exact pkk_sound TTok mix hF 2 (hs := [.t true, .c]) (ts := []) (s := [0, 1]) (l := []) (by kernel_rfl) (by kernel_rfl) (.cons h1108 (.cons (show 8 + 1 ≤ 10 by decide) .nil)) q
  · rw [if_neg h1108] at h
    by_cases h1109 : v_i414.fOp = 22
    · rw [if_pos h1109] at h
      by_cases h1110 : 0 ≤ v_i414.fA ∧ v_i414.fA < (8 : Int)
      · rw [if_pos h1110] at h
        obtain ⟨v_y448, h1111, h⟩ := bind_some h
        cases h
        exact pkk_sound TTok mix hF 5 (hs := [.t false, .c, .t true, .c, .x ((cS_api_Regs (S_api_Regs.mk (setA v_r413.fR v_i414.fA (wi .u32 (v_at415 + 4))) v_r413.fPc v_r413.fRing)).map FV.d), .c, .c]) (ts := []) (s := [0, 1]) (l := []) (by kernel_rfl) (by kernel_rfl) (.cons (vf h1108) (.cons (bt h1109) (.cons h1110 (.cons (arr_store (γ := FV) (sz := 1) (g := (fun x => [.d (.v (.int .u32 x))])) (pre := []) (post := [.d (.v (.int .u32 v_r413.fPc)), .d (.v (.int .i64 v_r413.fRing))]) (o := 0) (y := (wi .u32 (v_at415 + 4))) (zs := [.d (.v (.int .u32 (wi .u32 (v_at415 + 4))))]) (fun _ => rfl) h1111 rfl (Nat.le_of_ble_eq_true rfl)).1 (.cons (arr_store (γ := FV) (sz := 1) (g := (fun x => [.d (.v (.int .u32 x))])) (pre := []) (post := [.d (.v (.int .u32 v_r413.fPc)), .d (.v (.int .i64 v_r413.fRing))]) (o := 0) (y := (wi .u32 (v_at415 + 4))) (zs := [.d (.v (.int .u32 (wi .u32 (v_at415 + 4))))]) (fun _ => rfl) h1111 rfl (Nat.le_of_ble_eq_true rfl)).2 (.cons (show 8 + 1 ≤ 10 by decide) .nil)))))) q
      · rw [if_neg h1110] at h; cases h
    · rw [if_neg h1109] at h
      by_cases h1112 : v_i414.fOp = 23
      · rw [if_pos h1112] at h
        by_cases h1113 : 0 ≤ v_i414.fA ∧ v_i414.fA < (8 : Int)
        · rw [if_pos h1113] at h
          obtain ⟨v_y449, h1114, h⟩ := bind_some h
          cases h
          exact pkk_sound TTok mix hF 8 (hs := [.t false, .c, .t false, .c, .t true, .c, .l (.d (.v (.int .u32 v_y449))), .c]) (ts := []) (s := [0, 1]) (l := []) (by kernel_rfl) (by kernel_rfl) (.cons (vf h1108) (.cons (bf h1109) (.cons (bt h1112) (.cons h1113 (.cons (arr_cell (γ := FV) (sz := 1) (g := (fun x => [.d (.v (.int .u32 x))])) (pre := []) (post := [.d (.v (.int .u32 v_r413.fPc)), .d (.v (.int .i64 v_r413.fRing))]) (o := 0) (fun _ => rfl) h1114 rfl) (.cons (show 8 + 1 ≤ 10 by decide) .nil)))))) q
        · rw [if_neg h1113] at h; cases h
      · rw [if_neg h1112] at h
        cases h
        exact pkk_sound TTok mix hF 8 (hs := [.t false, .c, .t false, .c, .t false]) (ts := []) (s := [0, 1]) (l := []) (by kernel_rfl) (by kernel_rfl) (.cons (vf h1108) (.cons (bf h1109) (.cons (bf h1112) .nil))) q
/- ringhall/cpu.jump -/
def G_cpu_jump_h (n : Nat) (v_r413 : S_api_Regs) (v_i414 : S_api_Ins) (v_at415 : Int) : Option (S_api_Regs) :=
  (G_cpu_jump_h_C1 n v_at415 v_i414 v_r413).bind fun v_o443 => match v_o443 with
  | .x0 v_z444 =>
    (G_cpu_jump_h_C2 n v_at415 v_i414 v_z444 v_r413).bind fun v_o451 => match v_o451 with
    | .x0  =>
      some (S_api_Regs.mk v_r413.fR (wi .u32 (v_at415 + (wi .u32 v_i414.fC))) v_r413.fRing)
    | .x1  =>
      some (S_api_Regs.mk (setA v_r413.fR v_i414.fA (wi .u32 (v_at415 + 4))) (wi .u32 (v_at415 + (wi .u32 v_i414.fC))) v_r413.fRing)
    | .x2 v_z452 =>
      some v_z452
    | .x3  =>
      some v_r413
theorem G_cpu_jump_h_ok (n : Nat) (v_r413 : S_api_Regs) (v_i414 : S_api_Ins) (v_at415 : Int) (r : S_api_Regs) (h : G_cpu_jump_h n v_r413 v_i414 v_at415 = some r) : RetH Try.prog 14 [.ref 0 0, .d (eS_api_Ins v_i414), .d ((eI .u32) v_at415)] [.box ((cS_api_Regs v_r413).map FV.d)] (.tup []) [.box ((cS_api_Regs r).map FV.d)] := by
  refine retH_run (n := 83) (fn := Try.f14) (c := bodyOf Try.f14) (by kernel_rfl) (by kernel_rfl) (by kernel_rfl) (by kernel_rfl) ?_
  have hF : KC 83 (FinH Try.prog Try.f14 [.box ((cS_api_Regs v_r413).map FV.d)] (.tup []) [.box ((cS_api_Regs r).map FV.d)]) := FinH.kc' (by kernel_rfl)
  unfold G_cpu_jump_h at h
  obtain ⟨v_o443, h1100, h⟩ := bind_some h
  refine pkk_sound TTok mix hF 8 (hs := [.c, .c]) (ts := []) (s := [1, 0, 2]) (l := [0, 2, 4, 6, 12]) (by kernel_rfl) (by kernel_rfl) .nil (G_cpu_jump_h_C1_ok hF (.s (cR (cB (cR (cR (bodyOf Try.f14))))) :: .b 0 :: []) n v_at415 v_i414 v_r413 _ h1100 ?_)
  cases v_o443 with
  | x0 v_z444 =>
    try dsimp only at h
    obtain ⟨v_o451, h1115, h⟩ := bind_some h
    refine pkk_sound TTok mix hF 0 (hs := []) (ts := []) (s := [0, 1, 2]) (l := [0, 2, 4, 6, 12]) (by kernel_rfl) (by kernel_rfl) .nil (G_cpu_jump_h_C2_ok hF (.b 0 :: []) n v_at415 v_i414 v_z444 v_r413 _ h1115 ?_)
    cases v_o451 with
    | x0  =>
      try dsimp only at h
      obtain rfl := Option.some.inj h
      exact pendH_sound TTok mix 1 (hs := []) [1] (by kernel_rfl) (by kernel_rfl) (by kernel_rfl) .nil
    | x1  =>
      try dsimp only at h
      obtain rfl := Option.some.inj h
      exact pendH_sound TTok mix 1 (hs := []) [1] (by kernel_rfl) (by kernel_rfl) (by kernel_rfl) .nil
    | x2 v_z452 =>
      try dsimp only at h
      obtain rfl := Option.some.inj h
      exact pendH_sound TTok mix 1 (hs := []) [1] (by kernel_rfl) (by kernel_rfl) (by kernel_rfl) .nil
    | x3  =>
      try dsimp only at h
      obtain rfl := Option.some.inj h
      exact pendH_sound TTok mix 1 (hs := []) [1] (by kernel_rfl) (by kernel_rfl) (by kernel_rfl) .nil
inductive G_cpu_other_C1_R where
  | x0 
  | x1 
  | x2 (v_b506 : S_api_Regs)
  | x3 
  | x4 
def G_cpu_other_C1_ex : G_cpu_other_C1_R → Ex
  | .x0  => .ret
  | .x1  => .ret
  | .x2 _ => .normal
  | .x3  => .normal
  | .x4  => .normal
def G_cpu_other_C1_st (v_i455 : S_api_Ins) (v_r454 : S_api_Regs) : G_cpu_other_C1_R → PS
  | .x0  => ⟨[dd, dd, dd, dd, .ref 0 0, .ref 1 0, dd, dd, dd, dd, dd, dd, dd, dd, dd, dd, dd, dd, dd, dd, dd, dd, dd, dd, dd, dd, dd, dd, dd, dd, dd, dd, dd, dd, dd, dd, dd, dd, dd, dd, dd, dd, dd, dd, dd, dd, dd, dd, dd, dd, dd, dd, dd, dd, dd, dd, dd, dd, dd, dd, dd, dd, dd, dd, dd, dd, dd, dd, dd, dd, dd, dd, dd, dd, dd, dd, dd, dd, dd], [.box ((cS_api_Regs v_r454).map FV.d), .box [.d (.v (.int .i64 5)), .d (.v (.int .u32 0))]]⟩
  | .x1  => ⟨[dd, dd, dd, dd, .ref 0 0, .ref 1 0, dd, dd, dd, dd, dd, dd, dd, dd, dd, dd, dd, dd, dd, dd, dd, dd, dd, dd, dd, dd, dd, dd, dd, dd, dd, dd, dd, dd, dd, dd, dd, dd, dd, dd, dd, dd, dd, dd, dd, dd, dd, dd, dd, dd, dd, dd, dd, dd, dd, dd, dd, dd, dd, dd, dd, dd, dd, dd, dd, dd, dd, dd, dd, dd, dd, dd, dd, dd, dd, dd, dd, dd, dd], [.box ((cS_api_Regs v_r454).map FV.d), .box [.d (.v (.int .i64 1)), .d (.v (.int .u32 0))]]⟩
  | .x2 v_b506 => ⟨[dd, dd, .ref 0 0, dd, .ref 1 0, .ref 2 0, dd, dd, dd, dd, dd, dd, dd, dd, dd, dd, dd, dd, dd, dd, dd, dd, dd, dd, dd, dd, dd, dd, dd, dd, dd, dd, dd, dd, dd, dd, dd, dd, dd, dd, dd, dd, dd, dd, dd, dd, dd, dd, dd, dd, dd, dd, dd, dd, dd, dd, dd, dd, dd, dd, dd, dd, dd, dd, dd, dd, dd, dd, dd, dd, dd, dd, dd, dd, dd, dd, dd, dd, dd], [.box ((cS_api_Regs v_b506).map FV.d), .box ((cS_api_Regs (S_api_Regs.mk (fun (_ : Fin 8) => 0) 0 0)).map FV.d), .box [.d (.v (.int .i64 0)), .d (.v (.int .u32 0))]]⟩
  | .x3  => ⟨[dd, dd, .ref 0 0, dd, .ref 1 0, .ref 2 0, dd, dd, dd, dd, dd, dd, dd, dd, dd, dd, dd, dd, dd, dd, dd, dd, dd, dd, dd, dd, dd, dd, dd, dd, dd, dd, dd, dd, dd, dd, dd, dd, dd, dd, dd, dd, dd, dd, dd, dd, dd, dd, dd, dd, dd, dd, dd, dd, dd, dd, dd, dd, dd, dd, dd, dd, dd, dd, dd, dd, dd, dd, dd, dd, dd, dd, dd, dd, dd, dd, dd, dd, dd], [.box ((cS_api_Regs (S_api_Regs.mk (setA v_r454.fR v_i455.fA (wi .u32 v_i455.fC)) v_r454.fPc v_r454.fRing)).map FV.d), .box ((cS_api_Regs (S_api_Regs.mk (fun (_ : Fin 8) => 0) 0 0)).map FV.d), .box [.d (.v (.int .i64 0)), .d (.v (.int .u32 0))]]⟩
  | .x4  => ⟨[dd, dd, .ref 0 0, dd, .ref 1 0, .ref 2 0, dd, dd, dd, dd, dd, dd, dd, dd, dd, dd, dd, dd, dd, dd, dd, dd, dd, dd, dd, dd, dd, dd, dd, dd, dd, dd, dd, dd, dd, dd, dd, dd, dd, dd, dd, dd, dd, dd, dd, dd, dd, dd, dd, dd, dd, dd, dd, dd, dd, dd, dd, dd, dd, dd, dd, dd, dd, dd, dd, dd, dd, dd, dd, dd, dd, dd, dd, dd, dd, dd, dd, dd, dd], [.box ((cS_api_Regs v_r454).map FV.d), .box ((cS_api_Regs (S_api_Regs.mk (fun (_ : Fin 8) => 0) 0 0)).map FV.d), .box [.d (.v (.int .i64 0)), .d (.v (.int .u32 0))]]⟩
def G_cpu_other_C1_hd (v_i455 : S_api_Ins) (v_r454 : S_api_Regs)  : PS := ⟨[dd, dd, .ref 0 0, .ref 1 0, .ref 2 0, .ref 3 0, dd, .d (.v (.int .i64 v_i455.fOp)), .d (.v (.bool (v_i455.fOp == 1))), dd, dd, dd, dd, dd, dd, dd, dd, dd, dd, dd, dd, dd, dd, dd, dd, dd, dd, dd, dd, dd, dd, dd, dd, dd, dd, dd, dd, dd, dd, dd, dd, dd, dd, dd, dd, dd, dd, dd, dd, dd, dd, dd, dd, dd, dd, dd, dd, dd, dd, dd, dd, dd, dd, dd, dd, dd, dd, dd, dd, dd, dd, dd, dd, dd, dd, dd, dd, dd, dd], [.box ((cS_api_Regs v_r454).map FV.d), .box [.d (.v (.int .i64 v_i455.fOp)), .d (.v (.int .i64 v_i455.fA)), .d (.v (.int .i64 v_i455.fB)), .d (.v (.int .i64 v_i455.fC))], .box ((cS_api_Regs (S_api_Regs.mk (fun (_ : Fin 8) => 0) 0 0)).map FV.d), .box [.d (.v (.int .i64 0)), .d (.v (.int .u32 0))]]⟩
def G_cpu_other_C1 (n : Nat) (v_i455 : S_api_Ins) (v_r454 : S_api_Regs) : Option G_cpu_other_C1_R :=
  if v_i455.fOp = 1 then
   some (.x0 )
  else
   if v_i455.fOp = 24 then
    some (.x1 )
   else
    if v_i455.fOp = 26 then
     if 0 ≤ v_i455.fA ∧ v_i455.fA < (8 : Int) then
      (getA v_r454.fR v_i455.fA).bind fun (v_y505 : Int) =>
      some (.x2 (S_api_Regs.mk v_r454.fR v_y505 1))
     else none
    else
     if v_i455.fOp = 2 then
      if 0 ≤ v_i455.fA ∧ v_i455.fA < (8 : Int) then
       (getA v_r454.fR v_i455.fA).bind fun (v_y507 : Int) =>
       some (.x3 )
      else none
     else
      if v_i455.fOp = 3 then
       if 0 ≤ v_i455.fA ∧ v_i455.fA < (8 : Int) then
        (getA v_r454.fR v_i455.fA).bind fun (v_y508 : Int) =>
        if 0 ≤ v_i455.fA ∧ v_i455.fA < (8 : Int) then
         (getA v_r454.fR v_i455.fA).bind fun (v_y509 : Int) =>
         some (.x2 (S_api_Regs.mk (setA v_r454.fR v_i455.fA (bits .or .u32 (shlI .u32 v_y508 16) (wi .u32 (wi .u16 v_i455.fC)))) v_r454.fPc v_r454.fRing))
        else none
       else none
      else
       if v_i455.fOp = 4 then
        if 0 ≤ v_i455.fB ∧ v_i455.fB < (8 : Int) then
         (getA v_r454.fR v_i455.fB).bind fun (v_y511 : Int) =>
         if 0 ≤ v_i455.fA ∧ v_i455.fA < (8 : Int) then
          (getA v_r454.fR v_i455.fA).bind fun (v_y512 : Int) =>
          some (.x2 (S_api_Regs.mk (setA v_r454.fR v_i455.fA v_y511) v_r454.fPc v_r454.fRing))
         else none
        else none
       else
        if v_i455.fOp = 14 then
         if 0 ≤ v_i455.fB ∧ v_i455.fB < (8 : Int) then
          (getA v_r454.fR v_i455.fB).bind fun (v_y514 : Int) =>
          if 0 ≤ v_i455.fA ∧ v_i455.fA < (8 : Int) then
           (getA v_r454.fR v_i455.fA).bind fun (v_y515 : Int) =>
           some (.x2 (S_api_Regs.mk (setA v_r454.fR v_i455.fA (wi .u32 (v_y514 + (wi .u32 v_i455.fC)))) v_r454.fPc v_r454.fRing))
          else none
         else none
        else
         some (.x4 )
theorem G_cpu_other_C1_ok {Fi : Ex → PS → Prop} (hF : KC 79 Fi) (ks : List Fr) (n : Nat) (v_i455 : S_api_Ins) (v_r454 : S_api_Regs)  (o : G_cpu_other_C1_R) (h : G_cpu_other_C1 n v_i455 v_r454 = some o) (q : RunE Try.prog 79 Fi ks (G_cpu_other_C1_ex o) (G_cpu_other_C1_st v_i455 v_r454 o)) : RunE Try.prog 79 Fi (.s (cR (cB (cR (cL (cR (bodyOf Try.f15)))))) :: ks) .normal (G_cpu_other_C1_hd v_i455 v_r454) := by
  unfold G_cpu_other_C1 at h
  by_cases h1190 : v_i455.fOp = 1
  · rw [if_pos h1190] at h
    cases h
    exact pkk_sound TTok mix hF 4 (hs := [.t true, .c, .c, .c]) (ts := []) (s := [2, 3]) (l := [4, 5]) (by kernel_rfl) (by kernel_rfl) (.cons (bt h1190) (.cons (show 0 + 10 ≤ 10 by decide) (.cons (show 0 + 2 ≤ 2 by decide) .nil))) q
  · rw [if_neg h1190] at h
    by_cases h1191 : v_i455.fOp = 24
    · rw [if_pos h1191] at h
      cases h
      exact pkk_sound TTok mix hF 7 (hs := [.t false, .t true, .c, .c, .c]) (ts := []) (s := [2, 3]) (l := [4, 5]) (by kernel_rfl) (by kernel_rfl) (.cons (bf h1190) (.cons (bt h1191) (.cons (show 0 + 10 ≤ 10 by decide) (.cons (show 0 + 2 ≤ 2 by decide) .nil)))) q
    · rw [if_neg h1191] at h
      by_cases h1192 : v_i455.fOp = 26
      · rw [if_pos h1192] at h
        by_cases h1193 : 0 ≤ v_i455.fA ∧ v_i455.fA < (8 : Int)
        · rw [if_pos h1193] at h
          obtain ⟨v_y505, h1194, h⟩ := bind_some h
          cases h
          exact pkk_sound TTok mix hF 8 (hs := [.t false, .t false, .t true, .c, .l (.d (.v (.int .u32 v_y505))), .c, .c]) (ts := []) (s := [0, 2, 3]) (l := [2, 4, 5]) (by kernel_rfl) (by kernel_rfl) (.cons (bf h1190) (.cons (bf h1191) (.cons (bt h1192) (.cons h1193 (.cons (arr_cell (γ := FV) (sz := 1) (g := (fun x => [.d (.v (.int .u32 x))])) (pre := []) (post := [.d (.v (.int .u32 v_r454.fPc)), .d (.v (.int .i64 v_r454.fRing))]) (o := 0) (fun _ => rfl) h1194 rfl) (.cons (show 8 + 1 ≤ 10 by decide) (.cons (show 9 + 1 ≤ 10 by decide) .nil))))))) q
        · rw [if_neg h1193] at h; cases h
      · rw [if_neg h1192] at h
        by_cases h1195 : v_i455.fOp = 2
        · rw [if_pos h1195] at h
          by_cases h1196 : 0 ≤ v_i455.fA ∧ v_i455.fA < (8 : Int)
          · rw [if_pos h1196] at h
            obtain ⟨v_y507, h1197, h⟩ := bind_some h
            cases h
            exact pkk_sound TTok mix hF 11 (hs := [.t false, .t false, .t false, .t true, .c, .c, .x ((cS_api_Regs (S_api_Regs.mk (setA v_r454.fR v_i455.fA (wi .u32 v_i455.fC)) v_r454.fPc v_r454.fRing)).map FV.d), .c]) (ts := []) (s := [0, 2, 3]) (l := [2, 4, 5]) (by kernel_rfl) (by kernel_rfl) (.cons (bf h1190) (.cons (bf h1191) (.cons (bf h1192) (.cons (bt h1195) (.cons h1196 (.cons (arr_store (γ := FV) (sz := 1) (g := (fun x => [.d (.v (.int .u32 x))])) (pre := []) (post := [.d (.v (.int .u32 v_r454.fPc)), .d (.v (.int .i64 v_r454.fRing))]) (o := 0) (y := (wi .u32 v_i455.fC)) (zs := [.d (.v (.int .u32 (wi .u32 v_i455.fC)))]) (fun _ => rfl) h1197 rfl (Nat.le_of_ble_eq_true rfl)).1 (.cons (arr_store (γ := FV) (sz := 1) (g := (fun x => [.d (.v (.int .u32 x))])) (pre := []) (post := [.d (.v (.int .u32 v_r454.fPc)), .d (.v (.int .i64 v_r454.fRing))]) (o := 0) (y := (wi .u32 v_i455.fC)) (zs := [.d (.v (.int .u32 (wi .u32 v_i455.fC)))]) (fun _ => rfl) h1197 rfl (Nat.le_of_ble_eq_true rfl)).2 .nil))))))) q
          · rw [if_neg h1196] at h; cases h
        · rw [if_neg h1195] at h
          by_cases h1198 : v_i455.fOp = 3
          · rw [if_pos h1198] at h
            by_cases h1199 : 0 ≤ v_i455.fA ∧ v_i455.fA < (8 : Int)
            · rw [if_pos h1199] at h
              obtain ⟨v_y508, h1200, h⟩ := bind_some h
              by_cases h1202 : 0 ≤ v_i455.fA ∧ v_i455.fA < (8 : Int)
              · rw [if_pos h1202] at h
                obtain ⟨v_y509, h1203, h⟩ := bind_some h
                cases h
                exact pkk_sound TTok mix hF 14 (hs := [.t false, .t false, .t false, .t false, .t true, .c, .c, .l (.d (.v (.int .u32 v_y508))), .c, .x ((cS_api_Regs (S_api_Regs.mk (setA v_r454.fR v_i455.fA (bits .or .u32 (shlI .u32 v_y508 16) (wi .u32 (wi .u16 v_i455.fC)))) v_r454.fPc v_r454.fRing)).map FV.d), .c]) (ts := []) (s := [0, 2, 3]) (l := [2, 4, 5]) (by kernel_rfl) (by kernel_rfl) (.cons (bf h1190) (.cons (bf h1191) (.cons (bf h1192) (.cons (bf h1195) (.cons (bt h1198) (.cons h1199 (.cons (arr_cell (γ := FV) (sz := 1) (g := (fun x => [.d (.v (.int .u32 x))])) (pre := []) (post := [.d (.v (.int .u32 v_r454.fPc)), .d (.v (.int .i64 v_r454.fRing))]) (o := 0) (fun _ => rfl) h1200 rfl) (.cons (show (0 : Int) ≤ 16 by decide) (.cons h1202 (.cons (arr_store (γ := FV) (sz := 1) (g := (fun x => [.d (.v (.int .u32 x))])) (pre := []) (post := [.d (.v (.int .u32 v_r454.fPc)), .d (.v (.int .i64 v_r454.fRing))]) (o := 0) (y := (bits .or .u32 (shlI .u32 v_y508 16) (wi .u32 (wi .u16 v_i455.fC)))) (zs := [.d (.v (.int .u32 (bits .or .u32 (shlI .u32 v_y508 16) (wi .u32 (wi .u16 v_i455.fC)))))]) (fun _ => rfl) h1203 rfl (Nat.le_of_ble_eq_true rfl)).1 (.cons (arr_store (γ := FV) (sz := 1) (g := (fun x => [.d (.v (.int .u32 x))])) (pre := []) (post := [.d (.v (.int .u32 v_r454.fPc)), .d (.v (.int .i64 v_r454.fRing))]) (o := 0) (y := (bits .or .u32 (shlI .u32 v_y508 16) (wi .u32 (wi .u16 v_i455.fC)))) (zs := [.d (.v (.int .u32 (bits .or .u32 (shlI .u32 v_y508 16) (wi .u32 (wi .u16 v_i455.fC)))))]) (fun _ => rfl) h1203 rfl (Nat.le_of_ble_eq_true rfl)).2 .nil))))))))))) q
              · rw [if_neg h1202] at h; cases h
            · rw [if_neg h1199] at h; cases h
          · rw [if_neg h1198] at h
            by_cases h1204 : v_i455.fOp = 4
            · rw [if_pos h1204] at h
              by_cases h1205 : 0 ≤ v_i455.fB ∧ v_i455.fB < (8 : Int)
              · rw [if_pos h1205] at h
                obtain ⟨v_y511, h1206, h⟩ := bind_some h
                by_cases h1207 : 0 ≤ v_i455.fA ∧ v_i455.fA < (8 : Int)
                · rw [if_pos h1207] at h
                  obtain ⟨v_y512, h1208, h⟩ := bind_some h
                  cases h
                  exact pkk_sound TTok mix hF 17 (hs := [.t false, .t false, .t false, .t false, .t false, .t true, .c, .c, .l (.d (.v (.int .u32 v_y511))), .x ((cS_api_Regs (S_api_Regs.mk (setA v_r454.fR v_i455.fA v_y511) v_r454.fPc v_r454.fRing)).map FV.d), .c]) (ts := []) (s := [0, 2, 3]) (l := [2, 4, 5]) (by kernel_rfl) (by kernel_rfl) (.cons (bf h1190) (.cons (bf h1191) (.cons (bf h1192) (.cons (bf h1195) (.cons (bf h1198) (.cons (bt h1204) (.cons h1205 (.cons (arr_cell (γ := FV) (sz := 1) (g := (fun x => [.d (.v (.int .u32 x))])) (pre := []) (post := [.d (.v (.int .u32 v_r454.fPc)), .d (.v (.int .i64 v_r454.fRing))]) (o := 0) (fun _ => rfl) h1206 rfl) (.cons h1207 (.cons (arr_store (γ := FV) (sz := 1) (g := (fun x => [.d (.v (.int .u32 x))])) (pre := []) (post := [.d (.v (.int .u32 v_r454.fPc)), .d (.v (.int .i64 v_r454.fRing))]) (o := 0) (y := v_y511) (zs := [.d (.v (.int .u32 v_y511))]) (fun _ => rfl) h1208 rfl (Nat.le_of_ble_eq_true rfl)).1 (.cons (arr_store (γ := FV) (sz := 1) (g := (fun x => [.d (.v (.int .u32 x))])) (pre := []) (post := [.d (.v (.int .u32 v_r454.fPc)), .d (.v (.int .i64 v_r454.fRing))]) (o := 0) (y := v_y511) (zs := [.d (.v (.int .u32 v_y511))]) (fun _ => rfl) h1208 rfl (Nat.le_of_ble_eq_true rfl)).2 .nil))))))))))) q
                · rw [if_neg h1207] at h; cases h
              · rw [if_neg h1205] at h; cases h
            · rw [if_neg h1204] at h
              by_cases h1209 : v_i455.fOp = 14
              · rw [if_pos h1209] at h
                by_cases h1210 : 0 ≤ v_i455.fB ∧ v_i455.fB < (8 : Int)
                · rw [if_pos h1210] at h
                  obtain ⟨v_y514, h1211, h⟩ := bind_some h
                  by_cases h1212 : 0 ≤ v_i455.fA ∧ v_i455.fA < (8 : Int)
                  · rw [if_pos h1212] at h
                    obtain ⟨v_y515, h1213, h⟩ := bind_some h
                    cases h
                    exact pkk_sound TTok mix hF 20 (hs := [.t false, .t false, .t false, .t false, .t false, .t false, .t true, .c, .c, .l (.d (.v (.int .u32 v_y514))), .c, .x ((cS_api_Regs (S_api_Regs.mk (setA v_r454.fR v_i455.fA (wi .u32 (v_y514 + (wi .u32 v_i455.fC)))) v_r454.fPc v_r454.fRing)).map FV.d), .c]) (ts := []) (s := [0, 2, 3]) (l := [2, 4, 5]) (by kernel_rfl) (by kernel_rfl) (.cons (bf h1190) (.cons (bf h1191) (.cons (bf h1192) (.cons (bf h1195) (.cons (bf h1198) (.cons (bf h1204) (.cons (bt h1209) (.cons h1210 (.cons (arr_cell (γ := FV) (sz := 1) (g := (fun x => [.d (.v (.int .u32 x))])) (pre := []) (post := [.d (.v (.int .u32 v_r454.fPc)), .d (.v (.int .i64 v_r454.fRing))]) (o := 0) (fun _ => rfl) h1211 rfl) (.cons h1212 (.cons (arr_store (γ := FV) (sz := 1) (g := (fun x => [.d (.v (.int .u32 x))])) (pre := []) (post := [.d (.v (.int .u32 v_r454.fPc)), .d (.v (.int .i64 v_r454.fRing))]) (o := 0) (y := (wi .u32 (v_y514 + (wi .u32 v_i455.fC)))) (zs := [.d (.v (.int .u32 (wi .u32 (v_y514 + (wi .u32 v_i455.fC)))))]) (fun _ => rfl) h1213 rfl (Nat.le_of_ble_eq_true rfl)).1 (.cons (arr_store (γ := FV) (sz := 1) (g := (fun x => [.d (.v (.int .u32 x))])) (pre := []) (post := [.d (.v (.int .u32 v_r454.fPc)), .d (.v (.int .i64 v_r454.fRing))]) (o := 0) (y := (wi .u32 (v_y514 + (wi .u32 v_i455.fC)))) (zs := [.d (.v (.int .u32 (wi .u32 (v_y514 + (wi .u32 v_i455.fC)))))]) (fun _ => rfl) h1213 rfl (Nat.le_of_ble_eq_true rfl)).2 .nil)))))))))))) q
                  · rw [if_neg h1212] at h; cases h
                · rw [if_neg h1210] at h; cases h
              · rw [if_neg h1209] at h
                cases h
                exact pkk_sound TTok mix hF 20 (hs := [.t false, .t false, .t false, .t false, .t false, .t false, .t false]) (ts := []) (s := [0, 2, 3]) (l := [2, 4, 5]) (by kernel_rfl) (by kernel_rfl) (.cons (bf h1190) (.cons (bf h1191) (.cons (bf h1192) (.cons (bf h1195) (.cons (bf h1198) (.cons (bf h1204) (.cons (bf h1209) .nil))))))) q
inductive G_cpu_other_C2_R where
  | x0 
  | x1 
  | x2 (v_b519 : S_api_Regs)
  | x3 
  | x4 
def G_cpu_other_C2_ex : G_cpu_other_C2_R → Ex
  | .x0  => .ret
  | .x1  => .ret
  | .x2 _ => .normal
  | .x3  => .normal
  | .x4  => .normal
def G_cpu_other_C2_st (v_i455 : S_api_Ins) (v_r454 : S_api_Regs) : G_cpu_other_C2_R → PS
  | .x0  => ⟨[dd, dd, dd, dd, .ref 0 0, .ref 1 0, dd, dd, dd, dd, dd, dd, dd, dd, dd, dd, dd, dd, dd, dd, dd, dd, dd, dd, dd, dd, dd, dd, dd, dd, dd, dd, dd, dd, dd, dd, dd, dd, dd, dd, dd, dd, dd, dd, dd, dd, dd, dd, dd, dd, dd, dd, dd, dd, dd, dd, dd, dd, dd, dd, dd, dd, dd, dd, dd, dd, dd, dd, dd, dd, dd, dd, dd, dd, dd, dd, dd, dd, dd], [.box ((cS_api_Regs v_r454).map FV.d), .box [.d (.v (.int .i64 5)), .d (.v (.int .u32 0))]]⟩
  | .x1  => ⟨[dd, dd, dd, dd, .ref 0 0, .ref 1 0, dd, dd, dd, dd, dd, dd, dd, dd, dd, dd, dd, dd, dd, dd, dd, dd, dd, dd, dd, dd, dd, dd, dd, dd, dd, dd, dd, dd, dd, dd, dd, dd, dd, dd, dd, dd, dd, dd, dd, dd, dd, dd, dd, dd, dd, dd, dd, dd, dd, dd, dd, dd, dd, dd, dd, dd, dd, dd, dd, dd, dd, dd, dd, dd, dd, dd, dd, dd, dd, dd, dd, dd, dd], [.box ((cS_api_Regs v_r454).map FV.d), .box [.d (.v (.int .i64 1)), .d (.v (.int .u32 0))]]⟩
  | .x2 v_b519 => ⟨[dd, dd, .ref 0 0, dd, .ref 1 0, .ref 2 0, dd, dd, dd, dd, dd, dd, dd, dd, dd, dd, dd, dd, dd, dd, dd, dd, dd, dd, dd, dd, dd, dd, dd, dd, dd, dd, dd, dd, dd, dd, dd, dd, dd, dd, dd, dd, dd, dd, dd, dd, dd, dd, dd, dd, dd, dd, dd, dd, dd, dd, dd, dd, dd, dd, dd, dd, dd, dd, dd, dd, dd, dd, dd, dd, dd, dd, dd, dd, dd, dd, dd, dd, dd], [.box ((cS_api_Regs v_b519).map FV.d), .box ((cS_api_Regs (S_api_Regs.mk (fun (_ : Fin 8) => 0) 0 0)).map FV.d), .box [.d (.v (.int .i64 0)), .d (.v (.int .u32 0))]]⟩
  | .x3  => ⟨[dd, dd, .ref 0 0, dd, .ref 1 0, .ref 2 0, dd, dd, dd, dd, dd, dd, dd, dd, dd, dd, dd, dd, dd, dd, dd, dd, dd, dd, dd, dd, dd, dd, dd, dd, dd, dd, dd, dd, dd, dd, dd, dd, dd, dd, dd, dd, dd, dd, dd, dd, dd, dd, dd, dd, dd, dd, dd, dd, dd, dd, dd, dd, dd, dd, dd, dd, dd, dd, dd, dd, dd, dd, dd, dd, dd, dd, dd, dd, dd, dd, dd, dd, dd], [.box ((cS_api_Regs (S_api_Regs.mk (setA v_r454.fR v_i455.fA (wi .u32 v_i455.fC)) v_r454.fPc v_r454.fRing)).map FV.d), .box ((cS_api_Regs (S_api_Regs.mk (fun (_ : Fin 8) => 0) 0 0)).map FV.d), .box [.d (.v (.int .i64 0)), .d (.v (.int .u32 0))]]⟩
  | .x4  => ⟨[dd, dd, .ref 0 0, dd, .ref 1 0, .ref 2 0, dd, dd, dd, dd, dd, dd, dd, dd, dd, dd, dd, dd, dd, dd, dd, dd, dd, dd, dd, dd, dd, dd, dd, dd, dd, dd, dd, dd, dd, dd, dd, dd, dd, dd, dd, dd, dd, dd, dd, dd, dd, dd, dd, dd, dd, dd, dd, dd, dd, dd, dd, dd, dd, dd, dd, dd, dd, dd, dd, dd, dd, dd, dd, dd, dd, dd, dd, dd, dd, dd, dd, dd, dd], [.box ((cS_api_Regs v_r454).map FV.d), .box ((cS_api_Regs (S_api_Regs.mk (fun (_ : Fin 8) => 0) 0 0)).map FV.d), .box [.d (.v (.int .i64 0)), .d (.v (.int .u32 0))]]⟩
def G_cpu_other_C2_hd (v_i455 : S_api_Ins) (v_r454 : S_api_Regs)  : PS := ⟨[dd, dd, .ref 0 0, .ref 1 0, .ref 2 0, .ref 3 0, dd, .d (.v (.int .i64 v_i455.fOp)), dd, dd, dd, dd, dd, dd, dd, dd, dd, dd, dd, dd, dd, dd, dd, dd, dd, dd, dd, dd, dd, dd, dd, dd, dd, dd, dd, dd, dd, dd, dd, dd, dd, dd, dd, dd, dd, dd, dd, dd, dd, dd, dd, dd, dd, dd, dd, dd, dd, dd, dd, dd, dd, dd, dd, dd, dd, dd, dd, dd, dd, dd, dd, dd, dd, dd, dd, dd, dd, dd, dd], [.box ((cS_api_Regs v_r454).map FV.d), .box [.d (.v (.int .i64 v_i455.fOp)), .d (.v (.int .i64 v_i455.fA)), .d (.v (.int .i64 v_i455.fB)), .d (.v (.int .i64 v_i455.fC))], .box ((cS_api_Regs (S_api_Regs.mk (fun (_ : Fin 8) => 0) 0 0)).map FV.d), .box [.d (.v (.int .i64 0)), .d (.v (.int .u32 0))]]⟩
def G_cpu_other_C2 (n : Nat) (v_i455 : S_api_Ins) (v_r454 : S_api_Regs) : Option G_cpu_other_C2_R :=
  (G_cpu_other_C1 n v_i455 v_r454).bind fun v_o517 => match v_o517 with
  | .x0  =>
    some (.x0 )
  | .x1  =>
    some (.x1 )
  | .x2 v_z518 =>
    some (.x2 v_z518)
  | .x3  =>
    some (.x3 )
  | .x4  =>
    some (.x4 )
theorem G_cpu_other_C2_ok {Fi : Ex → PS → Prop} (hF : KC 79 Fi) (ks : List Fr) (n : Nat) (v_i455 : S_api_Ins) (v_r454 : S_api_Regs)  (o : G_cpu_other_C2_R) (h : G_cpu_other_C2 n v_i455 v_r454 = some o) (q : RunE Try.prog 79 Fi ks (G_cpu_other_C2_ex o) (G_cpu_other_C2_st v_i455 v_r454 o)) : RunE Try.prog 79 Fi (.s (cR (cL (cR (bodyOf Try.f15)))) :: ks) .normal (G_cpu_other_C2_hd v_i455 v_r454) := by
  unfold G_cpu_other_C2 at h
  obtain ⟨v_o517, h1214, h⟩ := bind_some h
  refine pkk_sound TTok mix hF 3 (hs := []) (ts := []) (s := [0, 1, 2, 3]) (l := [2, 3, 4, 5, 7, 8]) (by kernel_rfl) (by kernel_rfl) .nil (G_cpu_other_C1_ok hF (.b 0 :: ks) n v_i455 v_r454 _ h1214 ?_)
  cases v_o517 with
  | x0  =>
    try dsimp only at h
    cases h
    exact pkk_sound TTok mix hF 1 (hs := []) (ts := []) (s := [0, 1]) (l := [4, 5]) (by kernel_rfl) (by kernel_rfl) .nil q
  | x1  =>
    try dsimp only at h
    cases h
    exact pkk_sound TTok mix hF 1 (hs := []) (ts := []) (s := [0, 1]) (l := [4, 5]) (by kernel_rfl) (by kernel_rfl) .nil q
  | x2 v_z518 =>
    try dsimp only at h
    cases h
    exact pkk_sound TTok mix hF 1 (hs := []) (ts := []) (s := [0, 1, 2]) (l := [2, 4, 5]) (by kernel_rfl) (by kernel_rfl) .nil q
  | x3  =>
    try dsimp only at h
    cases h
    exact pkk_sound TTok mix hF 1 (hs := []) (ts := []) (s := [0, 1, 2]) (l := [2, 4, 5]) (by kernel_rfl) (by kernel_rfl) .nil q
  | x4  =>
    try dsimp only at h
    cases h
    exact pkk_sound TTok mix hF 1 (hs := []) (ts := []) (s := [0, 1, 2]) (l := [2, 4, 5]) (by kernel_rfl) (by kernel_rfl) .nil q
/- ringhall/cpu.other -/
def G_cpu_other (n : Nat) (v_r454 : S_api_Regs) (v_i455 : S_api_Ins) : Option (S_api_Regs × S_api_Trap) :=
  (G_cpu_other_C2 n v_i455 v_r454).bind fun v_o520 => match v_o520 with
  | .x0  =>
    some (v_r454, (S_api_Trap.mk 5 0))
  | .x1  =>
    some (v_r454, (S_api_Trap.mk 1 0))
  | .x2 v_z521 =>
    some (v_z521, (S_api_Trap.mk 0 0))
  | .x3  =>
    some ((S_api_Regs.mk (setA v_r454.fR v_i455.fA (wi .u32 v_i455.fC)) v_r454.fPc v_r454.fRing), (S_api_Trap.mk 0 0))
  | .x4  =>
    some (v_r454, (S_api_Trap.mk 0 0))
theorem G_cpu_other_ok (n : Nat) (v_r454 : S_api_Regs) (v_i455 : S_api_Ins) (r : S_api_Regs × S_api_Trap) (h : G_cpu_other n v_r454 v_i455 = some r) : Ret Try.prog 15 [eS_api_Regs v_r454, eS_api_Ins v_i455] (.tup [eS_api_Regs r.1, eS_api_Trap r.2]) := by
  refine ret_run (n := 79) (fn := Try.f15) (c := bodyOf Try.f15) (by kernel_rfl) (by kernel_rfl) (by kernel_rfl) (by kernel_rfl) ?_
  have hF : KC 79 (FinR Try.prog Try.f15 (.tup [eS_api_Regs r.1, eS_api_Trap r.2])) := FinR.kc' (by kernel_rfl)
  unfold G_cpu_other at h
  obtain ⟨v_o520, h1215, h⟩ := bind_some h
  refine pkk_sound TTok mix hF 5 (hs := [.c]) (ts := []) (s := [0, 5, 10, 15]) (l := [2, 3, 4, 5, 7]) (by kernel_rfl) (by kernel_rfl) .nil (G_cpu_other_C2_ok hF (.s (cR (cR (bodyOf Try.f15))) :: []) n v_i455 v_r454 _ h1215 ?_)
  cases v_o520 with
  | x0  =>
    try dsimp only at h
    obtain rfl := Option.some.inj h
    exact pend_sound TTok mix 1 (hs := []) (by kernel_rfl) (by kernel_rfl) (by kernel_rfl) .nil
  | x1  =>
    try dsimp only at h
    obtain rfl := Option.some.inj h
    exact pend_sound TTok mix 1 (hs := []) (by kernel_rfl) (by kernel_rfl) (by kernel_rfl) .nil
  | x2 v_z521 =>
    try dsimp only at h
    obtain rfl := Option.some.inj h
    exact pend_sound TTok mix 3 (hs := [.c, .c, .c]) (by kernel_rfl) (by kernel_rfl) (by kernel_rfl) (.cons (show 0 + 10 ≤ 10 by decide) (.cons (show 0 + 2 ≤ 2 by decide) .nil))
  | x3  =>
    try dsimp only at h
    obtain rfl := Option.some.inj h
    exact pend_sound TTok mix 3 (hs := [.c, .c, .c]) (by kernel_rfl) (by kernel_rfl) (by kernel_rfl) (.cons (show 0 + 10 ≤ 10 by decide) (.cons (show 0 + 2 ≤ 2 by decide) .nil))
  | x4  =>
    try dsimp only at h
    obtain rfl := Option.some.inj h
    exact pend_sound TTok mix 3 (hs := [.c, .c, .c]) (by kernel_rfl) (by kernel_rfl) (by kernel_rfl) (.cons (show 0 + 10 ≤ 10 by decide) (.cons (show 0 + 2 ≤ 2 by decide) .nil))
inductive G_cpu_Step_h_C1_R where
  | x0 (v_x259 : Bool) (v_w260 : (List Int))
def G_cpu_Step_h_C1_ex : G_cpu_Step_h_C1_R → Ex
  | .x0 _ _ => .normal
def G_cpu_Step_h_C1_st (v_r257 : (S_api_Ins × Int)) (v_r74 : (Int × S_api_Trap × S_ringref5_Room)) (v_r16 : S_api_Regs) : G_cpu_Step_h_C1_R → PS
  | .x0 v_x259 v_w260 => ⟨[dd, .srf 3, .ref 7 0, dd, .ref 8 0, .ref 9 0, dd, dd, .ref 10 0, dd, dd, dd, dd, dd, dd, dd, dd, dd, dd, dd, dd, dd, dd, dd, dd, dd, dd, dd, dd, dd, dd, dd, dd, dd, dd, dd, dd, dd, dd, dd, dd, dd, dd, dd, dd, dd, dd, .d (.v (.bool v_x259)), dd, dd, dd, dd, dd, dd, dd, dd, dd, dd, dd, dd, dd, dd, dd, dd, dd, dd, dd, dd, dd, dd, dd, dd, dd, dd, dd, dd, dd, dd, dd, dd, dd, dd, dd, dd, dd, dd, dd, dd, dd, dd, dd, dd, dd, dd, dd, dd, dd, dd, dd, dd, dd, dd, dd, dd, dd, dd, dd, dd, dd, dd, dd, dd, dd, dd, dd, dd, dd, dd, dd, dd, dd, dd, dd, dd, dd, dd, dd, dd, dd, dd, dd], [.gh 0 (.srf 3), .gh 1 (.ref 4 0), .gh 2 (.srf 6), .cu (ifC 36) [.ref 4 0], .box [.d (.v (.int .u32 v_r74.2.2.fAt)), .srf 5, .d (.v (.int .i64 v_r74.2.2.fMay))], .row 5 1 (v_w260.map (eI .u8)), .none, .box ((cS_api_Regs v_r16).map FV.d), .box ((cS_api_Regs (S_api_Regs.mk (fun (_ : Fin 8) => 0) 0 0)).map FV.d), .box [.d (.v (.int .i64 0)), .d (.v (.int .u32 0))], .box [.d (.v (.int .i64 v_r257.1.fOp)), .d (.v (.int .i64 v_r257.1.fA)), .d (.v (.int .i64 v_r257.1.fB)), .d (.v (.int .i64 v_r257.1.fC))]]⟩
def G_cpu_Step_h_C1_hd (v_r257 : (S_api_Ins × Int)) (v_r74 : (Int × S_api_Trap × S_ringref5_Room)) (v_r16 : S_api_Regs)  : PS := ⟨[dd, .srf 3, .ref 7 0, dd, .ref 8 0, .ref 9 0, dd, dd, .ref 10 0, .d (.v (.int .i64 v_r257.2)), dd, dd, dd, dd, dd, dd, dd, dd, dd, dd, dd, dd, dd, dd, dd, dd, dd, dd, dd, dd, dd, dd, dd, dd, dd, dd, dd, dd, dd, dd, dd, dd, dd, dd, dd, dd, dd, dd, dd, dd, dd, dd, dd, dd, dd, dd, dd, dd, dd, dd, dd, dd, dd, dd, dd, dd, dd, dd, dd, dd, dd, dd, dd, dd, dd, dd, dd, dd, dd, dd, dd, dd, dd, dd, dd, dd, dd, dd, dd, dd, dd, dd, dd, dd, dd, dd, dd, dd, dd, dd, dd, dd, dd, dd, dd, dd, dd, dd, dd, dd, dd, dd, dd, dd, dd, dd, dd, dd, dd, dd, dd, dd, dd, dd, dd, dd, dd, dd, dd, dd, dd], [.gh 0 (.srf 3), .gh 1 (.ref 4 0), .gh 2 (.srf 6), .cu (ifC 36) [.ref 4 0], .box [.d (.v (.int .u32 v_r74.2.2.fAt)), .srf 5, .d (.v (.int .i64 v_r74.2.2.fMay))], .row 5 1 (v_r74.2.2.fBytes.map (eI .u8)), .none, .box ((cS_api_Regs v_r16).map FV.d), .box ((cS_api_Regs (S_api_Regs.mk (fun (_ : Fin 8) => 0) 0 0)).map FV.d), .box [.d (.v (.int .i64 0)), .d (.v (.int .u32 0))], .box [.d (.v (.int .i64 v_r257.1.fOp)), .d (.v (.int .i64 v_r257.1.fA)), .d (.v (.int .i64 v_r257.1.fB)), .d (.v (.int .i64 v_r257.1.fC))]]⟩
def G_cpu_Step_h_C1 (n : Nat) (v_r257 : (S_api_Ins × Int)) (v_r74 : (Int × S_api_Trap × S_ringref5_Room)) (v_r16 : S_api_Regs) : Option G_cpu_Step_h_C1_R :=
  if v_r257.2 = 0 then
   if v_r257.1.fOp = 1 then
    some (.x0 (v_r16.fRing != 0) v_r74.2.2.fBytes)
   else
    if v_r257.1.fOp = 26 then
     some (.x0 (v_r16.fRing != 0) v_r74.2.2.fBytes)
    else
     some (.x0 false v_r74.2.2.fBytes)
  else
   some (.x0 true v_r74.2.2.fBytes)
theorem G_cpu_Step_h_C1_ok {Fi : Ex → PS → Prop} (hF : KC 131 Fi) (ks : List Fr) (n : Nat) (v_r257 : (S_api_Ins × Int)) (v_r74 : (Int × S_api_Trap × S_ringref5_Room)) (v_r16 : S_api_Regs)  (o : G_cpu_Step_h_C1_R) (h : G_cpu_Step_h_C1 n v_r257 v_r74 v_r16 = some o) (q : RunE Try.prog 131 Fi ks (G_cpu_Step_h_C1_ex o) (G_cpu_Step_h_C1_st v_r257 v_r74 v_r16 o)) : RunE Try.prog 131 Fi (.s (cL (cL (cR (cR (cR (cR (bodyOf Try.f7))))))) :: ks) .normal (G_cpu_Step_h_C1_hd v_r257 v_r74 v_r16) := by
  unfold G_cpu_Step_h_C1 at h
  by_cases h654 : v_r257.2 = 0
  · rw [if_pos h654] at h
    by_cases h655 : v_r257.1.fOp = 1
    · rw [if_pos h655] at h
      cases h
      exact pkk_sound TTok mix hF 1 (hs := [.t false, .c, .c, .c, .c, .t true, .c, .c, .c, .c, .c, .c, .c, .c, .c]) (ts := []) (s := [0, 1, 2, 3, 4, 5, 6, 7, 8, 9, 10]) (l := [1, 2, 4, 5, 8, 47]) (by kernel_rfl) (by kernel_rfl) (.cons (nf h654) (.cons (bt h655) .nil)) q
    · rw [if_neg h655] at h
      by_cases h656 : v_r257.1.fOp = 26
      · rw [if_pos h656] at h
        cases h
        exact pkk_sound TTok mix hF 1 (hs := [.t false, .c, .c, .c, .c, .t false, .c, .c, .c, .c, .c, .t true, .c, .c, .c, .c]) (ts := []) (s := [0, 1, 2, 3, 4, 5, 6, 7, 8, 9, 10]) (l := [1, 2, 4, 5, 8, 47]) (by kernel_rfl) (by kernel_rfl) (.cons (nf h654) (.cons (bf h655) (.cons (bt h656) .nil))) q
      · rw [if_neg h656] at h
        cases h
        exact pkk_sound TTok mix hF 1 (hs := [.t false, .c, .c, .c, .c, .t false, .c, .c, .c, .c, .c, .t false, .c, .c, .c]) (ts := []) (s := [0, 1, 2, 3, 4, 5, 6, 7, 8, 9, 10]) (l := [1, 2, 4, 5, 8, 47]) (by kernel_rfl) (by kernel_rfl) (.cons (nf h654) (.cons (bf h655) (.cons (bf h656) .nil))) q
  · rw [if_neg h654] at h
    cases h
    exact pkk_sound TTok mix hF 1 (hs := [.t true, .c, .c, .c, .c, .c, .c]) (ts := []) (s := [0, 1, 2, 3, 4, 5, 6, 7, 8, 9, 10]) (l := [1, 2, 4, 5, 8, 47]) (by kernel_rfl) (by kernel_rfl) (.cons (nt h654) .nil) q
inductive G_cpu_Step_h_C2_R where
  | x0 (v_x640 : Bool) (v_w641 : (List Int))
def G_cpu_Step_h_C2_ex : G_cpu_Step_h_C2_R → Ex
  | .x0 _ _ => .normal
def G_cpu_Step_h_C2_st (v_r74 : (Int × S_api_Trap × S_ringref5_Room)) (v_z269 : (List Int)) (v_r16 : S_api_Regs) (v_r257 : (S_api_Ins × Int)) : G_cpu_Step_h_C2_R → PS
  | .x0 v_x640 v_w641 => ⟨[dd, .srf 3, .ref 7 0, dd, .ref 8 0, .ref 9 0, dd, dd, .ref 10 0, dd, .ref 11 0, dd, dd, dd, dd, dd, dd, dd, dd, dd, dd, dd, dd, dd, dd, dd, dd, dd, dd, dd, dd, dd, dd, dd, dd, dd, dd, dd, dd, dd, dd, dd, dd, dd, dd, dd, dd, dd, dd, dd, dd, dd, dd, dd, dd, dd, dd, dd, dd, dd, dd, dd, dd, dd, dd, dd, dd, dd, dd, dd, dd, dd, dd, dd, dd, dd, dd, dd, dd, dd, dd, dd, dd, dd, dd, dd, dd, dd, dd, dd, dd, dd, dd, dd, .d (.v (.bool v_x640)), dd, dd, dd, dd, dd, dd, dd, dd, dd, dd, dd, dd, dd, dd, dd, dd, dd, dd, dd, dd, dd, dd, dd, dd, dd, dd, dd, dd, dd, dd, dd, dd, dd, dd, dd, dd], [.gh 0 (.srf 3), .gh 1 (.ref 4 0), .gh 2 (.srf 6), .cu (ifC 36) [.ref 4 0], .box [.d (.v (.int .u32 v_r74.2.2.fAt)), .srf 5, .d (.v (.int .i64 v_r74.2.2.fMay))], .row 5 1 (v_w641.map (eI .u8)), .none, .box ((cS_api_Regs v_r16).map FV.d), .box ((cS_api_Regs (S_api_Regs.mk (fun (_ : Fin 8) => 0) 0 0)).map FV.d), .box [.d (.v (.int .i64 0)), .d (.v (.int .u32 0))], .box [.d (.v (.int .i64 v_r257.1.fOp)), .d (.v (.int .i64 v_r257.1.fA)), .d (.v (.int .i64 v_r257.1.fB)), .d (.v (.int .i64 v_r257.1.fC))], .box ((cS_api_Regs (S_api_Regs.mk v_r16.fR (wi .u32 (v_r16.fPc + 4)) v_r16.fRing)).map FV.d)]⟩
def G_cpu_Step_h_C2_hd (v_r74 : (Int × S_api_Trap × S_ringref5_Room)) (v_z269 : (List Int)) (v_r16 : S_api_Regs) (v_r257 : (S_api_Ins × Int))  : PS := ⟨[dd, .srf 3, .ref 7 0, dd, .ref 8 0, .ref 9 0, dd, dd, .ref 10 0, dd, .ref 11 0, dd, dd, dd, dd, dd, dd, dd, dd, dd, dd, dd, dd, dd, dd, dd, dd, dd, dd, dd, dd, dd, dd, dd, dd, dd, dd, dd, dd, dd, dd, dd, dd, dd, dd, dd, dd, dd, dd, dd, dd, dd, dd, dd, dd, dd, dd, dd, dd, dd, dd, dd, dd, dd, dd, dd, dd, dd, dd, dd, dd, dd, dd, dd, dd, dd, dd, dd, dd, dd, dd, dd, dd, dd, dd, dd, dd, dd, dd, dd, dd, dd, dd, dd, dd, dd, dd, dd, dd, dd, dd, dd, dd, dd, dd, dd, dd, dd, dd, dd, dd, dd, dd, dd, dd, dd, dd, dd, dd, dd, dd, dd, dd, dd, dd, dd, dd, dd, dd, dd, dd], [.gh 0 (.srf 3), .gh 1 (.ref 4 0), .gh 2 (.srf 6), .cu (ifC 36) [.ref 4 0], .box [.d (.v (.int .u32 v_r74.2.2.fAt)), .srf 5, .d (.v (.int .i64 v_r74.2.2.fMay))], .row 5 1 (v_z269.map (eI .u8)), .none, .box ((cS_api_Regs v_r16).map FV.d), .box ((cS_api_Regs (S_api_Regs.mk (fun (_ : Fin 8) => 0) 0 0)).map FV.d), .box [.d (.v (.int .i64 0)), .d (.v (.int .u32 0))], .box [.d (.v (.int .i64 v_r257.1.fOp)), .d (.v (.int .i64 v_r257.1.fA)), .d (.v (.int .i64 v_r257.1.fB)), .d (.v (.int .i64 v_r257.1.fC))], .box ((cS_api_Regs (S_api_Regs.mk v_r16.fR (wi .u32 (v_r16.fPc + 4)) v_r16.fRing)).map FV.d)]⟩
def G_cpu_Step_h_C2 (n : Nat) (v_r74 : (Int × S_api_Trap × S_ringref5_Room)) (v_z269 : (List Int)) (v_r16 : S_api_Regs) (v_r257 : (S_api_Ins × Int)) : Option G_cpu_Step_h_C2_R :=
  if v_r257.1.fOp ≥ 15 then
   if v_r257.1.fOp ≤ 18 then
    some (.x0 true v_z269)
   else
    some (.x0 (v_r257.1.fOp == 25) v_z269)
  else
   some (.x0 (v_r257.1.fOp == 25) v_z269)
theorem G_cpu_Step_h_C2_ok {Fi : Ex → PS → Prop} (hF : KC 131 Fi) (ks : List Fr) (n : Nat) (v_r74 : (Int × S_api_Trap × S_ringref5_Room)) (v_z269 : (List Int)) (v_r16 : S_api_Regs) (v_r257 : (S_api_Ins × Int))  (o : G_cpu_Step_h_C2_R) (h : G_cpu_Step_h_C2 n v_r74 v_z269 v_r16 v_r257 = some o) (q : RunE Try.prog 131 Fi ks (G_cpu_Step_h_C2_ex o) (G_cpu_Step_h_C2_st v_r74 v_z269 v_r16 v_r257 o)) : RunE Try.prog 131 Fi (.s (cL (cF (cR (cB (cL (cR (cR (cR (cR (cR (cR (cR (bodyOf Try.f7))))))))))))) :: ks) .normal (G_cpu_Step_h_C2_hd v_r74 v_z269 v_r16 v_r257) := by
  unfold G_cpu_Step_h_C2 at h
  by_cases h1317 : v_r257.1.fOp ≥ 15
  · rw [if_pos h1317] at h
    by_cases h1318 : v_r257.1.fOp ≤ 18
    · rw [if_pos h1318] at h
      cases h
      exact pkk_sound TTok mix hF 1 (hs := [.c, .t true, .c, .c, .c, .t true, .c, .c]) (ts := []) (s := [0, 1, 2, 3, 4, 5, 6, 7, 8, 9, 10, 11]) (l := [1, 2, 4, 5, 8, 10, 94]) (by kernel_rfl) (by kernel_rfl) (.cons (dt h1317) (.cons (dt h1318) .nil)) q
    · rw [if_neg h1318] at h
      cases h
      exact pkk_sound TTok mix hF 1 (hs := [.c, .t true, .c, .c, .c, .t false, .c, .c, .c]) (ts := []) (s := [0, 1, 2, 3, 4, 5, 6, 7, 8, 9, 10, 11]) (l := [1, 2, 4, 5, 8, 10, 94]) (by kernel_rfl) (by kernel_rfl) (.cons (dt h1317) (.cons (df h1318) .nil)) q
  · rw [if_neg h1317] at h
    cases h
    exact pkk_sound TTok mix hF 1 (hs := [.c, .t false, .c, .c, .c, .c, .c, .c]) (ts := []) (s := [0, 1, 2, 3, 4, 5, 6, 7, 8, 9, 10, 11]) (l := [1, 2, 4, 5, 8, 10, 94]) (by kernel_rfl) (by kernel_rfl) (.cons (df h1317) .nil) q
inductive G_cpu_Step_h_C3_R where
  | x0 (v_w635 : (List Int))
  | x1 (v_w637 : (List Int)) (v_b638 : S_api_Regs)
  | x2 (v_b650 : Int) (v_b651 : Int) (v_w652 : (List Int)) (v_b653 : S_api_Trap)
  | x3 (v_b654 : Int) (v_b655 : Int) (v_w656 : (List Int)) (v_b657 : S_api_Regs)
  | x4 (v_w662 : (List Int)) (v_b663 : S_api_Regs) (v_b664 : S_api_Trap)
def G_cpu_Step_h_C3_ex : G_cpu_Step_h_C3_R → Ex
  | .x0 _ => .ret
  | .x1 _ _ => .normal
  | .x2 _ _ _ _ => .ret
  | .x3 _ _ _ _ => .normal
  | .x4 _ _ _ => .ret
def G_cpu_Step_h_C3_st (v_r257 : (S_api_Ins × Int)) (v_r74 : (Int × S_api_Trap × S_ringref5_Room)) (v_z269 : (List Int)) (v_r16 : S_api_Regs) : G_cpu_Step_h_C3_R → PS
  | .x0 v_w635 => ⟨[dd, dd, dd, dd, .ref 7 0, .ref 8 0, dd, dd, dd, dd, dd, dd, dd, dd, dd, dd, dd, dd, dd, dd, dd, dd, dd, dd, dd, dd, dd, dd, dd, dd, dd, dd, dd, dd, dd, dd, dd, dd, dd, dd, dd, dd, dd, dd, dd, dd, dd, dd, dd, dd, dd, dd, dd, dd, dd, dd, dd, dd, dd, dd, dd, dd, dd, dd, dd, dd, dd, dd, dd, dd, dd, dd, dd, dd, dd, dd, dd, dd, dd, dd, dd, dd, dd, dd, dd, dd, dd, dd, dd, dd, dd, dd, dd, dd, dd, dd, dd, dd, dd, dd, dd, dd, dd, dd, dd, dd, dd, dd, dd, dd, dd, dd, dd, dd, dd, dd, dd, dd, dd, dd, dd, dd, dd, dd, dd, dd, dd, dd, dd, dd, dd], [.gh 0 (.srf 3), .gh 1 (.ref 4 0), .gh 2 (.srf 6), .cu (ifC 36) [.ref 4 0], .box [.d (.v (.int .u32 v_r74.2.2.fAt)), .srf 5, .d (.v (.int .i64 v_r74.2.2.fMay))], .row 5 1 (v_w635.map (eI .u8)), .none, .box ((cS_api_Regs v_r16).map FV.d), .box [.d (.v (.int .i64 4)), .d (.v (.int .u32 0))]]⟩
  | .x1 v_w637 v_b638 => ⟨[dd, dd, dd, dd, .ref 7 0, .ref 8 0, dd, dd, dd, dd, .ref 9 0, dd, dd, dd, dd, dd, dd, dd, dd, dd, dd, dd, dd, dd, dd, dd, dd, dd, dd, dd, dd, dd, dd, dd, dd, dd, dd, dd, dd, dd, dd, dd, dd, dd, dd, dd, dd, dd, dd, dd, dd, dd, dd, dd, dd, dd, dd, dd, dd, dd, dd, dd, dd, dd, dd, dd, dd, dd, dd, dd, dd, dd, dd, dd, dd, dd, dd, dd, dd, dd, dd, dd, dd, dd, dd, dd, dd, dd, dd, dd, dd, dd, dd, dd, dd, dd, dd, dd, dd, dd, dd, dd, dd, dd, dd, dd, dd, dd, dd, dd, dd, dd, dd, dd, dd, dd, dd, dd, dd, dd, dd, dd, dd, dd, dd, dd, dd, dd, dd, dd, dd], [.gh 0 (.srf 3), .gh 1 (.ref 4 0), .gh 2 (.srf 6), .cu (ifC 36) [.ref 4 0], .box [.d (.v (.int .u32 v_r74.2.2.fAt)), .srf 5, .d (.v (.int .i64 v_r74.2.2.fMay))], .row 5 1 (v_w637.map (eI .u8)), .none, .box ((cS_api_Regs (S_api_Regs.mk (fun (_ : Fin 8) => 0) 0 0)).map FV.d), .box [.d (.v (.int .i64 0)), .d (.v (.int .u32 0))], .box ((cS_api_Regs v_b638).map FV.d)]⟩
  | .x2 v_b650 v_b651 v_w652 v_b653 => ⟨[dd, dd, dd, dd, .ref 7 0, .ref 8 0, dd, dd, dd, dd, dd, dd, dd, dd, dd, dd, dd, dd, dd, dd, dd, dd, dd, dd, dd, dd, dd, dd, dd, dd, dd, dd, dd, dd, dd, dd, dd, dd, dd, dd, dd, dd, dd, dd, dd, dd, dd, dd, dd, dd, dd, dd, dd, dd, dd, dd, dd, dd, dd, dd, dd, dd, dd, dd, dd, dd, dd, dd, dd, dd, dd, dd, dd, dd, dd, dd, dd, dd, dd, dd, dd, dd, dd, dd, dd, dd, dd, dd, dd, dd, dd, dd, dd, dd, dd, dd, dd, dd, dd, dd, dd, dd, dd, dd, dd, dd, dd, dd, dd, dd, dd, dd, dd, dd, dd, dd, dd, dd, dd, dd, dd, dd, dd, dd, dd, dd, dd, dd, dd, dd, dd], [.gh 0 (.srf 3), .gh 1 (.ref 4 0), .gh 2 (.srf 6), .cu (ifC 36) [.ref 4 0], .box [.d (.v (.int .u32 v_b650)), .srf 5, .d (.v (.int .i64 v_b651))], .row 5 1 (v_w652.map (eI .u8)), .none, .box ((cS_api_Regs v_r16).map FV.d), .box [.d (.v (.int .i64 v_b653.fKind)), .d (.v (.int .u32 v_b653.fAddr))]]⟩
  | .x3 v_b654 v_b655 v_w656 v_b657 => ⟨[dd, dd, dd, dd, .ref 7 0, .ref 8 0, dd, dd, dd, dd, .ref 9 0, dd, dd, dd, dd, dd, dd, dd, dd, dd, dd, dd, dd, dd, dd, dd, dd, dd, dd, dd, dd, dd, dd, dd, dd, dd, dd, dd, dd, dd, dd, dd, dd, dd, dd, dd, dd, dd, dd, dd, dd, dd, dd, dd, dd, dd, dd, dd, dd, dd, dd, dd, dd, dd, dd, dd, dd, dd, dd, dd, dd, dd, dd, dd, dd, dd, dd, dd, dd, dd, dd, dd, dd, dd, dd, dd, dd, dd, dd, dd, dd, dd, dd, dd, dd, dd, dd, dd, dd, dd, dd, dd, dd, dd, dd, dd, dd, dd, dd, dd, dd, dd, dd, dd, dd, dd, dd, dd, dd, dd, dd, dd, dd, dd, dd, dd, dd, dd, dd, dd, dd], [.gh 0 (.srf 3), .gh 1 (.ref 4 0), .gh 2 (.srf 6), .cu (ifC 36) [.ref 4 0], .box [.d (.v (.int .u32 v_b654)), .srf 5, .d (.v (.int .i64 v_b655))], .row 5 1 (v_w656.map (eI .u8)), .none, .box ((cS_api_Regs (S_api_Regs.mk (fun (_ : Fin 8) => 0) 0 0)).map FV.d), .box [.d (.v (.int .i64 0)), .d (.v (.int .u32 0))], .box ((cS_api_Regs v_b657).map FV.d)]⟩
  | .x4 v_w662 v_b663 v_b664 => ⟨[dd, dd, dd, dd, .ref 7 0, .ref 8 0, dd, dd, dd, dd, dd, dd, dd, dd, dd, dd, dd, dd, dd, dd, dd, dd, dd, dd, dd, dd, dd, dd, dd, dd, dd, dd, dd, dd, dd, dd, dd, dd, dd, dd, dd, dd, dd, dd, dd, dd, dd, dd, dd, dd, dd, dd, dd, dd, dd, dd, dd, dd, dd, dd, dd, dd, dd, dd, dd, dd, dd, dd, dd, dd, dd, dd, dd, dd, dd, dd, dd, dd, dd, dd, dd, dd, dd, dd, dd, dd, dd, dd, dd, dd, dd, dd, dd, dd, dd, dd, dd, dd, dd, dd, dd, dd, dd, dd, dd, dd, dd, dd, dd, dd, dd, dd, dd, dd, dd, dd, dd, dd, dd, dd, dd, dd, dd, dd, dd, dd, dd, dd, dd, dd, dd], [.gh 0 (.srf 3), .gh 1 (.ref 4 0), .gh 2 (.srf 6), .cu (ifC 36) [.ref 4 0], .box [.d (.v (.int .u32 v_r74.2.2.fAt)), .srf 5, .d (.v (.int .i64 v_r74.2.2.fMay))], .row 5 1 (v_w662.map (eI .u8)), .none, .box ((cS_api_Regs v_b663).map FV.d), .box [.d (.v (.int .i64 v_b664.fKind)), .d (.v (.int .u32 v_b664.fAddr))]]⟩
def G_cpu_Step_h_C3_hd (v_r257 : (S_api_Ins × Int)) (v_r74 : (Int × S_api_Trap × S_ringref5_Room)) (v_z269 : (List Int)) (v_r16 : S_api_Regs)  : PS := ⟨[dd, .srf 3, .ref 7 0, dd, .ref 8 0, .ref 9 0, dd, dd, .ref 10 0, dd, .ref 11 0, dd, dd, dd, dd, dd, dd, dd, dd, dd, dd, dd, dd, dd, dd, dd, dd, dd, dd, dd, dd, dd, dd, dd, dd, dd, dd, dd, dd, dd, dd, dd, dd, dd, dd, dd, dd, dd, dd, dd, dd, dd, dd, dd, dd, dd, dd, dd, dd, dd, .d (.v (.bool (decide (v_r257.1.fOp ≤ 13)))), dd, dd, dd, dd, dd, dd, dd, dd, dd, dd, dd, dd, dd, dd, dd, dd, dd, dd, dd, dd, dd, dd, dd, dd, dd, dd, dd, dd, dd, dd, dd, dd, dd, dd, dd, dd, dd, dd, dd, dd, dd, dd, dd, dd, dd, dd, dd, dd, dd, dd, dd, dd, dd, dd, dd, dd, dd, dd, dd, dd, dd, dd, dd, dd, dd, dd, dd, dd, dd, dd], [.gh 0 (.srf 3), .gh 1 (.ref 4 0), .gh 2 (.srf 6), .cu (ifC 36) [.ref 4 0], .box [.d (.v (.int .u32 v_r74.2.2.fAt)), .srf 5, .d (.v (.int .i64 v_r74.2.2.fMay))], .row 5 1 (v_z269.map (eI .u8)), .none, .box ((cS_api_Regs v_r16).map FV.d), .box ((cS_api_Regs (S_api_Regs.mk (fun (_ : Fin 8) => 0) 0 0)).map FV.d), .box [.d (.v (.int .i64 0)), .d (.v (.int .u32 0))], .box [.d (.v (.int .i64 v_r257.1.fOp)), .d (.v (.int .i64 v_r257.1.fA)), .d (.v (.int .i64 v_r257.1.fB)), .d (.v (.int .i64 v_r257.1.fC))], .box ((cS_api_Regs (S_api_Regs.mk v_r16.fR (wi .u32 (v_r16.fPc + 4)) v_r16.fRing)).map FV.d)]⟩
def G_cpu_Step_h_C3 (n : Nat) (v_r257 : (S_api_Ins × Int)) (v_r74 : (Int × S_api_Trap × S_ringref5_Room)) (v_z269 : (List Int)) (v_r16 : S_api_Regs) : Option G_cpu_Step_h_C3_R :=
  if v_r257.1.fOp ≤ 13 then
   if 0 ≤ v_r257.1.fA ∧ v_r257.1.fA < (8 : Int) then
    (getA v_r16.fR v_r257.1.fA).bind fun (v_y632 : Int) =>
    if 0 ≤ v_r257.1.fB ∧ v_r257.1.fB < (8 : Int) then
     (getA v_r16.fR v_r257.1.fB).bind fun (v_y633 : Int) =>
     (G_cpu_reckon n v_r257.1.fOp v_y632 v_y633).bind fun (v_r634 : (Int × Bool)) =>
     if v_r634.2 = true then
      if 0 ≤ v_r257.1.fA ∧ v_r257.1.fA < (8 : Int) then
       (getA v_r16.fR v_r257.1.fA).bind fun (v_y636 : Int) =>
       some (.x1 v_z269 (S_api_Regs.mk (setA v_r16.fR v_r257.1.fA v_r634.1) (wi .u32 (v_r16.fPc + 4)) v_r16.fRing))
      else none
     else
      some (.x0 v_z269)
    else none
   else none
  else
   (G_cpu_Step_h_C2 n v_r74 v_z269 v_r16 v_r257).bind fun v_o646 => match v_o646 with
   | .x0 v_z647 v_z648 =>
     if v_z647 = true then
      (G_cpu_memory_h n (S_api_Regs.mk v_r16.fR (wi .u32 (v_r16.fPc + 4)) v_r16.fRing) v_r257.1 (S_ringref5_Room.mk v_r74.2.2.fAt v_z648 v_r74.2.2.fMay)).bind fun (v_r649 : (S_api_Trap × S_api_Regs × S_ringref5_Room)) =>
      if v_r649.1.fKind = 0 then
       some (.x3 v_r649.2.2.fAt v_r649.2.2.fMay v_r649.2.2.fBytes v_r649.2.1)
      else
       some (.x2 v_r649.2.2.fAt v_r649.2.2.fMay v_r649.2.2.fBytes v_r649.1)
     else
      if v_r257.1.fOp ≥ 19 then
       if v_r257.1.fOp ≤ 23 then
        (G_cpu_jump_h n (S_api_Regs.mk v_r16.fR (wi .u32 (v_r16.fPc + 4)) v_r16.fRing) v_r257.1 v_r16.fPc).bind fun (v_r658 : (S_api_Regs)) =>
        some (.x1 v_z648 v_r658)
       else
        (G_cpu_other n (S_api_Regs.mk v_r16.fR (wi .u32 (v_r16.fPc + 4)) v_r16.fRing) v_r257.1).bind fun (v_r661 : (S_api_Regs × S_api_Trap)) =>
        some (.x4 v_z648 v_r661.1 v_r661.2)
      else
       (G_cpu_other n (S_api_Regs.mk v_r16.fR (wi .u32 (v_r16.fPc + 4)) v_r16.fRing) v_r257.1).bind fun (v_r665 : (S_api_Regs × S_api_Trap)) =>
       some (.x4 v_z648 v_r665.1 v_r665.2)
theorem G_cpu_Step_h_C3_ok {Fi : Ex → PS → Prop} (hF : KC 131 Fi) (ks : List Fr) (n : Nat) (v_r257 : (S_api_Ins × Int)) (v_r74 : (Int × S_api_Trap × S_ringref5_Room)) (v_z269 : (List Int)) (v_r16 : S_api_Regs)  (o : G_cpu_Step_h_C3_R) (h : G_cpu_Step_h_C3 n v_r257 v_r74 v_z269 v_r16 = some o) (q : RunE Try.prog 131 Fi ks (G_cpu_Step_h_C3_ex o) (G_cpu_Step_h_C3_st v_r257 v_r74 v_z269 v_r16 o)) : RunE Try.prog 131 Fi (.s (cR (cB (cL (cR (cR (cR (cR (cR (cR (cR (bodyOf Try.f7))))))))))) :: ks) .normal (G_cpu_Step_h_C3_hd v_r257 v_r74 v_z269 v_r16) := by
  unfold G_cpu_Step_h_C3 at h
  by_cases h1305 : v_r257.1.fOp ≤ 13
  · rw [if_pos h1305] at h
    by_cases h1306 : 0 ≤ v_r257.1.fA ∧ v_r257.1.fA < (8 : Int)
    · rw [if_pos h1306] at h
      obtain ⟨v_y632, h1307, h⟩ := bind_some h
      by_cases h1308 : 0 ≤ v_r257.1.fB ∧ v_r257.1.fB < (8 : Int)
      · rw [if_pos h1308] at h
        obtain ⟨v_y633, h1309, h⟩ := bind_some h
        obtain ⟨v_r634, h1310, h⟩ := bind_some h
        by_cases h1312 : v_r634.2 = true
        · rw [if_pos h1312] at h
          by_cases h1313 : 0 ≤ v_r257.1.fA ∧ v_r257.1.fA < (8 : Int)
          · rw [if_pos h1313] at h
            obtain ⟨v_y636, h1314, h⟩ := bind_some h
            cases h
            exact pkk_sound TTok mix hF 9 (hs := [.t true, .c, .c, .l (.d (.v (.int .u32 v_y632))), .c, .l (.d (.v (.int .u32 v_y633))), .r (.tup [(eI .u32) v_r634.1, eB v_r634.2]), .t false, .c, .x ((cS_api_Regs (S_api_Regs.mk (setA v_r16.fR v_r257.1.fA v_r634.1) (wi .u32 (v_r16.fPc + 4)) v_r16.fRing)).map FV.d), .c]) (ts := []) (s := [0, 1, 2, 3, 4, 5, 6, 8, 9, 11]) (l := [4, 5, 10]) (by kernel_rfl) (by kernel_rfl) (.cons (dt h1305) (.cons h1306 (.cons (arr_cell (γ := FV) (sz := 1) (g := (fun x => [.d (.v (.int .u32 x))])) (pre := []) (post := [.d (.v (.int .u32 v_r16.fPc)), .d (.v (.int .i64 v_r16.fRing))]) (o := 0) (fun _ => rfl) h1307 rfl) (.cons h1308 (.cons (arr_cell (γ := FV) (sz := 1) (g := (fun x => [.d (.v (.int .u32 x))])) (pre := []) (post := [.d (.v (.int .u32 v_r16.fPc)), .d (.v (.int .i64 v_r16.fRing))]) (o := 0) (fun _ => rfl) h1309 rfl) (.cons (G_cpu_reckon_ok n v_r257.1.fOp v_y632 v_y633 _ h1310) (.cons (bnf h1312) (.cons h1313 (.cons (arr_store (γ := FV) (sz := 1) (g := (fun x => [.d (.v (.int .u32 x))])) (pre := []) (post := [.d (.v (.int .u32 (wi .u32 (v_r16.fPc + 4)))), .d (.v (.int .i64 v_r16.fRing))]) (o := 0) (y := v_r634.1) (zs := [.d (.v (.int .u32 v_r634.1))]) (fun _ => rfl) h1314 rfl (Nat.le_of_ble_eq_true rfl)).1 (.cons (arr_store (γ := FV) (sz := 1) (g := (fun x => [.d (.v (.int .u32 x))])) (pre := []) (post := [.d (.v (.int .u32 (wi .u32 (v_r16.fPc + 4)))), .d (.v (.int .i64 v_r16.fRing))]) (o := 0) (y := v_r634.1) (zs := [.d (.v (.int .u32 v_r634.1))]) (fun _ => rfl) h1314 rfl (Nat.le_of_ble_eq_true rfl)).2 .nil)))))))))) q
          · rw [if_neg h1313] at h; cases h
        · rw [if_neg h1312] at h
          cases h
          exact pkk_sound TTok mix hF 11 (hs := [.t true, .c, .c, .l (.d (.v (.int .u32 v_y632))), .c, .l (.d (.v (.int .u32 v_y633))), .r (.tup [(eI .u32) v_r634.1, eB v_r634.2]), .t true, .c, .c, .c]) (ts := []) (s := [0, 1, 2, 3, 4, 5, 6, 8, 9]) (l := [4, 5]) (by kernel_rfl) (by kernel_rfl) (.cons (dt h1305) (.cons h1306 (.cons (arr_cell (γ := FV) (sz := 1) (g := (fun x => [.d (.v (.int .u32 x))])) (pre := []) (post := [.d (.v (.int .u32 v_r16.fPc)), .d (.v (.int .i64 v_r16.fRing))]) (o := 0) (fun _ => rfl) h1307 rfl) (.cons h1308 (.cons (arr_cell (γ := FV) (sz := 1) (g := (fun x => [.d (.v (.int .u32 x))])) (pre := []) (post := [.d (.v (.int .u32 v_r16.fPc)), .d (.v (.int .i64 v_r16.fRing))]) (o := 0) (fun _ => rfl) h1309 rfl) (.cons (G_cpu_reckon_ok n v_r257.1.fOp v_y632 v_y633 _ h1310) (.cons (bnt (vf h1312)) (.cons (show 0 + 10 ≤ 10 by decide) (.cons (show 0 + 2 ≤ 2 by decide) .nil))))))))) q
      · rw [if_neg h1308] at h; cases h
    · rw [if_neg h1306] at h; cases h
  · rw [if_neg h1305] at h
    obtain ⟨v_o646, h1319, h⟩ := bind_some h
    refine pkk_sound TTok mix hF 2 (hs := [.t false]) (ts := []) (s := [0, 1, 2, 3, 4, 5, 6, 7, 8, 9, 10, 11]) (l := [1, 2, 4, 5, 8, 10]) (by kernel_rfl) (by kernel_rfl) (.cons (df h1305) .nil) (G_cpu_Step_h_C2_ok hF (.s (cR (cF (cR (cB (cL (cR (cR (cR (cR (cR (cR (cR (bodyOf Try.f7))))))))))))) :: ks) n v_r74 v_z269 v_r16 v_r257 _ h1319 ?_)
    cases v_o646 with
    | x0 v_z647 v_z648 =>
      try dsimp only at h
      by_cases h1320 : v_z647 = true
      · rw [if_pos h1320] at h
        obtain ⟨v_r649, h1321, h⟩ := bind_some h
        by_cases h1322 : v_r649.1.fKind = 0
        · rw [if_pos h1322] at h
          cases h
          exact pkk_sound TTok mix hF 7 (hs := [.t true, .c, .h [11, 3, 4, 5] [] [.box ((cS_api_Regs v_r649.2.1).map FV.d), .cu (ifC 36) [.ref 2 0], .box [.d (.v (.int .u32 v_r649.2.2.fAt)), .srf 4, .d (.v (.int .i64 v_r649.2.2.fMay))], .none, .row 5 1 (v_r649.2.2.fBytes.map (eI .u8))] (.d (.agg [.v (.int .i64 v_r649.1.fKind), .v (.int .u32 v_r649.1.fAddr)])), .c, .c, .t false]) (ts := []) (s := [0, 1, 2, 3, 4, 22, 6, 8, 9, 11]) (l := [4, 5, 10]) (by kernel_rfl) (by kernel_rfl) (.cons h1320 (.cons (G_cpu_memory_h_ok n (S_api_Regs.mk v_r16.fR (wi .u32 (v_r16.fPc + 4)) v_r16.fRing) v_r257.1 (S_ringref5_Room.mk v_r74.2.2.fAt v_z648 v_r74.2.2.fMay) _ h1321) (.cons (show 0 + 2 ≤ 2 by decide) (.cons (nf h1322) .nil)))) q
        · rw [if_neg h1322] at h
          cases h
          exact pkk_sound TTok mix hF 9 (hs := [.t true, .c, .h [11, 3, 4, 5] [] [.box ((cS_api_Regs v_r649.2.1).map FV.d), .cu (ifC 36) [.ref 2 0], .box [.d (.v (.int .u32 v_r649.2.2.fAt)), .srf 4, .d (.v (.int .i64 v_r649.2.2.fMay))], .none, .row 5 1 (v_r649.2.2.fBytes.map (eI .u8))] (.d (.agg [.v (.int .i64 v_r649.1.fKind), .v (.int .u32 v_r649.1.fAddr)])), .c, .c, .t true, .c, .c, .c, .c]) (ts := []) (s := [0, 1, 2, 3, 4, 22, 6, 8, 9]) (l := [4, 5]) (by kernel_rfl) (by kernel_rfl) (.cons h1320 (.cons (G_cpu_memory_h_ok n (S_api_Regs.mk v_r16.fR (wi .u32 (v_r16.fPc + 4)) v_r16.fRing) v_r257.1 (S_ringref5_Room.mk v_r74.2.2.fAt v_z648 v_r74.2.2.fMay) _ h1321) (.cons (show 0 + 2 ≤ 2 by decide) (.cons (nt h1322) (.cons (show 0 + 10 ≤ 10 by decide) (.cons (show 0 + 2 ≤ 2 by decide) .nil)))))) q
      · rw [if_neg h1320] at h
        by_cases h1323 : v_r257.1.fOp ≥ 19
        · rw [if_pos h1323] at h
          by_cases h1324 : v_r257.1.fOp ≤ 23
          · rw [if_pos h1324] at h
            obtain ⟨v_r658, h1325, h⟩ := bind_some h
            cases h
            exact pkk_sound TTok mix hF 5 (hs := [.t false, .c, .t true, .c, .c, .c, .t true, .c, .c, .h [11] [] [.box ((cS_api_Regs v_r658).map FV.d)] (.tup [])]) (ts := []) (s := [0, 1, 2, 3, 4, 5, 6, 8, 9, 11]) (l := [4, 5, 10]) (by kernel_rfl) (by kernel_rfl) (.cons (vf h1320) (.cons (dt h1323) (.cons (dt h1324) (.cons (G_cpu_jump_h_ok n (S_api_Regs.mk v_r16.fR (wi .u32 (v_r16.fPc + 4)) v_r16.fRing) v_r257.1 v_r16.fPc _ h1325) .nil)))) q
          · rw [if_neg h1324] at h
            obtain ⟨v_r661, h1326, h⟩ := bind_some h
            cases h
            exact pkk_sound TTok mix hF 7 (hs := [.t false, .c, .t true, .c, .c, .c, .t false, .c, .c, .r (.tup [eS_api_Regs v_r661.1, eS_api_Trap v_r661.2]), .c, .c]) (ts := []) (s := [0, 1, 2, 3, 4, 5, 6, 8, 9]) (l := [4, 5]) (by kernel_rfl) (by kernel_rfl) (.cons (vf h1320) (.cons (dt h1323) (.cons (df h1324) (.cons (G_cpu_other_ok n (S_api_Regs.mk v_r16.fR (wi .u32 (v_r16.fPc + 4)) v_r16.fRing) v_r257.1 _ h1326) (.cons (show 0 + 10 ≤ 10 by decide) (.cons (show 0 + 2 ≤ 2 by decide) .nil)))))) q
        · rw [if_neg h1323] at h
          obtain ⟨v_r665, h1327, h⟩ := bind_some h
          cases h
          exact pkk_sound TTok mix hF 7 (hs := [.t false, .c, .t false, .c, .c, .c, .c, .c, .r (.tup [eS_api_Regs v_r665.1, eS_api_Trap v_r665.2]), .c, .c]) (ts := []) (s := [0, 1, 2, 3, 4, 5, 6, 8, 9]) (l := [4, 5]) (by kernel_rfl) (by kernel_rfl) (.cons (vf h1320) (.cons (df h1323) (.cons (G_cpu_other_ok n (S_api_Regs.mk v_r16.fR (wi .u32 (v_r16.fPc + 4)) v_r16.fRing) v_r257.1 _ h1327) (.cons (show 0 + 10 ≤ 10 by decide) (.cons (show 0 + 2 ≤ 2 by decide) .nil))))) q
inductive G_cpu_Step_h_C4_R where
  | x0 (v_x713 : Bool) (v_w714 : (List Int))
def G_cpu_Step_h_C4_ex : G_cpu_Step_h_C4_R → Ex
  | .x0 _ _ => .normal
def G_cpu_Step_h_C4_st (v_r74 : (Int × S_api_Trap × S_ringref5_Room)) (v_z269 : (List Int)) (v_r16 : S_api_Regs) (v_r257 : (S_api_Ins × Int)) : G_cpu_Step_h_C4_R → PS
  | .x0 v_x713 v_w714 => ⟨[dd, .srf 3, .ref 7 0, dd, .ref 8 0, .ref 9 0, dd, dd, .ref 10 0, dd, .ref 11 0, dd, dd, dd, dd, dd, dd, dd, dd, dd, dd, dd, dd, dd, dd, dd, dd, dd, dd, dd, dd, dd, dd, dd, dd, dd, dd, dd, dd, dd, dd, dd, dd, dd, dd, dd, dd, dd, dd, dd, dd, dd, dd, dd, dd, dd, dd, dd, dd, dd, dd, dd, dd, dd, dd, dd, dd, dd, dd, dd, dd, dd, dd, dd, dd, dd, dd, dd, dd, dd, dd, dd, dd, dd, dd, dd, dd, dd, dd, dd, dd, dd, dd, dd, .d (.v (.bool v_x713)), dd, dd, dd, dd, dd, dd, dd, dd, dd, dd, dd, dd, dd, dd, dd, dd, dd, dd, dd, dd, dd, dd, dd, dd, dd, dd, dd, dd, dd, dd, dd, dd, dd, dd, dd, dd], [.gh 0 (.srf 3), .gh 1 (.ref 4 0), .gh 2 (.srf 6), .cu (ifC 36) [.ref 4 0], .box [.d (.v (.int .u32 v_r74.2.2.fAt)), .srf 5, .d (.v (.int .i64 v_r74.2.2.fMay))], .row 5 1 (v_w714.map (eI .u8)), .none, .box ((cS_api_Regs v_r16).map FV.d), .box ((cS_api_Regs (S_api_Regs.mk (fun (_ : Fin 8) => 0) 0 0)).map FV.d), .box [.d (.v (.int .i64 0)), .d (.v (.int .u32 0))], .box [.d (.v (.int .i64 v_r257.1.fOp)), .d (.v (.int .i64 v_r257.1.fA)), .d (.v (.int .i64 v_r257.1.fB)), .d (.v (.int .i64 v_r257.1.fC))], .box ((cS_api_Regs (S_api_Regs.mk v_r16.fR (wi .u32 (v_r16.fPc + 4)) v_r16.fRing)).map FV.d)]⟩
def G_cpu_Step_h_C4_hd (v_r74 : (Int × S_api_Trap × S_ringref5_Room)) (v_z269 : (List Int)) (v_r16 : S_api_Regs) (v_r257 : (S_api_Ins × Int))  : PS := ⟨[dd, .srf 3, .ref 7 0, dd, .ref 8 0, .ref 9 0, dd, dd, .ref 10 0, dd, .ref 11 0, dd, dd, dd, dd, dd, dd, dd, dd, dd, dd, dd, dd, dd, dd, dd, dd, dd, dd, dd, dd, dd, dd, dd, dd, dd, dd, dd, dd, dd, dd, dd, dd, dd, dd, dd, dd, dd, dd, dd, dd, dd, dd, dd, dd, dd, dd, dd, dd, dd, dd, dd, dd, dd, dd, dd, dd, dd, dd, dd, dd, dd, dd, dd, dd, dd, dd, dd, dd, dd, dd, dd, dd, dd, dd, dd, dd, dd, dd, dd, dd, dd, dd, dd, dd, dd, dd, dd, dd, dd, dd, dd, dd, dd, dd, dd, dd, dd, dd, dd, dd, dd, dd, dd, dd, dd, dd, dd, dd, dd, dd, dd, dd, dd, dd, dd, dd, dd, dd, dd, dd], [.gh 0 (.srf 3), .gh 1 (.ref 4 0), .gh 2 (.srf 6), .cu (ifC 36) [.ref 4 0], .box [.d (.v (.int .u32 v_r74.2.2.fAt)), .srf 5, .d (.v (.int .i64 v_r74.2.2.fMay))], .row 5 1 (v_z269.map (eI .u8)), .none, .box ((cS_api_Regs v_r16).map FV.d), .box ((cS_api_Regs (S_api_Regs.mk (fun (_ : Fin 8) => 0) 0 0)).map FV.d), .box [.d (.v (.int .i64 0)), .d (.v (.int .u32 0))], .box [.d (.v (.int .i64 v_r257.1.fOp)), .d (.v (.int .i64 v_r257.1.fA)), .d (.v (.int .i64 v_r257.1.fB)), .d (.v (.int .i64 v_r257.1.fC))], .box ((cS_api_Regs (S_api_Regs.mk v_r16.fR (wi .u32 (v_r16.fPc + 4)) v_r16.fRing)).map FV.d)]⟩
def G_cpu_Step_h_C4 (n : Nat) (v_r74 : (Int × S_api_Trap × S_ringref5_Room)) (v_z269 : (List Int)) (v_r16 : S_api_Regs) (v_r257 : (S_api_Ins × Int)) : Option G_cpu_Step_h_C4_R :=
  if v_r257.1.fOp ≥ 15 then
   if v_r257.1.fOp ≤ 18 then
    some (.x0 true v_z269)
   else
    some (.x0 (v_r257.1.fOp == 25) v_z269)
  else
   some (.x0 (v_r257.1.fOp == 25) v_z269)
theorem G_cpu_Step_h_C4_ok {Fi : Ex → PS → Prop} (hF : KC 131 Fi) (ks : List Fr) (n : Nat) (v_r74 : (Int × S_api_Trap × S_ringref5_Room)) (v_z269 : (List Int)) (v_r16 : S_api_Regs) (v_r257 : (S_api_Ins × Int))  (o : G_cpu_Step_h_C4_R) (h : G_cpu_Step_h_C4 n v_r74 v_z269 v_r16 v_r257 = some o) (q : RunE Try.prog 131 Fi ks (G_cpu_Step_h_C4_ex o) (G_cpu_Step_h_C4_st v_r74 v_z269 v_r16 v_r257 o)) : RunE Try.prog 131 Fi (.s (cL (cF (cR (cB (cL (cR (cR (cR (cR (cR (cR (cR (bodyOf Try.f7))))))))))))) :: ks) .normal (G_cpu_Step_h_C4_hd v_r74 v_z269 v_r16 v_r257) := by
  unfold G_cpu_Step_h_C4 at h
  by_cases h1344 : v_r257.1.fOp ≥ 15
  · rw [if_pos h1344] at h
    by_cases h1345 : v_r257.1.fOp ≤ 18
    · rw [if_pos h1345] at h
      cases h
      exact pkk_sound TTok mix hF 1 (hs := [.c, .t true, .c, .c, .c, .t true, .c, .c]) (ts := []) (s := [0, 1, 2, 3, 4, 5, 6, 7, 8, 9, 10, 11]) (l := [1, 2, 4, 5, 8, 10, 94]) (by kernel_rfl) (by kernel_rfl) (.cons (dt h1344) (.cons (dt h1345) .nil)) q
    · rw [if_neg h1345] at h
      cases h
      exact pkk_sound TTok mix hF 1 (hs := [.c, .t true, .c, .c, .c, .t false, .c, .c, .c]) (ts := []) (s := [0, 1, 2, 3, 4, 5, 6, 7, 8, 9, 10, 11]) (l := [1, 2, 4, 5, 8, 10, 94]) (by kernel_rfl) (by kernel_rfl) (.cons (dt h1344) (.cons (df h1345) .nil)) q
  · rw [if_neg h1344] at h
    cases h
    exact pkk_sound TTok mix hF 1 (hs := [.c, .t false, .c, .c, .c, .c, .c, .c]) (ts := []) (s := [0, 1, 2, 3, 4, 5, 6, 7, 8, 9, 10, 11]) (l := [1, 2, 4, 5, 8, 10, 94]) (by kernel_rfl) (by kernel_rfl) (.cons (df h1344) .nil) q
inductive G_cpu_Step_h_C5_R where
  | x0 (v_w671 : (List Int))
  | x1 (v_w674 : (List Int)) (v_b675 : S_api_Regs)
  | x2 (v_b680 : Int) (v_b681 : Int) (v_w682 : (List Int)) (v_b683 : S_api_Trap)
  | x3 (v_b688 : Int) (v_b689 : Int) (v_w690 : (List Int)) (v_b691 : S_api_Regs)
  | x4 (v_w695 : (List Int)) (v_b696 : S_api_Regs) (v_b697 : S_api_Trap)
def G_cpu_Step_h_C5_ex : G_cpu_Step_h_C5_R → Ex
  | .x0 _ => .ret
  | .x1 _ _ => .normal
  | .x2 _ _ _ _ => .ret
  | .x3 _ _ _ _ => .normal
  | .x4 _ _ _ => .ret
def G_cpu_Step_h_C5_st (v_r74 : (Int × S_api_Trap × S_ringref5_Room)) (v_z269 : (List Int)) (v_r16 : S_api_Regs) (v_r257 : (S_api_Ins × Int)) : G_cpu_Step_h_C5_R → PS
  | .x0 v_w671 => ⟨[dd, dd, dd, dd, .ref 7 0, .ref 8 0, dd, dd, dd, dd, dd, dd, dd, dd, dd, dd, dd, dd, dd, dd, dd, dd, dd, dd, dd, dd, dd, dd, dd, dd, dd, dd, dd, dd, dd, dd, dd, dd, dd, dd, dd, dd, dd, dd, dd, dd, dd, dd, dd, dd, dd, dd, dd, dd, dd, dd, dd, dd, dd, dd, dd, dd, dd, dd, dd, dd, dd, dd, dd, dd, dd, dd, dd, dd, dd, dd, dd, dd, dd, dd, dd, dd, dd, dd, dd, dd, dd, dd, dd, dd, dd, dd, dd, dd, dd, dd, dd, dd, dd, dd, dd, dd, dd, dd, dd, dd, dd, dd, dd, dd, dd, dd, dd, dd, dd, dd, dd, dd, dd, dd, dd, dd, dd, dd, dd, dd, dd, dd, dd, dd, dd], [.gh 0 (.srf 3), .gh 1 (.ref 4 0), .gh 2 (.srf 6), .cu (ifC 36) [.ref 4 0], .box [.d (.v (.int .u32 v_r74.2.2.fAt)), .srf 5, .d (.v (.int .i64 v_r74.2.2.fMay))], .row 5 1 (v_w671.map (eI .u8)), .none, .box ((cS_api_Regs v_r16).map FV.d), .box [.d (.v (.int .i64 4)), .d (.v (.int .u32 0))]]⟩
  | .x1 v_w674 v_b675 => ⟨[dd, dd, dd, dd, .ref 7 0, .ref 8 0, dd, dd, dd, dd, .ref 9 0, dd, dd, dd, dd, dd, dd, dd, dd, dd, dd, dd, dd, dd, dd, dd, dd, dd, dd, dd, dd, dd, dd, dd, dd, dd, dd, dd, dd, dd, dd, dd, dd, dd, dd, dd, dd, dd, dd, dd, dd, dd, dd, dd, dd, dd, dd, dd, dd, dd, dd, dd, dd, dd, dd, dd, dd, dd, dd, dd, dd, dd, dd, dd, dd, dd, dd, dd, dd, dd, dd, dd, dd, dd, dd, dd, dd, dd, dd, dd, dd, dd, dd, dd, dd, dd, dd, dd, dd, dd, dd, dd, dd, dd, dd, dd, dd, dd, dd, dd, dd, dd, dd, dd, dd, dd, dd, dd, dd, dd, dd, dd, dd, dd, dd, dd, dd, dd, dd, dd, dd], [.gh 0 (.srf 3), .gh 1 (.ref 4 0), .gh 2 (.srf 6), .cu (ifC 36) [.ref 4 0], .box [.d (.v (.int .u32 v_r74.2.2.fAt)), .srf 5, .d (.v (.int .i64 v_r74.2.2.fMay))], .row 5 1 (v_w674.map (eI .u8)), .none, .box ((cS_api_Regs (S_api_Regs.mk (fun (_ : Fin 8) => 0) 0 0)).map FV.d), .box [.d (.v (.int .i64 0)), .d (.v (.int .u32 0))], .box ((cS_api_Regs v_b675).map FV.d)]⟩
  | .x2 v_b680 v_b681 v_w682 v_b683 => ⟨[dd, dd, dd, dd, .ref 7 0, .ref 8 0, dd, dd, dd, dd, dd, dd, dd, dd, dd, dd, dd, dd, dd, dd, dd, dd, dd, dd, dd, dd, dd, dd, dd, dd, dd, dd, dd, dd, dd, dd, dd, dd, dd, dd, dd, dd, dd, dd, dd, dd, dd, dd, dd, dd, dd, dd, dd, dd, dd, dd, dd, dd, dd, dd, dd, dd, dd, dd, dd, dd, dd, dd, dd, dd, dd, dd, dd, dd, dd, dd, dd, dd, dd, dd, dd, dd, dd, dd, dd, dd, dd, dd, dd, dd, dd, dd, dd, dd, dd, dd, dd, dd, dd, dd, dd, dd, dd, dd, dd, dd, dd, dd, dd, dd, dd, dd, dd, dd, dd, dd, dd, dd, dd, dd, dd, dd, dd, dd, dd, dd, dd, dd, dd, dd, dd], [.gh 0 (.srf 3), .gh 1 (.ref 4 0), .gh 2 (.srf 6), .cu (ifC 36) [.ref 4 0], .box [.d (.v (.int .u32 v_b680)), .srf 5, .d (.v (.int .i64 v_b681))], .row 5 1 (v_w682.map (eI .u8)), .none, .box ((cS_api_Regs v_r16).map FV.d), .box [.d (.v (.int .i64 v_b683.fKind)), .d (.v (.int .u32 v_b683.fAddr))]]⟩
  | .x3 v_b688 v_b689 v_w690 v_b691 => ⟨[dd, dd, dd, dd, .ref 7 0, .ref 8 0, dd, dd, dd, dd, .ref 9 0, dd, dd, dd, dd, dd, dd, dd, dd, dd, dd, dd, dd, dd, dd, dd, dd, dd, dd, dd, dd, dd, dd, dd, dd, dd, dd, dd, dd, dd, dd, dd, dd, dd, dd, dd, dd, dd, dd, dd, dd, dd, dd, dd, dd, dd, dd, dd, dd, dd, dd, dd, dd, dd, dd, dd, dd, dd, dd, dd, dd, dd, dd, dd, dd, dd, dd, dd, dd, dd, dd, dd, dd, dd, dd, dd, dd, dd, dd, dd, dd, dd, dd, dd, dd, dd, dd, dd, dd, dd, dd, dd, dd, dd, dd, dd, dd, dd, dd, dd, dd, dd, dd, dd, dd, dd, dd, dd, dd, dd, dd, dd, dd, dd, dd, dd, dd, dd, dd, dd, dd], [.gh 0 (.srf 3), .gh 1 (.ref 4 0), .gh 2 (.srf 6), .cu (ifC 36) [.ref 4 0], .box [.d (.v (.int .u32 v_b688)), .srf 5, .d (.v (.int .i64 v_b689))], .row 5 1 (v_w690.map (eI .u8)), .none, .box ((cS_api_Regs (S_api_Regs.mk (fun (_ : Fin 8) => 0) 0 0)).map FV.d), .box [.d (.v (.int .i64 0)), .d (.v (.int .u32 0))], .box ((cS_api_Regs v_b691).map FV.d)]⟩
  | .x4 v_w695 v_b696 v_b697 => ⟨[dd, dd, dd, dd, .ref 7 0, .ref 8 0, dd, dd, dd, dd, dd, dd, dd, dd, dd, dd, dd, dd, dd, dd, dd, dd, dd, dd, dd, dd, dd, dd, dd, dd, dd, dd, dd, dd, dd, dd, dd, dd, dd, dd, dd, dd, dd, dd, dd, dd, dd, dd, dd, dd, dd, dd, dd, dd, dd, dd, dd, dd, dd, dd, dd, dd, dd, dd, dd, dd, dd, dd, dd, dd, dd, dd, dd, dd, dd, dd, dd, dd, dd, dd, dd, dd, dd, dd, dd, dd, dd, dd, dd, dd, dd, dd, dd, dd, dd, dd, dd, dd, dd, dd, dd, dd, dd, dd, dd, dd, dd, dd, dd, dd, dd, dd, dd, dd, dd, dd, dd, dd, dd, dd, dd, dd, dd, dd, dd, dd, dd, dd, dd, dd, dd], [.gh 0 (.srf 3), .gh 1 (.ref 4 0), .gh 2 (.srf 6), .cu (ifC 36) [.ref 4 0], .box [.d (.v (.int .u32 v_r74.2.2.fAt)), .srf 5, .d (.v (.int .i64 v_r74.2.2.fMay))], .row 5 1 (v_w695.map (eI .u8)), .none, .box ((cS_api_Regs v_b696).map FV.d), .box [.d (.v (.int .i64 v_b697.fKind)), .d (.v (.int .u32 v_b697.fAddr))]]⟩
def G_cpu_Step_h_C5_hd (v_r74 : (Int × S_api_Trap × S_ringref5_Room)) (v_z269 : (List Int)) (v_r16 : S_api_Regs) (v_r257 : (S_api_Ins × Int))  : PS := ⟨[dd, .srf 3, .ref 7 0, dd, .ref 8 0, .ref 9 0, dd, dd, .ref 10 0, dd, .ref 11 0, dd, dd, dd, dd, dd, dd, dd, dd, dd, dd, dd, dd, dd, dd, dd, dd, dd, dd, dd, dd, dd, dd, dd, dd, dd, dd, dd, dd, dd, dd, dd, dd, dd, dd, dd, dd, dd, dd, dd, dd, dd, dd, dd, dd, dd, dd, dd, dd, dd, dd, dd, dd, dd, dd, dd, dd, dd, dd, dd, dd, dd, dd, dd, dd, dd, dd, dd, dd, dd, dd, dd, dd, dd, dd, dd, dd, dd, dd, dd, dd, dd, dd, dd, dd, dd, dd, dd, dd, dd, dd, dd, dd, dd, dd, dd, dd, dd, dd, dd, dd, dd, dd, dd, dd, dd, dd, dd, dd, dd, dd, dd, dd, dd, dd, dd, dd, dd, dd, dd, dd], [.gh 0 (.srf 3), .gh 1 (.ref 4 0), .gh 2 (.srf 6), .cu (ifC 36) [.ref 4 0], .box [.d (.v (.int .u32 v_r74.2.2.fAt)), .srf 5, .d (.v (.int .i64 v_r74.2.2.fMay))], .row 5 1 (v_z269.map (eI .u8)), .none, .box ((cS_api_Regs v_r16).map FV.d), .box ((cS_api_Regs (S_api_Regs.mk (fun (_ : Fin 8) => 0) 0 0)).map FV.d), .box [.d (.v (.int .i64 0)), .d (.v (.int .u32 0))], .box [.d (.v (.int .i64 v_r257.1.fOp)), .d (.v (.int .i64 v_r257.1.fA)), .d (.v (.int .i64 v_r257.1.fB)), .d (.v (.int .i64 v_r257.1.fC))], .box ((cS_api_Regs (S_api_Regs.mk v_r16.fR (wi .u32 (v_r16.fPc + 4)) v_r16.fRing)).map FV.d)]⟩
def G_cpu_Step_h_C5 (n : Nat) (v_r74 : (Int × S_api_Trap × S_ringref5_Room)) (v_z269 : (List Int)) (v_r16 : S_api_Regs) (v_r257 : (S_api_Ins × Int)) : Option G_cpu_Step_h_C5_R :=
  if v_r257.1.fOp ≥ 5 then
   (G_cpu_Step_h_C3 n v_r257 v_r74 v_z269 v_r16).bind fun v_o669 => match v_o669 with
   | .x0 v_z670 =>
     some (.x0 v_z670)
   | .x1 v_z672 v_z673 =>
     some (.x1 v_z672 v_z673)
   | .x2 v_z676 v_z677 v_z678 v_z679 =>
     some (.x2 v_z676 v_z677 v_z678 v_z679)
   | .x3 v_z684 v_z685 v_z686 v_z687 =>
     some (.x3 v_z684 v_z685 v_z686 v_z687)
   | .x4 v_z692 v_z693 v_z694 =>
     some (.x4 v_z692 v_z693 v_z694)
  else
   (G_cpu_Step_h_C4 n v_r74 v_z269 v_r16 v_r257).bind fun v_o719 => match v_o719 with
   | .x0 v_z720 v_z721 =>
     if v_z720 = true then
      (G_cpu_memory_h n (S_api_Regs.mk v_r16.fR (wi .u32 (v_r16.fPc + 4)) v_r16.fRing) v_r257.1 (S_ringref5_Room.mk v_r74.2.2.fAt v_z721 v_r74.2.2.fMay)).bind fun (v_r726 : (S_api_Trap × S_api_Regs × S_ringref5_Room)) =>
      if v_r726.1.fKind = 0 then
       some (.x3 v_r726.2.2.fAt v_r726.2.2.fMay v_r726.2.2.fBytes v_r726.2.1)
      else
       some (.x2 v_r726.2.2.fAt v_r726.2.2.fMay v_r726.2.2.fBytes v_r726.1)
     else
      if v_r257.1.fOp ≥ 19 then
       if v_r257.1.fOp ≤ 23 then
        (G_cpu_jump_h n (S_api_Regs.mk v_r16.fR (wi .u32 (v_r16.fPc + 4)) v_r16.fRing) v_r257.1 v_r16.fPc).bind fun (v_r737 : (S_api_Regs)) =>
        some (.x1 v_z721 v_r737)
       else
        (G_cpu_other n (S_api_Regs.mk v_r16.fR (wi .u32 (v_r16.fPc + 4)) v_r16.fRing) v_r257.1).bind fun (v_r740 : (S_api_Regs × S_api_Trap)) =>
        some (.x4 v_z721 v_r740.1 v_r740.2)
      else
       (G_cpu_other n (S_api_Regs.mk v_r16.fR (wi .u32 (v_r16.fPc + 4)) v_r16.fRing) v_r257.1).bind fun (v_r745 : (S_api_Regs × S_api_Trap)) =>
       some (.x4 v_z721 v_r745.1 v_r745.2)
theorem G_cpu_Step_h_C5_ok {Fi : Ex → PS → Prop} (hF : KC 131 Fi) (ks : List Fr) (n : Nat) (v_r74 : (Int × S_api_Trap × S_ringref5_Room)) (v_z269 : (List Int)) (v_r16 : S_api_Regs) (v_r257 : (S_api_Ins × Int))  (o : G_cpu_Step_h_C5_R) (h : G_cpu_Step_h_C5 n v_r74 v_z269 v_r16 v_r257 = some o) (q : RunE Try.prog 131 Fi ks (G_cpu_Step_h_C5_ex o) (G_cpu_Step_h_C5_st v_r74 v_z269 v_r16 v_r257 o)) : RunE Try.prog 131 Fi (.s (cL (cR (cR (cR (cR (cR (cR (cR (bodyOf Try.f7))))))))) :: ks) .normal (G_cpu_Step_h_C5_hd v_r74 v_z269 v_r16 v_r257) := by
  unfold G_cpu_Step_h_C5 at h
  by_cases h1281 : v_r257.1.fOp ≥ 5
  · rw [if_pos h1281] at h
    obtain ⟨v_o669, h1328, h⟩ := bind_some h
    refine pkk_sound TTok mix hF 3 (hs := [.c, .t true, .c, .c, .c]) (ts := []) (s := [0, 1, 2, 3, 4, 5, 6, 7, 8, 9, 10, 11]) (l := [1, 2, 4, 5, 8, 10, 60]) (by kernel_rfl) (by kernel_rfl) (.cons (dt h1281) .nil) (G_cpu_Step_h_C3_ok hF (.b 0 :: ks) n v_r257 v_r74 v_z269 v_r16 _ h1328 ?_)
    cases v_o669 with
    | x0 v_z670 =>
      try dsimp only at h
      cases h
      exact pkk_sound TTok mix hF 1 (hs := []) (ts := []) (s := [0, 1, 2, 3, 4, 5, 6, 7, 8]) (l := [4, 5]) (by kernel_rfl) (by kernel_rfl) .nil q
    | x1 v_z672 v_z673 =>
      try dsimp only at h
      cases h
      exact pkk_sound TTok mix hF 1 (hs := []) (ts := []) (s := [0, 1, 2, 3, 4, 5, 6, 7, 8, 9]) (l := [4, 5, 10]) (by kernel_rfl) (by kernel_rfl) .nil q
    | x2 v_z676 v_z677 v_z678 v_z679 =>
      try dsimp only at h
      cases h
      exact pkk_sound TTok mix hF 1 (hs := []) (ts := []) (s := [0, 1, 2, 3, 4, 5, 6, 7, 8]) (l := [4, 5]) (by kernel_rfl) (by kernel_rfl) .nil q
    | x3 v_z684 v_z685 v_z686 v_z687 =>
      try dsimp only at h
      cases h
      exact pkk_sound TTok mix hF 1 (hs := []) (ts := []) (s := [0, 1, 2, 3, 4, 5, 6, 7, 8, 9]) (l := [4, 5, 10]) (by kernel_rfl) (by kernel_rfl) .nil q
    | x4 v_z692 v_z693 v_z694 =>
      try dsimp only at h
      cases h
      exact pkk_sound TTok mix hF 1 (hs := []) (ts := []) (s := [0, 1, 2, 3, 4, 5, 6, 7, 8]) (l := [4, 5]) (by kernel_rfl) (by kernel_rfl) .nil q
  · rw [if_neg h1281] at h
    obtain ⟨v_o719, h1346, h⟩ := bind_some h
    refine pkk_sound TTok mix hF 5 (hs := [.c, .t false, .c, .c, .c]) (ts := []) (s := [0, 1, 2, 3, 4, 5, 6, 7, 8, 9, 10, 11]) (l := [1, 2, 4, 5, 8, 10]) (by kernel_rfl) (by kernel_rfl) (.cons (df h1281) .nil) (G_cpu_Step_h_C4_ok hF (.s (cR (cF (cR (cB (cL (cR (cR (cR (cR (cR (cR (cR (bodyOf Try.f7))))))))))))) :: .b 0 :: ks) n v_r74 v_z269 v_r16 v_r257 _ h1346 ?_)
    cases v_o719 with
    | x0 v_z720 v_z721 =>
      try dsimp only at h
      by_cases h1355 : v_z720 = true
      · rw [if_pos h1355] at h
        obtain ⟨v_r726, h1356, h⟩ := bind_some h
        by_cases h1358 : v_r726.1.fKind = 0
        · rw [if_pos h1358] at h
          cases h
          exact pkk_sound TTok mix hF 8 (hs := [.t true, .c, .h [11, 3, 4, 5] [] [.box ((cS_api_Regs v_r726.2.1).map FV.d), .cu (ifC 36) [.ref 2 0], .box [.d (.v (.int .u32 v_r726.2.2.fAt)), .srf 4, .d (.v (.int .i64 v_r726.2.2.fMay))], .none, .row 5 1 (v_r726.2.2.fBytes.map (eI .u8))] (.d (.agg [.v (.int .i64 v_r726.1.fKind), .v (.int .u32 v_r726.1.fAddr)])), .c, .c, .t false]) (ts := []) (s := [0, 1, 2, 3, 4, 22, 6, 8, 9, 11]) (l := [4, 5, 10]) (by kernel_rfl) (by kernel_rfl) (.cons h1355 (.cons (G_cpu_memory_h_ok n (S_api_Regs.mk v_r16.fR (wi .u32 (v_r16.fPc + 4)) v_r16.fRing) v_r257.1 (S_ringref5_Room.mk v_r74.2.2.fAt v_z721 v_r74.2.2.fMay) _ h1356) (.cons (show 0 + 2 ≤ 2 by decide) (.cons (nf h1358) .nil)))) q
        · rw [if_neg h1358] at h
          cases h
          exact pkk_sound TTok mix hF 10 (hs := [.t true, .c, .h [11, 3, 4, 5] [] [.box ((cS_api_Regs v_r726.2.1).map FV.d), .cu (ifC 36) [.ref 2 0], .box [.d (.v (.int .u32 v_r726.2.2.fAt)), .srf 4, .d (.v (.int .i64 v_r726.2.2.fMay))], .none, .row 5 1 (v_r726.2.2.fBytes.map (eI .u8))] (.d (.agg [.v (.int .i64 v_r726.1.fKind), .v (.int .u32 v_r726.1.fAddr)])), .c, .c, .t true, .c, .c, .c, .c]) (ts := []) (s := [0, 1, 2, 3, 4, 22, 6, 8, 9]) (l := [4, 5]) (by kernel_rfl) (by kernel_rfl) (.cons h1355 (.cons (G_cpu_memory_h_ok n (S_api_Regs.mk v_r16.fR (wi .u32 (v_r16.fPc + 4)) v_r16.fRing) v_r257.1 (S_ringref5_Room.mk v_r74.2.2.fAt v_z721 v_r74.2.2.fMay) _ h1356) (.cons (show 0 + 2 ≤ 2 by decide) (.cons (nt h1358) (.cons (show 0 + 10 ≤ 10 by decide) (.cons (show 0 + 2 ≤ 2 by decide) .nil)))))) q
      · rw [if_neg h1355] at h
        by_cases h1359 : v_r257.1.fOp ≥ 19
        · rw [if_pos h1359] at h
          by_cases h1363 : v_r257.1.fOp ≤ 23
          · rw [if_pos h1363] at h
            obtain ⟨v_r737, h1364, h⟩ := bind_some h
            cases h
            exact pkk_sound TTok mix hF 6 (hs := [.t false, .c, .t true, .c, .c, .c, .t true, .c, .c, .h [11] [] [.box ((cS_api_Regs v_r737).map FV.d)] (.tup [])]) (ts := []) (s := [0, 1, 2, 3, 4, 5, 6, 8, 9, 11]) (l := [4, 5, 10]) (by kernel_rfl) (by kernel_rfl) (.cons (vf h1355) (.cons (dt h1359) (.cons (dt h1363) (.cons (G_cpu_jump_h_ok n (S_api_Regs.mk v_r16.fR (wi .u32 (v_r16.fPc + 4)) v_r16.fRing) v_r257.1 v_r16.fPc _ h1364) .nil)))) q
          · rw [if_neg h1363] at h
            obtain ⟨v_r740, h1365, h⟩ := bind_some h
            cases h
            exact pkk_sound TTok mix hF 8 (hs := [.t false, .c, .t true, .c, .c, .c, .t false, .c, .c, .r (.tup [eS_api_Regs v_r740.1, eS_api_Trap v_r740.2]), .c, .c]) (ts := []) (s := [0, 1, 2, 3, 4, 5, 6, 8, 9]) (l := [4, 5]) (by kernel_rfl) (by kernel_rfl) (.cons (vf h1355) (.cons (dt h1359) (.cons (df h1363) (.cons (G_cpu_other_ok n (S_api_Regs.mk v_r16.fR (wi .u32 (v_r16.fPc + 4)) v_r16.fRing) v_r257.1 _ h1365) (.cons (show 0 + 10 ≤ 10 by decide) (.cons (show 0 + 2 ≤ 2 by decide) .nil)))))) q
        · rw [if_neg h1359] at h
          obtain ⟨v_r745, h1367, h⟩ := bind_some h
          cases h
          exact pkk_sound TTok mix hF 8 (hs := [.t false, .c, .t false, .c, .c, .c, .c, .c, .r (.tup [eS_api_Regs v_r745.1, eS_api_Trap v_r745.2]), .c, .c]) (ts := []) (s := [0, 1, 2, 3, 4, 5, 6, 8, 9]) (l := [4, 5]) (by kernel_rfl) (by kernel_rfl) (.cons (vf h1355) (.cons (df h1359) (.cons (G_cpu_other_ok n (S_api_Regs.mk v_r16.fR (wi .u32 (v_r16.fPc + 4)) v_r16.fRing) v_r257.1 _ h1367) (.cons (show 0 + 10 ≤ 10 by decide) (.cons (show 0 + 2 ≤ 2 by decide) .nil))))) q
/- ringhall/cpu.Step -/
def G_cpu_Step_h (n : Nat) (v_r16 : S_api_Regs) (v_b17 : S_ringref5_Room) : Option (S_api_Regs × S_api_Trap × S_ringref5_Room) :=
  (G_cpu_fetch_h n v_b17 v_r16.fPc 4).bind fun (v_r74 : (Int × S_api_Trap × S_ringref5_Room)) =>
  if v_r74.2.1.fKind = 0 then
   (G_code_Decode n v_r74.1).bind fun (v_r257 : (S_api_Ins × Int)) =>
   (G_cpu_Step_h_C1 n v_r257 v_r74 v_r16).bind fun v_o267 => match v_o267 with
   | .x0 v_z268 v_z269 =>
     if v_z268 = true then
      some (v_r16, (S_api_Trap.mk 3 0), (S_ringref5_Room.mk v_r74.2.2.fAt v_z269 v_r74.2.2.fMay))
     else
      (G_cpu_Step_h_C5 n v_r74 v_z269 v_r16 v_r257).bind fun v_o749 => match v_o749 with
      | .x0 v_z750 =>
        some (v_r16, (S_api_Trap.mk 4 0), (S_ringref5_Room.mk v_r74.2.2.fAt v_z750 v_r74.2.2.fMay))
      | .x1 v_z751 v_z752 =>
        some (v_z752, (S_api_Trap.mk 0 0), (S_ringref5_Room.mk v_r74.2.2.fAt v_z751 v_r74.2.2.fMay))
      | .x2 v_z753 v_z754 v_z755 v_z756 =>
        some (v_r16, v_z756, (S_ringref5_Room.mk v_z753 v_z755 v_z754))
      | .x3 v_z757 v_z758 v_z759 v_z760 =>
        some (v_z760, (S_api_Trap.mk 0 0), (S_ringref5_Room.mk v_z757 v_z759 v_z758))
      | .x4 v_z761 v_z762 v_z763 =>
        some (v_z762, v_z763, (S_ringref5_Room.mk v_r74.2.2.fAt v_z761 v_r74.2.2.fMay))
  else
   some (v_r16, v_r74.2.1, v_r74.2.2)
theorem G_cpu_Step_h_ok (n : Nat) (v_r16 : S_api_Regs) (v_b17 : S_ringref5_Room) (r : S_api_Regs × S_api_Trap × S_ringref5_Room) (h : G_cpu_Step_h n v_r16 v_b17 = some r) : RetH Try.prog 7 [.d (eS_api_Regs v_r16), .srf 0] [.cu (ifC 36) [.ref 1 0], .box [.d (.v (.int .u32 v_b17.fAt)), .srf 2, .d (.v (.int .i64 v_b17.fMay))], .row 5 1 (v_b17.fBytes.map (eI .u8))] (.tup [.d (eS_api_Regs r.1), .d (eS_api_Trap r.2.1)]) [.cu (ifC 36) [.ref 1 0], .box [.d (.v (.int .u32 r.2.2.fAt)), .srf 3, .d (.v (.int .i64 r.2.2.fMay))], .none, .row 5 1 (r.2.2.fBytes.map (eI .u8))] := by
  refine retH_run (n := 131) (fn := Try.f7) (c := bodyOf Try.f7) (by kernel_rfl) (by kernel_rfl) (by kernel_rfl) (by kernel_rfl) ?_
  have hF : KC 131 (FinH Try.prog Try.f7 [.cu (ifC 36) [.ref 1 0], .box [.d (.v (.int .u32 v_b17.fAt)), .srf 2, .d (.v (.int .i64 v_b17.fMay))], .row 5 1 (v_b17.fBytes.map (eI .u8))] (.tup [.d (eS_api_Regs r.1), .d (eS_api_Trap r.2.1)]) [.cu (ifC 36) [.ref 1 0], .box [.d (.v (.int .u32 r.2.2.fAt)), .srf 3, .d (.v (.int .i64 r.2.2.fMay))], .none, .row 5 1 (r.2.2.fBytes.map (eI .u8))]) := FinH.kc' (by kernel_rfl)
  unfold G_cpu_Step_h at h
  obtain ⟨v_r74, h37, h⟩ := bind_some h
  by_cases h39 : v_r74.2.1.fKind = 0
  · rw [if_pos h39] at h
    obtain ⟨v_r257, h650, h⟩ := bind_some h
    obtain ⟨v_o267, h657, h⟩ := bind_some h
    refine pkk_sound TTok mix hF 13 (hs := [.c, .h [0, 1, 2] [] [.cu (ifC 36) [.ref 1 0], .box [.d (.v (.int .u32 v_r74.2.2.fAt)), .srf 3, .d (.v (.int .i64 v_r74.2.2.fMay))], .none, .row 5 1 (v_r74.2.2.fBytes.map (eI .u8))] (.tup [.d (.v (.int .u32 v_r74.1)), .d (.agg [.v (.int .i64 v_r74.2.1.fKind), .v (.int .u32 v_r74.2.1.fAddr)])]), .c, .c, .t false, .r (.tup [eS_api_Ins v_r257.1, (eI .i64) v_r257.2]), .c]) (ts := []) (s := [3, 4, 5, 0, 1, 36, 2, 6, 11, 16, 111]) (l := [1, 2, 4, 5, 8, 9]) (by kernel_rfl) (by kernel_rfl) (.cons (G_cpu_fetch_h_ok n v_b17 v_r16.fPc 4 _ h37) (.cons (show 0 + 2 ≤ 2 by decide) (.cons (nf h39) (.cons (G_code_Decode_ok n v_r74.1 _ h650) (.cons (show 0 + 4 ≤ 4 by decide) .nil))))) (G_cpu_Step_h_C1_ok hF (.s (cR (cL (cR (cR (cR (cR (bodyOf Try.f7))))))) :: .s (cR (cR (cR (cR (cR (bodyOf Try.f7)))))) :: []) n v_r257 v_r74 v_r16 _ h657 ?_)
    cases v_o267 with
    | x0 v_z268 v_z269 =>
      try dsimp only at h
      by_cases h659 : v_z268 = true
      · rw [if_pos h659] at h
        obtain rfl := Option.some.inj h
        exact pendH_sound TTok mix 5 (hs := [.t true, .c, .c, .c]) [3, 4, 6, 5] (by kernel_rfl) (by kernel_rfl) (by kernel_rfl) (.cons h659 (.cons (show 0 + 10 ≤ 10 by decide) (.cons (show 0 + 2 ≤ 2 by decide) .nil)))
      · rw [if_neg h659] at h
        obtain ⟨v_o749, h1368, h⟩ := bind_some h
        refine pkk_sound TTok mix hF 7 (hs := [.t false, .c, .c, .c, .c]) (ts := []) (s := [0, 1, 2, 3, 4, 5, 6, 7, 8, 9, 10, 16]) (l := [1, 2, 4, 5, 8, 10]) (by kernel_rfl) (by kernel_rfl) (.cons (vf h659) (.cons (show 0 + 10 ≤ 10 by decide) (.cons (show 8 + 1 ≤ 10 by decide) .nil))) (G_cpu_Step_h_C5_ok hF (.s (cR (cR (cR (cR (cR (cR (cR (cR (bodyOf Try.f7))))))))) :: []) n v_r74 v_z269 v_r16 v_r257 _ h1368 ?_)
        cases v_o749 with
        | x0 v_z750 =>
          try dsimp only at h
          obtain rfl := Option.some.inj h
          exact pendH_sound TTok mix 1 (hs := []) [3, 4, 6, 5] (by kernel_rfl) (by kernel_rfl) (by kernel_rfl) .nil
        | x1 v_z751 v_z752 =>
          try dsimp only at h
          obtain rfl := Option.some.inj h
          exact pendH_sound TTok mix 3 (hs := [.c, .c, .c]) [3, 4, 6, 5] (by kernel_rfl) (by kernel_rfl) (by kernel_rfl) (.cons (show 0 + 10 ≤ 10 by decide) (.cons (show 0 + 2 ≤ 2 by decide) .nil))
        | x2 v_z753 v_z754 v_z755 v_z756 =>
          try dsimp only at h
          obtain rfl := Option.some.inj h
          exact pendH_sound TTok mix 1 (hs := []) [3, 4, 6, 5] (by kernel_rfl) (by kernel_rfl) (by kernel_rfl) .nil
        | x3 v_z757 v_z758 v_z759 v_z760 =>
          try dsimp only at h
          obtain rfl := Option.some.inj h
          exact pendH_sound TTok mix 3 (hs := [.c, .c, .c]) [3, 4, 6, 5] (by kernel_rfl) (by kernel_rfl) (by kernel_rfl) (.cons (show 0 + 10 ≤ 10 by decide) (.cons (show 0 + 2 ≤ 2 by decide) .nil))
        | x4 v_z761 v_z762 v_z763 =>
          try dsimp only at h
          obtain rfl := Option.some.inj h
          exact pendH_sound TTok mix 1 (hs := []) [3, 4, 6, 5] (by kernel_rfl) (by kernel_rfl) (by kernel_rfl) .nil
  · rw [if_neg h39] at h
    obtain rfl := Option.some.inj h
    exact pendH_sound TTok mix 12 (hs := [.c, .h [0, 1, 2] [] [.cu (ifC 36) [.ref 1 0], .box [.d (.v (.int .u32 v_r74.2.2.fAt)), .srf 3, .d (.v (.int .i64 v_r74.2.2.fMay))], .none, .row 5 1 (v_r74.2.2.fBytes.map (eI .u8))] (.tup [.d (.v (.int .u32 v_r74.1)), .d (.agg [.v (.int .i64 v_r74.2.1.fKind), .v (.int .u32 v_r74.2.1.fAddr)])]), .c, .c, .t true, .c, .c, .c, .c]) [0, 1, 2, 36] (by kernel_rfl) (by kernel_rfl) (by kernel_rfl) (.cons (G_cpu_fetch_h_ok n v_b17 v_r16.fPc 4 _ h37) (.cons (show 0 + 2 ≤ 2 by decide) (.cons (nt h39) (.cons (show 0 + 10 ≤ 10 by decide) (.cons (show 0 + 2 ≤ 2 by decide) .nil)))))
inductive G_ringlaw5_cpus_C1_R where
  | x0 (v_x770 : Bool)
def G_ringlaw5_cpus_C1_ex : G_ringlaw5_cpus_C1_R → Ex
  | .x0 _ => .normal
def G_ringlaw5_cpus_C1_st (v_r764 : (S_api_Regs × S_api_Trap × S_ringref5_Room)) : G_ringlaw5_cpus_C1_R → PS
  | .x0 v_x770 => ⟨[.d (.v (.bool v_x770)), dd, dd, dd, dd, dd, dd, dd, dd, dd, dd, dd, dd, dd, dd, dd, dd, dd, dd, dd, dd, dd, dd, dd, dd, dd], []⟩
def G_ringlaw5_cpus_C1_hd (v_r764 : (S_api_Regs × S_api_Trap × S_ringref5_Room))  : PS := ⟨[dd, dd, .ref 0 0, .ref 1 0, dd, dd, dd, dd, dd, dd, dd, dd, dd, dd, dd, dd, dd, dd, dd, dd, dd, dd, dd, dd, dd, dd], [.box ((cS_api_Regs v_r764.1).map FV.d), .box [.d (.v (.int .i64 v_r764.2.1.fKind)), .d (.v (.int .u32 v_r764.2.1.fAddr))]]⟩
def G_ringlaw5_cpus_C1 (n : Nat) (v_r764 : (S_api_Regs × S_api_Trap × S_ringref5_Room)) : Option G_ringlaw5_cpus_C1_R :=
  if (eqRes .eql (eqS_api_Trap v_r764.2.1 (S_api_Trap.mk 0 0))) = true then
   if (v_r764.1.fR 1) = 4294967294 then
    some (.x0 (v_r764.1.fPc == 4))
   else
    some (.x0 false)
  else
   some (.x0 false)
theorem G_ringlaw5_cpus_C1_ok {Fi : Ex → PS → Prop} (hF : KC 26 Fi) (ks : List Fr) (n : Nat) (v_r764 : (S_api_Regs × S_api_Trap × S_ringref5_Room))  (o : G_ringlaw5_cpus_C1_R) (h : G_ringlaw5_cpus_C1 n v_r764 = some o) (q : RunE Try.prog 26 Fi ks (G_ringlaw5_cpus_C1_ex o) (G_ringlaw5_cpus_C1_st v_r764 o)) : RunE Try.prog 26 Fi (.s (cL (cR (cR (cR (bodyOf Try.f4))))) :: ks) .normal (G_ringlaw5_cpus_C1_hd v_r764) := by
  unfold G_ringlaw5_cpus_C1 at h
  by_cases h1372 : (eqRes .eql (eqS_api_Trap v_r764.2.1 (S_api_Trap.mk 0 0))) = true
  · rw [if_pos h1372] at h
    by_cases h1373 : (v_r764.1.fR 1) = 4294967294
    · rw [if_pos h1373] at h
      cases h
      exact pkk_sound TTok mix hF 1 (hs := [.c, .q (eqS_api_Trap v_r764.2.1 (S_api_Trap.mk 0 0)), .t true, .c, .c, .c, .c, .t true, .c, .c, .c]) (ts := []) (s := []) (l := [0]) (by kernel_rfl) (by kernel_rfl) (.cons (eqS_api_Trap_ok v_r764.2.1 (S_api_Trap.mk 0 0)) (.cons h1372 (.cons (show (0 : Int) ≤ 1 ∧ (1 : Int) < 8 by decide) (.cons (bt h1373) .nil)))) q
    · rw [if_neg h1373] at h
      cases h
      exact pkk_sound TTok mix hF 1 (hs := [.c, .q (eqS_api_Trap v_r764.2.1 (S_api_Trap.mk 0 0)), .t true, .c, .c, .c, .c, .t false, .c, .c]) (ts := []) (s := []) (l := [0]) (by kernel_rfl) (by kernel_rfl) (.cons (eqS_api_Trap_ok v_r764.2.1 (S_api_Trap.mk 0 0)) (.cons h1372 (.cons (show (0 : Int) ≤ 1 ∧ (1 : Int) < 8 by decide) (.cons (bf h1373) .nil)))) q
  · rw [if_neg h1372] at h
    cases h
    exact pkk_sound TTok mix hF 1 (hs := [.c, .q (eqS_api_Trap v_r764.2.1 (S_api_Trap.mk 0 0)), .t false, .c, .c, .c, .c, .c, .c]) (ts := []) (s := []) (l := [0]) (by kernel_rfl) (by kernel_rfl) (.cons (eqS_api_Trap_ok v_r764.2.1 (S_api_Trap.mk 0 0)) (.cons (vf h1372) .nil)) q
/- ringhall/ringlaw5.cpus -/
def G_ringlaw5_cpus (n : Nat)  : Option (Bool) :=
  (G_cpu_Step_h n (S_api_Regs.mk (fun (_ : Fin 8) => 0) 0 1) (S_ringref5_Room.mk 0 ([254, 255, 16, 2]) 4)).bind fun (v_r764 : (S_api_Regs × S_api_Trap × S_ringref5_Room)) =>
  (G_ringlaw5_cpus_C1 n v_r764).bind fun v_o773 => match v_o773 with
  | .x0 v_z774 =>
    some v_z774
theorem G_ringlaw5_cpus_ok (n : Nat)  (r : Bool) (h : G_ringlaw5_cpus n  = some r) : Ret Try.prog 4 [] (eB r) := by
  refine ret_run (n := 26) (fn := Try.f4) (c := bodyOf Try.f4) (by kernel_rfl) (by kernel_rfl) (by kernel_rfl) (by kernel_rfl) ?_
  have hF : KC 26 (FinR Try.prog Try.f4 (eB r)) := FinR.kc' (by kernel_rfl)
  unfold G_ringlaw5_cpus at h
  obtain ⟨v_r764, h1369, h⟩ := bind_some h
  obtain ⟨v_o773, h1374, h⟩ := bind_some h
  refine pkk_sound TTok mix hF 7 (hs := [.w ([254, 255, 16, 2].map (eI .u8)), .c, .e 30 [30] (.srf 30) [(30, .cu (ifC 36) [.ref 15 0])], .h [30, 15, 5] [] [.cu (ifC 36) [.ref 1 0], .box [.d (.v (.int .u32 v_r764.2.2.fAt)), .srf 3, .d (.v (.int .i64 v_r764.2.2.fMay))], .none, .row 5 1 (v_r764.2.2.fBytes.map (eI .u8))] (.tup [.d (.agg (cS_api_Regs v_r764.1)), .d (.agg [.v (.int .i64 v_r764.2.1.fKind), .v (.int .u32 v_r764.2.1.fAddr)])]), .c, .c]) (ts := []) (s := [55, 60]) (l := [2, 3]) (by kernel_rfl) (by kernel_rfl) (.cons (Eq.refl ([254, 255, 16, 2].map (eI .u8))) (.cons (show 0 + 3 ≤ 3 by decide) (.cons (ymkI (P := Try.prog) (T := TT) (t := 36) (l := 15) (off := 0) (nl := 30) (e := 28) (x := (.tmp 1)) (by kernel_rfl)) (.cons (G_cpu_Step_h_ok n (S_api_Regs.mk (fun (_ : Fin 8) => 0) 0 1) (S_ringref5_Room.mk 0 ([254, 255, 16, 2]) 4) _ h1369) (.cons (show 0 + 10 ≤ 10 by decide) (.cons (show 0 + 2 ≤ 2 by decide) .nil)))))) (G_ringlaw5_cpus_C1_ok hF (.s (cR (cR (cR (cR (bodyOf Try.f4))))) :: []) n v_r764 _ h1374 ?_)
  cases v_o773 with
  | x0 v_z774 =>
    try dsimp only at h
    obtain rfl := Option.some.inj h
    exact pend_sound TTok mix 1 (hs := []) (by kernel_rfl) (by kernel_rfl) (by kernel_rfl) .nil
/- slices.Clone[[]byte,byte] -/
def G_slices_Clone_byte_byte_A (n : Nat) (v_c794 : Nat) : Option ((List Int)) :=
  some ([] : List Int)
theorem G_slices_Clone_byte_byte_A_ok (n : Nat) (v_c794 : Nat) (r : (List Int)) (h : G_slices_Clone_byte_byte_A n v_c794 = some r) : RetH Try.prog 5 [.d (.v (.slice none 0 v_c794))] [] (.srf 0) [.row 5 1 (r.map (eI .u8))] := by
  refine retH_run (n := 8) (fn := Try.f5) (c := bodyOf Try.f5) (by kernel_rfl) (by kernel_rfl) (by kernel_rfl) (by kernel_rfl) ?_
  have hF : KC 8 (FinH Try.prog Try.f5 [] (.srf 0) [.row 5 1 (r.map (eI .u8))]) := FinH.kc' (by kernel_rfl)
  unfold G_slices_Clone_byte_byte_A at h
  obtain rfl := Option.some.inj h
  exact pendH_sound TTok mix 11 (hs := [.c, .dl 4, .th 2 5 1]) [20] (by kernel_rfl) (by kernel_rfl) (by kernel_rfl) .nil
/- slices.Clone[[]byte,byte] -/
def G_slices_Clone_byte_byte_B (n : Nat) (v_a795 : Addr) (v_c796 : Nat) : Option ((List Int)) :=
  (app 1 ([] : List Int) ([] : (List Int))).bind fun (v_a797 : (List Int)) =>
  some v_a797
theorem G_slices_Clone_byte_byte_B_ok (n : Nat) (v_a795 : Addr) (v_c796 : Nat) (r : (List Int)) (h : G_slices_Clone_byte_byte_B n v_a795 v_c796 = some r) : RetH Try.prog 5 [.d (.v (.slice (some v_a795) 0 v_c796))] [] (.srf 0) [.row 5 1 (r.map (eI .u8))] := by
  refine retH_run (n := 8) (fn := Try.f5) (c := bodyOf Try.f5) (by kernel_rfl) (by kernel_rfl) (by kernel_rfl) (by kernel_rfl) ?_
  have hF : KC 8 (FinH Try.prog Try.f5 [] (.srf 0) [.row 5 1 (r.map (eI .u8))]) := FinH.kc' (by kernel_rfl)
  unfold G_slices_Clone_byte_byte_B at h
  obtain ⟨v_a797, h1377, h⟩ := bind_some h
  obtain rfl := Option.some.inj h
  exact pendH_sound TTok mix 10 (hs := [.c, .w (([] : List Int).map (eI .u8)), .w (v_a797.map (eI .u8))]) [25] (by kernel_rfl) (by kernel_rfl) (by kernel_rfl) (.cons (Eq.refl (([] : List Int).map (eI .u8))) (.cons (app_ob (f := (eI .u8)) (s := 1) h1377 (fun _ => rfl)).1 (.cons (app_ob (f := (eI .u8)) (s := 1) h1377 (fun _ => rfl)).2.1 (.cons (app_ob (f := (eI .u8)) (s := 1) h1377 (fun _ => rfl)).2.2.1 (.cons (app_ob (f := (eI .u8)) (s := 1) h1377 (fun _ => rfl)).2.2.2 .nil)))))
/- slices.Clone[[]byte,byte] -/
def G_slices_Clone_byte_byte_C (n : Nat) (v_y798 : Int) (v_ys799 : (List Int)) : Option ((List Int)) :=
  (app 1 ([] : List Int) (v_y798 :: v_ys799)).bind fun (v_a800 : (List Int)) =>
  some v_a800
theorem G_slices_Clone_byte_byte_C_ok (n : Nat) (v_y798 : Int) (v_ys799 : (List Int)) (r : (List Int)) (h : G_slices_Clone_byte_byte_C n v_y798 v_ys799 = some r) : RetH Try.prog 5 [.d (.sl ((eI .u8) v_y798 :: v_ys799.map (eI .u8)))] [] (.srf 0) [.row 5 1 (r.map (eI .u8))] := by
  refine retH_run (n := 8) (fn := Try.f5) (c := bodyOf Try.f5) (by kernel_rfl) (by kernel_rfl) (by kernel_rfl) (by kernel_rfl) ?_
  have hF : KC 8 (FinH Try.prog Try.f5 [] (.srf 0) [.row 5 1 (r.map (eI .u8))]) := FinH.kc' (by kernel_rfl)
  unfold G_slices_Clone_byte_byte_C at h
  obtain ⟨v_a800, h1378, h⟩ := bind_some h
  obtain rfl := Option.some.inj h
  exact pendH_sound TTok mix 10 (hs := [.c, .w (([] : List Int).map (eI .u8)), .w (v_a800.map (eI .u8))]) [25] (by kernel_rfl) (by kernel_rfl) (by kernel_rfl) (.cons (Eq.refl (([] : List Int).map (eI .u8))) (.cons (app_ob (f := (eI .u8)) (s := 1) h1378 (fun _ => rfl)).1 (.cons (app_ob (f := (eI .u8)) (s := 1) h1378 (fun _ => rfl)).2.1 (.cons (app_ob (f := (eI .u8)) (s := 1) h1378 (fun _ => rfl)).2.2.1 (.cons (app_ob (f := (eI .u8)) (s := 1) h1378 (fun _ => rfl)).2.2.2 .nil)))))
def G_slices_Clone_byte_byte (n : Nat) (xs : (List Int)) : Option (List Int) := app 1 [] xs
theorem G_slices_Clone_byte_byte_ok (n : Nat) (xs : (List Int)) (r : (List Int)) (h : G_slices_Clone_byte_byte n xs = some r) : RetH Try.prog 5 [.d (.sl (xs.map (eI .u8)))] [] (.srf 0) [.row 5 1 (r.map (eI .u8))] := by
  unfold G_slices_Clone_byte_byte at h
  have e : app 1 ([] : (List Int)) [] = some [] := by simp [app]
  cases xs with
  | nil =>
    rw [e] at h; obtain rfl := Option.some.inj h
    exact clone_nil (fun c => G_slices_Clone_byte_byte_A_ok n c _ (by unfold G_slices_Clone_byte_byte_A; rfl)) (fun a c => G_slices_Clone_byte_byte_B_ok n a c _ (by unfold G_slices_Clone_byte_byte_B; rw [e]; rfl))
  | cons y ys => exact G_slices_Clone_byte_byte_C_ok n y ys _ (by unfold G_slices_Clone_byte_byte_C; rw [h]; rfl)
/- ringhall/ringref5.Rest -/
def G_ringref5_Rest (n : Nat) (v_n841 : Int) (v_m842 : Int) : Option (Int) :=
  if v_m842 ≠ 0 then
   if (remI v_n841 v_m842) < 0 then
    some (wi .i64 ((remI v_n841 v_m842) + v_m842))
   else
    some (remI v_n841 v_m842)
  else none
theorem G_ringref5_Rest_ok (n : Nat) (v_n841 : Int) (v_m842 : Int) (r : Int) (h : G_ringref5_Rest n v_n841 v_m842 = some r) : Ret Try.prog 6 [(eI .i64) v_n841, (eI .i64) v_m842] ((eI .i64) r) := by
  refine ret_run (n := 14) (fn := Try.f6) (c := bodyOf Try.f6) (by kernel_rfl) (by kernel_rfl) (by kernel_rfl) (by kernel_rfl) ?_
  have hF : KC 14 (FinR Try.prog Try.f6 ((eI .i64) r)) := FinR.kc' (by kernel_rfl)
  unfold G_ringref5_Rest at h
  by_cases h1381 : v_m842 ≠ 0
  · rw [if_pos h1381] at h
    by_cases h1383 : (remI v_n841 v_m842) < 0
    · rw [if_pos h1383] at h
      obtain rfl := Option.some.inj h
      exact pend_sound TTok mix 12 (hs := [.t true]) (by kernel_rfl) (by kernel_rfl) (by kernel_rfl) (.cons h1381 (.cons (dt h1383) .nil))
    · rw [if_neg h1383] at h
      obtain rfl := Option.some.inj h
      exact pend_sound TTok mix 12 (hs := [.t false]) (by kernel_rfl) (by kernel_rfl) (by kernel_rfl) (.cons h1381 (.cons (df h1383) .nil))
  · rw [if_neg h1381] at h; cases h
inductive G_ringref5_Room_word_h_L1_R where
  | x0 (v_x904 : Int) (v_b905 : Int) (v_b906 : Int) (v_w907 : (List Int)) (v_b908 : S_api_Trap)
  | x1 (v_w909 : Int) (v_b910 : Int) (v_b911 : Int) (v_w912 : (List Int))
def G_ringref5_Room_word_h_L1_ex : G_ringref5_Room_word_h_L1_R → Ex
  | .x0 _ _ _ _ _ => .ret
  | .x1 _ _ _ _ => .exit 0
def G_ringref5_Room_word_h_L1_st (v_at872 : Int) (v_want873 : Int) : G_ringref5_Room_word_h_L1_R → PS
  | .x0 v_x904 v_b905 v_b906 v_w907 v_b908 => ⟨[dd, dd, dd, dd, dd, dd, .d (.v (.int .u32 v_x904)), .ref 5 0, dd, dd, dd, dd, dd, dd, dd, dd, dd, dd, dd, dd, dd, dd, dd, dd, dd, dd, dd, dd, dd, dd, dd, dd, dd, dd, dd, dd, dd, dd, dd, dd, dd, dd, dd, dd, dd, dd, dd], [.gh 0 (.ref 2 0), .gh 1 (.srf 4), .box [.d (.v (.int .u32 v_b905)), .srf 3, .d (.v (.int .i64 v_b906))], .row 5 1 (v_w907.map (eI .u8)), .none, .box [.d (.v (.int .i64 v_b908.fKind)), .d (.v (.int .u32 v_b908.fAddr))]]⟩
  | .x1 v_w909 v_b910 v_b911 v_w912 => ⟨[dd, dd, dd, dd, dd, dd, dd, .ref 5 0, .d (.v (.int .u32 v_w909)), dd, dd, dd, dd, dd, dd, dd, dd, dd, dd, dd, dd, dd, dd, dd, dd, dd, dd, dd, dd, dd, dd, dd, dd, dd, dd, dd, dd, dd, dd, dd, dd, dd, dd, dd, dd, dd, dd], [.gh 0 (.ref 2 0), .gh 1 (.srf 4), .box [.d (.v (.int .u32 v_b910)), .srf 3, .d (.v (.int .i64 v_b911))], .row 5 1 (v_w912.map (eI .u8)), .none, .box [.d (.v (.int .i64 0)), .d (.v (.int .u32 0))]]⟩
def G_ringref5_Room_word_h_L1_hd (v_at872 : Int) (v_want873 : Int) (v_w896 : Int) (v_x897 : Int) (v_b898 : Int) (v_b899 : Int) (v_w900 : (List Int)) : PS := ⟨[.ref 2 0, .d (.v (.int .u32 v_at872)), .d (.v (.int .i64 v_want873)), dd, dd, dd, dd, .ref 5 0, .d (.v (.int .u32 v_w896)), dd, dd, dd, dd, dd, dd, dd, dd, .d (.v (.int .i64 v_x897)), dd, dd, dd, dd, dd, dd, dd, dd, dd, dd, dd, dd, dd, dd, dd, dd, dd, dd, dd, dd, dd, dd, dd, dd, dd, dd, dd, dd, dd], [.gh 0 (.ref 2 0), .gh 1 (.srf 4), .box [.d (.v (.int .u32 v_b898)), .srf 3, .d (.v (.int .i64 v_b899))], .row 5 1 (v_w900.map (eI .u8)), .none, .box [.d (.v (.int .i64 0)), .d (.v (.int .u32 0))]]⟩
def G_ringref5_Room_word_h_L1 (n : Nat) (v_at872 : Int) (v_want873 : Int) : Nat → Int → Int → Int → Int → (List Int) → Option G_ringref5_Room_word_h_L1_R
  | 0, _, _, _, _, _ => none
  | k + 1, v_w896, v_x897, v_b898, v_b899, v_w900 =>
    if v_x897 < 4 then
     (G_ringref5_Room_Load_h n (S_ringref5_Room.mk v_b898 v_w900 v_b899) (wi .u32 (v_at872 + (wi .u32 v_x897))) v_want873).bind fun (v_r903 : (Int × Int × S_ringref5_Room)) =>
     if v_r903.2.1 = 0 then
      if 0 ≤ (wi .i64 (8 * v_x897)) then
       G_ringref5_Room_word_h_L1 n v_at872 v_want873 k (wi .u32 (v_w896 + (shlI .u32 (wi .u32 v_r903.1) (wi .i64 (8 * v_x897))))) (wi .i64 (v_x897 + 1)) v_r903.2.2.fAt v_r903.2.2.fMay v_r903.2.2.fBytes
      else none
     else
      some (.x0 0 v_r903.2.2.fAt v_r903.2.2.fMay v_r903.2.2.fBytes (S_api_Trap.mk 2 (wi .u32 (v_at872 + (wi .u32 v_x897)))))
    else
     some (.x1 v_w896 v_b898 v_b899 v_w900)
theorem G_ringref5_Room_word_h_L1_ok {Fi : Ex → PS → Prop} (hF : KC 47 Fi) (ks : List Fr) (n : Nat) (v_at872 : Int) (v_want873 : Int)  : ∀ (k : Nat) (v_w896 : Int) (v_x897 : Int) (v_b898 : Int) (v_b899 : Int) (v_w900 : (List Int)) (o : G_ringref5_Room_word_h_L1_R), G_ringref5_Room_word_h_L1 n v_at872 v_want873 k v_w896 v_x897 v_b898 v_b899 v_w900 = some o → RunE Try.prog 47 Fi ks (G_ringref5_Room_word_h_L1_ex o) (G_ringref5_Room_word_h_L1_st v_at872 v_want873 o) → RunE Try.prog 47 Fi (.l k (cP (cB (cR (cL (cR (cR (cR (bodyOf Try.f16)))))))) :: ks) .normal (G_ringref5_Room_word_h_L1_hd v_at872 v_want873 v_w896 v_x897 v_b898 v_b899 v_w900)
  | 0, v_w896, v_x897, v_b898, v_b899, v_w900, o, h, q => by rw [G_ringref5_Room_word_h_L1] at h; cases h
  | k + 1, v_w896, v_x897, v_b898, v_b899, v_w900, o, h, q => by
    rw [G_ringref5_Room_word_h_L1] at h
    by_cases h1408 : v_x897 < 4
    · rw [if_pos h1408] at h
      obtain ⟨v_r903, h1413, h⟩ := bind_some h
      by_cases h1415 : v_r903.2.1 = 0
      · rw [if_pos h1415] at h
        by_cases h1416 : 0 ≤ (wi .i64 (8 * v_x897))
        · rw [if_pos h1416] at h
          exact pkk_sound TTok mix hF 20 (hs := [.t true, .h [2, 3] [] [.box [.d (.v (.int .u32 v_r903.2.2.fAt)), .srf 2, .d (.v (.int .i64 v_r903.2.2.fMay))], .none, .row 5 1 (v_r903.2.2.fBytes.map (eI .u8))] (.tup [.d (.v (.int .u8 v_r903.1)), .d (.v (.int .i64 v_r903.2.1))]), .t false]) (ts := []) (s := [0, 1, 2, 51, 4, 5]) (l := [0, 1, 2, 7, 8, 17]) (by kernel_rfl) (by kernel_rfl) (.cons (dt h1408) (.cons (G_ringref5_Room_Load_h_ok n (S_ringref5_Room.mk v_b898 v_w900 v_b899) (wi .u32 (v_at872 + (wi .u32 v_x897))) v_want873 _ h1413) (.cons (nf h1415) (.cons h1416 .nil)))) (G_ringref5_Room_word_h_L1_ok hF ks n v_at872 v_want873 k (wi .u32 (v_w896 + (shlI .u32 (wi .u32 v_r903.1) (wi .i64 (8 * v_x897))))) (wi .i64 (v_x897 + 1)) v_r903.2.2.fAt v_r903.2.2.fMay v_r903.2.2.fBytes _ h q)
        · rw [if_neg h1416] at h; cases h
      · rw [if_neg h1415] at h
        cases h
        exact pkk_sound TTok mix hF 23 (hs := [.t true, .h [2, 3] [] [.box [.d (.v (.int .u32 v_r903.2.2.fAt)), .srf 2, .d (.v (.int .i64 v_r903.2.2.fMay))], .none, .row 5 1 (v_r903.2.2.fBytes.map (eI .u8))] (.tup [.d (.v (.int .u8 v_r903.1)), .d (.v (.int .i64 v_r903.2.1))]), .t true, .c]) (ts := []) (s := [0, 1, 2, 51, 4, 5]) (l := [6, 7]) (by kernel_rfl) (by kernel_rfl) (.cons (dt h1408) (.cons (G_ringref5_Room_Load_h_ok n (S_ringref5_Room.mk v_b898 v_w900 v_b899) (wi .u32 (v_at872 + (wi .u32 v_x897))) v_want873 _ h1413) (.cons (nt h1415) (.cons (show 0 + 2 ≤ 2 by decide) .nil)))) q
    · rw [if_neg h1408] at h
      cases h
      exact pkk_sound TTok mix hF 8 (hs := [.t false]) (ts := []) (s := [0, 1, 2, 3, 4, 5]) (l := [7, 8]) (by kernel_rfl) (by kernel_rfl) (.cons (df h1408) .nil) q
/- (*ringhall/ringref5.Room).word -/
def G_ringref5_Room_word_h (n : Nat) (v_r871 : S_ringref5_Room) (v_at872 : Int) (v_want873 : Int) : Option (Int × S_api_Trap × S_ringref5_Room) :=
  if (remI v_at872 4) > 0 then
   some (0, (S_api_Trap.mk 2 v_at872), v_r871)
  else
   (G_ringref5_Room_word_h_L1 n v_at872 v_want873 n 0 0 v_r871.fAt v_r871.fMay v_r871.fBytes).bind fun v_o913 => match v_o913 with
   | .x0 v_z914 v_z915 v_z916 v_z917 v_z918 =>
     some (v_z914, v_z918, (S_ringref5_Room.mk v_z915 v_z917 v_z916))
   | .x1 v_z919 v_z920 v_z921 v_z922 =>
     some (v_z919, (S_api_Trap.mk 0 0), (S_ringref5_Room.mk v_z920 v_z922 v_z921))
theorem G_ringref5_Room_word_h_ok (n : Nat) (v_r871 : S_ringref5_Room) (v_at872 : Int) (v_want873 : Int) (r : Int × S_api_Trap × S_ringref5_Room) (h : G_ringref5_Room_word_h n v_r871 v_at872 v_want873 = some r) : RetH Try.prog 16 [.ref 0 0, .d ((eI .u32) v_at872), .d ((eI .i64) v_want873)] [.box [.d (.v (.int .u32 v_r871.fAt)), .srf 1, .d (.v (.int .i64 v_r871.fMay))], .row 5 1 (v_r871.fBytes.map (eI .u8))] (.tup [.d ((eI .u32) r.1), .d (eS_api_Trap r.2.1)]) [.box [.d (.v (.int .u32 r.2.2.fAt)), .srf 2, .d (.v (.int .i64 r.2.2.fMay))], .none, .row 5 1 (r.2.2.fBytes.map (eI .u8))] := by
  refine retH_run (n := 47) (fn := Try.f16) (c := bodyOf Try.f16) (by kernel_rfl) (by kernel_rfl) (by kernel_rfl) (by kernel_rfl) ?_
  have hF : KC 47 (FinH Try.prog Try.f16 [.box [.d (.v (.int .u32 v_r871.fAt)), .srf 1, .d (.v (.int .i64 v_r871.fMay))], .row 5 1 (v_r871.fBytes.map (eI .u8))] (.tup [.d ((eI .u32) r.1), .d (eS_api_Trap r.2.1)]) [.box [.d (.v (.int .u32 r.2.2.fAt)), .srf 2, .d (.v (.int .i64 r.2.2.fMay))], .none, .row 5 1 (r.2.2.fBytes.map (eI .u8))]) := FinH.kc' (by kernel_rfl)
  unfold G_ringref5_Room_word_h at h
  by_cases h1389 : (remI v_at872 4) > 0
  · rw [if_pos h1389] at h
    obtain rfl := Option.some.inj h
    exact pendH_sound TTok mix 11 (hs := [.t true, .c, .dl 2, .mv 1]) [0, 1, 49] (by kernel_rfl) (by kernel_rfl) (by kernel_rfl) (.cons (show (4 : Int) ≠ 0 by decide) (.cons (dt h1389) (.cons (show 0 + 2 ≤ 2 by decide) .nil)))
  · rw [if_neg h1389] at h
    obtain ⟨v_o913, h1417, h⟩ := bind_some h
    refine pkk_sound TTok mix hF 15 (hs := [.t false, .dl 7, .mv 1, .n n]) (ts := []) (s := [2, 3, 0, 39, 1, 9]) (l := [0, 1, 2, 7, 8, 17]) (by kernel_rfl) (by kernel_rfl) (.cons (show (4 : Int) ≠ 0 by decide) (.cons (df h1389) .nil)) (G_ringref5_Room_word_h_L1_ok hF (.b 0 :: .s (cR (cR (cR (cR (bodyOf Try.f16))))) :: []) n v_at872 v_want873 n 0 0 v_r871.fAt v_r871.fMay v_r871.fBytes _ h1417 ?_)
    cases v_o913 with
    | x0 v_z914 v_z915 v_z916 v_z917 v_z918 =>
      try dsimp only at h
      obtain rfl := Option.some.inj h
      exact pendH_sound TTok mix 2 (hs := []) [2, 4, 3] (by kernel_rfl) (by kernel_rfl) (by kernel_rfl) .nil
    | x1 v_z919 v_z920 v_z921 v_z922 =>
      try dsimp only at h
      obtain rfl := Option.some.inj h
      exact pendH_sound TTok mix 4 (hs := [.c]) [2, 4, 3] (by kernel_rfl) (by kernel_rfl) (by kernel_rfl) (.cons (show 0 + 2 ≤ 2 by decide) .nil)
inductive G_ringref5_fieldsOf_C1_R where
  | x0 (v_a979 : Bool)
def G_ringref5_fieldsOf_C1_ex : G_ringref5_fieldsOf_C1_R → Ex
  | .x0 _ => .normal
def G_ringref5_fieldsOf_C1_st (v_op977 : Int) : G_ringref5_fieldsOf_C1_R → PS
  | .x0 v_a979 => ⟨[.d (.v (.int .i64 v_op977)), dd, dd, dd, dd, .d (.v (.bool v_a979)), dd, dd, dd, dd, dd, dd, dd, dd, dd, dd, dd, dd, dd, dd, dd, dd, dd, dd, dd, dd, dd, dd, dd, dd, dd, dd, dd, dd, dd, dd, dd, dd, dd, dd, dd, dd, dd, dd, dd, dd, dd, dd, dd, dd, dd, dd, dd], []⟩
def G_ringref5_fieldsOf_C1_hd (v_op977 : Int)  : PS := ⟨[.d (.v (.int .i64 v_op977)), dd, dd, dd, dd, dd, dd, dd, dd, dd, dd, dd, dd, dd, dd, dd, dd, dd, dd, dd, dd, dd, dd, dd, dd, dd, dd, dd, dd, dd, dd, dd, dd, dd, dd, dd, dd, dd, dd, dd, dd, dd, dd, dd, dd, dd, dd, dd, dd, dd, dd, dd, dd], []⟩
def G_ringref5_fieldsOf_C1 (n : Nat) (v_op977 : Int) : Option G_ringref5_fieldsOf_C1_R :=
  if v_op977 > 1 then
   if v_op977 = 19 then
    some (.x0 false)
   else
    some (.x0 (v_op977 != 24))
  else
   some (.x0 false)
theorem G_ringref5_fieldsOf_C1_ok {Fi : Ex → PS → Prop} (hF : KC 53 Fi) (ks : List Fr) (n : Nat) (v_op977 : Int)  (o : G_ringref5_fieldsOf_C1_R) (h : G_ringref5_fieldsOf_C1 n v_op977 = some o) (q : RunE Try.prog 53 Fi ks (G_ringref5_fieldsOf_C1_ex o) (G_ringref5_fieldsOf_C1_st v_op977 o)) : RunE Try.prog 53 Fi (.s (cL (cR (bodyOf Try.f27))) :: ks) .normal (G_ringref5_fieldsOf_C1_hd v_op977) := by
  unfold G_ringref5_fieldsOf_C1 at h
  by_cases h1446 : v_op977 > 1
  · rw [if_pos h1446] at h
    by_cases h1447 : v_op977 = 19
    · rw [if_pos h1447] at h
      cases h
      exact pkk_sound TTok mix hF 1 (hs := [.t true, .c, .t false, .c]) (ts := []) (s := []) (l := [0, 5]) (by kernel_rfl) (by kernel_rfl) (.cons (dt h1446) (.cons (nf h1447) .nil)) q
    · rw [if_neg h1447] at h
      cases h
      exact pkk_sound TTok mix hF 1 (hs := [.t true, .c, .t true, .c]) (ts := []) (s := []) (l := [0, 5]) (by kernel_rfl) (by kernel_rfl) (.cons (dt h1446) (.cons (nt h1447) .nil)) q
  · rw [if_neg h1446] at h
    cases h
    exact pkk_sound TTok mix hF 1 (hs := [.t false, .c, .c, .c]) (ts := []) (s := []) (l := [0, 5]) (by kernel_rfl) (by kernel_rfl) (.cons (df h1446) .nil) q
inductive G_ringref5_fieldsOf_C2_R where
  | x0 (v_b987 : Bool)
def G_ringref5_fieldsOf_C2_ex : G_ringref5_fieldsOf_C2_R → Ex
  | .x0 _ => .normal
def G_ringref5_fieldsOf_C2_st (v_op977 : Int) (v_z983 : Bool) : G_ringref5_fieldsOf_C2_R → PS
  | .x0 v_b987 => ⟨[.d (.v (.int .i64 v_op977)), dd, dd, dd, dd, .d (.v (.bool v_z983)), .d (.v (.bool v_b987)), dd, dd, dd, dd, dd, dd, dd, dd, dd, dd, dd, dd, dd, dd, dd, dd, dd, dd, dd, dd, dd, dd, dd, dd, dd, dd, dd, dd, dd, dd, dd, dd, dd, dd, dd, dd, dd, dd, dd, dd, dd, dd, dd, dd, dd, dd], []⟩
def G_ringref5_fieldsOf_C2_hd (v_op977 : Int) (v_z983 : Bool)  : PS := ⟨[.d (.v (.int .i64 v_op977)), dd, dd, dd, dd, .d (.v (.bool v_z983)), dd, dd, dd, dd, dd, dd, dd, dd, dd, dd, dd, dd, dd, dd, dd, dd, dd, dd, dd, dd, dd, dd, dd, dd, dd, dd, dd, dd, dd, dd, dd, dd, dd, dd, dd, dd, dd, dd, dd, dd, dd, dd, dd, dd, dd, dd, dd], []⟩
def G_ringref5_fieldsOf_C2 (n : Nat) (v_op977 : Int) (v_z983 : Bool) : Option G_ringref5_fieldsOf_C2_R :=
  if v_op977 ≥ 4 then
   if v_op977 ≤ 18 then
    some (.x0 true)
   else
    if v_op977 = 21 then
     some (.x0 true)
    else
     some (.x0 (v_op977 == 25))
  else
   if v_op977 = 21 then
    some (.x0 true)
   else
    some (.x0 (v_op977 == 25))
theorem G_ringref5_fieldsOf_C2_ok {Fi : Ex → PS → Prop} (hF : KC 53 Fi) (ks : List Fr) (n : Nat) (v_op977 : Int) (v_z983 : Bool)  (o : G_ringref5_fieldsOf_C2_R) (h : G_ringref5_fieldsOf_C2 n v_op977 v_z983 = some o) (q : RunE Try.prog 53 Fi ks (G_ringref5_fieldsOf_C2_ex o) (G_ringref5_fieldsOf_C2_st v_op977 v_z983 o)) : RunE Try.prog 53 Fi (.s (cL (cR (cR (bodyOf Try.f27)))) :: ks) .normal (G_ringref5_fieldsOf_C2_hd v_op977 v_z983) := by
  unfold G_ringref5_fieldsOf_C2 at h
  by_cases h1453 : v_op977 ≥ 4
  · rw [if_pos h1453] at h
    by_cases h1454 : v_op977 ≤ 18
    · rw [if_pos h1454] at h
      cases h
      exact pkk_sound TTok mix hF 1 (hs := [.t true, .c, .t true, .c, .c, .c]) (ts := []) (s := []) (l := [0, 5, 6]) (by kernel_rfl) (by kernel_rfl) (.cons (dt h1453) (.cons (dt h1454) .nil)) q
    · rw [if_neg h1454] at h
      by_cases h1455 : v_op977 = 21
      · rw [if_pos h1455] at h
        cases h
        exact pkk_sound TTok mix hF 1 (hs := [.t true, .c, .t false, .c, .t true, .c]) (ts := []) (s := []) (l := [0, 5, 6]) (by kernel_rfl) (by kernel_rfl) (.cons (dt h1453) (.cons (df h1454) (.cons (bt h1455) .nil))) q
      · rw [if_neg h1455] at h
        cases h
        exact pkk_sound TTok mix hF 1 (hs := [.t true, .c, .t false, .c, .t false, .c]) (ts := []) (s := []) (l := [0, 5, 6]) (by kernel_rfl) (by kernel_rfl) (.cons (dt h1453) (.cons (df h1454) (.cons (bf h1455) .nil))) q
  · rw [if_neg h1453] at h
    by_cases h1456 : v_op977 = 21
    · rw [if_pos h1456] at h
      cases h
      exact pkk_sound TTok mix hF 1 (hs := [.t false, .c, .c, .c, .t true, .c]) (ts := []) (s := []) (l := [0, 5, 6]) (by kernel_rfl) (by kernel_rfl) (.cons (df h1453) (.cons (bt h1456) .nil)) q
    · rw [if_neg h1456] at h
      cases h
      exact pkk_sound TTok mix hF 1 (hs := [.t false, .c, .c, .c, .t false, .c]) (ts := []) (s := []) (l := [0, 5, 6]) (by kernel_rfl) (by kernel_rfl) (.cons (df h1453) (.cons (bf h1456) .nil)) q
inductive G_ringref5_fieldsOf_C3_R where
  | x0 (v_c999 : Bool)
def G_ringref5_fieldsOf_C3_ex : G_ringref5_fieldsOf_C3_R → Ex
  | .x0 _ => .normal
def G_ringref5_fieldsOf_C3_st (v_op977 : Int) (v_z983 : Bool) (v_z993 : Bool) : G_ringref5_fieldsOf_C3_R → PS
  | .x0 v_c999 => ⟨[dd, dd, dd, dd, dd, .d (.v (.bool v_z983)), .d (.v (.bool v_z993)), .d (.v (.bool v_c999)), dd, dd, dd, dd, dd, dd, dd, dd, dd, dd, dd, dd, dd, dd, dd, dd, dd, dd, dd, dd, dd, dd, dd, dd, dd, dd, dd, dd, dd, dd, dd, dd, dd, dd, dd, dd, dd, dd, dd, dd, dd, dd, dd, dd, dd], []⟩
def G_ringref5_fieldsOf_C3_hd (v_op977 : Int) (v_z983 : Bool) (v_z993 : Bool)  : PS := ⟨[.d (.v (.int .i64 v_op977)), dd, dd, dd, dd, .d (.v (.bool v_z983)), .d (.v (.bool v_z993)), dd, dd, dd, dd, dd, dd, dd, dd, dd, dd, dd, dd, dd, dd, dd, dd, dd, dd, dd, dd, dd, dd, dd, dd, dd, dd, dd, dd, dd, dd, dd, dd, dd, dd, dd, dd, dd, dd, dd, dd, dd, dd, dd, dd, dd, dd], []⟩
def G_ringref5_fieldsOf_C3 (n : Nat) (v_op977 : Int) (v_z983 : Bool) (v_z993 : Bool) : Option G_ringref5_fieldsOf_C3_R :=
  if v_op977 = 2 then
   some (.x0 true)
  else
   if v_op977 = 3 then
    some (.x0 true)
   else
    if v_op977 ≥ 14 then
     if v_op977 ≤ 22 then
      some (.x0 true)
     else
      some (.x0 (v_op977 == 25))
    else
     some (.x0 (v_op977 == 25))
theorem G_ringref5_fieldsOf_C3_ok {Fi : Ex → PS → Prop} (hF : KC 53 Fi) (ks : List Fr) (n : Nat) (v_op977 : Int) (v_z983 : Bool) (v_z993 : Bool)  (o : G_ringref5_fieldsOf_C3_R) (h : G_ringref5_fieldsOf_C3 n v_op977 v_z983 v_z993 = some o) (q : RunE Try.prog 53 Fi ks (G_ringref5_fieldsOf_C3_ex o) (G_ringref5_fieldsOf_C3_st v_op977 v_z983 v_z993 o)) : RunE Try.prog 53 Fi (.s (cL (cR (cR (cR (bodyOf Try.f27))))) :: ks) .normal (G_ringref5_fieldsOf_C3_hd v_op977 v_z983 v_z993) := by
  unfold G_ringref5_fieldsOf_C3 at h
  by_cases h1462 : v_op977 = 2
  · rw [if_pos h1462] at h
    cases h
    exact pkk_sound TTok mix hF 1 (hs := [.t true, .c, .c, .c, .c, .c, .c, .c]) (ts := []) (s := []) (l := [5, 6, 7]) (by kernel_rfl) (by kernel_rfl) (.cons (bt h1462) .nil) q
  · rw [if_neg h1462] at h
    by_cases h1463 : v_op977 = 3
    · rw [if_pos h1463] at h
      cases h
      exact pkk_sound TTok mix hF 1 (hs := [.t false, .c, .t true, .c, .c, .c, .c, .c]) (ts := []) (s := []) (l := [5, 6, 7]) (by kernel_rfl) (by kernel_rfl) (.cons (bf h1462) (.cons (bt h1463) .nil)) q
    · rw [if_neg h1463] at h
      by_cases h1464 : v_op977 ≥ 14
      · rw [if_pos h1464] at h
        by_cases h1465 : v_op977 ≤ 22
        · rw [if_pos h1465] at h
          cases h
          exact pkk_sound TTok mix hF 1 (hs := [.t false, .c, .t false, .c, .c, .t true, .c, .c, .t true, .c]) (ts := []) (s := []) (l := [5, 6, 7]) (by kernel_rfl) (by kernel_rfl) (.cons (bf h1462) (.cons (bf h1463) (.cons (dt h1464) (.cons (dt h1465) .nil)))) q
        · rw [if_neg h1465] at h
          cases h
          exact pkk_sound TTok mix hF 1 (hs := [.t false, .c, .t false, .c, .c, .t true, .c, .c, .t false, .c]) (ts := []) (s := []) (l := [5, 6, 7]) (by kernel_rfl) (by kernel_rfl) (.cons (bf h1462) (.cons (bf h1463) (.cons (dt h1464) (.cons (df h1465) .nil)))) q
      · rw [if_neg h1464] at h
        cases h
        exact pkk_sound TTok mix hF 1 (hs := [.t false, .c, .t false, .c, .c, .t false, .c, .c, .c, .c]) (ts := []) (s := []) (l := [5, 6, 7]) (by kernel_rfl) (by kernel_rfl) (.cons (bf h1462) (.cons (bf h1463) (.cons (df h1464) .nil))) q
/- ringhall/ringref5.fieldsOf -/
def G_ringref5_fieldsOf (n : Nat) (v_op977 : Int) : Option (Bool × Bool × Bool) :=
  (G_ringref5_fieldsOf_C1 n v_op977).bind fun v_o982 => match v_o982 with
  | .x0 v_z983 =>
    (G_ringref5_fieldsOf_C2 n v_op977 v_z983).bind fun v_o992 => match v_o992 with
    | .x0 v_z993 =>
      (G_ringref5_fieldsOf_C3 n v_op977 v_z983 v_z993).bind fun v_o1004 => match v_o1004 with
      | .x0 v_z1005 =>
        some (v_z983, v_z993, v_z1005)
theorem G_ringref5_fieldsOf_ok (n : Nat) (v_op977 : Int) (r : Bool × Bool × Bool) (h : G_ringref5_fieldsOf n v_op977 = some r) : Ret Try.prog 27 [(eI .i64) v_op977] (.tup [eB r.1, eB r.2.1, eB r.2.2]) := by
  refine ret_run (n := 53) (fn := Try.f27) (c := bodyOf Try.f27) (by kernel_rfl) (by kernel_rfl) (by kernel_rfl) (by kernel_rfl) ?_
  have hF : KC 53 (FinR Try.prog Try.f27 (.tup [eB r.1, eB r.2.1, eB r.2.2])) := FinR.kc' (by kernel_rfl)
  unfold G_ringref5_fieldsOf at h
  obtain ⟨v_o982, h1448, h⟩ := bind_some h
  refine pkk_sound TTok mix hF 3 (hs := []) (ts := []) (s := []) (l := [0]) (by kernel_rfl) (by kernel_rfl) .nil (G_ringref5_fieldsOf_C1_ok hF (.s (cR (cR (bodyOf Try.f27))) :: []) n v_op977 _ h1448 ?_)
  cases v_o982 with
  | x0 v_z983 =>
    try dsimp only at h
    obtain ⟨v_o992, h1457, h⟩ := bind_some h
    refine pkk_sound TTok mix hF 1 (hs := []) (ts := []) (s := []) (l := [0, 5]) (by kernel_rfl) (by kernel_rfl) .nil (G_ringref5_fieldsOf_C2_ok hF (.s (cR (cR (cR (bodyOf Try.f27)))) :: []) n v_op977 v_z983 _ h1457 ?_)
    cases v_o992 with
    | x0 v_z993 =>
      try dsimp only at h
      obtain ⟨v_o1004, h1466, h⟩ := bind_some h
      refine pkk_sound TTok mix hF 1 (hs := []) (ts := []) (s := []) (l := [0, 5, 6]) (by kernel_rfl) (by kernel_rfl) .nil (G_ringref5_fieldsOf_C3_ok hF (.s (cR (cR (cR (cR (bodyOf Try.f27))))) :: []) n v_op977 v_z983 v_z993 _ h1466 ?_)
      cases v_o1004 with
      | x0 v_z1005 =>
        try dsimp only at h
        obtain rfl := Option.some.inj h
        exact pend_sound TTok mix 3 (hs := []) (by kernel_rfl) (by kernel_rfl) (by kernel_rfl) .nil
def G_ringref5_EncodeOf_J1 (n : Nat)   : Option (Int × Int) :=
  some (0, 4)
theorem G_ringref5_EncodeOf_J1_ok (n : Nat)    (r : Int × Int) (h : G_ringref5_EncodeOf_J1 n   = some r) : RunE Try.prog 92 (FinR Try.prog Try.f23 (.tup [(eI .u32) r.1, (eI .i64) r.2])) (.s (cT (cR (cL (cR (bodyOf Try.f23))))) :: .s (cR (cR (bodyOf Try.f23))) :: []) .normal ⟨[dd, dd, dd, dd, dd, dd, dd, dd, dd, dd, dd, dd, dd, dd, dd, dd, dd, dd, dd, dd, dd, dd, dd, dd, dd, dd, dd, dd, dd, dd, dd, dd, dd, dd, dd, dd, dd, dd, dd, dd, dd, dd, dd, dd, dd, dd, dd, dd, dd, dd, dd, dd, dd, dd, dd, dd, dd, dd, dd, dd, dd, dd, dd, dd, dd, dd, dd, dd, dd, dd, dd, dd, dd, dd, dd, dd, dd, dd, dd, dd, dd, dd, dd, dd, dd, dd, dd, dd, dd, dd, dd, dd], []⟩ := by
  have hF : KC 92 (FinR Try.prog Try.f23 (.tup [(eI .u32) r.1, (eI .i64) r.2])) := FinR.kc' (by kernel_rfl)
  unfold G_ringref5_EncodeOf_J1 at h
  obtain rfl := Option.some.inj h
  exact pend_sound TTok mix 4 (hs := []) (by kernel_rfl) (by kernel_rfl) (by kernel_rfl) .nil
inductive G_ringref5_EncodeOf_C1_R where
  | x0 (v_x1117 : Bool)
def G_ringref5_EncodeOf_C1_ex : G_ringref5_EncodeOf_C1_R → Ex
  | .x0 _ => .normal
def G_ringref5_EncodeOf_C1_st (v_i946 : S_api_Ins) : G_ringref5_EncodeOf_C1_R → PS
  | .x0 v_x1117 => ⟨[dd, .ref 0 0, dd, dd, dd, dd, dd, dd, dd, dd, dd, dd, dd, dd, dd, dd, dd, dd, dd, dd, dd, dd, dd, dd, dd, dd, dd, dd, dd, dd, dd, dd, dd, dd, dd, dd, dd, dd, dd, dd, dd, dd, .d (.v (.bool v_x1117)), dd, dd, dd, dd, dd, dd, dd, dd, dd, dd, dd, dd, dd, dd, dd, dd, dd, dd, dd, dd, dd, dd, dd, dd, dd, dd, dd, dd, dd, dd, dd, dd, dd, dd, dd, dd, dd, dd, dd, dd, dd, dd, dd, dd, dd, dd, dd, dd, dd], [.box [.d (.v (.int .i64 v_i946.fOp)), .d (.v (.int .i64 v_i946.fA)), .d (.v (.int .i64 v_i946.fB)), .d (.v (.int .i64 v_i946.fC))]]⟩
def G_ringref5_EncodeOf_C1_hd (v_i946 : S_api_Ins)  : PS := ⟨[dd, .ref 0 0, dd, dd, dd, dd, dd, dd, dd, dd, dd, dd, dd, dd, dd, dd, dd, dd, dd, dd, dd, dd, dd, dd, dd, dd, dd, dd, dd, dd, dd, dd, dd, dd, dd, dd, dd, dd, dd, dd, dd, dd, dd, dd, dd, dd, dd, dd, dd, dd, dd, dd, dd, dd, dd, dd, dd, dd, dd, dd, dd, dd, dd, dd, dd, dd, dd, dd, dd, dd, dd, dd, dd, dd, dd, dd, dd, dd, dd, dd, dd, dd, dd, dd, dd, dd, dd, dd, dd, dd, dd, dd], [.box [.d (.v (.int .i64 v_i946.fOp)), .d (.v (.int .i64 v_i946.fA)), .d (.v (.int .i64 v_i946.fB)), .d (.v (.int .i64 v_i946.fC))]]⟩
def G_ringref5_EncodeOf_C1 (n : Nat) (v_i946 : S_api_Ins) : Option G_ringref5_EncodeOf_C1_R :=
  if v_i946.fA < 0 then
   some (.x0 true)
  else
   if v_i946.fA > 7 then
    some (.x0 true)
   else
    if v_i946.fB < 0 then
     some (.x0 true)
    else
     if v_i946.fB > 7 then
      some (.x0 true)
     else
      if v_i946.fC < (-32768) then
       some (.x0 true)
      else
       some (.x0 (decide (v_i946.fC > 32767)))
theorem G_ringref5_EncodeOf_C1_ok {Fi : Ex → PS → Prop} (hF : KC 92 Fi) (ks : List Fr) (n : Nat) (v_i946 : S_api_Ins)  (o : G_ringref5_EncodeOf_C1_R) (h : G_ringref5_EncodeOf_C1 n v_i946 = some o) (q : RunE Try.prog 92 Fi ks (G_ringref5_EncodeOf_C1_ex o) (G_ringref5_EncodeOf_C1_st v_i946 o)) : RunE Try.prog 92 Fi (.s (cL (cL (cR (cR (bodyOf Try.f23))))) :: ks) .normal (G_ringref5_EncodeOf_C1_hd v_i946) := by
  unfold G_ringref5_EncodeOf_C1 at h
  by_cases h1536 : v_i946.fA < 0
  · rw [if_pos h1536] at h
    cases h
    exact pkk_sound TTok mix hF 1 (hs := [.c, .t true, .c, .c, .c, .c, .c, .c, .c, .c, .c, .c, .c, .c, .c, .c]) (ts := []) (s := [0]) (l := [1, 42]) (by kernel_rfl) (by kernel_rfl) (.cons (dt h1536) .nil) q
  · rw [if_neg h1536] at h
    by_cases h1537 : v_i946.fA > 7
    · rw [if_pos h1537] at h
      cases h
      exact pkk_sound TTok mix hF 1 (hs := [.c, .t false, .c, .c, .c, .t true, .c, .c, .c, .c, .c, .c, .c, .c, .c, .c, .c]) (ts := []) (s := [0]) (l := [1, 42]) (by kernel_rfl) (by kernel_rfl) (.cons (df h1536) (.cons (dt h1537) .nil)) q
    · rw [if_neg h1537] at h
      by_cases h1538 : v_i946.fB < 0
      · rw [if_pos h1538] at h
        cases h
        exact pkk_sound TTok mix hF 1 (hs := [.c, .t false, .c, .c, .c, .t false, .c, .c, .c, .t true, .c, .c, .c, .c, .c, .c, .c, .c]) (ts := []) (s := [0]) (l := [1, 42]) (by kernel_rfl) (by kernel_rfl) (.cons (df h1536) (.cons (df h1537) (.cons (dt h1538) .nil))) q
      · rw [if_neg h1538] at h
        by_cases h1539 : v_i946.fB > 7
        · rw [if_pos h1539] at h
          cases h
          exact pkk_sound TTok mix hF 1 (hs := [.c, .t false, .c, .c, .c, .t false, .c, .c, .c, .t false, .c, .c, .c, .t true, .c, .c, .c, .c, .c]) (ts := []) (s := [0]) (l := [1, 42]) (by kernel_rfl) (by kernel_rfl) (.cons (df h1536) (.cons (df h1537) (.cons (df h1538) (.cons (dt h1539) .nil)))) q
        · rw [if_neg h1539] at h
          by_cases h1540 : v_i946.fC < (-32768)
          · rw [if_pos h1540] at h
            cases h
            exact pkk_sound TTok mix hF 1 (hs := [.c, .t false, .c, .c, .c, .t false, .c, .c, .c, .t false, .c, .c, .c, .t false, .c, .c, .c, .t true, .c, .c]) (ts := []) (s := [0]) (l := [1, 42]) (by kernel_rfl) (by kernel_rfl) (.cons (df h1536) (.cons (df h1537) (.cons (df h1538) (.cons (df h1539) (.cons (dt h1540) .nil))))) q
          · rw [if_neg h1540] at h
            cases h
            exact pkk_sound TTok mix hF 1 (hs := [.c, .t false, .c, .c, .c, .t false, .c, .c, .c, .t false, .c, .c, .c, .t false, .c, .c, .c, .t false, .c, .c, .c]) (ts := []) (s := [0]) (l := [1, 42]) (by kernel_rfl) (by kernel_rfl) (.cons (df h1536) (.cons (df h1537) (.cons (df h1538) (.cons (df h1539) (.cons (df h1540) .nil))))) q
inductive G_ringref5_EncodeOf_C2_R where
  | x0 (v_x1146 : Bool)
def G_ringref5_EncodeOf_C2_ex : G_ringref5_EncodeOf_C2_R → Ex
  | .x0 _ => .normal
def G_ringref5_EncodeOf_C2_st (v_r1132 : (Bool × Bool × Bool)) (v_i946 : S_api_Ins) : G_ringref5_EncodeOf_C2_R → PS
  | .x0 v_x1146 => ⟨[dd, .ref 0 0, dd, dd, dd, dd, dd, dd, dd, dd, dd, dd, dd, dd, dd, dd, dd, dd, dd, dd, dd, dd, dd, dd, dd, dd, dd, dd, dd, dd, dd, dd, dd, dd, dd, dd, dd, dd, dd, dd, dd, dd, dd, dd, dd, dd, dd, dd, dd, dd, dd, dd, dd, dd, dd, dd, dd, dd, dd, dd, dd, dd, dd, dd, dd, dd, dd, dd, dd, dd, dd, dd, dd, dd, .d (.v (.bool v_x1146)), dd, dd, dd, dd, dd, dd, dd, dd, dd, dd, dd, dd, dd, dd, dd, dd, dd], [.box [.d (.v (.int .i64 v_i946.fOp)), .d (.v (.int .i64 v_i946.fA)), .d (.v (.int .i64 v_i946.fB)), .d (.v (.int .i64 v_i946.fC))]]⟩
def G_ringref5_EncodeOf_C2_hd (v_r1132 : (Bool × Bool × Bool)) (v_i946 : S_api_Ins)  : PS := ⟨[dd, .ref 0 0, dd, dd, .d (.v (.bool v_r1132.1)), .d (.v (.bool v_r1132.2.1)), .d (.v (.bool v_r1132.2.2)), dd, dd, dd, dd, dd, dd, dd, dd, dd, dd, dd, dd, dd, dd, dd, dd, dd, dd, dd, dd, dd, dd, dd, dd, dd, dd, dd, dd, dd, dd, dd, dd, dd, dd, dd, dd, dd, dd, dd, dd, dd, dd, dd, dd, dd, dd, dd, dd, dd, dd, dd, dd, dd, dd, dd, dd, dd, dd, dd, dd, dd, dd, dd, dd, dd, dd, dd, dd, dd, dd, dd, dd, dd, dd, dd, dd, dd, dd, dd, dd, dd, dd, dd, dd, dd], [.box [.d (.v (.int .i64 v_i946.fOp)), .d (.v (.int .i64 v_i946.fA)), .d (.v (.int .i64 v_i946.fB)), .d (.v (.int .i64 v_i946.fC))]]⟩
def G_ringref5_EncodeOf_C2 (n : Nat) (v_r1132 : (Bool × Bool × Bool)) (v_i946 : S_api_Ins) : Option G_ringref5_EncodeOf_C2_R :=
  if v_r1132.1 = true then
   if v_r1132.2.1 = true then
    if v_r1132.2.2 = true then
     some (.x0 false)
    else
     some (.x0 (v_i946.fC != 0))
   else
    if v_i946.fB = 0 then
     if v_r1132.2.2 = true then
      some (.x0 false)
     else
      some (.x0 (v_i946.fC != 0))
    else
     some (.x0 true)
  else
   if v_i946.fA = 0 then
    if v_r1132.2.1 = true then
     if v_r1132.2.2 = true then
      some (.x0 false)
     else
      some (.x0 (v_i946.fC != 0))
    else
     if v_i946.fB = 0 then
      if v_r1132.2.2 = true then
       some (.x0 false)
      else
       some (.x0 (v_i946.fC != 0))
     else
      some (.x0 true)
   else
    some (.x0 true)
theorem G_ringref5_EncodeOf_C2_ok {Fi : Ex → PS → Prop} (hF : KC 92 Fi) (ks : List Fr) (n : Nat) (v_r1132 : (Bool × Bool × Bool)) (v_i946 : S_api_Ins)  (o : G_ringref5_EncodeOf_C2_R) (h : G_ringref5_EncodeOf_C2 n v_r1132 v_i946 = some o) (q : RunE Try.prog 92 Fi ks (G_ringref5_EncodeOf_C2_ex o) (G_ringref5_EncodeOf_C2_st v_r1132 v_i946 o)) : RunE Try.prog 92 Fi (.s (cL (cL (cR (cR (cR (cR (bodyOf Try.f23))))))) :: ks) .normal (G_ringref5_EncodeOf_C2_hd v_r1132 v_i946) := by
  unfold G_ringref5_EncodeOf_C2 at h
  by_cases h1554 : v_r1132.1 = true
  · rw [if_pos h1554] at h
    by_cases h1560 : v_r1132.2.1 = true
    · rw [if_pos h1560] at h
      by_cases h1563 : v_r1132.2.2 = true
      · rw [if_pos h1563] at h
        cases h
        exact pkk_sound TTok mix hF 1 (hs := [.t false, .c, .c, .c, .c, .c, .t false, .c, .c, .c, .c, .c, .c, .t false, .c, .c, .c]) (ts := []) (s := [0]) (l := [1, 74]) (by kernel_rfl) (by kernel_rfl) (.cons (bnf h1554) (.cons (bnf h1560) (.cons (bnf h1563) .nil))) q
      · rw [if_neg h1563] at h
        cases h
        exact pkk_sound TTok mix hF 1 (hs := [.t false, .c, .c, .c, .c, .c, .t false, .c, .c, .c, .c, .c, .c, .t true, .c, .c, .c, .c]) (ts := []) (s := [0]) (l := [1, 74]) (by kernel_rfl) (by kernel_rfl) (.cons (bnf h1554) (.cons (bnf h1560) (.cons (bnt (vf h1563)) .nil))) q
    · rw [if_neg h1560] at h
      by_cases h1561 : v_i946.fB = 0
      · rw [if_pos h1561] at h
        by_cases h1562 : v_r1132.2.2 = true
        · rw [if_pos h1562] at h
          cases h
          exact pkk_sound TTok mix hF 1 (hs := [.t false, .c, .c, .c, .c, .c, .t true, .c, .c, .c, .c, .t false, .c, .c, .t false, .c, .c, .c]) (ts := []) (s := [0]) (l := [1, 74]) (by kernel_rfl) (by kernel_rfl) (.cons (bnf h1554) (.cons (bnt (vf h1560)) (.cons (nf h1561) (.cons (bnf h1562) .nil)))) q
        · rw [if_neg h1562] at h
          cases h
          exact pkk_sound TTok mix hF 1 (hs := [.t false, .c, .c, .c, .c, .c, .t true, .c, .c, .c, .c, .t false, .c, .c, .t true, .c, .c, .c, .c]) (ts := []) (s := [0]) (l := [1, 74]) (by kernel_rfl) (by kernel_rfl) (.cons (bnf h1554) (.cons (bnt (vf h1560)) (.cons (nf h1561) (.cons (bnt (vf h1562)) .nil)))) q
      · rw [if_neg h1561] at h
        cases h
        exact pkk_sound TTok mix hF 1 (hs := [.t false, .c, .c, .c, .c, .c, .t true, .c, .c, .c, .c, .t true, .c, .c, .c]) (ts := []) (s := [0]) (l := [1, 74]) (by kernel_rfl) (by kernel_rfl) (.cons (bnf h1554) (.cons (bnt (vf h1560)) (.cons (nt h1561) .nil))) q
  · rw [if_neg h1554] at h
    by_cases h1555 : v_i946.fA = 0
    · rw [if_pos h1555] at h
      by_cases h1556 : v_r1132.2.1 = true
      · rw [if_pos h1556] at h
        by_cases h1559 : v_r1132.2.2 = true
        · rw [if_pos h1559] at h
          cases h
          exact pkk_sound TTok mix hF 1 (hs := [.t true, .c, .c, .c, .t false, .c, .c, .t false, .c, .c, .c, .c, .c, .c, .t false, .c, .c, .c]) (ts := []) (s := [0]) (l := [1, 74]) (by kernel_rfl) (by kernel_rfl) (.cons (bnt (vf h1554)) (.cons (nf h1555) (.cons (bnf h1556) (.cons (bnf h1559) .nil)))) q
        · rw [if_neg h1559] at h
          cases h
          exact pkk_sound TTok mix hF 1 (hs := [.t true, .c, .c, .c, .t false, .c, .c, .t false, .c, .c, .c, .c, .c, .c, .t true, .c, .c, .c, .c]) (ts := []) (s := [0]) (l := [1, 74]) (by kernel_rfl) (by kernel_rfl) (.cons (bnt (vf h1554)) (.cons (nf h1555) (.cons (bnf h1556) (.cons (bnt (vf h1559)) .nil)))) q
      · rw [if_neg h1556] at h
        by_cases h1557 : v_i946.fB = 0
        · rw [if_pos h1557] at h
          by_cases h1558 : v_r1132.2.2 = true
          · rw [if_pos h1558] at h
            cases h
            exact pkk_sound TTok mix hF 1 (hs := [.t true, .c, .c, .c, .t false, .c, .c, .t true, .c, .c, .c, .c, .t false, .c, .c, .t false, .c, .c, .c]) (ts := []) (s := [0]) (l := [1, 74]) (by kernel_rfl) (by kernel_rfl) (.cons (bnt (vf h1554)) (.cons (nf h1555) (.cons (bnt (vf h1556)) (.cons (nf h1557) (.cons (bnf h1558) .nil))))) q
          · rw [if_neg h1558] at h
            cases h
            exact pkk_sound TTok mix hF 1 (hs := [.t true, .c, .c, .c, .t false, .c, .c, .t true, .c, .c, .c, .c, .t false, .c, .c, .t true, .c, .c, .c, .c]) (ts := []) (s := [0]) (l := [1, 74]) (by kernel_rfl) (by kernel_rfl) (.cons (bnt (vf h1554)) (.cons (nf h1555) (.cons (bnt (vf h1556)) (.cons (nf h1557) (.cons (bnt (vf h1558)) .nil))))) q
        · rw [if_neg h1557] at h
          cases h
          exact pkk_sound TTok mix hF 1 (hs := [.t true, .c, .c, .c, .t false, .c, .c, .t true, .c, .c, .c, .c, .t true, .c, .c, .c]) (ts := []) (s := [0]) (l := [1, 74]) (by kernel_rfl) (by kernel_rfl) (.cons (bnt (vf h1554)) (.cons (nf h1555) (.cons (bnt (vf h1556)) (.cons (nt h1557) .nil)))) q
    · rw [if_neg h1555] at h
      cases h
      exact pkk_sound TTok mix hF 1 (hs := [.t true, .c, .c, .c, .t true, .c, .c, .c, .c, .c, .c, .c]) (ts := []) (s := [0]) (l := [1, 74]) (by kernel_rfl) (by kernel_rfl) (.cons (bnt (vf h1554)) (.cons (nt h1555) .nil)) q
/- ringhall/ringref5.EncodeOf -/
def G_ringref5_EncodeOf (n : Nat) (v_i946 : S_api_Ins) : Option (Int × Int) :=
  if v_i946.fOp < 1 then
   G_ringref5_EncodeOf_J1 n  
  else
   if v_i946.fOp > 26 then
    G_ringref5_EncodeOf_J1 n  
   else
    (G_ringref5_EncodeOf_C1 n v_i946).bind fun v_o1123 => match v_o1123 with
    | .x0 v_z1124 =>
      if v_z1124 = true then
       some (0, 1)
      else
       (G_ringref5_fieldsOf n v_i946.fOp).bind fun (v_r1132 : (Bool × Bool × Bool)) =>
       (G_ringref5_EncodeOf_C2 n v_r1132 v_i946).bind fun v_o1157 => match v_o1157 with
       | .x0 v_z1158 =>
         if v_z1158 = true then
          some (0, 3)
         else
          some ((wi .u32 (wi .i64 ((wi .i64 ((wi .i64 ((wi .i64 (v_i946.fOp * 16777216)) + (wi .i64 (v_i946.fA * 1048576)))) + (wi .i64 (v_i946.fB * 65536)))) + (remI (wi .i64 (v_i946.fC + 65536)) 65536)))), 0)
theorem G_ringref5_EncodeOf_ok (n : Nat) (v_i946 : S_api_Ins) (r : Int × Int) (h : G_ringref5_EncodeOf n v_i946 = some r) : Ret Try.prog 23 [eS_api_Ins v_i946] (.tup [(eI .u32) r.1, (eI .i64) r.2]) := by
  refine ret_run (n := 92) (fn := Try.f23) (c := bodyOf Try.f23) (by kernel_rfl) (by kernel_rfl) (by kernel_rfl) (by kernel_rfl) ?_
  have hF : KC 92 (FinR Try.prog Try.f23 (.tup [(eI .u32) r.1, (eI .i64) r.2])) := FinR.kc' (by kernel_rfl)
  unfold G_ringref5_EncodeOf at h
  by_cases h1529 : v_i946.fOp < 1
  · rw [if_pos h1529] at h
    exact pkk_sound TTok mix hF 6 (hs := [.c, .t true, .c, .c, .c]) (ts := []) (s := []) (l := []) (by kernel_rfl) (by kernel_rfl) (.cons (dt h1529) .nil) (G_ringref5_EncodeOf_J1_ok n   _ h)
  · rw [if_neg h1529] at h
    by_cases h1530 : v_i946.fOp > 26
    · rw [if_pos h1530] at h
      exact pkk_sound TTok mix hF 6 (hs := [.c, .t false, .c, .c, .c, .t true]) (ts := []) (s := []) (l := []) (by kernel_rfl) (by kernel_rfl) (.cons (df h1529) (.cons (dt h1530) .nil)) (G_ringref5_EncodeOf_J1_ok n   _ h)
    · rw [if_neg h1530] at h
      obtain ⟨v_o1123, h1541, h⟩ := bind_some h
      refine pkk_sound TTok mix hF 9 (hs := [.c, .t false, .c, .c, .c, .t false]) (ts := []) (s := [0]) (l := [1]) (by kernel_rfl) (by kernel_rfl) (.cons (df h1529) (.cons (df h1530) .nil)) (G_ringref5_EncodeOf_C1_ok hF (.s (cR (cL (cR (cR (bodyOf Try.f23))))) :: .s (cR (cR (cR (bodyOf Try.f23)))) :: []) n v_i946 _ h1541 ?_)
      cases v_o1123 with
      | x0 v_z1124 =>
        try dsimp only at h
        by_cases h1542 : v_z1124 = true
        · rw [if_pos h1542] at h
          obtain rfl := Option.some.inj h
          exact pend_sound TTok mix 5 (hs := [.t true]) (by kernel_rfl) (by kernel_rfl) (by kernel_rfl) (.cons h1542 .nil)
        · rw [if_neg h1542] at h
          obtain ⟨v_r1132, h1543, h⟩ := bind_some h
          obtain ⟨v_o1157, h1564, h⟩ := bind_some h
          refine pkk_sound TTok mix hF 6 (hs := [.t false, .c, .r (.tup [eB v_r1132.1, eB v_r1132.2.1, eB v_r1132.2.2])]) (ts := []) (s := [0]) (l := [1, 4, 5, 6]) (by kernel_rfl) (by kernel_rfl) (.cons (vf h1542) (.cons (G_ringref5_fieldsOf_ok n v_i946.fOp _ h1543) .nil)) (G_ringref5_EncodeOf_C2_ok hF (.s (cR (cL (cR (cR (cR (cR (bodyOf Try.f23))))))) :: .s (cR (cR (cR (cR (cR (bodyOf Try.f23)))))) :: []) n v_r1132 v_i946 _ h1564 ?_)
          cases v_o1157 with
          | x0 v_z1158 =>
            try dsimp only at h
            by_cases h1565 : v_z1158 = true
            · rw [if_pos h1565] at h
              obtain rfl := Option.some.inj h
              exact pend_sound TTok mix 5 (hs := [.t true]) (by kernel_rfl) (by kernel_rfl) (by kernel_rfl) (.cons h1565 .nil)
            · rw [if_neg h1565] at h
              obtain rfl := Option.some.inj h
              exact pend_sound TTok mix 5 (hs := [.t false, .c, .c, .c, .c]) (by kernel_rfl) (by kernel_rfl) (by kernel_rfl) (.cons (vf h1565) (.cons (show (65536 : Int) ≠ 0 by decide) .nil))
inductive G_ringref5_DecodeOf_C1_R where
  | x0 (v_c932 : Int)
def G_ringref5_DecodeOf_C1_ex : G_ringref5_DecodeOf_C1_R → Ex
  | .x0 _ => .normal
def G_ringref5_DecodeOf_C1_st (v_w924 : Int) : G_ringref5_DecodeOf_C1_R → PS
  | .x0 v_c932 => ⟨[.d (.v (.int .u32 v_w924)), dd, .ref 0 0, dd, .d (.v (.int .i64 v_c932)), dd, dd, dd, dd, dd, dd, dd, dd, dd, dd, dd, dd, dd, dd, dd, dd, dd, dd, dd, dd, dd, dd, dd, dd, dd, dd, dd, dd, dd, dd, dd, dd], [.box [.d (.v (.int .i64 0)), .d (.v (.int .i64 0)), .d (.v (.int .i64 0)), .d (.v (.int .i64 0))]]⟩
def G_ringref5_DecodeOf_C1_hd (v_w924 : Int)  : PS := ⟨[.d (.v (.int .u32 v_w924)), dd, .ref 0 0, dd, .d (.v (.int .i64 (wi .i64 (remI v_w924 65536)))), dd, dd, dd, dd, dd, dd, dd, .d (.v (.bool (decide ((wi .i64 (remI v_w924 65536)) > 32767)))), dd, dd, dd, dd, dd, dd, dd, dd, dd, dd, dd, dd, dd, dd, dd, dd, dd, dd, dd, dd, dd, dd, dd, dd], [.box [.d (.v (.int .i64 0)), .d (.v (.int .i64 0)), .d (.v (.int .i64 0)), .d (.v (.int .i64 0))]]⟩
def G_ringref5_DecodeOf_C1 (n : Nat) (v_w924 : Int) : Option G_ringref5_DecodeOf_C1_R :=
  if (wi .i64 (remI v_w924 65536)) > 32767 then
   some (.x0 (wi .i64 ((wi .i64 (remI v_w924 65536)) - 65536)))
  else
   some (.x0 (wi .i64 (remI v_w924 65536)))
theorem G_ringref5_DecodeOf_C1_ok {Fi : Ex → PS → Prop} (hF : KC 37 Fi) (ks : List Fr) (n : Nat) (v_w924 : Int)  (o : G_ringref5_DecodeOf_C1_R) (h : G_ringref5_DecodeOf_C1 n v_w924 = some o) (q : RunE Try.prog 37 Fi ks (G_ringref5_DecodeOf_C1_ex o) (G_ringref5_DecodeOf_C1_st v_w924 o)) : RunE Try.prog 37 Fi (.s (cR (cL (cR (cR (bodyOf Try.f17))))) :: ks) .normal (G_ringref5_DecodeOf_C1_hd v_w924) := by
  unfold G_ringref5_DecodeOf_C1 at h
  by_cases h1423 : (wi .i64 (remI v_w924 65536)) > 32767
  · rw [if_pos h1423] at h
    cases h
    exact pkk_sound TTok mix hF 2 (hs := [.t true]) (ts := []) (s := [0]) (l := [0, 2, 4]) (by kernel_rfl) (by kernel_rfl) (.cons (dt h1423) .nil) q
  · rw [if_neg h1423] at h
    cases h
    exact pkk_sound TTok mix hF 2 (hs := [.t false]) (ts := []) (s := [0]) (l := [0, 2, 4]) (by kernel_rfl) (by kernel_rfl) (.cons (df h1423) .nil) q
/- ringhall/ringref5.DecodeOf -/
def G_ringref5_DecodeOf (n : Nat) (v_w924 : Int) : Option (S_api_Ins × Int) :=
  (G_ringref5_DecodeOf_C1 n v_w924).bind fun v_o934 => match v_o934 with
  | .x0 v_z935 =>
    (G_ringref5_EncodeOf n (S_api_Ins.mk (wi .i64 (quoI .u32 v_w924 16777216)) (wi .i64 (remI (quoI .u32 v_w924 1048576) 16)) (wi .i64 (remI (quoI .u32 v_w924 65536) 16)) v_z935)).bind fun (v_r1166 : (Int × Int)) =>
    if v_r1166.2 = 0 then
     some ((S_api_Ins.mk (wi .i64 (quoI .u32 v_w924 16777216)) (wi .i64 (remI (quoI .u32 v_w924 1048576) 16)) (wi .i64 (remI (quoI .u32 v_w924 65536) 16)) v_z935), 0)
    else
     some ((S_api_Ins.mk 0 0 0 0), 3)
theorem G_ringref5_DecodeOf_ok (n : Nat) (v_w924 : Int) (r : S_api_Ins × Int) (h : G_ringref5_DecodeOf n v_w924 = some r) : Ret Try.prog 17 [(eI .u32) v_w924] (.tup [eS_api_Ins r.1, (eI .i64) r.2]) := by
  refine ret_run (n := 37) (fn := Try.f17) (c := bodyOf Try.f17) (by kernel_rfl) (by kernel_rfl) (by kernel_rfl) (by kernel_rfl) ?_
  have hF : KC 37 (FinR Try.prog Try.f17 (.tup [eS_api_Ins r.1, (eI .i64) r.2])) := FinR.kc' (by kernel_rfl)
  unfold G_ringref5_DecodeOf at h
  obtain ⟨v_o934, h1424, h⟩ := bind_some h
  refine pkk_sound TTok mix hF 7 (hs := []) (ts := []) (s := [0]) (l := [0, 2, 4, 12]) (by kernel_rfl) (by kernel_rfl) (.cons (show (65536 : Int) ≠ 0 by decide) .nil) (G_ringref5_DecodeOf_C1_ok hF (.s (cR (cR (cR (bodyOf Try.f17)))) :: []) n v_w924 _ h1424 ?_)
  cases v_o934 with
  | x0 v_z935 =>
    try dsimp only at h
    obtain ⟨v_r1166, h1567, h⟩ := bind_some h
    by_cases h1569 : v_r1166.2 = 0
    · rw [if_pos h1569] at h
      obtain rfl := Option.some.inj h
      exact pend_sound TTok mix 12 (hs := [.c, .c, .r (.tup [(eI .u32) v_r1166.1, (eI .i64) v_r1166.2]), .t false, .c, .c]) (by kernel_rfl) (by kernel_rfl) (by kernel_rfl) (.cons (show (16777216 : Int) ≠ 0 by decide) (.cons (show (1048576 : Int) ≠ 0 by decide) (.cons (show (16 : Int) ≠ 0 by decide) (.cons (show (65536 : Int) ≠ 0 by decide) (.cons (show (16 : Int) ≠ 0 by decide) (.cons (show 0 + 4 ≤ 4 by decide) (.cons (G_ringref5_EncodeOf_ok n (S_api_Ins.mk (wi .i64 (quoI .u32 v_w924 16777216)) (wi .i64 (remI (quoI .u32 v_w924 1048576) 16)) (wi .i64 (remI (quoI .u32 v_w924 65536) 16)) v_z935) _ h1567) (.cons (nf h1569) (.cons (show 0 + 4 ≤ 4 by decide) .nil)))))))))
    · rw [if_neg h1569] at h
      obtain rfl := Option.some.inj h
      exact pend_sound TTok mix 12 (hs := [.c, .c, .r (.tup [(eI .u32) v_r1166.1, (eI .i64) v_r1166.2]), .t true, .c]) (by kernel_rfl) (by kernel_rfl) (by kernel_rfl) (.cons (show (16777216 : Int) ≠ 0 by decide) (.cons (show (1048576 : Int) ≠ 0 by decide) (.cons (show (16 : Int) ≠ 0 by decide) (.cons (show (65536 : Int) ≠ 0 by decide) (.cons (show (16 : Int) ≠ 0 by decide) (.cons (show 0 + 4 ≤ 4 by decide) (.cons (G_ringref5_EncodeOf_ok n (S_api_Ins.mk (wi .i64 (quoI .u32 v_w924 16777216)) (wi .i64 (remI (quoI .u32 v_w924 1048576) 16)) (wi .i64 (remI (quoI .u32 v_w924 65536) 16)) v_z935) _ h1567) (.cons (nt h1569) (.cons (show 0 + 4 ≤ 4 by decide) .nil)))))))))
inductive G_ringref5_Room_lay_h_L1_R where
  | x0 (v_b1255 : Int) (v_b1256 : Int) (v_w1257 : (List Int)) (v_b1258 : S_api_Trap)
  | x1 (v_b1259 : Int) (v_b1260 : Int) (v_w1261 : (List Int))
def G_ringref5_Room_lay_h_L1_ex : G_ringref5_Room_lay_h_L1_R → Ex
  | .x0 _ _ _ _ => .ret
  | .x1 _ _ _ => .exit 0
def G_ringref5_Room_lay_h_L1_st  : G_ringref5_Room_lay_h_L1_R → PS
  | .x0 v_b1255 v_b1256 v_w1257 v_b1258 => ⟨[dd, dd, dd, dd, dd, dd, .ref 5 0, dd, dd, dd, dd, dd, dd, dd, dd, dd, dd, dd, dd, dd, dd, dd, dd, dd, dd, dd, dd, dd, dd], [.gh 0 (.ref 2 0), .gh 1 (.srf 4), .box [.d (.v (.int .u32 v_b1255)), .srf 3, .d (.v (.int .i64 v_b1256))], .row 5 1 (v_w1257.map (eI .u8)), .none, .box [.d (.v (.int .i64 v_b1258.fKind)), .d (.v (.int .u32 v_b1258.fAddr))]]⟩
  | .x1 v_b1259 v_b1260 v_w1261 => ⟨[dd, dd, dd, dd, dd, dd, .ref 5 0, dd, dd, dd, dd, dd, dd, dd, dd, dd, dd, dd, dd, dd, dd, dd, dd, dd, dd, dd, dd, dd, dd], [.gh 0 (.ref 2 0), .gh 1 (.srf 4), .box [.d (.v (.int .u32 v_b1259)), .srf 3, .d (.v (.int .i64 v_b1260))], .row 5 1 (v_w1261.map (eI .u8)), .none, .box [.d (.v (.int .i64 0)), .d (.v (.int .u32 0))]]⟩
def G_ringref5_Room_lay_h_L1_hd  (v_at1246 : Int) (v_w1247 : Int) (v_x1248 : Int) (v_b1249 : Int) (v_b1250 : Int) (v_w1251 : (List Int)) : PS := ⟨[.ref 2 0, .d (.v (.int .u32 v_at1246)), .d (.v (.int .u32 v_w1247)), dd, dd, dd, .ref 5 0, dd, dd, dd, dd, dd, .d (.v (.int .i64 v_x1248)), dd, dd, dd, dd, dd, dd, dd, dd, dd, dd, dd, dd, dd, dd, dd, dd], [.gh 0 (.ref 2 0), .gh 1 (.srf 4), .box [.d (.v (.int .u32 v_b1249)), .srf 3, .d (.v (.int .i64 v_b1250))], .row 5 1 (v_w1251.map (eI .u8)), .none, .box [.d (.v (.int .i64 0)), .d (.v (.int .u32 0))]]⟩
def G_ringref5_Room_lay_h_L1 (n : Nat)  : Nat → Int → Int → Int → Int → Int → (List Int) → Option G_ringref5_Room_lay_h_L1_R
  | 0, _, _, _, _, _, _ => none
  | k + 1, v_at1246, v_w1247, v_x1248, v_b1249, v_b1250, v_w1251 =>
    if v_x1248 < 4 then
     (G_ringref5_Room_Store_h n (S_ringref5_Room.mk v_b1249 v_w1251 v_b1250) v_at1246 (wi .u8 (remI v_w1247 256))).bind fun (v_r1254 : (Int × S_ringref5_Room)) =>
     if v_r1254.1 = 0 then
      G_ringref5_Room_lay_h_L1 n  k (wi .u32 (v_at1246 + 1)) (quoI .u32 v_w1247 256) (wi .i64 (v_x1248 + 1)) v_r1254.2.fAt v_r1254.2.fMay v_r1254.2.fBytes
     else
      some (.x0 v_r1254.2.fAt v_r1254.2.fMay v_r1254.2.fBytes (S_api_Trap.mk 2 v_at1246))
    else
     some (.x1 v_b1249 v_b1250 v_w1251)
theorem G_ringref5_Room_lay_h_L1_ok {Fi : Ex → PS → Prop} (hF : KC 29 Fi) (ks : List Fr) (n : Nat)   : ∀ (k : Nat) (v_at1246 : Int) (v_w1247 : Int) (v_x1248 : Int) (v_b1249 : Int) (v_b1250 : Int) (v_w1251 : (List Int)) (o : G_ringref5_Room_lay_h_L1_R), G_ringref5_Room_lay_h_L1 n  k v_at1246 v_w1247 v_x1248 v_b1249 v_b1250 v_w1251 = some o → RunE Try.prog 29 Fi ks (G_ringref5_Room_lay_h_L1_ex o) (G_ringref5_Room_lay_h_L1_st  o) → RunE Try.prog 29 Fi (.l k (cP (cB (cR (cL (cR (cR (bodyOf Try.f25))))))) :: ks) .normal (G_ringref5_Room_lay_h_L1_hd  v_at1246 v_w1247 v_x1248 v_b1249 v_b1250 v_w1251)
  | 0, v_at1246, v_w1247, v_x1248, v_b1249, v_b1250, v_w1251, o, h, q => by rw [G_ringref5_Room_lay_h_L1] at h; cases h
  | k + 1, v_at1246, v_w1247, v_x1248, v_b1249, v_b1250, v_w1251, o, h, q => by
    rw [G_ringref5_Room_lay_h_L1] at h
    by_cases h1651 : v_x1248 < 4
    · rw [if_pos h1651] at h
      obtain ⟨v_r1254, h1658, h⟩ := bind_some h
      by_cases h1660 : v_r1254.1 = 0
      · rw [if_pos h1660] at h
        exact pkk_sound TTok mix hF 16 (hs := [.t true, .h [2, 3] [] [.box [.d (.v (.int .u32 v_r1254.2.fAt)), .srf 2, .d (.v (.int .i64 v_r1254.2.fMay))], .none, .row 5 1 (v_r1254.2.fBytes.map (eI .u8))] (.d (.v (.int .i64 v_r1254.1))), .t false]) (ts := []) (s := [0, 1, 2, 36, 4, 5]) (l := [0, 1, 2, 6, 12]) (by kernel_rfl) (by kernel_rfl) (.cons (dt h1651) (.cons (show (256 : Int) ≠ 0 by decide) (.cons (G_ringref5_Room_Store_h_ok n (S_ringref5_Room.mk v_b1249 v_w1251 v_b1250) v_at1246 (wi .u8 (remI v_w1247 256)) _ h1658) (.cons (nf h1660) (.cons (show (256 : Int) ≠ 0 by decide) .nil))))) (G_ringref5_Room_lay_h_L1_ok hF ks n  k (wi .u32 (v_at1246 + 1)) (quoI .u32 v_w1247 256) (wi .i64 (v_x1248 + 1)) v_r1254.2.fAt v_r1254.2.fMay v_r1254.2.fBytes _ h q)
      · rw [if_neg h1660] at h
        cases h
        exact pkk_sound TTok mix hF 19 (hs := [.t true, .h [2, 3] [] [.box [.d (.v (.int .u32 v_r1254.2.fAt)), .srf 2, .d (.v (.int .i64 v_r1254.2.fMay))], .none, .row 5 1 (v_r1254.2.fBytes.map (eI .u8))] (.d (.v (.int .i64 v_r1254.1))), .t true, .c]) (ts := []) (s := [0, 1, 2, 36, 4, 5]) (l := [6]) (by kernel_rfl) (by kernel_rfl) (.cons (dt h1651) (.cons (show (256 : Int) ≠ 0 by decide) (.cons (G_ringref5_Room_Store_h_ok n (S_ringref5_Room.mk v_b1249 v_w1251 v_b1250) v_at1246 (wi .u8 (remI v_w1247 256)) _ h1658) (.cons (nt h1660) (.cons (show 0 + 2 ≤ 2 by decide) .nil))))) q
    · rw [if_neg h1651] at h
      cases h
      exact pkk_sound TTok mix hF 8 (hs := [.t false]) (ts := []) (s := [0, 1, 2, 3, 4, 5]) (l := [6]) (by kernel_rfl) (by kernel_rfl) (.cons (df h1651) .nil) q
/- (*ringhall/ringref5.Room).lay -/
def G_ringref5_Room_lay_h (n : Nat) (v_r1221 : S_ringref5_Room) (v_at1222 : Int) (v_w1223 : Int) : Option (S_api_Trap × S_ringref5_Room) :=
  if (remI v_at1222 4) > 0 then
   some ((S_api_Trap.mk 2 v_at1222), v_r1221)
  else
   (G_ringref5_Room_lay_h_L1 n  n v_at1222 v_w1223 0 v_r1221.fAt v_r1221.fMay v_r1221.fBytes).bind fun v_o1262 => match v_o1262 with
   | .x0 v_z1263 v_z1264 v_z1265 v_z1266 =>
     some (v_z1266, (S_ringref5_Room.mk v_z1263 v_z1265 v_z1264))
   | .x1 v_z1267 v_z1268 v_z1269 =>
     some ((S_api_Trap.mk 0 0), (S_ringref5_Room.mk v_z1267 v_z1269 v_z1268))
theorem G_ringref5_Room_lay_h_ok (n : Nat) (v_r1221 : S_ringref5_Room) (v_at1222 : Int) (v_w1223 : Int) (r : S_api_Trap × S_ringref5_Room) (h : G_ringref5_Room_lay_h n v_r1221 v_at1222 v_w1223 = some r) : RetH Try.prog 25 [.ref 0 0, .d ((eI .u32) v_at1222), .d ((eI .u32) v_w1223)] [.box [.d (.v (.int .u32 v_r1221.fAt)), .srf 1, .d (.v (.int .i64 v_r1221.fMay))], .row 5 1 (v_r1221.fBytes.map (eI .u8))] (.d (eS_api_Trap r.1)) [.box [.d (.v (.int .u32 r.2.fAt)), .srf 2, .d (.v (.int .i64 r.2.fMay))], .none, .row 5 1 (r.2.fBytes.map (eI .u8))] := by
  refine retH_run (n := 29) (fn := Try.f25) (c := bodyOf Try.f25) (by kernel_rfl) (by kernel_rfl) (by kernel_rfl) (by kernel_rfl) ?_
  have hF : KC 29 (FinH Try.prog Try.f25 [.box [.d (.v (.int .u32 v_r1221.fAt)), .srf 1, .d (.v (.int .i64 v_r1221.fMay))], .row 5 1 (v_r1221.fBytes.map (eI .u8))] (.d (eS_api_Trap r.1)) [.box [.d (.v (.int .u32 r.2.fAt)), .srf 2, .d (.v (.int .i64 r.2.fMay))], .none, .row 5 1 (r.2.fBytes.map (eI .u8))]) := FinH.kc' (by kernel_rfl)
  unfold G_ringref5_Room_lay_h at h
  by_cases h1628 : (remI v_at1222 4) > 0
  · rw [if_pos h1628] at h
    obtain rfl := Option.some.inj h
    exact pendH_sound TTok mix 11 (hs := [.t true, .c, .dl 2, .mv 1]) [0, 1, 39] (by kernel_rfl) (by kernel_rfl) (by kernel_rfl) (.cons (show (4 : Int) ≠ 0 by decide) (.cons (dt h1628) (.cons (show 0 + 2 ≤ 2 by decide) .nil)))
  · rw [if_neg h1628] at h
    obtain ⟨v_o1262, h1662, h⟩ := bind_some h
    refine pkk_sound TTok mix hF 13 (hs := [.t false, .dl 5, .mv 1, .n n]) (ts := []) (s := [2, 3, 0, 29, 1, 4]) (l := [0, 1, 2, 6, 12]) (by kernel_rfl) (by kernel_rfl) (.cons (show (4 : Int) ≠ 0 by decide) (.cons (df h1628) .nil)) (G_ringref5_Room_lay_h_L1_ok hF (.b 0 :: .s (cR (cR (cR (bodyOf Try.f25)))) :: []) n  n v_at1222 v_w1223 0 v_r1221.fAt v_r1221.fMay v_r1221.fBytes _ h1662 ?_)
    cases v_o1262 with
    | x0 v_z1263 v_z1264 v_z1265 v_z1266 =>
      try dsimp only at h
      obtain rfl := Option.some.inj h
      exact pendH_sound TTok mix 2 (hs := []) [2, 4, 3] (by kernel_rfl) (by kernel_rfl) (by kernel_rfl) .nil
    | x1 v_z1267 v_z1268 v_z1269 =>
      try dsimp only at h
      obtain rfl := Option.some.inj h
      exact pendH_sound TTok mix 4 (hs := [.c]) [2, 4, 3] (by kernel_rfl) (by kernel_rfl) (by kernel_rfl) (.cons (show 0 + 2 ≤ 2 by decide) .nil)
inductive G_ringref5_move_h_C1_R where
  | x0 (v_w1207 : Int) (v_b1208 : Int) (v_b1209 : Int) (v_w1210 : (List Int)) (v_b1211 : S_api_Trap)
  | x1 (v_w1212 : Int) (v_w1213 : (List Int))
def G_ringref5_move_h_C1_ex : G_ringref5_move_h_C1_R → Ex
  | .x0 _ _ _ _ _ => .normal
  | .x1 _ _ => .normal
def G_ringref5_move_h_C1_st (v_at1195 : Int) (v_i1193 : S_api_Ins) (v_m1194 : S_ringref5_Room) (v_r1192 : S_api_Regs) : G_ringref5_move_h_C1_R → PS
  | .x0 v_w1207 v_b1208 v_b1209 v_w1210 v_b1211 => ⟨[dd, dd, .ref 2 0, .d (.v (.int .u32 v_at1195)), .ref 5 0, .ref 6 0, dd, dd, .ref 7 0, .ref 8 0, dd, dd, .d (.v (.int .u32 v_w1207)), .ref 9 0, dd, dd, dd, dd, dd, dd, dd, dd, dd, dd, dd, dd, dd, dd, dd, dd, dd, dd, dd, dd, dd, dd, dd, dd, dd, dd, dd, dd, dd, dd, dd, dd, dd, dd, dd, dd, dd, dd, dd, dd, dd, dd, dd, dd, dd, dd, dd, dd, dd, dd, dd, dd, dd, dd, dd, dd, dd, dd, dd, dd, dd, dd, dd, dd, dd, dd, dd, dd, dd, dd, dd, dd, dd, dd, dd, dd, dd, dd, dd, dd, dd], [.gh 0 (.ref 2 0), .gh 1 (.srf 4), .box [.d (.v (.int .u32 v_b1208)), .srf 3, .d (.v (.int .i64 v_b1209))], .row 5 1 (v_w1210.map (eI .u8)), .none, .box ((cS_api_Regs v_r1192).map FV.d), .box [.d (.v (.int .i64 v_i1193.fOp)), .d (.v (.int .i64 v_i1193.fA)), .d (.v (.int .i64 v_i1193.fB)), .d (.v (.int .i64 v_i1193.fC))], .box ((cS_api_Regs (S_api_Regs.mk (fun (_ : Fin 8) => 0) 0 0)).map FV.d), .box [.d (.v (.int .i64 0)), .d (.v (.int .u32 0))], .box [.d (.v (.int .i64 v_b1211.fKind)), .d (.v (.int .u32 v_b1211.fAddr))]]⟩
  | .x1 v_w1212 v_w1213 => ⟨[dd, dd, .ref 2 0, .d (.v (.int .u32 v_at1195)), .ref 4 0, .ref 5 0, dd, dd, .ref 6 0, .ref 7 0, dd, dd, .d (.v (.int .u32 v_w1212)), .ref 8 0, dd, dd, dd, dd, dd, dd, dd, dd, dd, dd, dd, dd, dd, dd, dd, dd, dd, dd, dd, dd, dd, dd, dd, dd, dd, dd, dd, dd, dd, dd, dd, dd, dd, dd, dd, dd, dd, dd, dd, dd, dd, dd, dd, dd, dd, dd, dd, dd, dd, dd, dd, dd, dd, dd, dd, dd, dd, dd, dd, dd, dd, dd, dd, dd, dd, dd, dd, dd, dd, dd, dd, dd, dd, dd, dd, dd, dd, dd, dd, dd, dd], [.gh 0 (.ref 2 0), .gh 1 (.srf 3), .box [.d (.v (.int .u32 v_m1194.fAt)), .srf 3, .d (.v (.int .i64 v_m1194.fMay))], .row 5 1 (v_w1213.map (eI .u8)), .box ((cS_api_Regs v_r1192).map FV.d), .box [.d (.v (.int .i64 v_i1193.fOp)), .d (.v (.int .i64 v_i1193.fA)), .d (.v (.int .i64 v_i1193.fB)), .d (.v (.int .i64 v_i1193.fC))], .box ((cS_api_Regs (S_api_Regs.mk (fun (_ : Fin 8) => 0) 0 0)).map FV.d), .box [.d (.v (.int .i64 0)), .d (.v (.int .u32 0))], .box [.d (.v (.int .i64 0)), .d (.v (.int .u32 0))]]⟩
def G_ringref5_move_h_C1_hd (v_at1195 : Int) (v_i1193 : S_api_Ins) (v_m1194 : S_ringref5_Room) (v_r1192 : S_api_Regs)  : PS := ⟨[dd, dd, .ref 2 0, .d (.v (.int .u32 v_at1195)), .ref 4 0, .ref 5 0, dd, dd, .ref 6 0, .ref 7 0, dd, dd, .d (.v (.int .u32 0)), .ref 8 0, dd, dd, dd, dd, dd, dd, dd, dd, dd, dd, dd, dd, dd, dd, dd, dd, dd, dd, dd, dd, dd, dd, dd, dd, dd, dd, dd, dd, dd, dd, dd, dd, dd, dd, dd, dd, dd, dd, dd, dd, dd, dd, dd, .d (.v (.bool (v_i1193.fOp != 17))), dd, dd, dd, dd, dd, dd, dd, dd, dd, dd, dd, dd, dd, dd, dd, dd, dd, dd, dd, dd, dd, dd, dd, dd, dd, dd, dd, dd, dd, dd, dd, dd, dd, dd, dd, dd, dd], [.gh 0 (.ref 2 0), .gh 1 (.srf 3), .box [.d (.v (.int .u32 v_m1194.fAt)), .srf 3, .d (.v (.int .i64 v_m1194.fMay))], .row 5 1 (v_m1194.fBytes.map (eI .u8)), .box ((cS_api_Regs v_r1192).map FV.d), .box [.d (.v (.int .i64 v_i1193.fOp)), .d (.v (.int .i64 v_i1193.fA)), .d (.v (.int .i64 v_i1193.fB)), .d (.v (.int .i64 v_i1193.fC))], .box ((cS_api_Regs (S_api_Regs.mk (fun (_ : Fin 8) => 0) 0 0)).map FV.d), .box [.d (.v (.int .i64 0)), .d (.v (.int .u32 0))], .box [.d (.v (.int .i64 0)), .d (.v (.int .u32 0))]]⟩
def G_ringref5_move_h_C1 (n : Nat) (v_at1195 : Int) (v_i1193 : S_api_Ins) (v_m1194 : S_ringref5_Room) (v_r1192 : S_api_Regs) : Option G_ringref5_move_h_C1_R :=
  if v_i1193.fOp = 17 then
   some (.x1 0 v_m1194.fBytes)
  else
   (G_ringref5_Room_word_h n v_m1194 v_at1195 1).bind fun (v_r1206 : (Int × S_api_Trap × S_ringref5_Room)) =>
   some (.x0 v_r1206.1 v_r1206.2.2.fAt v_r1206.2.2.fMay v_r1206.2.2.fBytes v_r1206.2.1)
theorem G_ringref5_move_h_C1_ok {Fi : Ex → PS → Prop} (hF : KC 95 Fi) (ks : List Fr) (n : Nat) (v_at1195 : Int) (v_i1193 : S_api_Ins) (v_m1194 : S_ringref5_Room) (v_r1192 : S_api_Regs)  (o : G_ringref5_move_h_C1_R) (h : G_ringref5_move_h_C1 n v_at1195 v_i1193 v_m1194 v_r1192 = some o) (q : RunE Try.prog 95 Fi ks (G_ringref5_move_h_C1_ex o) (G_ringref5_move_h_C1_st v_at1195 v_i1193 v_m1194 v_r1192 o)) : RunE Try.prog 95 Fi (.s (cR (cL (cR (cR (cR (cR (bodyOf Try.f18))))))) :: ks) .normal (G_ringref5_move_h_C1_hd v_at1195 v_i1193 v_m1194 v_r1192) := by
  unfold G_ringref5_move_h_C1 at h
  by_cases h1619 : v_i1193.fOp = 17
  · rw [if_pos h1619] at h
    cases h
    exact pkk_sound TTok mix hF 2 (hs := [.t false]) (ts := []) (s := [0, 1, 2, 3, 4, 5, 6, 7, 8]) (l := [2, 3, 4, 5, 8, 9, 12, 13]) (by kernel_rfl) (by kernel_rfl) (.cons (nf h1619) .nil) q
  · rw [if_neg h1619] at h
    obtain ⟨v_r1206, h1620, h⟩ := bind_some h
    cases h
    exact pkk_sound TTok mix hF 2 (hs := [.t true, .h [2, 3] [] [.box [.d (.v (.int .u32 v_r1206.2.2.fAt)), .srf 2, .d (.v (.int .i64 v_r1206.2.2.fMay))], .none, .row 5 1 (v_r1206.2.2.fBytes.map (eI .u8))] (.tup [.d (.v (.int .u32 v_r1206.1)), .d (.agg [.v (.int .i64 v_r1206.2.1.fKind), .v (.int .u32 v_r1206.2.1.fAddr)])]), .c]) (ts := []) (s := [0, 1, 2, 19, 3, 4, 5, 6, 7, 8]) (l := [2, 3, 4, 5, 8, 9, 12, 13]) (by kernel_rfl) (by kernel_rfl) (.cons (nt h1619) (.cons (G_ringref5_Room_word_h_ok n v_m1194 v_at1195 1 _ h1620) (.cons (show 0 + 2 ≤ 2 by decide) .nil))) q
/- ringhall/ringref5.move -/
def G_ringref5_move_h (n : Nat) (v_r1192 : S_api_Regs) (v_i1193 : S_api_Ins) (v_m1194 : S_ringref5_Room) (v_at1195 : Int) : Option (S_api_Regs × S_api_Trap × S_ringref5_Room) :=
  if v_i1193.fOp = 16 then
   (G_ringref5_Room_Load_h n v_m1194 v_at1195 1).bind fun (v_r1198 : (Int × Int × S_ringref5_Room)) =>
   if v_r1198.2.1 = 0 then
    if 0 ≤ v_i1193.fA ∧ v_i1193.fA < (8 : Int) then
     (getA v_r1192.fR v_i1193.fA).bind fun (v_y1199 : Int) =>
     some ((S_api_Regs.mk (setA v_r1192.fR v_i1193.fA (wi .u32 v_r1198.1)) v_r1192.fPc v_r1192.fRing), (S_api_Trap.mk 0 0), v_r1198.2.2)
    else none
   else
    some (v_r1192, (S_api_Trap.mk 2 v_at1195), v_r1198.2.2)
  else
   if v_i1193.fOp = 18 then
    if 0 ≤ v_i1193.fA ∧ v_i1193.fA < (8 : Int) then
     (getA v_r1192.fR v_i1193.fA).bind fun (v_y1202 : Int) =>
     (G_ringref5_Room_Store_h n v_m1194 v_at1195 (wi .u8 v_y1202)).bind fun (v_r1203 : (Int × S_ringref5_Room)) =>
     if v_r1203.1 = 0 then
      some (v_r1192, (S_api_Trap.mk 0 0), v_r1203.2)
     else
      some (v_r1192, (S_api_Trap.mk 2 v_at1195), v_r1203.2)
    else none
   else
    (G_ringref5_move_h_C1 n v_at1195 v_i1193 v_m1194 v_r1192).bind fun v_o1214 => match v_o1214 with
    | .x0 v_z1215 v_z1216 v_z1217 v_z1218 v_z1219 =>
      if v_i1193.fOp = 15 then
       if v_i1193.fOp = 17 then
        some (v_r1192, v_z1219, (S_ringref5_Room.mk v_z1216 v_z1218 v_z1217))
       else
        if v_z1219.fKind = 0 then
         if 0 ≤ v_i1193.fA ∧ v_i1193.fA < (8 : Int) then
          (getA v_r1192.fR v_i1193.fA).bind fun (v_y1277 : Int) =>
          some ((S_api_Regs.mk (setA v_r1192.fR v_i1193.fA v_z1215) v_r1192.fPc v_r1192.fRing), v_z1219, (S_ringref5_Room.mk v_z1216 v_z1218 v_z1217))
         else none
        else
         some (v_r1192, v_z1219, (S_ringref5_Room.mk v_z1216 v_z1218 v_z1217))
      else
       if v_z1219.fKind = 0 then
        if 0 ≤ v_i1193.fA ∧ v_i1193.fA < (8 : Int) then
         (getA v_r1192.fR v_i1193.fA).bind fun (v_y1271 : Int) =>
         (G_ringref5_Room_lay_h n (S_ringref5_Room.mk v_z1216 v_z1218 v_z1217) v_at1195 v_y1271).bind fun (v_r1272 : (S_api_Trap × S_ringref5_Room)) =>
         if v_i1193.fOp = 17 then
          some (v_r1192, v_r1272.1, v_r1272.2)
         else
          if v_r1272.1.fKind = 0 then
           if 0 ≤ v_i1193.fA ∧ v_i1193.fA < (8 : Int) then
            (getA v_r1192.fR v_i1193.fA).bind fun (v_y1274 : Int) =>
            some ((S_api_Regs.mk (setA v_r1192.fR v_i1193.fA v_z1215) v_r1192.fPc v_r1192.fRing), v_r1272.1, v_r1272.2)
           else none
          else
           some (v_r1192, v_r1272.1, v_r1272.2)
        else none
       else
        if v_i1193.fOp = 17 then
         some (v_r1192, v_z1219, (S_ringref5_Room.mk v_z1216 v_z1218 v_z1217))
        else
         some (v_r1192, v_z1219, (S_ringref5_Room.mk v_z1216 v_z1218 v_z1217))
    | .x1 v_z1278 v_z1279 =>
      if v_i1193.fOp = 15 then
       if v_i1193.fOp = 17 then
        some (v_r1192, (S_api_Trap.mk 0 0), (S_ringref5_Room.mk v_m1194.fAt v_z1279 v_m1194.fMay))
       else
        if 0 ≤ v_i1193.fA ∧ v_i1193.fA < (8 : Int) then
         (getA v_r1192.fR v_i1193.fA).bind fun (v_y1287 : Int) =>
         some ((S_api_Regs.mk (setA v_r1192.fR v_i1193.fA v_z1278) v_r1192.fPc v_r1192.fRing), (S_api_Trap.mk 0 0), (S_ringref5_Room.mk v_m1194.fAt v_z1279 v_m1194.fMay))
        else none
      else
       if 0 ≤ v_i1193.fA ∧ v_i1193.fA < (8 : Int) then
        (getA v_r1192.fR v_i1193.fA).bind fun (v_y1282 : Int) =>
        (G_ringref5_Room_lay_h n (S_ringref5_Room.mk v_m1194.fAt v_z1279 v_m1194.fMay) v_at1195 v_y1282).bind fun (v_r1283 : (S_api_Trap × S_ringref5_Room)) =>
        if v_i1193.fOp = 17 then
         some (v_r1192, v_r1283.1, v_r1283.2)
        else
         if v_r1283.1.fKind = 0 then
          if 0 ≤ v_i1193.fA ∧ v_i1193.fA < (8 : Int) then
           (getA v_r1192.fR v_i1193.fA).bind fun (v_y1285 : Int) =>
           some ((S_api_Regs.mk (setA v_r1192.fR v_i1193.fA v_z1278) v_r1192.fPc v_r1192.fRing), v_r1283.1, v_r1283.2)
          else none
         else
          some (v_r1192, v_r1283.1, v_r1283.2)
       else none

end Go.Proofs.Ytdkfkpoenbenmaa.pv
