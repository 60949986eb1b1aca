/- What the functions compute, as functions over plain data, with their contracts: written by gen.py. -/
import Derived.Test.YthcdcpcffdongaaProg
import Derived.Test.YthcdcpcffdongaaQr
import Derived.Test.YthcdcpcffdongaaSh
set_option maxRecDepth 100000
set_option linter.all false
namespace Go.Proofs.Ythcdcpcffdongaa.pv
open Go.RowKit
def TT : List TI := [
⟨1, 0, .oth, []⟩,
⟨1, 8, .oth, [.nf]⟩,
⟨1, 8, .int .i64, [.i .i64]⟩,
⟨1, 8, .int .i64, [.i .i64]⟩,
⟨1, 1, .bool, [.b]⟩,
⟨1, 1, .int .u8, [.i .u8]⟩,
⟨1, 1, .int .u8, [.i .u8]⟩,
⟨4, 24, .st [(0, 2), (1, 3), (2, 4), (3, 6)], [.i .i64, .i .i64, .b, .i .u8]⟩,
⟨4, 24, .st [(0, 2), (1, 3), (2, 4), (3, 6)], [.i .i64, .i .i64, .b, .i .u8]⟩,
⟨1, 16, .str, [.s]⟩,
⟨1, 16, .str, [.s]⟩,
⟨1, 16, .str, [.s]⟩,
⟨1, 8, .int .u64, [.i .u64]⟩,
⟨2, 24, .st [(0, 9), (1, 12)], [.s, .i .u64]⟩,
⟨2, 24, .st [(0, 9), (1, 12)], [.s, .i .u64]⟩,
⟨1, 8, .ptr 69, [.np]⟩,
⟨1, 8, .ptr 72, [.np]⟩,
⟨1, 8, .ptr 82, [.np]⟩,
⟨1, 8, .st [(0, 17)], [.np]⟩,
⟨1, 8, .st [(0, 17)], [.np]⟩,
⟨1, 16, .oth, [.ni]⟩,
⟨1, 4, .int .i32, [.i .i32]⟩,
⟨1, 24, .sl 34, [.sl]⟩,
⟨2, 32, .st [(0, 22), (1, 3)], [.sl, .i .i64]⟩,
⟨2, 32, .st [(0, 22), (1, 3)], [.sl, .i .i64]⟩,
⟨16, 16, .arr 16 5, List.replicate 16 (.i .u8)⟩,
⟨1, 8, .int .i64, [.i .i64]⟩,
⟨1, 0, .oth, []⟩,
⟨1, 8, .oth, [.nf]⟩,
⟨1, 0, .oth, []⟩,
⟨1, 8, .oth, [.nf]⟩,
⟨1, 8, .oth, [.nf]⟩,
⟨1, 8, .oth, [.nf]⟩,
⟨20, 48, .st [(0, 3), (1, 3), (2, 3), (3, 3), (4, 25)], (List.replicate 4 (.i .i64) ++ List.replicate 16 (.i .u8))⟩,
⟨20, 48, .st [(0, 3), (1, 3), (2, 3), (3, 3), (4, 25)], (List.replicate 4 (.i .i64) ++ List.replicate 16 (.i .u8))⟩,
⟨1, 0, .oth, []⟩,
⟨1, 8, .oth, [.nf]⟩,
⟨1, 8, .oth, [.nf]⟩,
⟨1, 8, .oth, [.nf]⟩,
⟨1, 8, .oth, [.nf]⟩,
⟨1, 8, .oth, [.nf]⟩,
⟨1, 8, .oth, [.nf]⟩,
⟨1, 8, .oth, [.nf]⟩,
⟨1, 8, .oth, [.nf]⟩,
⟨1, 8, .oth, [.nf]⟩,
⟨1, 8, .oth, [.nf]⟩,
⟨1, 0, .oth, []⟩,
⟨1, 8, .oth, [.nf]⟩,
⟨1, 8, .oth, [.nf]⟩,
⟨1, 8, .oth, [.nf]⟩,
⟨1, 0, .oth, []⟩,
⟨1, 8, .oth, [.nf]⟩,
⟨1, 8, .oth, [.nf]⟩,
⟨1, 8, .oth, [.nm]⟩,
⟨1, 8, .oth, [.nf]⟩,
⟨1, 24, .sl 22, [.sl]⟩,
⟨1, 8, .oth, [.nf]⟩,
⟨1, 0, .oth, []⟩,
⟨1, 8, .oth, [.nf]⟩,
⟨1, 8, .oth, [.nf]⟩,
⟨1, 8, .oth, [.nf]⟩,
⟨1, 8, .oth, [.nf]⟩,
⟨1, 8, .oth, [.nf]⟩,
⟨1, 8, .int .u64, [.i .u64]⟩,
⟨1, 24, .sl 3, [.sl]⟩,
⟨1, 8, .oth, [.nf]⟩,
⟨1, 8, .oth, [.nf]⟩,
⟨1, 8, .oth, [.nf]⟩,
⟨4, 40, .st [(0, 17), (1, 17), (2, 17), (3, 9)], [.np, .np, .np, .s]⟩,
⟨4, 40, .st [(0, 17), (1, 17), (2, 17), (3, 9)], [.np, .np, .np, .s]⟩,
⟨0, 0, .arr 0 16, []⟩,
⟨0, 0, .st [(0, 70)], []⟩,
⟨0, 0, .st [(0, 70)], []⟩,
⟨1, 8, .oth, [.nf]⟩,
⟨1, 4, .int .u32, [.i .u32]⟩,
⟨1, 1, .int .u8, [.i .u8]⟩,
⟨1, 1, .int .u8, [.i .u8]⟩,
⟨1, 8, .oth, [.nf]⟩,
⟨1, 8, .ptr 5, [.np]⟩,
⟨1, 4, .int .i32, [.i .i32]⟩,
⟨1, 4, .int .i32, [.i .i32]⟩,
⟨11, 48, .st [(0, 12), (1, 12), (2, 74), (3, 75), (4, 5), (5, 5), (6, 76), (7, 77), (8, 78), (9, 79), (10, 80)], [.i .u64, .i .u64, .i .u32, .i .u8, .i .u8, .i .u8, .i .u8, .nf, .np, .i .i32, .i .i32]⟩,
⟨11, 48, .st [(0, 12), (1, 12), (2, 74), (3, 75), (4, 5), (5, 5), (6, 76), (7, 77), (8, 78), (9, 79), (10, 80)], [.i .u64, .i .u64, .i .u32, .i .u8, .i .u8, .i .u8, .i .u8, .nf, .np, .i .i32, .i .i32]⟩,
⟨1, 8, .oth, [.np]⟩]
theorem TTok : TOk Try.prog TT := by unfold TOk; kernel_rfl
theorem mix : Try.prog.follows .mixedOrders = true := by kernel_rfl
structure S_pages_Page where
  fFile : Int
  fN : Int
  fMaps : Int
  fDirty : Int
  fData : (Fin 16 → Int)
def cS_pages_Page (x : S_pages_Page) : List PV := [.v (.int .i64 x.fFile), .v (.int .i64 x.fN), .v (.int .i64 x.fMaps), .v (.int .i64 x.fDirty), .v (.int .u8 (x.fData 0)), .v (.int .u8 (x.fData 1)), .v (.int .u8 (x.fData 2)), .v (.int .u8 (x.fData 3)), .v (.int .u8 (x.fData 4)), .v (.int .u8 (x.fData 5)), .v (.int .u8 (x.fData 6)), .v (.int .u8 (x.fData 7)), .v (.int .u8 (x.fData 8)), .v (.int .u8 (x.fData 9)), .v (.int .u8 (x.fData 10)), .v (.int .u8 (x.fData 11)), .v (.int .u8 (x.fData 12)), .v (.int .u8 (x.fData 13)), .v (.int .u8 (x.fData 14)), .v (.int .u8 (x.fData 15))]
def eS_pages_Page (x : S_pages_Page) : PV := .agg (cS_pages_Page x)
structure S_pages_Cache where
  fPages : (List S_pages_Page)
  fClock : Int
def eS_pages_Cache (x : S_pages_Cache) : PV := .agg [.sl (x.fPages.map eS_pages_Page), .v (.int .i64 x.fClock)]
def cA_t25 (x : (Fin 16 → Int)) : List PV := (List.ofFn x).flatMap fun a => [.v (.int .u8 a)]
def eqA_16_uint8 (x y : (Fin 16 → Int)) : Bool := (((x 0) == (y 0)) && (((x 1) == (y 1)) && (((x 2) == (y 2)) && (((x 3) == (y 3)) && (((x 4) == (y 4)) && (((x 5) == (y 5)) && (((x 6) == (y 6)) && (((x 7) == (y 7)) && (((x 8) == (y 8)) && (((x 9) == (y 9)) && (((x 10) == (y 10)) && (((x 11) == (y 11)) && (((x 12) == (y 12)) && (((x 13) == (y 13)) && (((x 14) == (y 14)) && (((x 15) == (y 15)) && true))))))))))))))))
theorem eqA_16_uint8_ok (x y : (Fin 16 → Int)) : EqA Try.prog 25 [((.int .u8 (x 0))), ((.int .u8 (x 1))), ((.int .u8 (x 2))), ((.int .u8 (x 3))), ((.int .u8 (x 4))), ((.int .u8 (x 5))), ((.int .u8 (x 6))), ((.int .u8 (x 7))), ((.int .u8 (x 8))), ((.int .u8 (x 9))), ((.int .u8 (x 10))), ((.int .u8 (x 11))), ((.int .u8 (x 12))), ((.int .u8 (x 13))), ((.int .u8 (x 14))), ((.int .u8 (x 15)))] [((.int .u8 (y 0))), ((.int .u8 (y 1))), ((.int .u8 (y 2))), ((.int .u8 (y 3))), ((.int .u8 (y 4))), ((.int .u8 (y 5))), ((.int .u8 (y 6))), ((.int .u8 (y 7))), ((.int .u8 (y 8))), ((.int .u8 (y 9))), ((.int .u8 (y 10))), ((.int .u8 (y 11))), ((.int .u8 (y 12))), ((.int .u8 (y 13))), ((.int .u8 (y 14))), ((.int .u8 (y 15)))] (eqA_16_uint8 x y) := eqA_of TTok (by kernel_rfl) (by kernel_rfl) (by kernel_rfl)
def eqS_pages_Page (x y : S_pages_Page) : Bool := ((x.fFile == y.fFile) && ((x.fN == y.fN) && ((x.fMaps == y.fMaps) && ((x.fDirty == y.fDirty) && ((((x.fData 0) == (y.fData 0)) && (((x.fData 1) == (y.fData 1)) && (((x.fData 2) == (y.fData 2)) && (((x.fData 3) == (y.fData 3)) && (((x.fData 4) == (y.fData 4)) && (((x.fData 5) == (y.fData 5)) && (((x.fData 6) == (y.fData 6)) && (((x.fData 7) == (y.fData 7)) && (((x.fData 8) == (y.fData 8)) && (((x.fData 9) == (y.fData 9)) && (((x.fData 10) == (y.fData 10)) && (((x.fData 11) == (y.fData 11)) && (((x.fData 12) == (y.fData 12)) && (((x.fData 13) == (y.fData 13)) && (((x.fData 14) == (y.fData 14)) && (((x.fData 15) == (y.fData 15)) && true)))))))))))))))) && true)))))
theorem eqS_pages_Page_ok (x y : S_pages_Page) : EqA Try.prog 34 [((.int .i64 x.fFile)), ((.int .i64 x.fN)), ((.int .i64 x.fMaps)), ((.int .i64 x.fDirty)), ((.int .u8 (x.fData 0))), ((.int .u8 (x.fData 1))), ((.int .u8 (x.fData 2))), ((.int .u8 (x.fData 3))), ((.int .u8 (x.fData 4))), ((.int .u8 (x.fData 5))), ((.int .u8 (x.fData 6))), ((.int .u8 (x.fData 7))), ((.int .u8 (x.fData 8))), ((.int .u8 (x.fData 9))), ((.int .u8 (x.fData 10))), ((.int .u8 (x.fData 11))), ((.int .u8 (x.fData 12))), ((.int .u8 (x.fData 13))), ((.int .u8 (x.fData 14))), ((.int .u8 (x.fData 15)))] [((.int .i64 y.fFile)), ((.int .i64 y.fN)), ((.int .i64 y.fMaps)), ((.int .i64 y.fDirty)), ((.int .u8 (y.fData 0))), ((.int .u8 (y.fData 1))), ((.int .u8 (y.fData 2))), ((.int .u8 (y.fData 3))), ((.int .u8 (y.fData 4))), ((.int .u8 (y.fData 5))), ((.int .u8 (y.fData 6))), ((.int .u8 (y.fData 7))), ((.int .u8 (y.fData 8))), ((.int .u8 (y.fData 9))), ((.int .u8 (y.fData 10))), ((.int .u8 (y.fData 11))), ((.int .u8 (y.fData 12))), ((.int .u8 (y.fData 13))), ((.int .u8 (y.fData 14))), ((.int .u8 (y.fData 15)))] (eqS_pages_Page x y) := eqA_of TTok (by kernel_rfl) (by kernel_rfl) (by kernel_rfl)
inductive G_pages_right_C1_R where
  | x0 (v_x63 : Bool)
def G_pages_right_C1_ex : G_pages_right_C1_R → Ex
  | .x0 _ => .normal
def G_pages_right_C1_st (v_file61 : Int) (v_n62 : Int) : G_pages_right_C1_R → PS
  | .x0 v_x63 => ⟨[dd, dd, dd, dd, .d (.v (.bool v_x63)), dd, dd, dd, dd, dd, dd, dd, dd, dd, dd, dd, dd, dd, dd], []⟩
def G_pages_right_C1_hd (v_file61 : Int) (v_n62 : Int)  : PS := ⟨[.d (.v (.int .i64 v_file61)), .d (.v (.int .i64 v_n62)), dd, dd, dd, dd, dd, dd, dd, dd, dd, dd, dd, dd, dd, dd, dd, dd, dd], []⟩
def G_pages_right_C1 (n : Nat) (v_file61 : Int) (v_n62 : Int) : Option G_pages_right_C1_R :=
  if v_file61 ≥ 1 then
   if v_file61 ≤ 32 then
    if v_n62 ≥ 0 then
     some (.x0 (decide (v_n62 < 32)))
    else
     some (.x0 false)
   else
    some (.x0 false)
  else
   some (.x0 false)
theorem G_pages_right_C1_ok {Fi : Ex → PS → Prop} (hF : KC 19 Fi) (ks : List Fr) (n : Nat) (v_file61 : Int) (v_n62 : Int)  (o : G_pages_right_C1_R) (h : G_pages_right_C1 n v_file61 v_n62 = some o) (q : RunE Try.prog 19 Fi ks (G_pages_right_C1_ex o) (G_pages_right_C1_st v_file61 v_n62 o)) : RunE Try.prog 19 Fi (.s (cL (cR (bodyOf Try.f24))) :: ks) .normal (G_pages_right_C1_hd v_file61 v_n62) := by
  unfold G_pages_right_C1 at h
  by_cases h9 : v_file61 ≥ 1
  · rw [if_pos h9] at h
    by_cases h10 : v_file61 ≤ 32
    · rw [if_pos h10] at h
      by_cases h11 : v_n62 ≥ 0
      · rw [if_pos h11] at h
        cases h
        exact pkk_sound TTok mix hF 1 (hs := [.t true, .c, .t true, .c, .t true, .c]) (ts := []) (s := []) (l := [4]) (by kernel_rfl) (by kernel_rfl) (.cons (dt h9) (.cons (dt h10) (.cons (dt h11) .nil))) q
      · rw [if_neg h11] at h
        cases h
        exact pkk_sound TTok mix hF 1 (hs := [.t true, .c, .t true, .c, .t false, .c]) (ts := []) (s := []) (l := [4]) (by kernel_rfl) (by kernel_rfl) (.cons (dt h9) (.cons (dt h10) (.cons (df h11) .nil))) q
    · rw [if_neg h10] at h
      cases h
      exact pkk_sound TTok mix hF 1 (hs := [.t true, .c, .t false, .c, .c, .c]) (ts := []) (s := []) (l := [4]) (by kernel_rfl) (by kernel_rfl) (.cons (dt h9) (.cons (df h10) .nil)) q
  · rw [if_neg h9] at h
    cases h
    exact pkk_sound TTok mix hF 1 (hs := [.t false, .c, .c, .c, .c, .c]) (ts := []) (s := []) (l := [4]) (by kernel_rfl) (by kernel_rfl) (.cons (df h9) .nil) q
/- ringhall/pages.right -/
def G_pages_right (n : Nat) (v_file61 : Int) (v_n62 : Int) : Option (Bool) :=
  (G_pages_right_C1 n v_file61 v_n62).bind fun v_o67 => match v_o67 with
  | .x0 v_z68 =>
    some v_z68
theorem G_pages_right_ok (n : Nat) (v_file61 : Int) (v_n62 : Int) (r : Bool) (h : G_pages_right n v_file61 v_n62 = some r) : Ret Try.prog 24 [(eI .i64) v_file61, (eI .i64) v_n62] (eB r) := by
  refine ret_run (n := 19) (fn := Try.f24) (c := bodyOf Try.f24) (by kernel_rfl) (by kernel_rfl) (by kernel_rfl) (by kernel_rfl) ?_
  have hF : KC 19 (FinR Try.prog Try.f24 (eB r)) := FinR.kc' (by kernel_rfl)
  unfold G_pages_right at h
  obtain ⟨v_o67, h12, h⟩ := bind_some h
  refine pkk_sound TTok mix hF 3 (hs := []) (ts := []) (s := []) (l := [0, 1]) (by kernel_rfl) (by kernel_rfl) .nil (G_pages_right_C1_ok hF (.s (cR (cR (bodyOf Try.f24))) :: []) n v_file61 v_n62 _ h12 ?_)
  cases v_o67 with
  | x0 v_z68 =>
    try dsimp only at h
    obtain rfl := Option.some.inj h
    exact pend_sound TTok mix 1 (hs := []) (by kernel_rfl) (by kernel_rfl) (by kernel_rfl) .nil
/- cmp.isNaN[int] -/
def G_cmp_isNaN_int (n : Nat) (v_x93 : Int) : Option (Bool) :=
  some (v_x93 != v_x93)
theorem G_cmp_isNaN_int_ok (n : Nat) (v_x93 : Int) (r : Bool) (h : G_cmp_isNaN_int n v_x93 = some r) : Ret Try.prog 33 [(eI .i64) v_x93] (eB r) := by
  refine ret_run (n := 6) (fn := Try.f33) (c := bodyOf Try.f33) (by kernel_rfl) (by kernel_rfl) (by kernel_rfl) (by kernel_rfl) ?_
  have hF : KC 6 (FinR Try.prog Try.f33 (eB r)) := FinR.kc' (by kernel_rfl)
  unfold G_cmp_isNaN_int at h
  obtain rfl := Option.some.inj h
  exact pend_sound TTok mix 5 (hs := []) (by kernel_rfl) (by kernel_rfl) (by kernel_rfl) .nil
/- cmp.Compare[int] -/
def G_cmp_Compare_int (n : Nat) (v_x91 : Int) (v_y92 : Int) : Option (Int) :=
  (G_cmp_isNaN_int n v_x91).bind fun (v_r94 : (Bool)) =>
  (G_cmp_isNaN_int n v_y92).bind fun (v_r97 : (Bool)) =>
  if v_r94 = true then
   if v_r97 = true then
    some 0
   else
    some (-1)
  else
   if v_r97 = true then
    some 1
   else
    if v_x91 < v_y92 then
     some (-1)
    else
     if v_x91 > v_y92 then
      some 1
     else
      some 0
theorem G_cmp_Compare_int_ok (n : Nat) (v_x91 : Int) (v_y92 : Int) (r : Int) (h : G_cmp_Compare_int n v_x91 v_y92 = some r) : Ret Try.prog 31 [(eI .i64) v_x91, (eI .i64) v_y92] ((eI .i64) r) := by
  refine ret_run (n := 20) (fn := Try.f31) (c := bodyOf Try.f31) (by kernel_rfl) (by kernel_rfl) (by kernel_rfl) (by kernel_rfl) ?_
  have hF : KC 20 (FinR Try.prog Try.f31 ((eI .i64) r)) := FinR.kc' (by kernel_rfl)
  unfold G_cmp_Compare_int at h
  obtain ⟨v_r94, h27, h⟩ := bind_some h
  obtain ⟨v_r97, h28, h⟩ := bind_some h
  by_cases h31 : v_r94 = true
  · rw [if_pos h31] at h
    by_cases h32 : v_r97 = true
    · rw [if_pos h32] at h
      obtain rfl := Option.some.inj h
      exact pend_sound TTok mix 19 (hs := [.r (eB v_r94), .r (eB v_r97), .t true, .t true]) (by kernel_rfl) (by kernel_rfl) (by kernel_rfl) (.cons (G_cmp_isNaN_int_ok n v_x91 _ h27) (.cons (G_cmp_isNaN_int_ok n v_y92 _ h28) (.cons h31 (.cons h32 .nil))))
    · rw [if_neg h32] at h
      obtain rfl := Option.some.inj h
      exact pend_sound TTok mix 19 (hs := [.r (eB v_r94), .r (eB v_r97), .t true, .t false]) (by kernel_rfl) (by kernel_rfl) (by kernel_rfl) (.cons (G_cmp_isNaN_int_ok n v_x91 _ h27) (.cons (G_cmp_isNaN_int_ok n v_y92 _ h28) (.cons h31 (.cons (vf h32) .nil))))
  · rw [if_neg h31] at h
    by_cases h33 : v_r97 = true
    · rw [if_pos h33] at h
      obtain rfl := Option.some.inj h
      exact pend_sound TTok mix 19 (hs := [.r (eB v_r94), .r (eB v_r97), .t false, .t true]) (by kernel_rfl) (by kernel_rfl) (by kernel_rfl) (.cons (G_cmp_isNaN_int_ok n v_x91 _ h27) (.cons (G_cmp_isNaN_int_ok n v_y92 _ h28) (.cons (vf h31) (.cons h33 .nil))))
    · rw [if_neg h33] at h
      by_cases h34 : v_x91 < v_y92
      · rw [if_pos h34] at h
        obtain rfl := Option.some.inj h
        exact pend_sound TTok mix 24 (hs := [.r (eB v_r94), .r (eB v_r97), .t false, .t false, .t true]) (by kernel_rfl) (by kernel_rfl) (by kernel_rfl) (.cons (G_cmp_isNaN_int_ok n v_x91 _ h27) (.cons (G_cmp_isNaN_int_ok n v_y92 _ h28) (.cons (vf h31) (.cons (vf h33) (.cons (dt h34) .nil)))))
      · rw [if_neg h34] at h
        by_cases h35 : v_x91 > v_y92
        · rw [if_pos h35] at h
          obtain rfl := Option.some.inj h
          exact pend_sound TTok mix 29 (hs := [.r (eB v_r94), .r (eB v_r97), .t false, .t false, .t false, .t true]) (by kernel_rfl) (by kernel_rfl) (by kernel_rfl) (.cons (G_cmp_isNaN_int_ok n v_x91 _ h27) (.cons (G_cmp_isNaN_int_ok n v_y92 _ h28) (.cons (vf h31) (.cons (vf h33) (.cons (df h34) (.cons (dt h35) .nil))))))
        · rw [if_neg h35] at h
          obtain rfl := Option.some.inj h
          exact pend_sound TTok mix 29 (hs := [.r (eB v_r94), .r (eB v_r97), .t false, .t false, .t false, .t false]) (by kernel_rfl) (by kernel_rfl) (by kernel_rfl) (.cons (G_cmp_isNaN_int_ok n v_x91 _ h27) (.cons (G_cmp_isNaN_int_ok n v_y92 _ h28) (.cons (vf h31) (.cons (vf h33) (.cons (df h34) (.cons (df h35) .nil))))))
inductive G_cmp_Or_int_L1_R where
  | x0 (v_x130 : Int)
  | x1 
def G_cmp_Or_int_L1_ex : G_cmp_Or_int_L1_R → Ex
  | .x0 _ => .ret
  | .x1  => .exit 0
def G_cmp_Or_int_L1_st (v_vals119 : (List Int)) : G_cmp_Or_int_L1_R → PS
  | .x0 v_x130 => ⟨[dd, dd, .d (.v (.int .i64 v_x130)), dd, dd, dd, dd, dd, dd, dd, dd, dd, dd, dd, dd, dd, dd, dd], []⟩
  | .x1  => ⟨[dd, dd, dd, .d (.v (.int .i64 0)), dd, dd, dd, dd, dd, dd, dd, dd, dd, dd, dd, dd, dd, dd], []⟩
def G_cmp_Or_int_L1_hd (v_vals119 : (List Int)) (v_x127 : Int) : PS := ⟨[dd, dd, dd, .d (.v (.int .i64 0)), dd, dd, .d (.sl (v_vals119.map (eI .i64))), .d (.v (.int .i64 (v_vals119.length : Int))), .d (.v (.int .i64 v_x127)), dd, dd, dd, dd, dd, dd, dd, dd, dd], []⟩
def G_cmp_Or_int_L1 (n : Nat) (v_vals119 : (List Int)) : Nat → Int → Option G_cmp_Or_int_L1_R
  | 0, _ => none
  | k + 1, v_x127 =>
    if v_x127 < (v_vals119.length : Int) then
     (getI v_vals119 v_x127).bind fun (v_y129 : Int) =>
     if v_y129 = 0 then
      G_cmp_Or_int_L1 n v_vals119 k (wi .i64 (v_x127 + 1))
     else
      some (.x0 v_y129)
    else
     some (.x1 )
theorem G_cmp_Or_int_L1_ok {Fi : Ex → PS → Prop} (hF : KC 18 Fi) (ks : List Fr) (n : Nat) (v_vals119 : (List Int))  : ∀ (k : Nat) (v_x127 : Int) (o : G_cmp_Or_int_L1_R), G_cmp_Or_int_L1 n v_vals119 k v_x127 = some o → RunE Try.prog 18 Fi ks (G_cmp_Or_int_L1_ex o) (G_cmp_Or_int_L1_st v_vals119 o) → RunE Try.prog 18 Fi (.l k (cP (cB (cR (cL (cR (cR (bodyOf Try.f30))))))) :: ks) .normal (G_cmp_Or_int_L1_hd v_vals119 v_x127)
  | 0, v_x127, o, h, q => by rw [G_cmp_Or_int_L1] at h; cases h
  | k + 1, v_x127, o, h, q => by
    rw [G_cmp_Or_int_L1] at h
    by_cases h38 : v_x127 < (v_vals119.length : Int)
    · rw [if_pos h38] at h
      obtain ⟨v_y129, h41, h⟩ := bind_some h
      by_cases h42 : v_y129 = 0
      · rw [if_pos h42] at h
        exact pkk_sound TTok mix hF 16 (hs := [.t true, .y ((eI .i64) v_y129), .c, .t false]) (ts := []) (s := []) (l := [3, 6, 7, 8]) (by kernel_rfl) (by kernel_rfl) (.cons (dt h38) (.cons (getI_ob (f := (eI .i64)) h41) (.cons (nf h42) .nil))) (G_cmp_Or_int_L1_ok hF ks n v_vals119 k (wi .i64 (v_x127 + 1)) _ h q)
      · rw [if_neg h42] at h
        cases h
        exact pkk_sound TTok mix hF 19 (hs := [.t true, .y ((eI .i64) v_y129), .c, .t true]) (ts := []) (s := []) (l := [2]) (by kernel_rfl) (by kernel_rfl) (.cons (dt h38) (.cons (getI_ob (f := (eI .i64)) h41) (.cons (nt h42) .nil))) q
    · rw [if_neg h38] at h
      cases h
      exact pkk_sound TTok mix hF 8 (hs := [.t false]) (ts := []) (s := []) (l := [3]) (by kernel_rfl) (by kernel_rfl) (.cons (df h38) .nil) q
/- cmp.Or[int] -/
def G_cmp_Or_int (n : Nat) (v_vals119 : (List Int)) : Option (Int) :=
  (G_cmp_Or_int_L1 n v_vals119 n 0).bind fun v_o131 => match v_o131 with
  | .x0 v_z132 =>
    some v_z132
  | .x1  =>
    some 0
theorem G_cmp_Or_int_ok (n : Nat) (v_vals119 : (List Int)) (r : Int) (h : G_cmp_Or_int n v_vals119 = some r) : Ret Try.prog 30 [(eL (eI .i64)) v_vals119] ((eI .i64) r) := by
  refine ret_run (n := 18) (fn := Try.f30) (c := bodyOf Try.f30) (by kernel_rfl) (by kernel_rfl) (by kernel_rfl) (by kernel_rfl) ?_
  have hF : KC 18 (FinR Try.prog Try.f30 ((eI .i64) r)) := FinR.kc' (by kernel_rfl)
  unfold G_cmp_Or_int at h
  obtain ⟨v_o131, h43, h⟩ := bind_some h
  refine pkk_sound TTok mix hF 9 (hs := [.u (.d (.v (.int .i64 (v_vals119.length : Int)))), .n n]) (ts := []) (s := []) (l := [3, 6, 7, 8]) (by kernel_rfl) (by kernel_rfl) (.cons (len_ob (f := (eI .i64)) (l := v_vals119)) .nil) (G_cmp_Or_int_L1_ok hF (.b 0 :: .s (cR (cR (cR (bodyOf Try.f30)))) :: []) n v_vals119 n 0 _ h43 ?_)
  cases v_o131 with
  | x0 v_z132 =>
    try dsimp only at h
    obtain rfl := Option.some.inj h
    exact pend_sound TTok mix 2 (hs := []) (by kernel_rfl) (by kernel_rfl) (by kernel_rfl) .nil
  | x1  =>
    try dsimp only at h
    obtain rfl := Option.some.inj h
    exact pend_sound TTok mix 4 (hs := []) (by kernel_rfl) (by kernel_rfl) (by kernel_rfl) .nil
/- ringhall/pages.order -/
def G_pages_order (n : Nat) (v_a85 : S_pages_Page) (v_b86 : S_pages_Page) : Option (Int) :=
  (G_cmp_Compare_int n v_a85.fFile v_b86.fFile).bind fun (v_r117 : (Int)) =>
  (G_cmp_Compare_int n v_a85.fN v_b86.fN).bind fun (v_r118 : (Int)) =>
  (G_cmp_Or_int n ([v_r117, v_r118])).bind fun (v_r133 : (Int)) =>
  some v_r133
theorem G_pages_order_ok (n : Nat) (v_a85 : S_pages_Page) (v_b86 : S_pages_Page) (r : Int) (h : G_pages_order n v_a85 v_b86 = some r) : Ret Try.prog 25 [eS_pages_Page v_a85, eS_pages_Page v_b86] ((eI .i64) r) := by
  refine ret_run (n := 17) (fn := Try.f25) (c := bodyOf Try.f25) (by kernel_rfl) (by kernel_rfl) (by kernel_rfl) (by kernel_rfl) ?_
  have hF : KC 17 (FinR Try.prog Try.f25 ((eI .i64) r)) := FinR.kc' (by kernel_rfl)
  unfold G_pages_order at h
  obtain ⟨v_r117, h36, h⟩ := bind_some h
  obtain ⟨v_r118, h37, h⟩ := bind_some h
  obtain ⟨v_r133, h44, h⟩ := bind_some h
  obtain rfl := Option.some.inj h
  exact pend_sound TTok mix 5 (hs := [.c, .c, .r ((eI .i64) v_r117), .c, .c, .r ((eI .i64) v_r118), .bd, .r ((eI .i64) v_r133)]) (by kernel_rfl) (by kernel_rfl) (by kernel_rfl) (.cons (G_cmp_Compare_int_ok n v_a85.fFile v_b86.fFile _ h36) (.cons (G_cmp_Compare_int_ok n v_a85.fN v_b86.fN _ h37) (.cons (G_cmp_Or_int_ok n ([v_r117, v_r118]) _ h44) .nil)))
def G_pages_Check_J1 (n : Nat)   : Option (Int) :=
  some 1
theorem G_pages_Check_J1_ok (n : Nat)    (r : Int) (h : G_pages_Check_J1 n   = some r) : RunE Try.prog 85 (FinR Try.prog Try.f11 ((eI .i64) r)) (.s (cT (cR (cL (cR (cR (bodyOf Try.f11)))))) :: .s (cR (cR (cR (bodyOf Try.f11)))) :: []) .normal ⟨[dd, dd, dd, dd, dd, dd, dd, dd, dd, dd, dd, dd, dd, dd, dd, dd, dd, dd, dd, dd, dd, dd, dd, dd, dd, dd, dd, dd, dd, dd, dd, dd, dd, dd, dd, dd, dd, dd, dd, dd, dd, dd, dd, dd, dd, dd, dd, dd, dd, dd, dd, dd, dd, dd, dd, dd, dd, dd, dd, dd, dd, dd, dd, dd, dd, dd, dd, dd, dd, dd, dd, dd, dd, dd, dd, dd, dd, dd, dd, dd, dd, dd, dd, dd, dd], []⟩ := by
  have hF : KC 85 (FinR Try.prog Try.f11 ((eI .i64) r)) := FinR.kc' (by kernel_rfl)
  unfold G_pages_Check_J1 at h
  obtain rfl := Option.some.inj h
  exact pend_sound TTok mix 4 (hs := []) (by kernel_rfl) (by kernel_rfl) (by kernel_rfl) .nil
inductive G_pages_Check_C1_R where
  | x0 (v_x733 : Bool) (v_w734 : (List (Int × Bool)))
def G_pages_Check_C1_ex : G_pages_Check_C1_R → Ex
  | .x0 _ _ => .normal
def G_pages_Check_C1_st (v_x580 : Int) (v_c28 : S_pages_Cache) (v_w581 : (List (Int × Bool))) (v_y681 : S_pages_Page) : G_pages_Check_C1_R → PS
  | .x0 v_x733 v_w734 => ⟨[dd, .ref 0 0, dd, .srf 1, .d (.v (.int .i64 v_x580)), .ref 2 0, dd, dd, dd, dd, dd, dd, dd, dd, dd, dd, dd, dd, dd, dd, .d (.sl (v_c28.fPages.map eS_pages_Page)), .d (.v (.int .i64 (v_c28.fPages.length : Int))), .d (.v (.int .i64 v_x580)), dd, dd, dd, dd, .d (.v (.bool v_x733)), dd, dd, dd, dd, dd, dd, dd, dd, dd, dd, dd, dd, dd, dd, dd, dd, dd, dd, dd, dd, dd, dd, dd, dd, dd, dd, dd, dd, dd, dd, dd, dd, dd, dd, dd, dd, dd, dd, dd, dd, dd, dd, dd, dd, dd, dd, dd, dd, dd, dd, dd, dd, dd, dd, dd, dd, dd], [.box [.d (.sl (v_c28.fPages.map eS_pages_Page)), .d (.v (.int .i64 v_c28.fClock))], .cu (mapC (fun x : Int => Value.int .i64 x) Value.bool v_w734) [], .box ((cS_pages_Page v_y681).map FV.d)]⟩
def G_pages_Check_C1_hd (v_x580 : Int) (v_c28 : S_pages_Cache) (v_w581 : (List (Int × Bool))) (v_y681 : S_pages_Page)  : PS := ⟨[dd, .ref 0 0, dd, .srf 1, .d (.v (.int .i64 v_x580)), .ref 2 0, dd, dd, dd, dd, dd, dd, dd, dd, dd, dd, dd, dd, dd, dd, .d (.sl (v_c28.fPages.map eS_pages_Page)), .d (.v (.int .i64 (v_c28.fPages.length : Int))), .d (.v (.int .i64 v_x580)), dd, dd, dd, dd, dd, dd, dd, dd, dd, dd, dd, dd, dd, dd, dd, dd, dd, dd, dd, dd, dd, dd, dd, dd, dd, dd, dd, dd, dd, dd, dd, dd, dd, dd, dd, dd, dd, dd, dd, dd, dd, dd, dd, dd, dd, dd, dd, dd, dd, dd, dd, dd, dd, dd, dd, dd, dd, dd, dd, dd, dd, dd], [.box [.d (.sl (v_c28.fPages.map eS_pages_Page)), .d (.v (.int .i64 v_c28.fClock))], .cu (mapC (fun x : Int => Value.int .i64 x) Value.bool v_w581) [], .box ((cS_pages_Page v_y681).map FV.d)]⟩
def G_pages_Check_C1 (n : Nat) (v_x580 : Int) (v_c28 : S_pages_Cache) (v_w581 : (List (Int × Bool))) (v_y681 : S_pages_Page) : Option G_pages_Check_C1_R :=
  (G_pages_right n v_y681.fFile v_y681.fN).bind fun (v_r732 : (Bool)) =>
  if v_r732 = true then
   if v_y681.fMaps < 0 then
    some (.x0 true v_w581)
   else
    if v_y681.fMaps > 64 then
     some (.x0 true v_w581)
    else
     if v_y681.fDirty < 0 then
      some (.x0 true v_w581)
     else
      some (.x0 (decide (v_y681.fDirty ≥ v_c28.fClock)) v_w581)
  else
   some (.x0 true v_w581)
theorem G_pages_Check_C1_ok {Fi : Ex → PS → Prop} (hF : KC 85 Fi) (ks : List Fr) (n : Nat) (v_x580 : Int) (v_c28 : S_pages_Cache) (v_w581 : (List (Int × Bool))) (v_y681 : S_pages_Page)  (o : G_pages_Check_C1_R) (h : G_pages_Check_C1 n v_x580 v_c28 v_w581 v_y681 = some o) (q : RunE Try.prog 85 Fi ks (G_pages_Check_C1_ex o) (G_pages_Check_C1_st v_x580 v_c28 v_w581 v_y681 o)) : RunE Try.prog 85 Fi (.s (cL (cB (cL (cR (cB (cL (cR (cR (cP (cB (cR (cL (cR (cR (cR (cR (bodyOf Try.f11))))))))))))))))) :: ks) .normal (G_pages_Check_C1_hd v_x580 v_c28 v_w581 v_y681) := by
  unfold G_pages_Check_C1 at h
  obtain ⟨v_r732, h502, h⟩ := bind_some h
  by_cases h503 : v_r732 = true
  · rw [if_pos h503] at h
    by_cases h504 : v_y681.fMaps < 0
    · rw [if_pos h504] at h
      cases h
      exact pkk_sound TTok mix hF 1 (hs := [.c, .c, .r (eB v_r732), .t false, .c, .c, .c, .t true, .c, .c, .c, .c, .c, .c, .c, .c, .c, .c]) (ts := []) (s := [0, 1, 2]) (l := [1, 3, 4, 5, 20, 21, 22, 27]) (by kernel_rfl) (by kernel_rfl) (.cons (G_pages_right_ok n v_y681.fFile v_y681.fN _ h502) (.cons (bnf h503) (.cons (dt h504) .nil))) q
    · rw [if_neg h504] at h
      by_cases h505 : v_y681.fMaps > 64
      · rw [if_pos h505] at h
        cases h
        exact pkk_sound TTok mix hF 1 (hs := [.c, .c, .r (eB v_r732), .t false, .c, .c, .c, .t false, .c, .c, .c, .t true, .c, .c, .c, .c, .c, .c, .c]) (ts := []) (s := [0, 1, 2]) (l := [1, 3, 4, 5, 20, 21, 22, 27]) (by kernel_rfl) (by kernel_rfl) (.cons (G_pages_right_ok n v_y681.fFile v_y681.fN _ h502) (.cons (bnf h503) (.cons (df h504) (.cons (dt h505) .nil)))) q
      · rw [if_neg h505] at h
        by_cases h506 : v_y681.fDirty < 0
        · rw [if_pos h506] at h
          cases h
          exact pkk_sound TTok mix hF 1 (hs := [.c, .c, .r (eB v_r732), .t false, .c, .c, .c, .t false, .c, .c, .c, .t false, .c, .c, .c, .t true, .c, .c, .c, .c]) (ts := []) (s := [0, 1, 2]) (l := [1, 3, 4, 5, 20, 21, 22, 27]) (by kernel_rfl) (by kernel_rfl) (.cons (G_pages_right_ok n v_y681.fFile v_y681.fN _ h502) (.cons (bnf h503) (.cons (df h504) (.cons (df h505) (.cons (dt h506) .nil))))) q
        · rw [if_neg h506] at h
          cases h
          exact pkk_sound TTok mix hF 1 (hs := [.c, .c, .r (eB v_r732), .t false, .c, .c, .c, .t false, .c, .c, .c, .t false, .c, .c, .c, .t false, .c, .c, .c, .c, .c, .c]) (ts := []) (s := [0, 1, 2]) (l := [1, 3, 4, 5, 20, 21, 22, 27]) (by kernel_rfl) (by kernel_rfl) (.cons (G_pages_right_ok n v_y681.fFile v_y681.fN _ h502) (.cons (bnf h503) (.cons (df h504) (.cons (df h505) (.cons (df h506) .nil))))) q
  · rw [if_neg h503] at h
    cases h
    exact pkk_sound TTok mix hF 1 (hs := [.c, .c, .r (eB v_r732), .t true, .c, .c, .c, .c, .c, .c, .c, .c, .c, .c, .c, .c, .c]) (ts := []) (s := [0, 1, 2]) (l := [1, 3, 4, 5, 20, 21, 22, 27]) (by kernel_rfl) (by kernel_rfl) (.cons (G_pages_right_ok n v_y681.fFile v_y681.fN _ h502) (.cons (bnt (vf h503)) .nil)) q
inductive G_pages_Check_C2_R where
  | x0 (v_x768 : Bool) (v_w769 : (List (Int × Bool)))
def G_pages_Check_C2_ex : G_pages_Check_C2_R → Ex
  | .x0 _ _ => .normal
def G_pages_Check_C2_st (v_x580 : Int) (v_c28 : S_pages_Cache) (v_z745 : (List (Int × Bool))) (v_y681 : S_pages_Page) : G_pages_Check_C2_R → PS
  | .x0 v_x768 v_w769 => ⟨[dd, .ref 0 0, dd, .srf 1, dd, .ref 2 0, dd, dd, dd, dd, dd, dd, dd, dd, dd, dd, dd, dd, dd, dd, .d (.sl (v_c28.fPages.map eS_pages_Page)), .d (.v (.int .i64 (v_c28.fPages.length : Int))), .d (.v (.int .i64 v_x580)), dd, dd, dd, dd, dd, dd, dd, dd, dd, dd, dd, dd, dd, dd, dd, dd, dd, dd, dd, dd, dd, dd, dd, dd, dd, dd, dd, dd, dd, dd, dd, dd, dd, .d (.v (.bool v_x768)), dd, dd, dd, dd, dd, dd, dd, dd, dd, dd, dd, dd, dd, dd, dd, dd, dd, dd, dd, dd, dd, dd, dd, dd, dd, dd, dd, dd], [.box [.d (.sl (v_c28.fPages.map eS_pages_Page)), .d (.v (.int .i64 v_c28.fClock))], .cu (mapC (fun x : Int => Value.int .i64 x) Value.bool v_w769) [], .box ((cS_pages_Page v_y681).map FV.d)]⟩
def G_pages_Check_C2_hd (v_x580 : Int) (v_c28 : S_pages_Cache) (v_z745 : (List (Int × Bool))) (v_y681 : S_pages_Page)  : PS := ⟨[dd, .ref 0 0, dd, .srf 1, .d (.v (.int .i64 v_x580)), .ref 2 0, dd, dd, dd, dd, dd, dd, dd, dd, dd, dd, dd, dd, dd, dd, .d (.sl (v_c28.fPages.map eS_pages_Page)), .d (.v (.int .i64 (v_c28.fPages.length : Int))), .d (.v (.int .i64 v_x580)), dd, dd, dd, dd, dd, dd, dd, dd, dd, dd, dd, dd, dd, dd, dd, dd, dd, dd, dd, dd, dd, dd, dd, dd, dd, dd, dd, dd, dd, dd, dd, dd, dd, dd, dd, dd, dd, dd, dd, dd, dd, dd, dd, dd, dd, dd, dd, dd, dd, dd, dd, dd, dd, dd, dd, dd, dd, dd, dd, dd, dd, dd], [.box [.d (.sl (v_c28.fPages.map eS_pages_Page)), .d (.v (.int .i64 v_c28.fClock))], .cu (mapC (fun x : Int => Value.int .i64 x) Value.bool v_z745) [], .box ((cS_pages_Page v_y681).map FV.d)]⟩
def G_pages_Check_C2 (n : Nat) (v_x580 : Int) (v_c28 : S_pages_Cache) (v_z745 : (List (Int × Bool))) (v_y681 : S_pages_Page) : Option G_pages_Check_C2_R :=
  if v_x580 > 0 then
   (getI v_c28.fPages (wi .i64 (v_x580 - 1))).bind fun (v_y766 : S_pages_Page) =>
   (G_pages_order n v_y766 v_y681).bind fun (v_r767 : (Int)) =>
   if v_r767 ≥ 0 then
    some (.x0 true v_z745)
   else
    if v_y681.fDirty > 0 then
     some (.x0 ((mget v_z745 v_y681.fDirty).getD false) v_z745)
    else
     some (.x0 false v_z745)
  else
   if v_y681.fDirty > 0 then
    some (.x0 ((mget v_z745 v_y681.fDirty).getD false) v_z745)
   else
    some (.x0 false v_z745)
theorem G_pages_Check_C2_ok {Fi : Ex → PS → Prop} (hF : KC 85 Fi) (ks : List Fr) (n : Nat) (v_x580 : Int) (v_c28 : S_pages_Cache) (v_z745 : (List (Int × Bool))) (v_y681 : S_pages_Page)  (o : G_pages_Check_C2_R) (h : G_pages_Check_C2 n v_x580 v_c28 v_z745 v_y681 = some o) (q : RunE Try.prog 85 Fi ks (G_pages_Check_C2_ex o) (G_pages_Check_C2_st v_x580 v_c28 v_z745 v_y681 o)) : RunE Try.prog 85 Fi (.s (cL (cF (cR (cB (cL (cR (cB (cL (cR (cR (cP (cB (cR (cL (cR (cR (cR (cR (bodyOf Try.f11))))))))))))))))))) :: ks) .normal (G_pages_Check_C2_hd v_x580 v_c28 v_z745 v_y681) := by
  unfold G_pages_Check_C2 at h
  by_cases h530 : v_x580 > 0
  · rw [if_pos h530] at h
    obtain ⟨v_y766, h531, h⟩ := bind_some h
    obtain ⟨v_r767, h532, h⟩ := bind_some h
    by_cases h533 : v_r767 ≥ 0
    · rw [if_pos h533] at h
      cases h
      exact pkk_sound TTok mix hF 1 (hs := [.t true, .c, .c, .c, .c, .c, .y (eS_pages_Page v_y766), .c, .c, .c, .c, .r ((eI .i64) v_r767), .c, .t true, .c, .c, .c, .c]) (ts := []) (s := [0, 1, 2]) (l := [1, 3, 5, 20, 21, 22, 56]) (by kernel_rfl) (by kernel_rfl) (.cons (dt h530) (.cons (getI_ob (f := eS_pages_Page) h531) (.cons (G_pages_order_ok n v_y766 v_y681 _ h532) (.cons (dt h533) .nil)))) q
    · rw [if_neg h533] at h
      by_cases h534 : v_y681.fDirty > 0
      · rw [if_pos h534] at h
        cases h
        exact pkk_sound TTok mix hF 1 (hs := [.t true, .c, .c, .c, .c, .c, .y (eS_pages_Page v_y766), .c, .c, .c, .c, .r ((eI .i64) v_r767), .c, .t false, .c, .c, .c, .c, .t true, .c, .c, .c, .c, .e 108 [1] (.d (.v (.bool ((mget v_z745 v_y681.fDirty).getD false)))) [], .c]) (ts := []) (s := [0, 1, 2]) (l := [1, 3, 5, 20, 21, 22, 56]) (by kernel_rfl) (by kernel_rfl) (.cons (dt h530) (.cons (getI_ob (f := eS_pages_Page) h531) (.cons (G_pages_order_ok n v_y766 v_y681 _ h532) (.cons (df h533) (.cons (dt h534) (.cons (ylook (P := Try.prog) (T := TT) (t := 53) (kt := 3) (et := 4) (l := 1) (x := (.tmp 75)) (y := (.tmp 77)) (f := (fun x : Int => Value.int .i64 x)) (g := Value.bool) (E := v_z745) (k := v_y681.fDirty) (z := false) false (by kernel_rfl) (KOk.int (by kernel_rfl)) (fun w => by kernel_rfl) (fun _ => rfl) rfl) .nil)))))) q
      · rw [if_neg h534] at h
        cases h
        exact pkk_sound TTok mix hF 1 (hs := [.t true, .c, .c, .c, .c, .c, .y (eS_pages_Page v_y766), .c, .c, .c, .c, .r ((eI .i64) v_r767), .c, .t false, .c, .c, .c, .c, .t false, .c, .c, .c, .c]) (ts := []) (s := [0, 1, 2]) (l := [1, 3, 5, 20, 21, 22, 56]) (by kernel_rfl) (by kernel_rfl) (.cons (dt h530) (.cons (getI_ob (f := eS_pages_Page) h531) (.cons (G_pages_order_ok n v_y766 v_y681 _ h532) (.cons (df h533) (.cons (df h534) .nil))))) q
  · rw [if_neg h530] at h
    by_cases h535 : v_y681.fDirty > 0
    · rw [if_pos h535] at h
      cases h
      exact pkk_sound TTok mix hF 1 (hs := [.t false, .c, .c, .c, .c, .c, .c, .c, .c, .c, .c, .c, .c, .c, .t true, .c, .c, .c, .c, .e 108 [1] (.d (.v (.bool ((mget v_z745 v_y681.fDirty).getD false)))) [], .c]) (ts := []) (s := [0, 1, 2]) (l := [1, 3, 5, 20, 21, 22, 56]) (by kernel_rfl) (by kernel_rfl) (.cons (df h530) (.cons (dt h535) (.cons (ylook (P := Try.prog) (T := TT) (t := 53) (kt := 3) (et := 4) (l := 1) (x := (.tmp 75)) (y := (.tmp 77)) (f := (fun x : Int => Value.int .i64 x)) (g := Value.bool) (E := v_z745) (k := v_y681.fDirty) (z := false) false (by kernel_rfl) (KOk.int (by kernel_rfl)) (fun w => by kernel_rfl) (fun _ => rfl) rfl) .nil))) q
    · rw [if_neg h535] at h
      cases h
      exact pkk_sound TTok mix hF 1 (hs := [.t false, .c, .c, .c, .c, .c, .c, .c, .c, .c, .c, .c, .c, .c, .t false, .c, .c, .c, .c]) (ts := []) (s := [0, 1, 2]) (l := [1, 3, 5, 20, 21, 22, 56]) (by kernel_rfl) (by kernel_rfl) (.cons (df h530) (.cons (df h535) .nil)) q
inductive G_pages_Check_L3_R where
  | x0 (v_x763 : Int)
  | x1 
def G_pages_Check_L3_ex : G_pages_Check_L3_R → Ex
  | .x0 _ => .ret
  | .x1  => .exit 0
def G_pages_Check_L3_st (v_c28 : S_pages_Cache) : G_pages_Check_L3_R → PS
  | .x0 v_x763 => ⟨[dd, dd, .d (.v (.int .i64 v_x763)), dd, dd, dd, dd, dd, dd, dd, dd, dd, dd, dd, dd, dd, dd, dd, dd, dd, dd, dd, dd, dd, dd, dd, dd, dd, dd, dd, dd, dd, dd, dd, dd, dd, dd, dd, dd, dd, dd, dd, dd, dd, dd, dd, dd, dd, dd, dd, dd, dd, dd, dd, dd, dd, dd, dd, dd, dd, dd, dd, dd, dd, dd, dd, dd, dd, dd, dd, dd, dd, dd, dd, dd, dd, dd, dd, dd, dd, dd, dd, dd, dd, dd], []⟩
  | .x1  => ⟨[dd, dd, dd, dd, dd, dd, dd, dd, dd, dd, dd, dd, dd, dd, dd, dd, dd, dd, dd, dd, dd, dd, dd, dd, dd, dd, dd, dd, dd, dd, dd, dd, dd, dd, dd, dd, dd, dd, dd, dd, dd, dd, dd, dd, dd, dd, dd, dd, dd, dd, dd, dd, dd, dd, dd, dd, dd, dd, dd, dd, dd, dd, dd, dd, dd, dd, dd, dd, dd, dd, dd, dd, dd, dd, dd, dd, dd, dd, dd, dd, dd, dd, dd, dd, dd], []⟩
def G_pages_Check_L3_hd (v_c28 : S_pages_Cache) (v_x580 : Int) (v_w581 : (List (Int × Bool))) : PS := ⟨[dd, .ref 0 0, dd, .srf 1, dd, dd, dd, dd, dd, dd, dd, dd, dd, dd, dd, dd, dd, dd, dd, dd, .d (.sl (v_c28.fPages.map eS_pages_Page)), .d (.v (.int .i64 (v_c28.fPages.length : Int))), .d (.v (.int .i64 v_x580)), dd, dd, dd, dd, dd, dd, dd, dd, dd, dd, dd, dd, dd, dd, dd, dd, dd, dd, dd, dd, dd, dd, dd, dd, dd, dd, dd, dd, dd, dd, dd, dd, dd, dd, dd, dd, dd, dd, dd, dd, dd, dd, dd, dd, dd, dd, dd, dd, dd, dd, dd, dd, dd, dd, dd, dd, dd, dd, dd, dd, dd, dd], [.box [.d (.sl (v_c28.fPages.map eS_pages_Page)), .d (.v (.int .i64 v_c28.fClock))], .cu (mapC (fun x : Int => Value.int .i64 x) Value.bool v_w581) []]⟩
def G_pages_Check_L3 (n : Nat) (v_c28 : S_pages_Cache) : Nat → Int → (List (Int × Bool)) → Option G_pages_Check_L3_R
  | 0, _, _ => none
  | k + 1, v_x580, v_w581 =>
    if v_x580 < (v_c28.fPages.length : Int) then
     (getI v_c28.fPages v_x580).bind fun (v_y681 : S_pages_Page) =>
     (G_pages_Check_C1 n v_x580 v_c28 v_w581 v_y681).bind fun v_o743 => match v_o743 with
     | .x0 v_z744 v_z745 =>
       if v_z744 = true then
        some (.x0 1)
       else
        (G_pages_Check_C2 n v_x580 v_c28 v_z745 v_y681).bind fun v_o778 => match v_o778 with
        | .x0 v_z779 v_z780 =>
          if v_z779 = true then
           some (.x0 3)
          else
           G_pages_Check_L3 n v_c28 k (wi .i64 (v_x580 + 1)) (mput v_z780 v_y681.fDirty true)
    else
     some (.x1 )
theorem G_pages_Check_L3_ok {Fi : Ex → PS → Prop} (hF : KC 85 Fi) (ks : List Fr) (n : Nat) (v_c28 : S_pages_Cache)  : ∀ (k : Nat) (v_x580 : Int) (v_w581 : (List (Int × Bool))) (o : G_pages_Check_L3_R), G_pages_Check_L3 n v_c28 k v_x580 v_w581 = some o → RunE Try.prog 85 Fi ks (G_pages_Check_L3_ex o) (G_pages_Check_L3_st v_c28 o) → RunE Try.prog 85 Fi (.l k (cP (cB (cR (cL (cR (cR (cR (cR (bodyOf Try.f11))))))))) :: ks) .normal (G_pages_Check_L3_hd v_c28 v_x580 v_w581)
  | 0, v_x580, v_w581, o, h, q => by rw [G_pages_Check_L3] at h; cases h
  | k + 1, v_x580, v_w581, o, h, q => by
    rw [G_pages_Check_L3] at h
    by_cases h371 : v_x580 < (v_c28.fPages.length : Int)
    · rw [if_pos h371] at h
      obtain ⟨v_y681, h455, h⟩ := bind_some h
      obtain ⟨v_o743, h507, h⟩ := bind_some h
      refine pkk_sound TTok mix hF 13 (hs := [.t true, .y (eS_pages_Page v_y681), .c]) (ts := []) (s := [0, 1, 22]) (l := [1, 3, 4, 5, 20, 21, 22]) (by kernel_rfl) (by kernel_rfl) (.cons (dt h371) (.cons (getI_ob (f := eS_pages_Page) h455) (.cons (show 0 + 20 ≤ 20 by decide) .nil))) (G_pages_Check_C1_ok hF (.s (cR (cB (cL (cR (cB (cL (cR (cR (cP (cB (cR (cL (cR (cR (cR (cR (bodyOf Try.f11))))))))))))))))) :: .b 2 :: .s (cR (cR (cB (cL (cR (cR (cP (cB (cR (cL (cR (cR (cR (cR (bodyOf Try.f11))))))))))))))) :: .b 1 :: .s (cR (cR (cR (cP (cB (cR (cL (cR (cR (cR (cR (bodyOf Try.f11)))))))))))) :: .l k (cP (cB (cR (cL (cR (cR (cR (cR (bodyOf Try.f11))))))))) :: ks) n v_x580 v_c28 v_w581 v_y681 _ h507 ?_)
      cases v_o743 with
      | x0 v_z744 v_z745 =>
        try dsimp only at h
        by_cases h523 : v_z744 = true
        · rw [if_pos h523] at h
          cases h
          exact pkk_sound TTok mix hF 9 (hs := [.t true]) (ts := []) (s := []) (l := [2]) (by kernel_rfl) (by kernel_rfl) (.cons h523 .nil) q
        · rw [if_neg h523] at h
          obtain ⟨v_o778, h536, h⟩ := bind_some h
          refine pkk_sound TTok mix hF 2 (hs := [.t false]) (ts := []) (s := [0, 1, 2]) (l := [1, 3, 4, 5, 20, 21, 22]) (by kernel_rfl) (by kernel_rfl) (.cons (vf h523) .nil) (G_pages_Check_C2_ok hF (.s (cR (cF (cR (cB (cL (cR (cB (cL (cR (cR (cP (cB (cR (cL (cR (cR (cR (cR (bodyOf Try.f11))))))))))))))))))) :: .b 2 :: .s (cR (cR (cB (cL (cR (cR (cP (cB (cR (cL (cR (cR (cR (cR (bodyOf Try.f11))))))))))))))) :: .b 1 :: .s (cR (cR (cR (cP (cB (cR (cL (cR (cR (cR (cR (bodyOf Try.f11)))))))))))) :: .l k (cP (cB (cR (cL (cR (cR (cR (cR (bodyOf Try.f11))))))))) :: ks) n v_x580 v_c28 v_z745 v_y681 _ h536 ?_)
          cases v_o778 with
          | x0 v_z779 v_z780 =>
            try dsimp only at h
            by_cases h537 : v_z779 = true
            · rw [if_pos h537] at h
              cases h
              exact pkk_sound TTok mix hF 9 (hs := [.t true]) (ts := []) (s := []) (l := [2]) (by kernel_rfl) (by kernel_rfl) (.cons h537 .nil) q
            · rw [if_neg h537] at h
              exact pkk_sound TTok mix hF 6 (hs := [.t false, .c, .e 18 [1] (dd) [(1, .cu (mapC (fun x : Int => Value.int .i64 x) Value.bool (mput v_z780 v_y681.fDirty true)) [])]]) (ts := []) (s := [0, 1]) (l := [1, 3, 20, 21, 22]) (by kernel_rfl) (by kernel_rfl) (.cons (vf h537) (.cons (yput (P := Try.prog) (T := TT) (t := 53) (kt := 3) (et := 4) (l := 1) (x := (.tmp 81)) (y := (.tmp 83)) (z := (.const (.bool true))) (f := (fun x : Int => Value.int .i64 x)) (g := Value.bool) (E := v_z780) (k := v_y681.fDirty) (v := true) (by kernel_rfl) (KOk.int (by kernel_rfl))) .nil)) (G_pages_Check_L3_ok hF ks n v_c28 k (wi .i64 (v_x580 + 1)) (mput v_z780 v_y681.fDirty true) _ h q)
    · rw [if_neg h371] at h
      cases h
      exact pkk_sound TTok mix hF 8 (hs := [.t false]) (ts := []) (s := []) (l := []) (by kernel_rfl) (by kernel_rfl) (.cons (df h371) .nil) q
/- ringhall/pages.Check -/
def G_pages_Check (n : Nat) (v_c28 : S_pages_Cache) : Option (Int) :=
  if (v_c28.fPages.length : Int) > 64 then
   some 2
  else
   if v_c28.fClock < 1 then
    G_pages_Check_J1 n  
   else
    if v_c28.fClock > 1073741824 then
     G_pages_Check_J1 n  
    else
     (G_pages_Check_L3 n v_c28 n 0 ([] : (List (Int × Bool)))).bind fun v_o782 => match v_o782 with
     | .x0 v_z783 =>
       some v_z783
     | .x1  =>
       some 0
theorem G_pages_Check_ok (n : Nat) (v_c28 : S_pages_Cache) (r : Int) (h : G_pages_Check n v_c28 = some r) : Ret Try.prog 11 [eS_pages_Cache v_c28] ((eI .i64) r) := by
  refine ret_run (n := 85) (fn := Try.f11) (c := bodyOf Try.f11) (by kernel_rfl) (by kernel_rfl) (by kernel_rfl) (by kernel_rfl) ?_
  have hF : KC 85 (FinR Try.prog Try.f11 ((eI .i64) r)) := FinR.kc' (by kernel_rfl)
  unfold G_pages_Check at h
  by_cases h368 : (v_c28.fPages.length : Int) > 64
  · rw [if_pos h368] at h
    obtain rfl := Option.some.inj h
    exact pend_sound TTok mix 10 (hs := [.c, .u (.d (.v (.int .i64 (v_c28.fPages.length : Int)))), .t true]) (by kernel_rfl) (by kernel_rfl) (by kernel_rfl) (.cons (len_ob (f := eS_pages_Page) (l := v_c28.fPages)) (.cons (dt h368) .nil))
  · rw [if_neg h368] at h
    by_cases h369 : v_c28.fClock < 1
    · rw [if_pos h369] at h
      exact pkk_sound TTok mix hF 11 (hs := [.c, .u (.d (.v (.int .i64 (v_c28.fPages.length : Int)))), .t false, .c, .t true, .c, .c, .c]) (ts := []) (s := []) (l := []) (by kernel_rfl) (by kernel_rfl) (.cons (len_ob (f := eS_pages_Page) (l := v_c28.fPages)) (.cons (df h368) (.cons (dt h369) .nil))) (G_pages_Check_J1_ok n   _ h)
    · rw [if_neg h369] at h
      by_cases h370 : v_c28.fClock > 1073741824
      · rw [if_pos h370] at h
        exact pkk_sound TTok mix hF 11 (hs := [.c, .u (.d (.v (.int .i64 (v_c28.fPages.length : Int)))), .t false, .c, .t false, .c, .c, .c, .t true]) (ts := []) (s := []) (l := []) (by kernel_rfl) (by kernel_rfl) (.cons (len_ob (f := eS_pages_Page) (l := v_c28.fPages)) (.cons (df h368) (.cons (df h369) (.cons (dt h370) .nil)))) (G_pages_Check_J1_ok n   _ h)
      · rw [if_neg h370] at h
        obtain ⟨v_o782, h538, h⟩ := bind_some h
        refine pkk_sound TTok mix hF 19 (hs := [.c, .u (.d (.v (.int .i64 (v_c28.fPages.length : Int)))), .t false, .c, .t false, .c, .c, .c, .t false, .e 70 [70] (.srf 70) [(70, .cu (mapC (fun x : Int => Value.int .i64 x) Value.bool ([] : (List (Int × Bool)))) [])], .c, .u (.d (.v (.int .i64 (v_c28.fPages.length : Int)))), .n n]) (ts := []) (s := [0, 70]) (l := [1, 3, 20, 21, 22]) (by kernel_rfl) (by kernel_rfl) (.cons (len_ob (f := eS_pages_Page) (l := v_c28.fPages)) (.cons (df h368) (.cons (df h369) (.cons (df h370) (.cons (ymake (P := Try.prog) (T := TT) (t := 53) (nl := 70) (fun x : Int => Value.int .i64 x) Value.bool) (.cons (len_ob (f := eS_pages_Page) (l := v_c28.fPages)) .nil)))))) (G_pages_Check_L3_ok hF (.b 0 :: .s (cR (cR (cR (cR (cR (bodyOf Try.f11)))))) :: []) n v_c28 n 0 ([] : (List (Int × Bool))) _ h538 ?_)
        cases v_o782 with
        | x0 v_z783 =>
          try dsimp only at h
          obtain rfl := Option.some.inj h
          exact pend_sound TTok mix 2 (hs := []) (by kernel_rfl) (by kernel_rfl) (by kernel_rfl) .nil
        | x1  =>
          try dsimp only at h
          obtain rfl := Option.some.inj h
          exact pend_sound TTok mix 4 (hs := []) (by kernel_rfl) (by kernel_rfl) (by kernel_rfl) .nil
inductive G_slices_BinarySearchFunc_pages_Page_pages_Page_pages_Page_L1_R where
  | x0 (v_i829 : Int)
def G_slices_BinarySearchFunc_pages_Page_pages_Page_pages_Page_L1_ex : G_slices_BinarySearchFunc_pages_Page_pages_Page_pages_Page_L1_R → Ex
  | .x0 _ => .exit 0
def G_slices_BinarySearchFunc_pages_Page_pages_Page_pages_Page_L1_st (v_x810 : (List S_pages_Page)) (v_cmp812 : (S_pages_Page → S_pages_Page → Option (Int))) (v_target811 : S_pages_Page) (v_cmp812_g : FuncId) (v_cmp812_c : (List PV)) : G_slices_BinarySearchFunc_pages_Page_pages_Page_pages_Page_L1_R → PS
  | .x0 v_i829 => ⟨[.d (.sl (v_x810.map eS_pages_Page)), dd, .d (.clo v_cmp812_g v_cmp812_c), dd, .ref 0 0, dd, dd, dd, .d (.v (.int .i64 (v_x810.length : Int))), .d (.v (.int .i64 v_i829)), dd, dd, dd, dd, dd, dd, dd, dd, dd, dd, dd, dd, dd, dd, dd, dd, dd, dd, dd, dd, dd, dd, dd, dd, dd, dd, dd, dd, dd, dd, dd, dd, dd, dd, dd, dd, dd, dd, dd], [.box ((cS_pages_Page v_target811).map FV.d)]⟩
def G_slices_BinarySearchFunc_pages_Page_pages_Page_pages_Page_L1_hd (v_x810 : (List S_pages_Page)) (v_cmp812 : (S_pages_Page → S_pages_Page → Option (Int))) (v_target811 : S_pages_Page) (v_cmp812_g : FuncId) (v_cmp812_c : (List PV)) (v_i823 : Int) (v_j824 : Int) : PS := ⟨[.d (.sl (v_x810.map eS_pages_Page)), dd, .d (.clo v_cmp812_g v_cmp812_c), dd, .ref 0 0, dd, dd, dd, .d (.v (.int .i64 (v_x810.length : Int))), .d (.v (.int .i64 v_i823)), .d (.v (.int .i64 v_j824)), dd, dd, dd, dd, dd, dd, dd, dd, dd, dd, dd, dd, dd, dd, dd, dd, dd, dd, dd, dd, dd, dd, dd, dd, dd, dd, dd, dd, dd, dd, dd, dd, dd, dd, dd, dd, dd, dd], [.box ((cS_pages_Page v_target811).map FV.d)]⟩
def G_slices_BinarySearchFunc_pages_Page_pages_Page_pages_Page_L1 (n : Nat) (v_x810 : (List S_pages_Page)) (v_cmp812 : (S_pages_Page → S_pages_Page → Option (Int))) (v_target811 : S_pages_Page) : Nat → Int → Int → Option G_slices_BinarySearchFunc_pages_Page_pages_Page_pages_Page_L1_R
  | 0, _, _ => none
  | k + 1, v_i823, v_j824 =>
    if v_i823 < v_j824 then
     (getI v_x810 (wi .i64 (shrI .u64 (wi .u64 (wi .i64 (v_i823 + v_j824))) 1))).bind fun (v_y827 : S_pages_Page) =>
     (v_cmp812 v_y827 v_target811).bind fun (v_r828 : (Int)) =>
     if v_r828 < 0 then
      G_slices_BinarySearchFunc_pages_Page_pages_Page_pages_Page_L1 n v_x810 v_cmp812 v_target811 k (wi .i64 ((wi .i64 (shrI .u64 (wi .u64 (wi .i64 (v_i823 + v_j824))) 1)) + 1)) v_j824
     else
      G_slices_BinarySearchFunc_pages_Page_pages_Page_pages_Page_L1 n v_x810 v_cmp812 v_target811 k v_i823 (wi .i64 (shrI .u64 (wi .u64 (wi .i64 (v_i823 + v_j824))) 1))
    else
     some (.x0 v_i823)
theorem G_slices_BinarySearchFunc_pages_Page_pages_Page_pages_Page_L1_ok {Fi : Ex → PS → Prop} (hF : KC 49 Fi) (ks : List Fr) (n : Nat) (v_x810 : (List S_pages_Page)) (v_cmp812 : (S_pages_Page → S_pages_Page → Option (Int))) (v_target811 : S_pages_Page) (v_cmp812_g : FuncId) (v_cmp812_c : (List PV)) (v_cmp812_h : ∀ (x0 : S_pages_Page) (x1 : S_pages_Page) (r : Int), v_cmp812 x0 x1 = some r → Ret Try.prog v_cmp812_g ([eS_pages_Page x0, eS_pages_Page x1] ++ v_cmp812_c) ((eI .i64) r)) : ∀ (k : Nat) (v_i823 : Int) (v_j824 : Int) (o : G_slices_BinarySearchFunc_pages_Page_pages_Page_pages_Page_L1_R), G_slices_BinarySearchFunc_pages_Page_pages_Page_pages_Page_L1 n v_x810 v_cmp812 v_target811 k v_i823 v_j824 = some o → RunE Try.prog 49 Fi ks (G_slices_BinarySearchFunc_pages_Page_pages_Page_pages_Page_L1_ex o) (G_slices_BinarySearchFunc_pages_Page_pages_Page_pages_Page_L1_st v_x810 v_cmp812 v_target811 v_cmp812_g v_cmp812_c o) → RunE Try.prog 49 Fi (.l k (cP (cB (cL (cR (cR (cR (bodyOf Try.f27))))))) :: ks) .normal (G_slices_BinarySearchFunc_pages_Page_pages_Page_pages_Page_L1_hd v_x810 v_cmp812 v_target811 v_cmp812_g v_cmp812_c v_i823 v_j824)
  | 0, v_i823, v_j824, o, h, q => by rw [G_slices_BinarySearchFunc_pages_Page_pages_Page_pages_Page_L1] at h; cases h
  | k + 1, v_i823, v_j824, o, h, q => by
    rw [G_slices_BinarySearchFunc_pages_Page_pages_Page_pages_Page_L1] at h
    by_cases h545 : v_i823 < v_j824
    · rw [if_pos h545] at h
      obtain ⟨v_y827, h552, h⟩ := bind_some h
      obtain ⟨v_r828, h553, h⟩ := bind_some h
      by_cases h555 : v_r828 < 0
      · rw [if_pos h555] at h
        exact pkk_sound TTok mix hF 14 (hs := [.t true, .y (eS_pages_Page v_y827), .c, .r ((eI .i64) v_r828), .t true]) (ts := []) (s := [0]) (l := [0, 2, 4, 8, 9, 10]) (by kernel_rfl) (by kernel_rfl) (.cons (dt h545) (.cons (show (0 : Int) ≤ 1 by decide) (.cons (getI_ob (f := eS_pages_Page) h552) (.cons (v_cmp812_h v_y827 v_target811 _ h553) (.cons (dt h555) .nil))))) (G_slices_BinarySearchFunc_pages_Page_pages_Page_pages_Page_L1_ok hF ks n v_x810 v_cmp812 v_target811 v_cmp812_g v_cmp812_c v_cmp812_h k (wi .i64 ((wi .i64 (shrI .u64 (wi .u64 (wi .i64 (v_i823 + v_j824))) 1)) + 1)) v_j824 _ h q)
      · rw [if_neg h555] at h
        exact pkk_sound TTok mix hF 14 (hs := [.t true, .y (eS_pages_Page v_y827), .c, .r ((eI .i64) v_r828), .t false]) (ts := []) (s := [0]) (l := [0, 2, 4, 8, 9, 10]) (by kernel_rfl) (by kernel_rfl) (.cons (dt h545) (.cons (show (0 : Int) ≤ 1 by decide) (.cons (getI_ob (f := eS_pages_Page) h552) (.cons (v_cmp812_h v_y827 v_target811 _ h553) (.cons (df h555) .nil))))) (G_slices_BinarySearchFunc_pages_Page_pages_Page_pages_Page_L1_ok hF ks n v_x810 v_cmp812 v_target811 v_cmp812_g v_cmp812_c v_cmp812_h k v_i823 (wi .i64 (shrI .u64 (wi .u64 (wi .i64 (v_i823 + v_j824))) 1)) _ h q)
    · rw [if_neg h545] at h
      cases h
      exact pkk_sound TTok mix hF 8 (hs := [.t false]) (ts := []) (s := [0]) (l := [0, 2, 4, 8, 9]) (by kernel_rfl) (by kernel_rfl) (.cons (df h545) .nil) q
/- slices.BinarySearchFunc[[]ringhall/pages.Page,ringhall/pages.Page,ringhall/pages.Page] -/
def G_slices_BinarySearchFunc_pages_Page_pages_Page_pages_Page (n : Nat) (v_x810 : (List S_pages_Page)) (v_target811 : S_pages_Page) (v_cmp812 : (S_pages_Page → S_pages_Page → Option (Int))) : Option (Int × Bool) :=
  (G_slices_BinarySearchFunc_pages_Page_pages_Page_pages_Page_L1 n v_x810 v_cmp812 v_target811 n 0 (v_x810.length : Int)).bind fun v_o830 => match v_o830 with
  | .x0 v_z831 =>
    if v_z831 < (v_x810.length : Int) then
     (getI v_x810 v_z831).bind fun (v_y838 : S_pages_Page) =>
     (v_cmp812 v_y838 v_target811).bind fun (v_r839 : (Int)) =>
     some (v_z831, (v_r839 == 0))
    else
     some (v_z831, false)
theorem G_slices_BinarySearchFunc_pages_Page_pages_Page_pages_Page_ok (n : Nat) (v_x810 : (List S_pages_Page)) (v_target811 : S_pages_Page) (v_cmp812 : (S_pages_Page → S_pages_Page → Option (Int))) (v_cmp812_g : FuncId) (v_cmp812_c : List PV) (v_cmp812_h : ∀ (x0 : S_pages_Page) (x1 : S_pages_Page) (r : Int), v_cmp812 x0 x1 = some r → Ret Try.prog v_cmp812_g ([eS_pages_Page x0, eS_pages_Page x1] ++ v_cmp812_c) ((eI .i64) r)) (r : Int × Bool) (h : G_slices_BinarySearchFunc_pages_Page_pages_Page_pages_Page n v_x810 v_target811 v_cmp812 = some r) : Ret Try.prog 27 [(eL eS_pages_Page) v_x810, eS_pages_Page v_target811, (.clo v_cmp812_g v_cmp812_c)] (.tup [(eI .i64) r.1, eB r.2]) := by
  refine ret_run (n := 49) (fn := Try.f27) (c := bodyOf Try.f27) (by kernel_rfl) (by kernel_rfl) (by kernel_rfl) (by kernel_rfl) ?_
  have hF : KC 49 (FinR Try.prog Try.f27 (.tup [(eI .i64) r.1, eB r.2])) := FinR.kc' (by kernel_rfl)
  unfold G_slices_BinarySearchFunc_pages_Page_pages_Page_pages_Page at h
  obtain ⟨v_o830, h556, h⟩ := bind_some h
  refine pkk_sound TTok mix hF 9 (hs := [.u (.d (.v (.int .i64 (v_x810.length : Int)))), .n n]) (ts := []) (s := [0]) (l := [0, 2, 4, 8, 9, 10]) (by kernel_rfl) (by kernel_rfl) (.cons (len_ob (f := eS_pages_Page) (l := v_x810)) .nil) (G_slices_BinarySearchFunc_pages_Page_pages_Page_pages_Page_L1_ok hF (.b 0 :: .s (cR (cR (cR (cR (bodyOf Try.f27))))) :: []) n v_x810 v_cmp812 v_target811 v_cmp812_g v_cmp812_c v_cmp812_h n 0 (v_x810.length : Int) _ h556 ?_)
  cases v_o830 with
  | x0 v_z831 =>
    try dsimp only at h
    by_cases h560 : v_z831 < (v_x810.length : Int)
    · rw [if_pos h560] at h
      obtain ⟨v_y838, h561, h⟩ := bind_some h
      obtain ⟨v_r839, h562, h⟩ := bind_some h
      obtain rfl := Option.some.inj h
      exact pend_sound TTok mix 4 (hs := [.t true, .c, .c, .c, .y (eS_pages_Page v_y838), .c, .c, .c, .c, .r ((eI .i64) v_r839), .c]) (by kernel_rfl) (by kernel_rfl) (by kernel_rfl) (.cons (dt h560) (.cons (getI_ob (f := eS_pages_Page) h561) (.cons (v_cmp812_h v_y838 v_target811 _ h562) .nil)))
    · rw [if_neg h560] at h
      obtain rfl := Option.some.inj h
      exact pend_sound TTok mix 4 (hs := [.t false, .c, .c, .c, .c, .c, .c, .c]) (by kernel_rfl) (by kernel_rfl) (by kernel_rfl) (.cons (df h560) .nil)
/- ringhall/pages.at -/
def G_pages_at (n : Nat) (v_c22 : S_pages_Cache) (v_file23 : Int) (v_n24 : Int) : Option (Int × Bool × Int) :=
  (G_pages_Check n v_c22).bind fun (v_r784 : (Int)) =>
  if v_r784 = 0 then
   (G_pages_right n v_file23 v_n24).bind fun (v_r801 : (Bool)) =>
   if v_r801 = true then
    (G_slices_BinarySearchFunc_pages_Page_pages_Page_pages_Page n v_c22.fPages (S_pages_Page.mk v_file23 v_n24 0 0 (fun (_ : Fin 16) => 0)) (fun (y0 : S_pages_Page) (y1 : S_pages_Page) => G_pages_order n y0 y1)).bind fun (v_r840 : (Int × Bool)) =>
    some (v_r840.1, v_r840.2, 0)
   else
    some (0, false, 1)
  else
   some (0, false, v_r784)
theorem G_pages_at_ok (n : Nat) (v_c22 : S_pages_Cache) (v_file23 : Int) (v_n24 : Int) (r : Int × Bool × Int) (h : G_pages_at n v_c22 v_file23 v_n24 = some r) : Ret Try.prog 18 [eS_pages_Cache v_c22, (eI .i64) v_file23, (eI .i64) v_n24] (.tup [(eI .i64) r.1, eB r.2.1, (eI .i64) r.2.2]) := by
  refine ret_run (n := 32) (fn := Try.f18) (c := bodyOf Try.f18) (by kernel_rfl) (by kernel_rfl) (by kernel_rfl) (by kernel_rfl) ?_
  have hF : KC 32 (FinR Try.prog Try.f18 (.tup [(eI .i64) r.1, eB r.2.1, (eI .i64) r.2.2])) := FinR.kc' (by kernel_rfl)
  unfold G_pages_at at h
  obtain ⟨v_r784, h539, h⟩ := bind_some h
  by_cases h541 : v_r784 = 0
  · rw [if_pos h541] at h
    obtain ⟨v_r801, h542, h⟩ := bind_some h
    by_cases h544 : v_r801 = true
    · rw [if_pos h544] at h
      obtain ⟨v_r840, h563, h⟩ := bind_some h
      obtain rfl := Option.some.inj h
      exact pend_sound TTok mix 19 (hs := [.c, .r ((eI .i64) v_r784), .t false, .r (eB v_r801), .t false, .c, .r (.tup [(eI .i64) v_r840.1, eB v_r840.2])]) (by kernel_rfl) (by kernel_rfl) (by kernel_rfl) (.cons (G_pages_Check_ok n v_c22 _ h539) (.cons (nf h541) (.cons (G_pages_right_ok n v_file23 v_n24 _ h542) (.cons (bnf h544) (.cons (G_slices_BinarySearchFunc_pages_Page_pages_Page_pages_Page_ok n v_c22.fPages (S_pages_Page.mk v_file23 v_n24 0 0 (fun (_ : Fin 16) => 0)) (fun (y0 : S_pages_Page) (y1 : S_pages_Page) => G_pages_order n y0 y1) 25 [] (fun y0 y1 r h => G_pages_order_ok n y0 y1 r h) _ h563) .nil)))))
    · rw [if_neg h544] at h
      obtain rfl := Option.some.inj h
      exact pend_sound TTok mix 17 (hs := [.c, .r ((eI .i64) v_r784), .t false, .r (eB v_r801), .t true]) (by kernel_rfl) (by kernel_rfl) (by kernel_rfl) (.cons (G_pages_Check_ok n v_c22 _ h539) (.cons (nf h541) (.cons (G_pages_right_ok n v_file23 v_n24 _ h542) (.cons (bnt (vf h544)) .nil))))
  · rw [if_neg h541] at h
    obtain rfl := Option.some.inj h
    exact pend_sound TTok mix 12 (hs := [.c, .r ((eI .i64) v_r784), .t true]) (by kernel_rfl) (by kernel_rfl) (by kernel_rfl) (.cons (G_pages_Check_ok n v_c22 _ h539) (.cons (nt h541) .nil))
/- slices.Clone[[]ringhall/pages.Page,ringhall/pages.Page] -/
def G_slices_Clone_pages_Page_pages_Page_A (n : Nat) (v_c926 : Nat) : Option ((List S_pages_Page)) :=
  some ([] : List S_pages_Page)
theorem G_slices_Clone_pages_Page_pages_Page_A_ok (n : Nat) (v_c926 : Nat) (r : (List S_pages_Page)) (h : G_slices_Clone_pages_Page_pages_Page_A n v_c926 = some r) : RetH Try.prog 20 [.d (.v (.slice none 0 v_c926))] [] (.srf 0) [.row 34 20 (r.map eS_pages_Page)] := by
  refine retH_run (n := 8) (fn := Try.f20) (c := bodyOf Try.f20) (by kernel_rfl) (by kernel_rfl) (by kernel_rfl) (by kernel_rfl) ?_
  have hF : KC 8 (FinH Try.prog Try.f20 [] (.srf 0) [.row 34 20 (r.map eS_pages_Page)]) := FinH.kc' (by kernel_rfl)
  unfold G_slices_Clone_pages_Page_pages_Page_A at h
  obtain rfl := Option.some.inj h
  exact pendH_sound TTok mix 11 (hs := [.c, .dl 4, .th 2 34 20]) [20] (by kernel_rfl) (by kernel_rfl) (by kernel_rfl) .nil
/- slices.Clone[[]ringhall/pages.Page,ringhall/pages.Page] -/
def G_slices_Clone_pages_Page_pages_Page_B (n : Nat) (v_a927 : Addr) (v_c928 : Nat) : Option ((List S_pages_Page)) :=
  (app 48 ([] : List S_pages_Page) ([] : (List S_pages_Page))).bind fun (v_a929 : (List S_pages_Page)) =>
  some v_a929
theorem G_slices_Clone_pages_Page_pages_Page_B_ok (n : Nat) (v_a927 : Addr) (v_c928 : Nat) (r : (List S_pages_Page)) (h : G_slices_Clone_pages_Page_pages_Page_B n v_a927 v_c928 = some r) : RetH Try.prog 20 [.d (.v (.slice (some v_a927) 0 v_c928))] [] (.srf 0) [.row 34 20 (r.map eS_pages_Page)] := by
  refine retH_run (n := 8) (fn := Try.f20) (c := bodyOf Try.f20) (by kernel_rfl) (by kernel_rfl) (by kernel_rfl) (by kernel_rfl) ?_
  have hF : KC 8 (FinH Try.prog Try.f20 [] (.srf 0) [.row 34 20 (r.map eS_pages_Page)]) := FinH.kc' (by kernel_rfl)
  unfold G_slices_Clone_pages_Page_pages_Page_B at h
  obtain ⟨v_a929, h583, h⟩ := bind_some h
  obtain rfl := Option.some.inj h
  exact pendH_sound TTok mix 10 (hs := [.c, .w (([] : List S_pages_Page).map eS_pages_Page), .w (v_a929.map eS_pages_Page)]) [25] (by kernel_rfl) (by kernel_rfl) (by kernel_rfl) (.cons (Eq.refl (([] : List S_pages_Page).map eS_pages_Page)) (.cons (app_ob (f := eS_pages_Page) (s := 20) h583 (fun _ => rfl)).1 (.cons (app_ob (f := eS_pages_Page) (s := 20) h583 (fun _ => rfl)).2.1 (.cons (app_ob (f := eS_pages_Page) (s := 20) h583 (fun _ => rfl)).2.2.1 (.cons (app_ob (f := eS_pages_Page) (s := 20) h583 (fun _ => rfl)).2.2.2 .nil)))))
/- slices.Clone[[]ringhall/pages.Page,ringhall/pages.Page] -/
def G_slices_Clone_pages_Page_pages_Page_C (n : Nat) (v_y930 : S_pages_Page) (v_ys931 : (List S_pages_Page)) : Option ((List S_pages_Page)) :=
  (app 48 ([] : List S_pages_Page) (v_y930 :: v_ys931)).bind fun (v_a932 : (List S_pages_Page)) =>
  some v_a932
theorem G_slices_Clone_pages_Page_pages_Page_C_ok (n : Nat) (v_y930 : S_pages_Page) (v_ys931 : (List S_pages_Page)) (r : (List S_pages_Page)) (h : G_slices_Clone_pages_Page_pages_Page_C n v_y930 v_ys931 = some r) : RetH Try.prog 20 [.d (.sl (eS_pages_Page v_y930 :: v_ys931.map eS_pages_Page))] [] (.srf 0) [.row 34 20 (r.map eS_pages_Page)] := by
  refine retH_run (n := 8) (fn := Try.f20) (c := bodyOf Try.f20) (by kernel_rfl) (by kernel_rfl) (by kernel_rfl) (by kernel_rfl) ?_
  have hF : KC 8 (FinH Try.prog Try.f20 [] (.srf 0) [.row 34 20 (r.map eS_pages_Page)]) := FinH.kc' (by kernel_rfl)
  unfold G_slices_Clone_pages_Page_pages_Page_C at h
  obtain ⟨v_a932, h584, h⟩ := bind_some h
  obtain rfl := Option.some.inj h
  exact pendH_sound TTok mix 10 (hs := [.c, .w (([] : List S_pages_Page).map eS_pages_Page), .w (v_a932.map eS_pages_Page)]) [25] (by kernel_rfl) (by kernel_rfl) (by kernel_rfl) (.cons (Eq.refl (([] : List S_pages_Page).map eS_pages_Page)) (.cons (app_ob (f := eS_pages_Page) (s := 20) h584 (fun _ => rfl)).1 (.cons (app_ob (f := eS_pages_Page) (s := 20) h584 (fun _ => rfl)).2.1 (.cons (app_ob (f := eS_pages_Page) (s := 20) h584 (fun _ => rfl)).2.2.1 (.cons (app_ob (f := eS_pages_Page) (s := 20) h584 (fun _ => rfl)).2.2.2 .nil)))))
def G_slices_Clone_pages_Page_pages_Page (n : Nat) (xs : (List S_pages_Page)) : Option (List S_pages_Page) := app 48 [] xs
theorem G_slices_Clone_pages_Page_pages_Page_ok (n : Nat) (xs : (List S_pages_Page)) (r : (List S_pages_Page)) (h : G_slices_Clone_pages_Page_pages_Page n xs = some r) : RetH Try.prog 20 [.d (.sl (xs.map eS_pages_Page))] [] (.srf 0) [.row 34 20 (r.map eS_pages_Page)] := by
  unfold G_slices_Clone_pages_Page_pages_Page at h
  have e : app 48 ([] : (List S_pages_Page)) [] = some [] := by simp [app]
  cases xs with
  | nil =>
    rw [e] at h; obtain rfl := Option.some.inj h
    exact clone_nil (fun c => G_slices_Clone_pages_Page_pages_Page_A_ok n c _ (by unfold G_slices_Clone_pages_Page_pages_Page_A; rfl)) (fun a c => G_slices_Clone_pages_Page_pages_Page_B_ok n a c _ (by unfold G_slices_Clone_pages_Page_pages_Page_B; rw [e]; rfl))
  | cons y ys => exact G_slices_Clone_pages_Page_pages_Page_C_ok n y ys _ (by unfold G_slices_Clone_pages_Page_pages_Page_C; rw [h]; rfl)
theorem G_slices_Clone_pages_Page_pages_Page_okD (n : Nat) (xs : (List S_pages_Page)) (r : (List S_pages_Page)) (h : G_slices_Clone_pages_Page_pages_Page n xs = some r) : Ret Try.prog 20 [.sl (xs.map eS_pages_Page)] (eL eS_pages_Page r) := Ret.of_H (args := [.sl (xs.map eS_pages_Page)]) (G_slices_Clone_pages_Page_pages_Page_ok n xs r h)
/- slices.Insert[[]ringhall/pages.Page,ringhall/pages.Page] -/
def G_slices_Insert_pages_Page_pages_Page_hC (n : Nat) (v_C935 : Nat) (v_s934 : (List S_pages_Page)) (v_i936 : Int) (v_v937 : (List S_pages_Page)) : Option ((List S_pages_Page)) :=
  if (0 ≤ v_i936 ∧ v_i936 ≤ (v_s934.length : Int)) ∧ v_s934.length ≤ v_C935 then
   if (v_v937.length : Int) = 0 then
    some v_s934
   else
    if v_i936 = (v_s934.length : Int) then
     (app 48 v_s934 v_v937).bind fun (v_a939 : (List S_pages_Page)) =>
     some v_a939
    else
     if (wi .i64 ((v_s934.length : Int) + (v_v937.length : Int))) > (v_C935 : Int) then
      if (0 ≤ v_i936 ∧ v_i936 ≤ (v_s934.length : Int)) ∧ v_s934.length ≤ v_C935 then
       if (wi .i64 ((wi .i64 ((v_s934.length : Int) + (v_v937.length : Int))) - v_i936)) = (((v_s934.length + v_v937.length - v_i936.toNat) : Nat) : Int) ∧ v_i936.toNat ≤ v_s934.length ∧ 0 < (v_s934.length + v_v937.length - v_i936.toNat) ∧ v_C935 < v_i936.toNat + (v_s934.length + v_v937.length - v_i936.toNat) ∧ v_i936.toNat + (v_s934.length + v_v937.length - v_i936.toNat) ≤ maxLen ∧ (v_i936.toNat + (v_s934.length + v_v937.length - v_i936.toNat)) * 48 ≤ 140737488355328 then
        if ((0 : Int) ≤ v_i936 ∧ v_i936 ≤ ((v_s934.take v_i936.toNat ++ List.replicate (v_s934.length + v_v937.length - v_i936.toNat) (S_pages_Page.mk 0 0 0 0 (fun (_ : Fin 16) => 0))).length : Int)) then
         if (v_s934.take v_i936.toNat ++ List.replicate (v_s934.length + v_v937.length - v_i936.toNat) (S_pages_Page.mk 0 0 0 0 (fun (_ : Fin 16) => 0))).length ≤ (v_s934.take v_i936.toNat ++ List.replicate (v_s934.length + v_v937.length - v_i936.toNat) (S_pages_Page.mk 0 0 0 0 (fun (_ : Fin 16) => 0))).length then
          if ((0 : Int) ≤ (wi .i64 (v_i936 + (v_v937.length : Int))) ∧ (wi .i64 (v_i936 + (v_v937.length : Int))) ≤ ((cpyR (v_s934.take v_i936.toNat ++ List.replicate (v_s934.length + v_v937.length - v_i936.toNat) (S_pages_Page.mk 0 0 0 0 (fun (_ : Fin 16) => 0))) v_i936.toNat ((v_s934.take v_i936.toNat ++ List.replicate (v_s934.length + v_v937.length - v_i936.toNat) (S_pages_Page.mk 0 0 0 0 (fun (_ : Fin 16) => 0))).length) v_v937).length : Int)) then
           if (0 ≤ v_i936 ∧ v_i936 ≤ (v_s934.length : Int)) ∧ v_s934.length ≤ v_C935 then
            if (cpyR (v_s934.take v_i936.toNat ++ List.replicate (v_s934.length + v_v937.length - v_i936.toNat) (S_pages_Page.mk 0 0 0 0 (fun (_ : Fin 16) => 0))) v_i936.toNat ((v_s934.take v_i936.toNat ++ List.replicate (v_s934.length + v_v937.length - v_i936.toNat) (S_pages_Page.mk 0 0 0 0 (fun (_ : Fin 16) => 0))).length) v_v937).length ≤ (cpyR (v_s934.take v_i936.toNat ++ List.replicate (v_s934.length + v_v937.length - v_i936.toNat) (S_pages_Page.mk 0 0 0 0 (fun (_ : Fin 16) => 0))) v_i936.toNat ((v_s934.take v_i936.toNat ++ List.replicate (v_s934.length + v_v937.length - v_i936.toNat) (S_pages_Page.mk 0 0 0 0 (fun (_ : Fin 16) => 0))).length) v_v937).length ∧ v_s934.length ≤ v_s934.length then
             some (cpyR (cpyR (v_s934.take v_i936.toNat ++ List.replicate (v_s934.length + v_v937.length - v_i936.toNat) (S_pages_Page.mk 0 0 0 0 (fun (_ : Fin 16) => 0))) v_i936.toNat ((v_s934.take v_i936.toNat ++ List.replicate (v_s934.length + v_v937.length - v_i936.toNat) (S_pages_Page.mk 0 0 0 0 (fun (_ : Fin 16) => 0))).length) v_v937) ((wi .i64 (v_i936 + (v_v937.length : Int))).toNat) ((cpyR (v_s934.take v_i936.toNat ++ List.replicate (v_s934.length + v_v937.length - v_i936.toNat) (S_pages_Page.mk 0 0 0 0 (fun (_ : Fin 16) => 0))) v_i936.toNat ((v_s934.take v_i936.toNat ++ List.replicate (v_s934.length + v_v937.length - v_i936.toNat) (S_pages_Page.mk 0 0 0 0 (fun (_ : Fin 16) => 0))).length) v_v937).length) ((v_s934.take v_s934.length).drop v_i936.toNat))
            else none
           else none
          else none
         else none
        else none
       else none
      else none
     else
      if 0 < v_v937.length ∧ (v_s934.length + v_v937.length) ≤ v_C935 ∧ (wi .i64 ((v_s934.length : Int) + (v_v937.length : Int))) = (((v_s934.length + v_v937.length) : Nat) : Int) then
       if (wi .i64 (v_i936 + (v_v937.length : Int))) = (((v_i936.toNat + v_v937.length) : Nat) : Int) ∧ (v_i936.toNat + v_v937.length) ≤ (v_s934.length + v_v937.length) then
        if (wi .i64 (v_i936 + (v_v937.length : Int))) = (((v_i936.toNat + v_v937.length) : Nat) : Int) ∧ (v_i936.toNat + v_v937.length) ≤ (v_s934.length + v_v937.length) then
         if 0 ≤ v_i936 ∧ v_i936 ≤ (((v_s934.length + v_v937.length) : Nat) : Int) then
          if 0 ≤ v_i936 ∧ v_i936 ≤ (((v_s934.length + v_v937.length) : Nat) : Int) then
           some ((v_s934.take v_i936.toNat) ++ v_v937 ++ (v_s934.drop v_i936.toNat))
          else none
         else none
        else none
       else none
      else none
  else none
theorem G_slices_Insert_pages_Page_pages_Page_hC_ok (n : Nat) (v_C935 : Nat) (v_s934 : (List S_pages_Page)) (v_i936 : Int) (v_v937 : (List S_pages_Page)) (r : (List S_pages_Page)) (h : G_slices_Insert_pages_Page_pages_Page_hC n v_C935 v_s934 v_i936 v_v937 = some r) : RetH Try.prog 19 [.srf 0, .d ((eI .i64) v_i936), .d ((eL eS_pages_Page) v_v937)] [.cu (rowC 34 20 v_C935 (v_s934.map eS_pages_Page)) []] (.srf 1) [.none, .row 34 20 (r.map eS_pages_Page)] := by
  refine retH_run (n := 95) (fn := Try.f19) (c := bodyOf Try.f19) (by kernel_rfl) (by kernel_rfl) (by kernel_rfl) (by kernel_rfl) ?_
  have hF : KC 95 (FinH Try.prog Try.f19 [.cu (rowC 34 20 v_C935 (v_s934.map eS_pages_Page)) []] (.srf 1) [.none, .row 34 20 (r.map eS_pages_Page)]) := FinH.kc' (by kernel_rfl)
  unfold G_slices_Insert_pages_Page_pages_Page_hC at h
  by_cases h586 : (0 ≤ v_i936 ∧ v_i936 ≤ (v_s934.length : Int)) ∧ v_s934.length ≤ v_C935
  · rw [if_pos h586] at h
    by_cases h587 : (v_v937.length : Int) = 0
    · rw [if_pos h587] at h
      obtain rfl := Option.some.inj h
      exact pendH_sound TTok mix 14 (hs := [.e 17 [0] (.ssl 0 v_i936.toNat v_s934.length 20) [], .u (.d (.v (.int .i64 (v_v937.length : Int)))), .t true, .e 47 [0, 47] (.srf 47) [(0, .none), (47, .row 34 20 (v_s934.map eS_pages_Page))]]) [0, 47] (by kernel_rfl) (by kernel_rfl) (by kernel_rfl) (.cons (ext_same (yc10 (P := Try.prog) (T := TT) (f := eS_pages_Page) (t := 22) (e := 34) (s := 20) (l := 0) (L := v_s934) (x := (.tmp 10)) (C := v_C935) (lo := (.tmp 11)) (A := v_i936) (ka := .i64) (by kernel_rfl) h586.1 h586.2)) (.cons (len_ob (f := eS_pages_Page) (l := v_v937)) (.cons (bt h587) (.cons (ymv (L := v_s934) (C := v_C935) (P := Try.prog) (T := TT) (f := eS_pages_Page) (e := 34) (s := 20) (l := 0) (nl := 47) (x := (.tmp 0)) (by decide)) .nil))))
    · rw [if_neg h587] at h
      by_cases h590 : v_i936 = (v_s934.length : Int)
      · rw [if_pos h590] at h
        obtain ⟨v_a939, h591, h⟩ := bind_some h
        obtain rfl := Option.some.inj h
        exact pendH_sound TTok mix 21 (hs := [.e 17 [0] (.ssl 0 v_i936.toNat v_s934.length 20) [], .u (.d (.v (.int .i64 (v_v937.length : Int)))), .t false, .e 52 [0] (.d (.v (.int .i64 (v_s934.length : Int)))) [], .t true, .e 87 [0, 87] (.srf 87) [(0, .none), (87, .row 34 20 (v_a939.map eS_pages_Page))]]) [0, 87] (by kernel_rfl) (by kernel_rfl) (by kernel_rfl) (.cons (ext_same (yc10 (P := Try.prog) (T := TT) (f := eS_pages_Page) (t := 22) (e := 34) (s := 20) (l := 0) (L := v_s934) (x := (.tmp 10)) (C := v_C935) (lo := (.tmp 11)) (A := v_i936) (ka := .i64) (by kernel_rfl) h586.1 h586.2)) (.cons (len_ob (f := eS_pages_Page) (l := v_v937)) (.cons (bf h587) (.cons (ylen (P := Try.prog) (T := TT) (f := eS_pages_Page) (t := 22) (e := 34) (s := 20) (l := 0) (L := v_s934) (C := v_C935) (x := (.tmp 18)) (by kernel_rfl)) (.cons (bt h590) (.cons (yapp (P := Try.prog) (T := TT) (f := eS_pages_Page) (t := 22) (e := 34) (s := 20) (l := 0) (nl := 87) (C := v_C935) (x := (.tmp 23)) (y := (.tmp 24)) (ti := ⟨20, 48, .st [(0, 3), (1, 3), (2, 3), (3, 3), (4, 25)], (List.replicate 4 (.i .i64) ++ List.replicate 16 (.i .u8))⟩) (by kernel_rfl) h591 (by kernel_rfl) (by kernel_rfl) (by decide) (fun _ => rfl) (by decide)) .nil))))))
      · rw [if_neg h590] at h
        by_cases h600 : (wi .i64 ((v_s934.length : Int) + (v_v937.length : Int))) > (v_C935 : Int)
        · rw [if_pos h600] at h
          by_cases h601 : (0 ≤ v_i936 ∧ v_i936 ≤ (v_s934.length : Int)) ∧ v_s934.length ≤ v_C935
          · rw [if_pos h601] at h
            by_cases h602 : (wi .i64 ((wi .i64 ((v_s934.length : Int) + (v_v937.length : Int))) - v_i936)) = (((v_s934.length + v_v937.length - v_i936.toNat) : Nat) : Int) ∧ v_i936.toNat ≤ v_s934.length ∧ 0 < (v_s934.length + v_v937.length - v_i936.toNat) ∧ v_C935 < v_i936.toNat + (v_s934.length + v_v937.length - v_i936.toNat) ∧ v_i936.toNat + (v_s934.length + v_v937.length - v_i936.toNat) ≤ maxLen ∧ (v_i936.toNat + (v_s934.length + v_v937.length - v_i936.toNat)) * 48 ≤ 140737488355328
            · rw [if_pos h602] at h
              by_cases h603 : ((0 : Int) ≤ v_i936 ∧ v_i936 ≤ ((v_s934.take v_i936.toNat ++ List.replicate (v_s934.length + v_v937.length - v_i936.toNat) (S_pages_Page.mk 0 0 0 0 (fun (_ : Fin 16) => 0))).length : Int))
              · rw [if_pos h603] at h
                by_cases h604 : (v_s934.take v_i936.toNat ++ List.replicate (v_s934.length + v_v937.length - v_i936.toNat) (S_pages_Page.mk 0 0 0 0 (fun (_ : Fin 16) => 0))).length ≤ (v_s934.take v_i936.toNat ++ List.replicate (v_s934.length + v_v937.length - v_i936.toNat) (S_pages_Page.mk 0 0 0 0 (fun (_ : Fin 16) => 0))).length
                · rw [if_pos h604] at h
                  by_cases h605 : ((0 : Int) ≤ (wi .i64 (v_i936 + (v_v937.length : Int))) ∧ (wi .i64 (v_i936 + (v_v937.length : Int))) ≤ ((cpyR (v_s934.take v_i936.toNat ++ List.replicate (v_s934.length + v_v937.length - v_i936.toNat) (S_pages_Page.mk 0 0 0 0 (fun (_ : Fin 16) => 0))) v_i936.toNat ((v_s934.take v_i936.toNat ++ List.replicate (v_s934.length + v_v937.length - v_i936.toNat) (S_pages_Page.mk 0 0 0 0 (fun (_ : Fin 16) => 0))).length) v_v937).length : Int))
                  · rw [if_pos h605] at h
                    by_cases h606 : (0 ≤ v_i936 ∧ v_i936 ≤ (v_s934.length : Int)) ∧ v_s934.length ≤ v_C935
                    · rw [if_pos h606] at h
                      by_cases h607 : (cpyR (v_s934.take v_i936.toNat ++ List.replicate (v_s934.length + v_v937.length - v_i936.toNat) (S_pages_Page.mk 0 0 0 0 (fun (_ : Fin 16) => 0))) v_i936.toNat ((v_s934.take v_i936.toNat ++ List.replicate (v_s934.length + v_v937.length - v_i936.toNat) (S_pages_Page.mk 0 0 0 0 (fun (_ : Fin 16) => 0))).length) v_v937).length ≤ (cpyR (v_s934.take v_i936.toNat ++ List.replicate (v_s934.length + v_v937.length - v_i936.toNat) (S_pages_Page.mk 0 0 0 0 (fun (_ : Fin 16) => 0))) v_i936.toNat ((v_s934.take v_i936.toNat ++ List.replicate (v_s934.length + v_v937.length - v_i936.toNat) (S_pages_Page.mk 0 0 0 0 (fun (_ : Fin 16) => 0))).length) v_v937).length ∧ v_s934.length ≤ v_s934.length
                      · rw [if_pos h607] at h
                        obtain rfl := Option.some.inj h
                        exact pendH_sound TTok mix 32 (hs := [.e 17 [0] (.ssl 0 v_i936.toNat v_s934.length 20) [], .u (.d (.v (.int .i64 (v_v937.length : Int)))), .t false, .e 52 [0] (.d (.v (.int .i64 (v_s934.length : Int)))) [], .t false, .e 97 [0] (.d (.v (.int .i64 (v_C935 : Int)))) [], .t true, .e 117 [0] (.ssl 0 0 v_i936.toNat 20) [], .e 147 [0, 147] (.srf 147) [(147, .row 34 20 ((v_s934.take v_i936.toNat ++ List.replicate (v_s934.length + v_v937.length - v_i936.toNat) (S_pages_Page.mk 0 0 0 0 (fun (_ : Fin 16) => 0))).map eS_pages_Page))], .e 167 [147] (.ssl 147 v_i936.toNat ((v_s934.take v_i936.toNat ++ List.replicate (v_s934.length + v_v937.length - v_i936.toNat) (S_pages_Page.mk 0 0 0 0 (fun (_ : Fin 16) => 0))).length) 20) [], .e 177 [147] (.d (.v (.int .i64 ((Nat.min v_v937.length ((v_s934.take v_i936.toNat ++ List.replicate (v_s934.length + v_v937.length - v_i936.toNat) (S_pages_Page.mk 0 0 0 0 (fun (_ : Fin 16) => 0))).length - v_i936.toNat) : Nat) : Int)))) [(147, .row 34 20 ((cpyR (v_s934.take v_i936.toNat ++ List.replicate (v_s934.length + v_v937.length - v_i936.toNat) (S_pages_Page.mk 0 0 0 0 (fun (_ : Fin 16) => 0))) v_i936.toNat ((v_s934.take v_i936.toNat ++ List.replicate (v_s934.length + v_v937.length - v_i936.toNat) (S_pages_Page.mk 0 0 0 0 (fun (_ : Fin 16) => 0))).length) v_v937).map eS_pages_Page))], .e 202 [147] (.ssl 147 ((wi .i64 (v_i936 + (v_v937.length : Int))).toNat) ((cpyR (v_s934.take v_i936.toNat ++ List.replicate (v_s934.length + v_v937.length - v_i936.toNat) (S_pages_Page.mk 0 0 0 0 (fun (_ : Fin 16) => 0))) v_i936.toNat ((v_s934.take v_i936.toNat ++ List.replicate (v_s934.length + v_v937.length - v_i936.toNat) (S_pages_Page.mk 0 0 0 0 (fun (_ : Fin 16) => 0))).length) v_v937).length) 20) [], .e 217 [0] (.ssl 0 v_i936.toNat v_s934.length 20) [], .e 222 [147, 0] (.d (.v (.int .i64 ((Nat.min ((v_s934.take v_s934.length).drop v_i936.toNat).length ((cpyR (v_s934.take v_i936.toNat ++ List.replicate (v_s934.length + v_v937.length - v_i936.toNat) (S_pages_Page.mk 0 0 0 0 (fun (_ : Fin 16) => 0))) v_i936.toNat ((v_s934.take v_i936.toNat ++ List.replicate (v_s934.length + v_v937.length - v_i936.toNat) (S_pages_Page.mk 0 0 0 0 (fun (_ : Fin 16) => 0))).length) v_v937).length - (wi .i64 (v_i936 + (v_v937.length : Int))).toNat) : Nat) : Int)))) [(147, .row 34 20 ((cpyR (cpyR (v_s934.take v_i936.toNat ++ List.replicate (v_s934.length + v_v937.length - v_i936.toNat) (S_pages_Page.mk 0 0 0 0 (fun (_ : Fin 16) => 0))) v_i936.toNat ((v_s934.take v_i936.toNat ++ List.replicate (v_s934.length + v_v937.length - v_i936.toNat) (S_pages_Page.mk 0 0 0 0 (fun (_ : Fin 16) => 0))).length) v_v937) ((wi .i64 (v_i936 + (v_v937.length : Int))).toNat) ((cpyR (v_s934.take v_i936.toNat ++ List.replicate (v_s934.length + v_v937.length - v_i936.toNat) (S_pages_Page.mk 0 0 0 0 (fun (_ : Fin 16) => 0))) v_i936.toNat ((v_s934.take v_i936.toNat ++ List.replicate (v_s934.length + v_v937.length - v_i936.toNat) (S_pages_Page.mk 0 0 0 0 (fun (_ : Fin 16) => 0))).length) v_v937).length) ((v_s934.take v_s934.length).drop v_i936.toNat)).map eS_pages_Page)), (0, .none)]]) [0, 147] (by kernel_rfl) (by kernel_rfl) (by kernel_rfl) (.cons (ext_same (yc10 (P := Try.prog) (T := TT) (f := eS_pages_Page) (t := 22) (e := 34) (s := 20) (l := 0) (L := v_s934) (x := (.tmp 10)) (C := v_C935) (lo := (.tmp 11)) (A := v_i936) (ka := .i64) (by kernel_rfl) h586.1 h586.2)) (.cons (len_ob (f := eS_pages_Page) (l := v_v937)) (.cons (bf h587) (.cons (ylen (P := Try.prog) (T := TT) (f := eS_pages_Page) (t := 22) (e := 34) (s := 20) (l := 0) (L := v_s934) (C := v_C935) (x := (.tmp 18)) (by kernel_rfl)) (.cons (bf h590) (.cons (ycap (P := Try.prog) (T := TT) (f := eS_pages_Page) (t := 22) (e := 34) (s := 20) (l := 0) (L := v_s934) (C := v_C935) (x := (.tmp 29)) (by kernel_rfl)) (.cons (dt h600) (.cons (ext_same (yc01 (P := Try.prog) (T := TT) (f := eS_pages_Page) (t := 22) (e := 34) (s := 20) (l := 0) (L := v_s934) (x := (.tmp 32)) (C := v_C935) (hi := (.tmp 33)) (B := v_i936) (kb := .i64) (by kernel_rfl) h601.1 h601.2)) (.cons (yapZ (P := Try.prog) (T := TT) (f := eS_pages_Page) (t := 22) (e := 34) (s := 20) (l := 0) (nl := 147) (C := v_C935) (i := v_i936.toNat) (k := (v_s934.length + v_v937.length - v_i936.toNat)) (L := v_s934) (x := (.tmp 34)) (y := (.tmp 39)) (ti := ⟨20, 48, .st [(0, 3), (1, 3), (2, 3), (3, 3), (4, 25)], (List.replicate 4 (.i .i64) ++ List.replicate 16 (.i .u8))⟩) (tn := 3) (kn := .i64) (kq := .i64) (z := (S_pages_Page.mk 0 0 0 0 (fun (_ : Fin 16) => 0))) (p := .agg [.v (.int .i64 0), .v (.int .i64 0), .v (.int .i64 0), .v (.int .i64 0), .v (.int .u8 0), .v (.int .u8 0), .v (.int .u8 0), .v (.int .u8 0), .v (.int .u8 0), .v (.int .u8 0), .v (.int .u8 0), .v (.int .u8 0), .v (.int .u8 0), .v (.int .u8 0), .v (.int .u8 0), .v (.int .u8 0), .v (.int .u8 0), .v (.int .u8 0), .v (.int .u8 0), .v (.int .u8 0)]) (B := (wi .i64 ((wi .i64 ((v_s934.length : Int) + (v_v937.length : Int))) - v_i936))) (by kernel_rfl) (by kernel_rfl) (by kernel_rfl) (by kernel_rfl) (by kernel_rfl) (by decide) rfl h602.1 h602.2.1 h602.2.2.1 h602.2.2.2.1 h602.2.2.2.2.1 h602.2.2.2.2.2 (by decide)) (.cons (xs10 (P := Try.prog) (T := TT) (f := eS_pages_Page) (t := 22) (e := 34) (s := 20) (l := 147) (L := (v_s934.take v_i936.toNat ++ List.replicate (v_s934.length + v_v937.length - v_i936.toNat) (S_pages_Page.mk 0 0 0 0 (fun (_ : Fin 16) => 0)))) (x := (.tmp 41)) (lo := (.tmp 42)) (a := v_i936) (ka := .i64) (by kernel_rfl) h603) (.cons (xcpD (P := Try.prog) (T := TT) (f := eS_pages_Page) (t := 22) (t' := 22) (e := 34) (s := 20) (l := 147) (x := (.tmp 43)) (y := (.tmp 44)) (ti := ⟨20, 48, .st [(0, 3), (1, 3), (2, 3), (3, 3), (4, 25)], (List.replicate 4 (.i .i64) ++ List.replicate 16 (.i .u8))⟩) (L := (v_s934.take v_i936.toNat ++ List.replicate (v_s934.length + v_v937.length - v_i936.toNat) (S_pages_Page.mk 0 0 0 0 (fun (_ : Fin 16) => 0)))) (Y := v_v937) (i := v_i936.toNat) (j := (v_s934.take v_i936.toNat ++ List.replicate (v_s934.length + v_v937.length - v_i936.toNat) (S_pages_Page.mk 0 0 0 0 (fun (_ : Fin 16) => 0))).length) (by kernel_rfl) (by kernel_rfl) h604 (fun _ => rfl)) (.cons (xs10 (P := Try.prog) (T := TT) (f := eS_pages_Page) (t := 22) (e := 34) (s := 20) (l := 147) (L := (cpyR (v_s934.take v_i936.toNat ++ List.replicate (v_s934.length + v_v937.length - v_i936.toNat) (S_pages_Page.mk 0 0 0 0 (fun (_ : Fin 16) => 0))) v_i936.toNat ((v_s934.take v_i936.toNat ++ List.replicate (v_s934.length + v_v937.length - v_i936.toNat) (S_pages_Page.mk 0 0 0 0 (fun (_ : Fin 16) => 0))).length) v_v937)) (x := (.tmp 46)) (lo := (.tmp 49)) (a := (wi .i64 (v_i936 + (v_v937.length : Int)))) (ka := .i64) (by kernel_rfl) h605) (.cons (ext_same (yc10 (P := Try.prog) (T := TT) (f := eS_pages_Page) (t := 22) (e := 34) (s := 20) (l := 0) (L := v_s934) (x := (.tmp 51)) (C := v_C935) (lo := (.tmp 52)) (A := v_i936) (ka := .i64) (by kernel_rfl) h606.1 h606.2)) (.cons (ext_kill (l := 0) (ycpC (P := Try.prog) (T := TT) (f := eS_pages_Page) (t := 22) (t' := 22) (e := 34) (s := 20) (l := 147) (x := (.tmp 50)) (y := (.tmp 53)) (ti := ⟨20, 48, .st [(0, 3), (1, 3), (2, 3), (3, 3), (4, 25)], (List.replicate 4 (.i .i64) ++ List.replicate 16 (.i .u8))⟩) (L := (cpyR (v_s934.take v_i936.toNat ++ List.replicate (v_s934.length + v_v937.length - v_i936.toNat) (S_pages_Page.mk 0 0 0 0 (fun (_ : Fin 16) => 0))) v_i936.toNat ((v_s934.take v_i936.toNat ++ List.replicate (v_s934.length + v_v937.length - v_i936.toNat) (S_pages_Page.mk 0 0 0 0 (fun (_ : Fin 16) => 0))).length) v_v937)) (i := (wi .i64 (v_i936 + (v_v937.length : Int))).toNat) (j := (cpyR (v_s934.take v_i936.toNat ++ List.replicate (v_s934.length + v_v937.length - v_i936.toNat) (S_pages_Page.mk 0 0 0 0 (fun (_ : Fin 16) => 0))) v_i936.toNat ((v_s934.take v_i936.toNat ++ List.replicate (v_s934.length + v_v937.length - v_i936.toNat) (S_pages_Page.mk 0 0 0 0 (fun (_ : Fin 16) => 0))).length) v_v937).length) (p := v_i936.toNat) (q := v_s934.length) (Y := v_s934) (l' := 0) (C := v_C935) (by kernel_rfl) (by kernel_rfl) h607.1 h607.2)) .nil))))))))))))))
                      · rw [if_neg h607] at h; cases h
                    · rw [if_neg h606] at h; cases h
                  · rw [if_neg h605] at h; cases h
                · rw [if_neg h604] at h; cases h
              · rw [if_neg h603] at h; cases h
            · rw [if_neg h602] at h; cases h
          · rw [if_neg h601] at h; cases h
        · rw [if_neg h600] at h
          by_cases h608 : 0 < v_v937.length ∧ (v_s934.length + v_v937.length) ≤ v_C935 ∧ (wi .i64 ((v_s934.length : Int) + (v_v937.length : Int))) = (((v_s934.length + v_v937.length) : Nat) : Int)
          · rw [if_pos h608] at h
            by_cases h609 : (wi .i64 (v_i936 + (v_v937.length : Int))) = (((v_i936.toNat + v_v937.length) : Nat) : Int) ∧ (v_i936.toNat + v_v937.length) ≤ (v_s934.length + v_v937.length)
            · rw [if_pos h609] at h
              by_cases h613 : (wi .i64 (v_i936 + (v_v937.length : Int))) = (((v_i936.toNat + v_v937.length) : Nat) : Int) ∧ (v_i936.toNat + v_v937.length) ≤ (v_s934.length + v_v937.length)
              · rw [if_pos h613] at h
                by_cases h614 : 0 ≤ v_i936 ∧ v_i936 ≤ (((v_s934.length + v_v937.length) : Nat) : Int)
                · rw [if_pos h614] at h
                  by_cases h615 : 0 ≤ v_i936 ∧ v_i936 ≤ (((v_s934.length + v_v937.length) : Nat) : Int)
                  · rw [if_pos h615] at h
                    obtain rfl := Option.some.inj h
                    exact pendH_sound TTok mix 37 (hs := [.e 17 [0] (.ssl 0 v_i936.toNat v_s934.length 20) [], .u (.d (.v (.int .i64 (v_v937.length : Int)))), .t false, .e 52 [0] (.d (.v (.int .i64 (v_s934.length : Int)))) [], .t false, .e 97 [0] (.d (.v (.int .i64 (v_C935 : Int)))) [], .t false, .e 127 [0] (.ssl 0 0 (v_s934.length + v_v937.length) 20) [(0, .cu (rowH 34 20 v_C935 (v_s934.map eS_pages_Page) v_v937.length (([] : List S_pages_Page).map eS_pages_Page)) [])], .e 162 [0] (.ssl 0 (v_i936.toNat + v_v937.length) (v_s934.length + v_v937.length) 20) [], .e 167 [0] (.d (.v (.bool false))) [], .c, .e 197 [0] (.ssl 0 (v_i936.toNat + v_v937.length) (v_s934.length + v_v937.length) 20) [], .e 212 [0] (.ssl 0 v_i936.toNat (v_s934.length + v_v937.length) 20) [], .e 217 [0] (.d (.v (.int .i64 ((v_s934.length - v_i936.toNat : Nat) : Int)))) [(0, .cu (rowH 34 20 v_C935 ((v_s934.take v_i936.toNat).map eS_pages_Page) v_v937.length ((v_s934.drop v_i936.toNat).map eS_pages_Page)) [])], .e 232 [0] (.ssl 0 v_i936.toNat (v_s934.length + v_v937.length) 20) [], .e 242 [0] (.d (.v (.int .i64 (v_v937.length : Int)))) [(0, .cu (rowH 34 20 v_C935 (((v_s934.take v_i936.toNat) ++ v_v937 ++ (v_s934.drop v_i936.toNat)).map eS_pages_Page) 0 (([] : List S_pages_Page).map eS_pages_Page)) [])], .e 247 [0, 247] (.srf 247) [(0, .none), (247, .row 34 20 (((v_s934.take v_i936.toNat) ++ v_v937 ++ (v_s934.drop v_i936.toNat)).map eS_pages_Page))]]) [0, 247] (by kernel_rfl) (by kernel_rfl) (by kernel_rfl) (.cons (ext_same (yc10 (P := Try.prog) (T := TT) (f := eS_pages_Page) (t := 22) (e := 34) (s := 20) (l := 0) (L := v_s934) (x := (.tmp 10)) (C := v_C935) (lo := (.tmp 11)) (A := v_i936) (ka := .i64) (by kernel_rfl) h586.1 h586.2)) (.cons (len_ob (f := eS_pages_Page) (l := v_v937)) (.cons (bf h587) (.cons (ylen (P := Try.prog) (T := TT) (f := eS_pages_Page) (t := 22) (e := 34) (s := 20) (l := 0) (L := v_s934) (C := v_C935) (x := (.tmp 18)) (by kernel_rfl)) (.cons (bf h590) (.cons (ycap (P := Try.prog) (T := TT) (f := eS_pages_Page) (t := 22) (e := 34) (s := 20) (l := 0) (L := v_s934) (C := v_C935) (x := (.tmp 29)) (by kernel_rfl)) (.cons (df h600) (.cons (ycup (P := Try.prog) (T := TT) (f := eS_pages_Page) (t := 22) (e := 34) (s := 20) (l := 0) (L := v_s934) (x := (.tmp 56)) (C := v_C935) (m := v_v937.length) (hi := (.tmp 59)) (B := (wi .i64 ((v_s934.length : Int) + (v_v937.length : Int)))) (kb := .i64) (by kernel_rfl) h608.1 h608.2.1 h608.2.2) (.cons (ext_same (yh10q (P := Try.prog) (T := TT) (f := eS_pages_Page) (t := 22) (e := 34) (s := 20) (l := 0) (L := v_s934) (x := (.tmp 62)) (C := v_C935) (m := v_v937.length) (k := (v_s934.length + v_v937.length)) (Z := ([] : List S_pages_Page)) (q := (v_i936.toNat + v_v937.length)) (lo := (.tmp 65)) (A := (wi .i64 (v_i936 + (v_v937.length : Int)))) (ka := .i64) (by kernel_rfl) (by simp only [List.length_take, List.length_drop, List.length_nil]; omega) h609.1 h609.2)) (.cons (yov (P := Try.prog) (T := TT) (f := eS_pages_Page) (t := 22) (e := 34) (s := 20) (l := 0) (L := v_s934) (Y := v_v937) (Z := ([] : List S_pages_Page)) (m := v_v937.length) (C := v_C935) (i := (v_i936.toNat + v_v937.length)) (j := (v_s934.length + v_v937.length)) (x := (.tmp 61)) (y := (.tmp 66)) (g := 28) (fn := Try.f28) (tR := 4) (tys := #[22, 22]) (by kernel_rfl) (by kernel_rfl) (by kernel_rfl) (by kernel_rfl) (by kernel_rfl) (by kernel_rfl) (by decide) (fun _ => rfl)) (.cons (ext_same (yh10q (P := Try.prog) (T := TT) (f := eS_pages_Page) (t := 22) (e := 34) (s := 20) (l := 0) (L := v_s934) (x := (.tmp 69)) (C := v_C935) (m := v_v937.length) (k := (v_s934.length + v_v937.length)) (Z := ([] : List S_pages_Page)) (q := (v_i936.toNat + v_v937.length)) (lo := (.tmp 72)) (A := (wi .i64 (v_i936 + (v_v937.length : Int)))) (ka := .i64) (by kernel_rfl) (by simp only [List.length_take, List.length_drop, List.length_nil]; omega) h613.1 h613.2)) (.cons (ext_same (yh10 (P := Try.prog) (T := TT) (f := eS_pages_Page) (t := 22) (e := 34) (s := 20) (l := 0) (L := v_s934) (x := (.tmp 74)) (C := v_C935) (m := v_v937.length) (k := (v_s934.length + v_v937.length)) (Y := ([] : List S_pages_Page)) (lo := (.tmp 75)) (A := v_i936) (ka := .i64) (by kernel_rfl) (by simp only [List.length_take, List.length_drop, List.length_nil]; omega) h614)) (.cons (ycpS (P := Try.prog) (T := TT) (f := eS_pages_Page) (t := 22) (t' := 22) (e := 34) (s := 20) (l := 0) (x := (.tmp 73)) (y := (.tmp 76)) (ti := ⟨20, 48, .st [(0, 3), (1, 3), (2, 3), (3, 3), (4, 25)], (List.replicate 4 (.i .i64) ++ List.replicate 16 (.i .u8))⟩) (L := v_s934) (i := v_i936.toNat) (m := v_v937.length) (C := v_C935) (by kernel_rfl) (by kernel_rfl) (by omega)) (.cons (ext_same (yh10 (P := Try.prog) (T := TT) (f := eS_pages_Page) (t := 22) (e := 34) (s := 20) (l := 0) (L := (v_s934.take v_i936.toNat)) (x := (.tmp 78)) (C := v_C935) (m := v_v937.length) (k := (v_s934.length + v_v937.length)) (Y := (v_s934.drop v_i936.toNat)) (lo := (.tmp 79)) (A := v_i936) (ka := .i64) (by kernel_rfl) (by simp only [List.length_take, List.length_drop, List.length_nil]; omega) h615)) (.cons (ycpD (P := Try.prog) (T := TT) (f := eS_pages_Page) (t := 22) (t' := 22) (e := 34) (s := 20) (l := 0) (x := (.tmp 80)) (y := (.tmp 81)) (ti := ⟨20, 48, .st [(0, 3), (1, 3), (2, 3), (3, 3), (4, 25)], (List.replicate 4 (.i .i64) ++ List.replicate 16 (.i .u8))⟩) (L := (v_s934.take v_i936.toNat)) (Y := v_v937) (Z := (v_s934.drop v_i936.toNat)) (i := v_i936.toNat) (k := (v_s934.length + v_v937.length)) (m := v_v937.length) (C := v_C935) (by kernel_rfl) (by kernel_rfl) (by simp only [List.length_take, List.length_drop, List.length_nil]; omega) (by simp only [List.length_take, List.length_drop, List.length_nil]; omega) rfl (by omega) (fun _ => rfl)) (.cons (ymvH (L := ((v_s934.take v_i936.toNat) ++ v_v937 ++ (v_s934.drop v_i936.toNat))) (C := v_C935) (k := (v_s934.length + v_v937.length)) (P := Try.prog) (T := TT) (f := eS_pages_Page) (e := 34) (s := 20) (l := 0) (nl := 247) (x := (.tmp 0)) (by simp only [List.length_append, List.length_take, List.length_drop]; omega)) .nil))))))))))))))))
                  · rw [if_neg h615] at h; cases h
                · rw [if_neg h614] at h; cases h
              · rw [if_neg h613] at h; cases h
            · rw [if_neg h609] at h; cases h
          · rw [if_neg h608] at h; cases h
  · rw [if_neg h586] at h; cases h
def G_slices_Insert_pages_Page_pages_Page_h (n : Nat) (s : (List S_pages_Page)) (i : Int) (v : (List S_pages_Page)) : Option (List S_pages_Page) := insI 48 s i v
theorem G_slices_Insert_pages_Page_pages_Page_h_all (C n : Nat) (s : (List S_pages_Page)) (i : Int) (v r : (List S_pages_Page)) (h1 : s.length ≤ C) (h2 : C ≤ maxLen) (h : G_slices_Insert_pages_Page_pages_Page_h n s i v = some r) : G_slices_Insert_pages_Page_pages_Page_hC n C s i v = some r := by
  unfold G_slices_Insert_pages_Page_pages_Page_h insI at h
  split at h
  · rename_i c
    obtain ⟨c1, c2, c3, c4⟩ := c
    obtain rfl := Option.some.inj h
    obtain ⟨i, rfl⟩ := Int.eq_ofNat_of_zero_le c1
    simp only [Int.toNat_natCast]
    have hi : i ≤ s.length := by omega
    have w1 : wi .i64 ((s.length : Int) + (v.length : Int)) = ((s.length + v.length : Nat) : Int) := by rw [wi, IntKind.wrap_i64]; omega
    have w2 : wi .i64 ((i : Int) + (v.length : Int)) = ((i + v.length : Nat) : Int) := by rw [wi, IntKind.wrap_i64]; omega
    have w3 : wi .i64 (((s.length + v.length : Nat) : Int) - (i : Int)) = ((s.length + v.length - i : Nat) : Int) := by rw [wi, IntKind.wrap_i64]; omega
    unfold G_slices_Insert_pages_Page_pages_Page_hC
    rw [if_pos ⟨⟨by omega, by omega⟩, h1⟩]
    by_cases hm : (v.length : Int) = 0
    · rw [if_pos hm]
      have : v = [] := List.eq_nil_of_length_eq_zero (by omega)
      subst this; simp
    · rw [if_neg hm]
      by_cases he : (i : Int) = (s.length : Int)
      · rw [if_pos he]
        have e : i = s.length := by omega
        subst e
        unfold app
        rw [if_pos ⟨by unfold maxLen; omega, c4⟩]
        simp
      · rw [if_neg he, w1]
        by_cases hg : ((s.length + v.length : Nat) : Int) > (C : Int)
        · rw [if_pos hg, w3]
          simp only [Int.toNat_natCast]
          have hl : (s.take i ++ List.replicate (s.length + v.length - i) (S_pages_Page.mk 0 0 0 0 (fun (_ : Fin 16) => 0))).length = s.length + v.length := by simp; omega
          rw [if_pos ⟨⟨by omega, by omega⟩, h1⟩, if_pos ⟨trivial, hi, by omega, by omega, by unfold maxLen; omega, by rw [show i + (s.length + v.length - i) = s.length + v.length by omega]; exact c4⟩, w2]
          simp only [Int.toNat_natCast]
          rw [if_pos ⟨by omega, by rw [hl]; omega⟩, if_pos (Nat.le_refl _)]
          have hl2 : (cpyR (s.take i ++ List.replicate (s.length + v.length - i) (S_pages_Page.mk 0 0 0 0 (fun (_ : Fin 16) => 0))) i (s.take i ++ List.replicate (s.length + v.length - i) (S_pages_Page.mk 0 0 0 0 (fun (_ : Fin 16) => 0))).length v).length = s.length + v.length := by
            unfold cpyR
            rw [hl]
            rcases Nat.le_total v.length (s.length + v.length - i) with h' | h'
            · rw [show Nat.min v.length (s.length + v.length - i) = v.length from Nat.min_eq_left h']; simp; omega
            · rw [show Nat.min v.length (s.length + v.length - i) = s.length + v.length - i from Nat.min_eq_right h']; simp; omega
          rw [if_pos ⟨by omega, by rw [hl2]; omega⟩, if_pos ⟨⟨by omega, by omega⟩, h1⟩, if_pos ⟨Nat.le_refl _, Nat.le_refl _⟩]
          rw [ins_grow hi rfl]
        · rw [if_neg hg, w2]
          simp only [Int.toNat_natCast]
          rw [if_pos ⟨by omega, by omega, trivial⟩, if_pos ⟨trivial, by omega⟩, if_pos ⟨trivial, by omega⟩, if_pos ⟨by omega, by omega⟩, if_pos ⟨by omega, by omega⟩]
  · cases h
theorem G_slices_Insert_pages_Page_pages_Page_h_ok (n : Nat) (s : (List S_pages_Page)) (i : Int) (v r : (List S_pages_Page)) (h : G_slices_Insert_pages_Page_pages_Page_h n s i v = some r) : RetH Try.prog 19 [.srf 0, .d (.v (.int .i64 i)), .d ((eL eS_pages_Page) v)] [.row 34 20 (s.map eS_pages_Page)] (.srf 1) [.none, .row 34 20 (r.map eS_pages_Page)] :=
  retH_cap ⟨Try.f19, by kernel_rfl, by kernel_rfl, by kernel_rfl⟩ (fun C h1 h2 => G_slices_Insert_pages_Page_pages_Page_hC_ok n C s i v r (G_slices_Insert_pages_Page_pages_Page_h_all C n s i v r (by simpa using h1) h2 h))
/- ringhall/pages.Bring -/
def G_pages_Bring (n : Nat) (v_c12 : S_pages_Cache) (v_file13 : Int) (v_n14 : Int) (v_data15 : (Fin 16 → Int)) : Option (S_pages_Cache × Int) :=
  (G_pages_at n v_c12 v_file13 v_n14).bind fun (v_r841 : (Int × Bool × Int)) =>
  if v_r841.2.2 = 0 then
   if v_r841.2.1 = true then
    some ((S_pages_Cache.mk ([] : (List S_pages_Page)) 0), 5)
   else
    if (v_c12.fPages.length : Int) = 64 then
     some ((S_pages_Cache.mk ([] : (List S_pages_Page)) 0), 6)
    else
     (G_slices_Clone_pages_Page_pages_Page n v_c12.fPages).bind fun (v_r933 : ((List S_pages_Page))) =>
     (G_slices_Insert_pages_Page_pages_Page_h n v_r933 v_r841.1 ([(S_pages_Page.mk v_file13 v_n14 0 0 v_data15)])).bind fun (v_r940 : ((List S_pages_Page))) =>
     some ((S_pages_Cache.mk v_r940 v_c12.fClock), 0)
  else
   some ((S_pages_Cache.mk ([] : (List S_pages_Page)) 0), v_r841.2.2)
theorem G_pages_Bring_ok (n : Nat) (v_c12 : S_pages_Cache) (v_file13 : Int) (v_n14 : Int) (v_data15 : (Fin 16 → Int)) (r : S_pages_Cache × Int) (h : G_pages_Bring n v_c12 v_file13 v_n14 v_data15 = some r) : Ret Try.prog 4 [eS_pages_Cache v_c12, (eI .i64) v_file13, (eI .i64) v_n14, (fun x => PV.agg (cA_t25 x)) v_data15] (.tup [eS_pages_Cache r.1, (eI .i64) r.2]) := by
  refine ret_run (n := 48) (fn := Try.f4) (c := bodyOf Try.f4) (by kernel_rfl) (by kernel_rfl) (by kernel_rfl) (by kernel_rfl) ?_
  have hF : KC 48 (FinR Try.prog Try.f4 (.tup [eS_pages_Cache r.1, (eI .i64) r.2])) := FinR.kc' (by kernel_rfl)
  unfold G_pages_Bring at h
  obtain ⟨v_r841, h564, h⟩ := bind_some h
  by_cases h577 : v_r841.2.2 = 0
  · rw [if_pos h577] at h
    by_cases h580 : v_r841.2.1 = true
    · rw [if_pos h580] at h
      obtain rfl := Option.some.inj h
      exact pend_sound TTok mix 17 (hs := [.c, .r (.tup [(eI .i64) v_r841.1, eB v_r841.2.1, (eI .i64) v_r841.2.2]), .t false, .t true, .c]) (by kernel_rfl) (by kernel_rfl) (by kernel_rfl) (.cons (G_pages_at_ok n v_c12 v_file13 v_n14 _ h564) (.cons (nf h577) (.cons h580 (.cons (show 0 + 2 ≤ 2 by decide) .nil))))
    · rw [if_neg h580] at h
      by_cases h582 : (v_c12.fPages.length : Int) = 64
      · rw [if_pos h582] at h
        obtain rfl := Option.some.inj h
        exact pend_sound TTok mix 20 (hs := [.c, .r (.tup [(eI .i64) v_r841.1, eB v_r841.2.1, (eI .i64) v_r841.2.2]), .t false, .t false, .c, .u (.d (.v (.int .i64 (v_c12.fPages.length : Int)))), .t true, .c]) (by kernel_rfl) (by kernel_rfl) (by kernel_rfl) (.cons (G_pages_at_ok n v_c12 v_file13 v_n14 _ h564) (.cons (nf h577) (.cons (vf h580) (.cons (len_ob (f := eS_pages_Page) (l := v_c12.fPages)) (.cons (bt h582) (.cons (show 0 + 2 ≤ 2 by decide) .nil))))))
      · rw [if_neg h582] at h
        obtain ⟨v_r933, h585, h⟩ := bind_some h
        obtain ⟨v_r940, h616, h⟩ := bind_some h
        obtain rfl := Option.some.inj h
        exact pend_sound TTok mix 20 (hs := [.c, .r (.tup [(eI .i64) v_r841.1, eB v_r841.2.1, (eI .i64) v_r841.2.2]), .t false, .t false, .c, .u (.d (.v (.int .i64 (v_c12.fPages.length : Int)))), .t false, .c, .h [] [] [.row 34 20 (v_r933.map eS_pages_Page)] (.srf 0), .c, .bd, .h [135] [] [.none, .row 34 20 (v_r940.map eS_pages_Page)] (.srf 1), .c, .c]) (by kernel_rfl) (by kernel_rfl) (by kernel_rfl) (.cons (G_pages_at_ok n v_c12 v_file13 v_n14 _ h564) (.cons (nf h577) (.cons (vf h580) (.cons (len_ob (f := eS_pages_Page) (l := v_c12.fPages)) (.cons (bf h582) (.cons (G_slices_Clone_pages_Page_pages_Page_ok n v_c12.fPages _ h585) (.cons (G_slices_Insert_pages_Page_pages_Page_h_ok n v_r933 v_r841.1 ([(S_pages_Page.mk v_file13 v_n14 0 0 v_data15)]) _ h616) (.cons (show 0 + 2 ≤ 2 by decide) .nil))))))))
  · rw [if_neg h577] at h
    obtain rfl := Option.some.inj h
    exact pend_sound TTok mix 14 (hs := [.c, .r (.tup [(eI .i64) v_r841.1, eB v_r841.2.1, (eI .i64) v_r841.2.2]), .t true, .c]) (by kernel_rfl) (by kernel_rfl) (by kernel_rfl) (.cons (G_pages_at_ok n v_c12 v_file13 v_n14 _ h564) (.cons (nt h577) (.cons (show 0 + 2 ≤ 2 by decide) .nil)))
/- ringhall/pages.there -/
def G_pages_there (n : Nat) (v_c957 : S_pages_Cache) (v_file958 : Int) (v_n959 : Int) : Option (Int × Int) :=
  (G_pages_at n v_c957 v_file958 v_n959).bind fun (v_r962 : (Int × Bool × Int)) =>
  if v_r962.2.2 = 0 then
   if v_r962.2.1 = true then
    some (v_r962.1, v_r962.2.2)
   else
    some (v_r962.1, 4)
  else
   some (v_r962.1, v_r962.2.2)
theorem G_pages_there_ok (n : Nat) (v_c957 : S_pages_Cache) (v_file958 : Int) (v_n959 : Int) (r : Int × Int) (h : G_pages_there n v_c957 v_file958 v_n959 = some r) : Ret Try.prog 21 [eS_pages_Cache v_c957, (eI .i64) v_file958, (eI .i64) v_n959] (.tup [(eI .i64) r.1, (eI .i64) r.2]) := by
  refine ret_run (n := 27) (fn := Try.f21) (c := bodyOf Try.f21) (by kernel_rfl) (by kernel_rfl) (by kernel_rfl) (by kernel_rfl) ?_
  have hF : KC 27 (FinR Try.prog Try.f21 (.tup [(eI .i64) r.1, (eI .i64) r.2])) := FinR.kc' (by kernel_rfl)
  unfold G_pages_there at h
  obtain ⟨v_r962, h618, h⟩ := bind_some h
  by_cases h619 : v_r962.2.2 = 0
  · rw [if_pos h619] at h
    by_cases h620 : v_r962.2.1 = true
    · rw [if_pos h620] at h
      obtain rfl := Option.some.inj h
      exact pend_sound TTok mix 12 (hs := [.c, .r (.tup [(eI .i64) v_r962.1, eB v_r962.2.1, (eI .i64) v_r962.2.2]), .t true, .c, .t false]) (by kernel_rfl) (by kernel_rfl) (by kernel_rfl) (.cons (G_pages_at_ok n v_c957 v_file958 v_n959 _ h618) (.cons (bt h619) (.cons (bnf h620) .nil)))
    · rw [if_neg h620] at h
      obtain rfl := Option.some.inj h
      exact pend_sound TTok mix 12 (hs := [.c, .r (.tup [(eI .i64) v_r962.1, eB v_r962.2.1, (eI .i64) v_r962.2.2]), .t true, .c, .t true]) (by kernel_rfl) (by kernel_rfl) (by kernel_rfl) (.cons (G_pages_at_ok n v_c957 v_file958 v_n959 _ h618) (.cons (bt h619) (.cons (bnt (vf h620)) .nil)))
  · rw [if_neg h619] at h
    obtain rfl := Option.some.inj h
    exact pend_sound TTok mix 12 (hs := [.c, .r (.tup [(eI .i64) v_r962.1, eB v_r962.2.1, (eI .i64) v_r962.2.2]), .t false, .c, .c]) (by kernel_rfl) (by kernel_rfl) (by kernel_rfl) (.cons (G_pages_at_ok n v_c957 v_file958 v_n959 _ h618) (.cons (bf h619) .nil))
/- ringhall/pages.Get -/
def G_pages_Get (n : Nat) (v_c950 : S_pages_Cache) (v_file951 : Int) (v_n952 : Int) : Option ((Fin 16 → Int) × Int) :=
  (G_pages_there n v_c950 v_file951 v_n952).bind fun (v_r972 : (Int × Int)) =>
  if v_r972.2 = 0 then
   (getI v_c950.fPages v_r972.1).bind fun (v_y994 : S_pages_Page) =>
   some (v_y994.fData, 0)
  else
   some ((fun (_ : Fin 16) => 0), v_r972.2)
theorem G_pages_Get_ok (n : Nat) (v_c950 : S_pages_Cache) (v_file951 : Int) (v_n952 : Int) (r : (Fin 16 → Int) × Int) (h : G_pages_Get n v_c950 v_file951 v_n952 = some r) : Ret Try.prog 5 [eS_pages_Cache v_c950, (eI .i64) v_file951, (eI .i64) v_n952] (.tup [(fun x => PV.agg (cA_t25 x)) r.1, (eI .i64) r.2]) := by
  refine ret_run (n := 27) (fn := Try.f5) (c := bodyOf Try.f5) (by kernel_rfl) (by kernel_rfl) (by kernel_rfl) (by kernel_rfl) ?_
  have hF : KC 27 (FinR Try.prog Try.f5 (.tup [(fun x => PV.agg (cA_t25 x)) r.1, (eI .i64) r.2])) := FinR.kc' (by kernel_rfl)
  unfold G_pages_Get at h
  obtain ⟨v_r972, h621, h⟩ := bind_some h
  by_cases h623 : v_r972.2 = 0
  · rw [if_pos h623] at h
    obtain ⟨v_y994, h624, h⟩ := bind_some h
    obtain rfl := Option.some.inj h
    exact pend_sound TTok mix 12 (hs := [.c, .r (.tup [(eI .i64) v_r972.1, (eI .i64) v_r972.2]), .t false, .c, .y (eS_pages_Page v_y994), .c]) (by kernel_rfl) (by kernel_rfl) (by kernel_rfl) (.cons (G_pages_there_ok n v_c950 v_file951 v_n952 _ h621) (.cons (nf h623) (.cons (getI_ob (f := eS_pages_Page) h624) (.cons (show 0 + 16 ≤ 16 by decide) .nil))))
  · rw [if_neg h623] at h
    obtain rfl := Option.some.inj h
    exact pend_sound TTok mix 12 (hs := [.c, .r (.tup [(eI .i64) v_r972.1, (eI .i64) v_r972.2]), .t true, .c]) (by kernel_rfl) (by kernel_rfl) (by kernel_rfl) (.cons (G_pages_there_ok n v_c950 v_file951 v_n952 _ h621) (.cons (nt h623) (.cons (show 0 + 16 ≤ 16 by decide) .nil)))
/- ringhall/pages.with -/
def G_pages_with (n : Nat) (v_c1123 : S_pages_Cache) (v_i1124 : Int) (v_p1125 : S_pages_Page) : Option (S_pages_Cache) :=
  (G_slices_Clone_pages_Page_pages_Page n v_c1123.fPages).bind fun (v_r1132 : ((List S_pages_Page))) =>
  if 0 ≤ v_i1124 ∧ (v_i1124).toNat < v_r1132.length then
   (v_r1132[(v_i1124).toNat]?).bind fun (v_y1133 : S_pages_Page) =>
   some (S_pages_Cache.mk (v_r1132.set (v_i1124).toNat v_p1125) v_c1123.fClock)
  else none
theorem G_pages_with_ok (n : Nat) (v_c1123 : S_pages_Cache) (v_i1124 : Int) (v_p1125 : S_pages_Page) (r : S_pages_Cache) (h : G_pages_with n v_c1123 v_i1124 v_p1125 = some r) : Ret Try.prog 22 [eS_pages_Cache v_c1123, (eI .i64) v_i1124, eS_pages_Page v_p1125] (eS_pages_Cache r) := by
  refine ret_run (n := 17) (fn := Try.f22) (c := bodyOf Try.f22) (by kernel_rfl) (by kernel_rfl) (by kernel_rfl) (by kernel_rfl) ?_
  have hF : KC 17 (FinR Try.prog Try.f22 (eS_pages_Cache r)) := FinR.kc' (by kernel_rfl)
  unfold G_pages_with at h
  obtain ⟨v_r1132, h654, h⟩ := bind_some h
  by_cases h655 : 0 ≤ v_i1124 ∧ (v_i1124).toNat < v_r1132.length
  · rw [if_pos h655] at h
    obtain ⟨v_y1133, h656, h⟩ := bind_some h
    obtain rfl := Option.some.inj h
    exact pend_sound TTok mix 9 (hs := [.c, .h [] [] [.row 34 20 (v_r1132.map eS_pages_Page)] (.srf 0), .c, .c, .c, .w ((v_r1132.set (v_i1124).toNat v_p1125).map eS_pages_Page), .y (eS_pages_Page v_y1133), .c, .c]) (by kernel_rfl) (by kernel_rfl) (by kernel_rfl) (.cons (G_slices_Clone_pages_Page_pages_Page_ok n v_c1123.fPages _ h654) (.cons (show 0 + 1 ≤ 2 by decide) (.cons (idx_ob (f := eS_pages_Page) h655) (.cons (get_ob (f := eS_pages_Page) h656) (.cons (Eq.refl (pcells (.agg [.v (.int .i64 v_p1125.fFile), .v (.int .i64 v_p1125.fN), .v (.int .i64 v_p1125.fMaps), .v (.int .i64 v_p1125.fDirty), .v (.int .u8 (v_p1125.fData 0)), .v (.int .u8 (v_p1125.fData 1)), .v (.int .u8 (v_p1125.fData 2)), .v (.int .u8 (v_p1125.fData 3)), .v (.int .u8 (v_p1125.fData 4)), .v (.int .u8 (v_p1125.fData 5)), .v (.int .u8 (v_p1125.fData 6)), .v (.int .u8 (v_p1125.fData 7)), .v (.int .u8 (v_p1125.fData 8)), .v (.int .u8 (v_p1125.fData 9)), .v (.int .u8 (v_p1125.fData 10)), .v (.int .u8 (v_p1125.fData 11)), .v (.int .u8 (v_p1125.fData 12)), .v (.int .u8 (v_p1125.fData 13)), .v (.int .u8 (v_p1125.fData 14)), .v (.int .u8 (v_p1125.fData 15))]))) (.cons (set_ob (f := eS_pages_Page) (l := v_r1132) (k := (v_i1124).toNat) (z := v_p1125) (p := .agg [.v (.int .i64 v_p1125.fFile), .v (.int .i64 v_p1125.fN), .v (.int .i64 v_p1125.fMaps), .v (.int .i64 v_p1125.fDirty), .v (.int .u8 (v_p1125.fData 0)), .v (.int .u8 (v_p1125.fData 1)), .v (.int .u8 (v_p1125.fData 2)), .v (.int .u8 (v_p1125.fData 3)), .v (.int .u8 (v_p1125.fData 4)), .v (.int .u8 (v_p1125.fData 5)), .v (.int .u8 (v_p1125.fData 6)), .v (.int .u8 (v_p1125.fData 7)), .v (.int .u8 (v_p1125.fData 8)), .v (.int .u8 (v_p1125.fData 9)), .v (.int .u8 (v_p1125.fData 10)), .v (.int .u8 (v_p1125.fData 11)), .v (.int .u8 (v_p1125.fData 12)), .v (.int .u8 (v_p1125.fData 13)), .v (.int .u8 (v_p1125.fData 14)), .v (.int .u8 (v_p1125.fData 15))]) rfl) (.cons (show 0 + 2 ≤ 2 by decide) .nil)))))))
  · rw [if_neg h655] at h; cases h
def G_pages_Set_J1 (n : Nat)  (v_b1293 : Int) : Option (S_pages_Cache × Int) :=
  some ((S_pages_Cache.mk ([] : (List S_pages_Page)) 0), 1)
theorem G_pages_Set_J1_ok (n : Nat)   (v_b1293 : Int) (r : S_pages_Cache × Int) (h : G_pages_Set_J1 n  v_b1293 = some r) : RunE Try.prog 63 (FinR Try.prog Try.f6 (.tup [eS_pages_Cache r.1, (eI .i64) r.2])) (.s (cT (cR (cF (cR (cB (cL (cR (cR (bodyOf Try.f6))))))))) :: .b 0 :: .s (cR (cR (cR (bodyOf Try.f6)))) :: []) .normal ⟨[dd, dd, dd, dd, dd, dd, dd, dd, dd, dd, .ref 0 0, dd, dd, dd, dd, dd, dd, dd, dd, dd, dd, dd, dd, dd, dd, dd, dd, dd, dd, dd, dd, dd, dd, dd, dd, dd, dd, dd, dd, dd, dd, dd, dd, dd, dd, dd, dd, dd, dd, dd, dd, dd, dd, dd, dd, dd, dd, dd, dd, dd, dd, dd, dd], [.box [.d (vnil), .d (.v (.int .i64 v_b1293))]]⟩ := by
  have hF : KC 63 (FinR Try.prog Try.f6 (.tup [eS_pages_Cache r.1, (eI .i64) r.2])) := FinR.kc' (by kernel_rfl)
  unfold G_pages_Set_J1 at h
  obtain rfl := Option.some.inj h
  exact pend_sound TTok mix 5 (hs := [.c]) (by kernel_rfl) (by kernel_rfl) (by kernel_rfl) (.cons (show 0 + 2 ≤ 2 by decide) .nil)
/- ringhall/pages.Set -/
def G_pages_Set (n : Nat) (v_c1008 : S_pages_Cache) (v_file1009 : Int) (v_n1010 : Int) (v_k1011 : Int) (v_b1012 : Int) : Option (S_pages_Cache × Int) :=
  (G_pages_there n v_c1008 v_file1009 v_n1010).bind fun (v_r1254 : (Int × Int)) =>
  if v_r1254.2 = 0 then
   if v_k1011 < 0 then
    G_pages_Set_J1 n  0
   else
    if v_k1011 ≥ 16 then
     G_pages_Set_J1 n  0
    else
     if v_c1008.fClock = 1073741824 then
      some ((S_pages_Cache.mk ([] : (List S_pages_Page)) 0), 6)
     else
      (getI v_c1008.fPages v_r1254.1).bind fun (v_y1324 : S_pages_Page) =>
      if 0 ≤ v_k1011 ∧ v_k1011 < (16 : Int) then
       (getA v_y1324.fData v_k1011).bind fun (v_y1333 : Int) =>
       if v_y1324.fDirty = 0 then
        (G_pages_with n (S_pages_Cache.mk v_c1008.fPages (wi .i64 (v_c1008.fClock + 1))) v_r1254.1 (S_pages_Page.mk v_y1324.fFile v_y1324.fN v_y1324.fMaps v_c1008.fClock (setA v_y1324.fData v_k1011 v_b1012))).bind fun (v_r1359 : (S_pages_Cache)) =>
        some (v_r1359, 0)
       else
        (G_pages_with n v_c1008 v_r1254.1 (S_pages_Page.mk v_y1324.fFile v_y1324.fN v_y1324.fMaps v_y1324.fDirty (setA v_y1324.fData v_k1011 v_b1012))).bind fun (v_r1360 : (S_pages_Cache)) =>
        some (v_r1360, 0)
      else none
  else
   some ((S_pages_Cache.mk ([] : (List S_pages_Page)) 0), v_r1254.2)
theorem G_pages_Set_ok (n : Nat) (v_c1008 : S_pages_Cache) (v_file1009 : Int) (v_n1010 : Int) (v_k1011 : Int) (v_b1012 : Int) (r : S_pages_Cache × Int) (h : G_pages_Set n v_c1008 v_file1009 v_n1010 v_k1011 v_b1012 = some r) : Ret Try.prog 6 [eS_pages_Cache v_c1008, (eI .i64) v_file1009, (eI .i64) v_n1010, (eI .i64) v_k1011, (eI .u8) v_b1012] (.tup [eS_pages_Cache r.1, (eI .i64) r.2]) := by
  refine ret_run (n := 63) (fn := Try.f6) (c := bodyOf Try.f6) (by kernel_rfl) (by kernel_rfl) (by kernel_rfl) (by kernel_rfl) ?_
  have hF : KC 63 (FinR Try.prog Try.f6 (.tup [eS_pages_Cache r.1, (eI .i64) r.2])) := FinR.kc' (by kernel_rfl)
  unfold G_pages_Set at h
  obtain ⟨v_r1254, h689, h⟩ := bind_some h
  by_cases h705 : v_r1254.2 = 0
  · rw [if_pos h705] at h
    by_cases h706 : v_k1011 < 0
    · rw [if_pos h706] at h
      exact pkk_sound TTok mix hF 12 (hs := [.c, .r (.tup [(eI .i64) v_r1254.1, (eI .i64) v_r1254.2]), .t false, .t true, .c, .c]) (ts := []) (s := [5]) (l := [10]) (by kernel_rfl) (by kernel_rfl) (.cons (G_pages_there_ok n v_c1008 v_file1009 v_n1010 _ h689) (.cons (nf h705) (.cons (dt h706) .nil))) (G_pages_Set_J1_ok n  0 _ h)
    · rw [if_neg h706] at h
      by_cases h709 : v_k1011 ≥ 16
      · rw [if_pos h709] at h
        exact pkk_sound TTok mix hF 12 (hs := [.c, .r (.tup [(eI .i64) v_r1254.1, (eI .i64) v_r1254.2]), .t false, .t false, .c, .t true]) (ts := []) (s := [5]) (l := [10]) (by kernel_rfl) (by kernel_rfl) (.cons (G_pages_there_ok n v_c1008 v_file1009 v_n1010 _ h689) (.cons (nf h705) (.cons (df h706) (.cons (dt h709) .nil)))) (G_pages_Set_J1_ok n  0 _ h)
      · rw [if_neg h709] at h
        by_cases h711 : v_c1008.fClock = 1073741824
        · rw [if_pos h711] at h
          obtain rfl := Option.some.inj h
          exact pend_sound TTok mix 20 (hs := [.c, .r (.tup [(eI .i64) v_r1254.1, (eI .i64) v_r1254.2]), .t false, .t false, .c, .t false, .c, .t true, .c]) (by kernel_rfl) (by kernel_rfl) (by kernel_rfl) (.cons (G_pages_there_ok n v_c1008 v_file1009 v_n1010 _ h689) (.cons (nf h705) (.cons (df h706) (.cons (df h709) (.cons (bt h711) (.cons (show 0 + 2 ≤ 2 by decide) .nil))))))
        · rw [if_neg h711] at h
          obtain ⟨v_y1324, h712, h⟩ := bind_some h
          by_cases h713 : 0 ≤ v_k1011 ∧ v_k1011 < (16 : Int)
          · rw [if_pos h713] at h
            obtain ⟨v_y1333, h714, h⟩ := bind_some h
            by_cases h716 : v_y1324.fDirty = 0
            · rw [if_pos h716] at h
              obtain ⟨v_r1359, h717, h⟩ := bind_some h
              obtain rfl := Option.some.inj h
              exact pend_sound TTok mix 31 (hs := [.c, .r (.tup [(eI .i64) v_r1254.1, (eI .i64) v_r1254.2]), .t false, .t false, .c, .t false, .c, .t false, .c, .y (eS_pages_Page v_y1324), .c, .x ((cS_pages_Page (S_pages_Page.mk v_y1324.fFile v_y1324.fN v_y1324.fMaps v_y1324.fDirty (setA v_y1324.fData v_k1011 v_b1012))).map FV.d), .c, .c, .t true, .c, .c, .c, .c, .c, .c, .r (eS_pages_Cache v_r1359), .c]) (by kernel_rfl) (by kernel_rfl) (by kernel_rfl) (.cons (G_pages_there_ok n v_c1008 v_file1009 v_n1010 _ h689) (.cons (nf h705) (.cons (df h706) (.cons (df h709) (.cons (bf h711) (.cons (getI_ob (f := eS_pages_Page) h712) (.cons (show 0 + 20 ≤ 20 by decide) (.cons h713 (.cons (arr_store (γ := FV) (sz := 1) (g := (fun x => [.d (.v (.int .u8 x))])) (pre := [.d (.v (.int .i64 v_y1324.fFile)), .d (.v (.int .i64 v_y1324.fN)), .d (.v (.int .i64 v_y1324.fMaps)), .d (.v (.int .i64 v_y1324.fDirty))]) (post := []) (o := 0) (y := v_b1012) (zs := [.d (.v (.int .u8 v_b1012))]) (fun _ => rfl) h714 rfl (Nat.le_of_ble_eq_true rfl)).1 (.cons (arr_store (γ := FV) (sz := 1) (g := (fun x => [.d (.v (.int .u8 x))])) (pre := [.d (.v (.int .i64 v_y1324.fFile)), .d (.v (.int .i64 v_y1324.fN)), .d (.v (.int .i64 v_y1324.fMaps)), .d (.v (.int .i64 v_y1324.fDirty))]) (post := []) (o := 0) (y := v_b1012) (zs := [.d (.v (.int .u8 v_b1012))]) (fun _ => rfl) h714 rfl (Nat.le_of_ble_eq_true rfl)).2 (.cons (bt h716) (.cons (show 3 + 1 ≤ 20 by decide) (.cons (show 1 + 1 ≤ 2 by decide) (.cons (G_pages_with_ok n (S_pages_Cache.mk v_c1008.fPages (wi .i64 (v_c1008.fClock + 1))) v_r1254.1 (S_pages_Page.mk v_y1324.fFile v_y1324.fN v_y1324.fMaps v_c1008.fClock (setA v_y1324.fData v_k1011 v_b1012)) _ h717) (.cons (show 0 + 2 ≤ 2 by decide) .nil)))))))))))))))
            · rw [if_neg h716] at h
              obtain ⟨v_r1360, h718, h⟩ := bind_some h
              obtain rfl := Option.some.inj h
              exact pend_sound TTok mix 29 (hs := [.c, .r (.tup [(eI .i64) v_r1254.1, (eI .i64) v_r1254.2]), .t false, .t false, .c, .t false, .c, .t false, .c, .y (eS_pages_Page v_y1324), .c, .x ((cS_pages_Page (S_pages_Page.mk v_y1324.fFile v_y1324.fN v_y1324.fMaps v_y1324.fDirty (setA v_y1324.fData v_k1011 v_b1012))).map FV.d), .c, .c, .t false, .c, .c, .r (eS_pages_Cache v_r1360), .c]) (by kernel_rfl) (by kernel_rfl) (by kernel_rfl) (.cons (G_pages_there_ok n v_c1008 v_file1009 v_n1010 _ h689) (.cons (nf h705) (.cons (df h706) (.cons (df h709) (.cons (bf h711) (.cons (getI_ob (f := eS_pages_Page) h712) (.cons (show 0 + 20 ≤ 20 by decide) (.cons h713 (.cons (arr_store (γ := FV) (sz := 1) (g := (fun x => [.d (.v (.int .u8 x))])) (pre := [.d (.v (.int .i64 v_y1324.fFile)), .d (.v (.int .i64 v_y1324.fN)), .d (.v (.int .i64 v_y1324.fMaps)), .d (.v (.int .i64 v_y1324.fDirty))]) (post := []) (o := 0) (y := v_b1012) (zs := [.d (.v (.int .u8 v_b1012))]) (fun _ => rfl) h714 rfl (Nat.le_of_ble_eq_true rfl)).1 (.cons (arr_store (γ := FV) (sz := 1) (g := (fun x => [.d (.v (.int .u8 x))])) (pre := [.d (.v (.int .i64 v_y1324.fFile)), .d (.v (.int .i64 v_y1324.fN)), .d (.v (.int .i64 v_y1324.fMaps)), .d (.v (.int .i64 v_y1324.fDirty))]) (post := []) (o := 0) (y := v_b1012) (zs := [.d (.v (.int .u8 v_b1012))]) (fun _ => rfl) h714 rfl (Nat.le_of_ble_eq_true rfl)).2 (.cons (bf h716) (.cons (G_pages_with_ok n v_c1008 v_r1254.1 (S_pages_Page.mk v_y1324.fFile v_y1324.fN v_y1324.fMaps v_y1324.fDirty (setA v_y1324.fData v_k1011 v_b1012)) _ h718) (.cons (show 0 + 2 ≤ 2 by decide) .nil)))))))))))))
          · rw [if_neg h713] at h; cases h
  · rw [if_neg h705] at h
    obtain rfl := Option.some.inj h
    exact pend_sound TTok mix 14 (hs := [.c, .r (.tup [(eI .i64) v_r1254.1, (eI .i64) v_r1254.2]), .t true, .c]) (by kernel_rfl) (by kernel_rfl) (by kernel_rfl) (.cons (G_pages_there_ok n v_c1008 v_file1009 v_n1010 _ h689) (.cons (nt h705) (.cons (show 0 + 2 ≤ 2 by decide) .nil)))
inductive G_pages_Map_C1_R where
  | x0 (v_x1395 : Int)
  | x1 
def G_pages_Map_C1_ex : G_pages_Map_C1_R → Ex
  | .x0 _ => .ret
  | .x1  => .normal
def G_pages_Map_C1_st (v_more1381 : Int) (v_r1386 : (Int × Int)) (v_c1378 : S_pages_Cache) : G_pages_Map_C1_R → PS
  | .x0 v_x1395 => ⟨[dd, dd, dd, dd, dd, dd, dd, dd, .ref 0 0, .d (.v (.int .i64 v_x1395)), dd, dd, dd, dd, dd, dd, dd, dd, dd, dd, dd, dd, dd, dd, dd, dd, dd, dd, dd, dd, dd, dd, dd, dd, dd, dd, dd, dd, dd, dd, dd, dd, dd, dd, dd, dd, dd, dd, dd, dd, dd, dd, dd, dd, dd, dd], [.box [.d (vnil), .d (.v (.int .i64 0))]]⟩
  | .x1  => ⟨[dd, dd, dd, .d (.v (.int .i64 v_more1381)), .ref 0 0, dd, dd, dd, .ref 1 0, dd, .d (.v (.int .i64 v_r1386.1)), dd, dd, dd, dd, dd, dd, dd, dd, dd, dd, dd, dd, dd, dd, dd, dd, dd, dd, dd, dd, dd, dd, dd, dd, dd, dd, dd, dd, dd, dd, dd, dd, dd, dd, dd, dd, dd, dd, dd, dd, dd, dd, dd, dd, dd], [.box [.d (.sl (v_c1378.fPages.map eS_pages_Page)), .d (.v (.int .i64 v_c1378.fClock))], .box [.d (vnil), .d (.v (.int .i64 0))]]⟩
def G_pages_Map_C1_hd (v_more1381 : Int) (v_r1386 : (Int × Int)) (v_c1378 : S_pages_Cache)  : PS := ⟨[dd, dd, dd, .d (.v (.int .i64 v_more1381)), .ref 0 0, dd, dd, dd, .ref 1 0, dd, .d (.v (.int .i64 v_r1386.1)), .d (.v (.int .i64 v_r1386.2)), dd, dd, dd, dd, dd, dd, dd, dd, dd, dd, dd, dd, dd, dd, dd, dd, dd, dd, dd, dd, dd, dd, dd, dd, dd, dd, dd, dd, dd, dd, dd, dd, dd, dd, dd, dd, dd, dd, dd, dd, dd, dd, dd, dd], [.box [.d (.sl (v_c1378.fPages.map eS_pages_Page)), .d (.v (.int .i64 v_c1378.fClock))], .box [.d (vnil), .d (.v (.int .i64 0))]]⟩
def G_pages_Map_C1 (n : Nat) (v_more1381 : Int) (v_r1386 : (Int × Int)) (v_c1378 : S_pages_Cache) : Option G_pages_Map_C1_R :=
  if v_r1386.2 = 0 then
   if v_more1381 = 1 then
    some (.x1 )
   else
    if v_more1381 = (-1) then
     some (.x1 )
    else
     some (.x0 1)
  else
   some (.x0 v_r1386.2)
theorem G_pages_Map_C1_ok {Fi : Ex → PS → Prop} (hF : KC 56 Fi) (ks : List Fr) (n : Nat) (v_more1381 : Int) (v_r1386 : (Int × Int)) (v_c1378 : S_pages_Cache)  (o : G_pages_Map_C1_R) (h : G_pages_Map_C1 n v_more1381 v_r1386 v_c1378 = some o) (q : RunE Try.prog 56 Fi ks (G_pages_Map_C1_ex o) (G_pages_Map_C1_st v_more1381 v_r1386 v_c1378 o)) : RunE Try.prog 56 Fi (.s (cL (cR (cR (bodyOf Try.f7)))) :: ks) .normal (G_pages_Map_C1_hd v_more1381 v_r1386 v_c1378) := by
  unfold G_pages_Map_C1 at h
  by_cases h731 : v_r1386.2 = 0
  · rw [if_pos h731] at h
    by_cases h732 : v_more1381 = 1
    · rw [if_pos h732] at h
      cases h
      exact pkk_sound TTok mix hF 9 (hs := [.t false, .t false, .c, .c]) (ts := []) (s := [0, 1]) (l := [3, 4, 8, 10]) (by kernel_rfl) (by kernel_rfl) (.cons (nf h731) (.cons (nf h732) .nil)) q
    · rw [if_neg h732] at h
      by_cases h734 : v_more1381 = (-1)
      · rw [if_pos h734] at h
        cases h
        exact pkk_sound TTok mix hF 9 (hs := [.t false, .t true, .c, .t false]) (ts := []) (s := [0, 1]) (l := [3, 4, 8, 10]) (by kernel_rfl) (by kernel_rfl) (.cons (nf h731) (.cons (nt h732) (.cons (nf h734) .nil))) q
      · rw [if_neg h734] at h
        cases h
        exact pkk_sound TTok mix hF 11 (hs := [.t false, .t true, .c, .t true, .c]) (ts := []) (s := [1]) (l := [8, 9]) (by kernel_rfl) (by kernel_rfl) (.cons (nf h731) (.cons (nt h732) (.cons (nt h734) (.cons (show 0 + 2 ≤ 2 by decide) .nil)))) q
  · rw [if_neg h731] at h
    cases h
    exact pkk_sound TTok mix hF 8 (hs := [.t true, .c]) (ts := []) (s := [1]) (l := [8, 9]) (by kernel_rfl) (by kernel_rfl) (.cons (nt h731) (.cons (show 0 + 2 ≤ 2 by decide) .nil)) q
/- ringhall/pages.Map -/
def G_pages_Map (n : Nat) (v_c1378 : S_pages_Cache) (v_file1379 : Int) (v_n1380 : Int) (v_more1381 : Int) : Option (S_pages_Cache × Int) :=
  (G_pages_there n v_c1378 v_file1379 v_n1380).bind fun (v_r1386 : (Int × Int)) =>
  (G_pages_Map_C1 n v_more1381 v_r1386 v_c1378).bind fun v_o1397 => match v_o1397 with
  | .x0 v_z1398 =>
    some ((S_pages_Cache.mk ([] : (List S_pages_Page)) 0), v_z1398)
  | .x1  =>
    (getI v_c1378.fPages v_r1386.1).bind fun (v_y1405 : S_pages_Page) =>
    if (wi .i64 (v_y1405.fMaps + v_more1381)) < 0 then
     some ((S_pages_Cache.mk ([] : (List S_pages_Page)) 0), 8)
    else
     if (wi .i64 (v_y1405.fMaps + v_more1381)) > 64 then
      some ((S_pages_Cache.mk ([] : (List S_pages_Page)) 0), 8)
     else
      (G_pages_with n v_c1378 v_r1386.1 (S_pages_Page.mk v_y1405.fFile v_y1405.fN (wi .i64 (v_y1405.fMaps + v_more1381)) v_y1405.fDirty v_y1405.fData)).bind fun (v_r1426 : (S_pages_Cache)) =>
      some (v_r1426, 0)
theorem G_pages_Map_ok (n : Nat) (v_c1378 : S_pages_Cache) (v_file1379 : Int) (v_n1380 : Int) (v_more1381 : Int) (r : S_pages_Cache × Int) (h : G_pages_Map n v_c1378 v_file1379 v_n1380 v_more1381 = some r) : Ret Try.prog 7 [eS_pages_Cache v_c1378, (eI .i64) v_file1379, (eI .i64) v_n1380, (eI .i64) v_more1381] (.tup [eS_pages_Cache r.1, (eI .i64) r.2]) := by
  refine ret_run (n := 56) (fn := Try.f7) (c := bodyOf Try.f7) (by kernel_rfl) (by kernel_rfl) (by kernel_rfl) (by kernel_rfl) ?_
  have hF : KC 56 (FinR Try.prog Try.f7 (.tup [eS_pages_Cache r.1, (eI .i64) r.2])) := FinR.kc' (by kernel_rfl)
  unfold G_pages_Map at h
  obtain ⟨v_r1386, h720, h⟩ := bind_some h
  obtain ⟨v_o1397, h735, h⟩ := bind_some h
  refine pkk_sound TTok mix hF 5 (hs := [.c, .r (.tup [(eI .i64) v_r1386.1, (eI .i64) v_r1386.2])]) (ts := []) (s := [0, 5]) (l := [3, 4, 8, 10, 11]) (by kernel_rfl) (by kernel_rfl) (.cons (G_pages_there_ok n v_c1378 v_file1379 v_n1380 _ h720) .nil) (G_pages_Map_C1_ok hF (.s (cR (cR (cR (bodyOf Try.f7)))) :: []) n v_more1381 v_r1386 v_c1378 _ h735 ?_)
  cases v_o1397 with
  | x0 v_z1398 =>
    try dsimp only at h
    obtain rfl := Option.some.inj h
    exact pend_sound TTok mix 1 (hs := []) (by kernel_rfl) (by kernel_rfl) (by kernel_rfl) .nil
  | x1  =>
    try dsimp only at h
    obtain ⟨v_y1405, h736, h⟩ := bind_some h
    by_cases h737 : (wi .i64 (v_y1405.fMaps + v_more1381)) < 0
    · rw [if_pos h737] at h
      obtain rfl := Option.some.inj h
      exact pend_sound TTok mix 12 (hs := [.c, .y (eS_pages_Page v_y1405), .c, .c, .c, .c, .t true, .c, .c, .c, .c]) (by kernel_rfl) (by kernel_rfl) (by kernel_rfl) (.cons (getI_ob (f := eS_pages_Page) h736) (.cons (show 0 + 20 ≤ 20 by decide) (.cons (show 2 + 1 ≤ 20 by decide) (.cons (dt h737) (.cons (show 0 + 2 ≤ 2 by decide) .nil)))))
    · rw [if_neg h737] at h
      by_cases h739 : (wi .i64 (v_y1405.fMaps + v_more1381)) > 64
      · rw [if_pos h739] at h
        obtain rfl := Option.some.inj h
        exact pend_sound TTok mix 12 (hs := [.c, .y (eS_pages_Page v_y1405), .c, .c, .c, .c, .t false, .c, .c, .c, .t true, .c]) (by kernel_rfl) (by kernel_rfl) (by kernel_rfl) (.cons (getI_ob (f := eS_pages_Page) h736) (.cons (show 0 + 20 ≤ 20 by decide) (.cons (show 2 + 1 ≤ 20 by decide) (.cons (df h737) (.cons (dt h739) (.cons (show 0 + 2 ≤ 2 by decide) .nil))))))
      · rw [if_neg h739] at h
        obtain ⟨v_r1426, h740, h⟩ := bind_some h
        obtain rfl := Option.some.inj h
        exact pend_sound TTok mix 12 (hs := [.c, .y (eS_pages_Page v_y1405), .c, .c, .c, .c, .t false, .c, .c, .c, .t false, .c, .c, .r (eS_pages_Cache v_r1426), .c]) (by kernel_rfl) (by kernel_rfl) (by kernel_rfl) (.cons (getI_ob (f := eS_pages_Page) h736) (.cons (show 0 + 20 ≤ 20 by decide) (.cons (show 2 + 1 ≤ 20 by decide) (.cons (df h737) (.cons (df h739) (.cons (G_pages_with_ok n v_c1378 v_r1386.1 (S_pages_Page.mk v_y1405.fFile v_y1405.fN (wi .i64 (v_y1405.fMaps + v_more1381)) v_y1405.fDirty v_y1405.fData) _ h740) (.cons (show 0 + 2 ≤ 2 by decide) .nil)))))))
inductive G_pages_Back_C1_R where
  | x0 (v_x1525 : Bool)
def G_pages_Back_C1_ex : G_pages_Back_C1_R → Ex
  | .x0 _ => .normal
def G_pages_Back_C1_st (v_best1513 : Int) (v_x1514 : Int) (v_c1448 : S_pages_Cache) (v_y1523 : S_pages_Page) : G_pages_Back_C1_R → PS
  | .x0 v_x1525 => ⟨[dd, .ref 0 0, .ref 1 0, .ref 2 0, dd, dd, dd, .d (.v (.int .i64 v_best1513)), .d (.v (.int .i64 v_x1514)), dd, dd, dd, dd, dd, dd, dd, dd, dd, dd, dd, .d (.sl (v_c1448.fPages.map eS_pages_Page)), .d (.v (.int .i64 (v_c1448.fPages.length : Int))), .d (.v (.int .i64 v_x1514)), dd, dd, dd, dd, dd, dd, dd, dd, dd, dd, dd, dd, dd, dd, dd, dd, dd, dd, dd, dd, dd, .d (.v (.bool v_x1525)), dd, dd, dd, dd, dd, dd, dd, dd, dd, dd, dd, dd, dd, dd, dd, dd, dd, dd, dd, dd, dd, dd, dd], [.box [.d (.sl (v_c1448.fPages.map eS_pages_Page)), .d (.v (.int .i64 v_c1448.fClock))], .box [.d (vnil), .d (.v (.int .i64 0))], .box ((cS_pages_Page (S_pages_Page.mk 0 0 0 0 (fun (_ : Fin 16) => 0))).map FV.d)]⟩
def G_pages_Back_C1_hd (v_best1513 : Int) (v_x1514 : Int) (v_c1448 : S_pages_Cache) (v_y1523 : S_pages_Page)  : PS := ⟨[dd, .ref 0 0, .ref 1 0, .ref 2 0, dd, dd, dd, .d (.v (.int .i64 v_best1513)), .d (.v (.int .i64 v_x1514)), .ref 3 0, dd, dd, dd, dd, dd, dd, dd, dd, dd, dd, .d (.sl (v_c1448.fPages.map eS_pages_Page)), .d (.v (.int .i64 (v_c1448.fPages.length : Int))), .d (.v (.int .i64 v_x1514)), dd, dd, dd, dd, dd, dd, dd, dd, dd, dd, dd, dd, dd, dd, dd, dd, dd, dd, dd, dd, dd, dd, dd, dd, dd, dd, dd, dd, dd, dd, dd, dd, dd, dd, dd, dd, dd, dd, dd, dd, dd, dd, dd, dd, dd], [.box [.d (.sl (v_c1448.fPages.map eS_pages_Page)), .d (.v (.int .i64 v_c1448.fClock))], .box [.d (vnil), .d (.v (.int .i64 0))], .box ((cS_pages_Page (S_pages_Page.mk 0 0 0 0 (fun (_ : Fin 16) => 0))).map FV.d), .box ((cS_pages_Page v_y1523).map FV.d)]⟩
def G_pages_Back_C1 (n : Nat) (v_best1513 : Int) (v_x1514 : Int) (v_c1448 : S_pages_Cache) (v_y1523 : S_pages_Page) : Option G_pages_Back_C1_R :=
  if v_y1523.fDirty > 0 then
   if v_best1513 < 0 then
    some (.x0 true)
   else
    (getI v_c1448.fPages v_best1513).bind fun (v_y1526 : S_pages_Page) =>
    some (.x0 (decide (v_y1523.fDirty < v_y1526.fDirty)))
  else
   some (.x0 false)
theorem G_pages_Back_C1_ok {Fi : Ex → PS → Prop} (hF : KC 68 Fi) (ks : List Fr) (n : Nat) (v_best1513 : Int) (v_x1514 : Int) (v_c1448 : S_pages_Cache) (v_y1523 : S_pages_Page)  (o : G_pages_Back_C1_R) (h : G_pages_Back_C1 n v_best1513 v_x1514 v_c1448 v_y1523 = some o) (q : RunE Try.prog 68 Fi ks (G_pages_Back_C1_ex o) (G_pages_Back_C1_st v_best1513 v_x1514 v_c1448 v_y1523 o)) : RunE Try.prog 68 Fi (.s (cL (cR (cB (cL (cR (cR (cP (cB (cR (cL (cR (cR (cR (bodyOf Try.f8)))))))))))))) :: ks) .normal (G_pages_Back_C1_hd v_best1513 v_x1514 v_c1448 v_y1523) := by
  unfold G_pages_Back_C1 at h
  by_cases h759 : v_y1523.fDirty > 0
  · rw [if_pos h759] at h
    by_cases h760 : v_best1513 < 0
    · rw [if_pos h760] at h
      cases h
      exact pkk_sound TTok mix hF 1 (hs := [.c, .t true, .c, .c, .t true, .c, .c, .c, .c, .c, .c, .c, .c, .c]) (ts := []) (s := [0, 1, 2]) (l := [1, 2, 3, 7, 8, 20, 21, 22, 44]) (by kernel_rfl) (by kernel_rfl) (.cons (dt h759) (.cons (dt h760) .nil)) q
    · rw [if_neg h760] at h
      obtain ⟨v_y1526, h761, h⟩ := bind_some h
      cases h
      exact pkk_sound TTok mix hF 1 (hs := [.c, .t true, .c, .c, .t false, .c, .c, .c, .c, .c, .c, .c, .y (eS_pages_Page v_y1526), .c, .c, .c, .c, .c]) (ts := []) (s := [0, 1, 2]) (l := [1, 2, 3, 7, 8, 20, 21, 22, 44]) (by kernel_rfl) (by kernel_rfl) (.cons (dt h759) (.cons (df h760) (.cons (getI_ob (f := eS_pages_Page) h761) .nil))) q
  · rw [if_neg h759] at h
    cases h
    exact pkk_sound TTok mix hF 1 (hs := [.c, .t false, .c, .c, .c]) (ts := []) (s := [0, 1, 2]) (l := [1, 2, 3, 7, 8, 20, 21, 22, 44]) (by kernel_rfl) (by kernel_rfl) (.cons (df h759) .nil) q
inductive G_pages_Back_L2_R where
  | x0 (v_best1531 : Int)
def G_pages_Back_L2_ex : G_pages_Back_L2_R → Ex
  | .x0 _ => .exit 0
def G_pages_Back_L2_st (v_c1448 : S_pages_Cache) : G_pages_Back_L2_R → PS
  | .x0 v_best1531 => ⟨[dd, .ref 0 0, .ref 1 0, .ref 2 0, dd, dd, dd, .d (.v (.int .i64 v_best1531)), dd, dd, dd, dd, dd, dd, dd, dd, dd, dd, dd, dd, dd, dd, dd, dd, dd, dd, dd, dd, dd, dd, dd, dd, dd, dd, dd, dd, dd, dd, dd, dd, dd, dd, dd, dd, dd, dd, dd, dd, dd, dd, dd, dd, dd, dd, dd, dd, dd, dd, dd, dd, dd, dd, dd, dd, dd, dd, dd, dd], [.box [.d (.sl (v_c1448.fPages.map eS_pages_Page)), .d (.v (.int .i64 v_c1448.fClock))], .box [.d (vnil), .d (.v (.int .i64 0))], .box ((cS_pages_Page (S_pages_Page.mk 0 0 0 0 (fun (_ : Fin 16) => 0))).map FV.d)]⟩
def G_pages_Back_L2_hd (v_c1448 : S_pages_Cache) (v_best1513 : Int) (v_x1514 : Int) : PS := ⟨[dd, .ref 0 0, .ref 1 0, .ref 2 0, dd, dd, dd, .d (.v (.int .i64 v_best1513)), dd, dd, dd, dd, dd, dd, dd, dd, dd, dd, dd, dd, .d (.sl (v_c1448.fPages.map eS_pages_Page)), .d (.v (.int .i64 (v_c1448.fPages.length : Int))), .d (.v (.int .i64 v_x1514)), dd, dd, dd, dd, dd, dd, dd, dd, dd, dd, dd, dd, dd, dd, dd, dd, dd, dd, dd, dd, dd, dd, dd, dd, dd, dd, dd, dd, dd, dd, dd, dd, dd, dd, dd, dd, dd, dd, dd, dd, dd, dd, dd, dd, dd], [.box [.d (.sl (v_c1448.fPages.map eS_pages_Page)), .d (.v (.int .i64 v_c1448.fClock))], .box [.d (vnil), .d (.v (.int .i64 0))], .box ((cS_pages_Page (S_pages_Page.mk 0 0 0 0 (fun (_ : Fin 16) => 0))).map FV.d)]⟩
def G_pages_Back_L2 (n : Nat) (v_c1448 : S_pages_Cache) : Nat → Int → Int → Option G_pages_Back_L2_R
  | 0, _, _ => none
  | k + 1, v_best1513, v_x1514 =>
    if v_x1514 < (v_c1448.fPages.length : Int) then
     (getI v_c1448.fPages v_x1514).bind fun (v_y1523 : S_pages_Page) =>
     (G_pages_Back_C1 n v_best1513 v_x1514 v_c1448 v_y1523).bind fun v_o1529 => match v_o1529 with
     | .x0 v_z1530 =>
       if v_z1530 = true then
        G_pages_Back_L2 n v_c1448 k v_x1514 (wi .i64 (v_x1514 + 1))
       else
        G_pages_Back_L2 n v_c1448 k v_best1513 (wi .i64 (v_x1514 + 1))
    else
     some (.x0 v_best1513)
theorem G_pages_Back_L2_ok {Fi : Ex → PS → Prop} (hF : KC 68 Fi) (ks : List Fr) (n : Nat) (v_c1448 : S_pages_Cache)  : ∀ (k : Nat) (v_best1513 : Int) (v_x1514 : Int) (o : G_pages_Back_L2_R), G_pages_Back_L2 n v_c1448 k v_best1513 v_x1514 = some o → RunE Try.prog 68 Fi ks (G_pages_Back_L2_ex o) (G_pages_Back_L2_st v_c1448 o) → RunE Try.prog 68 Fi (.l k (cP (cB (cR (cL (cR (cR (cR (bodyOf Try.f8)))))))) :: ks) .normal (G_pages_Back_L2_hd v_c1448 v_best1513 v_x1514)
  | 0, v_best1513, v_x1514, o, h, q => by rw [G_pages_Back_L2] at h; cases h
  | k + 1, v_best1513, v_x1514, o, h, q => by
    rw [G_pages_Back_L2] at h
    by_cases h745 : v_x1514 < (v_c1448.fPages.length : Int)
    · rw [if_pos h745] at h
      obtain ⟨v_y1523, h755, h⟩ := bind_some h
      obtain ⟨v_o1529, h762, h⟩ := bind_some h
      refine pkk_sound TTok mix hF 11 (hs := [.t true, .y (eS_pages_Page v_y1523), .c]) (ts := []) (s := [0, 1, 2, 23]) (l := [1, 2, 3, 7, 8, 9, 20, 21, 22]) (by kernel_rfl) (by kernel_rfl) (.cons (dt h745) (.cons (getI_ob (f := eS_pages_Page) h755) (.cons (show 0 + 20 ≤ 20 by decide) .nil))) (G_pages_Back_C1_ok hF (.s (cR (cR (cB (cL (cR (cR (cP (cB (cR (cL (cR (cR (cR (bodyOf Try.f8)))))))))))))) :: .b 1 :: .s (cR (cR (cR (cP (cB (cR (cL (cR (cR (cR (bodyOf Try.f8))))))))))) :: .l k (cP (cB (cR (cL (cR (cR (cR (bodyOf Try.f8)))))))) :: ks) n v_best1513 v_x1514 v_c1448 v_y1523 _ h762 ?_)
      cases v_o1529 with
      | x0 v_z1530 =>
        try dsimp only at h
        by_cases h763 : v_z1530 = true
        · rw [if_pos h763] at h
          exact pkk_sound TTok mix hF 4 (hs := [.t true]) (ts := []) (s := [0, 1, 2]) (l := [1, 2, 3, 7, 20, 21, 22]) (by kernel_rfl) (by kernel_rfl) (.cons h763 .nil) (G_pages_Back_L2_ok hF ks n v_c1448 k v_x1514 (wi .i64 (v_x1514 + 1)) _ h q)
        · rw [if_neg h763] at h
          exact pkk_sound TTok mix hF 4 (hs := [.t false]) (ts := []) (s := [0, 1, 2]) (l := [1, 2, 3, 7, 20, 21, 22]) (by kernel_rfl) (by kernel_rfl) (.cons (vf h763) .nil) (G_pages_Back_L2_ok hF ks n v_c1448 k v_best1513 (wi .i64 (v_x1514 + 1)) _ h q)
    · rw [if_neg h745] at h
      cases h
      exact pkk_sound TTok mix hF 8 (hs := [.t false]) (ts := []) (s := [0, 1, 2]) (l := [1, 2, 3, 7]) (by kernel_rfl) (by kernel_rfl) (.cons (df h745) .nil) q
/- ringhall/pages.Back -/
def G_pages_Back (n : Nat) (v_c1448 : S_pages_Cache) : Option (S_pages_Cache × S_pages_Page × Bool × Int) :=
  (G_pages_Check n v_c1448).bind fun (v_r1458 : (Int)) =>
  if v_r1458 = 0 then
   (G_pages_Back_L2 n v_c1448 n (-1) 0).bind fun v_o1532 => match v_o1532 with
   | .x0 v_z1533 =>
     if v_z1533 < 0 then
      (G_slices_Clone_pages_Page_pages_Page n v_c1448.fPages).bind fun (v_r1558 : ((List S_pages_Page))) =>
      some ((S_pages_Cache.mk v_r1558 v_c1448.fClock), (S_pages_Page.mk 0 0 0 0 (fun (_ : Fin 16) => 0)), false, 0)
     else
      (getI v_c1448.fPages v_z1533).bind fun (v_y1575 : S_pages_Page) =>
      (G_pages_with n v_c1448 v_z1533 (S_pages_Page.mk v_y1575.fFile v_y1575.fN v_y1575.fMaps 0 v_y1575.fData)).bind fun (v_r1586 : (S_pages_Cache)) =>
      some (v_r1586, v_y1575, true, 0)
  else
   some ((S_pages_Cache.mk ([] : (List S_pages_Page)) 0), (S_pages_Page.mk 0 0 0 0 (fun (_ : Fin 16) => 0)), false, v_r1458)
theorem G_pages_Back_ok (n : Nat) (v_c1448 : S_pages_Cache) (r : S_pages_Cache × S_pages_Page × Bool × Int) (h : G_pages_Back n v_c1448 = some r) : Ret Try.prog 8 [eS_pages_Cache v_c1448] (.tup [eS_pages_Cache r.1, eS_pages_Page r.2.1, eB r.2.2.1, (eI .i64) r.2.2.2]) := by
  refine ret_run (n := 68) (fn := Try.f8) (c := bodyOf Try.f8) (by kernel_rfl) (by kernel_rfl) (by kernel_rfl) (by kernel_rfl) ?_
  have hF : KC 68 (FinR Try.prog Try.f8 (.tup [eS_pages_Cache r.1, eS_pages_Page r.2.1, eB r.2.2.1, (eI .i64) r.2.2.2])) := FinR.kc' (by kernel_rfl)
  unfold G_pages_Back at h
  obtain ⟨v_r1458, h742, h⟩ := bind_some h
  by_cases h744 : v_r1458 = 0
  · rw [if_pos h744] at h
    obtain ⟨v_o1532, h764, h⟩ := bind_some h
    refine pkk_sound TTok mix hF 16 (hs := [.c, .r ((eI .i64) v_r1458), .t false, .c, .u (.d (.v (.int .i64 (v_c1448.fPages.length : Int)))), .n n]) (ts := []) (s := [0, 5, 10]) (l := [1, 2, 3, 7, 20, 21, 22]) (by kernel_rfl) (by kernel_rfl) (.cons (G_pages_Check_ok n v_c1448 _ h742) (.cons (nf h744) (.cons (len_ob (f := eS_pages_Page) (l := v_c1448.fPages)) .nil))) (G_pages_Back_L2_ok hF (.b 0 :: .s (cR (cR (cR (cR (bodyOf Try.f8))))) :: []) n v_c1448 n (-1) 0 _ h764 ?_)
    cases v_o1532 with
    | x0 v_z1533 =>
      try dsimp only at h
      by_cases h767 : v_z1533 < 0
      · rw [if_pos h767] at h
        obtain ⟨v_r1558, h768, h⟩ := bind_some h
        obtain rfl := Option.some.inj h
        exact pend_sound TTok mix 9 (hs := [.t true, .c, .r ((eL eS_pages_Page) v_r1558), .c, .c, .c]) (by kernel_rfl) (by kernel_rfl) (by kernel_rfl) (.cons (dt h767) (.cons (G_slices_Clone_pages_Page_pages_Page_okD n v_c1448.fPages _ h768) (.cons (show 0 + 2 ≤ 2 by decide) (.cons (show 0 + 20 ≤ 20 by decide) .nil))))
      · rw [if_neg h767] at h
        obtain ⟨v_y1575, h769, h⟩ := bind_some h
        obtain ⟨v_r1586, h770, h⟩ := bind_some h
        obtain rfl := Option.some.inj h
        exact pend_sound TTok mix 15 (hs := [.t false, .c, .y (eS_pages_Page v_y1575), .c, .c, .c, .c, .c, .c, .r (eS_pages_Cache v_r1586), .c, .c, .c]) (by kernel_rfl) (by kernel_rfl) (by kernel_rfl) (.cons (df h767) (.cons (getI_ob (f := eS_pages_Page) h769) (.cons (show 0 + 20 ≤ 20 by decide) (.cons (show 0 + 20 ≤ 20 by decide) (.cons (show 3 + 1 ≤ 20 by decide) (.cons (G_pages_with_ok n v_c1448 v_z1533 (S_pages_Page.mk v_y1575.fFile v_y1575.fN v_y1575.fMaps 0 v_y1575.fData) _ h770) (.cons (show 0 + 2 ≤ 2 by decide) (.cons (show 0 + 20 ≤ 20 by decide) .nil))))))))
  · rw [if_neg h744] at h
    obtain rfl := Option.some.inj h
    exact pend_sound TTok mix 12 (hs := [.c, .r ((eI .i64) v_r1458), .t true, .c, .c]) (by kernel_rfl) (by kernel_rfl) (by kernel_rfl) (.cons (G_pages_Check_ok n v_c1448 _ h742) (.cons (nt h744) (.cons (show 0 + 2 ≤ 2 by decide) (.cons (show 0 + 20 ≤ 20 by decide) .nil))))
/- slices.Delete[[]ringhall/pages.Page,ringhall/pages.Page] -/
def G_slices_Delete_pages_Page_pages_Page_h (n : Nat) (v_s1699 : (List S_pages_Page)) (v_i1700 : Int) (v_j1701 : Int) : Option ((List S_pages_Page)) :=
  if ((0 : Int) ≤ v_i1700 ∧ v_i1700 ≤ v_j1701 ∧ v_j1701 ≤ (v_s1699.length : Int) ∧ (v_s1699.length : Int) ≤ (v_s1699.length : Int)) then
   if v_i1700 = v_j1701 then
    some v_s1699
   else
    if ((0 : Int) ≤ v_i1700 ∧ v_i1700 ≤ (v_s1699.length : Int)) then
     if ((0 : Int) ≤ v_j1701 ∧ v_j1701 ≤ (v_s1699.length : Int)) then
      if v_i1700.toNat ≤ v_j1701.toNat ∧ v_j1701.toNat ≤ v_s1699.length ∧ v_s1699.length ≤ v_s1699.length then
       if ((0 : Int) ≤ (((v_i1700.toNat + (v_s1699.length - v_j1701.toNat)) : Nat) : Int) ∧ (((v_i1700.toNat + (v_s1699.length - v_j1701.toNat)) : Nat) : Int) ≤ (v_s1699.length : Int) ∧ (v_s1699.length : Int) ≤ ((delR v_s1699 v_i1700.toNat v_j1701.toNat v_s1699.length).length : Int)) then
        if ((v_i1700.toNat + (v_s1699.length - v_j1701.toNat)) : Nat) ≤ v_s1699.length ∧ v_s1699.length ≤ (delR v_s1699 v_i1700.toNat v_j1701.toNat v_s1699.length).length then
         if (v_i1700.toNat + (v_s1699.length - v_j1701.toNat)) ≤ (clrR (delR v_s1699 v_i1700.toNat v_j1701.toNat v_s1699.length) ((v_i1700.toNat + (v_s1699.length - v_j1701.toNat)) : Nat) v_s1699.length (S_pages_Page.mk 0 0 0 0 (fun (_ : Fin 16) => 0))).length then
          some ((clrR (delR v_s1699 v_i1700.toNat v_j1701.toNat v_s1699.length) ((v_i1700.toNat + (v_s1699.length - v_j1701.toNat)) : Nat) v_s1699.length (S_pages_Page.mk 0 0 0 0 (fun (_ : Fin 16) => 0))).take (v_i1700.toNat + (v_s1699.length - v_j1701.toNat)))
         else none
        else none
       else none
      else none
     else none
    else none
  else none
theorem G_slices_Delete_pages_Page_pages_Page_h_ok (n : Nat) (v_s1699 : (List S_pages_Page)) (v_i1700 : Int) (v_j1701 : Int) (r : (List S_pages_Page)) (h : G_slices_Delete_pages_Page_pages_Page_h n v_s1699 v_i1700 v_j1701 = some r) : RetH Try.prog 23 [.srf 0, .d ((eI .i64) v_i1700), .d ((eI .i64) v_j1701)] [.row 34 20 (v_s1699.map eS_pages_Page)] (.srf 1) [.none, .row 34 20 (r.map eS_pages_Page)] := by
  refine retH_run (n := 33) (fn := Try.f23) (c := bodyOf Try.f23) (by kernel_rfl) (by kernel_rfl) (by kernel_rfl) (by kernel_rfl) ?_
  have hF : KC 33 (FinH Try.prog Try.f23 [.row 34 20 (v_s1699.map eS_pages_Page)] (.srf 1) [.none, .row 34 20 (r.map eS_pages_Page)]) := FinH.kc' (by kernel_rfl)
  unfold G_slices_Delete_pages_Page_pages_Page_h at h
  by_cases h808 : ((0 : Int) ≤ v_i1700 ∧ v_i1700 ≤ v_j1701 ∧ v_j1701 ≤ (v_s1699.length : Int) ∧ (v_s1699.length : Int) ≤ (v_s1699.length : Int))
  · rw [if_pos h808] at h
    by_cases h809 : v_i1700 = v_j1701
    · rw [if_pos h809] at h
      obtain rfl := Option.some.inj h
      exact pendH_sound TTok mix 13 (hs := [.u (.d (.v (.int .i64 (v_s1699.length : Int)))), .e 32 [0] (dd) [], .t true, .dl 4, .mv 0]) [0, 62] (by kernel_rfl) (by kernel_rfl) (by kernel_rfl) (.cons (len_ob (f := eS_pages_Page) (l := v_s1699)) (.cons (xs111 (P := Try.prog) (T := TT) (f := eS_pages_Page) (t := 22) (e := 34) (s := 20) (l := 0) (L := v_s1699) (x := (.tmp 8)) (lo := (.tmp 9)) (hi := (.tmp 10)) (mx := (.tmp 12)) (a := v_i1700) (ka := .i64) (b := v_j1701) (kb := .i64) (c := (v_s1699.length : Int)) (kc := .i64) (by kernel_rfl) h808) (.cons (bt h809) .nil)))
    · rw [if_neg h809] at h
      by_cases h810 : ((0 : Int) ≤ v_i1700 ∧ v_i1700 ≤ (v_s1699.length : Int))
      · rw [if_pos h810] at h
        by_cases h811 : ((0 : Int) ≤ v_j1701 ∧ v_j1701 ≤ (v_s1699.length : Int))
        · rw [if_pos h811] at h
          by_cases h812 : v_i1700.toNat ≤ v_j1701.toNat ∧ v_j1701.toNat ≤ v_s1699.length ∧ v_s1699.length ≤ v_s1699.length
          · rw [if_pos h812] at h
            by_cases h813 : ((0 : Int) ≤ (((v_i1700.toNat + (v_s1699.length - v_j1701.toNat)) : Nat) : Int) ∧ (((v_i1700.toNat + (v_s1699.length - v_j1701.toNat)) : Nat) : Int) ≤ (v_s1699.length : Int) ∧ (v_s1699.length : Int) ≤ ((delR v_s1699 v_i1700.toNat v_j1701.toNat v_s1699.length).length : Int))
            · rw [if_pos h813] at h
              by_cases h814 : ((v_i1700.toNat + (v_s1699.length - v_j1701.toNat)) : Nat) ≤ v_s1699.length ∧ v_s1699.length ≤ (delR v_s1699 v_i1700.toNat v_j1701.toNat v_s1699.length).length
              · rw [if_pos h814] at h
                by_cases h815 : (v_i1700.toNat + (v_s1699.length - v_j1701.toNat)) ≤ (clrR (delR v_s1699 v_i1700.toNat v_j1701.toNat v_s1699.length) ((v_i1700.toNat + (v_s1699.length - v_j1701.toNat)) : Nat) v_s1699.length (S_pages_Page.mk 0 0 0 0 (fun (_ : Fin 16) => 0))).length
                · rw [if_pos h815] at h
                  obtain rfl := Option.some.inj h
                  exact pendH_sound TTok mix 18 (hs := [.u (.d (.v (.int .i64 (v_s1699.length : Int)))), .e 32 [0] (dd) [], .t false, .u (.d (.v (.int .i64 (v_s1699.length : Int)))), .e 77 [0] (.ssl 0 0 v_i1700.toNat 20) [], .e 92 [0] (.ssl 0 v_j1701.toNat v_s1699.length 20) [], .e 97 [0] (.ssl 0 0 (v_i1700.toNat + (v_s1699.length - v_j1701.toNat)) 20) [(0, .row 34 20 ((delR v_s1699 v_i1700.toNat v_j1701.toNat v_s1699.length).map eS_pages_Page))], .e 117 [] (.d (.v (.int .i64 (((v_i1700.toNat + (v_s1699.length - v_j1701.toNat)) : Nat) : Int)))) [], .e 127 [0] (.ssl 0 ((v_i1700.toNat + (v_s1699.length - v_j1701.toNat)) : Nat) v_s1699.length 20) [], .e 132 [0] (dd) [(0, .row 34 20 ((clrR (delR v_s1699 v_i1700.toNat v_j1701.toNat v_s1699.length) ((v_i1700.toNat + (v_s1699.length - v_j1701.toNat)) : Nat) v_s1699.length (S_pages_Page.mk 0 0 0 0 (fun (_ : Fin 16) => 0))).map eS_pages_Page))], .e 137 [0, 137] (.srf 137) [(0, .none), (137, .row 34 20 (((clrR (delR v_s1699 v_i1700.toNat v_j1701.toNat v_s1699.length) ((v_i1700.toNat + (v_s1699.length - v_j1701.toNat)) : Nat) v_s1699.length (S_pages_Page.mk 0 0 0 0 (fun (_ : Fin 16) => 0))).take (v_i1700.toNat + (v_s1699.length - v_j1701.toNat))).map eS_pages_Page))]]) [0, 137] (by kernel_rfl) (by kernel_rfl) (by kernel_rfl) (.cons (len_ob (f := eS_pages_Page) (l := v_s1699)) (.cons (xs111 (P := Try.prog) (T := TT) (f := eS_pages_Page) (t := 22) (e := 34) (s := 20) (l := 0) (L := v_s1699) (x := (.tmp 8)) (lo := (.tmp 9)) (hi := (.tmp 10)) (mx := (.tmp 12)) (a := v_i1700) (ka := .i64) (b := v_j1701) (kb := .i64) (c := (v_s1699.length : Int)) (kc := .i64) (by kernel_rfl) h808) (.cons (bf h809) (.cons (len_ob (f := eS_pages_Page) (l := v_s1699)) (.cons (xs01 (P := Try.prog) (T := TT) (f := eS_pages_Page) (t := 22) (e := 34) (s := 20) (l := 0) (L := v_s1699) (x := (.tmp 20)) (hi := (.tmp 21)) (b := v_i1700) (kb := .i64) (by kernel_rfl) h810) (.cons (xs10 (P := Try.prog) (T := TT) (f := eS_pages_Page) (t := 22) (e := 34) (s := 20) (l := 0) (L := v_s1699) (x := (.tmp 23)) (lo := (.tmp 24)) (a := v_j1701) (ka := .i64) (by kernel_rfl) h811) (.cons (xapp (ti := ⟨20, 48, .st [(0, 3), (1, 3), (2, 3), (3, 3), (4, 25)], (List.replicate 4 (.i .i64) ++ List.replicate 16 (.i .u8))⟩) (P := Try.prog) (T := TT) (f := eS_pages_Page) (t := 22) (e := 34) (s := 20) (l := 0) (i := v_i1700.toNat) (j := v_j1701.toNat) (q := v_s1699.length) (L := v_s1699) (x := (.tmp 22)) (y := (.tmp 25)) (by kernel_rfl) (by kernel_rfl) h812) (.cons (xlen (P := Try.prog) (T := TT) (t := 22) (e := 34) (s := 20) (l := 0) (i := 0) (j := (v_i1700.toNat + (v_s1699.length - v_j1701.toNat))) (x := (.tmp 28)) (by kernel_rfl)) (.cons (xt11 (P := Try.prog) (T := TT) (f := eS_pages_Page) (t := 22) (e := 34) (s := 20) (l := 0) (L := (delR v_s1699 v_i1700.toNat v_j1701.toNat v_s1699.length)) (x := (.tmp 27)) (lo := (.tmp 29)) (hi := (.tmp 30)) (a := (((v_i1700.toNat + (v_s1699.length - v_j1701.toNat)) : Nat) : Int)) (ka := .i64) (b := (v_s1699.length : Int)) (kb := .i64) (i := (v_i1700.toNat + (v_s1699.length - v_j1701.toNat))) (by kernel_rfl) h813) (.cons (xclr (ti := ⟨20, 48, .st [(0, 3), (1, 3), (2, 3), (3, 3), (4, 25)], (List.replicate 4 (.i .i64) ++ List.replicate 16 (.i .u8))⟩) (P := Try.prog) (T := TT) (f := eS_pages_Page) (t := 22) (e := 34) (s := 20) (l := 0) (i := ((v_i1700.toNat + (v_s1699.length - v_j1701.toNat)) : Nat)) (j := v_s1699.length) (z := (S_pages_Page.mk 0 0 0 0 (fun (_ : Fin 16) => 0))) (L := (delR v_s1699 v_i1700.toNat v_j1701.toNat v_s1699.length)) (x := (.tmp 31)) (p := .agg [.v (.int .i64 0), .v (.int .i64 0), .v (.int .i64 0), .v (.int .i64 0), .v (.int .u8 0), .v (.int .u8 0), .v (.int .u8 0), .v (.int .u8 0), .v (.int .u8 0), .v (.int .u8 0), .v (.int .u8 0), .v (.int .u8 0), .v (.int .u8 0), .v (.int .u8 0), .v (.int .u8 0), .v (.int .u8 0), .v (.int .u8 0), .v (.int .u8 0), .v (.int .u8 0), .v (.int .u8 0)]) (by kernel_rfl) (by kernel_rfl) (by kernel_rfl) (by kernel_rfl) (by decide) rfl h814) (.cons (xmv (P := Try.prog) (T := TT) (f := eS_pages_Page) (e := 34) (s := 20) (l := 0) (nl := 137) (L := (clrR (delR v_s1699 v_i1700.toNat v_j1701.toNat v_s1699.length) ((v_i1700.toNat + (v_s1699.length - v_j1701.toNat)) : Nat) v_s1699.length (S_pages_Page.mk 0 0 0 0 (fun (_ : Fin 16) => 0)))) (i := (v_i1700.toNat + (v_s1699.length - v_j1701.toNat))) (x := (.tmp 0)) h815) .nil)))))))))))
                · rw [if_neg h815] at h; cases h
              · rw [if_neg h814] at h; cases h
            · rw [if_neg h813] at h; cases h
          · rw [if_neg h812] at h; cases h
        · rw [if_neg h811] at h; cases h
      · rw [if_neg h810] at h; cases h
  · rw [if_neg h808] at h; cases h
def G_pages_Out_J1 (n : Nat)  (v_b1849 : S_pages_Cache) (v_b1850 : Int) (v_i1851 : Int) (v_x1852 : Bool) : Option (S_pages_Cache × Int) :=
  if v_x1852 = true then
   some ((S_pages_Cache.mk ([] : (List S_pages_Page)) 0), 8)
  else
   (G_slices_Clone_pages_Page_pages_Page n v_b1849.fPages).bind fun (v_r1866 : ((List S_pages_Page))) =>
   (G_slices_Delete_pages_Page_pages_Page_h n v_r1866 v_i1851 (wi .i64 (v_i1851 + 1))).bind fun (v_r1867 : ((List S_pages_Page))) =>
   some ((S_pages_Cache.mk v_r1867 v_b1849.fClock), 0)
theorem G_pages_Out_J1_ok (n : Nat)   (v_b1849 : S_pages_Cache) (v_b1850 : Int) (v_i1851 : Int) (v_x1852 : Bool) (r : S_pages_Cache × Int) (h : G_pages_Out_J1 n  v_b1849 v_b1850 v_i1851 v_x1852 = some r) : RunE Try.prog 50 (FinR Try.prog Try.f9 (.tup [eS_pages_Cache r.1, (eI .i64) r.2])) (.s (cR (cF (cR (cB (cL (cR (cR (bodyOf Try.f9)))))))) :: .b 0 :: .s (cR (cR (cR (bodyOf Try.f9)))) :: []) .normal ⟨[dd, dd, dd, .ref 0 0, dd, dd, .ref 1 0, dd, .d (.v (.int .i64 v_i1851)), dd, dd, dd, dd, dd, dd, dd, dd, dd, dd, dd, dd, dd, .d (.v (.bool v_x1852)), dd, dd, dd, dd, dd, dd, dd, dd, dd, dd, dd, dd, dd, dd, dd, dd, dd, dd, dd, dd, dd, dd, dd, dd, dd, dd, dd], [.box [.d (.sl (v_b1849.fPages.map eS_pages_Page)), .d (.v (.int .i64 v_b1849.fClock))], .box [.d (vnil), .d (.v (.int .i64 v_b1850))]]⟩ := by
  have hF : KC 50 (FinR Try.prog Try.f9 (.tup [eS_pages_Cache r.1, (eI .i64) r.2])) := FinR.kc' (by kernel_rfl)
  unfold G_pages_Out_J1 at h
  by_cases h887 : v_x1852 = true
  · rw [if_pos h887] at h
    obtain rfl := Option.some.inj h
    exact pend_sound TTok mix 6 (hs := [.t true, .c]) (by kernel_rfl) (by kernel_rfl) (by kernel_rfl) (.cons h887 (.cons (show 0 + 2 ≤ 2 by decide) .nil))
  · rw [if_neg h887] at h
    obtain ⟨v_r1866, h888, h⟩ := bind_some h
    obtain ⟨v_r1867, h889, h⟩ := bind_some h
    obtain rfl := Option.some.inj h
    exact pend_sound TTok mix 6 (hs := [.t false, .c, .h [] [] [.row 34 20 (v_r1866.map eS_pages_Page)] (.srf 0), .h [12] [] [.none, .row 34 20 (v_r1867.map eS_pages_Page)] (.srf 1), .c, .c]) (by kernel_rfl) (by kernel_rfl) (by kernel_rfl) (.cons (vf h887) (.cons (G_slices_Clone_pages_Page_pages_Page_ok n v_b1849.fPages _ h888) (.cons (G_slices_Delete_pages_Page_pages_Page_h_ok n v_r1866 v_i1851 (wi .i64 (v_i1851 + 1)) _ h889) (.cons (show 0 + 2 ≤ 2 by decide) .nil))))
/- ringhall/pages.Out -/
def G_pages_Out (n : Nat) (v_c1616 : S_pages_Cache) (v_file1617 : Int) (v_n1618 : Int) : Option (S_pages_Cache × Int) :=
  (G_pages_there n v_c1616 v_file1617 v_n1618).bind fun (v_r1796 : (Int × Int)) =>
  if v_r1796.2 = 0 then
   (getI v_c1616.fPages v_r1796.1).bind fun (v_y1844 : S_pages_Page) =>
   if v_y1844.fMaps > 0 then
    G_pages_Out_J1 n  v_c1616 0 v_r1796.1 true
   else
    (getI v_c1616.fPages v_r1796.1).bind fun (v_y1868 : S_pages_Page) =>
    G_pages_Out_J1 n  v_c1616 0 v_r1796.1 (decide (v_y1868.fDirty > 0))
  else
   some ((S_pages_Cache.mk ([] : (List S_pages_Page)) 0), v_r1796.2)
theorem G_pages_Out_ok (n : Nat) (v_c1616 : S_pages_Cache) (v_file1617 : Int) (v_n1618 : Int) (r : S_pages_Cache × Int) (h : G_pages_Out n v_c1616 v_file1617 v_n1618 = some r) : Ret Try.prog 9 [eS_pages_Cache v_c1616, (eI .i64) v_file1617, (eI .i64) v_n1618] (.tup [eS_pages_Cache r.1, (eI .i64) r.2]) := by
  refine ret_run (n := 50) (fn := Try.f9) (c := bodyOf Try.f9) (by kernel_rfl) (by kernel_rfl) (by kernel_rfl) (by kernel_rfl) ?_
  have hF : KC 50 (FinR Try.prog Try.f9 (.tup [eS_pages_Cache r.1, (eI .i64) r.2])) := FinR.kc' (by kernel_rfl)
  unfold G_pages_Out at h
  obtain ⟨v_r1796, h854, h⟩ := bind_some h
  by_cases h880 : v_r1796.2 = 0
  · rw [if_pos h880] at h
    obtain ⟨v_y1844, h884, h⟩ := bind_some h
    by_cases h885 : v_y1844.fMaps > 0
    · rw [if_pos h885] at h
      exact pkk_sound TTok mix hF 11 (hs := [.c, .r (.tup [(eI .i64) v_r1796.1, (eI .i64) v_r1796.2]), .t false, .c, .y (eS_pages_Page v_y1844), .c, .t true, .c, .c, .c, .c, .c, .c]) (ts := []) (s := [0, 5]) (l := [3, 6, 8, 22]) (by kernel_rfl) (by kernel_rfl) (.cons (G_pages_there_ok n v_c1616 v_file1617 v_n1618 _ h854) (.cons (nf h880) (.cons (getI_ob (f := eS_pages_Page) h884) (.cons (dt h885) .nil)))) (G_pages_Out_J1_ok n  v_c1616 0 v_r1796.1 true _ h)
    · rw [if_neg h885] at h
      obtain ⟨v_y1868, h890, h⟩ := bind_some h
      exact pkk_sound TTok mix hF 11 (hs := [.c, .r (.tup [(eI .i64) v_r1796.1, (eI .i64) v_r1796.2]), .t false, .c, .y (eS_pages_Page v_y1844), .c, .t false, .c, .c, .c, .c, .y (eS_pages_Page v_y1868), .c, .c, .c, .c]) (ts := []) (s := [0, 5]) (l := [3, 6, 8, 22]) (by kernel_rfl) (by kernel_rfl) (.cons (G_pages_there_ok n v_c1616 v_file1617 v_n1618 _ h854) (.cons (nf h880) (.cons (getI_ob (f := eS_pages_Page) h884) (.cons (df h885) (.cons (getI_ob (f := eS_pages_Page) h890) .nil))))) (G_pages_Out_J1_ok n  v_c1616 0 v_r1796.1 (decide (v_y1868.fDirty > 0)) _ h)
  · rw [if_neg h880] at h
    obtain rfl := Option.some.inj h
    exact pend_sound TTok mix 14 (hs := [.c, .r (.tup [(eI .i64) v_r1796.1, (eI .i64) v_r1796.2]), .t true, .c]) (by kernel_rfl) (by kernel_rfl) (by kernel_rfl) (.cons (G_pages_there_ok n v_c1616 v_file1617 v_n1618 _ h854) (.cons (nt h880) (.cons (show 0 + 2 ≤ 2 by decide) .nil)))
/- ringhall/ringref2.In -/
def G_ringref2_In (n : Nat) (v_n1954 : Int) (v_least1955 : Int) (v_most1956 : Int) : Option (Bool) :=
  if v_n1954 ≥ v_least1955 then
   some (decide (v_n1954 ≤ v_most1956))
  else
   some false
theorem G_ringref2_In_ok (n : Nat) (v_n1954 : Int) (v_least1955 : Int) (v_most1956 : Int) (r : Bool) (h : G_ringref2_In n v_n1954 v_least1955 v_most1956 = some r) : Ret Try.prog 17 [(eI .i64) v_n1954, (eI .i64) v_least1955, (eI .i64) v_most1956] (eB r) := by
  refine ret_run (n := 15) (fn := Try.f17) (c := bodyOf Try.f17) (by kernel_rfl) (by kernel_rfl) (by kernel_rfl) (by kernel_rfl) ?_
  have hF : KC 15 (FinR Try.prog Try.f17 (eB r)) := FinR.kc' (by kernel_rfl)
  unfold G_ringref2_In at h
  by_cases h893 : v_n1954 ≥ v_least1955
  · rw [if_pos h893] at h
    obtain rfl := Option.some.inj h
    exact pend_sound TTok mix 5 (hs := [.t true, .c, .c]) (by kernel_rfl) (by kernel_rfl) (by kernel_rfl) (.cons (dt h893) .nil)
  · rw [if_neg h893] at h
    obtain rfl := Option.some.inj h
    exact pend_sound TTok mix 5 (hs := [.t false, .c, .c]) (by kernel_rfl) (by kernel_rfl) (by kernel_rfl) (.cons (df h893) .nil)
/- ringhall/ringref2.FilePage -/
def G_ringref2_FilePage (n : Nat) (v_file1971 : Int) (v_n1972 : Int) : Option (Bool) :=
  (G_ringref2_In n v_file1971 1 32).bind fun (v_r1973 : (Bool)) =>
  if v_r1973 = true then
   (G_ringref2_In n v_n1972 0 31).bind fun (v_r1974 : (Bool)) =>
   some v_r1974
  else
   some false
theorem G_ringref2_FilePage_ok (n : Nat) (v_file1971 : Int) (v_n1972 : Int) (r : Bool) (h : G_ringref2_FilePage n v_file1971 v_n1972 = some r) : Ret Try.prog 14 [(eI .i64) v_file1971, (eI .i64) v_n1972] (eB r) := by
  refine ret_run (n := 11) (fn := Try.f14) (c := bodyOf Try.f14) (by kernel_rfl) (by kernel_rfl) (by kernel_rfl) (by kernel_rfl) ?_
  have hF : KC 11 (FinR Try.prog Try.f14 (eB r)) := FinR.kc' (by kernel_rfl)
  unfold G_ringref2_FilePage at h
  obtain ⟨v_r1973, h898, h⟩ := bind_some h
  by_cases h899 : v_r1973 = true
  · rw [if_pos h899] at h
    obtain ⟨v_r1974, h900, h⟩ := bind_some h
    obtain rfl := Option.some.inj h
    exact pend_sound TTok mix 5 (hs := [.r (eB v_r1973), .t true, .c, .r (eB v_r1974)]) (by kernel_rfl) (by kernel_rfl) (by kernel_rfl) (.cons (G_ringref2_In_ok n v_file1971 1 32 _ h898) (.cons h899 (.cons (G_ringref2_In_ok n v_n1972 0 31 _ h900) .nil)))
  · rw [if_neg h899] at h
    obtain rfl := Option.some.inj h
    exact pend_sound TTok mix 5 (hs := [.r (eB v_r1973), .t false, .c]) (by kernel_rfl) (by kernel_rfl) (by kernel_rfl) (.cons (G_ringref2_In_ok n v_file1971 1 32 _ h898) (.cons (vf h899) .nil))
inductive G_ringref2_Caches_C1_R where
  | x0 (v_x1979 : Bool)
def G_ringref2_Caches_C1_ex : G_ringref2_Caches_C1_R → Ex
  | .x0 _ => .normal
def G_ringref2_Caches_C1_st (v_x1969 : Int) (v_c1944 : S_pages_Cache) (v_y1970 : S_pages_Page) : G_ringref2_Caches_C1_R → PS
  | .x0 v_x1979 => ⟨[dd, .ref 0 0, dd, .d (.v (.int .i64 v_x1969)), .ref 1 0, dd, dd, dd, dd, dd, dd, dd, dd, dd, dd, dd, .d (.sl (v_c1944.fPages.map eS_pages_Page)), .d (.v (.int .i64 (v_c1944.fPages.length : Int))), .d (.v (.int .i64 v_x1969)), dd, dd, dd, dd, dd, dd, dd, dd, dd, dd, dd, dd, dd, dd, dd, dd, dd, dd, dd, dd, dd, dd, dd, dd, .d (.v (.bool v_x1979)), dd, dd, dd, dd, dd, dd, dd, dd, dd, dd, dd, dd, dd, dd, dd, dd, dd, dd, dd, dd, dd, dd, dd, dd, dd, dd, dd, dd, dd, dd, dd, dd, dd, dd, dd, dd, dd, dd, dd, dd, dd, dd, dd, dd, dd, dd, dd, dd, dd], [.box [.d (.sl (v_c1944.fPages.map eS_pages_Page)), .d (.v (.int .i64 v_c1944.fClock))], .box ((cS_pages_Page v_y1970).map FV.d)]⟩
def G_ringref2_Caches_C1_hd (v_x1969 : Int) (v_c1944 : S_pages_Cache) (v_y1970 : S_pages_Page)  : PS := ⟨[dd, .ref 0 0, dd, .d (.v (.int .i64 v_x1969)), .ref 1 0, dd, dd, dd, dd, dd, dd, dd, dd, dd, dd, dd, .d (.sl (v_c1944.fPages.map eS_pages_Page)), .d (.v (.int .i64 (v_c1944.fPages.length : Int))), .d (.v (.int .i64 v_x1969)), dd, dd, dd, dd, dd, dd, dd, dd, dd, dd, dd, dd, dd, dd, dd, dd, dd, dd, dd, dd, dd, dd, dd, dd, dd, dd, dd, dd, dd, dd, dd, dd, dd, dd, dd, dd, dd, dd, dd, dd, dd, dd, dd, dd, dd, dd, dd, dd, dd, dd, dd, dd, dd, dd, dd, dd, dd, dd, dd, dd, dd, dd, dd, dd, dd, dd, dd, dd, dd, dd, dd, dd, dd, dd], [.box [.d (.sl (v_c1944.fPages.map eS_pages_Page)), .d (.v (.int .i64 v_c1944.fClock))], .box ((cS_pages_Page v_y1970).map FV.d)]⟩
def G_ringref2_Caches_C1 (n : Nat) (v_x1969 : Int) (v_c1944 : S_pages_Cache) (v_y1970 : S_pages_Page) : Option G_ringref2_Caches_C1_R :=
  (G_ringref2_FilePage n v_y1970.fFile v_y1970.fN).bind fun (v_r1978 : (Bool)) =>
  if v_r1978 = true then
   (G_ringref2_In n v_y1970.fMaps 0 64).bind fun (v_r1980 : (Bool)) =>
   if v_r1980 = true then
    (G_ringref2_In n v_y1970.fDirty 0 (wi .i64 (v_c1944.fClock - 1))).bind fun (v_r1982 : (Bool)) =>
    some (.x0 (!v_r1982))
   else
    some (.x0 true)
  else
   some (.x0 true)
theorem G_ringref2_Caches_C1_ok {Fi : Ex → PS → Prop} (hF : KC 93 Fi) (ks : List Fr) (n : Nat) (v_x1969 : Int) (v_c1944 : S_pages_Cache) (v_y1970 : S_pages_Page)  (o : G_ringref2_Caches_C1_R) (h : G_ringref2_Caches_C1 n v_x1969 v_c1944 v_y1970 = some o) (q : RunE Try.prog 93 Fi ks (G_ringref2_Caches_C1_ex o) (G_ringref2_Caches_C1_st v_x1969 v_c1944 v_y1970 o)) : RunE Try.prog 93 Fi (.s (cL (cL (cR (cB (cL (cR (cR (cP (cB (cR (cL (cR (cR (cR (bodyOf Try.f10))))))))))))))) :: ks) .normal (G_ringref2_Caches_C1_hd v_x1969 v_c1944 v_y1970) := by
  unfold G_ringref2_Caches_C1 at h
  obtain ⟨v_r1978, h906, h⟩ := bind_some h
  by_cases h907 : v_r1978 = true
  · rw [if_pos h907] at h
    obtain ⟨v_r1980, h908, h⟩ := bind_some h
    by_cases h909 : v_r1980 = true
    · rw [if_pos h909] at h
      obtain ⟨v_r1982, h910, h⟩ := bind_some h
      cases h
      exact pkk_sound TTok mix hF 1 (hs := [.c, .c, .r (eB v_r1978), .t false, .c, .c, .c, .r (eB v_r1980), .c, .t false, .c, .c, .c, .c, .c, .c, .c, .r (eB v_r1982), .c]) (ts := []) (s := [0, 1]) (l := [1, 3, 4, 16, 17, 18, 43]) (by kernel_rfl) (by kernel_rfl) (.cons (G_ringref2_FilePage_ok n v_y1970.fFile v_y1970.fN _ h906) (.cons (bnf h907) (.cons (G_ringref2_In_ok n v_y1970.fMaps 0 64 _ h908) (.cons (bnf h909) (.cons (G_ringref2_In_ok n v_y1970.fDirty 0 (wi .i64 (v_c1944.fClock - 1)) _ h910) .nil))))) q
    · rw [if_neg h909] at h
      cases h
      exact pkk_sound TTok mix hF 1 (hs := [.c, .c, .r (eB v_r1978), .t false, .c, .c, .c, .r (eB v_r1980), .c, .t true, .c, .c, .c, .c, .c, .c]) (ts := []) (s := [0, 1]) (l := [1, 3, 4, 16, 17, 18, 43]) (by kernel_rfl) (by kernel_rfl) (.cons (G_ringref2_FilePage_ok n v_y1970.fFile v_y1970.fN _ h906) (.cons (bnf h907) (.cons (G_ringref2_In_ok n v_y1970.fMaps 0 64 _ h908) (.cons (bnt (vf h909)) .nil)))) q
  · rw [if_neg h907] at h
    cases h
    exact pkk_sound TTok mix hF 1 (hs := [.c, .c, .r (eB v_r1978), .t true, .c, .c, .c, .c, .c, .c, .c, .c, .c, .c]) (ts := []) (s := [0, 1]) (l := [1, 3, 4, 16, 17, 18, 43]) (by kernel_rfl) (by kernel_rfl) (.cons (G_ringref2_FilePage_ok n v_y1970.fFile v_y1970.fN _ h906) (.cons (bnt (vf h907)) .nil)) q
inductive G_ringref2_Caches_C2_R where
  | x0 (v_x2002 : Bool)
def G_ringref2_Caches_C2_ex : G_ringref2_Caches_C2_R → Ex
  | .x0 _ => .normal
def G_ringref2_Caches_C2_st (v_x1969 : Int) (v_x1988 : Int) (v_c1944 : S_pages_Cache) (v_s1987 : (List S_pages_Page)) (v_y1970 : S_pages_Page) (v_y2001 : S_pages_Page) : G_ringref2_Caches_C2_R → PS
  | .x0 v_x2002 => ⟨[dd, .ref 0 0, dd, .d (.v (.int .i64 v_x1969)), .ref 1 0, dd, dd, dd, dd, dd, dd, dd, dd, dd, dd, dd, .d (.sl (v_c1944.fPages.map eS_pages_Page)), .d (.v (.int .i64 (v_c1944.fPages.length : Int))), .d (.v (.int .i64 v_x1969)), dd, dd, dd, dd, dd, dd, dd, dd, dd, dd, dd, dd, dd, dd, dd, dd, dd, dd, dd, dd, dd, dd, dd, dd, dd, dd, dd, dd, .d (.sl (v_s1987.map eS_pages_Page)), .d (.v (.int .i64 (v_s1987.length : Int))), .d (.v (.int .i64 v_x1988)), dd, dd, dd, dd, dd, dd, dd, dd, dd, dd, dd, dd, dd, dd, dd, dd, dd, dd, dd, dd, dd, dd, dd, dd, dd, dd, dd, dd, dd, dd, dd, dd, dd, dd, dd, dd, dd, dd, dd, dd, .d (.v (.bool v_x2002)), dd, dd], [.box [.d (.sl (v_c1944.fPages.map eS_pages_Page)), .d (.v (.int .i64 v_c1944.fClock))], .box ((cS_pages_Page v_y1970).map FV.d)]⟩
def G_ringref2_Caches_C2_hd (v_x1969 : Int) (v_x1988 : Int) (v_c1944 : S_pages_Cache) (v_s1987 : (List S_pages_Page)) (v_y1970 : S_pages_Page) (v_y2001 : S_pages_Page)  : PS := ⟨[dd, .ref 0 0, dd, .d (.v (.int .i64 v_x1969)), .ref 1 0, .d (.v (.int .i64 v_x1988)), .ref 2 0, dd, dd, dd, dd, dd, dd, dd, dd, dd, .d (.sl (v_c1944.fPages.map eS_pages_Page)), .d (.v (.int .i64 (v_c1944.fPages.length : Int))), .d (.v (.int .i64 v_x1969)), dd, dd, dd, dd, dd, dd, dd, dd, dd, dd, dd, dd, dd, dd, dd, dd, dd, dd, dd, dd, dd, dd, dd, dd, dd, dd, dd, dd, .d (.sl (v_s1987.map eS_pages_Page)), .d (.v (.int .i64 (v_s1987.length : Int))), .d (.v (.int .i64 v_x1988)), dd, dd, dd, dd, dd, dd, dd, dd, dd, dd, dd, dd, dd, dd, dd, dd, dd, dd, dd, dd, dd, dd, dd, dd, dd, dd, dd, dd, dd, dd, dd, dd, dd, dd, dd, dd, dd, dd, dd, dd, dd, dd, dd], [.box [.d (.sl (v_c1944.fPages.map eS_pages_Page)), .d (.v (.int .i64 v_c1944.fClock))], .box ((cS_pages_Page v_y1970).map FV.d), .box ((cS_pages_Page v_y2001).map FV.d)]⟩
def G_ringref2_Caches_C2 (n : Nat) (v_x1969 : Int) (v_x1988 : Int) (v_c1944 : S_pages_Cache) (v_s1987 : (List S_pages_Page)) (v_y1970 : S_pages_Page) (v_y2001 : S_pages_Page) : Option G_ringref2_Caches_C2_R :=
  if v_y1970.fDirty > 0 then
   if v_y2001.fDirty = v_y1970.fDirty then
    some (.x0 true)
   else
    if v_x1988 = (wi .i64 (v_x1969 - 1)) then
     if v_y2001.fFile > v_y1970.fFile then
      some (.x0 true)
     else
      if v_y2001.fFile = v_y1970.fFile then
       some (.x0 (decide (v_y2001.fN ≥ v_y1970.fN)))
      else
       some (.x0 false)
    else
     some (.x0 false)
  else
   if v_x1988 = (wi .i64 (v_x1969 - 1)) then
    if v_y2001.fFile > v_y1970.fFile then
     some (.x0 true)
    else
     if v_y2001.fFile = v_y1970.fFile then
      some (.x0 (decide (v_y2001.fN ≥ v_y1970.fN)))
     else
      some (.x0 false)
   else
    some (.x0 false)
theorem G_ringref2_Caches_C2_ok {Fi : Ex → PS → Prop} (hF : KC 93 Fi) (ks : List Fr) (n : Nat) (v_x1969 : Int) (v_x1988 : Int) (v_c1944 : S_pages_Cache) (v_s1987 : (List S_pages_Page)) (v_y1970 : S_pages_Page) (v_y2001 : S_pages_Page)  (o : G_ringref2_Caches_C2_R) (h : G_ringref2_Caches_C2 n v_x1969 v_x1988 v_c1944 v_s1987 v_y1970 v_y2001 = some o) (q : RunE Try.prog 93 Fi ks (G_ringref2_Caches_C2_ex o) (G_ringref2_Caches_C2_st v_x1969 v_x1988 v_c1944 v_s1987 v_y1970 v_y2001 o)) : RunE Try.prog 93 Fi (.s (cL (cR (cB (cL (cR (cR (cP (cB (cR (cR (cR (cB (cL (cR (cR (cP (cB (cR (cL (cR (cR (cR (bodyOf Try.f10))))))))))))))))))))))) :: ks) .normal (G_ringref2_Caches_C2_hd v_x1969 v_x1988 v_c1944 v_s1987 v_y1970 v_y2001) := by
  unfold G_ringref2_Caches_C2 at h
  by_cases h943 : v_y1970.fDirty > 0
  · rw [if_pos h943] at h
    by_cases h944 : v_y2001.fDirty = v_y1970.fDirty
    · rw [if_pos h944] at h
      cases h
      exact pkk_sound TTok mix hF 1 (hs := [.c, .t true, .c, .c, .c, .c, .c, .c, .t true, .c, .c, .c, .c, .c]) (ts := []) (s := [0, 1]) (l := [1, 3, 4, 16, 17, 18, 47, 48, 49, 90]) (by kernel_rfl) (by kernel_rfl) (.cons (dt h943) (.cons (bt h944) .nil)) q
    · rw [if_neg h944] at h
      by_cases h945 : v_x1988 = (wi .i64 (v_x1969 - 1))
      · rw [if_pos h945] at h
        by_cases h946 : v_y2001.fFile > v_y1970.fFile
        · rw [if_pos h946] at h
          cases h
          exact pkk_sound TTok mix hF 1 (hs := [.c, .t true, .c, .c, .c, .c, .c, .c, .t false, .c, .c, .c, .c, .t true, .c, .c, .c, .c, .c, .c, .c, .t true, .c, .c, .c, .c, .c, .c, .c, .c]) (ts := []) (s := [0, 1]) (l := [1, 3, 4, 16, 17, 18, 47, 48, 49, 90]) (by kernel_rfl) (by kernel_rfl) (.cons (dt h943) (.cons (bf h944) (.cons (bt h945) (.cons (dt h946) .nil)))) q
        · rw [if_neg h946] at h
          by_cases h947 : v_y2001.fFile = v_y1970.fFile
          · rw [if_pos h947] at h
            cases h
            exact pkk_sound TTok mix hF 1 (hs := [.c, .t true, .c, .c, .c, .c, .c, .c, .t false, .c, .c, .c, .c, .t true, .c, .c, .c, .c, .c, .c, .c, .t false, .c, .c, .c, .c, .c, .c, .c, .t true, .c, .c, .c, .c, .c, .c, .c, .c, .c]) (ts := []) (s := [0, 1]) (l := [1, 3, 4, 16, 17, 18, 47, 48, 49, 90]) (by kernel_rfl) (by kernel_rfl) (.cons (dt h943) (.cons (bf h944) (.cons (bt h945) (.cons (df h946) (.cons (bt h947) .nil))))) q
          · rw [if_neg h947] at h
            cases h
            exact pkk_sound TTok mix hF 1 (hs := [.c, .t true, .c, .c, .c, .c, .c, .c, .t false, .c, .c, .c, .c, .t true, .c, .c, .c, .c, .c, .c, .c, .t false, .c, .c, .c, .c, .c, .c, .c, .t false, .c, .c, .c, .c, .c, .c, .c]) (ts := []) (s := [0, 1]) (l := [1, 3, 4, 16, 17, 18, 47, 48, 49, 90]) (by kernel_rfl) (by kernel_rfl) (.cons (dt h943) (.cons (bf h944) (.cons (bt h945) (.cons (df h946) (.cons (bf h947) .nil))))) q
      · rw [if_neg h945] at h
        cases h
        exact pkk_sound TTok mix hF 1 (hs := [.c, .t true, .c, .c, .c, .c, .c, .c, .t false, .c, .c, .c, .c, .t false, .c, .c, .c, .c, .c, .c, .c]) (ts := []) (s := [0, 1]) (l := [1, 3, 4, 16, 17, 18, 47, 48, 49, 90]) (by kernel_rfl) (by kernel_rfl) (.cons (dt h943) (.cons (bf h944) (.cons (bf h945) .nil))) q
  · rw [if_neg h943] at h
    by_cases h948 : v_x1988 = (wi .i64 (v_x1969 - 1))
    · rw [if_pos h948] at h
      by_cases h949 : v_y2001.fFile > v_y1970.fFile
      · rw [if_pos h949] at h
        cases h
        exact pkk_sound TTok mix hF 1 (hs := [.c, .t false, .c, .c, .c, .c, .c, .c, .c, .c, .c, .t true, .c, .c, .c, .c, .c, .c, .c, .t true, .c, .c, .c, .c, .c, .c, .c, .c]) (ts := []) (s := [0, 1]) (l := [1, 3, 4, 16, 17, 18, 47, 48, 49, 90]) (by kernel_rfl) (by kernel_rfl) (.cons (df h943) (.cons (bt h948) (.cons (dt h949) .nil))) q
      · rw [if_neg h949] at h
        by_cases h950 : v_y2001.fFile = v_y1970.fFile
        · rw [if_pos h950] at h
          cases h
          exact pkk_sound TTok mix hF 1 (hs := [.c, .t false, .c, .c, .c, .c, .c, .c, .c, .c, .c, .t true, .c, .c, .c, .c, .c, .c, .c, .t false, .c, .c, .c, .c, .c, .c, .c, .t true, .c, .c, .c, .c, .c, .c, .c, .c, .c]) (ts := []) (s := [0, 1]) (l := [1, 3, 4, 16, 17, 18, 47, 48, 49, 90]) (by kernel_rfl) (by kernel_rfl) (.cons (df h943) (.cons (bt h948) (.cons (df h949) (.cons (bt h950) .nil)))) q
        · rw [if_neg h950] at h
          cases h
          exact pkk_sound TTok mix hF 1 (hs := [.c, .t false, .c, .c, .c, .c, .c, .c, .c, .c, .c, .t true, .c, .c, .c, .c, .c, .c, .c, .t false, .c, .c, .c, .c, .c, .c, .c, .t false, .c, .c, .c, .c, .c, .c, .c]) (ts := []) (s := [0, 1]) (l := [1, 3, 4, 16, 17, 18, 47, 48, 49, 90]) (by kernel_rfl) (by kernel_rfl) (.cons (df h943) (.cons (bt h948) (.cons (df h949) (.cons (bf h950) .nil)))) q
    · rw [if_neg h948] at h
      cases h
      exact pkk_sound TTok mix hF 1 (hs := [.c, .t false, .c, .c, .c, .c, .c, .c, .c, .c, .c, .t false, .c, .c, .c, .c, .c, .c, .c]) (ts := []) (s := [0, 1]) (l := [1, 3, 4, 16, 17, 18, 47, 48, 49, 90]) (by kernel_rfl) (by kernel_rfl) (.cons (df h943) (.cons (bf h948) .nil)) q
inductive G_ringref2_Caches_L3_R where
  | x0 (v_x2013 : Int)
  | x1 
def G_ringref2_Caches_L3_ex : G_ringref2_Caches_L3_R → Ex
  | .x0 _ => .ret
  | .x1  => .exit 2
def G_ringref2_Caches_L3_st (v_x1969 : Int) (v_c1944 : S_pages_Cache) (v_s1987 : (List S_pages_Page)) (v_y1970 : S_pages_Page) : G_ringref2_Caches_L3_R → PS
  | .x0 v_x2013 => ⟨[dd, dd, .d (.v (.int .i64 v_x2013)), dd, dd, dd, dd, dd, dd, dd, dd, dd, dd, dd, dd, dd, dd, dd, dd, dd, dd, dd, dd, dd, dd, dd, dd, dd, dd, dd, dd, dd, dd, dd, dd, dd, dd, dd, dd, dd, dd, dd, dd, dd, dd, dd, dd, dd, dd, dd, dd, dd, dd, dd, dd, dd, dd, dd, dd, dd, dd, dd, dd, dd, dd, dd, dd, dd, dd, dd, dd, dd, dd, dd, dd, dd, dd, dd, dd, dd, dd, dd, dd, dd, dd, dd, dd, dd, dd, dd, dd, dd, dd], []⟩
  | .x1  => ⟨[dd, .ref 0 0, dd, dd, dd, dd, dd, dd, dd, dd, dd, dd, dd, dd, dd, dd, .d (.sl (v_c1944.fPages.map eS_pages_Page)), .d (.v (.int .i64 (v_c1944.fPages.length : Int))), .d (.v (.int .i64 v_x1969)), dd, dd, dd, dd, dd, dd, dd, dd, dd, dd, dd, dd, dd, dd, dd, dd, dd, dd, dd, dd, dd, dd, dd, dd, dd, dd, dd, dd, dd, dd, dd, dd, dd, dd, dd, dd, dd, dd, dd, dd, dd, dd, dd, dd, dd, dd, dd, dd, dd, dd, dd, dd, dd, dd, dd, dd, dd, dd, dd, dd, dd, dd, dd, dd, dd, dd, dd, dd, dd, dd, dd, dd, dd, dd], [.box [.d (.sl (v_c1944.fPages.map eS_pages_Page)), .d (.v (.int .i64 v_c1944.fClock))]]⟩
def G_ringref2_Caches_L3_hd (v_x1969 : Int) (v_c1944 : S_pages_Cache) (v_s1987 : (List S_pages_Page)) (v_y1970 : S_pages_Page) (v_x1988 : Int) : PS := ⟨[dd, .ref 0 0, dd, .d (.v (.int .i64 v_x1969)), .ref 1 0, dd, dd, dd, dd, dd, dd, dd, dd, dd, dd, dd, .d (.sl (v_c1944.fPages.map eS_pages_Page)), .d (.v (.int .i64 (v_c1944.fPages.length : Int))), .d (.v (.int .i64 v_x1969)), dd, dd, dd, dd, dd, dd, dd, dd, dd, dd, dd, dd, dd, dd, dd, dd, dd, dd, dd, dd, dd, dd, dd, dd, dd, dd, dd, dd, .d (.sl (v_s1987.map eS_pages_Page)), .d (.v (.int .i64 (v_s1987.length : Int))), .d (.v (.int .i64 v_x1988)), dd, dd, dd, dd, dd, dd, dd, dd, dd, dd, dd, dd, dd, dd, dd, dd, dd, dd, dd, dd, dd, dd, dd, dd, dd, dd, dd, dd, dd, dd, dd, dd, dd, dd, dd, dd, dd, dd, dd, dd, dd, dd, dd], [.box [.d (.sl (v_c1944.fPages.map eS_pages_Page)), .d (.v (.int .i64 v_c1944.fClock))], .box ((cS_pages_Page v_y1970).map FV.d)]⟩
def G_ringref2_Caches_L3 (n : Nat) (v_x1969 : Int) (v_c1944 : S_pages_Cache) (v_s1987 : (List S_pages_Page)) (v_y1970 : S_pages_Page) : Nat → Int → Option G_ringref2_Caches_L3_R
  | 0, _ => none
  | k + 1, v_x1988 =>
    if v_x1988 < (v_s1987.length : Int) then
     (getI v_s1987 v_x1988).bind fun (v_y2001 : S_pages_Page) =>
     (G_ringref2_Caches_C2 n v_x1969 v_x1988 v_c1944 v_s1987 v_y1970 v_y2001).bind fun v_o2011 => match v_o2011 with
     | .x0 v_z2012 =>
       if v_z2012 = true then
        some (.x0 3)
       else
        G_ringref2_Caches_L3 n v_x1969 v_c1944 v_s1987 v_y1970 k (wi .i64 (v_x1988 + 1))
    else
     some (.x1 )
theorem G_ringref2_Caches_L3_ok {Fi : Ex → PS → Prop} (hF : KC 93 Fi) (ks : List Fr) (n : Nat) (v_x1969 : Int) (v_c1944 : S_pages_Cache) (v_s1987 : (List S_pages_Page)) (v_y1970 : S_pages_Page)  : ∀ (k : Nat) (v_x1988 : Int) (o : G_ringref2_Caches_L3_R), G_ringref2_Caches_L3 n v_x1969 v_c1944 v_s1987 v_y1970 k v_x1988 = some o → RunE Try.prog 93 Fi ks (G_ringref2_Caches_L3_ex o) (G_ringref2_Caches_L3_st v_x1969 v_c1944 v_s1987 v_y1970 o) → RunE Try.prog 93 Fi (.l k (cP (cB (cR (cR (cR (cB (cL (cR (cR (cP (cB (cR (cL (cR (cR (cR (bodyOf Try.f10))))))))))))))))) :: ks) .normal (G_ringref2_Caches_L3_hd v_x1969 v_c1944 v_s1987 v_y1970 v_x1988)
  | 0, v_x1988, o, h, q => by rw [G_ringref2_Caches_L3] at h; cases h
  | k + 1, v_x1988, o, h, q => by
    rw [G_ringref2_Caches_L3] at h
    by_cases h914 : v_x1988 < (v_s1987.length : Int)
    · rw [if_pos h914] at h
      obtain ⟨v_y2001, h934, h⟩ := bind_some h
      obtain ⟨v_o2011, h951, h⟩ := bind_some h
      refine pkk_sound TTok mix hF 11 (hs := [.t true, .y (eS_pages_Page v_y2001), .c]) (ts := []) (s := [0, 1, 22]) (l := [1, 3, 4, 5, 6, 16, 17, 18, 47, 48, 49]) (by kernel_rfl) (by kernel_rfl) (.cons (dt h914) (.cons (getI_ob (f := eS_pages_Page) h934) (.cons (show 0 + 20 ≤ 20 by decide) .nil))) (G_ringref2_Caches_C2_ok hF (.s (cR (cR (cB (cL (cR (cR (cP (cB (cR (cR (cR (cB (cL (cR (cR (cP (cB (cR (cL (cR (cR (cR (bodyOf Try.f10))))))))))))))))))))))) :: .b 3 :: .s (cR (cR (cR (cP (cB (cR (cR (cR (cB (cL (cR (cR (cP (cB (cR (cL (cR (cR (cR (bodyOf Try.f10)))))))))))))))))))) :: .l k (cP (cB (cR (cR (cR (cB (cL (cR (cR (cP (cB (cR (cL (cR (cR (cR (bodyOf Try.f10))))))))))))))))) :: ks) n v_x1969 v_x1988 v_c1944 v_s1987 v_y1970 v_y2001 _ h951 ?_)
      cases v_o2011 with
      | x0 v_z2012 =>
        try dsimp only at h
        by_cases h952 : v_z2012 = true
        · rw [if_pos h952] at h
          cases h
          exact pkk_sound TTok mix hF 7 (hs := [.t true]) (ts := []) (s := []) (l := [2]) (by kernel_rfl) (by kernel_rfl) (.cons h952 .nil) q
        · rw [if_neg h952] at h
          exact pkk_sound TTok mix hF 4 (hs := [.t false]) (ts := []) (s := [0, 1]) (l := [1, 3, 4, 16, 17, 18, 47, 48, 49]) (by kernel_rfl) (by kernel_rfl) (.cons (vf h952) .nil) (G_ringref2_Caches_L3_ok hF ks n v_x1969 v_c1944 v_s1987 v_y1970 k (wi .i64 (v_x1988 + 1)) _ h q)
    · rw [if_neg h914] at h
      cases h
      exact pkk_sound TTok mix hF 8 (hs := [.t false]) (ts := []) (s := [0]) (l := [1, 16, 17, 18]) (by kernel_rfl) (by kernel_rfl) (.cons (df h914) .nil) q
inductive G_ringref2_Caches_L4_R where
  | x0 (v_x1986 : Int)
  | x1 
def G_ringref2_Caches_L4_ex : G_ringref2_Caches_L4_R → Ex
  | .x0 _ => .ret
  | .x1  => .exit 0
def G_ringref2_Caches_L4_st (v_c1944 : S_pages_Cache) : G_ringref2_Caches_L4_R → PS
  | .x0 v_x1986 => ⟨[dd, dd, .d (.v (.int .i64 v_x1986)), dd, dd, dd, dd, dd, dd, dd, dd, dd, dd, dd, dd, dd, dd, dd, dd, dd, dd, dd, dd, dd, dd, dd, dd, dd, dd, dd, dd, dd, dd, dd, dd, dd, dd, dd, dd, dd, dd, dd, dd, dd, dd, dd, dd, dd, dd, dd, dd, dd, dd, dd, dd, dd, dd, dd, dd, dd, dd, dd, dd, dd, dd, dd, dd, dd, dd, dd, dd, dd, dd, dd, dd, dd, dd, dd, dd, dd, dd, dd, dd, dd, dd, dd, dd, dd, dd, dd, dd, dd, dd], []⟩
  | .x1  => ⟨[dd, dd, dd, dd, dd, dd, dd, dd, dd, dd, dd, dd, dd, dd, dd, dd, dd, dd, dd, dd, dd, dd, dd, dd, dd, dd, dd, dd, dd, dd, dd, dd, dd, dd, dd, dd, dd, dd, dd, dd, dd, dd, dd, dd, dd, dd, dd, dd, dd, dd, dd, dd, dd, dd, dd, dd, dd, dd, dd, dd, dd, dd, dd, dd, dd, dd, dd, dd, dd, dd, dd, dd, dd, dd, dd, dd, dd, dd, dd, dd, dd, dd, dd, dd, dd, dd, dd, dd, dd, dd, dd, dd, dd], []⟩
def G_ringref2_Caches_L4_hd (v_c1944 : S_pages_Cache) (v_x1969 : Int) : PS := ⟨[dd, .ref 0 0, dd, dd, dd, dd, dd, dd, dd, dd, dd, dd, dd, dd, dd, dd, .d (.sl (v_c1944.fPages.map eS_pages_Page)), .d (.v (.int .i64 (v_c1944.fPages.length : Int))), .d (.v (.int .i64 v_x1969)), dd, dd, dd, dd, dd, dd, dd, dd, dd, dd, dd, dd, dd, dd, dd, dd, dd, dd, dd, dd, dd, dd, dd, dd, dd, dd, dd, dd, dd, dd, dd, dd, dd, dd, dd, dd, dd, dd, dd, dd, dd, dd, dd, dd, dd, dd, dd, dd, dd, dd, dd, dd, dd, dd, dd, dd, dd, dd, dd, dd, dd, dd, dd, dd, dd, dd, dd, dd, dd, dd, dd, dd, dd, dd], [.box [.d (.sl (v_c1944.fPages.map eS_pages_Page)), .d (.v (.int .i64 v_c1944.fClock))]]⟩
def G_ringref2_Caches_L4 (n : Nat) (v_c1944 : S_pages_Cache) : Nat → Int → Option G_ringref2_Caches_L4_R
  | 0, _ => none
  | k + 1, v_x1969 =>
    if v_x1969 < (v_c1944.fPages.length : Int) then
     (getI v_c1944.fPages v_x1969).bind fun (v_y1970 : S_pages_Page) =>
     (G_ringref2_Caches_C1 n v_x1969 v_c1944 v_y1970).bind fun v_o1984 => match v_o1984 with
     | .x0 v_z1985 =>
       if v_z1985 = true then
        some (.x0 1)
       else
        (sub v_c1944.fPages 0 v_x1969).bind fun (v_s1987 : (List S_pages_Page)) =>
        (G_ringref2_Caches_L3 n v_x1969 v_c1944 v_s1987 v_y1970 n 0).bind fun v_o2014 => match v_o2014 with
        | .x0 v_z2015 =>
          some (.x0 v_z2015)
        | .x1  =>
          G_ringref2_Caches_L4 n v_c1944 k (wi .i64 (v_x1969 + 1))
    else
     some (.x1 )
theorem G_ringref2_Caches_L4_ok {Fi : Ex → PS → Prop} (hF : KC 93 Fi) (ks : List Fr) (n : Nat) (v_c1944 : S_pages_Cache)  : ∀ (k : Nat) (v_x1969 : Int) (o : G_ringref2_Caches_L4_R), G_ringref2_Caches_L4 n v_c1944 k v_x1969 = some o → RunE Try.prog 93 Fi ks (G_ringref2_Caches_L4_ex o) (G_ringref2_Caches_L4_st v_c1944 o) → RunE Try.prog 93 Fi (.l k (cP (cB (cR (cL (cR (cR (cR (bodyOf Try.f10)))))))) :: ks) .normal (G_ringref2_Caches_L4_hd v_c1944 v_x1969)
  | 0, v_x1969, o, h, q => by rw [G_ringref2_Caches_L4] at h; cases h
  | k + 1, v_x1969, o, h, q => by
    rw [G_ringref2_Caches_L4] at h
    by_cases h896 : v_x1969 < (v_c1944.fPages.length : Int)
    · rw [if_pos h896] at h
      obtain ⟨v_y1970, h897, h⟩ := bind_some h
      obtain ⟨v_o1984, h911, h⟩ := bind_some h
      refine pkk_sound TTok mix hF 12 (hs := [.t true, .y (eS_pages_Page v_y1970), .c]) (ts := []) (s := [0, 21]) (l := [1, 3, 4, 16, 17, 18]) (by kernel_rfl) (by kernel_rfl) (.cons (dt h896) (.cons (getI_ob (f := eS_pages_Page) h897) (.cons (show 0 + 20 ≤ 20 by decide) .nil))) (G_ringref2_Caches_C1_ok hF (.s (cR (cL (cR (cB (cL (cR (cR (cP (cB (cR (cL (cR (cR (cR (bodyOf Try.f10))))))))))))))) :: .s (cR (cR (cB (cL (cR (cR (cP (cB (cR (cL (cR (cR (cR (bodyOf Try.f10)))))))))))))) :: .b 1 :: .s (cR (cR (cR (cP (cB (cR (cL (cR (cR (cR (bodyOf Try.f10))))))))))) :: .l k (cP (cB (cR (cL (cR (cR (cR (bodyOf Try.f10)))))))) :: ks) n v_x1969 v_c1944 v_y1970 _ h911 ?_)
      cases v_o1984 with
      | x0 v_z1985 =>
        try dsimp only at h
        by_cases h912 : v_z1985 = true
        · rw [if_pos h912] at h
          cases h
          exact pkk_sound TTok mix hF 8 (hs := [.t true]) (ts := []) (s := []) (l := [2]) (by kernel_rfl) (by kernel_rfl) (.cons h912 .nil) q
        · rw [if_neg h912] at h
          obtain ⟨v_s1987, h913, h⟩ := bind_some h
          obtain ⟨v_o2014, h953, h⟩ := bind_some h
          refine pkk_sound TTok mix hF 6 (hs := [.t false, .c, .w (v_s1987.map eS_pages_Page), .u (.d (.v (.int .i64 (v_s1987.length : Int)))), .n n]) (ts := []) (s := [0, 1]) (l := [1, 3, 4, 16, 17, 18, 47, 48, 49]) (by kernel_rfl) (by kernel_rfl) (.cons (vf h912) (.cons (sub_ob (f := eS_pages_Page) (s := 20) h913 (fun _ => rfl)).1 (.cons (sub_ob (f := eS_pages_Page) (s := 20) h913 (fun _ => rfl)).2.1 (.cons (sub_ob (f := eS_pages_Page) (s := 20) h913 (fun _ => rfl)).2.2.1 (.cons (sub_ob (f := eS_pages_Page) (s := 20) h913 (fun _ => rfl)).2.2.2.1 (.cons (sub_ob (f := eS_pages_Page) (s := 20) h913 (fun _ => rfl)).2.2.2.2 (.cons (len_ob (f := eS_pages_Page) (l := v_s1987)) .nil))))))) (G_ringref2_Caches_L3_ok hF (.b 2 :: .b 1 :: .s (cR (cR (cR (cP (cB (cR (cL (cR (cR (cR (bodyOf Try.f10))))))))))) :: .l k (cP (cB (cR (cL (cR (cR (cR (bodyOf Try.f10)))))))) :: ks) n v_x1969 v_c1944 v_s1987 v_y1970 n 0 _ h953 ?_)
          cases v_o2014 with
          | x0 v_z2015 =>
            try dsimp only at h
            cases h
            exact pkk_sound TTok mix hF 4 (hs := []) (ts := []) (s := []) (l := [2]) (by kernel_rfl) (by kernel_rfl) .nil q
          | x1  =>
            try dsimp only at h
            exact pkk_sound TTok mix hF 3 (hs := []) (ts := []) (s := [0]) (l := [1, 16, 17, 18]) (by kernel_rfl) (by kernel_rfl) .nil (G_ringref2_Caches_L4_ok hF ks n v_c1944 k (wi .i64 (v_x1969 + 1)) _ h q)
    · rw [if_neg h896] at h
      cases h
      exact pkk_sound TTok mix hF 8 (hs := [.t false]) (ts := []) (s := []) (l := []) (by kernel_rfl) (by kernel_rfl) (.cons (df h896) .nil) q
/- ringhall/ringref2.Caches -/
def G_ringref2_Caches (n : Nat) (v_c1944 : S_pages_Cache) : Option (Int) :=
  if (v_c1944.fPages.length : Int) > 64 then
   some 2
  else
   (G_ringref2_In n v_c1944.fClock 1 1073741824).bind fun (v_r1957 : (Bool)) =>
   if v_r1957 = true then
    (G_ringref2_Caches_L4 n v_c1944 n 0).bind fun v_o2017 => match v_o2017 with
    | .x0 v_z2018 =>
      some v_z2018
    | .x1  =>
      some 0
   else
    some 1
theorem G_ringref2_Caches_ok (n : Nat) (v_c1944 : S_pages_Cache) (r : Int) (h : G_ringref2_Caches n v_c1944 = some r) : Ret Try.prog 10 [eS_pages_Cache v_c1944] ((eI .i64) r) := by
  refine ret_run (n := 93) (fn := Try.f10) (c := bodyOf Try.f10) (by kernel_rfl) (by kernel_rfl) (by kernel_rfl) (by kernel_rfl) ?_
  have hF : KC 93 (FinR Try.prog Try.f10 ((eI .i64) r)) := FinR.kc' (by kernel_rfl)
  unfold G_ringref2_Caches at h
  by_cases h892 : (v_c1944.fPages.length : Int) > 64
  · rw [if_pos h892] at h
    obtain rfl := Option.some.inj h
    exact pend_sound TTok mix 10 (hs := [.c, .u (.d (.v (.int .i64 (v_c1944.fPages.length : Int)))), .t true]) (by kernel_rfl) (by kernel_rfl) (by kernel_rfl) (.cons (len_ob (f := eS_pages_Page) (l := v_c1944.fPages)) (.cons (dt h892) .nil))
  · rw [if_neg h892] at h
    obtain ⟨v_r1957, h894, h⟩ := bind_some h
    by_cases h895 : v_r1957 = true
    · rw [if_pos h895] at h
      obtain ⟨v_o2017, h954, h⟩ := bind_some h
      refine pkk_sound TTok mix hF 17 (hs := [.c, .u (.d (.v (.int .i64 (v_c1944.fPages.length : Int)))), .t false, .c, .r (eB v_r1957), .t false, .c, .u (.d (.v (.int .i64 (v_c1944.fPages.length : Int)))), .n n]) (ts := []) (s := [0]) (l := [1, 16, 17, 18]) (by kernel_rfl) (by kernel_rfl) (.cons (len_ob (f := eS_pages_Page) (l := v_c1944.fPages)) (.cons (df h892) (.cons (G_ringref2_In_ok n v_c1944.fClock 1 1073741824 _ h894) (.cons (bnf h895) (.cons (len_ob (f := eS_pages_Page) (l := v_c1944.fPages)) .nil))))) (G_ringref2_Caches_L4_ok hF (.b 0 :: .s (cR (cR (cR (cR (bodyOf Try.f10))))) :: []) n v_c1944 n 0 _ h954 ?_)
      cases v_o2017 with
      | x0 v_z2018 =>
        try dsimp only at h
        obtain rfl := Option.some.inj h
        exact pend_sound TTok mix 2 (hs := []) (by kernel_rfl) (by kernel_rfl) (by kernel_rfl) .nil
      | x1  =>
        try dsimp only at h
        obtain rfl := Option.some.inj h
        exact pend_sound TTok mix 4 (hs := []) (by kernel_rfl) (by kernel_rfl) (by kernel_rfl) .nil
    · rw [if_neg h895] at h
      obtain rfl := Option.some.inj h
      exact pend_sound TTok mix 15 (hs := [.c, .u (.d (.v (.int .i64 (v_c1944.fPages.length : Int)))), .t false, .c, .r (eB v_r1957), .t true]) (by kernel_rfl) (by kernel_rfl) (by kernel_rfl) (.cons (len_ob (f := eS_pages_Page) (l := v_c1944.fPages)) (.cons (df h892) (.cons (G_ringref2_In_ok n v_c1944.fClock 1 1073741824 _ h894) (.cons (bnt (vf h895)) .nil))))
inductive G_ringref2_CacheSame_C1_R where
  | x0 (v_x2241 : Bool)
def G_ringref2_CacheSame_C1_ex : G_ringref2_CacheSame_C1_R → Ex
  | .x0 _ => .normal
def G_ringref2_CacheSame_C1_st (v_a2233 : S_pages_Cache) (v_b2234 : S_pages_Cache) : G_ringref2_CacheSame_C1_R → PS
  | .x0 v_x2241 => ⟨[dd, dd, .ref 0 0, .ref 1 0, dd, dd, dd, dd, dd, dd, dd, dd, dd, dd, dd, dd, dd, dd, dd, .d (.v (.bool v_x2241)), dd, dd, dd, dd, dd, dd, dd, dd, dd, dd, dd, dd, dd, dd, dd, dd, dd, dd], [.box [.d (.sl (v_a2233.fPages.map eS_pages_Page)), .d (.v (.int .i64 v_a2233.fClock))], .box [.d (.sl (v_b2234.fPages.map eS_pages_Page)), .d (.v (.int .i64 v_b2234.fClock))]]⟩
def G_ringref2_CacheSame_C1_hd (v_a2233 : S_pages_Cache) (v_b2234 : S_pages_Cache)  : PS := ⟨[dd, dd, .ref 0 0, .ref 1 0, dd, dd, dd, dd, dd, dd, dd, dd, dd, dd, dd, dd, dd, dd, dd, dd, dd, dd, dd, dd, dd, dd, dd, dd, dd, dd, dd, dd, dd, dd, dd, dd, dd, dd], [.box [.d (.sl (v_a2233.fPages.map eS_pages_Page)), .d (.v (.int .i64 v_a2233.fClock))], .box [.d (.sl (v_b2234.fPages.map eS_pages_Page)), .d (.v (.int .i64 v_b2234.fClock))]]⟩
def G_ringref2_CacheSame_C1 (n : Nat) (v_a2233 : S_pages_Cache) (v_b2234 : S_pages_Cache) : Option G_ringref2_CacheSame_C1_R :=
  if v_a2233.fClock = v_b2234.fClock then
   some (.x0 ((v_a2233.fPages.length : Int) != (v_b2234.fPages.length : Int)))
  else
   some (.x0 true)
theorem G_ringref2_CacheSame_C1_ok {Fi : Ex → PS → Prop} (hF : KC 38 Fi) (ks : List Fr) (n : Nat) (v_a2233 : S_pages_Cache) (v_b2234 : S_pages_Cache)  (o : G_ringref2_CacheSame_C1_R) (h : G_ringref2_CacheSame_C1 n v_a2233 v_b2234 = some o) (q : RunE Try.prog 38 Fi ks (G_ringref2_CacheSame_C1_ex o) (G_ringref2_CacheSame_C1_st v_a2233 v_b2234 o)) : RunE Try.prog 38 Fi (.s (cL (cL (cR (bodyOf Try.f12)))) :: ks) .normal (G_ringref2_CacheSame_C1_hd v_a2233 v_b2234) := by
  unfold G_ringref2_CacheSame_C1 at h
  by_cases h961 : v_a2233.fClock = v_b2234.fClock
  · rw [if_pos h961] at h
    cases h
    exact pkk_sound TTok mix hF 1 (hs := [.c, .c, .t false, .c, .c, .c, .u (.d (.v (.int .i64 (v_a2233.fPages.length : Int)))), .c, .c, .c, .c, .u (.d (.v (.int .i64 (v_b2234.fPages.length : Int)))), .c]) (ts := []) (s := [0, 1]) (l := [2, 3, 19]) (by kernel_rfl) (by kernel_rfl) (.cons (nf h961) (.cons (len_ob (f := eS_pages_Page) (l := v_a2233.fPages)) (.cons (len_ob (f := eS_pages_Page) (l := v_b2234.fPages)) .nil))) q
  · rw [if_neg h961] at h
    cases h
    exact pkk_sound TTok mix hF 1 (hs := [.c, .c, .t true, .c, .c, .c, .c, .c, .c]) (ts := []) (s := [0, 1]) (l := [2, 3, 19]) (by kernel_rfl) (by kernel_rfl) (.cons (nt h961) .nil) q
inductive G_ringref2_CacheSame_L2_R where
  | x0 (v_x2268 : Bool)
  | x1 
def G_ringref2_CacheSame_L2_ex : G_ringref2_CacheSame_L2_R → Ex
  | .x0 _ => .ret
  | .x1  => .exit 0
def G_ringref2_CacheSame_L2_st (v_a2233 : S_pages_Cache) (v_b2234 : S_pages_Cache) : G_ringref2_CacheSame_L2_R → PS
  | .x0 v_x2268 => ⟨[dd, dd, dd, dd, .d (.v (.bool v_x2268)), dd, dd, dd, dd, dd, dd, dd, dd, dd, dd, dd, dd, dd, dd, dd, dd, dd, dd, dd, dd, dd, dd, dd, dd, dd, dd, dd, dd, dd, dd, dd, dd, dd], []⟩
  | .x1  => ⟨[dd, dd, dd, dd, dd, dd, dd, dd, dd, dd, dd, dd, dd, dd, dd, dd, dd, dd, dd, dd, dd, dd, dd, dd, dd, dd, dd, dd, dd, dd, dd, dd, dd, dd, dd, dd, dd, dd], []⟩
def G_ringref2_CacheSame_L2_hd (v_a2233 : S_pages_Cache) (v_b2234 : S_pages_Cache) (v_x2263 : Int) : PS := ⟨[dd, dd, .ref 0 0, .ref 1 0, dd, dd, dd, dd, dd, dd, dd, dd, dd, dd, dd, dd, dd, dd, dd, dd, dd, dd, .d (.v (.int .i64 (v_a2233.fPages.length : Int))), .d (.v (.int .i64 v_x2263)), dd, dd, dd, dd, dd, dd, dd, dd, dd, dd, dd, dd, dd, dd], [.box [.d (.sl (v_a2233.fPages.map eS_pages_Page)), .d (.v (.int .i64 v_a2233.fClock))], .box [.d (.sl (v_b2234.fPages.map eS_pages_Page)), .d (.v (.int .i64 v_b2234.fClock))]]⟩
def G_ringref2_CacheSame_L2 (n : Nat) (v_a2233 : S_pages_Cache) (v_b2234 : S_pages_Cache) : Nat → Int → Option G_ringref2_CacheSame_L2_R
  | 0, _ => none
  | k + 1, v_x2263 =>
    if v_x2263 < (v_a2233.fPages.length : Int) then
     (getI v_a2233.fPages v_x2263).bind fun (v_y2266 : S_pages_Page) =>
     (getI v_b2234.fPages v_x2263).bind fun (v_y2267 : S_pages_Page) =>
     if (eqRes .neq (eqS_pages_Page v_y2266 v_y2267)) = true then
      some (.x0 false)
     else
      G_ringref2_CacheSame_L2 n v_a2233 v_b2234 k (wi .i64 (v_x2263 + 1))
    else
     some (.x1 )
theorem G_ringref2_CacheSame_L2_ok {Fi : Ex → PS → Prop} (hF : KC 38 Fi) (ks : List Fr) (n : Nat) (v_a2233 : S_pages_Cache) (v_b2234 : S_pages_Cache)  : ∀ (k : Nat) (v_x2263 : Int) (o : G_ringref2_CacheSame_L2_R), G_ringref2_CacheSame_L2 n v_a2233 v_b2234 k v_x2263 = some o → RunE Try.prog 38 Fi ks (G_ringref2_CacheSame_L2_ex o) (G_ringref2_CacheSame_L2_st v_a2233 v_b2234 o) → RunE Try.prog 38 Fi (.l k (cP (cB (cR (cL (cR (cR (bodyOf Try.f12))))))) :: ks) .normal (G_ringref2_CacheSame_L2_hd v_a2233 v_b2234 v_x2263)
  | 0, v_x2263, o, h, q => by rw [G_ringref2_CacheSame_L2] at h; cases h
  | k + 1, v_x2263, o, h, q => by
    rw [G_ringref2_CacheSame_L2] at h
    by_cases h964 : v_x2263 < (v_a2233.fPages.length : Int)
    · rw [if_pos h964] at h
      obtain ⟨v_y2266, h968, h⟩ := bind_some h
      obtain ⟨v_y2267, h969, h⟩ := bind_some h
      by_cases h970 : (eqRes .neq (eqS_pages_Page v_y2266 v_y2267)) = true
      · rw [if_pos h970] at h
        cases h
        exact pkk_sound TTok mix hF 19 (hs := [.t true, .c, .y (eS_pages_Page v_y2266), .c, .y (eS_pages_Page v_y2267), .q (eqS_pages_Page v_y2266 v_y2267), .t true]) (ts := []) (s := []) (l := [4]) (by kernel_rfl) (by kernel_rfl) (.cons (dt h964) (.cons (getI_ob (f := eS_pages_Page) h968) (.cons (getI_ob (f := eS_pages_Page) h969) (.cons (eqS_pages_Page_ok v_y2266 v_y2267) (.cons h970 .nil))))) q
      · rw [if_neg h970] at h
        exact pkk_sound TTok mix hF 16 (hs := [.t true, .c, .y (eS_pages_Page v_y2266), .c, .y (eS_pages_Page v_y2267), .q (eqS_pages_Page v_y2266 v_y2267), .t false]) (ts := []) (s := [0, 1]) (l := [2, 3, 22, 23]) (by kernel_rfl) (by kernel_rfl) (.cons (dt h964) (.cons (getI_ob (f := eS_pages_Page) h968) (.cons (getI_ob (f := eS_pages_Page) h969) (.cons (eqS_pages_Page_ok v_y2266 v_y2267) (.cons (vf h970) .nil))))) (G_ringref2_CacheSame_L2_ok hF ks n v_a2233 v_b2234 k (wi .i64 (v_x2263 + 1)) _ h q)
    · rw [if_neg h964] at h
      cases h
      exact pkk_sound TTok mix hF 8 (hs := [.t false]) (ts := []) (s := []) (l := []) (by kernel_rfl) (by kernel_rfl) (.cons (df h964) .nil) q
/- ringhall/ringref2.CacheSame -/
def G_ringref2_CacheSame (n : Nat) (v_a2233 : S_pages_Cache) (v_b2234 : S_pages_Cache) : Option (Bool) :=
  (G_ringref2_CacheSame_C1 n v_a2233 v_b2234).bind fun v_o2243 => match v_o2243 with
  | .x0 v_z2244 =>
    if v_z2244 = true then
     some false
    else
     (G_ringref2_CacheSame_L2 n v_a2233 v_b2234 n 0).bind fun v_o2269 => match v_o2269 with
     | .x0 v_z2270 =>
       some v_z2270
     | .x1  =>
       some true
theorem G_ringref2_CacheSame_ok (n : Nat) (v_a2233 : S_pages_Cache) (v_b2234 : S_pages_Cache) (r : Bool) (h : G_ringref2_CacheSame n v_a2233 v_b2234 = some r) : Ret Try.prog 12 [eS_pages_Cache v_a2233, eS_pages_Cache v_b2234] (eB r) := by
  refine ret_run (n := 38) (fn := Try.f12) (c := bodyOf Try.f12) (by kernel_rfl) (by kernel_rfl) (by kernel_rfl) (by kernel_rfl) ?_
  have hF : KC 38 (FinR Try.prog Try.f12 (eB r)) := FinR.kc' (by kernel_rfl)
  unfold G_ringref2_CacheSame at h
  obtain ⟨v_o2243, h962, h⟩ := bind_some h
  refine pkk_sound TTok mix hF 4 (hs := []) (ts := []) (s := [0, 5]) (l := [2, 3]) (by kernel_rfl) (by kernel_rfl) .nil (G_ringref2_CacheSame_C1_ok hF (.s (cR (cL (cR (bodyOf Try.f12)))) :: .s (cR (cR (bodyOf Try.f12))) :: []) n v_a2233 v_b2234 _ h962 ?_)
  cases v_o2243 with
  | x0 v_z2244 =>
    try dsimp only at h
    by_cases h963 : v_z2244 = true
    · rw [if_pos h963] at h
      obtain rfl := Option.some.inj h
      exact pend_sound TTok mix 5 (hs := [.t true]) (by kernel_rfl) (by kernel_rfl) (by kernel_rfl) (.cons h963 .nil)
    · rw [if_neg h963] at h
      obtain ⟨v_o2269, h971, h⟩ := bind_some h
      refine pkk_sound TTok mix hF 7 (hs := [.t false, .c, .u (.d (.v (.int .i64 (v_a2233.fPages.length : Int)))), .n n]) (ts := []) (s := [0, 1]) (l := [2, 3, 22, 23]) (by kernel_rfl) (by kernel_rfl) (.cons (vf h963) (.cons (len_ob (f := eS_pages_Page) (l := v_a2233.fPages)) .nil)) (G_ringref2_CacheSame_L2_ok hF (.b 0 :: .s (cR (cR (cR (bodyOf Try.f12)))) :: []) n v_a2233 v_b2234 n 0 _ h971 ?_)
      cases v_o2269 with
      | x0 v_z2270 =>
        try dsimp only at h
        obtain rfl := Option.some.inj h
        exact pend_sound TTok mix 2 (hs := []) (by kernel_rfl) (by kernel_rfl) (by kernel_rfl) .nil
      | x1  =>
        try dsimp only at h
        obtain rfl := Option.some.inj h
        exact pend_sound TTok mix 4 (hs := []) (by kernel_rfl) (by kernel_rfl) (by kernel_rfl) .nil
inductive G_ringref2_CacheAt_L1_R where
  | x0 (v_x2423 : Int)
  | x1 
def G_ringref2_CacheAt_L1_ex : G_ringref2_CacheAt_L1_R → Ex
  | .x0 _ => .ret
  | .x1  => .exit 0
def G_ringref2_CacheAt_L1_st (v_file2413 : Int) (v_n2414 : Int) (v_c2412 : S_pages_Cache) : G_ringref2_CacheAt_L1_R → PS
  | .x0 v_x2423 => ⟨[dd, dd, dd, dd, dd, dd, .d (.v (.int .i64 v_x2423)), dd, dd, dd, dd, dd, dd, dd, dd, dd, dd, dd, dd, dd, dd, dd, dd, dd, dd, dd, dd, dd, dd], []⟩
  | .x1  => ⟨[dd, dd, dd, dd, dd, dd, dd, dd, dd, dd, dd, dd, dd, dd, dd, dd, dd, dd, dd, dd, dd, dd, dd, dd, dd, dd, dd, dd, dd], []⟩
def G_ringref2_CacheAt_L1_hd (v_file2413 : Int) (v_n2414 : Int) (v_c2412 : S_pages_Cache) (v_x2420 : Int) : PS := ⟨[dd, .d (.v (.int .i64 v_file2413)), .d (.v (.int .i64 v_n2414)), dd, dd, dd, dd, dd, dd, dd, .d (.sl (v_c2412.fPages.map eS_pages_Page)), .d (.v (.int .i64 (v_c2412.fPages.length : Int))), .d (.v (.int .i64 v_x2420)), dd, dd, dd, dd, dd, dd, dd, dd, dd, dd, dd, dd, dd, dd, dd, dd], []⟩
def G_ringref2_CacheAt_L1 (n : Nat) (v_file2413 : Int) (v_n2414 : Int) (v_c2412 : S_pages_Cache) : Nat → Int → Option G_ringref2_CacheAt_L1_R
  | 0, _ => none
  | k + 1, v_x2420 =>
    if v_x2420 < (v_c2412.fPages.length : Int) then
     (getI v_c2412.fPages v_x2420).bind fun (v_y2422 : S_pages_Page) =>
     if v_y2422.fFile = v_file2413 then
      if v_y2422.fN = v_n2414 then
       some (.x0 v_x2420)
      else
       G_ringref2_CacheAt_L1 n v_file2413 v_n2414 v_c2412 k (wi .i64 (v_x2420 + 1))
     else
      G_ringref2_CacheAt_L1 n v_file2413 v_n2414 v_c2412 k (wi .i64 (v_x2420 + 1))
    else
     some (.x1 )
theorem G_ringref2_CacheAt_L1_ok {Fi : Ex → PS → Prop} (hF : KC 29 Fi) (ks : List Fr) (n : Nat) (v_file2413 : Int) (v_n2414 : Int) (v_c2412 : S_pages_Cache)  : ∀ (k : Nat) (v_x2420 : Int) (o : G_ringref2_CacheAt_L1_R), G_ringref2_CacheAt_L1 n v_file2413 v_n2414 v_c2412 k v_x2420 = some o → RunE Try.prog 29 Fi ks (G_ringref2_CacheAt_L1_ex o) (G_ringref2_CacheAt_L1_st v_file2413 v_n2414 v_c2412 o) → RunE Try.prog 29 Fi (.l k (cP (cB (cR (cL (cR (bodyOf Try.f15)))))) :: ks) .normal (G_ringref2_CacheAt_L1_hd v_file2413 v_n2414 v_c2412 v_x2420)
  | 0, v_x2420, o, h, q => by rw [G_ringref2_CacheAt_L1] at h; cases h
  | k + 1, v_x2420, o, h, q => by
    rw [G_ringref2_CacheAt_L1] at h
    by_cases h986 : v_x2420 < (v_c2412.fPages.length : Int)
    · rw [if_pos h986] at h
      obtain ⟨v_y2422, h991, h⟩ := bind_some h
      by_cases h993 : v_y2422.fFile = v_file2413
      · rw [if_pos h993] at h
        by_cases h994 : v_y2422.fN = v_n2414
        · rw [if_pos h994] at h
          cases h
          exact pkk_sound TTok mix hF 19 (hs := [.t true, .y (eS_pages_Page v_y2422), .c, .c, .t true, .c, .c, .c, .c, .t true]) (ts := []) (s := []) (l := [6]) (by kernel_rfl) (by kernel_rfl) (.cons (dt h986) (.cons (getI_ob (f := eS_pages_Page) h991) (.cons (show 0 + 20 ≤ 20 by decide) (.cons (bt h993) (.cons (bt h994) .nil))))) q
        · rw [if_neg h994] at h
          exact pkk_sound TTok mix hF 16 (hs := [.t true, .y (eS_pages_Page v_y2422), .c, .c, .t true, .c, .c, .c, .c, .t false]) (ts := []) (s := []) (l := [1, 2, 10, 11, 12]) (by kernel_rfl) (by kernel_rfl) (.cons (dt h986) (.cons (getI_ob (f := eS_pages_Page) h991) (.cons (show 0 + 20 ≤ 20 by decide) (.cons (bt h993) (.cons (bf h994) .nil))))) (G_ringref2_CacheAt_L1_ok hF ks n v_file2413 v_n2414 v_c2412 k (wi .i64 (v_x2420 + 1)) _ h q)
      · rw [if_neg h993] at h
        exact pkk_sound TTok mix hF 16 (hs := [.t true, .y (eS_pages_Page v_y2422), .c, .c, .t false, .c, .c, .c, .c]) (ts := []) (s := []) (l := [1, 2, 10, 11, 12]) (by kernel_rfl) (by kernel_rfl) (.cons (dt h986) (.cons (getI_ob (f := eS_pages_Page) h991) (.cons (show 0 + 20 ≤ 20 by decide) (.cons (bf h993) .nil)))) (G_ringref2_CacheAt_L1_ok hF ks n v_file2413 v_n2414 v_c2412 k (wi .i64 (v_x2420 + 1)) _ h q)
    · rw [if_neg h986] at h
      cases h
      exact pkk_sound TTok mix hF 8 (hs := [.t false]) (ts := []) (s := []) (l := []) (by kernel_rfl) (by kernel_rfl) (.cons (df h986) .nil) q
/- ringhall/ringref2.CacheAt -/
def G_ringref2_CacheAt (n : Nat) (v_c2412 : S_pages_Cache) (v_file2413 : Int) (v_n2414 : Int) : Option (Int) :=
  (G_ringref2_CacheAt_L1 n v_file2413 v_n2414 v_c2412 n 0).bind fun v_o2424 => match v_o2424 with
  | .x0 v_z2425 =>
    some v_z2425
  | .x1  =>
    some (-1)
theorem G_ringref2_CacheAt_ok (n : Nat) (v_c2412 : S_pages_Cache) (v_file2413 : Int) (v_n2414 : Int) (r : Int) (h : G_ringref2_CacheAt n v_c2412 v_file2413 v_n2414 = some r) : Ret Try.prog 15 [eS_pages_Cache v_c2412, (eI .i64) v_file2413, (eI .i64) v_n2414] ((eI .i64) r) := by
  refine ret_run (n := 29) (fn := Try.f15) (c := bodyOf Try.f15) (by kernel_rfl) (by kernel_rfl) (by kernel_rfl) (by kernel_rfl) ?_
  have hF : KC 29 (FinR Try.prog Try.f15 ((eI .i64) r)) := FinR.kc' (by kernel_rfl)
  unfold G_ringref2_CacheAt at h
  obtain ⟨v_o2424, h995, h⟩ := bind_some h
  refine pkk_sound TTok mix hF 7 (hs := [.c, .u (.d (.v (.int .i64 (v_c2412.fPages.length : Int)))), .n n]) (ts := []) (s := []) (l := [1, 2, 10, 11, 12]) (by kernel_rfl) (by kernel_rfl) (.cons (len_ob (f := eS_pages_Page) (l := v_c2412.fPages)) .nil) (G_ringref2_CacheAt_L1_ok hF (.b 0 :: .s (cR (cR (bodyOf Try.f15))) :: []) n v_file2413 v_n2414 v_c2412 n 0 _ h995 ?_)
  cases v_o2424 with
  | x0 v_z2425 =>
    try dsimp only at h
    obtain rfl := Option.some.inj h
    exact pend_sound TTok mix 2 (hs := []) (by kernel_rfl) (by kernel_rfl) (by kernel_rfl) .nil
  | x1  =>
    try dsimp only at h
    obtain rfl := Option.some.inj h
    exact pend_sound TTok mix 4 (hs := []) (by kernel_rfl) (by kernel_rfl) (by kernel_rfl) .nil
/- slices.Grow[[]ringhall/pages.Page,ringhall/pages.Page] -/
def G_slices_Grow_pages_Page_pages_Page_h (n : Nat) (v_n3247 : Int) : Option ((List S_pages_Page)) :=
  if v_n3247 < 0 then
   none
  else
   if (wi .i64 (v_n3247 - (wi .i64 (0 - 0)))) > 0 then
    (appZ 48 (S_pages_Page.mk 0 0 0 0 (fun (_ : Fin 16) => 0)) (wi .i64 (v_n3247 - (wi .i64 (0 - 0))))).bind fun (v_a3250 : (List S_pages_Page)) =>
    (sub v_a3250 0 0).bind fun (v_s3251 : (List S_pages_Page)) =>
    some v_s3251
   else
    some ([] : List S_pages_Page)
theorem G_slices_Grow_pages_Page_pages_Page_h_ok (n : Nat) (v_n3247 : Int) (r : (List S_pages_Page)) (h : G_slices_Grow_pages_Page_pages_Page_h n v_n3247 = some r) : RetH Try.prog 26 [.d vnil, .d ((eI .i64) v_n3247)] [] (.srf 0) [.row 34 20 (r.map eS_pages_Page)] := by
  refine retH_run (n := 27) (fn := Try.f26) (c := bodyOf Try.f26) (by kernel_rfl) (by kernel_rfl) (by kernel_rfl) (by kernel_rfl) ?_
  have hF : KC 27 (FinH Try.prog Try.f26 [] (.srf 0) [.row 34 20 (r.map eS_pages_Page)]) := FinH.kc' (by kernel_rfl)
  unfold G_slices_Grow_pages_Page_pages_Page_h at h
  by_cases h1103 : v_n3247 < 0
  · rw [if_pos h1103] at h
    cases h
  · rw [if_neg h1103] at h
    by_cases h1107 : (wi .i64 (v_n3247 - (wi .i64 (0 - 0)))) > 0
    · rw [if_pos h1107] at h
      obtain ⟨v_a3250, h1108, h⟩ := bind_some h
      obtain ⟨v_s3251, h1109, h⟩ := bind_some h
      obtain rfl := Option.some.inj h
      exact pendH_sound TTok mix 17 (hs := [.t false, .u (.d (.v (.int .i64 0))), .t true, .c, .w (v_a3250.map eS_pages_Page), .u (.d (.v (.int .i64 0))), .w (v_s3251.map eS_pages_Page)]) [105] (by kernel_rfl) (by kernel_rfl) (by kernel_rfl) (.cons (df h1103) (.cons (Eq.refl (FV.d (.v (.int .i64 0)))) (.cons (dt h1107) (.cons (Eq.refl (0 : Int)) (.cons (Eq.refl (0 : Int)) (.cons (appZ_ob (f := eS_pages_Page) (p := .agg [.v (.int .i64 0), .v (.int .i64 0), .v (.int .i64 0), .v (.int .i64 0), .v (.int .u8 0), .v (.int .u8 0), .v (.int .u8 0), .v (.int .u8 0), .v (.int .u8 0), .v (.int .u8 0), .v (.int .u8 0), .v (.int .u8 0), .v (.int .u8 0), .v (.int .u8 0), .v (.int .u8 0), .v (.int .u8 0), .v (.int .u8 0), .v (.int .u8 0), .v (.int .u8 0), .v (.int .u8 0)]) h1108 rfl).1 (.cons (appZ_ob (f := eS_pages_Page) (p := .agg [.v (.int .i64 0), .v (.int .i64 0), .v (.int .i64 0), .v (.int .i64 0), .v (.int .u8 0), .v (.int .u8 0), .v (.int .u8 0), .v (.int .u8 0), .v (.int .u8 0), .v (.int .u8 0), .v (.int .u8 0), .v (.int .u8 0), .v (.int .u8 0), .v (.int .u8 0), .v (.int .u8 0), .v (.int .u8 0), .v (.int .u8 0), .v (.int .u8 0), .v (.int .u8 0), .v (.int .u8 0)]) h1108 rfl).2.1 (.cons (appZ_ob (f := eS_pages_Page) (p := .agg [.v (.int .i64 0), .v (.int .i64 0), .v (.int .i64 0), .v (.int .i64 0), .v (.int .u8 0), .v (.int .u8 0), .v (.int .u8 0), .v (.int .u8 0), .v (.int .u8 0), .v (.int .u8 0), .v (.int .u8 0), .v (.int .u8 0), .v (.int .u8 0), .v (.int .u8 0), .v (.int .u8 0), .v (.int .u8 0), .v (.int .u8 0), .v (.int .u8 0), .v (.int .u8 0), .v (.int .u8 0)]) h1108 rfl).2.2.1 (.cons (appZ_ob (f := eS_pages_Page) (p := .agg [.v (.int .i64 0), .v (.int .i64 0), .v (.int .i64 0), .v (.int .i64 0), .v (.int .u8 0), .v (.int .u8 0), .v (.int .u8 0), .v (.int .u8 0), .v (.int .u8 0), .v (.int .u8 0), .v (.int .u8 0), .v (.int .u8 0), .v (.int .u8 0), .v (.int .u8 0), .v (.int .u8 0), .v (.int .u8 0), .v (.int .u8 0), .v (.int .u8 0), .v (.int .u8 0), .v (.int .u8 0)]) h1108 rfl).2.2.2 (.cons (Eq.refl (FV.d (.v (.int .i64 0)))) (.cons (Eq.refl (0 : Int)) (.cons (subR_ob (f := eS_pages_Page) h1109).1 (.cons (subR_ob (f := eS_pages_Page) h1109).2.1 (.cons (subR_ob (f := eS_pages_Page) h1109).2.2 .nil))))))))))))))
    · rw [if_neg h1107] at h
      obtain rfl := Option.some.inj h
      exact pendH_sound TTok mix 18 (hs := [.t false, .u (.d (.v (.int .i64 0))), .t false, .dl 4, .th 4 34 20]) [75] (by kernel_rfl) (by kernel_rfl) (by kernel_rfl) (.cons (df h1103) (.cons (Eq.refl (FV.d (.v (.int .i64 0)))) (.cons (df h1107) .nil)))
inductive G_slices_Concat_pages_Page_pages_Page_h_L1_R where
  | x0 (v_size3244 : Int)
def G_slices_Concat_pages_Page_pages_Page_h_L1_ex : G_slices_Concat_pages_Page_pages_Page_h_L1_R → Ex
  | .x0 _ => .exit 0
def G_slices_Concat_pages_Page_pages_Page_h_L1_st (v_slices3239 : (List (List S_pages_Page))) : G_slices_Concat_pages_Page_pages_Page_h_L1_R → PS
  | .x0 v_size3244 => ⟨[.d (.sl (v_slices3239.map (eL eS_pages_Page))), dd, dd, .d (.v (.int .i64 v_size3244)), dd, dd, dd, dd, dd, dd, dd, dd, dd, dd, dd, dd, dd, dd, dd, dd, dd, dd, dd, dd, dd, dd, dd, dd, dd, dd, dd, dd, dd, dd, dd, dd], []⟩
def G_slices_Concat_pages_Page_pages_Page_h_L1_hd (v_slices3239 : (List (List S_pages_Page))) (v_size3240 : Int) (v_x3241 : Int) : PS := ⟨[.d (.sl (v_slices3239.map (eL eS_pages_Page))), dd, dd, .d (.v (.int .i64 v_size3240)), dd, dd, dd, dd, dd, .d (.sl (v_slices3239.map (eL eS_pages_Page))), .d (.v (.int .i64 (v_slices3239.length : Int))), .d (.v (.int .i64 v_x3241)), dd, dd, dd, dd, dd, dd, dd, dd, dd, dd, dd, dd, dd, dd, dd, dd, dd, dd, dd, dd, dd, dd, dd, dd], []⟩
def G_slices_Concat_pages_Page_pages_Page_h_L1 (n : Nat) (v_slices3239 : (List (List S_pages_Page))) : Nat → Int → Int → Option G_slices_Concat_pages_Page_pages_Page_h_L1_R
  | 0, _, _ => none
  | k + 1, v_size3240, v_x3241 =>
    if v_x3241 < (v_slices3239.length : Int) then
     (getI v_slices3239 v_x3241).bind fun (v_y3243 : (List S_pages_Page)) =>
     if (wi .i64 (v_size3240 + (v_y3243.length : Int))) < 0 then
      none
     else
      G_slices_Concat_pages_Page_pages_Page_h_L1 n v_slices3239 k (wi .i64 (v_size3240 + (v_y3243.length : Int))) (wi .i64 (v_x3241 + 1))
    else
     some (.x0 v_size3240)
theorem G_slices_Concat_pages_Page_pages_Page_h_L1_ok {Fi : Ex → PS → Prop} (hF : KC 36 Fi) (ks : List Fr) (n : Nat) (v_slices3239 : (List (List S_pages_Page)))  : ∀ (k : Nat) (v_size3240 : Int) (v_x3241 : Int) (o : G_slices_Concat_pages_Page_pages_Page_h_L1_R), G_slices_Concat_pages_Page_pages_Page_h_L1 n v_slices3239 k v_size3240 v_x3241 = some o → RunE Try.prog 36 Fi ks (G_slices_Concat_pages_Page_pages_Page_h_L1_ex o) (G_slices_Concat_pages_Page_pages_Page_h_L1_st v_slices3239 o) → RunE Try.prog 36 Fi (.l k (cP (cB (cR (cL (cR (cR (bodyOf Try.f16))))))) :: ks) .normal (G_slices_Concat_pages_Page_pages_Page_h_L1_hd v_slices3239 v_size3240 v_x3241)
  | 0, v_size3240, v_x3241, o, h, q => by rw [G_slices_Concat_pages_Page_pages_Page_h_L1] at h; cases h
  | k + 1, v_size3240, v_x3241, o, h, q => by
    rw [G_slices_Concat_pages_Page_pages_Page_h_L1] at h
    by_cases h1097 : v_x3241 < (v_slices3239.length : Int)
    · rw [if_pos h1097] at h
      obtain ⟨v_y3243, h1100, h⟩ := bind_some h
      by_cases h1101 : (wi .i64 (v_size3240 + (v_y3243.length : Int))) < 0
      · rw [if_pos h1101] at h
        cases h
      · rw [if_neg h1101] at h
        exact pkk_sound TTok mix hF 18 (hs := [.t true, .y ((eL eS_pages_Page) v_y3243), .c, .u (.d (.v (.int .i64 (v_y3243.length : Int)))), .t false]) (ts := []) (s := []) (l := [0, 3, 9, 10, 11]) (by kernel_rfl) (by kernel_rfl) (.cons (dt h1097) (.cons (getI_ob (f := (eL eS_pages_Page)) h1100) (.cons (len_ob (f := eS_pages_Page) (l := v_y3243)) (.cons (df h1101) .nil)))) (G_slices_Concat_pages_Page_pages_Page_h_L1_ok hF ks n v_slices3239 k (wi .i64 (v_size3240 + (v_y3243.length : Int))) (wi .i64 (v_x3241 + 1)) _ h q)
    · rw [if_neg h1097] at h
      cases h
      exact pkk_sound TTok mix hF 8 (hs := [.t false]) (ts := []) (s := []) (l := [0, 3]) (by kernel_rfl) (by kernel_rfl) (.cons (df h1097) .nil) q
inductive G_slices_Concat_pages_Page_pages_Page_h_L2_R where
  | x0 (v_w3259 : (List S_pages_Page))
def G_slices_Concat_pages_Page_pages_Page_h_L2_ex : G_slices_Concat_pages_Page_pages_Page_h_L2_R → Ex
  | .x0 _ => .exit 2
def G_slices_Concat_pages_Page_pages_Page_h_L2_st (v_slices3239 : (List (List S_pages_Page))) : G_slices_Concat_pages_Page_pages_Page_h_L2_R → PS
  | .x0 v_w3259 => ⟨[dd, dd, dd, dd, dd, dd, .srf 0, dd, dd, dd, dd, dd, dd, dd, dd, dd, dd, dd, dd, dd, dd, dd, dd, dd, dd, dd, dd, dd, dd, dd, dd, dd, dd, dd, dd, dd], [.row 34 20 (v_w3259.map eS_pages_Page)]⟩
def G_slices_Concat_pages_Page_pages_Page_h_L2_hd (v_slices3239 : (List (List S_pages_Page))) (v_x3253 : Int) (v_w3254 : (List S_pages_Page)) : PS := ⟨[dd, dd, dd, dd, dd, dd, .srf 0, dd, dd, dd, dd, dd, dd, dd, dd, dd, dd, dd, dd, dd, dd, dd, dd, dd, dd, .d (.sl (v_slices3239.map (eL eS_pages_Page))), .d (.v (.int .i64 (v_slices3239.length : Int))), .d (.v (.int .i64 v_x3253)), dd, dd, dd, dd, dd, dd, dd, dd], [.row 34 20 (v_w3254.map eS_pages_Page)]⟩
def G_slices_Concat_pages_Page_pages_Page_h_L2 (n : Nat) (v_slices3239 : (List (List S_pages_Page))) : Nat → Int → (List S_pages_Page) → Option G_slices_Concat_pages_Page_pages_Page_h_L2_R
  | 0, _, _ => none
  | k + 1, v_x3253, v_w3254 =>
    if v_x3253 < (v_slices3239.length : Int) then
     (getI v_slices3239 v_x3253).bind fun (v_y3257 : (List S_pages_Page)) =>
     (app 48 v_w3254 v_y3257).bind fun (v_a3258 : (List S_pages_Page)) =>
     G_slices_Concat_pages_Page_pages_Page_h_L2 n v_slices3239 k (wi .i64 (v_x3253 + 1)) v_a3258
    else
     some (.x0 v_w3254)
theorem G_slices_Concat_pages_Page_pages_Page_h_L2_ok {Fi : Ex → PS → Prop} (hF : KC 36 Fi) (ks : List Fr) (n : Nat) (v_slices3239 : (List (List S_pages_Page)))  : ∀ (k : Nat) (v_x3253 : Int) (v_w3254 : (List S_pages_Page)) (o : G_slices_Concat_pages_Page_pages_Page_h_L2_R), G_slices_Concat_pages_Page_pages_Page_h_L2 n v_slices3239 k v_x3253 v_w3254 = some o → RunE Try.prog 36 Fi ks (G_slices_Concat_pages_Page_pages_Page_h_L2_ex o) (G_slices_Concat_pages_Page_pages_Page_h_L2_st v_slices3239 o) → RunE Try.prog 36 Fi (.l k (cP (cB (cR (cL (cR (cR (cR (cR (bodyOf Try.f16))))))))) :: ks) .normal (G_slices_Concat_pages_Page_pages_Page_h_L2_hd v_slices3239 v_x3253 v_w3254)
  | 0, v_x3253, v_w3254, o, h, q => by rw [G_slices_Concat_pages_Page_pages_Page_h_L2] at h; cases h
  | k + 1, v_x3253, v_w3254, o, h, q => by
    rw [G_slices_Concat_pages_Page_pages_Page_h_L2] at h
    by_cases h1111 : v_x3253 < (v_slices3239.length : Int)
    · rw [if_pos h1111] at h
      obtain ⟨v_y3257, h1114, h⟩ := bind_some h
      obtain ⟨v_a3258, h1115, h⟩ := bind_some h
      exact pkk_sound TTok mix hF 13 (hs := [.t true, .y ((eL eS_pages_Page) v_y3257), .c, .w (v_a3258.map eS_pages_Page)]) (ts := []) (s := [31]) (l := [6, 25, 26, 27]) (by kernel_rfl) (by kernel_rfl) (.cons (dt h1111) (.cons (getI_ob (f := (eL eS_pages_Page)) h1114) (.cons (app_ob (f := eS_pages_Page) (s := 20) h1115 (fun _ => rfl)).1 (.cons (app_ob (f := eS_pages_Page) (s := 20) h1115 (fun _ => rfl)).2.1 (.cons (app_ob (f := eS_pages_Page) (s := 20) h1115 (fun _ => rfl)).2.2.1 (.cons (app_ob (f := eS_pages_Page) (s := 20) h1115 (fun _ => rfl)).2.2.2 .nil)))))) (G_slices_Concat_pages_Page_pages_Page_h_L2_ok hF ks n v_slices3239 k (wi .i64 (v_x3253 + 1)) v_a3258 _ h q)
    · rw [if_neg h1111] at h
      cases h
      exact pkk_sound TTok mix hF 8 (hs := [.t false]) (ts := []) (s := [0]) (l := [6]) (by kernel_rfl) (by kernel_rfl) (.cons (df h1111) .nil) q
/- slices.Concat[[]ringhall/pages.Page,ringhall/pages.Page] -/
def G_slices_Concat_pages_Page_pages_Page_h (n : Nat) (v_slices3239 : (List (List S_pages_Page))) : Option ((List S_pages_Page)) :=
  (G_slices_Concat_pages_Page_pages_Page_h_L1 n v_slices3239 n 0 0).bind fun v_o3245 => match v_o3245 with
  | .x0 v_z3246 =>
    (G_slices_Grow_pages_Page_pages_Page_h n v_z3246).bind fun (v_r3252 : ((List S_pages_Page))) =>
    (G_slices_Concat_pages_Page_pages_Page_h_L2 n v_slices3239 n 0 v_r3252).bind fun v_o3260 => match v_o3260 with
    | .x0 v_z3261 =>
      some v_z3261
theorem G_slices_Concat_pages_Page_pages_Page_h_ok (n : Nat) (v_slices3239 : (List (List S_pages_Page))) (r : (List S_pages_Page)) (h : G_slices_Concat_pages_Page_pages_Page_h n v_slices3239 = some r) : RetH Try.prog 16 [.d ((eL (eL eS_pages_Page)) v_slices3239)] [] (.srf 0) [.row 34 20 (r.map eS_pages_Page)] := by
  refine retH_run (n := 36) (fn := Try.f16) (c := bodyOf Try.f16) (by kernel_rfl) (by kernel_rfl) (by kernel_rfl) (by kernel_rfl) ?_
  have hF : KC 36 (FinH Try.prog Try.f16 [] (.srf 0) [.row 34 20 (r.map eS_pages_Page)]) := FinH.kc' (by kernel_rfl)
  unfold G_slices_Concat_pages_Page_pages_Page_h at h
  obtain ⟨v_o3245, h1102, h⟩ := bind_some h
  refine pkk_sound TTok mix hF 9 (hs := [.u (.d (.v (.int .i64 (v_slices3239.length : Int)))), .n n]) (ts := []) (s := []) (l := [0, 3, 9, 10, 11]) (by kernel_rfl) (by kernel_rfl) (.cons (len_ob (f := (eL eS_pages_Page)) (l := v_slices3239)) .nil) (G_slices_Concat_pages_Page_pages_Page_h_L1_ok hF (.b 0 :: .s (cR (cR (cR (bodyOf Try.f16)))) :: []) n v_slices3239 n 0 0 _ h1102 ?_)
  cases v_o3245 with
  | x0 v_z3246 =>
    try dsimp only at h
    obtain ⟨v_r3252, h1110, h⟩ := bind_some h
    obtain ⟨v_o3260, h1116, h⟩ := bind_some h
    refine pkk_sound TTok mix hF 8 (hs := [.h [] [false] [.row 34 20 (v_r3252.map eS_pages_Page)] (.srf 0), .u (.d (.v (.int .i64 (v_slices3239.length : Int)))), .n n]) (ts := []) (s := [5]) (l := [6, 25, 26, 27]) (by kernel_rfl) (by kernel_rfl) (.cons (G_slices_Grow_pages_Page_pages_Page_h_ok n v_z3246 _ h1110) (.cons (len_ob (f := (eL eS_pages_Page)) (l := v_slices3239)) .nil)) (G_slices_Concat_pages_Page_pages_Page_h_L2_ok hF (.b 2 :: .s (cR (cR (cR (cR (cR (bodyOf Try.f16)))))) :: []) n v_slices3239 n 0 v_r3252 _ h1116 ?_)
    cases v_o3260 with
    | x0 v_z3261 =>
      try dsimp only at h
      obtain rfl := Option.some.inj h
      exact pendH_sound TTok mix 4 (hs := []) [0] (by kernel_rfl) (by kernel_rfl) (by kernel_rfl) .nil
/- ringhall/ringref2.CacheWith -/
def G_ringref2_CacheWith (n : Nat) (v_c3826 : S_pages_Cache) (v_i3827 : Int) (v_p3828 : S_pages_Page) : Option (S_pages_Cache) :=
  (app 48 ([] : (List S_pages_Page)) v_c3826.fPages).bind fun (v_a3835 : (List S_pages_Page)) =>
  if 0 ≤ v_i3827 ∧ (v_i3827).toNat < v_a3835.length then
   (v_a3835[(v_i3827).toNat]?).bind fun (v_y3836 : S_pages_Page) =>
   some (S_pages_Cache.mk (v_a3835.set (v_i3827).toNat v_p3828) v_c3826.fClock)
  else none
theorem G_ringref2_CacheWith_ok (n : Nat) (v_c3826 : S_pages_Cache) (v_i3827 : Int) (v_p3828 : S_pages_Page) (r : S_pages_Cache) (h : G_ringref2_CacheWith n v_c3826 v_i3827 v_p3828 = some r) : Ret Try.prog 13 [eS_pages_Cache v_c3826, (eI .i64) v_i3827, eS_pages_Page v_p3828] (eS_pages_Cache r) := by
  refine ret_run (n := 20) (fn := Try.f13) (c := bodyOf Try.f13) (by kernel_rfl) (by kernel_rfl) (by kernel_rfl) (by kernel_rfl) ?_
  have hF : KC 20 (FinR Try.prog Try.f13 (eS_pages_Cache r)) := FinR.kc' (by kernel_rfl)
  unfold G_ringref2_CacheWith at h
  obtain ⟨v_a3835, h1246, h⟩ := bind_some h
  by_cases h1247 : 0 ≤ v_i3827 ∧ (v_i3827).toNat < v_a3835.length
  · rw [if_pos h1247] at h
    obtain ⟨v_y3836, h1248, h⟩ := bind_some h
    obtain rfl := Option.some.inj h
    exact pend_sound TTok mix 9 (hs := [.c, .c, .w (v_a3835.map eS_pages_Page), .c, .c, .c, .w ((v_a3835.set (v_i3827).toNat v_p3828).map eS_pages_Page), .y (eS_pages_Page v_y3836), .c, .c]) (by kernel_rfl) (by kernel_rfl) (by kernel_rfl) (.cons (app_ob (f := eS_pages_Page) (s := 20) h1246 (fun _ => rfl)).1 (.cons (app_ob (f := eS_pages_Page) (s := 20) h1246 (fun _ => rfl)).2.1 (.cons (app_ob (f := eS_pages_Page) (s := 20) h1246 (fun _ => rfl)).2.2.1 (.cons (app_ob (f := eS_pages_Page) (s := 20) h1246 (fun _ => rfl)).2.2.2 (.cons (show 0 + 2 ≤ 2 by decide) (.cons (idx_ob (f := eS_pages_Page) h1247) (.cons (get_ob (f := eS_pages_Page) h1248) (.cons (Eq.refl (pcells (.agg [.v (.int .i64 v_p3828.fFile), .v (.int .i64 v_p3828.fN), .v (.int .i64 v_p3828.fMaps), .v (.int .i64 v_p3828.fDirty), .v (.int .u8 (v_p3828.fData 0)), .v (.int .u8 (v_p3828.fData 1)), .v (.int .u8 (v_p3828.fData 2)), .v (.int .u8 (v_p3828.fData 3)), .v (.int .u8 (v_p3828.fData 4)), .v (.int .u8 (v_p3828.fData 5)), .v (.int .u8 (v_p3828.fData 6)), .v (.int .u8 (v_p3828.fData 7)), .v (.int .u8 (v_p3828.fData 8)), .v (.int .u8 (v_p3828.fData 9)), .v (.int .u8 (v_p3828.fData 10)), .v (.int .u8 (v_p3828.fData 11)), .v (.int .u8 (v_p3828.fData 12)), .v (.int .u8 (v_p3828.fData 13)), .v (.int .u8 (v_p3828.fData 14)), .v (.int .u8 (v_p3828.fData 15))]))) (.cons (set_ob (f := eS_pages_Page) (l := v_a3835) (k := (v_i3827).toNat) (z := v_p3828) (p := .agg [.v (.int .i64 v_p3828.fFile), .v (.int .i64 v_p3828.fN), .v (.int .i64 v_p3828.fMaps), .v (.int .i64 v_p3828.fDirty), .v (.int .u8 (v_p3828.fData 0)), .v (.int .u8 (v_p3828.fData 1)), .v (.int .u8 (v_p3828.fData 2)), .v (.int .u8 (v_p3828.fData 3)), .v (.int .u8 (v_p3828.fData 4)), .v (.int .u8 (v_p3828.fData 5)), .v (.int .u8 (v_p3828.fData 6)), .v (.int .u8 (v_p3828.fData 7)), .v (.int .u8 (v_p3828.fData 8)), .v (.int .u8 (v_p3828.fData 9)), .v (.int .u8 (v_p3828.fData 10)), .v (.int .u8 (v_p3828.fData 11)), .v (.int .u8 (v_p3828.fData 12)), .v (.int .u8 (v_p3828.fData 13)), .v (.int .u8 (v_p3828.fData 14)), .v (.int .u8 (v_p3828.fData 15))]) rfl) (.cons (show 0 + 2 ≤ 2 by decide) .nil))))))))))
  · rw [if_neg h1247] at h; cases h
inductive G_ringlaw2_PagesTells_C1_R where
  | x0 (v_x16343 : Bool)
def G_ringlaw2_PagesTells_C1_ex : G_ringlaw2_PagesTells_C1_R → Ex
  | .x0 _ => .normal
def G_ringlaw2_PagesTells_C1_st (v_file2 : Int) (v_n3 : Int) (v_k4 : Int) (v_b5 : Int) (v_more6 : Int) (v_e16212 : Int) (v_e16213 : Int) (v_e16214 : Int) (v_e16215 : Int) (v_is16216 : Bool) (v_e16217 : Int) (v_bad16218 : Int) (v_b16202 : S_pages_Cache) (v_b16203 : (Fin 16 → Int)) (v_b16204 : S_pages_Cache) (v_b16205 : (Fin 16 → Int)) (v_b16206 : S_pages_Cache) (v_b16207 : S_pages_Cache) (v_b16208 : S_pages_Cache) (v_b16209 : S_pages_Page) (v_b16210 : S_pages_Cache) (v_b16211 : Int) : G_ringlaw2_PagesTells_C1_R → PS
  | .x0 v_x16343 => ⟨[dd, .d (.v (.int .i64 v_file2)), .d (.v (.int .i64 v_n3)), .d (.v (.int .i64 v_k4)), .d (.v (.int .u8 v_b5)), .d (.v (.int .i64 v_more6)), dd, .ref 0 0, dd, dd, dd, dd, dd, .ref 1 0, dd, .ref 2 0, .d (.v (.int .i64 v_e16212)), .ref 3 0, .d (.v (.int .i64 v_e16213)), .ref 4 0, .d (.v (.int .i64 v_e16214)), .ref 5 0, .d (.v (.int .i64 v_e16215)), dd, dd, dd, dd, .ref 6 0, .d (.v (.int .i64 v_e16217)), .ref 7 0, .d (.v (.int .i64 v_bad16218)), dd, dd, dd, dd, dd, dd, dd, dd, dd, dd, dd, dd, dd, dd, dd, dd, dd, dd, dd, dd, dd, dd, dd, dd, dd, dd, dd, dd, dd, dd, dd, dd, dd, dd, dd, dd, dd, dd, dd, dd, dd, dd, dd, dd, dd, dd, dd, dd, dd, dd, dd, dd, dd, dd, dd, dd, dd, dd, dd, dd, dd, dd, dd, dd, dd, dd, dd, dd, dd, dd, dd, dd, dd, dd, dd, dd, dd, dd, dd, dd, dd, dd, dd, dd, dd, dd, dd, dd, dd, dd, .d (.v (.bool v_x16343)), dd, dd, dd, dd, dd, dd, dd, dd, dd, dd, dd, dd, dd, dd, dd, dd, dd, dd, dd, dd, dd, dd, dd, dd, dd, dd, dd, dd, dd, dd, dd, dd, dd, dd, dd, dd, dd, dd, dd, dd, dd, dd, dd, dd, dd, dd, dd, dd, dd, dd, dd, dd, dd, dd, dd, dd, dd, dd, dd, dd, dd, dd, dd, dd, dd, dd, dd, dd, dd, dd, dd, dd, dd, dd, dd, dd, dd, dd, dd, dd, dd, dd, dd, dd, dd, dd, dd, dd, dd, dd, dd, dd, dd, dd, dd, dd, dd, dd, dd, dd, dd, dd, dd, dd, dd, dd, dd, dd, dd, dd, dd, dd, dd, dd, dd, dd, dd, dd, dd, dd, dd, dd, dd, dd, dd, dd, dd, dd, dd, dd, dd, dd, dd, dd, dd, dd, dd, dd, dd, dd, dd, dd, dd, dd, dd, dd, dd, dd, dd, dd, dd, dd, dd, dd, dd, dd, dd, dd, dd, dd, dd, dd, dd, dd, dd, dd, dd, dd, dd, dd, dd, dd, dd, dd, dd, dd, dd, dd, dd, dd, dd, dd, dd, dd, dd, dd, dd, dd, dd, dd, dd, dd, dd, dd, dd, dd, dd, dd, dd, dd, dd, dd, dd, dd, dd, dd, dd, dd, dd, dd, dd, dd, dd, dd, dd, dd, dd, dd, dd, dd, dd, dd, dd, dd, dd, dd, dd, dd, dd, dd, dd, dd, dd, dd, dd, dd, dd, dd, dd, dd, dd, dd, dd, dd, dd, dd, dd, dd, dd, dd, dd, dd, dd, dd, dd, dd, dd, dd, dd, dd, dd, dd, dd, dd, dd, dd, dd, dd, dd, dd, dd, dd, dd, dd, dd, dd, dd, dd, dd, dd, dd, dd, dd, dd, dd, dd, dd, dd, dd, dd, dd, dd, dd, dd, dd, dd, dd, dd, dd, dd, dd, dd, dd, dd, dd, dd, dd, dd, dd, dd, dd, dd, dd, dd, dd, dd, dd, dd, dd, dd, dd, dd, dd, dd, dd, dd, dd, dd, dd, dd, dd, dd, dd, dd, dd, dd, dd, dd, dd, dd, dd, dd, dd, dd, dd, dd, dd], [.box [.d (.sl (v_b16202.fPages.map eS_pages_Page)), .d (.v (.int .i64 v_b16202.fClock))], .box ((cA_t25 v_b16203).map FV.d), .box [.d (.sl (v_b16204.fPages.map eS_pages_Page)), .d (.v (.int .i64 v_b16204.fClock))], .box ((cA_t25 v_b16205).map FV.d), .box [.d (.sl (v_b16206.fPages.map eS_pages_Page)), .d (.v (.int .i64 v_b16206.fClock))], .box [.d (.sl (v_b16207.fPages.map eS_pages_Page)), .d (.v (.int .i64 v_b16207.fClock))], .box [.d (.sl (v_b16210.fPages.map eS_pages_Page)), .d (.v (.int .i64 v_b16210.fClock))], .box [.d (vnil), .d (.v (.int .i64 v_b16211))]]⟩
def G_ringlaw2_PagesTells_C1_hd (v_file2 : Int) (v_n3 : Int) (v_k4 : Int) (v_b5 : Int) (v_more6 : Int) (v_e16212 : Int) (v_e16213 : Int) (v_e16214 : Int) (v_e16215 : Int) (v_is16216 : Bool) (v_e16217 : Int) (v_bad16218 : Int) (v_b16202 : S_pages_Cache) (v_b16203 : (Fin 16 → Int)) (v_b16204 : S_pages_Cache) (v_b16205 : (Fin 16 → Int)) (v_b16206 : S_pages_Cache) (v_b16207 : S_pages_Cache) (v_b16208 : S_pages_Cache) (v_b16209 : S_pages_Page) (v_b16210 : S_pages_Cache) (v_b16211 : Int)  : PS := ⟨[dd, .d (.v (.int .i64 v_file2)), .d (.v (.int .i64 v_n3)), .d (.v (.int .i64 v_k4)), .d (.v (.int .u8 v_b5)), .d (.v (.int .i64 v_more6)), dd, .ref 0 0, dd, dd, dd, dd, dd, .ref 1 0, dd, .ref 2 0, .d (.v (.int .i64 v_e16212)), .ref 3 0, .d (.v (.int .i64 v_e16213)), .ref 4 0, .d (.v (.int .i64 v_e16214)), .ref 5 0, .d (.v (.int .i64 v_e16215)), .ref 6 0, .ref 7 0, .d (.v (.bool v_is16216)), dd, .ref 8 0, .d (.v (.int .i64 v_e16217)), .ref 9 0, .d (.v (.int .i64 v_bad16218)), dd, dd, dd, dd, dd, dd, dd, dd, dd, dd, dd, dd, dd, dd, dd, dd, dd, dd, dd, dd, dd, dd, dd, dd, dd, dd, dd, dd, dd, dd, dd, dd, dd, dd, dd, dd, dd, dd, dd, dd, dd, dd, dd, dd, dd, dd, dd, dd, dd, dd, dd, dd, dd, dd, dd, dd, dd, dd, dd, dd, dd, dd, dd, dd, dd, dd, dd, dd, dd, dd, dd, dd, dd, dd, dd, dd, dd, dd, dd, dd, dd, dd, dd, dd, dd, dd, dd, dd, dd, dd, dd, dd, dd, dd, dd, dd, dd, dd, dd, dd, dd, dd, dd, dd, dd, dd, dd, dd, dd, dd, dd, dd, dd, dd, dd, dd, dd, dd, dd, dd, dd, dd, dd, dd, dd, dd, dd, dd, dd, dd, dd, dd, dd, dd, dd, dd, dd, dd, dd, dd, dd, dd, dd, dd, dd, dd, dd, dd, dd, dd, dd, dd, dd, dd, dd, dd, dd, dd, dd, dd, dd, dd, dd, dd, dd, dd, dd, dd, dd, dd, dd, dd, dd, dd, dd, dd, dd, dd, dd, dd, dd, dd, dd, dd, dd, dd, dd, dd, dd, dd, dd, dd, dd, dd, dd, dd, dd, dd, dd, dd, dd, dd, dd, dd, dd, dd, dd, dd, dd, dd, dd, dd, dd, dd, dd, dd, dd, dd, dd, dd, dd, dd, dd, dd, dd, dd, dd, dd, dd, dd, dd, dd, dd, dd, dd, dd, dd, dd, dd, dd, dd, dd, dd, dd, dd, dd, dd, dd, dd, dd, dd, dd, dd, dd, dd, dd, dd, dd, dd, dd, dd, dd, dd, dd, dd, dd, dd, dd, dd, dd, dd, dd, dd, dd, dd, dd, dd, dd, dd, dd, dd, dd, dd, dd, dd, dd, dd, dd, dd, dd, dd, dd, dd, dd, dd, dd, dd, dd, dd, dd, dd, dd, dd, dd, dd, dd, dd, dd, dd, dd, dd, dd, dd, dd, dd, dd, dd, dd, dd, dd, dd, dd, dd, dd, dd, dd, dd, dd, dd, dd, dd, dd, dd, dd, dd, dd, dd, dd, dd, dd, dd, dd, dd, dd, dd, dd, dd, dd, dd, dd, dd, dd, dd, dd, dd, dd, dd, dd, dd, dd, dd, dd, dd, dd, dd, dd, dd, dd, dd, dd, dd, dd, dd, dd, dd, dd, dd, dd, dd, dd, dd, dd, dd, dd, dd, dd, dd, dd, dd, dd, dd, dd, dd, dd, dd, dd, dd, dd, dd, dd, dd, dd, dd, dd, dd, dd, dd, dd, dd, dd, dd, dd, dd, dd, dd, dd, dd, dd, dd, dd, dd, dd, dd, dd, dd, dd, dd, dd, dd, dd, dd, dd, dd, dd, dd, dd, dd, dd], [.box [.d (.sl (v_b16202.fPages.map eS_pages_Page)), .d (.v (.int .i64 v_b16202.fClock))], .box ((cA_t25 v_b16203).map FV.d), .box [.d (.sl (v_b16204.fPages.map eS_pages_Page)), .d (.v (.int .i64 v_b16204.fClock))], .box ((cA_t25 v_b16205).map FV.d), .box [.d (.sl (v_b16206.fPages.map eS_pages_Page)), .d (.v (.int .i64 v_b16206.fClock))], .box [.d (.sl (v_b16207.fPages.map eS_pages_Page)), .d (.v (.int .i64 v_b16207.fClock))], .box [.d (.sl (v_b16208.fPages.map eS_pages_Page)), .d (.v (.int .i64 v_b16208.fClock))], .box ((cS_pages_Page v_b16209).map FV.d), .box [.d (.sl (v_b16210.fPages.map eS_pages_Page)), .d (.v (.int .i64 v_b16210.fClock))], .box [.d (vnil), .d (.v (.int .i64 v_b16211))]]⟩
def G_ringlaw2_PagesTells_C1 (n : Nat) (v_file2 : Int) (v_n3 : Int) (v_k4 : Int) (v_b5 : Int) (v_more6 : Int) (v_e16212 : Int) (v_e16213 : Int) (v_e16214 : Int) (v_e16215 : Int) (v_is16216 : Bool) (v_e16217 : Int) (v_bad16218 : Int) (v_b16202 : S_pages_Cache) (v_b16203 : (Fin 16 → Int)) (v_b16204 : S_pages_Cache) (v_b16205 : (Fin 16 → Int)) (v_b16206 : S_pages_Cache) (v_b16207 : S_pages_Cache) (v_b16208 : S_pages_Cache) (v_b16209 : S_pages_Page) (v_b16210 : S_pages_Cache) (v_b16211 : Int) : Option G_ringlaw2_PagesTells_C1_R :=
  (G_ringref2_CacheSame n v_b16208 (S_pages_Cache.mk ([] : (List S_pages_Page)) v_b16211)).bind fun (v_r16342 : (Bool)) =>
  if v_r16342 = true then
   if (eqRes .neq (eqS_pages_Page v_b16209 (S_pages_Page.mk 0 0 0 0 (fun (_ : Fin 16) => 0)))) = true then
    some (.x0 true)
   else
    some (.x0 v_is16216)
  else
   some (.x0 true)
theorem G_ringlaw2_PagesTells_C1_ok {Fi : Ex → PS → Prop} (hF : KC 469 Fi) (ks : List Fr) (n : Nat) (v_file2 : Int) (v_n3 : Int) (v_k4 : Int) (v_b5 : Int) (v_more6 : Int) (v_e16212 : Int) (v_e16213 : Int) (v_e16214 : Int) (v_e16215 : Int) (v_is16216 : Bool) (v_e16217 : Int) (v_bad16218 : Int) (v_b16202 : S_pages_Cache) (v_b16203 : (Fin 16 → Int)) (v_b16204 : S_pages_Cache) (v_b16205 : (Fin 16 → Int)) (v_b16206 : S_pages_Cache) (v_b16207 : S_pages_Cache) (v_b16208 : S_pages_Cache) (v_b16209 : S_pages_Page) (v_b16210 : S_pages_Cache) (v_b16211 : Int)  (o : G_ringlaw2_PagesTells_C1_R) (h : G_ringlaw2_PagesTells_C1 n v_file2 v_n3 v_k4 v_b5 v_more6 v_e16212 v_e16213 v_e16214 v_e16215 v_is16216 v_e16217 v_bad16218 v_b16202 v_b16203 v_b16204 v_b16205 v_b16206 v_b16207 v_b16208 v_b16209 v_b16210 v_b16211 = some o) (q : RunE Try.prog 469 Fi ks (G_ringlaw2_PagesTells_C1_ex o) (G_ringlaw2_PagesTells_C1_st v_file2 v_n3 v_k4 v_b5 v_more6 v_e16212 v_e16213 v_e16214 v_e16215 v_is16216 v_e16217 v_bad16218 v_b16202 v_b16203 v_b16204 v_b16205 v_b16206 v_b16207 v_b16208 v_b16209 v_b16210 v_b16211 o)) : RunE Try.prog 469 Fi (.s (cL (cT (cR (cL (cR (cR (cR (cR (cR (cR (cR (cR (cR (cR (bodyOf Try.f3))))))))))))))) :: ks) .normal (G_ringlaw2_PagesTells_C1_hd v_file2 v_n3 v_k4 v_b5 v_more6 v_e16212 v_e16213 v_e16214 v_e16215 v_is16216 v_e16217 v_bad16218 v_b16202 v_b16203 v_b16204 v_b16205 v_b16206 v_b16207 v_b16208 v_b16209 v_b16210 v_b16211) := by
  unfold G_ringlaw2_PagesTells_C1 at h
  obtain ⟨v_r16342, h3480, h⟩ := bind_some h
  by_cases h3481 : v_r16342 = true
  · rw [if_pos h3481] at h
    by_cases h3482 : (eqRes .neq (eqS_pages_Page v_b16209 (S_pages_Page.mk 0 0 0 0 (fun (_ : Fin 16) => 0)))) = true
    · rw [if_pos h3482] at h
      cases h
      exact pkk_sound TTok mix hF 1 (hs := [.c, .c, .r (eB v_r16342), .t false, .c, .c, .c, .q (eqS_pages_Page v_b16209 (S_pages_Page.mk 0 0 0 0 (fun (_ : Fin 16) => 0))), .t true]) (ts := []) (s := [0, 1, 2, 3, 4, 5, 8, 9]) (l := [1, 2, 3, 4, 5, 7, 13, 15, 16, 17, 18, 19, 20, 21, 22, 27, 28, 29, 30, 121]) (by kernel_rfl) (by kernel_rfl) (.cons (G_ringref2_CacheSame_ok n v_b16208 (S_pages_Cache.mk ([] : (List S_pages_Page)) v_b16211) _ h3480) (.cons (bnf h3481) (.cons (eqS_pages_Page_ok v_b16209 (S_pages_Page.mk 0 0 0 0 (fun (_ : Fin 16) => 0))) (.cons h3482 .nil)))) q
    · rw [if_neg h3482] at h
      cases h
      exact pkk_sound TTok mix hF 1 (hs := [.c, .c, .r (eB v_r16342), .t false, .c, .c, .c, .q (eqS_pages_Page v_b16209 (S_pages_Page.mk 0 0 0 0 (fun (_ : Fin 16) => 0))), .t false]) (ts := []) (s := [0, 1, 2, 3, 4, 5, 8, 9]) (l := [1, 2, 3, 4, 5, 7, 13, 15, 16, 17, 18, 19, 20, 21, 22, 27, 28, 29, 30, 121]) (by kernel_rfl) (by kernel_rfl) (.cons (G_ringref2_CacheSame_ok n v_b16208 (S_pages_Cache.mk ([] : (List S_pages_Page)) v_b16211) _ h3480) (.cons (bnf h3481) (.cons (eqS_pages_Page_ok v_b16209 (S_pages_Page.mk 0 0 0 0 (fun (_ : Fin 16) => 0))) (.cons (vf h3482) .nil)))) q
  · rw [if_neg h3481] at h
    cases h
    exact pkk_sound TTok mix hF 1 (hs := [.c, .c, .r (eB v_r16342), .t true, .c, .c, .c]) (ts := []) (s := [0, 1, 2, 3, 4, 5, 8, 9]) (l := [1, 2, 3, 4, 5, 7, 13, 15, 16, 17, 18, 19, 20, 21, 22, 27, 28, 29, 30, 121]) (by kernel_rfl) (by kernel_rfl) (.cons (G_ringref2_CacheSame_ok n v_b16208 (S_pages_Cache.mk ([] : (List S_pages_Page)) v_b16211) _ h3480) (.cons (bnt (vf h3481)) .nil)) q
inductive G_ringlaw2_PagesTells_C2_R where
  | x0 (v_x16436 : Bool)
def G_ringlaw2_PagesTells_C2_ex : G_ringlaw2_PagesTells_C2_R → Ex
  | .x0 _ => .normal
def G_ringlaw2_PagesTells_C2_st (v_file2 : Int) (v_n3 : Int) (v_k4 : Int) (v_b5 : Int) (v_more6 : Int) (v_e16400 : Int) (v_e16401 : Int) (v_e16402 : Int) (v_e16403 : Int) (v_e16404 : Int) (v_bad16405 : Int) (v_b16392 : S_pages_Cache) (v_b16393 : (Fin 16 → Int)) (v_b16394 : S_pages_Cache) (v_b16395 : (Fin 16 → Int)) (v_b16396 : S_pages_Cache) (v_b16397 : S_pages_Cache) (v_b16398 : S_pages_Cache) (v_b16399 : Int) : G_ringlaw2_PagesTells_C2_R → PS
  | .x0 v_x16436 => ⟨[dd, .d (.v (.int .i64 v_file2)), .d (.v (.int .i64 v_n3)), .d (.v (.int .i64 v_k4)), .d (.v (.int .u8 v_b5)), .d (.v (.int .i64 v_more6)), dd, .ref 0 0, dd, dd, dd, dd, dd, .ref 1 0, dd, .ref 2 0, .d (.v (.int .i64 v_e16400)), .ref 3 0, .d (.v (.int .i64 v_e16401)), .ref 4 0, .d (.v (.int .i64 v_e16402)), .ref 5 0, .d (.v (.int .i64 v_e16403)), dd, dd, dd, dd, .ref 6 0, .d (.v (.int .i64 v_e16404)), .ref 7 0, .d (.v (.int .i64 v_bad16405)), dd, dd, dd, dd, dd, dd, dd, dd, dd, dd, dd, dd, dd, dd, dd, dd, dd, dd, dd, dd, dd, dd, dd, dd, dd, dd, dd, dd, dd, dd, dd, dd, dd, dd, dd, dd, dd, dd, dd, dd, dd, dd, dd, dd, dd, dd, dd, dd, dd, dd, dd, dd, dd, dd, dd, dd, dd, dd, dd, dd, dd, dd, dd, dd, dd, dd, dd, dd, dd, dd, dd, dd, dd, dd, dd, dd, dd, dd, dd, dd, dd, dd, dd, dd, dd, dd, dd, dd, dd, dd, dd, dd, dd, dd, dd, dd, dd, dd, dd, dd, dd, dd, dd, dd, dd, dd, dd, dd, dd, dd, dd, dd, dd, dd, dd, dd, dd, dd, dd, dd, dd, dd, dd, dd, dd, dd, dd, dd, dd, dd, dd, dd, dd, dd, dd, dd, dd, dd, dd, dd, dd, dd, dd, dd, dd, dd, dd, dd, dd, dd, dd, dd, dd, dd, dd, dd, .d (.v (.bool v_x16436)), dd, dd, dd, dd, dd, dd, dd, dd, dd, dd, dd, dd, dd, dd, dd, dd, dd, dd, dd, dd, dd, dd, dd, dd, dd, dd, dd, dd, dd, dd, dd, dd, dd, dd, dd, dd, dd, dd, dd, dd, dd, dd, dd, dd, dd, dd, dd, dd, dd, dd, dd, dd, dd, dd, dd, dd, dd, dd, dd, dd, dd, dd, dd, dd, dd, dd, dd, dd, dd, dd, dd, dd, dd, dd, dd, dd, dd, dd, dd, dd, dd, dd, dd, dd, dd, dd, dd, dd, dd, dd, dd, dd, dd, dd, dd, dd, dd, dd, dd, dd, dd, dd, dd, dd, dd, dd, dd, dd, dd, dd, dd, dd, dd, dd, dd, dd, dd, dd, dd, dd, dd, dd, dd, dd, dd, dd, dd, dd, dd, dd, dd, dd, dd, dd, dd, dd, dd, dd, dd, dd, dd, dd, dd, dd, dd, dd, dd, dd, dd, dd, dd, dd, dd, dd, dd, dd, dd, dd, dd, dd, dd, dd, dd, dd, dd, dd, dd, dd, dd, dd, dd, dd, dd, dd, dd, dd, dd, dd, dd, dd, dd, dd, dd, dd, dd, dd, dd, dd, dd, dd, dd, dd, dd, dd, dd, dd, dd, dd, dd, dd, dd, dd, dd, dd, dd, dd, dd, dd, dd, dd, dd, dd, dd, dd, dd, dd, dd, dd, dd, dd, dd, dd, dd, dd, dd, dd, dd, dd, dd, dd, dd, dd, dd, dd, dd, dd, dd, dd, dd, dd, dd, dd, dd, dd, dd, dd, dd, dd, dd, dd, dd, dd, dd, dd, dd, dd, dd, dd, dd, dd, dd, dd, dd, dd, dd, dd, dd, dd, dd, dd, dd, dd, dd, dd, dd, dd, dd, dd, dd, dd, dd], [.box [.d (.sl (v_b16392.fPages.map eS_pages_Page)), .d (.v (.int .i64 v_b16392.fClock))], .box ((cA_t25 v_b16393).map FV.d), .box [.d (.sl (v_b16394.fPages.map eS_pages_Page)), .d (.v (.int .i64 v_b16394.fClock))], .box ((cA_t25 v_b16395).map FV.d), .box [.d (.sl (v_b16396.fPages.map eS_pages_Page)), .d (.v (.int .i64 v_b16396.fClock))], .box [.d (.sl (v_b16397.fPages.map eS_pages_Page)), .d (.v (.int .i64 v_b16397.fClock))], .box [.d (.sl (v_b16398.fPages.map eS_pages_Page)), .d (.v (.int .i64 v_b16398.fClock))], .box [.d (vnil), .d (.v (.int .i64 v_b16399))]]⟩
def G_ringlaw2_PagesTells_C2_hd (v_file2 : Int) (v_n3 : Int) (v_k4 : Int) (v_b5 : Int) (v_more6 : Int) (v_e16400 : Int) (v_e16401 : Int) (v_e16402 : Int) (v_e16403 : Int) (v_e16404 : Int) (v_bad16405 : Int) (v_b16392 : S_pages_Cache) (v_b16393 : (Fin 16 → Int)) (v_b16394 : S_pages_Cache) (v_b16395 : (Fin 16 → Int)) (v_b16396 : S_pages_Cache) (v_b16397 : S_pages_Cache) (v_b16398 : S_pages_Cache) (v_b16399 : Int)  : PS := ⟨[dd, .d (.v (.int .i64 v_file2)), .d (.v (.int .i64 v_n3)), .d (.v (.int .i64 v_k4)), .d (.v (.int .u8 v_b5)), .d (.v (.int .i64 v_more6)), dd, .ref 0 0, dd, dd, dd, dd, dd, .ref 1 0, dd, .ref 2 0, .d (.v (.int .i64 v_e16400)), .ref 3 0, .d (.v (.int .i64 v_e16401)), .ref 4 0, .d (.v (.int .i64 v_e16402)), .ref 5 0, .d (.v (.int .i64 v_e16403)), dd, dd, dd, dd, .ref 6 0, .d (.v (.int .i64 v_e16404)), .ref 7 0, .d (.v (.int .i64 v_bad16405)), dd, dd, dd, dd, dd, dd, dd, dd, dd, dd, dd, dd, dd, dd, dd, dd, dd, dd, dd, dd, dd, dd, dd, dd, dd, dd, dd, dd, dd, dd, dd, dd, dd, dd, dd, dd, dd, dd, dd, dd, dd, dd, dd, dd, dd, dd, dd, dd, dd, dd, dd, dd, dd, dd, dd, dd, dd, dd, dd, dd, dd, dd, dd, dd, dd, dd, dd, dd, dd, dd, dd, dd, dd, dd, dd, dd, dd, dd, dd, dd, dd, dd, dd, dd, dd, dd, dd, dd, dd, dd, dd, dd, dd, dd, dd, dd, dd, dd, dd, dd, dd, dd, dd, dd, dd, dd, dd, dd, dd, dd, dd, dd, dd, dd, dd, dd, dd, dd, dd, dd, dd, dd, dd, dd, dd, dd, dd, dd, dd, dd, dd, dd, dd, dd, dd, dd, dd, dd, dd, dd, dd, dd, dd, dd, dd, dd, dd, dd, dd, dd, dd, dd, dd, dd, dd, dd, dd, dd, dd, dd, dd, dd, dd, dd, dd, dd, dd, dd, dd, dd, dd, dd, dd, dd, dd, dd, dd, dd, dd, dd, dd, dd, dd, dd, dd, dd, dd, dd, dd, dd, dd, dd, dd, dd, dd, dd, dd, dd, dd, dd, dd, dd, dd, dd, dd, dd, dd, dd, dd, dd, dd, dd, dd, dd, dd, dd, dd, dd, dd, dd, dd, dd, dd, dd, dd, dd, dd, dd, dd, dd, dd, dd, dd, dd, dd, dd, dd, dd, dd, dd, dd, dd, dd, dd, dd, dd, dd, dd, dd, dd, dd, dd, dd, dd, dd, dd, dd, dd, dd, dd, dd, dd, dd, dd, dd, dd, dd, dd, dd, dd, dd, dd, dd, dd, dd, dd, dd, dd, dd, dd, dd, dd, dd, dd, dd, dd, dd, dd, dd, dd, dd, dd, dd, dd, dd, dd, dd, dd, dd, dd, dd, dd, dd, dd, dd, dd, dd, dd, dd, dd, dd, dd, dd, dd, dd, dd, dd, dd, dd, dd, dd, dd, dd, dd, dd, dd, dd, dd, dd, dd, dd, dd, dd, dd, dd, dd, dd, dd, dd, dd, dd, dd, dd, dd, dd, dd, dd, dd, dd, dd, dd, dd, dd, dd, dd, dd, dd, dd, dd, dd, dd, dd, dd, dd, dd, dd, dd, dd, dd, dd, dd, dd, dd, dd, dd, dd, dd, dd, dd, dd, dd, dd, dd, dd, dd, dd, dd, dd, dd, dd, dd, dd, dd, dd, dd, dd, dd, dd, dd, dd, dd, dd, dd, dd, dd, dd, dd, dd, dd, dd, dd, dd, dd, dd, dd, dd, dd, dd, dd, dd, dd, dd, dd, dd, dd, dd, dd, dd, dd, dd, dd, dd, dd, dd, dd, dd, dd, dd], [.box [.d (.sl (v_b16392.fPages.map eS_pages_Page)), .d (.v (.int .i64 v_b16392.fClock))], .box ((cA_t25 v_b16393).map FV.d), .box [.d (.sl (v_b16394.fPages.map eS_pages_Page)), .d (.v (.int .i64 v_b16394.fClock))], .box ((cA_t25 v_b16395).map FV.d), .box [.d (.sl (v_b16396.fPages.map eS_pages_Page)), .d (.v (.int .i64 v_b16396.fClock))], .box [.d (.sl (v_b16397.fPages.map eS_pages_Page)), .d (.v (.int .i64 v_b16397.fClock))], .box [.d (.sl (v_b16398.fPages.map eS_pages_Page)), .d (.v (.int .i64 v_b16398.fClock))], .box [.d (vnil), .d (.v (.int .i64 v_b16399))]]⟩
def G_ringlaw2_PagesTells_C2 (n : Nat) (v_file2 : Int) (v_n3 : Int) (v_k4 : Int) (v_b5 : Int) (v_more6 : Int) (v_e16400 : Int) (v_e16401 : Int) (v_e16402 : Int) (v_e16403 : Int) (v_e16404 : Int) (v_bad16405 : Int) (v_b16392 : S_pages_Cache) (v_b16393 : (Fin 16 → Int)) (v_b16394 : S_pages_Cache) (v_b16395 : (Fin 16 → Int)) (v_b16396 : S_pages_Cache) (v_b16397 : S_pages_Cache) (v_b16398 : S_pages_Cache) (v_b16399 : Int) : Option G_ringlaw2_PagesTells_C2_R :=
  if v_bad16405 = 0 then
   (G_ringref2_FilePage n v_file2 v_n3).bind fun (v_r16435 : (Bool)) =>
   some (.x0 (!v_r16435))
  else
   some (.x0 false)
theorem G_ringlaw2_PagesTells_C2_ok {Fi : Ex → PS → Prop} (hF : KC 469 Fi) (ks : List Fr) (n : Nat) (v_file2 : Int) (v_n3 : Int) (v_k4 : Int) (v_b5 : Int) (v_more6 : Int) (v_e16400 : Int) (v_e16401 : Int) (v_e16402 : Int) (v_e16403 : Int) (v_e16404 : Int) (v_bad16405 : Int) (v_b16392 : S_pages_Cache) (v_b16393 : (Fin 16 → Int)) (v_b16394 : S_pages_Cache) (v_b16395 : (Fin 16 → Int)) (v_b16396 : S_pages_Cache) (v_b16397 : S_pages_Cache) (v_b16398 : S_pages_Cache) (v_b16399 : Int)  (o : G_ringlaw2_PagesTells_C2_R) (h : G_ringlaw2_PagesTells_C2 n v_file2 v_n3 v_k4 v_b5 v_more6 v_e16400 v_e16401 v_e16402 v_e16403 v_e16404 v_bad16405 v_b16392 v_b16393 v_b16394 v_b16395 v_b16396 v_b16397 v_b16398 v_b16399 = some o) (q : RunE Try.prog 469 Fi ks (G_ringlaw2_PagesTells_C2_ex o) (G_ringlaw2_PagesTells_C2_st v_file2 v_n3 v_k4 v_b5 v_more6 v_e16400 v_e16401 v_e16402 v_e16403 v_e16404 v_bad16405 v_b16392 v_b16393 v_b16394 v_b16395 v_b16396 v_b16397 v_b16398 v_b16399 o)) : RunE Try.prog 469 Fi (.s (cL (cL (cR (cR (cR (cR (cR (cR (cR (cR (cR (cR (cR (bodyOf Try.f3)))))))))))))) :: ks) .normal (G_ringlaw2_PagesTells_C2_hd v_file2 v_n3 v_k4 v_b5 v_more6 v_e16400 v_e16401 v_e16402 v_e16403 v_e16404 v_bad16405 v_b16392 v_b16393 v_b16394 v_b16395 v_b16396 v_b16397 v_b16398 v_b16399) := by
  unfold G_ringlaw2_PagesTells_C2 at h
  by_cases h3487 : v_bad16405 = 0
  · rw [if_pos h3487] at h
    obtain ⟨v_r16435, h3488, h⟩ := bind_some h
    cases h
    exact pkk_sound TTok mix hF 1 (hs := [.t true, .c, .c, .r (eB v_r16435), .c]) (ts := []) (s := [0, 1, 2, 3, 4, 5, 6, 7]) (l := [1, 2, 3, 4, 5, 7, 13, 15, 16, 17, 18, 19, 20, 21, 22, 27, 28, 29, 30, 187]) (by kernel_rfl) (by kernel_rfl) (.cons (bt h3487) (.cons (G_ringref2_FilePage_ok n v_file2 v_n3 _ h3488) .nil)) q
  · rw [if_neg h3487] at h
    cases h
    exact pkk_sound TTok mix hF 1 (hs := [.t false, .c, .c, .c]) (ts := []) (s := [0, 1, 2, 3, 4, 5, 6, 7]) (l := [1, 2, 3, 4, 5, 7, 13, 15, 16, 17, 18, 19, 20, 21, 22, 27, 28, 29, 30, 187]) (by kernel_rfl) (by kernel_rfl) (.cons (bf h3487) .nil) q
inductive G_ringlaw2_PagesTells_C3_R where
  | x0 (v_bring16624 : Int)
def G_ringlaw2_PagesTells_C3_ex : G_ringlaw2_PagesTells_C3_R → Ex
  | .x0 _ => .normal
def G_ringlaw2_PagesTells_C3_st (v_file2 : Int) (v_n3 : Int) (v_k4 : Int) (v_b5 : Int) (v_more6 : Int) (v_e16490 : Int) (v_e16491 : Int) (v_e16492 : Int) (v_e16493 : Int) (v_e16494 : Int) (v_r16510 : (Int)) (v_bad16495 : Int) (v_b16482 : S_pages_Cache) (v_b16483 : (Fin 16 → Int)) (v_b16484 : S_pages_Cache) (v_b16485 : (Fin 16 → Int)) (v_b16486 : S_pages_Cache) (v_b16487 : S_pages_Cache) (v_b16488 : S_pages_Cache) (v_b16489 : Int) : G_ringlaw2_PagesTells_C3_R → PS
  | .x0 v_bring16624 => ⟨[dd, .d (.v (.int .i64 v_file2)), .d (.v (.int .i64 v_n3)), .d (.v (.int .i64 v_k4)), .d (.v (.int .u8 v_b5)), .d (.v (.int .i64 v_more6)), dd, .ref 0 0, dd, dd, dd, dd, dd, .ref 1 0, dd, .ref 2 0, .d (.v (.int .i64 v_e16490)), .ref 3 0, .d (.v (.int .i64 v_e16491)), .ref 4 0, .d (.v (.int .i64 v_e16492)), .ref 5 0, .d (.v (.int .i64 v_e16493)), dd, dd, dd, dd, .ref 6 0, .d (.v (.int .i64 v_e16494)), .ref 7 0, dd, dd, dd, dd, dd, dd, dd, .d (.v (.int .i64 v_r16510)), .d (.v (.int .i64 v_bring16624)), .d (.v (.int .i64 v_bad16495)), dd, dd, dd, dd, dd, dd, dd, dd, dd, dd, dd, dd, dd, dd, dd, dd, dd, dd, dd, dd, dd, dd, dd, dd, dd, dd, dd, dd, dd, dd, dd, dd, dd, dd, dd, dd, dd, dd, dd, dd, dd, dd, dd, dd, dd, dd, dd, dd, dd, dd, dd, dd, dd, dd, dd, dd, dd, dd, dd, dd, dd, dd, dd, dd, dd, dd, dd, dd, dd, dd, dd, dd, dd, dd, dd, dd, dd, dd, dd, dd, dd, dd, dd, dd, dd, dd, dd, dd, dd, dd, dd, dd, dd, dd, dd, dd, dd, dd, dd, dd, dd, dd, dd, dd, dd, dd, dd, dd, dd, dd, dd, dd, dd, dd, dd, dd, dd, dd, dd, dd, dd, dd, dd, dd, dd, dd, dd, dd, dd, dd, dd, dd, dd, dd, dd, dd, dd, dd, dd, dd, dd, dd, dd, dd, dd, dd, dd, dd, dd, dd, dd, dd, dd, dd, dd, dd, dd, dd, dd, dd, dd, dd, dd, dd, dd, dd, dd, dd, dd, dd, dd, dd, dd, dd, dd, dd, dd, dd, dd, dd, dd, dd, dd, dd, dd, dd, dd, dd, dd, dd, dd, dd, dd, dd, dd, dd, dd, dd, dd, dd, dd, dd, dd, dd, dd, dd, dd, dd, dd, dd, dd, dd, dd, dd, dd, dd, dd, dd, dd, dd, dd, dd, dd, dd, dd, dd, dd, dd, dd, dd, dd, dd, dd, dd, dd, dd, dd, dd, dd, dd, dd, dd, dd, dd, dd, dd, dd, dd, dd, dd, dd, dd, dd, dd, dd, dd, dd, dd, dd, dd, dd, dd, dd, dd, dd, dd, dd, dd, dd, dd, dd, dd, dd, dd, dd, dd, dd, dd, dd, dd, dd, dd, dd, dd, dd, dd, dd, dd, dd, dd, dd, dd, dd, dd, dd, dd, dd, dd, dd, dd, dd, dd, dd, dd, dd, dd, dd, dd, dd, dd, dd, dd, dd, dd, dd, dd, dd, dd, dd, dd, dd, dd, dd, dd, dd, dd, dd, dd, dd, dd, dd, dd, dd, dd, dd, dd, dd, dd, dd, dd, dd, dd, dd, dd, dd, dd, dd, dd, dd, dd, dd, dd, dd, dd, dd, dd, dd, dd, dd, dd, dd, dd, dd, dd, dd, dd, dd, dd, dd, dd, dd, dd, dd, dd, dd, dd, dd, dd, dd, dd, dd, dd, dd, dd, dd, dd, dd, dd, dd, dd, dd, dd, dd, dd, dd, dd, dd, dd, dd, dd, dd, dd, dd, dd, dd, dd, dd, dd, dd, dd, dd, dd, dd, dd, dd, dd, dd, dd, dd, dd, dd, dd, dd, dd, dd, dd, dd, dd, dd], [.box [.d (.sl (v_b16482.fPages.map eS_pages_Page)), .d (.v (.int .i64 v_b16482.fClock))], .box ((cA_t25 v_b16483).map FV.d), .box [.d (.sl (v_b16484.fPages.map eS_pages_Page)), .d (.v (.int .i64 v_b16484.fClock))], .box ((cA_t25 v_b16485).map FV.d), .box [.d (.sl (v_b16486.fPages.map eS_pages_Page)), .d (.v (.int .i64 v_b16486.fClock))], .box [.d (.sl (v_b16487.fPages.map eS_pages_Page)), .d (.v (.int .i64 v_b16487.fClock))], .box [.d (.sl (v_b16488.fPages.map eS_pages_Page)), .d (.v (.int .i64 v_b16488.fClock))], .box [.d (vnil), .d (.v (.int .i64 v_b16489))]]⟩
def G_ringlaw2_PagesTells_C3_hd (v_file2 : Int) (v_n3 : Int) (v_k4 : Int) (v_b5 : Int) (v_more6 : Int) (v_e16490 : Int) (v_e16491 : Int) (v_e16492 : Int) (v_e16493 : Int) (v_e16494 : Int) (v_r16510 : (Int)) (v_bad16495 : Int) (v_b16482 : S_pages_Cache) (v_b16483 : (Fin 16 → Int)) (v_b16484 : S_pages_Cache) (v_b16485 : (Fin 16 → Int)) (v_b16486 : S_pages_Cache) (v_b16487 : S_pages_Cache) (v_b16488 : S_pages_Cache) (v_b16489 : Int)  : PS := ⟨[dd, .d (.v (.int .i64 v_file2)), .d (.v (.int .i64 v_n3)), .d (.v (.int .i64 v_k4)), .d (.v (.int .u8 v_b5)), .d (.v (.int .i64 v_more6)), dd, .ref 0 0, dd, dd, dd, dd, dd, .ref 1 0, dd, .ref 2 0, .d (.v (.int .i64 v_e16490)), .ref 3 0, .d (.v (.int .i64 v_e16491)), .ref 4 0, .d (.v (.int .i64 v_e16492)), .ref 5 0, .d (.v (.int .i64 v_e16493)), dd, dd, dd, dd, .ref 6 0, .d (.v (.int .i64 v_e16494)), .ref 7 0, dd, dd, dd, dd, dd, dd, dd, .d (.v (.int .i64 v_r16510)), .d (.v (.int .i64 v_bad16495)), .d (.v (.int .i64 v_bad16495)), dd, dd, dd, dd, dd, dd, dd, dd, dd, dd, dd, dd, dd, dd, dd, dd, dd, dd, dd, dd, dd, dd, dd, dd, dd, dd, dd, dd, dd, dd, dd, dd, dd, dd, dd, dd, dd, dd, dd, dd, dd, dd, dd, dd, dd, dd, dd, dd, dd, dd, dd, dd, dd, dd, dd, dd, dd, dd, dd, dd, dd, dd, dd, dd, dd, dd, dd, dd, dd, dd, dd, dd, dd, dd, dd, dd, dd, dd, dd, dd, dd, dd, dd, dd, dd, dd, dd, dd, dd, dd, dd, dd, dd, dd, dd, dd, dd, dd, dd, dd, dd, dd, dd, dd, dd, dd, dd, dd, dd, dd, dd, dd, dd, dd, dd, dd, dd, dd, dd, dd, dd, dd, dd, dd, dd, dd, dd, dd, dd, dd, dd, dd, dd, dd, dd, dd, dd, dd, dd, dd, dd, dd, dd, dd, dd, dd, dd, dd, dd, dd, dd, dd, dd, dd, dd, dd, .d (.v (.bool (decide (v_r16510 ≥ 0)))), dd, dd, dd, dd, dd, dd, dd, dd, dd, dd, dd, dd, dd, dd, dd, dd, dd, dd, dd, dd, dd, dd, dd, dd, dd, dd, dd, dd, dd, dd, dd, dd, dd, dd, dd, dd, dd, dd, dd, dd, dd, dd, dd, dd, dd, dd, dd, dd, dd, dd, dd, dd, dd, dd, dd, dd, dd, dd, dd, dd, dd, dd, dd, dd, dd, dd, dd, dd, dd, dd, dd, dd, dd, dd, dd, dd, dd, dd, dd, dd, dd, dd, dd, dd, dd, dd, dd, dd, dd, dd, dd, dd, dd, dd, dd, dd, dd, dd, dd, dd, dd, dd, dd, dd, dd, dd, dd, dd, dd, dd, dd, dd, dd, dd, dd, dd, dd, dd, dd, dd, dd, dd, dd, dd, dd, dd, dd, dd, dd, dd, dd, dd, dd, dd, dd, dd, dd, dd, dd, dd, dd, dd, dd, dd, dd, dd, dd, dd, dd, dd, dd, dd, dd, dd, dd, dd, dd, dd, dd, dd, dd, dd, dd, dd, dd, dd, dd, dd, dd, dd, dd, dd, dd, dd, dd, dd, dd, dd, dd, dd, dd, dd, dd, dd, dd, dd, dd, dd, dd, dd, dd, dd, dd, dd, dd, dd, dd, dd, dd, dd, dd, dd, dd, dd, dd, dd, dd, dd, dd, dd, dd, dd, dd, dd, dd, dd, dd, dd, dd, dd, dd, dd, dd, dd, dd, dd, dd, dd, dd, dd, dd, dd, dd, dd, dd, dd, dd, dd, dd, dd, dd, dd, dd, dd, dd, dd, dd, dd, dd, dd, dd, dd, dd, dd, dd, dd, dd, dd, dd, dd, dd, dd, dd, dd, dd, dd, dd, dd, dd, dd, dd, dd], [.box [.d (.sl (v_b16482.fPages.map eS_pages_Page)), .d (.v (.int .i64 v_b16482.fClock))], .box ((cA_t25 v_b16483).map FV.d), .box [.d (.sl (v_b16484.fPages.map eS_pages_Page)), .d (.v (.int .i64 v_b16484.fClock))], .box ((cA_t25 v_b16485).map FV.d), .box [.d (.sl (v_b16486.fPages.map eS_pages_Page)), .d (.v (.int .i64 v_b16486.fClock))], .box [.d (.sl (v_b16487.fPages.map eS_pages_Page)), .d (.v (.int .i64 v_b16487.fClock))], .box [.d (.sl (v_b16488.fPages.map eS_pages_Page)), .d (.v (.int .i64 v_b16488.fClock))], .box [.d (vnil), .d (.v (.int .i64 v_b16489))]]⟩
def G_ringlaw2_PagesTells_C3 (n : Nat) (v_file2 : Int) (v_n3 : Int) (v_k4 : Int) (v_b5 : Int) (v_more6 : Int) (v_e16490 : Int) (v_e16491 : Int) (v_e16492 : Int) (v_e16493 : Int) (v_e16494 : Int) (v_r16510 : (Int)) (v_bad16495 : Int) (v_b16482 : S_pages_Cache) (v_b16483 : (Fin 16 → Int)) (v_b16484 : S_pages_Cache) (v_b16485 : (Fin 16 → Int)) (v_b16486 : S_pages_Cache) (v_b16487 : S_pages_Cache) (v_b16488 : S_pages_Cache) (v_b16489 : Int) : Option G_ringlaw2_PagesTells_C3_R :=
  if v_r16510 ≥ 0 then
   some (.x0 5)
  else
   if (v_b16482.fPages.length : Int) = 64 then
    some (.x0 6)
   else
    some (.x0 v_bad16495)
theorem G_ringlaw2_PagesTells_C3_ok {Fi : Ex → PS → Prop} (hF : KC 469 Fi) (ks : List Fr) (n : Nat) (v_file2 : Int) (v_n3 : Int) (v_k4 : Int) (v_b5 : Int) (v_more6 : Int) (v_e16490 : Int) (v_e16491 : Int) (v_e16492 : Int) (v_e16493 : Int) (v_e16494 : Int) (v_r16510 : (Int)) (v_bad16495 : Int) (v_b16482 : S_pages_Cache) (v_b16483 : (Fin 16 → Int)) (v_b16484 : S_pages_Cache) (v_b16485 : (Fin 16 → Int)) (v_b16486 : S_pages_Cache) (v_b16487 : S_pages_Cache) (v_b16488 : S_pages_Cache) (v_b16489 : Int)  (o : G_ringlaw2_PagesTells_C3_R) (h : G_ringlaw2_PagesTells_C3 n v_file2 v_n3 v_k4 v_b5 v_more6 v_e16490 v_e16491 v_e16492 v_e16493 v_e16494 v_r16510 v_bad16495 v_b16482 v_b16483 v_b16484 v_b16485 v_b16486 v_b16487 v_b16488 v_b16489 = some o) (q : RunE Try.prog 469 Fi ks (G_ringlaw2_PagesTells_C3_ex o) (G_ringlaw2_PagesTells_C3_st v_file2 v_n3 v_k4 v_b5 v_more6 v_e16490 v_e16491 v_e16492 v_e16493 v_e16494 v_r16510 v_bad16495 v_b16482 v_b16483 v_b16484 v_b16485 v_b16486 v_b16487 v_b16488 v_b16489 o)) : RunE Try.prog 469 Fi (.s (cR (cB (cL (cT (cR (cL (cR (cR (cR (cR (cR (cR (cR (cR (cR (cR (cR (cR (cR (cR (bodyOf Try.f3))))))))))))))))))))) :: ks) .normal (G_ringlaw2_PagesTells_C3_hd v_file2 v_n3 v_k4 v_b5 v_more6 v_e16490 v_e16491 v_e16492 v_e16493 v_e16494 v_r16510 v_bad16495 v_b16482 v_b16483 v_b16484 v_b16485 v_b16486 v_b16487 v_b16488 v_b16489) := by
  unfold G_ringlaw2_PagesTells_C3 at h
  by_cases h3512 : v_r16510 ≥ 0
  · rw [if_pos h3512] at h
    cases h
    exact pkk_sound TTok mix hF 2 (hs := [.t true]) (ts := []) (s := [0, 1, 2, 3, 4, 5, 6, 7]) (l := [1, 2, 3, 4, 5, 7, 13, 15, 16, 17, 18, 19, 20, 21, 22, 27, 28, 29, 37, 38, 39]) (by kernel_rfl) (by kernel_rfl) (.cons (dt h3512) .nil) q
  · rw [if_neg h3512] at h
    by_cases h3513 : (v_b16482.fPages.length : Int) = 64
    · rw [if_pos h3513] at h
      cases h
      exact pkk_sound TTok mix hF 5 (hs := [.t false, .c, .u (.d (.v (.int .i64 (v_b16482.fPages.length : Int)))), .t true]) (ts := []) (s := [0, 1, 2, 3, 4, 5, 6, 7]) (l := [1, 2, 3, 4, 5, 7, 13, 15, 16, 17, 18, 19, 20, 21, 22, 27, 28, 29, 37, 38, 39]) (by kernel_rfl) (by kernel_rfl) (.cons (df h3512) (.cons (len_ob (f := eS_pages_Page) (l := v_b16482.fPages)) (.cons (bt h3513) .nil))) q
    · rw [if_neg h3513] at h
      cases h
      exact pkk_sound TTok mix hF 5 (hs := [.t false, .c, .u (.d (.v (.int .i64 (v_b16482.fPages.length : Int)))), .t false]) (ts := []) (s := [0, 1, 2, 3, 4, 5, 6, 7]) (l := [1, 2, 3, 4, 5, 7, 13, 15, 16, 17, 18, 19, 20, 21, 22, 27, 28, 29, 37, 38, 39]) (by kernel_rfl) (by kernel_rfl) (.cons (df h3512) (.cons (len_ob (f := eS_pages_Page) (l := v_b16482.fPages)) (.cons (bf h3513) .nil))) q
inductive G_ringlaw2_PagesTells_C4_R where
  | x0 (v_bring16629 : Int) (v_there16630 : Int)
def G_ringlaw2_PagesTells_C4_ex : G_ringlaw2_PagesTells_C4_R → Ex
  | .x0 _ _ => .normal
def G_ringlaw2_PagesTells_C4_st (v_file2 : Int) (v_n3 : Int) (v_k4 : Int) (v_b5 : Int) (v_more6 : Int) (v_e16490 : Int) (v_e16491 : Int) (v_e16492 : Int) (v_e16493 : Int) (v_e16494 : Int) (v_r16510 : (Int)) (v_bad16495 : Int) (v_b16482 : S_pages_Cache) (v_b16483 : (Fin 16 → Int)) (v_b16484 : S_pages_Cache) (v_b16485 : (Fin 16 → Int)) (v_b16486 : S_pages_Cache) (v_b16487 : S_pages_Cache) (v_b16488 : S_pages_Cache) (v_b16489 : Int) : G_ringlaw2_PagesTells_C4_R → PS
  | .x0 v_bring16629 v_there16630 => ⟨[dd, .d (.v (.int .i64 v_file2)), .d (.v (.int .i64 v_n3)), .d (.v (.int .i64 v_k4)), .d (.v (.int .u8 v_b5)), .d (.v (.int .i64 v_more6)), dd, .ref 0 0, dd, dd, dd, dd, dd, .ref 1 0, dd, .ref 2 0, .d (.v (.int .i64 v_e16490)), .ref 3 0, .d (.v (.int .i64 v_e16491)), .ref 4 0, .d (.v (.int .i64 v_e16492)), .ref 5 0, .d (.v (.int .i64 v_e16493)), dd, dd, dd, dd, .ref 6 0, .d (.v (.int .i64 v_e16494)), .ref 7 0, dd, dd, dd, dd, dd, dd, dd, .d (.v (.int .i64 v_r16510)), .d (.v (.int .i64 v_bring16629)), .d (.v (.int .i64 v_there16630)), dd, dd, dd, dd, dd, dd, dd, dd, dd, dd, dd, dd, dd, dd, dd, dd, dd, dd, dd, dd, dd, dd, dd, dd, dd, dd, dd, dd, dd, dd, dd, dd, dd, dd, dd, dd, dd, dd, dd, dd, dd, dd, dd, dd, dd, dd, dd, dd, dd, dd, dd, dd, dd, dd, dd, dd, dd, dd, dd, dd, dd, dd, dd, dd, dd, dd, dd, dd, dd, dd, dd, dd, dd, dd, dd, dd, dd, dd, dd, dd, dd, dd, dd, dd, dd, dd, dd, dd, dd, dd, dd, dd, dd, dd, dd, dd, dd, dd, dd, dd, dd, dd, dd, dd, dd, dd, dd, dd, dd, dd, dd, dd, dd, dd, dd, dd, dd, dd, dd, dd, dd, dd, dd, dd, dd, dd, dd, dd, dd, dd, dd, dd, dd, dd, dd, dd, dd, dd, dd, dd, dd, dd, dd, dd, dd, dd, dd, dd, dd, dd, dd, dd, dd, dd, dd, dd, dd, dd, dd, dd, dd, dd, dd, dd, dd, dd, dd, dd, dd, dd, dd, dd, dd, dd, dd, dd, dd, dd, dd, dd, dd, dd, dd, dd, dd, dd, dd, dd, dd, dd, dd, dd, dd, dd, dd, dd, dd, dd, dd, dd, dd, dd, dd, dd, dd, dd, dd, dd, dd, dd, dd, dd, dd, dd, dd, dd, dd, dd, dd, dd, dd, dd, dd, dd, dd, dd, dd, dd, dd, dd, dd, dd, dd, dd, dd, dd, dd, dd, dd, dd, dd, dd, dd, dd, dd, dd, dd, dd, dd, dd, dd, dd, dd, dd, dd, dd, dd, dd, dd, dd, dd, dd, dd, dd, dd, dd, dd, dd, dd, dd, dd, dd, dd, dd, dd, dd, dd, dd, dd, dd, dd, dd, dd, dd, dd, dd, dd, dd, dd, dd, dd, dd, dd, dd, dd, dd, dd, dd, dd, dd, dd, dd, dd, dd, dd, dd, dd, dd, dd, dd, dd, dd, dd, dd, dd, dd, dd, dd, dd, dd, dd, dd, dd, dd, dd, dd, dd, dd, dd, dd, dd, dd, dd, dd, dd, dd, dd, dd, dd, dd, dd, dd, dd, dd, dd, dd, dd, dd, dd, dd, dd, dd, dd, dd, dd, dd, dd, dd, dd, dd, dd, dd, dd, dd, dd, dd, dd, dd, dd, dd, dd, dd, dd, dd, dd, dd, dd, dd, dd, dd, dd, dd, dd, dd, dd, dd, dd, dd, dd, dd, dd, dd, dd, dd, dd, dd, dd, dd, dd, dd, dd, dd, dd, dd, dd, dd, dd, dd, dd, dd, dd, dd, dd, dd, dd, dd, dd, dd, dd, dd, dd, dd, dd, dd, dd, dd, dd, dd, dd], [.box [.d (.sl (v_b16482.fPages.map eS_pages_Page)), .d (.v (.int .i64 v_b16482.fClock))], .box ((cA_t25 v_b16483).map FV.d), .box [.d (.sl (v_b16484.fPages.map eS_pages_Page)), .d (.v (.int .i64 v_b16484.fClock))], .box ((cA_t25 v_b16485).map FV.d), .box [.d (.sl (v_b16486.fPages.map eS_pages_Page)), .d (.v (.int .i64 v_b16486.fClock))], .box [.d (.sl (v_b16487.fPages.map eS_pages_Page)), .d (.v (.int .i64 v_b16487.fClock))], .box [.d (.sl (v_b16488.fPages.map eS_pages_Page)), .d (.v (.int .i64 v_b16488.fClock))], .box [.d (vnil), .d (.v (.int .i64 v_b16489))]]⟩
def G_ringlaw2_PagesTells_C4_hd (v_file2 : Int) (v_n3 : Int) (v_k4 : Int) (v_b5 : Int) (v_more6 : Int) (v_e16490 : Int) (v_e16491 : Int) (v_e16492 : Int) (v_e16493 : Int) (v_e16494 : Int) (v_r16510 : (Int)) (v_bad16495 : Int) (v_b16482 : S_pages_Cache) (v_b16483 : (Fin 16 → Int)) (v_b16484 : S_pages_Cache) (v_b16485 : (Fin 16 → Int)) (v_b16486 : S_pages_Cache) (v_b16487 : S_pages_Cache) (v_b16488 : S_pages_Cache) (v_b16489 : Int)  : PS := ⟨[dd, .d (.v (.int .i64 v_file2)), .d (.v (.int .i64 v_n3)), .d (.v (.int .i64 v_k4)), .d (.v (.int .u8 v_b5)), .d (.v (.int .i64 v_more6)), dd, .ref 0 0, dd, dd, dd, dd, dd, .ref 1 0, dd, .ref 2 0, .d (.v (.int .i64 v_e16490)), .ref 3 0, .d (.v (.int .i64 v_e16491)), .ref 4 0, .d (.v (.int .i64 v_e16492)), .ref 5 0, .d (.v (.int .i64 v_e16493)), dd, dd, dd, dd, .ref 6 0, .d (.v (.int .i64 v_e16494)), .ref 7 0, dd, dd, dd, dd, dd, dd, dd, .d (.v (.int .i64 v_r16510)), .d (.v (.int .i64 v_bad16495)), .d (.v (.int .i64 v_bad16495)), dd, dd, dd, dd, dd, dd, dd, dd, dd, dd, dd, dd, dd, dd, dd, dd, dd, dd, dd, dd, dd, dd, dd, dd, dd, dd, dd, dd, dd, dd, dd, dd, dd, dd, dd, dd, dd, dd, dd, dd, dd, dd, dd, dd, dd, dd, dd, dd, dd, dd, dd, dd, dd, dd, dd, dd, dd, dd, dd, dd, dd, dd, dd, dd, dd, dd, dd, dd, dd, dd, dd, dd, dd, dd, dd, dd, dd, dd, dd, dd, dd, dd, dd, dd, dd, dd, dd, dd, dd, dd, dd, dd, dd, dd, dd, dd, dd, dd, dd, dd, dd, dd, dd, dd, dd, dd, dd, dd, dd, dd, dd, dd, dd, dd, dd, dd, dd, dd, dd, dd, dd, dd, dd, dd, dd, dd, dd, dd, dd, dd, dd, dd, dd, dd, dd, dd, dd, dd, dd, dd, dd, dd, dd, dd, dd, dd, dd, dd, dd, dd, dd, dd, dd, dd, dd, .d (.v (.bool (v_bad16495 == 0))), dd, dd, dd, dd, dd, dd, dd, dd, dd, dd, dd, dd, dd, dd, dd, dd, dd, dd, dd, dd, dd, dd, dd, dd, dd, dd, dd, dd, dd, dd, dd, dd, dd, dd, dd, dd, dd, dd, dd, dd, dd, dd, dd, dd, dd, dd, dd, dd, dd, dd, dd, dd, dd, dd, dd, dd, dd, dd, dd, dd, dd, dd, dd, dd, dd, dd, dd, dd, dd, dd, dd, dd, dd, dd, dd, dd, dd, dd, dd, dd, dd, dd, dd, dd, dd, dd, dd, dd, dd, dd, dd, dd, dd, dd, dd, dd, dd, dd, dd, dd, dd, dd, dd, dd, dd, dd, dd, dd, dd, dd, dd, dd, dd, dd, dd, dd, dd, dd, dd, dd, dd, dd, dd, dd, dd, dd, dd, dd, dd, dd, dd, dd, dd, dd, dd, dd, dd, dd, dd, dd, dd, dd, dd, dd, dd, dd, dd, dd, dd, dd, dd, dd, dd, dd, dd, dd, dd, dd, dd, dd, dd, dd, dd, dd, dd, dd, dd, dd, dd, dd, dd, dd, dd, dd, dd, dd, dd, dd, dd, dd, dd, dd, dd, dd, dd, dd, dd, dd, dd, dd, dd, dd, dd, dd, dd, dd, dd, dd, dd, dd, dd, dd, dd, dd, dd, dd, dd, dd, dd, dd, dd, dd, dd, dd, dd, dd, dd, dd, dd, dd, dd, dd, dd, dd, dd, dd, dd, dd, dd, dd, dd, dd, dd, dd, dd, dd, dd, dd, dd, dd, dd, dd, dd, dd, dd, dd, dd, dd, dd, dd, dd, dd, dd, dd, dd, dd, dd, dd, dd, dd, dd, dd, dd, dd, dd, dd, dd, dd, dd, dd, dd, dd, dd], [.box [.d (.sl (v_b16482.fPages.map eS_pages_Page)), .d (.v (.int .i64 v_b16482.fClock))], .box ((cA_t25 v_b16483).map FV.d), .box [.d (.sl (v_b16484.fPages.map eS_pages_Page)), .d (.v (.int .i64 v_b16484.fClock))], .box ((cA_t25 v_b16485).map FV.d), .box [.d (.sl (v_b16486.fPages.map eS_pages_Page)), .d (.v (.int .i64 v_b16486.fClock))], .box [.d (.sl (v_b16487.fPages.map eS_pages_Page)), .d (.v (.int .i64 v_b16487.fClock))], .box [.d (.sl (v_b16488.fPages.map eS_pages_Page)), .d (.v (.int .i64 v_b16488.fClock))], .box [.d (vnil), .d (.v (.int .i64 v_b16489))]]⟩
def G_ringlaw2_PagesTells_C4 (n : Nat) (v_file2 : Int) (v_n3 : Int) (v_k4 : Int) (v_b5 : Int) (v_more6 : Int) (v_e16490 : Int) (v_e16491 : Int) (v_e16492 : Int) (v_e16493 : Int) (v_e16494 : Int) (v_r16510 : (Int)) (v_bad16495 : Int) (v_b16482 : S_pages_Cache) (v_b16483 : (Fin 16 → Int)) (v_b16484 : S_pages_Cache) (v_b16485 : (Fin 16 → Int)) (v_b16486 : S_pages_Cache) (v_b16487 : S_pages_Cache) (v_b16488 : S_pages_Cache) (v_b16489 : Int) : Option G_ringlaw2_PagesTells_C4_R :=
  if v_bad16495 = 0 then
   (G_ringlaw2_PagesTells_C3 n v_file2 v_n3 v_k4 v_b5 v_more6 v_e16490 v_e16491 v_e16492 v_e16493 v_e16494 v_r16510 v_bad16495 v_b16482 v_b16483 v_b16484 v_b16485 v_b16486 v_b16487 v_b16488 v_b16489).bind fun v_o16627 => match v_o16627 with
   | .x0 v_z16628 =>
     if v_r16510 < 0 then
      some (.x0 v_z16628 4)
     else
      some (.x0 v_z16628 v_bad16495)
  else
   some (.x0 v_bad16495 v_bad16495)
theorem G_ringlaw2_PagesTells_C4_ok {Fi : Ex → PS → Prop} (hF : KC 469 Fi) (ks : List Fr) (n : Nat) (v_file2 : Int) (v_n3 : Int) (v_k4 : Int) (v_b5 : Int) (v_more6 : Int) (v_e16490 : Int) (v_e16491 : Int) (v_e16492 : Int) (v_e16493 : Int) (v_e16494 : Int) (v_r16510 : (Int)) (v_bad16495 : Int) (v_b16482 : S_pages_Cache) (v_b16483 : (Fin 16 → Int)) (v_b16484 : S_pages_Cache) (v_b16485 : (Fin 16 → Int)) (v_b16486 : S_pages_Cache) (v_b16487 : S_pages_Cache) (v_b16488 : S_pages_Cache) (v_b16489 : Int)  (o : G_ringlaw2_PagesTells_C4_R) (h : G_ringlaw2_PagesTells_C4 n v_file2 v_n3 v_k4 v_b5 v_more6 v_e16490 v_e16491 v_e16492 v_e16493 v_e16494 v_r16510 v_bad16495 v_b16482 v_b16483 v_b16484 v_b16485 v_b16486 v_b16487 v_b16488 v_b16489 = some o) (q : RunE Try.prog 469 Fi ks (G_ringlaw2_PagesTells_C4_ex o) (G_ringlaw2_PagesTells_C4_st v_file2 v_n3 v_k4 v_b5 v_more6 v_e16490 v_e16491 v_e16492 v_e16493 v_e16494 v_r16510 v_bad16495 v_b16482 v_b16483 v_b16484 v_b16485 v_b16486 v_b16487 v_b16488 v_b16489 o)) : RunE Try.prog 469 Fi (.s (cR (cL (cR (cR (cR (cR (cR (cR (cR (cR (cR (cR (cR (cR (cR (cR (bodyOf Try.f3))))))))))))))))) :: ks) .normal (G_ringlaw2_PagesTells_C4_hd v_file2 v_n3 v_k4 v_b5 v_more6 v_e16490 v_e16491 v_e16492 v_e16493 v_e16494 v_r16510 v_bad16495 v_b16482 v_b16483 v_b16484 v_b16485 v_b16486 v_b16487 v_b16488 v_b16489) := by
  unfold G_ringlaw2_PagesTells_C4 at h
  by_cases h3504 : v_bad16495 = 0
  · rw [if_pos h3504] at h
    obtain ⟨v_o16627, h3514, h⟩ := bind_some h
    refine pkk_sound TTok mix hF 5 (hs := [.t true]) (ts := []) (s := [0, 1, 2, 3, 4, 5, 6, 7]) (l := [1, 2, 3, 4, 5, 7, 13, 15, 16, 17, 18, 19, 20, 21, 22, 27, 28, 29, 37, 38, 39, 196]) (by kernel_rfl) (by kernel_rfl) (.cons (bt h3504) .nil) (G_ringlaw2_PagesTells_C3_ok hF (.b 2 :: .s (cR (cT (cR (cL (cR (cR (cR (cR (cR (cR (cR (cR (cR (cR (cR (cR (cR (cR (bodyOf Try.f3))))))))))))))))))) :: ks) n v_file2 v_n3 v_k4 v_b5 v_more6 v_e16490 v_e16491 v_e16492 v_e16493 v_e16494 v_r16510 v_bad16495 v_b16482 v_b16483 v_b16484 v_b16485 v_b16486 v_b16487 v_b16488 v_b16489 _ h3514 ?_)
    cases v_o16627 with
    | x0 v_z16628 =>
      try dsimp only at h
      by_cases h3515 : v_r16510 < 0
      · rw [if_pos h3515] at h
        cases h
        exact pkk_sound TTok mix hF 5 (hs := [.t true]) (ts := []) (s := [0, 1, 2, 3, 4, 5, 6, 7]) (l := [1, 2, 3, 4, 5, 7, 13, 15, 16, 17, 18, 19, 20, 21, 22, 27, 28, 29, 37, 38, 39]) (by kernel_rfl) (by kernel_rfl) (.cons (dt h3515) .nil) q
      · rw [if_neg h3515] at h
        cases h
        exact pkk_sound TTok mix hF 5 (hs := [.t false]) (ts := []) (s := [0, 1, 2, 3, 4, 5, 6, 7]) (l := [1, 2, 3, 4, 5, 7, 13, 15, 16, 17, 18, 19, 20, 21, 22, 27, 28, 29, 37, 38, 39]) (by kernel_rfl) (by kernel_rfl) (.cons (df h3515) .nil) q
  · rw [if_neg h3504] at h
    cases h
    exact pkk_sound TTok mix hF 2 (hs := [.t false]) (ts := []) (s := [0, 1, 2, 3, 4, 5, 6, 7]) (l := [1, 2, 3, 4, 5, 7, 13, 15, 16, 17, 18, 19, 20, 21, 22, 27, 28, 29, 37, 38, 39]) (by kernel_rfl) (by kernel_rfl) (.cons (bf h3504) .nil) q
inductive G_ringlaw2_PagesTells_C5_R where
  | x0 (v_x16687 : Bool)
def G_ringlaw2_PagesTells_C5_ex : G_ringlaw2_PagesTells_C5_R → Ex
  | .x0 _ => .normal
def G_ringlaw2_PagesTells_C5_st (v_file2 : Int) (v_n3 : Int) (v_k4 : Int) (v_b5 : Int) (v_more6 : Int) (v_e16490 : Int) (v_e16491 : Int) (v_e16492 : Int) (v_e16493 : Int) (v_e16494 : Int) (v_r16510 : (Int)) (v_z16636 : Int) (v_z16637 : Int) (v_b16482 : S_pages_Cache) (v_b16483 : (Fin 16 → Int)) (v_b16484 : S_pages_Cache) (v_b16485 : (Fin 16 → Int)) (v_b16486 : S_pages_Cache) (v_b16487 : S_pages_Cache) (v_b16488 : S_pages_Cache) (v_b16489 : Int) : G_ringlaw2_PagesTells_C5_R → PS
  | .x0 v_x16687 => ⟨[dd, .d (.v (.int .i64 v_file2)), .d (.v (.int .i64 v_n3)), .d (.v (.int .i64 v_k4)), .d (.v (.int .u8 v_b5)), .d (.v (.int .i64 v_more6)), dd, .ref 0 0, dd, dd, dd, dd, dd, .ref 1 0, dd, .ref 2 0, dd, .ref 3 0, .d (.v (.int .i64 v_e16491)), .ref 4 0, .d (.v (.int .i64 v_e16492)), .ref 5 0, .d (.v (.int .i64 v_e16493)), dd, dd, dd, dd, .ref 6 0, .d (.v (.int .i64 v_e16494)), .ref 7 0, dd, dd, dd, dd, dd, dd, dd, .d (.v (.int .i64 v_r16510)), .d (.v (.int .i64 v_z16636)), .d (.v (.int .i64 v_z16637)), dd, dd, dd, dd, dd, dd, dd, dd, dd, dd, dd, dd, dd, dd, dd, dd, dd, dd, dd, dd, dd, dd, dd, dd, dd, dd, dd, dd, dd, dd, dd, dd, dd, dd, dd, dd, dd, dd, dd, dd, dd, dd, dd, dd, dd, dd, dd, dd, dd, dd, dd, dd, dd, dd, dd, dd, dd, dd, dd, dd, dd, dd, dd, dd, dd, dd, dd, dd, dd, dd, dd, dd, dd, dd, dd, dd, dd, dd, dd, dd, dd, dd, dd, dd, dd, dd, dd, dd, dd, dd, dd, dd, dd, dd, dd, dd, dd, dd, dd, dd, dd, dd, dd, dd, dd, dd, dd, dd, dd, dd, dd, dd, dd, dd, dd, dd, dd, dd, dd, dd, dd, dd, dd, dd, dd, dd, dd, dd, dd, dd, dd, dd, dd, dd, dd, dd, dd, dd, dd, dd, dd, dd, dd, dd, dd, dd, dd, dd, dd, dd, dd, dd, dd, dd, dd, dd, dd, dd, dd, dd, dd, dd, dd, dd, dd, dd, dd, dd, dd, dd, dd, dd, dd, dd, dd, dd, dd, dd, .d (.v (.bool v_x16687)), dd, dd, dd, dd, dd, dd, dd, dd, dd, dd, dd, dd, dd, dd, dd, dd, dd, dd, dd, dd, dd, dd, dd, dd, dd, dd, dd, dd, dd, dd, dd, dd, dd, dd, dd, dd, dd, dd, dd, dd, dd, dd, dd, dd, dd, dd, dd, dd, dd, dd, dd, dd, dd, dd, dd, dd, dd, dd, dd, dd, dd, dd, dd, dd, dd, dd, dd, dd, dd, dd, dd, dd, dd, dd, dd, dd, dd, dd, dd, dd, dd, dd, dd, dd, dd, dd, dd, dd, dd, dd, dd, dd, dd, dd, dd, dd, dd, dd, dd, dd, dd, dd, dd, dd, dd, dd, dd, dd, dd, dd, dd, dd, dd, dd, dd, dd, dd, dd, dd, dd, dd, dd, dd, dd, dd, dd, dd, dd, dd, dd, dd, dd, dd, dd, dd, dd, dd, dd, dd, dd, dd, dd, dd, dd, dd, dd, dd, dd, dd, dd, dd, dd, dd, dd, dd, dd, dd, dd, dd, dd, dd, dd, dd, dd, dd, dd, dd, dd, dd, dd, dd, dd, dd, dd, dd, dd, dd, dd, dd, dd, dd, dd, dd, dd, dd, dd, dd, dd, dd, dd, dd, dd, dd, dd, dd, dd, dd, dd, dd, dd, dd, dd, dd, dd, dd, dd, dd, dd, dd, dd, dd, dd, dd, dd, dd, dd, dd, dd, dd, dd, dd, dd, dd, dd, dd, dd, dd, dd, dd, dd, dd, dd, dd, dd, dd, dd, dd, dd, dd, dd, dd, dd, dd, dd, dd, dd, dd, dd, dd, dd], [.box [.d (.sl (v_b16482.fPages.map eS_pages_Page)), .d (.v (.int .i64 v_b16482.fClock))], .box ((cA_t25 v_b16483).map FV.d), .box [.d (.sl (v_b16484.fPages.map eS_pages_Page)), .d (.v (.int .i64 v_b16484.fClock))], .box ((cA_t25 v_b16485).map FV.d), .box [.d (.sl (v_b16486.fPages.map eS_pages_Page)), .d (.v (.int .i64 v_b16486.fClock))], .box [.d (.sl (v_b16487.fPages.map eS_pages_Page)), .d (.v (.int .i64 v_b16487.fClock))], .box [.d (.sl (v_b16488.fPages.map eS_pages_Page)), .d (.v (.int .i64 v_b16488.fClock))], .box [.d (vnil), .d (.v (.int .i64 v_b16489))]]⟩
def G_ringlaw2_PagesTells_C5_hd (v_file2 : Int) (v_n3 : Int) (v_k4 : Int) (v_b5 : Int) (v_more6 : Int) (v_e16490 : Int) (v_e16491 : Int) (v_e16492 : Int) (v_e16493 : Int) (v_e16494 : Int) (v_r16510 : (Int)) (v_z16636 : Int) (v_z16637 : Int) (v_b16482 : S_pages_Cache) (v_b16483 : (Fin 16 → Int)) (v_b16484 : S_pages_Cache) (v_b16485 : (Fin 16 → Int)) (v_b16486 : S_pages_Cache) (v_b16487 : S_pages_Cache) (v_b16488 : S_pages_Cache) (v_b16489 : Int)  : PS := ⟨[dd, .d (.v (.int .i64 v_file2)), .d (.v (.int .i64 v_n3)), .d (.v (.int .i64 v_k4)), .d (.v (.int .u8 v_b5)), .d (.v (.int .i64 v_more6)), dd, .ref 0 0, dd, dd, dd, dd, dd, .ref 1 0, dd, .ref 2 0, .d (.v (.int .i64 v_e16490)), .ref 3 0, .d (.v (.int .i64 v_e16491)), .ref 4 0, .d (.v (.int .i64 v_e16492)), .ref 5 0, .d (.v (.int .i64 v_e16493)), dd, dd, dd, dd, .ref 6 0, .d (.v (.int .i64 v_e16494)), .ref 7 0, dd, dd, dd, dd, dd, dd, dd, .d (.v (.int .i64 v_r16510)), .d (.v (.int .i64 v_z16636)), .d (.v (.int .i64 v_z16637)), dd, dd, dd, dd, dd, dd, dd, dd, dd, dd, dd, dd, dd, dd, dd, dd, dd, dd, dd, dd, dd, dd, dd, dd, dd, dd, dd, dd, dd, dd, dd, dd, dd, dd, dd, dd, dd, dd, dd, dd, dd, dd, dd, dd, dd, dd, dd, dd, dd, dd, dd, dd, dd, dd, dd, dd, dd, dd, dd, dd, dd, dd, dd, dd, dd, dd, dd, dd, dd, dd, dd, dd, dd, dd, dd, dd, dd, dd, dd, dd, dd, dd, dd, dd, dd, dd, dd, dd, dd, dd, dd, dd, dd, dd, dd, dd, dd, dd, dd, dd, dd, dd, dd, dd, dd, dd, dd, dd, dd, dd, dd, dd, dd, dd, dd, dd, dd, dd, dd, dd, dd, dd, dd, dd, dd, dd, dd, dd, dd, dd, dd, dd, dd, dd, dd, dd, dd, dd, dd, dd, dd, dd, dd, dd, dd, dd, dd, dd, dd, dd, dd, dd, dd, dd, dd, dd, dd, dd, dd, dd, dd, dd, dd, dd, dd, dd, dd, dd, dd, dd, dd, dd, dd, dd, dd, dd, dd, dd, dd, dd, dd, dd, dd, dd, dd, dd, dd, dd, dd, dd, dd, dd, dd, dd, dd, dd, dd, dd, dd, dd, dd, dd, dd, dd, dd, dd, dd, dd, dd, dd, dd, dd, dd, dd, dd, dd, dd, dd, dd, dd, dd, dd, dd, dd, dd, dd, dd, dd, dd, dd, dd, dd, dd, dd, dd, dd, dd, dd, dd, dd, dd, dd, dd, dd, dd, dd, dd, dd, dd, dd, dd, dd, dd, dd, dd, dd, dd, dd, dd, dd, dd, dd, dd, dd, dd, dd, dd, dd, dd, dd, dd, dd, dd, dd, dd, dd, dd, dd, dd, dd, dd, dd, dd, dd, dd, dd, dd, dd, dd, dd, dd, dd, dd, dd, dd, dd, dd, dd, dd, dd, dd, dd, dd, dd, dd, dd, dd, dd, dd, dd, dd, dd, dd, dd, dd, dd, dd, dd, dd, dd, dd, dd, dd, dd, dd, dd, dd, dd, dd, dd, dd, dd, dd, dd, dd, dd, dd, dd, dd, dd, dd, dd, dd, dd, dd, dd, dd, dd, dd, dd, dd, dd, dd, dd, dd, dd, dd, dd, dd, dd, dd, dd, dd, dd, dd, dd, dd, dd, dd, dd, dd, dd, dd, dd, dd, dd, dd, dd, dd, dd, dd, dd, dd, dd, dd, dd, dd, dd, dd, dd, dd, dd, dd, dd, dd, dd, dd, dd, dd, dd, dd, dd, dd, dd, dd, dd, dd, dd, dd, dd, dd, dd, dd, dd, dd, dd, dd, dd, dd, dd, dd, dd, dd, dd, dd, dd, dd, dd, dd], [.box [.d (.sl (v_b16482.fPages.map eS_pages_Page)), .d (.v (.int .i64 v_b16482.fClock))], .box ((cA_t25 v_b16483).map FV.d), .box [.d (.sl (v_b16484.fPages.map eS_pages_Page)), .d (.v (.int .i64 v_b16484.fClock))], .box ((cA_t25 v_b16485).map FV.d), .box [.d (.sl (v_b16486.fPages.map eS_pages_Page)), .d (.v (.int .i64 v_b16486.fClock))], .box [.d (.sl (v_b16487.fPages.map eS_pages_Page)), .d (.v (.int .i64 v_b16487.fClock))], .box [.d (.sl (v_b16488.fPages.map eS_pages_Page)), .d (.v (.int .i64 v_b16488.fClock))], .box [.d (vnil), .d (.v (.int .i64 v_b16489))]]⟩
def G_ringlaw2_PagesTells_C5 (n : Nat) (v_file2 : Int) (v_n3 : Int) (v_k4 : Int) (v_b5 : Int) (v_more6 : Int) (v_e16490 : Int) (v_e16491 : Int) (v_e16492 : Int) (v_e16493 : Int) (v_e16494 : Int) (v_r16510 : (Int)) (v_z16636 : Int) (v_z16637 : Int) (v_b16482 : S_pages_Cache) (v_b16483 : (Fin 16 → Int)) (v_b16484 : S_pages_Cache) (v_b16485 : (Fin 16 → Int)) (v_b16486 : S_pages_Cache) (v_b16487 : S_pages_Cache) (v_b16488 : S_pages_Cache) (v_b16489 : Int) : Option G_ringlaw2_PagesTells_C5_R :=
  if v_e16490 = v_z16636 then
   if v_z16636 = 0 then
    some (.x0 false)
   else
    (G_ringref2_CacheSame n v_b16484 (S_pages_Cache.mk ([] : (List S_pages_Page)) v_b16489)).bind fun (v_r16688 : (Bool)) =>
    some (.x0 (!v_r16688))
  else
   some (.x0 true)
theorem G_ringlaw2_PagesTells_C5_ok {Fi : Ex → PS → Prop} (hF : KC 469 Fi) (ks : List Fr) (n : Nat) (v_file2 : Int) (v_n3 : Int) (v_k4 : Int) (v_b5 : Int) (v_more6 : Int) (v_e16490 : Int) (v_e16491 : Int) (v_e16492 : Int) (v_e16493 : Int) (v_e16494 : Int) (v_r16510 : (Int)) (v_z16636 : Int) (v_z16637 : Int) (v_b16482 : S_pages_Cache) (v_b16483 : (Fin 16 → Int)) (v_b16484 : S_pages_Cache) (v_b16485 : (Fin 16 → Int)) (v_b16486 : S_pages_Cache) (v_b16487 : S_pages_Cache) (v_b16488 : S_pages_Cache) (v_b16489 : Int)  (o : G_ringlaw2_PagesTells_C5_R) (h : G_ringlaw2_PagesTells_C5 n v_file2 v_n3 v_k4 v_b5 v_more6 v_e16490 v_e16491 v_e16492 v_e16493 v_e16494 v_r16510 v_z16636 v_z16637 v_b16482 v_b16483 v_b16484 v_b16485 v_b16486 v_b16487 v_b16488 v_b16489 = some o) (q : RunE Try.prog 469 Fi ks (G_ringlaw2_PagesTells_C5_ex o) (G_ringlaw2_PagesTells_C5_st v_file2 v_n3 v_k4 v_b5 v_more6 v_e16490 v_e16491 v_e16492 v_e16493 v_e16494 v_r16510 v_z16636 v_z16637 v_b16482 v_b16483 v_b16484 v_b16485 v_b16486 v_b16487 v_b16488 v_b16489 o)) : RunE Try.prog 469 Fi (.s (cL (cL (cR (cR (cR (cR (cR (cR (cR (cR (cR (cR (cR (cR (cR (cR (cR (bodyOf Try.f3)))))))))))))))))) :: ks) .normal (G_ringlaw2_PagesTells_C5_hd v_file2 v_n3 v_k4 v_b5 v_more6 v_e16490 v_e16491 v_e16492 v_e16493 v_e16494 v_r16510 v_z16636 v_z16637 v_b16482 v_b16483 v_b16484 v_b16485 v_b16486 v_b16487 v_b16488 v_b16489) := by
  unfold G_ringlaw2_PagesTells_C5 at h
  by_cases h3520 : v_e16490 = v_z16636
  · rw [if_pos h3520] at h
    by_cases h3521 : v_z16636 = 0
    · rw [if_pos h3521] at h
      cases h
      exact pkk_sound TTok mix hF 1 (hs := [.t false, .c, .c, .t false, .c, .c, .c, .c]) (ts := []) (s := [0, 1, 2, 3, 4, 5, 6, 7]) (l := [1, 2, 3, 4, 5, 7, 13, 15, 17, 18, 19, 20, 21, 22, 27, 28, 29, 37, 38, 39, 218]) (by kernel_rfl) (by kernel_rfl) (.cons (nf h3520) (.cons (nf h3521) .nil)) q
    · rw [if_neg h3521] at h
      obtain ⟨v_r16688, h3522, h⟩ := bind_some h
      cases h
      exact pkk_sound TTok mix hF 1 (hs := [.t false, .c, .c, .t true, .c, .c, .c, .c, .r (eB v_r16688), .c, .c]) (ts := []) (s := [0, 1, 2, 3, 4, 5, 6, 7]) (l := [1, 2, 3, 4, 5, 7, 13, 15, 17, 18, 19, 20, 21, 22, 27, 28, 29, 37, 38, 39, 218]) (by kernel_rfl) (by kernel_rfl) (.cons (nf h3520) (.cons (nt h3521) (.cons (G_ringref2_CacheSame_ok n v_b16484 (S_pages_Cache.mk ([] : (List S_pages_Page)) v_b16489) _ h3522) .nil))) q
  · rw [if_neg h3520] at h
    cases h
    exact pkk_sound TTok mix hF 1 (hs := [.t true, .c, .c, .c]) (ts := []) (s := [0, 1, 2, 3, 4, 5, 6, 7]) (l := [1, 2, 3, 4, 5, 7, 13, 15, 17, 18, 19, 20, 21, 22, 27, 28, 29, 37, 38, 39, 218]) (by kernel_rfl) (by kernel_rfl) (.cons (nt h3520) .nil) q
inductive G_ringlaw2_PagesTells_C6_R where
  | x0 (v_x16863 : Bool)
def G_ringlaw2_PagesTells_C6_ex : G_ringlaw2_PagesTells_C6_R → Ex
  | .x0 _ => .normal
def G_ringlaw2_PagesTells_C6_st (v_file2 : Int) (v_n3 : Int) (v_k4 : Int) (v_b5 : Int) (v_more6 : Int) (v_e16491 : Int) (v_e16492 : Int) (v_e16493 : Int) (v_e16494 : Int) (v_r16510 : (Int)) (v_z16637 : Int) (v_i16858 : Int) (v_b16482 : S_pages_Cache) (v_b16483 : (Fin 16 → Int)) (v_b16484 : S_pages_Cache) (v_b16485 : (Fin 16 → Int)) (v_b16486 : S_pages_Cache) (v_b16487 : S_pages_Cache) (v_b16488 : S_pages_Cache) (v_b16489 : Int) : G_ringlaw2_PagesTells_C6_R → PS
  | .x0 v_x16863 => ⟨[dd, .d (.v (.int .i64 v_file2)), .d (.v (.int .i64 v_n3)), .d (.v (.int .i64 v_k4)), .d (.v (.int .u8 v_b5)), .d (.v (.int .i64 v_more6)), dd, .ref 0 0, dd, dd, dd, dd, dd, .ref 1 0, dd, .ref 2 0, dd, .ref 3 0, .d (.v (.int .i64 v_e16491)), .ref 4 0, .d (.v (.int .i64 v_e16492)), .ref 5 0, .d (.v (.int .i64 v_e16493)), dd, dd, dd, dd, .ref 6 0, .d (.v (.int .i64 v_e16494)), .ref 7 0, dd, dd, dd, dd, dd, dd, dd, .d (.v (.int .i64 v_r16510)), dd, .d (.v (.int .i64 v_z16637)), .d (.v (.int .i64 v_i16858)), dd, dd, dd, dd, dd, dd, dd, dd, dd, dd, dd, dd, dd, dd, dd, dd, dd, dd, dd, dd, dd, dd, dd, dd, dd, dd, dd, dd, dd, dd, dd, dd, dd, dd, dd, dd, dd, dd, dd, dd, dd, dd, dd, dd, dd, dd, dd, dd, dd, dd, dd, dd, dd, dd, dd, dd, dd, dd, dd, dd, dd, dd, dd, dd, dd, dd, dd, dd, dd, dd, dd, dd, dd, dd, dd, dd, dd, dd, dd, dd, dd, dd, dd, dd, dd, dd, dd, dd, dd, dd, dd, dd, dd, dd, dd, dd, dd, dd, dd, dd, dd, dd, dd, dd, dd, dd, dd, dd, dd, dd, dd, dd, dd, dd, dd, dd, dd, dd, dd, dd, dd, dd, dd, dd, dd, dd, dd, dd, dd, dd, dd, dd, dd, dd, dd, dd, dd, dd, dd, dd, dd, dd, dd, dd, dd, dd, dd, dd, dd, dd, dd, dd, dd, dd, dd, dd, dd, dd, dd, dd, dd, dd, dd, dd, dd, dd, dd, dd, dd, dd, dd, dd, dd, dd, dd, dd, dd, dd, dd, dd, dd, dd, dd, dd, dd, dd, dd, dd, dd, dd, dd, dd, dd, dd, dd, dd, dd, dd, dd, dd, dd, dd, dd, dd, dd, dd, dd, dd, dd, dd, dd, dd, dd, dd, .d (.v (.bool v_x16863)), dd, dd, dd, dd, dd, dd, dd, dd, dd, dd, dd, dd, dd, dd, dd, dd, dd, dd, dd, dd, dd, dd, dd, dd, dd, dd, dd, dd, dd, dd, dd, dd, dd, dd, dd, dd, dd, dd, dd, dd, dd, dd, dd, dd, dd, dd, dd, dd, dd, dd, dd, dd, dd, dd, dd, dd, dd, dd, dd, dd, dd, dd, dd, dd, dd, dd, dd, dd, dd, dd, dd, dd, dd, dd, dd, dd, dd, dd, dd, dd, dd, dd, dd, dd, dd, dd, dd, dd, dd, dd, dd, dd, dd, dd, dd, dd, dd, dd, dd, dd, dd, dd, dd, dd, dd, dd, dd, dd, dd, dd, dd, dd, dd, dd, dd, dd, dd, dd, dd, dd, dd, dd, dd, dd, dd, dd, dd, dd, dd, dd, dd, dd, dd, dd, dd, dd, dd, dd, dd, dd, dd, dd, dd, dd, dd, dd, dd, dd, dd, dd, dd, dd, dd, dd, dd, dd, dd, dd, dd, dd, dd, dd, dd, dd, dd, dd, dd, dd, dd, dd, dd, dd, dd, dd, dd, dd, dd, dd, dd, dd, dd, dd, dd, dd, dd, dd, dd, dd, dd, dd, dd, dd, dd, dd, dd, dd, dd, dd, dd, dd, dd, dd, dd, dd, dd, dd, dd, dd, dd, dd, dd, dd, dd], [.box [.d (.sl (v_b16482.fPages.map eS_pages_Page)), .d (.v (.int .i64 v_b16482.fClock))], .box ((cA_t25 v_b16483).map FV.d), .box [.d (.sl (v_b16484.fPages.map eS_pages_Page)), .d (.v (.int .i64 v_b16484.fClock))], .box ((cA_t25 v_b16485).map FV.d), .box [.d (.sl (v_b16486.fPages.map eS_pages_Page)), .d (.v (.int .i64 v_b16486.fClock))], .box [.d (.sl (v_b16487.fPages.map eS_pages_Page)), .d (.v (.int .i64 v_b16487.fClock))], .box [.d (.sl (v_b16488.fPages.map eS_pages_Page)), .d (.v (.int .i64 v_b16488.fClock))], .box [.d (vnil), .d (.v (.int .i64 v_b16489))]]⟩
def G_ringlaw2_PagesTells_C6_hd (v_file2 : Int) (v_n3 : Int) (v_k4 : Int) (v_b5 : Int) (v_more6 : Int) (v_e16491 : Int) (v_e16492 : Int) (v_e16493 : Int) (v_e16494 : Int) (v_r16510 : (Int)) (v_z16637 : Int) (v_i16858 : Int) (v_b16482 : S_pages_Cache) (v_b16483 : (Fin 16 → Int)) (v_b16484 : S_pages_Cache) (v_b16485 : (Fin 16 → Int)) (v_b16486 : S_pages_Cache) (v_b16487 : S_pages_Cache) (v_b16488 : S_pages_Cache) (v_b16489 : Int)  : PS := ⟨[dd, .d (.v (.int .i64 v_file2)), .d (.v (.int .i64 v_n3)), .d (.v (.int .i64 v_k4)), .d (.v (.int .u8 v_b5)), .d (.v (.int .i64 v_more6)), dd, .ref 0 0, dd, dd, dd, dd, dd, .ref 1 0, dd, .ref 2 0, dd, .ref 3 0, .d (.v (.int .i64 v_e16491)), .ref 4 0, .d (.v (.int .i64 v_e16492)), .ref 5 0, .d (.v (.int .i64 v_e16493)), dd, dd, dd, dd, .ref 6 0, .d (.v (.int .i64 v_e16494)), .ref 7 0, dd, dd, dd, dd, dd, dd, dd, .d (.v (.int .i64 v_r16510)), dd, .d (.v (.int .i64 v_z16637)), .d (.v (.int .i64 v_i16858)), dd, dd, dd, dd, dd, dd, dd, dd, dd, dd, dd, dd, dd, dd, dd, dd, dd, dd, dd, dd, dd, dd, dd, dd, dd, dd, dd, dd, dd, dd, dd, dd, dd, dd, dd, dd, dd, dd, dd, dd, dd, dd, dd, dd, dd, dd, dd, dd, dd, dd, dd, dd, dd, dd, dd, dd, dd, dd, dd, dd, dd, dd, dd, dd, dd, dd, dd, dd, dd, dd, dd, dd, dd, dd, dd, dd, dd, dd, dd, dd, dd, dd, dd, dd, dd, dd, dd, dd, dd, dd, dd, dd, dd, dd, dd, dd, dd, dd, dd, dd, dd, dd, dd, dd, dd, dd, dd, dd, dd, dd, dd, dd, dd, dd, dd, dd, dd, dd, dd, dd, dd, dd, dd, dd, dd, dd, dd, dd, dd, dd, dd, dd, dd, dd, dd, dd, dd, dd, dd, dd, dd, dd, dd, dd, dd, dd, dd, dd, dd, dd, dd, dd, dd, dd, dd, dd, dd, dd, dd, dd, dd, dd, dd, dd, dd, dd, dd, dd, dd, dd, dd, dd, dd, dd, dd, dd, dd, dd, dd, dd, dd, dd, dd, dd, dd, dd, dd, dd, dd, dd, dd, dd, dd, dd, dd, dd, dd, dd, dd, dd, dd, dd, dd, dd, dd, dd, dd, dd, dd, dd, dd, dd, dd, dd, dd, dd, dd, dd, dd, dd, dd, dd, dd, dd, dd, dd, dd, dd, dd, dd, dd, dd, dd, dd, dd, dd, dd, dd, dd, dd, dd, dd, dd, dd, dd, dd, dd, dd, dd, dd, dd, dd, dd, dd, dd, dd, dd, dd, dd, dd, dd, dd, dd, dd, dd, dd, dd, dd, dd, dd, dd, dd, dd, dd, dd, dd, dd, dd, dd, dd, dd, dd, dd, dd, dd, dd, dd, dd, dd, dd, dd, dd, dd, dd, dd, dd, dd, dd, dd, dd, dd, dd, dd, dd, dd, dd, dd, dd, dd, dd, dd, dd, dd, dd, dd, dd, dd, dd, dd, dd, dd, dd, dd, dd, dd, dd, dd, dd, dd, dd, dd, dd, dd, dd, dd, dd, dd, dd, dd, dd, dd, dd, dd, dd, dd, dd, dd, dd, dd, dd, dd, dd, dd, dd, dd, dd, dd, dd, dd, dd, dd, dd, dd, dd, dd, dd, dd, dd, dd, dd, dd, dd, dd, dd, dd, dd, dd, dd, dd, dd, dd, dd, dd, dd, dd, dd, dd, dd, dd, dd, dd, dd, dd, dd, dd, dd, dd, dd, dd, dd, dd, dd, dd, dd, dd, dd, dd, dd, dd, dd, dd, dd, dd, dd, dd, dd, dd, dd, dd, dd, dd, dd, dd, dd, dd, dd, dd, dd], [.box [.d (.sl (v_b16482.fPages.map eS_pages_Page)), .d (.v (.int .i64 v_b16482.fClock))], .box ((cA_t25 v_b16483).map FV.d), .box [.d (.sl (v_b16484.fPages.map eS_pages_Page)), .d (.v (.int .i64 v_b16484.fClock))], .box ((cA_t25 v_b16485).map FV.d), .box [.d (.sl (v_b16486.fPages.map eS_pages_Page)), .d (.v (.int .i64 v_b16486.fClock))], .box [.d (.sl (v_b16487.fPages.map eS_pages_Page)), .d (.v (.int .i64 v_b16487.fClock))], .box [.d (.sl (v_b16488.fPages.map eS_pages_Page)), .d (.v (.int .i64 v_b16488.fClock))], .box [.d (vnil), .d (.v (.int .i64 v_b16489))]]⟩
def G_ringlaw2_PagesTells_C6 (n : Nat) (v_file2 : Int) (v_n3 : Int) (v_k4 : Int) (v_b5 : Int) (v_more6 : Int) (v_e16491 : Int) (v_e16492 : Int) (v_e16493 : Int) (v_e16494 : Int) (v_r16510 : (Int)) (v_z16637 : Int) (v_i16858 : Int) (v_b16482 : S_pages_Cache) (v_b16483 : (Fin 16 → Int)) (v_b16484 : S_pages_Cache) (v_b16485 : (Fin 16 → Int)) (v_b16486 : S_pages_Cache) (v_b16487 : S_pages_Cache) (v_b16488 : S_pages_Cache) (v_b16489 : Int) : Option G_ringlaw2_PagesTells_C6_R :=
  if v_i16858 < (v_b16482.fPages.length : Int) then
   (getI v_b16482.fPages v_i16858).bind fun (v_y16862 : S_pages_Page) =>
   if v_y16862.fFile < v_file2 then
    some (.x0 true)
   else
    (getI v_b16482.fPages v_i16858).bind fun (v_y16864 : S_pages_Page) =>
    if v_y16864.fFile = v_file2 then
     (getI v_b16482.fPages v_i16858).bind fun (v_y16865 : S_pages_Page) =>
     some (.x0 (decide (v_y16865.fN < v_n3)))
    else
     some (.x0 false)
  else
   some (.x0 false)

end Go.Proofs.Ythcdcpcffdongaa.pv
