/- What the functions compute, as functions over plain data, with their contracts: written by gen.py. -/
import Derived.Test.YtdimcmpkhbfcnaaProg
import Derived.Test.YtdimcmpkhbfcnaaQr
import Derived.Test.YtdimcmpkhbfcnaaTi
import Derived.Test.YtdimcmpkhbfcnaaTh
import Derived.Test.YtdimcmpkhbfcnaaSh
import Derived.Test.YtdimcmpkhbfcnaaSr
set_option maxRecDepth 100000
set_option linter.all false
namespace Go.Proofs.Ytdimcmpkhbfcnaa.pv
open Go.RowKit
def dds (n : Nat) (l : List FV) : List FV := List.replicate n dd ++ l
def TT : List TI := [
⟨1, 0, .oth, []⟩,
⟨1, 8, .oth, [.nf]⟩,
⟨1, 8, .int .i64, [.i .i64]⟩,
⟨1, 8, .int .i64, [.i .i64]⟩,
⟨1, 1, .bool, [.b]⟩,
⟨1, 1, .int .u8, [.i .u8]⟩,
⟨1, 1, .int .u8, [.i .u8]⟩,
⟨4, 24, .st [(0, 2), (1, 3), (2, 4), (3, 6)], [.i .i64, .i .i64, .b, .i .u8]⟩,
⟨4, 24, .st [(0, 2), (1, 3), (2, 4), (3, 6)], [.i .i64, .i .i64, .b, .i .u8]⟩,
⟨1, 16, .str, [.s]⟩,
⟨1, 16, .str, [.s]⟩,
⟨1, 16, .str, [.s]⟩,
⟨1, 8, .int .u64, [.i .u64]⟩,
⟨2, 24, .st [(0, 9), (1, 12)], [.s, .i .u64]⟩,
⟨2, 24, .st [(0, 9), (1, 12)], [.s, .i .u64]⟩,
⟨1, 8, .ptr 121, [.np]⟩,
⟨1, 8, .ptr 124, [.np]⟩,
⟨1, 8, .ptr 131, [.np]⟩,
⟨1, 8, .st [(0, 17)], [.np]⟩,
⟨1, 8, .st [(0, 17)], [.np]⟩,
⟨1, 16, .oth, [.ni]⟩,
⟨1, 4, .int .i32, [.i .i32]⟩,
⟨1, 24, .sl 26, [.sl]⟩,
⟨1, 8, .int .i64, [.i .i64]⟩,
⟨1, 24, .sl 5, [.sl]⟩,
⟨3, 40, .st [(0, 3), (1, 24), (2, 4)], [.i .i64, .sl, .b]⟩,
⟨3, 40, .st [(0, 3), (1, 24), (2, 4)], [.i .i64, .sl, .b]⟩,
⟨1, 8, .oth, [.nf]⟩,
⟨1, 0, .oth, []⟩,
⟨1, 8, .oth, [.nf]⟩,
⟨1, 0, .oth, []⟩,
⟨1, 8, .oth, [.nf]⟩,
⟨1, 8, .oth, [.nf]⟩,
⟨1, 24, .sl 35, [.sl]⟩,
⟨2, 24, .st [(0, 3), (1, 9)], [.i .i64, .s]⟩,
⟨2, 24, .st [(0, 3), (1, 9)], [.i .i64, .s]⟩,
⟨1, 8, .oth, [.nf]⟩,
⟨1, 8, .oth, [.nf]⟩,
⟨1, 8, .oth, [.nf]⟩,
⟨1, 8, .oth, [.nf]⟩,
⟨1, 24, .sl 4, [.sl]⟩,
⟨1, 8, .int .u64, [.i .u64]⟩,
⟨1, 8, .ptr 65, [.np]⟩,
⟨1, 0, .oth, []⟩,
⟨1, 8, .oth, [.nf]⟩,
⟨1, 8, .ptr 54, [.np]⟩,
⟨1, 8, .oth, [.nf]⟩,
⟨1, 8, .oth, [.nf]⟩,
⟨1, 8, .oth, [.nf]⟩,
⟨1, 8, .oth, [.nf]⟩,
⟨1, 8, .oth, [.nf]⟩,
⟨1, 8, .oth, [.nf]⟩,
⟨1, 24, .sl 68, [.sl]⟩,
⟨4, 48, .st [(0, 3), (1, 3), (2, 3), (3, 52)], [.i .i64, .i .i64, .i .i64, .sl]⟩,
⟨4, 48, .st [(0, 3), (1, 3), (2, 3), (3, 52)], [.i .i64, .i .i64, .i .i64, .sl]⟩,
⟨1, 8, .oth, [.nf]⟩,
⟨1, 8, .oth, [.nf]⟩,
⟨1, 8, .oth, [.nf]⟩,
⟨1, 8, .oth, [.nf]⟩,
⟨1, 8, .oth, [.nf]⟩,
⟨1, 0, .oth, []⟩,
⟨1, 8, .oth, [.nf]⟩,
⟨1, 8, .oth, [.nf]⟩,
⟨1, 24, .sl 70, [.sl]⟩,
⟨4, 80, .st [(0, 24), (1, 24), (2, 63), (3, 3)], [.sl, .sl, .sl, .i .i64]⟩,
⟨4, 80, .st [(0, 24), (1, 24), (2, 63), (3, 3)], [.sl, .sl, .sl, .i .i64]⟩,
⟨1, 8, .oth, [.nf]⟩,
⟨1, 8, .oth, [.nf]⟩,
⟨2, 24, .st [(0, 3), (1, 9)], [.i .i64, .s]⟩,
⟨2, 32, .st [(0, 3), (1, 24)], [.i .i64, .sl]⟩,
⟨2, 32, .st [(0, 3), (1, 24)], [.i .i64, .sl]⟩,
⟨1, 8, .oth, [.nf]⟩,
⟨1, 8, .oth, [.nf]⟩,
⟨1, 8, .oth, [.nm]⟩,
⟨1, 8, .oth, [.nf]⟩,
⟨1, 8, .oth, [.nf]⟩,
⟨1, 8, .oth, [.nf]⟩,
⟨1, 8, .oth, [.nf]⟩,
⟨1, 8, .oth, [.nf]⟩,
⟨1, 8, .oth, [.nf]⟩,
⟨1, 8, .oth, [.nf]⟩,
⟨1, 8, .int .i64, [.i .i64]⟩,
⟨1, 0, .oth, []⟩,
⟨1, 8, .oth, [.nf]⟩,
⟨1, 8, .oth, [.nf]⟩,
⟨1, 8, .oth, [.nf]⟩,
⟨1, 0, .oth, []⟩,
⟨1, 8, .oth, [.nf]⟩,
⟨1, 8, .oth, [.nf]⟩,
⟨1, 4, .int .u32, [.i .u32]⟩,
⟨1, 8, .oth, [.nf]⟩,
⟨1, 8, .int .u64, [.i .u64]⟩,
⟨1, 0, .oth, []⟩,
⟨1, 8, .oth, [.nf]⟩,
⟨1, 8, .oth, [.nf]⟩,
⟨1, 8, .ptr 97, [.np]⟩,
⟨2, 32, .st [(0, 95), (1, 24)], [.np, .sl]⟩,
⟨2, 32, .st [(0, 95), (1, 24)], [.np, .sl]⟩,
⟨1, 8, .oth, [.nf]⟩,
⟨1, 16, .oth, [.ni]⟩,
⟨1, 16, .oth, [.ni]⟩,
⟨1, 0, .oth, []⟩,
⟨1, 8, .oth, [.nf]⟩,
⟨1, 8, .int .u64, [.i .u64]⟩,
⟨1, 8, .oth, [.nf]⟩,
⟨1, 8, .oth, [.nf]⟩,
⟨1, 8, .oth, [.nf]⟩,
⟨1, 8, .ptr 3, [.np]⟩,
⟨1, 8, .oth, [.nf]⟩,
⟨1, 0, .oth, []⟩,
⟨1, 8, .oth, [.nf]⟩,
⟨1, 0, .oth, []⟩,
⟨1, 8, .oth, [.nf]⟩,
⟨1, 8, .ptr 5, [.np]⟩,
⟨1, 8, .ptr 103, [.np]⟩,
⟨1, 0, .oth, []⟩,
⟨1, 8, .oth, [.nf]⟩,
⟨1, 8, .oth, [.np]⟩,
⟨1, 8, .oth, [.nf]⟩,
⟨1, 8, .oth, [.nf]⟩,
⟨4, 40, .st [(0, 17), (1, 17), (2, 17), (3, 9)], [.np, .np, .np, .s]⟩,
⟨4, 40, .st [(0, 17), (1, 17), (2, 17), (3, 9)], [.np, .np, .np, .s]⟩,
⟨0, 0, .arr 0 16, []⟩,
⟨0, 0, .st [(0, 122)], []⟩,
⟨0, 0, .st [(0, 122)], []⟩,
⟨1, 1, .int .u8, [.i .u8]⟩,
⟨1, 1, .int .u8, [.i .u8]⟩,
⟨1, 8, .oth, [.nf]⟩,
⟨1, 4, .int .i32, [.i .i32]⟩,
⟨1, 4, .int .i32, [.i .i32]⟩,
⟨11, 48, .st [(0, 12), (1, 12), (2, 89), (3, 125), (4, 5), (5, 5), (6, 126), (7, 127), (8, 113), (9, 128), (10, 129)], [.i .u64, .i .u64, .i .u32, .i .u8, .i .u8, .i .u8, .i .u8, .nf, .np, .i .i32, .i .i32]⟩,
⟨11, 48, .st [(0, 12), (1, 12), (2, 89), (3, 125), (4, 5), (5, 5), (6, 126), (7, 127), (8, 113), (9, 128), (10, 129)], [.i .u64, .i .u64, .i .u32, .i .u8, .i .u8, .i .u8, .i .u8, .nf, .np, .i .i32, .i .i32]⟩]
theorem TTok : TOk Try.prog TT := by unfold TOk; kernel_rfl
theorem mix : Try.prog.follows .mixedOrders = true := by kernel_rfl
structure S_lift_Req where
  fSector : Int
  fData : (List Int)
  fBarrier : Bool
def eS_lift_Req (x : S_lift_Req) : PV := .agg [.v (.int .i64 x.fSector), .sl (x.fData.map (eI .u8)), .v (.bool x.fBarrier)]
structure S_ringref3_Req where
  fN : Int
  fData : ByteArray
def eS_ringref3_Req (x : S_ringref3_Req) : PV := .agg [.v (.int .i64 x.fN), .v (.string x.fData)]

def eqS_ringref3_Req (x y : S_ringref3_Req) : Bool := ((x.fN == y.fN) && ((x.fData == y.fData) && true))
theorem eqS_ringref3_Req_ok (x y : S_ringref3_Req) : EqA Try.prog 35 [((.int .i64 x.fN)), ((.string x.fData))] [((.int .i64 y.fN)), ((.string y.fData))] (eqS_ringref3_Req x y) := eqA_of TTok (by kernel_rfl) (by kernel_rfl) (by kernel_rfl)
inductive G_lift_Right_C1_R where
  | x0 (v_x60 : Bool)
def G_lift_Right_C1_ex : G_lift_Right_C1_R → Ex
  | .x0 _ => .normal
def G_lift_Right_C1_st (v_l44 : (List S_lift_Req)) (v_x48 : Int) (v_y58 : S_lift_Req) : G_lift_Right_C1_R → PS
  | .x0 v_x60 => ⟨(dds 8 (.d (.sl (v_l44.map eS_lift_Req)) :: .d (.v (.int .i64 (v_l44.length : Int))) :: .d (.v (.int .i64 v_x48)) :: (dds 21 [.d (.v (.bool v_x60)), dd]))), []⟩
def G_lift_Right_C1_hd (v_l44 : (List S_lift_Req)) (v_x48 : Int) (v_y58 : S_lift_Req)  : PS := ⟨(dd :: dd :: dd :: dd :: .ref 0 0 :: dd :: dd :: dd :: .d (.sl (v_l44.map eS_lift_Req)) :: .d (.v (.int .i64 (v_l44.length : Int))) :: .d (.v (.int .i64 v_x48)) :: (dds 23 [])), [.box [.d (.v (.int .i64 v_y58.fSector)), .d (.sl (v_y58.fData.map (eI .u8))), .d (.v (.bool v_y58.fBarrier))]]⟩
def G_lift_Right_C1 (n : Nat) (v_l44 : (List S_lift_Req)) (v_x48 : Int) (v_y58 : S_lift_Req) : Option G_lift_Right_C1_R :=
  if v_y58.fBarrier = true then
   some (.x0 false)
  else
   if v_y58.fSector < 0 then
    some (.x0 true)
   else
    if v_y58.fSector ≥ 256 then
     some (.x0 true)
    else
     some (.x0 ((v_y58.fData.length : Int) != 64))
theorem G_lift_Right_C1_ok {Fi : Ex → PS → Prop} (hF : KC 34 Fi) (ks : List Fr) (n : Nat) (v_l44 : (List S_lift_Req)) (v_x48 : Int) (v_y58 : S_lift_Req)  (o : G_lift_Right_C1_R) (h : G_lift_Right_C1 n v_l44 v_x48 v_y58 = some o) (q : RunE Try.prog 34 Fi ks (G_lift_Right_C1_ex o) (G_lift_Right_C1_st v_l44 v_x48 v_y58 o)) : RunE Try.prog 34 Fi (.s (cL (cR (cB (cL (cR (cR (cP (cB (cR (cL (cR (cR (bodyOf Try.f5))))))))))))) :: ks) .normal (G_lift_Right_C1_hd v_l44 v_x48 v_y58) := by
  unfold G_lift_Right_C1 at h
  by_cases h44 : v_y58.fBarrier = true
  · rw [if_pos h44] at h
    cases h
    exact pkk_sound TTok mix hF 1 (hs := [.c, .t false, .c, .c, .c, .c, .c, .c]) (ts := []) (s := []) (l := [8, 9, 10, 32]) (by kernel_rfl) (by kernel_rfl) (.cons (bnf h44) .nil) q
  · rw [if_neg h44] at h
    by_cases h45 : v_y58.fSector < 0
    · rw [if_pos h45] at h
      cases h
      exact pkk_sound TTok mix hF 1 (hs := [.c, .t true, .c, .c, .c, .c, .t true, .c, .c, .c, .c, .c, .c, .c, .c, .c]) (ts := []) (s := []) (l := [8, 9, 10, 32]) (by kernel_rfl) (by kernel_rfl) (.cons (bnt (vf h44)) (.cons (dt h45) .nil)) q
    · rw [if_neg h45] at h
      by_cases h46 : v_y58.fSector ≥ 256
      · rw [if_pos h46] at h
        cases h
        exact pkk_sound TTok mix hF 1 (hs := [.c, .t true, .c, .c, .c, .c, .t false, .c, .c, .c, .c, .c, .t true, .c, .c, .c, .c]) (ts := []) (s := []) (l := [8, 9, 10, 32]) (by kernel_rfl) (by kernel_rfl) (.cons (bnt (vf h44)) (.cons (df h45) (.cons (dt h46) .nil))) q
      · rw [if_neg h46] at h
        cases h
        exact pkk_sound TTok mix hF 1 (hs := [.c, .t true, .c, .c, .c, .c, .t false, .c, .c, .c, .c, .c, .t false, .c, .c, .c, .u (.d (.v (.int .i64 (v_y58.fData.length : Int)))), .c, .c]) (ts := []) (s := []) (l := [8, 9, 10, 32]) (by kernel_rfl) (by kernel_rfl) (.cons (bnt (vf h44)) (.cons (df h45) (.cons (df h46) (.cons (len_ob (f := (eI .u8)) (l := v_y58.fData)) .nil)))) q
inductive G_lift_Right_L2_R where
  | x0 (v_x66 : Int)
  | x1 
def G_lift_Right_L2_ex : G_lift_Right_L2_R → Ex
  | .x0 _ => .ret
  | .x1  => .exit 0
def G_lift_Right_L2_st (v_l44 : (List S_lift_Req)) : G_lift_Right_L2_R → PS
  | .x0 v_x66 => ⟨(dd :: dd :: .d (.v (.int .i64 v_x66)) :: (dds 31 [])), []⟩
  | .x1  => ⟨(dds 34 []), []⟩
def G_lift_Right_L2_hd (v_l44 : (List S_lift_Req)) (v_x48 : Int) : PS := ⟨(dds 8 (.d (.sl (v_l44.map eS_lift_Req)) :: .d (.v (.int .i64 (v_l44.length : Int))) :: .d (.v (.int .i64 v_x48)) :: (dds 23 []))), []⟩
def G_lift_Right_L2 (n : Nat) (v_l44 : (List S_lift_Req)) : Nat → Int → Option G_lift_Right_L2_R
  | 0, _ => none
  | k + 1, v_x48 =>
    if v_x48 < (v_l44.length : Int) then
     (getI v_l44 v_x48).bind fun (v_y58 : S_lift_Req) =>
     (G_lift_Right_C1 n v_l44 v_x48 v_y58).bind fun v_o64 => match v_o64 with
     | .x0 v_z65 =>
       if v_z65 = true then
        some (.x0 1)
       else
        G_lift_Right_L2 n v_l44 k (wi .i64 (v_x48 + 1))
    else
     some (.x1 )
theorem G_lift_Right_L2_ok {Fi : Ex → PS → Prop} (hF : KC 34 Fi) (ks : List Fr) (n : Nat) (v_l44 : (List S_lift_Req))  : ∀ (k : Nat) (v_x48 : Int) (o : G_lift_Right_L2_R), G_lift_Right_L2 n v_l44 k v_x48 = some o → RunE Try.prog 34 Fi ks (G_lift_Right_L2_ex o) (G_lift_Right_L2_st v_l44 o) → RunE Try.prog 34 Fi (.l k (cP (cB (cR (cL (cR (cR (bodyOf Try.f5))))))) :: ks) .normal (G_lift_Right_L2_hd v_l44 v_x48)
  | 0, v_x48, o, h, q => by rw [G_lift_Right_L2] at h; cases h
  | k + 1, v_x48, o, h, q => by
    rw [G_lift_Right_L2] at h
    by_cases h30 : v_x48 < (v_l44.length : Int)
    · rw [if_pos h30] at h
      obtain ⟨v_y58, h40, h⟩ := bind_some h
      obtain ⟨v_o64, h47, h⟩ := bind_some h
      refine pkk_sound TTok mix hF 11 (hs := [.t true, .y (eS_lift_Req v_y58), .c]) (ts := []) (s := [15]) (l := [4, 8, 9, 10]) (by kernel_rfl) (by kernel_rfl) (.cons (dt h30) (.cons (getI_ob (f := eS_lift_Req) h40) (.cons (show 0 + 3 ≤ 3 by decide) .nil))) (G_lift_Right_C1_ok hF (.s (cR (cR (cB (cL (cR (cR (cP (cB (cR (cL (cR (cR (bodyOf Try.f5))))))))))))) :: .b 1 :: .s (cR (cR (cR (cP (cB (cR (cL (cR (cR (bodyOf Try.f5)))))))))) :: .l k (cP (cB (cR (cL (cR (cR (bodyOf Try.f5))))))) :: ks) n v_l44 v_x48 v_y58 _ h47 ?_)
      cases v_o64 with
      | x0 v_z65 =>
        try dsimp only at h
        by_cases h48 : v_z65 = true
        · rw [if_pos h48] at h
          cases h
          exact pkk_sound TTok mix hF 7 (hs := [.t true]) (ts := []) (s := []) (l := [2]) (by kernel_rfl) (by kernel_rfl) (.cons h48 .nil) q
        · rw [if_neg h48] at h
          exact pkk_sound TTok mix hF 4 (hs := [.t false]) (ts := []) (s := []) (l := [8, 9, 10]) (by kernel_rfl) (by kernel_rfl) (.cons (vf h48) .nil) (G_lift_Right_L2_ok hF ks n v_l44 k (wi .i64 (v_x48 + 1)) _ h q)
    · rw [if_neg h30] at h
      cases h
      exact pkk_sound TTok mix hF 8 (hs := [.t false]) (ts := []) (s := []) (l := []) (by kernel_rfl) (by kernel_rfl) (.cons (df h30) .nil) q
/- ringhall/lift.Right -/
def G_lift_Right (n : Nat) (v_l44 : (List S_lift_Req)) : Option (Int) :=
  if (v_l44.length : Int) > 100 then
   some 2
  else
   (G_lift_Right_L2 n v_l44 n 0).bind fun v_o67 => match v_o67 with
   | .x0 v_z68 =>
     some v_z68
   | .x1  =>
     some 0
theorem G_lift_Right_ok (n : Nat) (v_l44 : (List S_lift_Req)) (r : Int) (h : G_lift_Right n v_l44 = some r) : Ret Try.prog 5 [(eL eS_lift_Req) v_l44] ((eI .i64) r) := by
  refine ret_run (n := 34) (fn := Try.f5) (c := bodyOf Try.f5) (by kernel_rfl) (by kernel_rfl) (by kernel_rfl) (by kernel_rfl) ?_
  have hF : KC 34 (FinR Try.prog Try.f5 ((eI .i64) r)) := FinR.kc' (by kernel_rfl)
  unfold G_lift_Right at h
  by_cases h29 : (v_l44.length : Int) > 100
  · rw [if_pos h29] at h
    obtain rfl := Option.some.inj h
    exact pend_sound TTok mix 10 (hs := [.u (.d (.v (.int .i64 (v_l44.length : Int)))), .t true]) (by kernel_rfl) (by kernel_rfl) (by kernel_rfl) (.cons (len_ob (f := eS_lift_Req) (l := v_l44)) (.cons (dt h29) .nil))
  · rw [if_neg h29] at h
    obtain ⟨v_o67, h49, h⟩ := bind_some h
    refine pkk_sound TTok mix hF 12 (hs := [.u (.d (.v (.int .i64 (v_l44.length : Int)))), .t false, .u (.d (.v (.int .i64 (v_l44.length : Int)))), .n n]) (ts := []) (s := []) (l := [8, 9, 10]) (by kernel_rfl) (by kernel_rfl) (.cons (len_ob (f := eS_lift_Req) (l := v_l44)) (.cons (df h29) (.cons (len_ob (f := eS_lift_Req) (l := v_l44)) .nil))) (G_lift_Right_L2_ok hF (.b 0 :: .s (cR (cR (cR (bodyOf Try.f5)))) :: []) n v_l44 n 0 _ h49 ?_)
    cases v_o67 with
    | x0 v_z68 =>
      try dsimp only at h
      obtain rfl := Option.some.inj h
      exact pend_sound TTok mix 2 (hs := []) (by kernel_rfl) (by kernel_rfl) (by kernel_rfl) .nil
    | x1  =>
      try dsimp only at h
      obtain rfl := Option.some.inj h
      exact pend_sound TTok mix 4 (hs := []) (by kernel_rfl) (by kernel_rfl) (by kernel_rfl) .nil
inductive G_slices_IndexFunc_lift_Req_lift_Req_L1_R where
  | x0 (v_x108 : Int)
  | x1 
def G_slices_IndexFunc_lift_Req_lift_Req_L1_ex : G_slices_IndexFunc_lift_Req_lift_Req_L1_R → Ex
  | .x0 _ => .ret
  | .x1  => .exit 0
def G_slices_IndexFunc_lift_Req_lift_Req_L1_st (v_s98 : (List S_lift_Req)) (v_f99 : (S_lift_Req → Option (Bool))) (v_f99_g : FuncId) (v_f99_c : (List PV)) : G_slices_IndexFunc_lift_Req_lift_Req_L1_R → PS
  | .x0 v_x108 => ⟨(dd :: dd :: dd :: dd :: .d (.v (.int .i64 v_x108)) :: (dds 14 [])), []⟩
  | .x1  => ⟨(dds 19 []), []⟩
def G_slices_IndexFunc_lift_Req_lift_Req_L1_hd (v_s98 : (List S_lift_Req)) (v_f99 : (S_lift_Req → Option (Bool))) (v_f99_g : FuncId) (v_f99_c : (List PV)) (v_x102 : Int) : PS := ⟨(.d (.sl (v_s98.map eS_lift_Req)) :: .d (.clo v_f99_g v_f99_c) :: dd :: dd :: dd :: dd :: dd :: .d (.v (.int .i64 (v_s98.length : Int))) :: .d (.v (.int .i64 v_x102)) :: (dds 10 [])), []⟩
def G_slices_IndexFunc_lift_Req_lift_Req_L1 (n : Nat) (v_s98 : (List S_lift_Req)) (v_f99 : (S_lift_Req → Option (Bool))) : Nat → Int → Option G_slices_IndexFunc_lift_Req_lift_Req_L1_R
  | 0, _ => none
  | k + 1, v_x102 =>
    if v_x102 < (v_s98.length : Int) then
     (getI v_s98 v_x102).bind fun (v_y106 : S_lift_Req) =>
     (v_f99 v_y106).bind fun (v_r107 : (Bool)) =>
     if v_r107 = true then
      some (.x0 v_x102)
     else
      G_slices_IndexFunc_lift_Req_lift_Req_L1 n v_s98 v_f99 k (wi .i64 (v_x102 + 1))
    else
     some (.x1 )
theorem G_slices_IndexFunc_lift_Req_lift_Req_L1_ok {Fi : Ex → PS → Prop} (hF : KC 19 Fi) (ks : List Fr) (n : Nat) (v_s98 : (List S_lift_Req)) (v_f99 : (S_lift_Req → Option (Bool))) (v_f99_g : FuncId) (v_f99_c : (List PV)) (v_f99_h : ∀ (x0 : S_lift_Req) (r : Bool), v_f99 x0 = some r → Ret Try.prog v_f99_g ([eS_lift_Req x0] ++ v_f99_c) (eB r)) : ∀ (k : Nat) (v_x102 : Int) (o : G_slices_IndexFunc_lift_Req_lift_Req_L1_R), G_slices_IndexFunc_lift_Req_lift_Req_L1 n v_s98 v_f99 k v_x102 = some o → RunE Try.prog 19 Fi ks (G_slices_IndexFunc_lift_Req_lift_Req_L1_ex o) (G_slices_IndexFunc_lift_Req_lift_Req_L1_st v_s98 v_f99 v_f99_g v_f99_c o) → RunE Try.prog 19 Fi (.l k (cP (cB (cR (cL (cR (bodyOf Try.f24)))))) :: ks) .normal (G_slices_IndexFunc_lift_Req_lift_Req_L1_hd v_s98 v_f99 v_f99_g v_f99_c v_x102)
  | 0, v_x102, o, h, q => by rw [G_slices_IndexFunc_lift_Req_lift_Req_L1] at h; cases h
  | k + 1, v_x102, o, h, q => by
    rw [G_slices_IndexFunc_lift_Req_lift_Req_L1] at h
    by_cases h59 : v_x102 < (v_s98.length : Int)
    · rw [if_pos h59] at h
      obtain ⟨v_y106, h63, h⟩ := bind_some h
      obtain ⟨v_r107, h64, h⟩ := bind_some h
      by_cases h65 : v_r107 = true
      · rw [if_pos h65] at h
        cases h
        exact pkk_sound TTok mix hF 19 (hs := [.t true, .y (eS_lift_Req v_y106), .r (eB v_r107), .t true]) (ts := []) (s := []) (l := [4]) (by kernel_rfl) (by kernel_rfl) (.cons (dt h59) (.cons (getI_ob (f := eS_lift_Req) h63) (.cons (v_f99_h v_y106 _ h64) (.cons h65 .nil)))) q
      · rw [if_neg h65] at h
        exact pkk_sound TTok mix hF 16 (hs := [.t true, .y (eS_lift_Req v_y106), .r (eB v_r107), .t false]) (ts := []) (s := []) (l := [0, 1, 7, 8]) (by kernel_rfl) (by kernel_rfl) (.cons (dt h59) (.cons (getI_ob (f := eS_lift_Req) h63) (.cons (v_f99_h v_y106 _ h64) (.cons (vf h65) .nil)))) (G_slices_IndexFunc_lift_Req_lift_Req_L1_ok hF ks n v_s98 v_f99 v_f99_g v_f99_c v_f99_h k (wi .i64 (v_x102 + 1)) _ h q)
    · rw [if_neg h59] at h
      cases h
      exact pkk_sound TTok mix hF 8 (hs := [.t false]) (ts := []) (s := []) (l := []) (by kernel_rfl) (by kernel_rfl) (.cons (df h59) .nil) q
/- slices.IndexFunc[[]ringhall/lift.Req,ringhall/lift.Req] -/
def G_slices_IndexFunc_lift_Req_lift_Req (n : Nat) (v_s98 : (List S_lift_Req)) (v_f99 : (S_lift_Req → Option (Bool))) : Option (Int) :=
  (G_slices_IndexFunc_lift_Req_lift_Req_L1 n v_s98 v_f99 n 0).bind fun v_o109 => match v_o109 with
  | .x0 v_z110 =>
    some v_z110
  | .x1  =>
    some (-1)
theorem G_slices_IndexFunc_lift_Req_lift_Req_ok (n : Nat) (v_s98 : (List S_lift_Req)) (v_f99 : (S_lift_Req → Option (Bool))) (v_f99_g : FuncId) (v_f99_c : List PV) (v_f99_h : ∀ (x0 : S_lift_Req) (r : Bool), v_f99 x0 = some r → Ret Try.prog v_f99_g ([eS_lift_Req x0] ++ v_f99_c) (eB r)) (r : Int) (h : G_slices_IndexFunc_lift_Req_lift_Req n v_s98 v_f99 = some r) : Ret Try.prog 24 [(eL eS_lift_Req) v_s98, (.clo v_f99_g v_f99_c)] ((eI .i64) r) := by
  refine ret_run (n := 19) (fn := Try.f24) (c := bodyOf Try.f24) (by kernel_rfl) (by kernel_rfl) (by kernel_rfl) (by kernel_rfl) ?_
  have hF : KC 19 (FinR Try.prog Try.f24 ((eI .i64) r)) := FinR.kc' (by kernel_rfl)
  unfold G_slices_IndexFunc_lift_Req_lift_Req at h
  obtain ⟨v_o109, h66, h⟩ := bind_some h
  refine pkk_sound TTok mix hF 7 (hs := [.u (.d (.v (.int .i64 (v_s98.length : Int)))), .n n]) (ts := []) (s := []) (l := [0, 1, 7, 8]) (by kernel_rfl) (by kernel_rfl) (.cons (len_ob (f := eS_lift_Req) (l := v_s98)) .nil) (G_slices_IndexFunc_lift_Req_lift_Req_L1_ok hF (.b 0 :: .s (cR (cR (bodyOf Try.f24))) :: []) n v_s98 v_f99 v_f99_g v_f99_c v_f99_h n 0 _ h66 ?_)
  cases v_o109 with
  | x0 v_z110 =>
    try dsimp only at h
    obtain rfl := Option.some.inj h
    exact pend_sound TTok mix 2 (hs := []) (by kernel_rfl) (by kernel_rfl) (by kernel_rfl) .nil
  | x1  =>
    try dsimp only at h
    obtain rfl := Option.some.inj h
    exact pend_sound TTok mix 4 (hs := []) (by kernel_rfl) (by kernel_rfl) (by kernel_rfl) .nil
/- ringhall/lift.Order$1 -/
def G_lift_Order_1 (n : Nat) (v_r111 : S_lift_Req) : Option (Bool) :=
  some v_r111.fBarrier
theorem G_lift_Order_1_ok (n : Nat) (v_r111 : S_lift_Req) (r : Bool) (h : G_lift_Order_1 n v_r111 = some r) : Ret Try.prog 25 [eS_lift_Req v_r111] (eB r) := by
  refine ret_run (n := 5) (fn := Try.f25) (c := bodyOf Try.f25) (by kernel_rfl) (by kernel_rfl) (by kernel_rfl) (by kernel_rfl) ?_
  have hF : KC 5 (FinR Try.prog Try.f25 (eB r)) := FinR.kc' (by kernel_rfl)
  unfold G_lift_Order_1 at h
  obtain rfl := Option.some.inj h
  exact pend_sound TTok mix 5 (hs := [.c]) (by kernel_rfl) (by kernel_rfl) (by kernel_rfl) .nil
/- slices.Clone[[]byte,byte] -/
def G_slices_Clone_byte_byte_A (n : Nat) (v_c167 : Nat) : Option ((List Int)) :=
  some ([] : List Int)
theorem G_slices_Clone_byte_byte_A_ok (n : Nat) (v_c167 : Nat) (r : (List Int)) (h : G_slices_Clone_byte_byte_A n v_c167 = some r) : RetH Try.prog 33 [.d (.v (.slice none 0 v_c167))] [] (.srf 0) [.row 5 1 (r.map (eI .u8))] := by
  refine retH_run (n := 8) (fn := Try.f33) (c := bodyOf Try.f33) (by kernel_rfl) (by kernel_rfl) (by kernel_rfl) (by kernel_rfl) ?_
  have hF : KC 8 (FinH Try.prog Try.f33 [] (.srf 0) [.row 5 1 (r.map (eI .u8))]) := FinH.kc' (by kernel_rfl)
  unfold G_slices_Clone_byte_byte_A at h
  obtain rfl := Option.some.inj h
  exact pendH_sound TTok mix 11 (hs := [.c, .dl 4, .th 2 5 1]) [20] (by kernel_rfl) (by kernel_rfl) (by kernel_rfl) .nil
/- slices.Clone[[]byte,byte] -/
def G_slices_Clone_byte_byte_B (n : Nat) (v_a168 : Addr) (v_c169 : Nat) : Option ((List Int)) :=
  (app 1 ([] : List Int) ([] : (List Int))).bind fun (v_a170 : (List Int)) =>
  some v_a170
theorem G_slices_Clone_byte_byte_B_ok (n : Nat) (v_a168 : Addr) (v_c169 : Nat) (r : (List Int)) (h : G_slices_Clone_byte_byte_B n v_a168 v_c169 = some r) : RetH Try.prog 33 [.d (.v (.slice (some v_a168) 0 v_c169))] [] (.srf 0) [.row 5 1 (r.map (eI .u8))] := by
  refine retH_run (n := 8) (fn := Try.f33) (c := bodyOf Try.f33) (by kernel_rfl) (by kernel_rfl) (by kernel_rfl) (by kernel_rfl) ?_
  have hF : KC 8 (FinH Try.prog Try.f33 [] (.srf 0) [.row 5 1 (r.map (eI .u8))]) := FinH.kc' (by kernel_rfl)
  unfold G_slices_Clone_byte_byte_B at h
  obtain ⟨v_a170, h76, h⟩ := bind_some h
  obtain rfl := Option.some.inj h
  exact pendH_sound TTok mix 10 (hs := [.c, .w (([] : List Int).map (eI .u8)), .w (v_a170.map (eI .u8))]) [25] (by kernel_rfl) (by kernel_rfl) (by kernel_rfl) (.cons (Eq.refl (([] : List Int).map (eI .u8))) (.cons (app_ob (f := (eI .u8)) (s := 1) h76 (fun _ => rfl)).1 (.cons (app_ob (f := (eI .u8)) (s := 1) h76 (fun _ => rfl)).2.1 (.cons (app_ob (f := (eI .u8)) (s := 1) h76 (fun _ => rfl)).2.2.1 (.cons (app_ob (f := (eI .u8)) (s := 1) h76 (fun _ => rfl)).2.2.2 .nil)))))
/- slices.Clone[[]byte,byte] -/
def G_slices_Clone_byte_byte_C (n : Nat) (v_y171 : Int) (v_ys172 : (List Int)) : Option ((List Int)) :=
  (app 1 ([] : List Int) (v_y171 :: v_ys172)).bind fun (v_a173 : (List Int)) =>
  some v_a173
theorem G_slices_Clone_byte_byte_C_ok (n : Nat) (v_y171 : Int) (v_ys172 : (List Int)) (r : (List Int)) (h : G_slices_Clone_byte_byte_C n v_y171 v_ys172 = some r) : RetH Try.prog 33 [.d (.sl ((eI .u8) v_y171 :: v_ys172.map (eI .u8)))] [] (.srf 0) [.row 5 1 (r.map (eI .u8))] := by
  refine retH_run (n := 8) (fn := Try.f33) (c := bodyOf Try.f33) (by kernel_rfl) (by kernel_rfl) (by kernel_rfl) (by kernel_rfl) ?_
  have hF : KC 8 (FinH Try.prog Try.f33 [] (.srf 0) [.row 5 1 (r.map (eI .u8))]) := FinH.kc' (by kernel_rfl)
  unfold G_slices_Clone_byte_byte_C at h
  obtain ⟨v_a173, h77, h⟩ := bind_some h
  obtain rfl := Option.some.inj h
  exact pendH_sound TTok mix 10 (hs := [.c, .w (([] : List Int).map (eI .u8)), .w (v_a173.map (eI .u8))]) [25] (by kernel_rfl) (by kernel_rfl) (by kernel_rfl) (.cons (Eq.refl (([] : List Int).map (eI .u8))) (.cons (app_ob (f := (eI .u8)) (s := 1) h77 (fun _ => rfl)).1 (.cons (app_ob (f := (eI .u8)) (s := 1) h77 (fun _ => rfl)).2.1 (.cons (app_ob (f := (eI .u8)) (s := 1) h77 (fun _ => rfl)).2.2.1 (.cons (app_ob (f := (eI .u8)) (s := 1) h77 (fun _ => rfl)).2.2.2 .nil)))))
def G_slices_Clone_byte_byte (n : Nat) (xs : (List Int)) : Option (List Int) := app 1 [] xs
theorem G_slices_Clone_byte_byte_ok (n : Nat) (xs : (List Int)) (r : (List Int)) (h : G_slices_Clone_byte_byte n xs = some r) : RetH Try.prog 33 [.d (.sl (xs.map (eI .u8)))] [] (.srf 0) [.row 5 1 (r.map (eI .u8))] := by
  unfold G_slices_Clone_byte_byte at h
  have e : app 1 ([] : (List Int)) [] = some [] := by simp [app]
  cases xs with
  | nil =>
    rw [e] at h; obtain rfl := Option.some.inj h
    exact clone_nil (fun c => G_slices_Clone_byte_byte_A_ok n c _ (by unfold G_slices_Clone_byte_byte_A; rfl)) (fun a c => G_slices_Clone_byte_byte_B_ok n a c _ (by unfold G_slices_Clone_byte_byte_B; rw [e]; rfl))
  | cons y ys => exact G_slices_Clone_byte_byte_C_ok n y ys _ (by unfold G_slices_Clone_byte_byte_C; rw [h]; rfl)
theorem G_slices_Clone_byte_byte_okD (n : Nat) (xs : (List Int)) (r : (List Int)) (h : G_slices_Clone_byte_byte n xs = some r) : Ret Try.prog 33 [.sl (xs.map (eI .u8))] (eL (eI .u8) r) := Ret.of_H (args := [.sl (xs.map (eI .u8))]) (G_slices_Clone_byte_byte_ok n xs r h)
/- math/bits.Len64 -/
def G_math_bits_Len64 (n : Nat) (v_x187 : Int) : Option (Int) :=
  if v_x187 ≥ 4294967296 then
   if (shrI .u64 v_x187 32) ≥ 65536 then
    if (shrI .u64 (shrI .u64 v_x187 32) 16) ≥ 256 then
     (getS (ByteArray.mk #[0, 1, 2, 2, 3, 3, 3, 3, 4, 4, 4, 4, 4, 4, 4, 4, 5, 5, 5, 5, 5, 5, 5, 5, 5, 5, 5, 5, 5, 5, 5, 5, 6, 6, 6, 6, 6, 6, 6, 6, 6, 6, 6, 6, 6, 6, 6, 6, 6, 6, 6, 6, 6, 6, 6, 6, 6, 6, 6, 6, 6, 6, 6, 6, 7, 7, 7, 7, 7, 7, 7, 7, 7, 7, 7, 7, 7, 7, 7, 7, 7, 7, 7, 7, 7, 7, 7, 7, 7, 7, 7, 7, 7, 7, 7, 7, 7, 7, 7, 7, 7, 7, 7, 7, 7, 7, 7, 7, 7, 7, 7, 7, 7, 7, 7, 7, 7, 7, 7, 7, 7, 7, 7, 7, 7, 7, 7, 7, 8, 8, 8, 8, 8, 8, 8, 8, 8, 8, 8, 8, 8, 8, 8, 8, 8, 8, 8, 8, 8, 8, 8, 8, 8, 8, 8, 8, 8, 8, 8, 8, 8, 8, 8, 8, 8, 8, 8, 8, 8, 8, 8, 8, 8, 8, 8, 8, 8, 8, 8, 8, 8, 8, 8, 8, 8, 8, 8, 8, 8, 8, 8, 8, 8, 8, 8, 8, 8, 8, 8, 8, 8, 8, 8, 8, 8, 8, 8, 8, 8, 8, 8, 8, 8, 8, 8, 8, 8, 8, 8, 8, 8, 8, 8, 8, 8, 8, 8, 8, 8, 8, 8, 8, 8, 8, 8, 8, 8, 8, 8, 8, 8, 8, 8, 8, 8, 8, 8, 8, 8, 8, 8, 8, 8, 8, 8, 8]) (wi .u8 (shrI .u64 (shrI .u64 (shrI .u64 v_x187 32) 16) 8))).bind fun (v_y205 : Int) =>
     some (wi .i64 ((wi .i64 ((wi .i64 (32 + 16)) + 8)) + (wi .i64 v_y205)))
    else
     (getS (ByteArray.mk #[0, 1, 2, 2, 3, 3, 3, 3, 4, 4, 4, 4, 4, 4, 4, 4, 5, 5, 5, 5, 5, 5, 5, 5, 5, 5, 5, 5, 5, 5, 5, 5, 6, 6, 6, 6, 6, 6, 6, 6, 6, 6, 6, 6, 6, 6, 6, 6, 6, 6, 6, 6, 6, 6, 6, 6, 6, 6, 6, 6, 6, 6, 6, 6, 7, 7, 7, 7, 7, 7, 7, 7, 7, 7, 7, 7, 7, 7, 7, 7, 7, 7, 7, 7, 7, 7, 7, 7, 7, 7, 7, 7, 7, 7, 7, 7, 7, 7, 7, 7, 7, 7, 7, 7, 7, 7, 7, 7, 7, 7, 7, 7, 7, 7, 7, 7, 7, 7, 7, 7, 7, 7, 7, 7, 7, 7, 7, 7, 8, 8, 8, 8, 8, 8, 8, 8, 8, 8, 8, 8, 8, 8, 8, 8, 8, 8, 8, 8, 8, 8, 8, 8, 8, 8, 8, 8, 8, 8, 8, 8, 8, 8, 8, 8, 8, 8, 8, 8, 8, 8, 8, 8, 8, 8, 8, 8, 8, 8, 8, 8, 8, 8, 8, 8, 8, 8, 8, 8, 8, 8, 8, 8, 8, 8, 8, 8, 8, 8, 8, 8, 8, 8, 8, 8, 8, 8, 8, 8, 8, 8, 8, 8, 8, 8, 8, 8, 8, 8, 8, 8, 8, 8, 8, 8, 8, 8, 8, 8, 8, 8, 8, 8, 8, 8, 8, 8, 8, 8, 8, 8, 8, 8, 8, 8, 8, 8, 8, 8, 8, 8, 8, 8, 8, 8, 8, 8]) (wi .u8 (shrI .u64 (shrI .u64 v_x187 32) 16))).bind fun (v_y206 : Int) =>
     some (wi .i64 ((wi .i64 (32 + 16)) + (wi .i64 v_y206)))
   else
    if (shrI .u64 v_x187 32) ≥ 256 then
     (getS (ByteArray.mk #[0, 1, 2, 2, 3, 3, 3, 3, 4, 4, 4, 4, 4, 4, 4, 4, 5, 5, 5, 5, 5, 5, 5, 5, 5, 5, 5, 5, 5, 5, 5, 5, 6, 6, 6, 6, 6, 6, 6, 6, 6, 6, 6, 6, 6, 6, 6, 6, 6, 6, 6, 6, 6, 6, 6, 6, 6, 6, 6, 6, 6, 6, 6, 6, 7, 7, 7, 7, 7, 7, 7, 7, 7, 7, 7, 7, 7, 7, 7, 7, 7, 7, 7, 7, 7, 7, 7, 7, 7, 7, 7, 7, 7, 7, 7, 7, 7, 7, 7, 7, 7, 7, 7, 7, 7, 7, 7, 7, 7, 7, 7, 7, 7, 7, 7, 7, 7, 7, 7, 7, 7, 7, 7, 7, 7, 7, 7, 7, 8, 8, 8, 8, 8, 8, 8, 8, 8, 8, 8, 8, 8, 8, 8, 8, 8, 8, 8, 8, 8, 8, 8, 8, 8, 8, 8, 8, 8, 8, 8, 8, 8, 8, 8, 8, 8, 8, 8, 8, 8, 8, 8, 8, 8, 8, 8, 8, 8, 8, 8, 8, 8, 8, 8, 8, 8, 8, 8, 8, 8, 8, 8, 8, 8, 8, 8, 8, 8, 8, 8, 8, 8, 8, 8, 8, 8, 8, 8, 8, 8, 8, 8, 8, 8, 8, 8, 8, 8, 8, 8, 8, 8, 8, 8, 8, 8, 8, 8, 8, 8, 8, 8, 8, 8, 8, 8, 8, 8, 8, 8, 8, 8, 8, 8, 8, 8, 8, 8, 8, 8, 8, 8, 8, 8, 8, 8, 8]) (wi .u8 (shrI .u64 (shrI .u64 v_x187 32) 8))).bind fun (v_y214 : Int) =>
     some (wi .i64 ((wi .i64 (32 + 8)) + (wi .i64 v_y214)))
    else
     (getS (ByteArray.mk #[0, 1, 2, 2, 3, 3, 3, 3, 4, 4, 4, 4, 4, 4, 4, 4, 5, 5, 5, 5, 5, 5, 5, 5, 5, 5, 5, 5, 5, 5, 5, 5, 6, 6, 6, 6, 6, 6, 6, 6, 6, 6, 6, 6, 6, 6, 6, 6, 6, 6, 6, 6, 6, 6, 6, 6, 6, 6, 6, 6, 6, 6, 6, 6, 7, 7, 7, 7, 7, 7, 7, 7, 7, 7, 7, 7, 7, 7, 7, 7, 7, 7, 7, 7, 7, 7, 7, 7, 7, 7, 7, 7, 7, 7, 7, 7, 7, 7, 7, 7, 7, 7, 7, 7, 7, 7, 7, 7, 7, 7, 7, 7, 7, 7, 7, 7, 7, 7, 7, 7, 7, 7, 7, 7, 7, 7, 7, 7, 8, 8, 8, 8, 8, 8, 8, 8, 8, 8, 8, 8, 8, 8, 8, 8, 8, 8, 8, 8, 8, 8, 8, 8, 8, 8, 8, 8, 8, 8, 8, 8, 8, 8, 8, 8, 8, 8, 8, 8, 8, 8, 8, 8, 8, 8, 8, 8, 8, 8, 8, 8, 8, 8, 8, 8, 8, 8, 8, 8, 8, 8, 8, 8, 8, 8, 8, 8, 8, 8, 8, 8, 8, 8, 8, 8, 8, 8, 8, 8, 8, 8, 8, 8, 8, 8, 8, 8, 8, 8, 8, 8, 8, 8, 8, 8, 8, 8, 8, 8, 8, 8, 8, 8, 8, 8, 8, 8, 8, 8, 8, 8, 8, 8, 8, 8, 8, 8, 8, 8, 8, 8, 8, 8, 8, 8, 8, 8]) (wi .u8 (shrI .u64 v_x187 32))).bind fun (v_y215 : Int) =>
     some (wi .i64 (32 + (wi .i64 v_y215)))
  else
   if v_x187 ≥ 65536 then
    if (shrI .u64 v_x187 16) ≥ 256 then
     (getS (ByteArray.mk #[0, 1, 2, 2, 3, 3, 3, 3, 4, 4, 4, 4, 4, 4, 4, 4, 5, 5, 5, 5, 5, 5, 5, 5, 5, 5, 5, 5, 5, 5, 5, 5, 6, 6, 6, 6, 6, 6, 6, 6, 6, 6, 6, 6, 6, 6, 6, 6, 6, 6, 6, 6, 6, 6, 6, 6, 6, 6, 6, 6, 6, 6, 6, 6, 7, 7, 7, 7, 7, 7, 7, 7, 7, 7, 7, 7, 7, 7, 7, 7, 7, 7, 7, 7, 7, 7, 7, 7, 7, 7, 7, 7, 7, 7, 7, 7, 7, 7, 7, 7, 7, 7, 7, 7, 7, 7, 7, 7, 7, 7, 7, 7, 7, 7, 7, 7, 7, 7, 7, 7, 7, 7, 7, 7, 7, 7, 7, 7, 8, 8, 8, 8, 8, 8, 8, 8, 8, 8, 8, 8, 8, 8, 8, 8, 8, 8, 8, 8, 8, 8, 8, 8, 8, 8, 8, 8, 8, 8, 8, 8, 8, 8, 8, 8, 8, 8, 8, 8, 8, 8, 8, 8, 8, 8, 8, 8, 8, 8, 8, 8, 8, 8, 8, 8, 8, 8, 8, 8, 8, 8, 8, 8, 8, 8, 8, 8, 8, 8, 8, 8, 8, 8, 8, 8, 8, 8, 8, 8, 8, 8, 8, 8, 8, 8, 8, 8, 8, 8, 8, 8, 8, 8, 8, 8, 8, 8, 8, 8, 8, 8, 8, 8, 8, 8, 8, 8, 8, 8, 8, 8, 8, 8, 8, 8, 8, 8, 8, 8, 8, 8, 8, 8, 8, 8, 8, 8]) (wi .u8 (shrI .u64 (shrI .u64 v_x187 16) 8))).bind fun (v_y230 : Int) =>
     some (wi .i64 ((wi .i64 ((wi .i64 (0 + 16)) + 8)) + (wi .i64 v_y230)))
    else
     (getS (ByteArray.mk #[0, 1, 2, 2, 3, 3, 3, 3, 4, 4, 4, 4, 4, 4, 4, 4, 5, 5, 5, 5, 5, 5, 5, 5, 5, 5, 5, 5, 5, 5, 5, 5, 6, 6, 6, 6, 6, 6, 6, 6, 6, 6, 6, 6, 6, 6, 6, 6, 6, 6, 6, 6, 6, 6, 6, 6, 6, 6, 6, 6, 6, 6, 6, 6, 7, 7, 7, 7, 7, 7, 7, 7, 7, 7, 7, 7, 7, 7, 7, 7, 7, 7, 7, 7, 7, 7, 7, 7, 7, 7, 7, 7, 7, 7, 7, 7, 7, 7, 7, 7, 7, 7, 7, 7, 7, 7, 7, 7, 7, 7, 7, 7, 7, 7, 7, 7, 7, 7, 7, 7, 7, 7, 7, 7, 7, 7, 7, 7, 8, 8, 8, 8, 8, 8, 8, 8, 8, 8, 8, 8, 8, 8, 8, 8, 8, 8, 8, 8, 8, 8, 8, 8, 8, 8, 8, 8, 8, 8, 8, 8, 8, 8, 8, 8, 8, 8, 8, 8, 8, 8, 8, 8, 8, 8, 8, 8, 8, 8, 8, 8, 8, 8, 8, 8, 8, 8, 8, 8, 8, 8, 8, 8, 8, 8, 8, 8, 8, 8, 8, 8, 8, 8, 8, 8, 8, 8, 8, 8, 8, 8, 8, 8, 8, 8, 8, 8, 8, 8, 8, 8, 8, 8, 8, 8, 8, 8, 8, 8, 8, 8, 8, 8, 8, 8, 8, 8, 8, 8, 8, 8, 8, 8, 8, 8, 8, 8, 8, 8, 8, 8, 8, 8, 8, 8, 8, 8]) (wi .u8 (shrI .u64 v_x187 16))).bind fun (v_y231 : Int) =>
     some (wi .i64 ((wi .i64 (0 + 16)) + (wi .i64 v_y231)))
   else
    if v_x187 ≥ 256 then
     (getS (ByteArray.mk #[0, 1, 2, 2, 3, 3, 3, 3, 4, 4, 4, 4, 4, 4, 4, 4, 5, 5, 5, 5, 5, 5, 5, 5, 5, 5, 5, 5, 5, 5, 5, 5, 6, 6, 6, 6, 6, 6, 6, 6, 6, 6, 6, 6, 6, 6, 6, 6, 6, 6, 6, 6, 6, 6, 6, 6, 6, 6, 6, 6, 6, 6, 6, 6, 7, 7, 7, 7, 7, 7, 7, 7, 7, 7, 7, 7, 7, 7, 7, 7, 7, 7, 7, 7, 7, 7, 7, 7, 7, 7, 7, 7, 7, 7, 7, 7, 7, 7, 7, 7, 7, 7, 7, 7, 7, 7, 7, 7, 7, 7, 7, 7, 7, 7, 7, 7, 7, 7, 7, 7, 7, 7, 7, 7, 7, 7, 7, 7, 8, 8, 8, 8, 8, 8, 8, 8, 8, 8, 8, 8, 8, 8, 8, 8, 8, 8, 8, 8, 8, 8, 8, 8, 8, 8, 8, 8, 8, 8, 8, 8, 8, 8, 8, 8, 8, 8, 8, 8, 8, 8, 8, 8, 8, 8, 8, 8, 8, 8, 8, 8, 8, 8, 8, 8, 8, 8, 8, 8, 8, 8, 8, 8, 8, 8, 8, 8, 8, 8, 8, 8, 8, 8, 8, 8, 8, 8, 8, 8, 8, 8, 8, 8, 8, 8, 8, 8, 8, 8, 8, 8, 8, 8, 8, 8, 8, 8, 8, 8, 8, 8, 8, 8, 8, 8, 8, 8, 8, 8, 8, 8, 8, 8, 8, 8, 8, 8, 8, 8, 8, 8, 8, 8, 8, 8, 8, 8]) (wi .u8 (shrI .u64 v_x187 8))).bind fun (v_y239 : Int) =>
     some (wi .i64 ((wi .i64 (0 + 8)) + (wi .i64 v_y239)))
    else
     (getS (ByteArray.mk #[0, 1, 2, 2, 3, 3, 3, 3, 4, 4, 4, 4, 4, 4, 4, 4, 5, 5, 5, 5, 5, 5, 5, 5, 5, 5, 5, 5, 5, 5, 5, 5, 6, 6, 6, 6, 6, 6, 6, 6, 6, 6, 6, 6, 6, 6, 6, 6, 6, 6, 6, 6, 6, 6, 6, 6, 6, 6, 6, 6, 6, 6, 6, 6, 7, 7, 7, 7, 7, 7, 7, 7, 7, 7, 7, 7, 7, 7, 7, 7, 7, 7, 7, 7, 7, 7, 7, 7, 7, 7, 7, 7, 7, 7, 7, 7, 7, 7, 7, 7, 7, 7, 7, 7, 7, 7, 7, 7, 7, 7, 7, 7, 7, 7, 7, 7, 7, 7, 7, 7, 7, 7, 7, 7, 7, 7, 7, 7, 8, 8, 8, 8, 8, 8, 8, 8, 8, 8, 8, 8, 8, 8, 8, 8, 8, 8, 8, 8, 8, 8, 8, 8, 8, 8, 8, 8, 8, 8, 8, 8, 8, 8, 8, 8, 8, 8, 8, 8, 8, 8, 8, 8, 8, 8, 8, 8, 8, 8, 8, 8, 8, 8, 8, 8, 8, 8, 8, 8, 8, 8, 8, 8, 8, 8, 8, 8, 8, 8, 8, 8, 8, 8, 8, 8, 8, 8, 8, 8, 8, 8, 8, 8, 8, 8, 8, 8, 8, 8, 8, 8, 8, 8, 8, 8, 8, 8, 8, 8, 8, 8, 8, 8, 8, 8, 8, 8, 8, 8, 8, 8, 8, 8, 8, 8, 8, 8, 8, 8, 8, 8, 8, 8, 8, 8, 8, 8]) (wi .u8 v_x187)).bind fun (v_y240 : Int) =>
     some (wi .i64 (0 + (wi .i64 v_y240)))
theorem G_math_bits_Len64_ok (n : Nat) (v_x187 : Int) (r : Int) (h : G_math_bits_Len64 n v_x187 = some r) : Ret Try.prog 51 [(eI .u64) v_x187] ((eI .i64) r) := by
  refine ret_run (n := 25) (fn := Try.f51) (c := bodyOf Try.f51) (by kernel_rfl) (by kernel_rfl) (by kernel_rfl) (by kernel_rfl) ?_
  have hF : KC 25 (FinR Try.prog Try.f51 ((eI .i64) r)) := FinR.kc' (by kernel_rfl)
  unfold G_math_bits_Len64 at h
  by_cases h85 : v_x187 ≥ 4294967296
  · rw [if_pos h85] at h
    by_cases h89 : (shrI .u64 v_x187 32) ≥ 65536
    · rw [if_pos h89] at h
      by_cases h93 : (shrI .u64 (shrI .u64 v_x187 32) 16) ≥ 256
      · rw [if_pos h93] at h
        obtain ⟨v_y205, h95, h⟩ := bind_some h
        obtain rfl := Option.some.inj h
        exact pend_sound TTok mix 26 (hs := [.t true, .t true, .t true, .l (.d (.v (.int .u8 v_y205)))]) (by kernel_rfl) (by kernel_rfl) (by kernel_rfl) (.cons (dt h85) (.cons (show (0 : Int) ≤ 32 by decide) (.cons (dt h89) (.cons (show (0 : Int) ≤ 16 by decide) (.cons (dt h93) (.cons (show (0 : Int) ≤ 8 by decide) (.cons (getS_ob h95) .nil)))))))
      · rw [if_neg h93] at h
        obtain ⟨v_y206, h96, h⟩ := bind_some h
        obtain rfl := Option.some.inj h
        exact pend_sound TTok mix 24 (hs := [.t true, .t true, .t false, .l (.d (.v (.int .u8 v_y206)))]) (by kernel_rfl) (by kernel_rfl) (by kernel_rfl) (.cons (dt h85) (.cons (show (0 : Int) ≤ 32 by decide) (.cons (dt h89) (.cons (show (0 : Int) ≤ 16 by decide) (.cons (df h93) (.cons (getS_ob h96) .nil))))))
    · rw [if_neg h89] at h
      by_cases h99 : (shrI .u64 v_x187 32) ≥ 256
      · rw [if_pos h99] at h
        obtain ⟨v_y214, h101, h⟩ := bind_some h
        obtain rfl := Option.some.inj h
        exact pend_sound TTok mix 24 (hs := [.t true, .t false, .t true, .l (.d (.v (.int .u8 v_y214)))]) (by kernel_rfl) (by kernel_rfl) (by kernel_rfl) (.cons (dt h85) (.cons (show (0 : Int) ≤ 32 by decide) (.cons (df h89) (.cons (dt h99) (.cons (show (0 : Int) ≤ 8 by decide) (.cons (getS_ob h101) .nil))))))
      · rw [if_neg h99] at h
        obtain ⟨v_y215, h102, h⟩ := bind_some h
        obtain rfl := Option.some.inj h
        exact pend_sound TTok mix 22 (hs := [.t true, .t false, .t false, .l (.d (.v (.int .u8 v_y215)))]) (by kernel_rfl) (by kernel_rfl) (by kernel_rfl) (.cons (dt h85) (.cons (show (0 : Int) ≤ 32 by decide) (.cons (df h89) (.cons (df h99) (.cons (getS_ob h102) .nil)))))
  · rw [if_neg h85] at h
    by_cases h105 : v_x187 ≥ 65536
    · rw [if_pos h105] at h
      by_cases h109 : (shrI .u64 v_x187 16) ≥ 256
      · rw [if_pos h109] at h
        obtain ⟨v_y230, h111, h⟩ := bind_some h
        obtain rfl := Option.some.inj h
        exact pend_sound TTok mix 24 (hs := [.t false, .t true, .t true, .l (.d (.v (.int .u8 v_y230)))]) (by kernel_rfl) (by kernel_rfl) (by kernel_rfl) (.cons (df h85) (.cons (dt h105) (.cons (show (0 : Int) ≤ 16 by decide) (.cons (dt h109) (.cons (show (0 : Int) ≤ 8 by decide) (.cons (getS_ob h111) .nil))))))
      · rw [if_neg h109] at h
        obtain ⟨v_y231, h112, h⟩ := bind_some h
        obtain rfl := Option.some.inj h
        exact pend_sound TTok mix 22 (hs := [.t false, .t true, .t false, .l (.d (.v (.int .u8 v_y231)))]) (by kernel_rfl) (by kernel_rfl) (by kernel_rfl) (.cons (df h85) (.cons (dt h105) (.cons (show (0 : Int) ≤ 16 by decide) (.cons (df h109) (.cons (getS_ob h112) .nil)))))
    · rw [if_neg h105] at h
      by_cases h115 : v_x187 ≥ 256
      · rw [if_pos h115] at h
        obtain ⟨v_y239, h117, h⟩ := bind_some h
        obtain rfl := Option.some.inj h
        exact pend_sound TTok mix 22 (hs := [.t false, .t false, .t true, .l (.d (.v (.int .u8 v_y239)))]) (by kernel_rfl) (by kernel_rfl) (by kernel_rfl) (.cons (df h85) (.cons (df h105) (.cons (dt h115) (.cons (show (0 : Int) ≤ 8 by decide) (.cons (getS_ob h117) .nil)))))
      · rw [if_neg h115] at h
        obtain ⟨v_y240, h118, h⟩ := bind_some h
        obtain rfl := Option.some.inj h
        exact pend_sound TTok mix 20 (hs := [.t false, .t false, .t false, .l (.d (.v (.int .u8 v_y240)))]) (by kernel_rfl) (by kernel_rfl) (by kernel_rfl) (.cons (df h85) (.cons (df h105) (.cons (df h115) (.cons (getS_ob h118) .nil))))
/- math/bits.Len -/
def G_math_bits_Len (n : Nat) (v_x186 : Int) : Option (Int) :=
  (G_math_bits_Len64 n v_x186).bind fun (v_r241 : (Int)) =>
  some v_r241
theorem G_math_bits_Len_ok (n : Nat) (v_x186 : Int) (r : Int) (h : G_math_bits_Len n v_x186 = some r) : Ret Try.prog 40 [(eI .u64) v_x186] ((eI .i64) r) := by
  refine ret_run (n := 8) (fn := Try.f40) (c := bodyOf Try.f40) (by kernel_rfl) (by kernel_rfl) (by kernel_rfl) (by kernel_rfl) ?_
  have hF : KC 8 (FinR Try.prog Try.f40 ((eI .i64) r)) := FinR.kc' (by kernel_rfl)
  unfold G_math_bits_Len at h
  obtain ⟨v_r241, h119, h⟩ := bind_some h
  obtain rfl := Option.some.inj h
  exact pend_sound TTok mix 8 (hs := [.c, .r ((eI .i64) v_r241)]) (by kernel_rfl) (by kernel_rfl) (by kernel_rfl) (.cons (G_math_bits_Len64_ok n v_x186 _ h119) .nil)
inductive G_slices_insertionSortCmpFunc_lift_Req_h_L1_R where
  | x0 (v_w279 : (List S_lift_Req))
def G_slices_insertionSortCmpFunc_lift_Req_h_L1_ex : G_slices_insertionSortCmpFunc_lift_Req_h_L1_R → Ex
  | .x0 _ => .exit 2
def G_slices_insertionSortCmpFunc_lift_Req_h_L1_st (v_a256 : Int) (v_b257 : Int) (v_cmp258 : (S_lift_Req → S_lift_Req → Option (Int))) (v_i259 : Int) (v_cmp258_g : FuncId) (v_cmp258_c : (List PV)) : G_slices_insertionSortCmpFunc_lift_Req_h_L1_R → PS
  | .x0 v_w279 => ⟨(.srf 1 :: .d (.v (.int .i64 v_a256)) :: .d (.v (.int .i64 v_b257)) :: .d (.clo v_cmp258_g v_cmp258_c) :: dd :: dd :: dd :: dd :: .d (.v (.int .i64 v_i259)) :: (dds 44 [])), [.gh 0 (.srf 1), .row 26 3 (v_w279.map eS_lift_Req)]⟩
def G_slices_insertionSortCmpFunc_lift_Req_h_L1_hd (v_a256 : Int) (v_b257 : Int) (v_cmp258 : (S_lift_Req → S_lift_Req → Option (Int))) (v_i259 : Int) (v_cmp258_g : FuncId) (v_cmp258_c : (List PV)) (v_j262 : Int) (v_w263 : (List S_lift_Req)) : PS := ⟨(.srf 1 :: .d (.v (.int .i64 v_a256)) :: .d (.v (.int .i64 v_b257)) :: .d (.clo v_cmp258_g v_cmp258_c) :: dd :: dd :: dd :: dd :: .d (.v (.int .i64 v_i259)) :: .d (.v (.int .i64 v_j262)) :: (dds 43 [])), [.gh 0 (.srf 1), .row 26 3 (v_w263.map eS_lift_Req)]⟩
def G_slices_insertionSortCmpFunc_lift_Req_h_L1 (n : Nat) (v_a256 : Int) (v_b257 : Int) (v_cmp258 : (S_lift_Req → S_lift_Req → Option (Int))) (v_i259 : Int) : Nat → Int → (List S_lift_Req) → Option G_slices_insertionSortCmpFunc_lift_Req_h_L1_R
  | 0, _, _ => none
  | k + 1, v_j262, v_w263 =>
    if v_j262 > v_a256 then
     if 0 ≤ v_j262 ∧ (v_j262).toNat < v_w263.length then
      (v_w263[(v_j262).toNat]?).bind fun (v_y268 : S_lift_Req) =>
      if 0 ≤ (wi .i64 (v_j262 - 1)) ∧ ((wi .i64 (v_j262 - 1))).toNat < v_w263.length then
       (v_w263[((wi .i64 (v_j262 - 1))).toNat]?).bind fun (v_y269 : S_lift_Req) =>
       (v_cmp258 v_y268 v_y269).bind fun (v_r270 : (Int)) =>
       if v_r270 < 0 then
        if 0 ≤ (wi .i64 (v_j262 - 1)) ∧ ((wi .i64 (v_j262 - 1))).toNat < v_w263.length then
         (v_w263[((wi .i64 (v_j262 - 1))).toNat]?).bind fun (v_y275 : S_lift_Req) =>
         if 0 ≤ v_j262 ∧ (v_j262).toNat < v_w263.length then
          (v_w263[(v_j262).toNat]?).bind fun (v_y276 : S_lift_Req) =>
          if 0 ≤ v_j262 ∧ (v_j262).toNat < v_w263.length then
           (v_w263[(v_j262).toNat]?).bind fun (v_y277 : S_lift_Req) =>
           if 0 ≤ (wi .i64 (v_j262 - 1)) ∧ ((wi .i64 (v_j262 - 1))).toNat < (v_w263.set (v_j262).toNat v_y275).length then
            ((v_w263.set (v_j262).toNat v_y275)[((wi .i64 (v_j262 - 1))).toNat]?).bind fun (v_y278 : S_lift_Req) =>
            G_slices_insertionSortCmpFunc_lift_Req_h_L1 n v_a256 v_b257 v_cmp258 v_i259 k (wi .i64 (v_j262 - 1)) ((v_w263.set (v_j262).toNat v_y275).set ((wi .i64 (v_j262 - 1))).toNat v_y276)
           else none
          else none
         else none
        else none
       else
        some (.x0 v_w263)
      else none
     else none
    else
     some (.x0 v_w263)
theorem G_slices_insertionSortCmpFunc_lift_Req_h_L1_ok {Fi : Ex → PS → Prop} (hF : KC 53 Fi) (ks : List Fr) (n : Nat) (v_a256 : Int) (v_b257 : Int) (v_cmp258 : (S_lift_Req → S_lift_Req → Option (Int))) (v_i259 : Int) (v_cmp258_g : FuncId) (v_cmp258_c : (List PV)) (v_cmp258_h : ∀ (x0 : S_lift_Req) (x1 : S_lift_Req) (r : Int), v_cmp258 x0 x1 = some r → Ret Try.prog v_cmp258_g ([eS_lift_Req x0, eS_lift_Req x1] ++ v_cmp258_c) ((eI .i64) r)) : ∀ (k : Nat) (v_j262 : Int) (v_w263 : (List S_lift_Req)) (o : G_slices_insertionSortCmpFunc_lift_Req_h_L1_R), G_slices_insertionSortCmpFunc_lift_Req_h_L1 n v_a256 v_b257 v_cmp258 v_i259 k v_j262 v_w263 = some o → RunE Try.prog 53 Fi ks (G_slices_insertionSortCmpFunc_lift_Req_h_L1_ex o) (G_slices_insertionSortCmpFunc_lift_Req_h_L1_st v_a256 v_b257 v_cmp258 v_i259 v_cmp258_g v_cmp258_c o) → RunE Try.prog 53 Fi (.l k (cP (cB (cR (cB (cL (cR (cP (cB (cR (bodyOf Try.f42)))))))))) :: ks) .normal (G_slices_insertionSortCmpFunc_lift_Req_h_L1_hd v_a256 v_b257 v_cmp258 v_i259 v_cmp258_g v_cmp258_c v_j262 v_w263)
  | 0, v_j262, v_w263, o, h, q => by rw [G_slices_insertionSortCmpFunc_lift_Req_h_L1] at h; cases h
  | k + 1, v_j262, v_w263, o, h, q => by
    rw [G_slices_insertionSortCmpFunc_lift_Req_h_L1] at h
    by_cases h129 : v_j262 > v_a256
    · rw [if_pos h129] at h
      by_cases h130 : 0 ≤ v_j262 ∧ (v_j262).toNat < v_w263.length
      · rw [if_pos h130] at h
        obtain ⟨v_y268, h131, h⟩ := bind_some h
        by_cases h132 : 0 ≤ (wi .i64 (v_j262 - 1)) ∧ ((wi .i64 (v_j262 - 1))).toNat < v_w263.length
        · rw [if_pos h132] at h
          obtain ⟨v_y269, h133, h⟩ := bind_some h
          obtain ⟨v_r270, h134, h⟩ := bind_some h
          by_cases h135 : v_r270 < 0
          · rw [if_pos h135] at h
            by_cases h144 : 0 ≤ (wi .i64 (v_j262 - 1)) ∧ ((wi .i64 (v_j262 - 1))).toNat < v_w263.length
            · rw [if_pos h144] at h
              obtain ⟨v_y275, h145, h⟩ := bind_some h
              by_cases h146 : 0 ≤ v_j262 ∧ (v_j262).toNat < v_w263.length
              · rw [if_pos h146] at h
                obtain ⟨v_y276, h147, h⟩ := bind_some h
                by_cases h148 : 0 ≤ v_j262 ∧ (v_j262).toNat < v_w263.length
                · rw [if_pos h148] at h
                  obtain ⟨v_y277, h149, h⟩ := bind_some h
                  by_cases h150 : 0 ≤ (wi .i64 (v_j262 - 1)) ∧ ((wi .i64 (v_j262 - 1))).toNat < (v_w263.set (v_j262).toNat v_y275).length
                  · rw [if_pos h150] at h
                    obtain ⟨v_y278, h151, h⟩ := bind_some h
                    exact pkk_sound TTok mix hF 11 (hs := [.t true, .c, .c, .c, .c, .y (eS_lift_Req v_y268), .c, .c, .c, .c, .c, .y (eS_lift_Req v_y269), .c, .r ((eI .i64) v_r270), .c, .t true, .y (eS_lift_Req v_y275), .y (eS_lift_Req v_y276), .w ((v_w263.set (v_j262).toNat v_y275).map eS_lift_Req), .y (eS_lift_Req v_y277), .w (((v_w263.set (v_j262).toNat v_y275).set ((wi .i64 (v_j262 - 1))).toNat v_y276).map eS_lift_Req), .y (eS_lift_Req v_y278)]) (ts := []) (s := [0, 1]) (l := [0, 1, 2, 3, 8, 9]) (by kernel_rfl) (by kernel_rfl) (.cons (dt h129) (.cons (idx_ob (f := eS_lift_Req) h130) (.cons (get_ob (f := eS_lift_Req) h131) (.cons (idx_ob (f := eS_lift_Req) h132) (.cons (get_ob (f := eS_lift_Req) h133) (.cons (v_cmp258_h v_y268 v_y269 _ h134) (.cons (dt h135) (.cons (idx_ob (f := eS_lift_Req) h144) (.cons (get_ob (f := eS_lift_Req) h145) (.cons (idx_ob (f := eS_lift_Req) h146) (.cons (get_ob (f := eS_lift_Req) h147) (.cons (idx_ob (f := eS_lift_Req) h148) (.cons (get_ob (f := eS_lift_Req) h149) (.cons (Eq.refl (pcells (.agg [.v (.int .i64 v_y275.fSector), .sl (v_y275.fData.map (eI .u8)), .v (.bool v_y275.fBarrier)]))) (.cons (set_ob (f := eS_lift_Req) (l := v_w263) (k := (v_j262).toNat) (z := v_y275) (p := .agg [.v (.int .i64 v_y275.fSector), .sl (v_y275.fData.map (eI .u8)), .v (.bool v_y275.fBarrier)]) rfl) (.cons (idx_ob (f := eS_lift_Req) h150) (.cons (get_ob (f := eS_lift_Req) h151) (.cons (Eq.refl (pcells (.agg [.v (.int .i64 v_y276.fSector), .sl (v_y276.fData.map (eI .u8)), .v (.bool v_y276.fBarrier)]))) (.cons (set_ob (f := eS_lift_Req) (l := (v_w263.set (v_j262).toNat v_y275)) (k := ((wi .i64 (v_j262 - 1))).toNat) (z := v_y276) (p := .agg [.v (.int .i64 v_y276.fSector), .sl (v_y276.fData.map (eI .u8)), .v (.bool v_y276.fBarrier)]) rfl) .nil))))))))))))))))))) (G_slices_insertionSortCmpFunc_lift_Req_h_L1_ok hF ks n v_a256 v_b257 v_cmp258 v_i259 v_cmp258_g v_cmp258_c v_cmp258_h k (wi .i64 (v_j262 - 1)) ((v_w263.set (v_j262).toNat v_y275).set ((wi .i64 (v_j262 - 1))).toNat v_y276) _ h q)
                  · rw [if_neg h150] at h; cases h
                · rw [if_neg h148] at h; cases h
              · rw [if_neg h146] at h; cases h
            · rw [if_neg h144] at h; cases h
          · rw [if_neg h135] at h
            cases h
            exact pkk_sound TTok mix hF 8 (hs := [.t true, .c, .c, .c, .c, .y (eS_lift_Req v_y268), .c, .c, .c, .c, .c, .y (eS_lift_Req v_y269), .c, .r ((eI .i64) v_r270), .c, .t false]) (ts := []) (s := [0, 1]) (l := [0, 1, 2, 3, 8]) (by kernel_rfl) (by kernel_rfl) (.cons (dt h129) (.cons (idx_ob (f := eS_lift_Req) h130) (.cons (get_ob (f := eS_lift_Req) h131) (.cons (idx_ob (f := eS_lift_Req) h132) (.cons (get_ob (f := eS_lift_Req) h133) (.cons (v_cmp258_h v_y268 v_y269 _ h134) (.cons (df h135) .nil))))))) q
        · rw [if_neg h132] at h; cases h
      · rw [if_neg h130] at h; cases h
    · rw [if_neg h129] at h
      cases h
      exact pkk_sound TTok mix hF 8 (hs := [.t false, .c, .c, .c, .c, .c, .c, .c, .c, .c, .c, .c, .c]) (ts := []) (s := [0, 1]) (l := [0, 1, 2, 3, 8]) (by kernel_rfl) (by kernel_rfl) (.cons (df h129) .nil) q
inductive G_slices_insertionSortCmpFunc_lift_Req_h_L2_R where
  | x0 (v_w283 : (List S_lift_Req))
def G_slices_insertionSortCmpFunc_lift_Req_h_L2_ex : G_slices_insertionSortCmpFunc_lift_Req_h_L2_R → Ex
  | .x0 _ => .exit 0
def G_slices_insertionSortCmpFunc_lift_Req_h_L2_st (v_a256 : Int) (v_b257 : Int) (v_cmp258 : (S_lift_Req → S_lift_Req → Option (Int))) (v_cmp258_g : FuncId) (v_cmp258_c : (List PV)) : G_slices_insertionSortCmpFunc_lift_Req_h_L2_R → PS
  | .x0 v_w283 => ⟨(dds 53 []), [.gh 0 (.srf 1), .row 26 3 (v_w283.map eS_lift_Req)]⟩
def G_slices_insertionSortCmpFunc_lift_Req_h_L2_hd (v_a256 : Int) (v_b257 : Int) (v_cmp258 : (S_lift_Req → S_lift_Req → Option (Int))) (v_cmp258_g : FuncId) (v_cmp258_c : (List PV)) (v_i259 : Int) (v_w260 : (List S_lift_Req)) : PS := ⟨(.srf 1 :: .d (.v (.int .i64 v_a256)) :: .d (.v (.int .i64 v_b257)) :: .d (.clo v_cmp258_g v_cmp258_c) :: dd :: dd :: dd :: dd :: .d (.v (.int .i64 v_i259)) :: (dds 44 [])), [.gh 0 (.srf 1), .row 26 3 (v_w260.map eS_lift_Req)]⟩
def G_slices_insertionSortCmpFunc_lift_Req_h_L2 (n : Nat) (v_a256 : Int) (v_b257 : Int) (v_cmp258 : (S_lift_Req → S_lift_Req → Option (Int))) : Nat → Int → (List S_lift_Req) → Option G_slices_insertionSortCmpFunc_lift_Req_h_L2_R
  | 0, _, _ => none
  | k + 1, v_i259, v_w260 =>
    if v_i259 < v_b257 then
     (G_slices_insertionSortCmpFunc_lift_Req_h_L1 n v_a256 v_b257 v_cmp258 v_i259 n v_i259 v_w260).bind fun v_o281 => match v_o281 with
     | .x0 v_z282 =>
       G_slices_insertionSortCmpFunc_lift_Req_h_L2 n v_a256 v_b257 v_cmp258 k (wi .i64 (v_i259 + 1)) v_z282
    else
     some (.x0 v_w260)
theorem G_slices_insertionSortCmpFunc_lift_Req_h_L2_ok {Fi : Ex → PS → Prop} (hF : KC 53 Fi) (ks : List Fr) (n : Nat) (v_a256 : Int) (v_b257 : Int) (v_cmp258 : (S_lift_Req → S_lift_Req → Option (Int))) (v_cmp258_g : FuncId) (v_cmp258_c : (List PV)) (v_cmp258_h : ∀ (x0 : S_lift_Req) (x1 : S_lift_Req) (r : Int), v_cmp258 x0 x1 = some r → Ret Try.prog v_cmp258_g ([eS_lift_Req x0, eS_lift_Req x1] ++ v_cmp258_c) ((eI .i64) r)) : ∀ (k : Nat) (v_i259 : Int) (v_w260 : (List S_lift_Req)) (o : G_slices_insertionSortCmpFunc_lift_Req_h_L2_R), G_slices_insertionSortCmpFunc_lift_Req_h_L2 n v_a256 v_b257 v_cmp258 k v_i259 v_w260 = some o → RunE Try.prog 53 Fi ks (G_slices_insertionSortCmpFunc_lift_Req_h_L2_ex o) (G_slices_insertionSortCmpFunc_lift_Req_h_L2_st v_a256 v_b257 v_cmp258 v_cmp258_g v_cmp258_c o) → RunE Try.prog 53 Fi (.l k (cP (cB (cR (bodyOf Try.f42)))) :: ks) .normal (G_slices_insertionSortCmpFunc_lift_Req_h_L2_hd v_a256 v_b257 v_cmp258 v_cmp258_g v_cmp258_c v_i259 v_w260)
  | 0, v_i259, v_w260, o, h, q => by rw [G_slices_insertionSortCmpFunc_lift_Req_h_L2] at h; cases h
  | k + 1, v_i259, v_w260, o, h, q => by
    rw [G_slices_insertionSortCmpFunc_lift_Req_h_L2] at h
    by_cases h122 : v_i259 < v_b257
    · rw [if_pos h122] at h
      obtain ⟨v_o281, h152, h⟩ := bind_some h
      refine pkk_sound TTok mix hF 12 (hs := [.t true, .n n]) (ts := []) (s := [0, 1]) (l := [0, 1, 2, 3, 8, 9]) (by kernel_rfl) (by kernel_rfl) (.cons (dt h122) .nil) (G_slices_insertionSortCmpFunc_lift_Req_h_L1_ok hF (.b 2 :: .b 1 :: .s (cR (cR (cP (cB (cR (bodyOf Try.f42)))))) :: .l k (cP (cB (cR (bodyOf Try.f42)))) :: ks) n v_a256 v_b257 v_cmp258 v_i259 v_cmp258_g v_cmp258_c v_cmp258_h n v_i259 v_w260 _ h152 ?_)
      cases v_o281 with
      | x0 v_z282 =>
        try dsimp only at h
        exact pkk_sound TTok mix hF 3 (hs := []) (ts := []) (s := [0, 1]) (l := [0, 1, 2, 3, 8]) (by kernel_rfl) (by kernel_rfl) .nil (G_slices_insertionSortCmpFunc_lift_Req_h_L2_ok hF ks n v_a256 v_b257 v_cmp258 v_cmp258_g v_cmp258_c v_cmp258_h k (wi .i64 (v_i259 + 1)) v_z282 _ h q)
    · rw [if_neg h122] at h
      cases h
      exact pkk_sound TTok mix hF 8 (hs := [.t false]) (ts := []) (s := [0, 1]) (l := []) (by kernel_rfl) (by kernel_rfl) (.cons (df h122) .nil) q
/- slices.insertionSortCmpFunc[ringhall/lift.Req] -/
def G_slices_insertionSortCmpFunc_lift_Req_h (n : Nat) (v_data255 : (List S_lift_Req)) (v_a256 : Int) (v_b257 : Int) (v_cmp258 : (S_lift_Req → S_lift_Req → Option (Int))) : Option ((List S_lift_Req)) :=
  (G_slices_insertionSortCmpFunc_lift_Req_h_L2 n v_a256 v_b257 v_cmp258 n (wi .i64 (v_a256 + 1)) v_data255).bind fun v_o284 => match v_o284 with
  | .x0 v_z285 =>
    some v_z285
theorem G_slices_insertionSortCmpFunc_lift_Req_h_ok (n : Nat) (v_data255 : (List S_lift_Req)) (v_a256 : Int) (v_b257 : Int) (v_cmp258 : (S_lift_Req → S_lift_Req → Option (Int))) (v_cmp258_g : FuncId) (v_cmp258_c : List PV) (v_cmp258_h : ∀ (x0 : S_lift_Req) (x1 : S_lift_Req) (r : Int), v_cmp258 x0 x1 = some r → Ret Try.prog v_cmp258_g ([eS_lift_Req x0, eS_lift_Req x1] ++ v_cmp258_c) ((eI .i64) r)) (r : (List S_lift_Req)) (h : G_slices_insertionSortCmpFunc_lift_Req_h n v_data255 v_a256 v_b257 v_cmp258 = some r) : RetH Try.prog 42 [.srf 0, .d ((eI .i64) v_a256), .d ((eI .i64) v_b257), .d ((.clo v_cmp258_g v_cmp258_c))] [.row 26 3 (v_data255.map eS_lift_Req)] (.tup []) [.row 26 3 (r.map eS_lift_Req)] := by
  refine retH_run (n := 53) (fn := Try.f42) (c := bodyOf Try.f42) (by kernel_rfl) (by kernel_rfl) (by kernel_rfl) (by kernel_rfl) ?_
  have hF : KC 53 (FinH Try.prog Try.f42 [.row 26 3 (v_data255.map eS_lift_Req)] (.tup []) [.row 26 3 (r.map eS_lift_Req)]) := FinH.kc' (by kernel_rfl)
  unfold G_slices_insertionSortCmpFunc_lift_Req_h at h
  obtain ⟨v_o284, h153, h⟩ := bind_some h
  refine pkk_sound TTok mix hF 4 (hs := [.n n]) (ts := []) (s := [1, 0]) (l := [0, 1, 2, 3, 8]) (by kernel_rfl) (by kernel_rfl) .nil (G_slices_insertionSortCmpFunc_lift_Req_h_L2_ok hF (.b 0 :: []) n v_a256 v_b257 v_cmp258 v_cmp258_g v_cmp258_c v_cmp258_h n (wi .i64 (v_a256 + 1)) v_data255 _ h153 ?_)
  cases v_o284 with
  | x0 v_z285 =>
    try dsimp only at h
    obtain rfl := Option.some.inj h
    exact pendH_sound TTok mix 1 (hs := []) [1] (by kernel_rfl) (by kernel_rfl) (by kernel_rfl) .nil
inductive G_slices_siftDownCmpFunc_lift_Req_h_C1_R where
  | x0 (v_x340 : Bool) (v_w341 : (List S_lift_Req))
def G_slices_siftDownCmpFunc_lift_Req_h_C1_ex : G_slices_siftDownCmpFunc_lift_Req_h_C1_R → Ex
  | .x0 _ _ => .normal
def G_slices_siftDownCmpFunc_lift_Req_h_C1_st (v_hi297 : Int) (v_first298 : Int) (v_cmp299 : (S_lift_Req → S_lift_Req → Option (Int))) (v_root300 : Int) (v_w301 : (List S_lift_Req)) (v_cmp299_g : FuncId) (v_cmp299_c : (List PV)) : G_slices_siftDownCmpFunc_lift_Req_h_C1_R → PS
  | .x0 v_x340 v_w341 => ⟨(.srf 1 :: dd :: .d (.v (.int .i64 v_hi297)) :: .d (.v (.int .i64 v_first298)) :: .d (.clo v_cmp299_g v_cmp299_c) :: dd :: dd :: dd :: dd :: dd :: .d (.v (.int .i64 v_root300)) :: .d (.v (.int .i64 (wi .i64 ((wi .i64 (2 * v_root300)) + 1)))) :: (dds 28 (.d (.v (.bool v_x340)) :: (dds 41 [])))), [.gh 0 (.srf 1), .row 26 3 (v_w341.map eS_lift_Req)]⟩
def G_slices_siftDownCmpFunc_lift_Req_h_C1_hd (v_hi297 : Int) (v_first298 : Int) (v_cmp299 : (S_lift_Req → S_lift_Req → Option (Int))) (v_root300 : Int) (v_w301 : (List S_lift_Req)) (v_cmp299_g : FuncId) (v_cmp299_c : (List PV))  : PS := ⟨(.srf 1 :: dd :: .d (.v (.int .i64 v_hi297)) :: .d (.v (.int .i64 v_first298)) :: .d (.clo v_cmp299_g v_cmp299_c) :: dd :: dd :: dd :: dd :: dd :: .d (.v (.int .i64 v_root300)) :: .d (.v (.int .i64 (wi .i64 ((wi .i64 (2 * v_root300)) + 1)))) :: (dds 70 [])), [.gh 0 (.srf 1), .row 26 3 (v_w301.map eS_lift_Req)]⟩
def G_slices_siftDownCmpFunc_lift_Req_h_C1 (n : Nat) (v_hi297 : Int) (v_first298 : Int) (v_cmp299 : (S_lift_Req → S_lift_Req → Option (Int))) (v_root300 : Int) (v_w301 : (List S_lift_Req)) : Option G_slices_siftDownCmpFunc_lift_Req_h_C1_R :=
  if (wi .i64 ((wi .i64 ((wi .i64 (2 * v_root300)) + 1)) + 1)) < v_hi297 then
   if 0 ≤ (wi .i64 (v_first298 + (wi .i64 ((wi .i64 (2 * v_root300)) + 1)))) ∧ ((wi .i64 (v_first298 + (wi .i64 ((wi .i64 (2 * v_root300)) + 1))))).toNat < v_w301.length then
    (v_w301[((wi .i64 (v_first298 + (wi .i64 ((wi .i64 (2 * v_root300)) + 1))))).toNat]?).bind fun (v_y337 : S_lift_Req) =>
    if 0 ≤ (wi .i64 ((wi .i64 (v_first298 + (wi .i64 ((wi .i64 (2 * v_root300)) + 1)))) + 1)) ∧ ((wi .i64 ((wi .i64 (v_first298 + (wi .i64 ((wi .i64 (2 * v_root300)) + 1)))) + 1))).toNat < v_w301.length then
     (v_w301[((wi .i64 ((wi .i64 (v_first298 + (wi .i64 ((wi .i64 (2 * v_root300)) + 1)))) + 1))).toNat]?).bind fun (v_y338 : S_lift_Req) =>
     (v_cmp299 v_y337 v_y338).bind fun (v_r339 : (Int)) =>
     some (.x0 (decide (v_r339 < 0)) v_w301)
    else none
   else none
  else
   some (.x0 false v_w301)
theorem G_slices_siftDownCmpFunc_lift_Req_h_C1_ok {Fi : Ex → PS → Prop} (hF : KC 82 Fi) (ks : List Fr) (n : Nat) (v_hi297 : Int) (v_first298 : Int) (v_cmp299 : (S_lift_Req → S_lift_Req → Option (Int))) (v_root300 : Int) (v_w301 : (List S_lift_Req)) (v_cmp299_g : FuncId) (v_cmp299_c : (List PV)) (v_cmp299_h : ∀ (x0 : S_lift_Req) (x1 : S_lift_Req) (r : Int), v_cmp299 x0 x1 = some r → Ret Try.prog v_cmp299_g ([eS_lift_Req x0, eS_lift_Req x1] ++ v_cmp299_c) ((eI .i64) r)) (o : G_slices_siftDownCmpFunc_lift_Req_h_C1_R) (h : G_slices_siftDownCmpFunc_lift_Req_h_C1 n v_hi297 v_first298 v_cmp299 v_root300 v_w301 = some o) (q : RunE Try.prog 82 Fi ks (G_slices_siftDownCmpFunc_lift_Req_h_C1_ex o) (G_slices_siftDownCmpFunc_lift_Req_h_C1_st v_hi297 v_first298 v_cmp299 v_root300 v_w301 v_cmp299_g v_cmp299_c o)) : RunE Try.prog 82 Fi (.s (cL (cL (cR (cR (cB (cP (cB (cR (bodyOf Try.f58))))))))) :: ks) .normal (G_slices_siftDownCmpFunc_lift_Req_h_C1_hd v_hi297 v_first298 v_cmp299 v_root300 v_w301 v_cmp299_g v_cmp299_c) := by
  unfold G_slices_siftDownCmpFunc_lift_Req_h_C1 at h
  by_cases h198 : (wi .i64 ((wi .i64 ((wi .i64 (2 * v_root300)) + 1)) + 1)) < v_hi297
  · rw [if_pos h198] at h
    by_cases h199 : 0 ≤ (wi .i64 (v_first298 + (wi .i64 ((wi .i64 (2 * v_root300)) + 1)))) ∧ ((wi .i64 (v_first298 + (wi .i64 ((wi .i64 (2 * v_root300)) + 1))))).toNat < v_w301.length
    · rw [if_pos h199] at h
      obtain ⟨v_y337, h200, h⟩ := bind_some h
      by_cases h201 : 0 ≤ (wi .i64 ((wi .i64 (v_first298 + (wi .i64 ((wi .i64 (2 * v_root300)) + 1)))) + 1)) ∧ ((wi .i64 ((wi .i64 (v_first298 + (wi .i64 ((wi .i64 (2 * v_root300)) + 1)))) + 1))).toNat < v_w301.length
      · rw [if_pos h201] at h
        obtain ⟨v_y338, h202, h⟩ := bind_some h
        obtain ⟨v_r339, h203, h⟩ := bind_some h
        cases h
        exact pkk_sound TTok mix hF 1 (hs := [.t true, .c, .c, .c, .c, .c, .c, .y (eS_lift_Req v_y337), .c, .c, .c, .c, .c, .c, .c, .y (eS_lift_Req v_y338), .c, .r ((eI .i64) v_r339), .c]) (ts := []) (s := [0, 1]) (l := [0, 2, 3, 4, 10, 11, 40]) (by kernel_rfl) (by kernel_rfl) (.cons (dt h198) (.cons (idx_ob (f := eS_lift_Req) h199) (.cons (get_ob (f := eS_lift_Req) h200) (.cons (idx_ob (f := eS_lift_Req) h201) (.cons (get_ob (f := eS_lift_Req) h202) (.cons (v_cmp299_h v_y337 v_y338 _ h203) .nil)))))) q
      · rw [if_neg h201] at h; cases h
    · rw [if_neg h199] at h; cases h
  · rw [if_neg h198] at h
    cases h
    exact pkk_sound TTok mix hF 1 (hs := [.t false, .c, .c, .c, .c, .c, .c, .c, .c, .c, .c, .c, .c, .c, .c, .c]) (ts := []) (s := [0, 1]) (l := [0, 2, 3, 4, 10, 11, 40]) (by kernel_rfl) (by kernel_rfl) (.cons (df h198) .nil) q
inductive G_slices_siftDownCmpFunc_lift_Req_h_C2_R where
  | x0 (v_child348 : Int) (v_w349 : (List S_lift_Req))
def G_slices_siftDownCmpFunc_lift_Req_h_C2_ex : G_slices_siftDownCmpFunc_lift_Req_h_C2_R → Ex
  | .x0 _ _ => .normal
def G_slices_siftDownCmpFunc_lift_Req_h_C2_st (v_hi297 : Int) (v_first298 : Int) (v_cmp299 : (S_lift_Req → S_lift_Req → Option (Int))) (v_root300 : Int) (v_z345 : Bool) (v_z346 : (List S_lift_Req)) (v_cmp299_g : FuncId) (v_cmp299_c : (List PV)) : G_slices_siftDownCmpFunc_lift_Req_h_C2_R → PS
  | .x0 v_child348 v_w349 => ⟨(.srf 1 :: dd :: .d (.v (.int .i64 v_hi297)) :: .d (.v (.int .i64 v_first298)) :: .d (.clo v_cmp299_g v_cmp299_c) :: dd :: dd :: dd :: dd :: dd :: .d (.v (.int .i64 v_root300)) :: .d (.v (.int .i64 v_child348)) :: (dds 70 [])), [.gh 0 (.srf 1), .row 26 3 (v_w349.map eS_lift_Req)]⟩
def G_slices_siftDownCmpFunc_lift_Req_h_C2_hd (v_hi297 : Int) (v_first298 : Int) (v_cmp299 : (S_lift_Req → S_lift_Req → Option (Int))) (v_root300 : Int) (v_z345 : Bool) (v_z346 : (List S_lift_Req)) (v_cmp299_g : FuncId) (v_cmp299_c : (List PV))  : PS := ⟨(.srf 1 :: dd :: .d (.v (.int .i64 v_hi297)) :: .d (.v (.int .i64 v_first298)) :: .d (.clo v_cmp299_g v_cmp299_c) :: dd :: dd :: dd :: dd :: dd :: .d (.v (.int .i64 v_root300)) :: .d (.v (.int .i64 (wi .i64 ((wi .i64 (2 * v_root300)) + 1)))) :: (dds 28 (.d (.v (.bool v_z345)) :: (dds 41 [])))), [.gh 0 (.srf 1), .row 26 3 (v_z346.map eS_lift_Req)]⟩
def G_slices_siftDownCmpFunc_lift_Req_h_C2 (n : Nat) (v_hi297 : Int) (v_first298 : Int) (v_cmp299 : (S_lift_Req → S_lift_Req → Option (Int))) (v_root300 : Int) (v_z345 : Bool) (v_z346 : (List S_lift_Req)) : Option G_slices_siftDownCmpFunc_lift_Req_h_C2_R :=
  if v_z345 = true then
   some (.x0 (wi .i64 ((wi .i64 ((wi .i64 (2 * v_root300)) + 1)) + 1)) v_z346)
  else
   some (.x0 (wi .i64 ((wi .i64 (2 * v_root300)) + 1)) v_z346)
theorem G_slices_siftDownCmpFunc_lift_Req_h_C2_ok {Fi : Ex → PS → Prop} (hF : KC 82 Fi) (ks : List Fr) (n : Nat) (v_hi297 : Int) (v_first298 : Int) (v_cmp299 : (S_lift_Req → S_lift_Req → Option (Int))) (v_root300 : Int) (v_z345 : Bool) (v_z346 : (List S_lift_Req)) (v_cmp299_g : FuncId) (v_cmp299_c : (List PV)) (v_cmp299_h : ∀ (x0 : S_lift_Req) (x1 : S_lift_Req) (r : Int), v_cmp299 x0 x1 = some r → Ret Try.prog v_cmp299_g ([eS_lift_Req x0, eS_lift_Req x1] ++ v_cmp299_c) ((eI .i64) r)) (o : G_slices_siftDownCmpFunc_lift_Req_h_C2_R) (h : G_slices_siftDownCmpFunc_lift_Req_h_C2 n v_hi297 v_first298 v_cmp299 v_root300 v_z345 v_z346 = some o) (q : RunE Try.prog 82 Fi ks (G_slices_siftDownCmpFunc_lift_Req_h_C2_ex o) (G_slices_siftDownCmpFunc_lift_Req_h_C2_st v_hi297 v_first298 v_cmp299 v_root300 v_z345 v_z346 v_cmp299_g v_cmp299_c o)) : RunE Try.prog 82 Fi (.s (cR (cL (cR (cR (cB (cP (cB (cR (bodyOf Try.f58))))))))) :: ks) .normal (G_slices_siftDownCmpFunc_lift_Req_h_C2_hd v_hi297 v_first298 v_cmp299 v_root300 v_z345 v_z346 v_cmp299_g v_cmp299_c) := by
  unfold G_slices_siftDownCmpFunc_lift_Req_h_C2 at h
  by_cases h206 : v_z345 = true
  · rw [if_pos h206] at h
    cases h
    exact pkk_sound TTok mix hF 2 (hs := [.t true]) (ts := []) (s := [0, 1]) (l := [0, 2, 3, 4, 10, 11]) (by kernel_rfl) (by kernel_rfl) (.cons h206 .nil) q
  · rw [if_neg h206] at h
    cases h
    exact pkk_sound TTok mix hF 2 (hs := [.t false]) (ts := []) (s := [0, 1]) (l := [0, 2, 3, 4, 10, 11]) (by kernel_rfl) (by kernel_rfl) (.cons (vf h206) .nil) q
inductive G_slices_siftDownCmpFunc_lift_Req_h_L3_R where
  | x0 (v_w332 : (List S_lift_Req))
  | x1 (v_w358 : (List S_lift_Req))
def G_slices_siftDownCmpFunc_lift_Req_h_L3_ex : G_slices_siftDownCmpFunc_lift_Req_h_L3_R → Ex
  | .x0 _ => .exit 0
  | .x1 _ => .ret
def G_slices_siftDownCmpFunc_lift_Req_h_L3_st (v_hi297 : Int) (v_first298 : Int) (v_cmp299 : (S_lift_Req → S_lift_Req → Option (Int))) (v_cmp299_g : FuncId) (v_cmp299_c : (List PV)) : G_slices_siftDownCmpFunc_lift_Req_h_L3_R → PS
  | .x0 v_w332 => ⟨(dds 82 []), [.gh 0 (.srf 1), .row 26 3 (v_w332.map eS_lift_Req)]⟩
  | .x1 v_w358 => ⟨(dds 82 []), [.gh 0 (.srf 1), .row 26 3 (v_w358.map eS_lift_Req)]⟩
def G_slices_siftDownCmpFunc_lift_Req_h_L3_hd (v_hi297 : Int) (v_first298 : Int) (v_cmp299 : (S_lift_Req → S_lift_Req → Option (Int))) (v_cmp299_g : FuncId) (v_cmp299_c : (List PV)) (v_root300 : Int) (v_w301 : (List S_lift_Req)) : PS := ⟨(.srf 1 :: dd :: .d (.v (.int .i64 v_hi297)) :: .d (.v (.int .i64 v_first298)) :: .d (.clo v_cmp299_g v_cmp299_c) :: dd :: dd :: dd :: dd :: dd :: .d (.v (.int .i64 v_root300)) :: (dds 71 [])), [.gh 0 (.srf 1), .row 26 3 (v_w301.map eS_lift_Req)]⟩
def G_slices_siftDownCmpFunc_lift_Req_h_L3 (n : Nat) (v_hi297 : Int) (v_first298 : Int) (v_cmp299 : (S_lift_Req → S_lift_Req → Option (Int))) : Nat → Int → (List S_lift_Req) → Option G_slices_siftDownCmpFunc_lift_Req_h_L3_R
  | 0, _, _ => none
  | k + 1, v_root300, v_w301 =>
    if (wi .i64 ((wi .i64 (2 * v_root300)) + 1)) ≥ v_hi297 then
     some (.x0 v_w301)
    else
     (G_slices_siftDownCmpFunc_lift_Req_h_C1 n v_hi297 v_first298 v_cmp299 v_root300 v_w301).bind fun v_o344 => match v_o344 with
     | .x0 v_z345 v_z346 =>
       (G_slices_siftDownCmpFunc_lift_Req_h_C2 n v_hi297 v_first298 v_cmp299 v_root300 v_z345 v_z346).bind fun v_o352 => match v_o352 with
       | .x0 v_z353 v_z354 =>
         if 0 ≤ (wi .i64 (v_first298 + v_root300)) ∧ ((wi .i64 (v_first298 + v_root300))).toNat < v_z354.length then
          (v_z354[((wi .i64 (v_first298 + v_root300))).toNat]?).bind fun (v_y355 : S_lift_Req) =>
          if 0 ≤ (wi .i64 (v_first298 + v_z353)) ∧ ((wi .i64 (v_first298 + v_z353))).toNat < v_z354.length then
           (v_z354[((wi .i64 (v_first298 + v_z353))).toNat]?).bind fun (v_y356 : S_lift_Req) =>
           (v_cmp299 v_y355 v_y356).bind fun (v_r357 : (Int)) =>
           if v_r357 < 0 then
            if 0 ≤ (wi .i64 (v_first298 + v_z353)) ∧ ((wi .i64 (v_first298 + v_z353))).toNat < v_z354.length then
             (v_z354[((wi .i64 (v_first298 + v_z353))).toNat]?).bind fun (v_y359 : S_lift_Req) =>
             if 0 ≤ (wi .i64 (v_first298 + v_root300)) ∧ ((wi .i64 (v_first298 + v_root300))).toNat < v_z354.length then
              (v_z354[((wi .i64 (v_first298 + v_root300))).toNat]?).bind fun (v_y360 : S_lift_Req) =>
              if 0 ≤ (wi .i64 (v_first298 + v_root300)) ∧ ((wi .i64 (v_first298 + v_root300))).toNat < v_z354.length then
               (v_z354[((wi .i64 (v_first298 + v_root300))).toNat]?).bind fun (v_y361 : S_lift_Req) =>
               if 0 ≤ (wi .i64 (v_first298 + v_z353)) ∧ ((wi .i64 (v_first298 + v_z353))).toNat < (v_z354.set ((wi .i64 (v_first298 + v_root300))).toNat v_y359).length then
                ((v_z354.set ((wi .i64 (v_first298 + v_root300))).toNat v_y359)[((wi .i64 (v_first298 + v_z353))).toNat]?).bind fun (v_y362 : S_lift_Req) =>
                G_slices_siftDownCmpFunc_lift_Req_h_L3 n v_hi297 v_first298 v_cmp299 k v_z353 ((v_z354.set ((wi .i64 (v_first298 + v_root300))).toNat v_y359).set ((wi .i64 (v_first298 + v_z353))).toNat v_y360)
               else none
              else none
             else none
            else none
           else
            some (.x1 v_z354)
          else none
         else none
theorem G_slices_siftDownCmpFunc_lift_Req_h_L3_ok {Fi : Ex → PS → Prop} (hF : KC 82 Fi) (ks : List Fr) (n : Nat) (v_hi297 : Int) (v_first298 : Int) (v_cmp299 : (S_lift_Req → S_lift_Req → Option (Int))) (v_cmp299_g : FuncId) (v_cmp299_c : (List PV)) (v_cmp299_h : ∀ (x0 : S_lift_Req) (x1 : S_lift_Req) (r : Int), v_cmp299 x0 x1 = some r → Ret Try.prog v_cmp299_g ([eS_lift_Req x0, eS_lift_Req x1] ++ v_cmp299_c) ((eI .i64) r)) : ∀ (k : Nat) (v_root300 : Int) (v_w301 : (List S_lift_Req)) (o : G_slices_siftDownCmpFunc_lift_Req_h_L3_R), G_slices_siftDownCmpFunc_lift_Req_h_L3 n v_hi297 v_first298 v_cmp299 k v_root300 v_w301 = some o → RunE Try.prog 82 Fi ks (G_slices_siftDownCmpFunc_lift_Req_h_L3_ex o) (G_slices_siftDownCmpFunc_lift_Req_h_L3_st v_hi297 v_first298 v_cmp299 v_cmp299_g v_cmp299_c o) → RunE Try.prog 82 Fi (.l k (cP (cB (cR (bodyOf Try.f58)))) :: ks) .normal (G_slices_siftDownCmpFunc_lift_Req_h_L3_hd v_hi297 v_first298 v_cmp299 v_cmp299_g v_cmp299_c v_root300 v_w301)
  | 0, v_root300, v_w301, o, h, q => by rw [G_slices_siftDownCmpFunc_lift_Req_h_L3] at h; cases h
  | k + 1, v_root300, v_w301, o, h, q => by
    rw [G_slices_siftDownCmpFunc_lift_Req_h_L3] at h
    by_cases h191 : (wi .i64 ((wi .i64 (2 * v_root300)) + 1)) ≥ v_hi297
    · rw [if_pos h191] at h
      cases h
      exact pkk_sound TTok mix hF 12 (hs := [.t true]) (ts := []) (s := [0, 1]) (l := []) (by kernel_rfl) (by kernel_rfl) (.cons (dt h191) .nil) q
    · rw [if_neg h191] at h
      obtain ⟨v_o344, h204, h⟩ := bind_some h
      refine pkk_sound TTok mix hF 11 (hs := [.t false]) (ts := []) (s := [0, 1]) (l := [0, 2, 3, 4, 10, 11]) (by kernel_rfl) (by kernel_rfl) (.cons (df h191) .nil) (G_slices_siftDownCmpFunc_lift_Req_h_C1_ok hF (.s (cR (cL (cR (cR (cB (cP (cB (cR (bodyOf Try.f58))))))))) :: .s (cR (cR (cR (cB (cP (cB (cR (bodyOf Try.f58)))))))) :: .b 1 :: .l k (cP (cB (cR (bodyOf Try.f58)))) :: ks) n v_hi297 v_first298 v_cmp299 v_root300 v_w301 v_cmp299_g v_cmp299_c v_cmp299_h _ h204 ?_)
      cases v_o344 with
      | x0 v_z345 v_z346 =>
        try dsimp only at h
        obtain ⟨v_o352, h207, h⟩ := bind_some h
        refine pkk_sound TTok mix hF 0 (hs := []) (ts := []) (s := [0, 1]) (l := [0, 2, 3, 4, 10, 11, 40]) (by kernel_rfl) (by kernel_rfl) .nil (G_slices_siftDownCmpFunc_lift_Req_h_C2_ok hF (.s (cR (cR (cR (cB (cP (cB (cR (bodyOf Try.f58)))))))) :: .b 1 :: .l k (cP (cB (cR (bodyOf Try.f58)))) :: ks) n v_hi297 v_first298 v_cmp299 v_root300 v_z345 v_z346 v_cmp299_g v_cmp299_c v_cmp299_h _ h207 ?_)
        cases v_o352 with
        | x0 v_z353 v_z354 =>
          try dsimp only at h
          by_cases h208 : 0 ≤ (wi .i64 (v_first298 + v_root300)) ∧ ((wi .i64 (v_first298 + v_root300))).toNat < v_z354.length
          · rw [if_pos h208] at h
            obtain ⟨v_y355, h209, h⟩ := bind_some h
            by_cases h210 : 0 ≤ (wi .i64 (v_first298 + v_z353)) ∧ ((wi .i64 (v_first298 + v_z353))).toNat < v_z354.length
            · rw [if_pos h210] at h
              obtain ⟨v_y356, h211, h⟩ := bind_some h
              obtain ⟨v_r357, h212, h⟩ := bind_some h
              by_cases h213 : v_r357 < 0
              · rw [if_pos h213] at h
                by_cases h214 : 0 ≤ (wi .i64 (v_first298 + v_z353)) ∧ ((wi .i64 (v_first298 + v_z353))).toNat < v_z354.length
                · rw [if_pos h214] at h
                  obtain ⟨v_y359, h215, h⟩ := bind_some h
                  by_cases h216 : 0 ≤ (wi .i64 (v_first298 + v_root300)) ∧ ((wi .i64 (v_first298 + v_root300))).toNat < v_z354.length
                  · rw [if_pos h216] at h
                    obtain ⟨v_y360, h217, h⟩ := bind_some h
                    by_cases h218 : 0 ≤ (wi .i64 (v_first298 + v_root300)) ∧ ((wi .i64 (v_first298 + v_root300))).toNat < v_z354.length
                    · rw [if_pos h218] at h
                      obtain ⟨v_y361, h219, h⟩ := bind_some h
                      by_cases h220 : 0 ≤ (wi .i64 (v_first298 + v_z353)) ∧ ((wi .i64 (v_first298 + v_z353))).toNat < (v_z354.set ((wi .i64 (v_first298 + v_root300))).toNat v_y359).length
                      · rw [if_pos h220] at h
                        obtain ⟨v_y362, h221, h⟩ := bind_some h
                        exact pkk_sound TTok mix hF 9 (hs := [.y (eS_lift_Req v_y355), .y (eS_lift_Req v_y356), .r ((eI .i64) v_r357), .t false, .y (eS_lift_Req v_y359), .y (eS_lift_Req v_y360), .w ((v_z354.set ((wi .i64 (v_first298 + v_root300))).toNat v_y359).map eS_lift_Req), .y (eS_lift_Req v_y361), .w (((v_z354.set ((wi .i64 (v_first298 + v_root300))).toNat v_y359).set ((wi .i64 (v_first298 + v_z353))).toNat v_y360).map eS_lift_Req), .y (eS_lift_Req v_y362)]) (ts := []) (s := [0, 1]) (l := [0, 2, 3, 4, 10]) (by kernel_rfl) (by kernel_rfl) (.cons (idx_ob (f := eS_lift_Req) h208) (.cons (get_ob (f := eS_lift_Req) h209) (.cons (idx_ob (f := eS_lift_Req) h210) (.cons (get_ob (f := eS_lift_Req) h211) (.cons (v_cmp299_h v_y355 v_y356 _ h212) (.cons (bnf (dt h213)) (.cons (idx_ob (f := eS_lift_Req) h214) (.cons (get_ob (f := eS_lift_Req) h215) (.cons (idx_ob (f := eS_lift_Req) h216) (.cons (get_ob (f := eS_lift_Req) h217) (.cons (idx_ob (f := eS_lift_Req) h218) (.cons (get_ob (f := eS_lift_Req) h219) (.cons (Eq.refl (pcells (.agg [.v (.int .i64 v_y359.fSector), .sl (v_y359.fData.map (eI .u8)), .v (.bool v_y359.fBarrier)]))) (.cons (set_ob (f := eS_lift_Req) (l := v_z354) (k := ((wi .i64 (v_first298 + v_root300))).toNat) (z := v_y359) (p := .agg [.v (.int .i64 v_y359.fSector), .sl (v_y359.fData.map (eI .u8)), .v (.bool v_y359.fBarrier)]) rfl) (.cons (idx_ob (f := eS_lift_Req) h220) (.cons (get_ob (f := eS_lift_Req) h221) (.cons (Eq.refl (pcells (.agg [.v (.int .i64 v_y360.fSector), .sl (v_y360.fData.map (eI .u8)), .v (.bool v_y360.fBarrier)]))) (.cons (set_ob (f := eS_lift_Req) (l := (v_z354.set ((wi .i64 (v_first298 + v_root300))).toNat v_y359)) (k := ((wi .i64 (v_first298 + v_z353))).toNat) (z := v_y360) (p := .agg [.v (.int .i64 v_y360.fSector), .sl (v_y360.fData.map (eI .u8)), .v (.bool v_y360.fBarrier)]) rfl) .nil)))))))))))))))))) (G_slices_siftDownCmpFunc_lift_Req_h_L3_ok hF ks n v_hi297 v_first298 v_cmp299 v_cmp299_g v_cmp299_c v_cmp299_h k v_z353 ((v_z354.set ((wi .i64 (v_first298 + v_root300))).toNat v_y359).set ((wi .i64 (v_first298 + v_z353))).toNat v_y360) _ h q)
                      · rw [if_neg h220] at h; cases h
                    · rw [if_neg h218] at h; cases h
                  · rw [if_neg h216] at h; cases h
                · rw [if_neg h214] at h; cases h
              · rw [if_neg h213] at h
                cases h
                exact pkk_sound TTok mix hF 8 (hs := [.y (eS_lift_Req v_y355), .y (eS_lift_Req v_y356), .r ((eI .i64) v_r357), .t true]) (ts := []) (s := [0, 1]) (l := []) (by kernel_rfl) (by kernel_rfl) (.cons (idx_ob (f := eS_lift_Req) h208) (.cons (get_ob (f := eS_lift_Req) h209) (.cons (idx_ob (f := eS_lift_Req) h210) (.cons (get_ob (f := eS_lift_Req) h211) (.cons (v_cmp299_h v_y355 v_y356 _ h212) (.cons (bnt (df h213)) .nil)))))) q
            · rw [if_neg h210] at h; cases h
          · rw [if_neg h208] at h; cases h
/- slices.siftDownCmpFunc[ringhall/lift.Req] -/
def G_slices_siftDownCmpFunc_lift_Req_h (n : Nat) (v_data295 : (List S_lift_Req)) (v_lo296 : Int) (v_hi297 : Int) (v_first298 : Int) (v_cmp299 : (S_lift_Req → S_lift_Req → Option (Int))) : Option ((List S_lift_Req)) :=
  (G_slices_siftDownCmpFunc_lift_Req_h_L3 n v_hi297 v_first298 v_cmp299 n v_lo296 v_data295).bind fun v_o363 => match v_o363 with
  | .x0 v_z364 =>
    some v_z364
  | .x1 v_z365 =>
    some v_z365
theorem G_slices_siftDownCmpFunc_lift_Req_h_ok (n : Nat) (v_data295 : (List S_lift_Req)) (v_lo296 : Int) (v_hi297 : Int) (v_first298 : Int) (v_cmp299 : (S_lift_Req → S_lift_Req → Option (Int))) (v_cmp299_g : FuncId) (v_cmp299_c : List PV) (v_cmp299_h : ∀ (x0 : S_lift_Req) (x1 : S_lift_Req) (r : Int), v_cmp299 x0 x1 = some r → Ret Try.prog v_cmp299_g ([eS_lift_Req x0, eS_lift_Req x1] ++ v_cmp299_c) ((eI .i64) r)) (r : (List S_lift_Req)) (h : G_slices_siftDownCmpFunc_lift_Req_h n v_data295 v_lo296 v_hi297 v_first298 v_cmp299 = some r) : RetH Try.prog 58 [.srf 0, .d ((eI .i64) v_lo296), .d ((eI .i64) v_hi297), .d ((eI .i64) v_first298), .d ((.clo v_cmp299_g v_cmp299_c))] [.row 26 3 (v_data295.map eS_lift_Req)] (.tup []) [.row 26 3 (r.map eS_lift_Req)] := by
  refine retH_run (n := 82) (fn := Try.f58) (c := bodyOf Try.f58) (by kernel_rfl) (by kernel_rfl) (by kernel_rfl) (by kernel_rfl) ?_
  have hF : KC 82 (FinH Try.prog Try.f58 [.row 26 3 (v_data295.map eS_lift_Req)] (.tup []) [.row 26 3 (r.map eS_lift_Req)]) := FinH.kc' (by kernel_rfl)
  unfold G_slices_siftDownCmpFunc_lift_Req_h at h
  obtain ⟨v_o363, h222, h⟩ := bind_some h
  refine pkk_sound TTok mix hF 4 (hs := [.n n]) (ts := []) (s := [1, 0]) (l := [0, 2, 3, 4, 10]) (by kernel_rfl) (by kernel_rfl) .nil (G_slices_siftDownCmpFunc_lift_Req_h_L3_ok hF (.b 0 :: []) n v_hi297 v_first298 v_cmp299 v_cmp299_g v_cmp299_c v_cmp299_h n v_lo296 v_data295 _ h222 ?_)
  cases v_o363 with
  | x0 v_z364 =>
    try dsimp only at h
    obtain rfl := Option.some.inj h
    exact pendH_sound TTok mix 1 (hs := []) [1] (by kernel_rfl) (by kernel_rfl) (by kernel_rfl) .nil
  | x1 v_z365 =>
    try dsimp only at h
    obtain rfl := Option.some.inj h
    exact pendH_sound TTok mix 1 (hs := []) [1] (by kernel_rfl) (by kernel_rfl) (by kernel_rfl) .nil
inductive G_slices_heapSortCmpFunc_lift_Req_h_L1_R where
  | x0 (v_w368 : (List S_lift_Req))
def G_slices_heapSortCmpFunc_lift_Req_h_L1_ex : G_slices_heapSortCmpFunc_lift_Req_h_L1_R → Ex
  | .x0 _ => .exit 0
def G_slices_heapSortCmpFunc_lift_Req_h_L1_st (v_cmp291 : (S_lift_Req → S_lift_Req → Option (Int))) (v_a289 : Int) (v_b290 : Int) (v_cmp291_g : FuncId) (v_cmp291_c : (List PV)) : G_slices_heapSortCmpFunc_lift_Req_h_L1_R → PS
  | .x0 v_w368 => ⟨(.srf 1 :: dd :: dd :: .d (.clo v_cmp291_g v_cmp291_c) :: dd :: dd :: dd :: dd :: .d (.v (.int .i64 v_a289)) :: .d (.v (.int .i64 0)) :: .d (.v (.int .i64 (wi .i64 (v_b290 - v_a289)))) :: (dds 49 [])), [.gh 0 (.srf 1), .row 26 3 (v_w368.map eS_lift_Req)]⟩
def G_slices_heapSortCmpFunc_lift_Req_h_L1_hd (v_cmp291 : (S_lift_Req → S_lift_Req → Option (Int))) (v_a289 : Int) (v_b290 : Int) (v_cmp291_g : FuncId) (v_cmp291_c : (List PV)) (v_i292 : Int) (v_w293 : (List S_lift_Req)) : PS := ⟨(.srf 1 :: dd :: dd :: .d (.clo v_cmp291_g v_cmp291_c) :: dd :: dd :: dd :: dd :: .d (.v (.int .i64 v_a289)) :: .d (.v (.int .i64 0)) :: .d (.v (.int .i64 (wi .i64 (v_b290 - v_a289)))) :: .d (.v (.int .i64 v_i292)) :: (dds 48 [])), [.gh 0 (.srf 1), .row 26 3 (v_w293.map eS_lift_Req)]⟩
def G_slices_heapSortCmpFunc_lift_Req_h_L1 (n : Nat) (v_cmp291 : (S_lift_Req → S_lift_Req → Option (Int))) (v_a289 : Int) (v_b290 : Int) : Nat → Int → (List S_lift_Req) → Option G_slices_heapSortCmpFunc_lift_Req_h_L1_R
  | 0, _, _ => none
  | k + 1, v_i292, v_w293 =>
    if v_i292 ≥ 0 then
     (G_slices_siftDownCmpFunc_lift_Req_h n v_w293 v_i292 (wi .i64 (v_b290 - v_a289)) v_a289 v_cmp291).bind fun (v_r367 : ((List S_lift_Req))) =>
     G_slices_heapSortCmpFunc_lift_Req_h_L1 n v_cmp291 v_a289 v_b290 k (wi .i64 (v_i292 - 1)) v_r367
    else
     some (.x0 v_w293)
theorem G_slices_heapSortCmpFunc_lift_Req_h_L1_ok {Fi : Ex → PS → Prop} (hF : KC 60 Fi) (ks : List Fr) (n : Nat) (v_cmp291 : (S_lift_Req → S_lift_Req → Option (Int))) (v_a289 : Int) (v_b290 : Int) (v_cmp291_g : FuncId) (v_cmp291_c : (List PV)) (v_cmp291_h : ∀ (x0 : S_lift_Req) (x1 : S_lift_Req) (r : Int), v_cmp291 x0 x1 = some r → Ret Try.prog v_cmp291_g ([eS_lift_Req x0, eS_lift_Req x1] ++ v_cmp291_c) ((eI .i64) r)) : ∀ (k : Nat) (v_i292 : Int) (v_w293 : (List S_lift_Req)) (o : G_slices_heapSortCmpFunc_lift_Req_h_L1_R), G_slices_heapSortCmpFunc_lift_Req_h_L1 n v_cmp291 v_a289 v_b290 k v_i292 v_w293 = some o → RunE Try.prog 60 Fi ks (G_slices_heapSortCmpFunc_lift_Req_h_L1_ex o) (G_slices_heapSortCmpFunc_lift_Req_h_L1_st v_cmp291 v_a289 v_b290 v_cmp291_g v_cmp291_c o) → RunE Try.prog 60 Fi (.l k (cP (cB (cR (cL (cR (cR (cR (bodyOf Try.f43)))))))) :: ks) .normal (G_slices_heapSortCmpFunc_lift_Req_h_L1_hd v_cmp291 v_a289 v_b290 v_cmp291_g v_cmp291_c v_i292 v_w293)
  | 0, v_i292, v_w293, o, h, q => by rw [G_slices_heapSortCmpFunc_lift_Req_h_L1] at h; cases h
  | k + 1, v_i292, v_w293, o, h, q => by
    rw [G_slices_heapSortCmpFunc_lift_Req_h_L1] at h
    by_cases h159 : v_i292 ≥ 0
    · rw [if_pos h159] at h
      obtain ⟨v_r367, h224, h⟩ := bind_some h
      exact pkk_sound TTok mix hF 11 (hs := [.t true, .h [1] [] [.row 26 3 (v_r367.map eS_lift_Req)] (.tup [])]) (ts := []) (s := [0, 1]) (l := [0, 3, 8, 9, 10, 11]) (by kernel_rfl) (by kernel_rfl) (.cons (dt h159) (.cons (G_slices_siftDownCmpFunc_lift_Req_h_ok n v_w293 v_i292 (wi .i64 (v_b290 - v_a289)) v_a289 v_cmp291 v_cmp291_g v_cmp291_c v_cmp291_h _ h224) .nil)) (G_slices_heapSortCmpFunc_lift_Req_h_L1_ok hF ks n v_cmp291 v_a289 v_b290 v_cmp291_g v_cmp291_c v_cmp291_h k (wi .i64 (v_i292 - 1)) v_r367 _ h q)
    · rw [if_neg h159] at h
      cases h
      exact pkk_sound TTok mix hF 8 (hs := [.t false]) (ts := []) (s := [0, 1]) (l := [0, 3, 8, 9, 10]) (by kernel_rfl) (by kernel_rfl) (.cons (df h159) .nil) q
inductive G_slices_heapSortCmpFunc_lift_Req_h_L2_R where
  | x0 (v_w384 : (List S_lift_Req))
def G_slices_heapSortCmpFunc_lift_Req_h_L2_ex : G_slices_heapSortCmpFunc_lift_Req_h_L2_R → Ex
  | .x0 _ => .exit 2
def G_slices_heapSortCmpFunc_lift_Req_h_L2_st (v_cmp291 : (S_lift_Req → S_lift_Req → Option (Int))) (v_a289 : Int) (v_cmp291_g : FuncId) (v_cmp291_c : (List PV)) : G_slices_heapSortCmpFunc_lift_Req_h_L2_R → PS
  | .x0 v_w384 => ⟨(dds 60 []), [.gh 0 (.srf 1), .row 26 3 (v_w384.map eS_lift_Req)]⟩
def G_slices_heapSortCmpFunc_lift_Req_h_L2_hd (v_cmp291 : (S_lift_Req → S_lift_Req → Option (Int))) (v_a289 : Int) (v_cmp291_g : FuncId) (v_cmp291_c : (List PV)) (v_i371 : Int) (v_w372 : (List S_lift_Req)) : PS := ⟨(.srf 1 :: dd :: dd :: .d (.clo v_cmp291_g v_cmp291_c) :: dd :: dd :: dd :: dd :: .d (.v (.int .i64 v_a289)) :: .d (.v (.int .i64 0)) :: dd :: dd :: .d (.v (.int .i64 v_i371)) :: (dds 47 [])), [.gh 0 (.srf 1), .row 26 3 (v_w372.map eS_lift_Req)]⟩
def G_slices_heapSortCmpFunc_lift_Req_h_L2 (n : Nat) (v_cmp291 : (S_lift_Req → S_lift_Req → Option (Int))) (v_a289 : Int) : Nat → Int → (List S_lift_Req) → Option G_slices_heapSortCmpFunc_lift_Req_h_L2_R
  | 0, _, _ => none
  | k + 1, v_i371, v_w372 =>
    if v_i371 ≥ 0 then
     if 0 ≤ (wi .i64 (v_a289 + v_i371)) ∧ ((wi .i64 (v_a289 + v_i371))).toNat < v_w372.length then
      (v_w372[((wi .i64 (v_a289 + v_i371))).toNat]?).bind fun (v_y379 : S_lift_Req) =>
      if 0 ≤ v_a289 ∧ (v_a289).toNat < v_w372.length then
       (v_w372[(v_a289).toNat]?).bind fun (v_y380 : S_lift_Req) =>
       if 0 ≤ v_a289 ∧ (v_a289).toNat < v_w372.length then
        (v_w372[(v_a289).toNat]?).bind fun (v_y381 : S_lift_Req) =>
        if 0 ≤ (wi .i64 (v_a289 + v_i371)) ∧ ((wi .i64 (v_a289 + v_i371))).toNat < (v_w372.set (v_a289).toNat v_y379).length then
         ((v_w372.set (v_a289).toNat v_y379)[((wi .i64 (v_a289 + v_i371))).toNat]?).bind fun (v_y382 : S_lift_Req) =>
         (G_slices_siftDownCmpFunc_lift_Req_h n ((v_w372.set (v_a289).toNat v_y379).set ((wi .i64 (v_a289 + v_i371))).toNat v_y380) 0 v_i371 v_a289 v_cmp291).bind fun (v_r383 : ((List S_lift_Req))) =>
         G_slices_heapSortCmpFunc_lift_Req_h_L2 n v_cmp291 v_a289 k (wi .i64 (v_i371 - 1)) v_r383
        else none
       else none
      else none
     else none
    else
     some (.x0 v_w372)
theorem G_slices_heapSortCmpFunc_lift_Req_h_L2_ok {Fi : Ex → PS → Prop} (hF : KC 60 Fi) (ks : List Fr) (n : Nat) (v_cmp291 : (S_lift_Req → S_lift_Req → Option (Int))) (v_a289 : Int) (v_cmp291_g : FuncId) (v_cmp291_c : (List PV)) (v_cmp291_h : ∀ (x0 : S_lift_Req) (x1 : S_lift_Req) (r : Int), v_cmp291 x0 x1 = some r → Ret Try.prog v_cmp291_g ([eS_lift_Req x0, eS_lift_Req x1] ++ v_cmp291_c) ((eI .i64) r)) : ∀ (k : Nat) (v_i371 : Int) (v_w372 : (List S_lift_Req)) (o : G_slices_heapSortCmpFunc_lift_Req_h_L2_R), G_slices_heapSortCmpFunc_lift_Req_h_L2 n v_cmp291 v_a289 k v_i371 v_w372 = some o → RunE Try.prog 60 Fi ks (G_slices_heapSortCmpFunc_lift_Req_h_L2_ex o) (G_slices_heapSortCmpFunc_lift_Req_h_L2_st v_cmp291 v_a289 v_cmp291_g v_cmp291_c o) → RunE Try.prog 60 Fi (.l k (cP (cB (cR (cR (cR (cR (cR (bodyOf Try.f43)))))))) :: ks) .normal (G_slices_heapSortCmpFunc_lift_Req_h_L2_hd v_cmp291 v_a289 v_cmp291_g v_cmp291_c v_i371 v_w372)
  | 0, v_i371, v_w372, o, h, q => by rw [G_slices_heapSortCmpFunc_lift_Req_h_L2] at h; cases h
  | k + 1, v_i371, v_w372, o, h, q => by
    rw [G_slices_heapSortCmpFunc_lift_Req_h_L2] at h
    by_cases h226 : v_i371 ≥ 0
    · rw [if_pos h226] at h
      by_cases h236 : 0 ≤ (wi .i64 (v_a289 + v_i371)) ∧ ((wi .i64 (v_a289 + v_i371))).toNat < v_w372.length
      · rw [if_pos h236] at h
        obtain ⟨v_y379, h237, h⟩ := bind_some h
        by_cases h238 : 0 ≤ v_a289 ∧ (v_a289).toNat < v_w372.length
        · rw [if_pos h238] at h
          obtain ⟨v_y380, h239, h⟩ := bind_some h
          by_cases h240 : 0 ≤ v_a289 ∧ (v_a289).toNat < v_w372.length
          · rw [if_pos h240] at h
            obtain ⟨v_y381, h241, h⟩ := bind_some h
            by_cases h242 : 0 ≤ (wi .i64 (v_a289 + v_i371)) ∧ ((wi .i64 (v_a289 + v_i371))).toNat < (v_w372.set (v_a289).toNat v_y379).length
            · rw [if_pos h242] at h
              obtain ⟨v_y382, h243, h⟩ := bind_some h
              obtain ⟨v_r383, h244, h⟩ := bind_some h
              exact pkk_sound TTok mix hF 13 (hs := [.t true, .y (eS_lift_Req v_y379), .y (eS_lift_Req v_y380), .w ((v_w372.set (v_a289).toNat v_y379).map eS_lift_Req), .y (eS_lift_Req v_y381), .w (((v_w372.set (v_a289).toNat v_y379).set ((wi .i64 (v_a289 + v_i371))).toNat v_y380).map eS_lift_Req), .y (eS_lift_Req v_y382), .h [1] [] [.row 26 3 (v_r383.map eS_lift_Req)] (.tup [])]) (ts := []) (s := [0, 1]) (l := [0, 3, 8, 9, 12]) (by kernel_rfl) (by kernel_rfl) (.cons (dt h226) (.cons (idx_ob (f := eS_lift_Req) h236) (.cons (get_ob (f := eS_lift_Req) h237) (.cons (idx_ob (f := eS_lift_Req) h238) (.cons (get_ob (f := eS_lift_Req) h239) (.cons (idx_ob (f := eS_lift_Req) h240) (.cons (get_ob (f := eS_lift_Req) h241) (.cons (Eq.refl (pcells (.agg [.v (.int .i64 v_y379.fSector), .sl (v_y379.fData.map (eI .u8)), .v (.bool v_y379.fBarrier)]))) (.cons (set_ob (f := eS_lift_Req) (l := v_w372) (k := (v_a289).toNat) (z := v_y379) (p := .agg [.v (.int .i64 v_y379.fSector), .sl (v_y379.fData.map (eI .u8)), .v (.bool v_y379.fBarrier)]) rfl) (.cons (idx_ob (f := eS_lift_Req) h242) (.cons (get_ob (f := eS_lift_Req) h243) (.cons (Eq.refl (pcells (.agg [.v (.int .i64 v_y380.fSector), .sl (v_y380.fData.map (eI .u8)), .v (.bool v_y380.fBarrier)]))) (.cons (set_ob (f := eS_lift_Req) (l := (v_w372.set (v_a289).toNat v_y379)) (k := ((wi .i64 (v_a289 + v_i371))).toNat) (z := v_y380) (p := .agg [.v (.int .i64 v_y380.fSector), .sl (v_y380.fData.map (eI .u8)), .v (.bool v_y380.fBarrier)]) rfl) (.cons (G_slices_siftDownCmpFunc_lift_Req_h_ok n ((v_w372.set (v_a289).toNat v_y379).set ((wi .i64 (v_a289 + v_i371))).toNat v_y380) 0 v_i371 v_a289 v_cmp291 v_cmp291_g v_cmp291_c v_cmp291_h _ h244) .nil)))))))))))))) (G_slices_heapSortCmpFunc_lift_Req_h_L2_ok hF ks n v_cmp291 v_a289 v_cmp291_g v_cmp291_c v_cmp291_h k (wi .i64 (v_i371 - 1)) v_r383 _ h q)
            · rw [if_neg h242] at h; cases h
          · rw [if_neg h240] at h; cases h
        · rw [if_neg h238] at h; cases h
      · rw [if_neg h236] at h; cases h
    · rw [if_neg h226] at h
      cases h
      exact pkk_sound TTok mix hF 8 (hs := [.t false]) (ts := []) (s := [0, 1]) (l := []) (by kernel_rfl) (by kernel_rfl) (.cons (df h226) .nil) q
/- slices.heapSortCmpFunc[ringhall/lift.Req] -/
def G_slices_heapSortCmpFunc_lift_Req_h (n : Nat) (v_data288 : (List S_lift_Req)) (v_a289 : Int) (v_b290 : Int) (v_cmp291 : (S_lift_Req → S_lift_Req → Option (Int))) : Option ((List S_lift_Req)) :=
  (G_slices_heapSortCmpFunc_lift_Req_h_L1 n v_cmp291 v_a289 v_b290 n (quoI .i64 (wi .i64 ((wi .i64 (v_b290 - v_a289)) - 1)) 2) v_data288).bind fun v_o369 => match v_o369 with
  | .x0 v_z370 =>
    (G_slices_heapSortCmpFunc_lift_Req_h_L2 n v_cmp291 v_a289 n (wi .i64 ((wi .i64 (v_b290 - v_a289)) - 1)) v_z370).bind fun v_o385 => match v_o385 with
    | .x0 v_z386 =>
      some v_z386
theorem G_slices_heapSortCmpFunc_lift_Req_h_ok (n : Nat) (v_data288 : (List S_lift_Req)) (v_a289 : Int) (v_b290 : Int) (v_cmp291 : (S_lift_Req → S_lift_Req → Option (Int))) (v_cmp291_g : FuncId) (v_cmp291_c : List PV) (v_cmp291_h : ∀ (x0 : S_lift_Req) (x1 : S_lift_Req) (r : Int), v_cmp291 x0 x1 = some r → Ret Try.prog v_cmp291_g ([eS_lift_Req x0, eS_lift_Req x1] ++ v_cmp291_c) ((eI .i64) r)) (r : (List S_lift_Req)) (h : G_slices_heapSortCmpFunc_lift_Req_h n v_data288 v_a289 v_b290 v_cmp291 = some r) : RetH Try.prog 43 [.srf 0, .d ((eI .i64) v_a289), .d ((eI .i64) v_b290), .d ((.clo v_cmp291_g v_cmp291_c))] [.row 26 3 (v_data288.map eS_lift_Req)] (.tup []) [.row 26 3 (r.map eS_lift_Req)] := by
  refine retH_run (n := 60) (fn := Try.f43) (c := bodyOf Try.f43) (by kernel_rfl) (by kernel_rfl) (by kernel_rfl) (by kernel_rfl) ?_
  have hF : KC 60 (FinH Try.prog Try.f43 [.row 26 3 (v_data288.map eS_lift_Req)] (.tup []) [.row 26 3 (r.map eS_lift_Req)]) := FinH.kc' (by kernel_rfl)
  unfold G_slices_heapSortCmpFunc_lift_Req_h at h
  obtain ⟨v_o369, h225, h⟩ := bind_some h
  refine pkk_sound TTok mix hF 11 (hs := [.n n]) (ts := []) (s := [1, 0]) (l := [0, 3, 8, 9, 10, 11]) (by kernel_rfl) (by kernel_rfl) (.cons (show (2 : Int) ≠ 0 by decide) .nil) (G_slices_heapSortCmpFunc_lift_Req_h_L1_ok hF (.b 0 :: .s (cR (cR (cR (cR (bodyOf Try.f43))))) :: []) n v_cmp291 v_a289 v_b290 v_cmp291_g v_cmp291_c v_cmp291_h n (quoI .i64 (wi .i64 ((wi .i64 (v_b290 - v_a289)) - 1)) 2) v_data288 _ h225 ?_)
  cases v_o369 with
  | x0 v_z370 =>
    try dsimp only at h
    obtain ⟨v_o385, h245, h⟩ := bind_some h
    refine pkk_sound TTok mix hF 5 (hs := [.n n]) (ts := []) (s := [0, 1]) (l := [0, 3, 8, 9, 12]) (by kernel_rfl) (by kernel_rfl) .nil (G_slices_heapSortCmpFunc_lift_Req_h_L2_ok hF (.b 2 :: []) n v_cmp291 v_a289 v_cmp291_g v_cmp291_c v_cmp291_h n (wi .i64 ((wi .i64 (v_b290 - v_a289)) - 1)) v_z370 _ h245 ?_)
    cases v_o385 with
    | x0 v_z386 =>
      try dsimp only at h
      obtain rfl := Option.some.inj h
      exact pendH_sound TTok mix 1 (hs := []) [1] (by kernel_rfl) (by kernel_rfl) (by kernel_rfl) .nil
/- slices.nextPowerOfTwo -/
def G_slices_nextPowerOfTwo (n : Nat) (v_length393 : Int) : Option (Int) :=
  (G_math_bits_Len n (wi .u64 v_length393)).bind fun (v_r394 : (Int)) =>
  if 0 ≤ v_r394 then
   some (shlI .u64 1 v_r394)
  else none
theorem G_slices_nextPowerOfTwo_ok (n : Nat) (v_length393 : Int) (r : Int) (h : G_slices_nextPowerOfTwo n v_length393 = some r) : Ret Try.prog 59 [(eI .i64) v_length393] ((eI .u64) r) := by
  refine ret_run (n := 7) (fn := Try.f59) (c := bodyOf Try.f59) (by kernel_rfl) (by kernel_rfl) (by kernel_rfl) (by kernel_rfl) ?_
  have hF : KC 7 (FinR Try.prog Try.f59 ((eI .u64) r)) := FinR.kc' (by kernel_rfl)
  unfold G_slices_nextPowerOfTwo at h
  obtain ⟨v_r394, h251, h⟩ := bind_some h
  by_cases h252 : 0 ≤ v_r394
  · rw [if_pos h252] at h
    obtain rfl := Option.some.inj h
    exact pend_sound TTok mix 5 (hs := [.r ((eI .i64) v_r394)]) (by kernel_rfl) (by kernel_rfl) (by kernel_rfl) (.cons (G_math_bits_Len_ok n (wi .u64 v_length393) _ h251) (.cons h252 .nil))
  · rw [if_neg h252] at h; cases h
/- (*slices.xorshift).Next -/
def G_slices_xorshift_Next_h (n : Nat) (v_r399 : Int) : Option (Int × Int) :=
  some ((bits .xor .u64 (bits .xor .u64 (bits .xor .u64 v_r399 (shlI .u64 v_r399 13)) (shrI .u64 (bits .xor .u64 v_r399 (shlI .u64 v_r399 13)) 7)) (shlI .u64 (bits .xor .u64 (bits .xor .u64 v_r399 (shlI .u64 v_r399 13)) (shrI .u64 (bits .xor .u64 v_r399 (shlI .u64 v_r399 13)) 7)) 17)), (bits .xor .u64 (bits .xor .u64 (bits .xor .u64 v_r399 (shlI .u64 v_r399 13)) (shrI .u64 (bits .xor .u64 v_r399 (shlI .u64 v_r399 13)) 7)) (shlI .u64 (bits .xor .u64 (bits .xor .u64 v_r399 (shlI .u64 v_r399 13)) (shrI .u64 (bits .xor .u64 v_r399 (shlI .u64 v_r399 13)) 7)) 17)))
theorem G_slices_xorshift_Next_h_ok (n : Nat) (v_r399 : Int) (r : Int × Int) (h : G_slices_xorshift_Next_h n v_r399 = some r) : RetH Try.prog 60 [.ref 0 0] [.box [.d (.v (.int .u64 v_r399))]] (.d ((eI .u64) r.1)) [.box [.d (.v (.int .u64 r.2))]] := by
  refine retH_run (n := 33) (fn := Try.f60) (c := bodyOf Try.f60) (by kernel_rfl) (by kernel_rfl) (by kernel_rfl) (by kernel_rfl) ?_
  have hF : KC 33 (FinH Try.prog Try.f60 [.box [.d (.v (.int .u64 v_r399))]] (.d ((eI .u64) r.1)) [.box [.d (.v (.int .u64 r.2))]]) := FinH.kc' (by kernel_rfl)
  unfold G_slices_xorshift_Next_h at h
  obtain rfl := Option.some.inj h
  exact pendH_sound TTok mix 11 (hs := [.c, .c, .c, .c, .c, .c, .c, .c, .c, .c]) [0] (by kernel_rfl) (by kernel_rfl) (by kernel_rfl) (.cons (show (0 : Int) ≤ 13 by decide) (.cons (show 0 + 1 ≤ 1 by decide) (.cons (show (0 : Int) ≤ 7 by decide) (.cons (show 0 + 1 ≤ 1 by decide) (.cons (show (0 : Int) ≤ 17 by decide) (.cons (show 0 + 1 ≤ 1 by decide) .nil))))))
inductive G_slices_breakPatternsCmpFunc_lift_Req_h_L1_R where
  | x0 (v_w436 : (List S_lift_Req))
def G_slices_breakPatternsCmpFunc_lift_Req_h_L1_ex : G_slices_breakPatternsCmpFunc_lift_Req_h_L1_R → Ex
  | .x0 _ => .exit 0
def G_slices_breakPatternsCmpFunc_lift_Req_h_L1_st (v_a390 : Int) (v_b391 : Int) (v_r395 : (Int)) : G_slices_breakPatternsCmpFunc_lift_Req_h_L1_R → PS
  | .x0 v_w436 => ⟨(dds 67 []), [.gh 0 (.srf 1), .row 26 3 (v_w436.map eS_lift_Req)]⟩
def G_slices_breakPatternsCmpFunc_lift_Req_h_L1_hd (v_a390 : Int) (v_b391 : Int) (v_r395 : (Int)) (v_idx414 : Int) (v_w415 : (List S_lift_Req)) (v_b416 : Int) : PS := ⟨(.srf 1 :: .d (.v (.int .i64 v_a390)) :: dd :: dd :: dd :: dd :: dd :: dd :: .d (.v (.int .i64 (wi .i64 (v_b391 - v_a390)))) :: .ref 2 0 :: .d (.v (.int .u64 v_r395)) :: .d (.v (.int .i64 v_idx414)) :: (dds 55 [])), [.gh 0 (.srf 1), .row 26 3 (v_w415.map eS_lift_Req), .box [.d (.v (.int .u64 v_b416))]]⟩
def G_slices_breakPatternsCmpFunc_lift_Req_h_L1 (n : Nat) (v_a390 : Int) (v_b391 : Int) (v_r395 : (Int)) : Nat → Int → (List S_lift_Req) → Int → Option G_slices_breakPatternsCmpFunc_lift_Req_h_L1_R
  | 0, _, _, _ => none
  | k + 1, v_idx414, v_w415, v_b416 =>
    if v_idx414 ≤ (wi .i64 ((wi .i64 (v_a390 + (wi .i64 ((quoI .i64 (wi .i64 (v_b391 - v_a390)) 4) * 2)))) + 1)) then
     (G_slices_xorshift_Next_h n v_b416).bind fun (v_r427 : (Int × Int)) =>
     if (wi .i64 (bits .and .u64 v_r427.1 (wi .u64 (v_r395 - 1)))) ≥ (wi .i64 (v_b391 - v_a390)) then
      if 0 ≤ (wi .i64 (v_a390 + (wi .i64 ((wi .i64 (bits .and .u64 v_r427.1 (wi .u64 (v_r395 - 1)))) - (wi .i64 (v_b391 - v_a390)))))) ∧ ((wi .i64 (v_a390 + (wi .i64 ((wi .i64 (bits .and .u64 v_r427.1 (wi .u64 (v_r395 - 1)))) - (wi .i64 (v_b391 - v_a390))))))).toNat < v_w415.length then
       (v_w415[((wi .i64 (v_a390 + (wi .i64 ((wi .i64 (bits .and .u64 v_r427.1 (wi .u64 (v_r395 - 1)))) - (wi .i64 (v_b391 - v_a390))))))).toNat]?).bind fun (v_y428 : S_lift_Req) =>
       if 0 ≤ v_idx414 ∧ (v_idx414).toNat < v_w415.length then
        (v_w415[(v_idx414).toNat]?).bind fun (v_y429 : S_lift_Req) =>
        if 0 ≤ v_idx414 ∧ (v_idx414).toNat < v_w415.length then
         (v_w415[(v_idx414).toNat]?).bind fun (v_y430 : S_lift_Req) =>
         if 0 ≤ (wi .i64 (v_a390 + (wi .i64 ((wi .i64 (bits .and .u64 v_r427.1 (wi .u64 (v_r395 - 1)))) - (wi .i64 (v_b391 - v_a390)))))) ∧ ((wi .i64 (v_a390 + (wi .i64 ((wi .i64 (bits .and .u64 v_r427.1 (wi .u64 (v_r395 - 1)))) - (wi .i64 (v_b391 - v_a390))))))).toNat < (v_w415.set (v_idx414).toNat v_y428).length then
          ((v_w415.set (v_idx414).toNat v_y428)[((wi .i64 (v_a390 + (wi .i64 ((wi .i64 (bits .and .u64 v_r427.1 (wi .u64 (v_r395 - 1)))) - (wi .i64 (v_b391 - v_a390))))))).toNat]?).bind fun (v_y431 : S_lift_Req) =>
          G_slices_breakPatternsCmpFunc_lift_Req_h_L1 n v_a390 v_b391 v_r395 k (wi .i64 (v_idx414 + 1)) ((v_w415.set (v_idx414).toNat v_y428).set ((wi .i64 (v_a390 + (wi .i64 ((wi .i64 (bits .and .u64 v_r427.1 (wi .u64 (v_r395 - 1)))) - (wi .i64 (v_b391 - v_a390))))))).toNat v_y429) v_r427.2
         else none
        else none
       else none
      else none
     else
      if 0 ≤ (wi .i64 (v_a390 + (wi .i64 (bits .and .u64 v_r427.1 (wi .u64 (v_r395 - 1)))))) ∧ ((wi .i64 (v_a390 + (wi .i64 (bits .and .u64 v_r427.1 (wi .u64 (v_r395 - 1))))))).toNat < v_w415.length then
       (v_w415[((wi .i64 (v_a390 + (wi .i64 (bits .and .u64 v_r427.1 (wi .u64 (v_r395 - 1))))))).toNat]?).bind fun (v_y432 : S_lift_Req) =>
       if 0 ≤ v_idx414 ∧ (v_idx414).toNat < v_w415.length then
        (v_w415[(v_idx414).toNat]?).bind fun (v_y433 : S_lift_Req) =>
        if 0 ≤ v_idx414 ∧ (v_idx414).toNat < v_w415.length then
         (v_w415[(v_idx414).toNat]?).bind fun (v_y434 : S_lift_Req) =>
         if 0 ≤ (wi .i64 (v_a390 + (wi .i64 (bits .and .u64 v_r427.1 (wi .u64 (v_r395 - 1)))))) ∧ ((wi .i64 (v_a390 + (wi .i64 (bits .and .u64 v_r427.1 (wi .u64 (v_r395 - 1))))))).toNat < (v_w415.set (v_idx414).toNat v_y432).length then
          ((v_w415.set (v_idx414).toNat v_y432)[((wi .i64 (v_a390 + (wi .i64 (bits .and .u64 v_r427.1 (wi .u64 (v_r395 - 1))))))).toNat]?).bind fun (v_y435 : S_lift_Req) =>
          G_slices_breakPatternsCmpFunc_lift_Req_h_L1 n v_a390 v_b391 v_r395 k (wi .i64 (v_idx414 + 1)) ((v_w415.set (v_idx414).toNat v_y432).set ((wi .i64 (v_a390 + (wi .i64 (bits .and .u64 v_r427.1 (wi .u64 (v_r395 - 1))))))).toNat v_y433) v_r427.2
         else none
        else none
       else none
      else none
    else
     some (.x0 v_w415)
theorem G_slices_breakPatternsCmpFunc_lift_Req_h_L1_ok {Fi : Ex → PS → Prop} (hF : KC 67 Fi) (ks : List Fr) (n : Nat) (v_a390 : Int) (v_b391 : Int) (v_r395 : (Int))  : ∀ (k : Nat) (v_idx414 : Int) (v_w415 : (List S_lift_Req)) (v_b416 : Int) (o : G_slices_breakPatternsCmpFunc_lift_Req_h_L1_R), G_slices_breakPatternsCmpFunc_lift_Req_h_L1 n v_a390 v_b391 v_r395 k v_idx414 v_w415 v_b416 = some o → RunE Try.prog 67 Fi ks (G_slices_breakPatternsCmpFunc_lift_Req_h_L1_ex o) (G_slices_breakPatternsCmpFunc_lift_Req_h_L1_st v_a390 v_b391 v_r395 o) → RunE Try.prog 67 Fi (.l k (cP (cB (cR (cR (cR (cT (cR (cR (bodyOf Try.f44))))))))) :: ks) .normal (G_slices_breakPatternsCmpFunc_lift_Req_h_L1_hd v_a390 v_b391 v_r395 v_idx414 v_w415 v_b416)
  | 0, v_idx414, v_w415, v_b416, o, h, q => by rw [G_slices_breakPatternsCmpFunc_lift_Req_h_L1] at h; cases h
  | k + 1, v_idx414, v_w415, v_b416, o, h, q => by
    rw [G_slices_breakPatternsCmpFunc_lift_Req_h_L1] at h
    by_cases h291 : v_idx414 ≤ (wi .i64 ((wi .i64 (v_a390 + (wi .i64 ((quoI .i64 (wi .i64 (v_b391 - v_a390)) 4) * 2)))) + 1))
    · rw [if_pos h291] at h
      obtain ⟨v_r427, h311, h⟩ := bind_some h
      by_cases h313 : (wi .i64 (bits .and .u64 v_r427.1 (wi .u64 (v_r395 - 1)))) ≥ (wi .i64 (v_b391 - v_a390))
      · rw [if_pos h313] at h
        by_cases h314 : 0 ≤ (wi .i64 (v_a390 + (wi .i64 ((wi .i64 (bits .and .u64 v_r427.1 (wi .u64 (v_r395 - 1)))) - (wi .i64 (v_b391 - v_a390)))))) ∧ ((wi .i64 (v_a390 + (wi .i64 ((wi .i64 (bits .and .u64 v_r427.1 (wi .u64 (v_r395 - 1)))) - (wi .i64 (v_b391 - v_a390))))))).toNat < v_w415.length
        · rw [if_pos h314] at h
          obtain ⟨v_y428, h315, h⟩ := bind_some h
          by_cases h316 : 0 ≤ v_idx414 ∧ (v_idx414).toNat < v_w415.length
          · rw [if_pos h316] at h
            obtain ⟨v_y429, h317, h⟩ := bind_some h
            by_cases h318 : 0 ≤ v_idx414 ∧ (v_idx414).toNat < v_w415.length
            · rw [if_pos h318] at h
              obtain ⟨v_y430, h319, h⟩ := bind_some h
              by_cases h320 : 0 ≤ (wi .i64 (v_a390 + (wi .i64 ((wi .i64 (bits .and .u64 v_r427.1 (wi .u64 (v_r395 - 1)))) - (wi .i64 (v_b391 - v_a390)))))) ∧ ((wi .i64 (v_a390 + (wi .i64 ((wi .i64 (bits .and .u64 v_r427.1 (wi .u64 (v_r395 - 1)))) - (wi .i64 (v_b391 - v_a390))))))).toNat < (v_w415.set (v_idx414).toNat v_y428).length
              · rw [if_pos h320] at h
                obtain ⟨v_y431, h321, h⟩ := bind_some h
                exact pkk_sound TTok mix hF 18 (hs := [.t true, .h [2] [] [.box [.d (.v (.int .u64 v_r427.2))]] (.d (.v (.int .u64 v_r427.1))), .t true, .y (eS_lift_Req v_y428), .y (eS_lift_Req v_y429), .w ((v_w415.set (v_idx414).toNat v_y428).map eS_lift_Req), .y (eS_lift_Req v_y430), .w (((v_w415.set (v_idx414).toNat v_y428).set ((wi .i64 (v_a390 + (wi .i64 ((wi .i64 (bits .and .u64 v_r427.1 (wi .u64 (v_r395 - 1)))) - (wi .i64 (v_b391 - v_a390))))))).toNat v_y429).map eS_lift_Req), .y (eS_lift_Req v_y431)]) (ts := []) (s := [0, 1, 2]) (l := [0, 1, 8, 9, 10, 11]) (by kernel_rfl) (by kernel_rfl) (.cons (show (4 : Int) ≠ 0 by decide) (.cons (dt h291) (.cons (G_slices_xorshift_Next_h_ok n v_b416 _ h311) (.cons (dt h313) (.cons (idx_ob (f := eS_lift_Req) h314) (.cons (get_ob (f := eS_lift_Req) h315) (.cons (idx_ob (f := eS_lift_Req) h316) (.cons (get_ob (f := eS_lift_Req) h317) (.cons (idx_ob (f := eS_lift_Req) h318) (.cons (get_ob (f := eS_lift_Req) h319) (.cons (Eq.refl (pcells (.agg [.v (.int .i64 v_y428.fSector), .sl (v_y428.fData.map (eI .u8)), .v (.bool v_y428.fBarrier)]))) (.cons (set_ob (f := eS_lift_Req) (l := v_w415) (k := (v_idx414).toNat) (z := v_y428) (p := .agg [.v (.int .i64 v_y428.fSector), .sl (v_y428.fData.map (eI .u8)), .v (.bool v_y428.fBarrier)]) rfl) (.cons (idx_ob (f := eS_lift_Req) h320) (.cons (get_ob (f := eS_lift_Req) h321) (.cons (Eq.refl (pcells (.agg [.v (.int .i64 v_y429.fSector), .sl (v_y429.fData.map (eI .u8)), .v (.bool v_y429.fBarrier)]))) (.cons (set_ob (f := eS_lift_Req) (l := (v_w415.set (v_idx414).toNat v_y428)) (k := ((wi .i64 (v_a390 + (wi .i64 ((wi .i64 (bits .and .u64 v_r427.1 (wi .u64 (v_r395 - 1)))) - (wi .i64 (v_b391 - v_a390))))))).toNat) (z := v_y429) (p := .agg [.v (.int .i64 v_y429.fSector), .sl (v_y429.fData.map (eI .u8)), .v (.bool v_y429.fBarrier)]) rfl) .nil)))))))))))))))) (G_slices_breakPatternsCmpFunc_lift_Req_h_L1_ok hF ks n v_a390 v_b391 v_r395 k (wi .i64 (v_idx414 + 1)) ((v_w415.set (v_idx414).toNat v_y428).set ((wi .i64 (v_a390 + (wi .i64 ((wi .i64 (bits .and .u64 v_r427.1 (wi .u64 (v_r395 - 1)))) - (wi .i64 (v_b391 - v_a390))))))).toNat v_y429) v_r427.2 _ h q)
              · rw [if_neg h320] at h; cases h
            · rw [if_neg h318] at h; cases h
          · rw [if_neg h316] at h; cases h
        · rw [if_neg h314] at h; cases h
      · rw [if_neg h313] at h
        by_cases h322 : 0 ≤ (wi .i64 (v_a390 + (wi .i64 (bits .and .u64 v_r427.1 (wi .u64 (v_r395 - 1)))))) ∧ ((wi .i64 (v_a390 + (wi .i64 (bits .and .u64 v_r427.1 (wi .u64 (v_r395 - 1))))))).toNat < v_w415.length
        · rw [if_pos h322] at h
          obtain ⟨v_y432, h323, h⟩ := bind_some h
          by_cases h324 : 0 ≤ v_idx414 ∧ (v_idx414).toNat < v_w415.length
          · rw [if_pos h324] at h
            obtain ⟨v_y433, h325, h⟩ := bind_some h
            by_cases h326 : 0 ≤ v_idx414 ∧ (v_idx414).toNat < v_w415.length
            · rw [if_pos h326] at h
              obtain ⟨v_y434, h327, h⟩ := bind_some h
              by_cases h328 : 0 ≤ (wi .i64 (v_a390 + (wi .i64 (bits .and .u64 v_r427.1 (wi .u64 (v_r395 - 1)))))) ∧ ((wi .i64 (v_a390 + (wi .i64 (bits .and .u64 v_r427.1 (wi .u64 (v_r395 - 1))))))).toNat < (v_w415.set (v_idx414).toNat v_y432).length
              · rw [if_pos h328] at h
                obtain ⟨v_y435, h329, h⟩ := bind_some h
                exact pkk_sound TTok mix hF 18 (hs := [.t true, .h [2] [] [.box [.d (.v (.int .u64 v_r427.2))]] (.d (.v (.int .u64 v_r427.1))), .t false, .y (eS_lift_Req v_y432), .y (eS_lift_Req v_y433), .w ((v_w415.set (v_idx414).toNat v_y432).map eS_lift_Req), .y (eS_lift_Req v_y434), .w (((v_w415.set (v_idx414).toNat v_y432).set ((wi .i64 (v_a390 + (wi .i64 (bits .and .u64 v_r427.1 (wi .u64 (v_r395 - 1))))))).toNat v_y433).map eS_lift_Req), .y (eS_lift_Req v_y435)]) (ts := []) (s := [0, 1, 2]) (l := [0, 1, 8, 9, 10, 11]) (by kernel_rfl) (by kernel_rfl) (.cons (show (4 : Int) ≠ 0 by decide) (.cons (dt h291) (.cons (G_slices_xorshift_Next_h_ok n v_b416 _ h311) (.cons (df h313) (.cons (idx_ob (f := eS_lift_Req) h322) (.cons (get_ob (f := eS_lift_Req) h323) (.cons (idx_ob (f := eS_lift_Req) h324) (.cons (get_ob (f := eS_lift_Req) h325) (.cons (idx_ob (f := eS_lift_Req) h326) (.cons (get_ob (f := eS_lift_Req) h327) (.cons (Eq.refl (pcells (.agg [.v (.int .i64 v_y432.fSector), .sl (v_y432.fData.map (eI .u8)), .v (.bool v_y432.fBarrier)]))) (.cons (set_ob (f := eS_lift_Req) (l := v_w415) (k := (v_idx414).toNat) (z := v_y432) (p := .agg [.v (.int .i64 v_y432.fSector), .sl (v_y432.fData.map (eI .u8)), .v (.bool v_y432.fBarrier)]) rfl) (.cons (idx_ob (f := eS_lift_Req) h328) (.cons (get_ob (f := eS_lift_Req) h329) (.cons (Eq.refl (pcells (.agg [.v (.int .i64 v_y433.fSector), .sl (v_y433.fData.map (eI .u8)), .v (.bool v_y433.fBarrier)]))) (.cons (set_ob (f := eS_lift_Req) (l := (v_w415.set (v_idx414).toNat v_y432)) (k := ((wi .i64 (v_a390 + (wi .i64 (bits .and .u64 v_r427.1 (wi .u64 (v_r395 - 1))))))).toNat) (z := v_y433) (p := .agg [.v (.int .i64 v_y433.fSector), .sl (v_y433.fData.map (eI .u8)), .v (.bool v_y433.fBarrier)]) rfl) .nil)))))))))))))))) (G_slices_breakPatternsCmpFunc_lift_Req_h_L1_ok hF ks n v_a390 v_b391 v_r395 k (wi .i64 (v_idx414 + 1)) ((v_w415.set (v_idx414).toNat v_y432).set ((wi .i64 (v_a390 + (wi .i64 (bits .and .u64 v_r427.1 (wi .u64 (v_r395 - 1))))))).toNat v_y433) v_r427.2 _ h q)
              · rw [if_neg h328] at h; cases h
            · rw [if_neg h326] at h; cases h
          · rw [if_neg h324] at h; cases h
        · rw [if_neg h322] at h; cases h
    · rw [if_neg h291] at h
      cases h
      exact pkk_sound TTok mix hF 8 (hs := [.t false]) (ts := []) (s := [0, 1]) (l := []) (by kernel_rfl) (by kernel_rfl) (.cons (show (4 : Int) ≠ 0 by decide) (.cons (df h291) .nil)) q
/- slices.breakPatternsCmpFunc[ringhall/lift.Req] -/
def G_slices_breakPatternsCmpFunc_lift_Req_h (n : Nat) (v_data389 : (List S_lift_Req)) (v_a390 : Int) (v_b391 : Int) (v_cmp392 : (S_lift_Req → S_lift_Req → Option (Int))) : Option ((List S_lift_Req)) :=
  if (wi .i64 (v_b391 - v_a390)) ≥ 8 then
   (G_slices_nextPowerOfTwo n (wi .i64 (v_b391 - v_a390))).bind fun (v_r395 : (Int)) =>
   (G_slices_breakPatternsCmpFunc_lift_Req_h_L1 n v_a390 v_b391 v_r395 n (wi .i64 ((wi .i64 (v_a390 + (wi .i64 ((quoI .i64 (wi .i64 (v_b391 - v_a390)) 4) * 2)))) - 1)) v_data389 (wi .u64 (wi .i64 (v_b391 - v_a390)))).bind fun v_o437 => match v_o437 with
   | .x0 v_z438 =>
     some v_z438
  else
   some v_data389
theorem G_slices_breakPatternsCmpFunc_lift_Req_h_ok (n : Nat) (v_data389 : (List S_lift_Req)) (v_a390 : Int) (v_b391 : Int) (v_cmp392 : (S_lift_Req → S_lift_Req → Option (Int))) (v_cmp392_g : FuncId) (v_cmp392_c : List PV) (v_cmp392_h : ∀ (x0 : S_lift_Req) (x1 : S_lift_Req) (r : Int), v_cmp392 x0 x1 = some r → Ret Try.prog v_cmp392_g ([eS_lift_Req x0, eS_lift_Req x1] ++ v_cmp392_c) ((eI .i64) r)) (r : (List S_lift_Req)) (h : G_slices_breakPatternsCmpFunc_lift_Req_h n v_data389 v_a390 v_b391 v_cmp392 = some r) : RetH Try.prog 44 [.srf 0, .d ((eI .i64) v_a390), .d ((eI .i64) v_b391), .d ((.clo v_cmp392_g v_cmp392_c))] [.row 26 3 (v_data389.map eS_lift_Req)] (.tup []) [.row 26 3 (r.map eS_lift_Req)] := by
  refine retH_run (n := 67) (fn := Try.f44) (c := bodyOf Try.f44) (by kernel_rfl) (by kernel_rfl) (by kernel_rfl) (by kernel_rfl) ?_
  have hF : KC 67 (FinH Try.prog Try.f44 [.row 26 3 (v_data389.map eS_lift_Req)] (.tup []) [.row 26 3 (r.map eS_lift_Req)]) := FinH.kc' (by kernel_rfl)
  unfold G_slices_breakPatternsCmpFunc_lift_Req_h at h
  by_cases h250 : (wi .i64 (v_b391 - v_a390)) ≥ 8
  · rw [if_pos h250] at h
    obtain ⟨v_r395, h253, h⟩ := bind_some h
    obtain ⟨v_o437, h330, h⟩ := bind_some h
    refine pkk_sound TTok mix hF 13 (hs := [.t true, .c, .r ((eI .u64) v_r395), .n n]) (ts := []) (s := [1, 0, 42]) (l := [0, 1, 8, 9, 10, 11]) (by kernel_rfl) (by kernel_rfl) (.cons (dt h250) (.cons (show 0 + 1 ≤ 1 by decide) (.cons (G_slices_nextPowerOfTwo_ok n (wi .i64 (v_b391 - v_a390)) _ h253) (.cons (show (4 : Int) ≠ 0 by decide) .nil)))) (G_slices_breakPatternsCmpFunc_lift_Req_h_L1_ok hF (.b 0 :: []) n v_a390 v_b391 v_r395 n (wi .i64 ((wi .i64 (v_a390 + (wi .i64 ((quoI .i64 (wi .i64 (v_b391 - v_a390)) 4) * 2)))) - 1)) v_data389 (wi .u64 (wi .i64 (v_b391 - v_a390))) _ h330 ?_)
    cases v_o437 with
    | x0 v_z438 =>
      try dsimp only at h
      obtain rfl := Option.some.inj h
      exact pendH_sound TTok mix 1 (hs := []) [1] (by kernel_rfl) (by kernel_rfl) (by kernel_rfl) .nil
  · rw [if_neg h250] at h
    obtain rfl := Option.some.inj h
    exact pendH_sound TTok mix 6 (hs := [.t false]) [0] (by kernel_rfl) (by kernel_rfl) (by kernel_rfl) (.cons (df h250) .nil)
/- slices.order2CmpFunc[ringhall/lift.Req] -/
def G_slices_order2CmpFunc_lift_Req_h (n : Nat) (v_data473 : (List S_lift_Req)) (v_a474 : Int) (v_b475 : Int) (v_swaps476 : Int) (v_cmp477 : (S_lift_Req → S_lift_Req → Option (Int))) : Option (Int × Int × Int) :=
  (getI v_data473 v_b475).bind fun (v_y478 : S_lift_Req) =>
  (getI v_data473 v_a474).bind fun (v_y479 : S_lift_Req) =>
  (v_cmp477 v_y478 v_y479).bind fun (v_r480 : (Int)) =>
  if v_r480 < 0 then
   some (v_b475, v_a474, (wi .i64 (v_swaps476 + 1)))
  else
   some (v_a474, v_b475, v_swaps476)
theorem G_slices_order2CmpFunc_lift_Req_h_ok (n : Nat) (v_data473 : (List S_lift_Req)) (v_a474 : Int) (v_b475 : Int) (v_swaps476 : Int) (v_cmp477 : (S_lift_Req → S_lift_Req → Option (Int))) (v_cmp477_g : FuncId) (v_cmp477_c : List PV) (v_cmp477_h : ∀ (x0 : S_lift_Req) (x1 : S_lift_Req) (r : Int), v_cmp477 x0 x1 = some r → Ret Try.prog v_cmp477_g ([eS_lift_Req x0, eS_lift_Req x1] ++ v_cmp477_c) ((eI .i64) r)) (r : Int × Int × Int) (h : G_slices_order2CmpFunc_lift_Req_h n v_data473 v_a474 v_b475 v_swaps476 v_cmp477 = some r) : RetH Try.prog 68 [.d ((eL eS_lift_Req) v_data473), .d ((eI .i64) v_a474), .d ((eI .i64) v_b475), .ref 0 0, .d ((.clo v_cmp477_g v_cmp477_c))] [.box [.d (.v (.int .i64 v_swaps476))]] (.tup [.d ((eI .i64) r.1), .d ((eI .i64) r.2.1)]) [.box [.d (.v (.int .i64 r.2.2))]] := by
  refine retH_run (n := 32) (fn := Try.f68) (c := bodyOf Try.f68) (by kernel_rfl) (by kernel_rfl) (by kernel_rfl) (by kernel_rfl) ?_
  have hF : KC 32 (FinH Try.prog Try.f68 [.box [.d (.v (.int .i64 v_swaps476))]] (.tup [.d ((eI .i64) r.1), .d ((eI .i64) r.2.1)]) [.box [.d (.v (.int .i64 r.2.2))]]) := FinH.kc' (by kernel_rfl)
  unfold G_slices_order2CmpFunc_lift_Req_h at h
  obtain ⟨v_y478, h340, h⟩ := bind_some h
  obtain ⟨v_y479, h341, h⟩ := bind_some h
  obtain ⟨v_r480, h342, h⟩ := bind_some h
  by_cases h344 : v_r480 < 0
  · rw [if_pos h344] at h
    obtain rfl := Option.some.inj h
    exact pendH_sound TTok mix 12 (hs := [.y (eS_lift_Req v_y478), .y (eS_lift_Req v_y479), .r ((eI .i64) v_r480), .t true, .c, .c]) [0] (by kernel_rfl) (by kernel_rfl) (by kernel_rfl) (.cons (getI_ob (f := eS_lift_Req) h340) (.cons (getI_ob (f := eS_lift_Req) h341) (.cons (v_cmp477_h v_y478 v_y479 _ h342) (.cons (dt h344) (.cons (show 0 + 1 ≤ 1 by decide) .nil)))))
  · rw [if_neg h344] at h
    obtain rfl := Option.some.inj h
    exact pendH_sound TTok mix 10 (hs := [.y (eS_lift_Req v_y478), .y (eS_lift_Req v_y479), .r ((eI .i64) v_r480), .t false]) [0] (by kernel_rfl) (by kernel_rfl) (by kernel_rfl) (.cons (getI_ob (f := eS_lift_Req) h340) (.cons (getI_ob (f := eS_lift_Req) h341) (.cons (v_cmp477_h v_y478 v_y479 _ h342) (.cons (df h344) .nil))))
/- slices.medianCmpFunc[ringhall/lift.Req] -/
def G_slices_medianCmpFunc_lift_Req_h (n : Nat) (v_data467 : (List S_lift_Req)) (v_a468 : Int) (v_b469 : Int) (v_c470 : Int) (v_swaps471 : Int) (v_cmp472 : (S_lift_Req → S_lift_Req → Option (Int))) : Option (Int × Int) :=
  (G_slices_order2CmpFunc_lift_Req_h n v_data467 v_a468 v_b469 v_swaps471 v_cmp472).bind fun (v_r481 : (Int × Int × Int)) =>
  (G_slices_order2CmpFunc_lift_Req_h n v_data467 v_r481.2.1 v_c470 v_r481.2.2 v_cmp472).bind fun (v_r482 : (Int × Int × Int)) =>
  (G_slices_order2CmpFunc_lift_Req_h n v_data467 v_r481.1 v_r482.1 v_r482.2.2 v_cmp472).bind fun (v_r483 : (Int × Int × Int)) =>
  some (v_r483.2.1, v_r483.2.2)
theorem G_slices_medianCmpFunc_lift_Req_h_ok (n : Nat) (v_data467 : (List S_lift_Req)) (v_a468 : Int) (v_b469 : Int) (v_c470 : Int) (v_swaps471 : Int) (v_cmp472 : (S_lift_Req → S_lift_Req → Option (Int))) (v_cmp472_g : FuncId) (v_cmp472_c : List PV) (v_cmp472_h : ∀ (x0 : S_lift_Req) (x1 : S_lift_Req) (r : Int), v_cmp472 x0 x1 = some r → Ret Try.prog v_cmp472_g ([eS_lift_Req x0, eS_lift_Req x1] ++ v_cmp472_c) ((eI .i64) r)) (r : Int × Int) (h : G_slices_medianCmpFunc_lift_Req_h n v_data467 v_a468 v_b469 v_c470 v_swaps471 v_cmp472 = some r) : RetH Try.prog 62 [.d ((eL eS_lift_Req) v_data467), .d ((eI .i64) v_a468), .d ((eI .i64) v_b469), .d ((eI .i64) v_c470), .ref 0 0, .d ((.clo v_cmp472_g v_cmp472_c))] [.box [.d (.v (.int .i64 v_swaps471))]] (.d ((eI .i64) r.1)) [.box [.d (.v (.int .i64 r.2))]] := by
  refine retH_run (n := 41) (fn := Try.f62) (c := bodyOf Try.f62) (by kernel_rfl) (by kernel_rfl) (by kernel_rfl) (by kernel_rfl) ?_
  have hF : KC 41 (FinH Try.prog Try.f62 [.box [.d (.v (.int .i64 v_swaps471))]] (.d ((eI .i64) r.1)) [.box [.d (.v (.int .i64 r.2))]]) := FinH.kc' (by kernel_rfl)
  unfold G_slices_medianCmpFunc_lift_Req_h at h
  obtain ⟨v_r481, h345, h⟩ := bind_some h
  obtain ⟨v_r482, h346, h⟩ := bind_some h
  obtain ⟨v_r483, h347, h⟩ := bind_some h
  obtain rfl := Option.some.inj h
  exact pendH_sound TTok mix 11 (hs := [.h [0] [] [.box [.d (.v (.int .i64 v_r481.2.2))]] (.tup [.d (.v (.int .i64 v_r481.1)), .d (.v (.int .i64 v_r481.2.1))]), .h [0] [] [.box [.d (.v (.int .i64 v_r482.2.2))]] (.tup [.d (.v (.int .i64 v_r482.1)), .d (.v (.int .i64 v_r482.2.1))]), .h [0] [] [.box [.d (.v (.int .i64 v_r483.2.2))]] (.tup [.d (.v (.int .i64 v_r483.1)), .d (.v (.int .i64 v_r483.2.1))])]) [0] (by kernel_rfl) (by kernel_rfl) (by kernel_rfl) (.cons (G_slices_order2CmpFunc_lift_Req_h_ok n v_data467 v_a468 v_b469 v_swaps471 v_cmp472 v_cmp472_g v_cmp472_c v_cmp472_h _ h345) (.cons (G_slices_order2CmpFunc_lift_Req_h_ok n v_data467 v_r481.2.1 v_c470 v_r481.2.2 v_cmp472 v_cmp472_g v_cmp472_c v_cmp472_h _ h346) (.cons (G_slices_order2CmpFunc_lift_Req_h_ok n v_data467 v_r481.1 v_r482.1 v_r482.2.2 v_cmp472 v_cmp472_g v_cmp472_c v_cmp472_h _ h347) .nil)))
/- slices.medianAdjacentCmpFunc[ringhall/lift.Req] -/
def G_slices_medianAdjacentCmpFunc_lift_Req_h (n : Nat) (v_data463 : (List S_lift_Req)) (v_a464 : Int) (v_swaps465 : Int) (v_cmp466 : (S_lift_Req → S_lift_Req → Option (Int))) : Option (Int × Int) :=
  (G_slices_medianCmpFunc_lift_Req_h n v_data463 (wi .i64 (v_a464 - 1)) v_a464 (wi .i64 (v_a464 + 1)) v_swaps465 v_cmp466).bind fun (v_r484 : (Int × Int)) =>
  some (v_r484.1, v_r484.2)
theorem G_slices_medianAdjacentCmpFunc_lift_Req_h_ok (n : Nat) (v_data463 : (List S_lift_Req)) (v_a464 : Int) (v_swaps465 : Int) (v_cmp466 : (S_lift_Req → S_lift_Req → Option (Int))) (v_cmp466_g : FuncId) (v_cmp466_c : List PV) (v_cmp466_h : ∀ (x0 : S_lift_Req) (x1 : S_lift_Req) (r : Int), v_cmp466 x0 x1 = some r → Ret Try.prog v_cmp466_g ([eS_lift_Req x0, eS_lift_Req x1] ++ v_cmp466_c) ((eI .i64) r)) (r : Int × Int) (h : G_slices_medianAdjacentCmpFunc_lift_Req_h n v_data463 v_a464 v_swaps465 v_cmp466 = some r) : RetH Try.prog 61 [.d ((eL eS_lift_Req) v_data463), .d ((eI .i64) v_a464), .ref 0 0, .d ((.clo v_cmp466_g v_cmp466_c))] [.box [.d (.v (.int .i64 v_swaps465))]] (.d ((eI .i64) r.1)) [.box [.d (.v (.int .i64 r.2))]] := by
  refine retH_run (n := 18) (fn := Try.f61) (c := bodyOf Try.f61) (by kernel_rfl) (by kernel_rfl) (by kernel_rfl) (by kernel_rfl) ?_
  have hF : KC 18 (FinH Try.prog Try.f61 [.box [.d (.v (.int .i64 v_swaps465))]] (.d ((eI .i64) r.1)) [.box [.d (.v (.int .i64 r.2))]]) := FinH.kc' (by kernel_rfl)
  unfold G_slices_medianAdjacentCmpFunc_lift_Req_h at h
  obtain ⟨v_r484, h348, h⟩ := bind_some h
  obtain rfl := Option.some.inj h
  exact pendH_sound TTok mix 5 (hs := [.h [0] [] [.box [.d (.v (.int .i64 v_r484.2))]] (.d (.v (.int .i64 v_r484.1)))]) [0] (by kernel_rfl) (by kernel_rfl) (by kernel_rfl) (.cons (G_slices_medianCmpFunc_lift_Req_h_ok n v_data463 (wi .i64 (v_a464 - 1)) v_a464 (wi .i64 (v_a464 + 1)) v_swaps465 v_cmp466 v_cmp466_g v_cmp466_c v_cmp466_h _ h348) .nil)
inductive G_slices_choosePivotCmpFunc_lift_Req_C1_R where
  | x0 (v_j629 : Int) (v_b630 : Int)
  | x1 (v_j634 : Int)
def G_slices_choosePivotCmpFunc_lift_Req_C1_ex : G_slices_choosePivotCmpFunc_lift_Req_C1_R → Ex
  | .x0 _ _ => .normal
  | .x1 _ => .normal
def G_slices_choosePivotCmpFunc_lift_Req_C1_st (v_data449 : (List S_lift_Req)) (v_cmp452 : (S_lift_Req → S_lift_Req → Option (Int))) (v_b451 : Int) (v_a450 : Int) (v_cmp452_g : FuncId) (v_cmp452_c : (List PV)) : G_slices_choosePivotCmpFunc_lift_Req_C1_R → PS
  | .x0 v_j629 v_b630 => ⟨(dds 11 (.ref 0 0 :: dd :: .d (.v (.int .i64 v_j629)) :: (dds 49 []))), [.box [.d (.v (.int .i64 v_b630))]]⟩
  | .x1 v_j634 => ⟨(dds 11 (.ref 0 0 :: dd :: .d (.v (.int .i64 v_j634)) :: (dds 49 []))), [.box [.d (.v (.int .i64 0))]]⟩
def G_slices_choosePivotCmpFunc_lift_Req_C1_hd (v_data449 : (List S_lift_Req)) (v_cmp452 : (S_lift_Req → S_lift_Req → Option (Int))) (v_b451 : Int) (v_a450 : Int) (v_cmp452_g : FuncId) (v_cmp452_c : (List PV))  : PS := ⟨(.d (.sl (v_data449.map eS_lift_Req)) :: dd :: dd :: .d (.clo v_cmp452_g v_cmp452_c) :: dd :: dd :: dd :: dd :: dd :: dd :: .d (.v (.int .i64 (wi .i64 (v_b451 - v_a450)))) :: .ref 0 0 :: .d (.v (.int .i64 (wi .i64 (v_a450 + (wi .i64 ((quoI .i64 (wi .i64 (v_b451 - v_a450)) 4) * 1)))))) :: .d (.v (.int .i64 (wi .i64 (v_a450 + (wi .i64 ((quoI .i64 (wi .i64 (v_b451 - v_a450)) 4) * 2)))))) :: .d (.v (.int .i64 (wi .i64 (v_a450 + (wi .i64 ((quoI .i64 (wi .i64 (v_b451 - v_a450)) 4) * 3)))))) :: (dds 19 (.d (.v (.bool (decide ((wi .i64 (v_b451 - v_a450)) ≥ 8)))) :: (dds 28 [])))), [.box [.d (.v (.int .i64 0))]]⟩
def G_slices_choosePivotCmpFunc_lift_Req_C1 (n : Nat) (v_data449 : (List S_lift_Req)) (v_cmp452 : (S_lift_Req → S_lift_Req → Option (Int))) (v_b451 : Int) (v_a450 : Int) : Option G_slices_choosePivotCmpFunc_lift_Req_C1_R :=
  if (wi .i64 (v_b451 - v_a450)) ≥ 8 then
   if (wi .i64 (v_b451 - v_a450)) ≥ 50 then
    (G_slices_medianAdjacentCmpFunc_lift_Req_h n v_data449 (wi .i64 (v_a450 + (wi .i64 ((quoI .i64 (wi .i64 (v_b451 - v_a450)) 4) * 1)))) 0 v_cmp452).bind fun (v_r625 : (Int × Int)) =>
    (G_slices_medianAdjacentCmpFunc_lift_Req_h n v_data449 (wi .i64 (v_a450 + (wi .i64 ((quoI .i64 (wi .i64 (v_b451 - v_a450)) 4) * 2)))) v_r625.2 v_cmp452).bind fun (v_r626 : (Int × Int)) =>
    (G_slices_medianAdjacentCmpFunc_lift_Req_h n v_data449 (wi .i64 (v_a450 + (wi .i64 ((quoI .i64 (wi .i64 (v_b451 - v_a450)) 4) * 3)))) v_r626.2 v_cmp452).bind fun (v_r627 : (Int × Int)) =>
    (G_slices_medianCmpFunc_lift_Req_h n v_data449 v_r625.1 v_r626.1 v_r627.1 v_r627.2 v_cmp452).bind fun (v_r628 : (Int × Int)) =>
    some (.x0 v_r628.1 v_r628.2)
   else
    (G_slices_medianCmpFunc_lift_Req_h n v_data449 (wi .i64 (v_a450 + (wi .i64 ((quoI .i64 (wi .i64 (v_b451 - v_a450)) 4) * 1)))) (wi .i64 (v_a450 + (wi .i64 ((quoI .i64 (wi .i64 (v_b451 - v_a450)) 4) * 2)))) (wi .i64 (v_a450 + (wi .i64 ((quoI .i64 (wi .i64 (v_b451 - v_a450)) 4) * 3)))) 0 v_cmp452).bind fun (v_r631 : (Int × Int)) =>
    some (.x0 v_r631.1 v_r631.2)
  else
   some (.x1 (wi .i64 (v_a450 + (wi .i64 ((quoI .i64 (wi .i64 (v_b451 - v_a450)) 4) * 2)))))
theorem G_slices_choosePivotCmpFunc_lift_Req_C1_ok {Fi : Ex → PS → Prop} (hF : KC 63 Fi) (ks : List Fr) (n : Nat) (v_data449 : (List S_lift_Req)) (v_cmp452 : (S_lift_Req → S_lift_Req → Option (Int))) (v_b451 : Int) (v_a450 : Int) (v_cmp452_g : FuncId) (v_cmp452_c : (List PV)) (v_cmp452_h : ∀ (x0 : S_lift_Req) (x1 : S_lift_Req) (r : Int), v_cmp452 x0 x1 = some r → Ret Try.prog v_cmp452_g ([eS_lift_Req x0, eS_lift_Req x1] ++ v_cmp452_c) ((eI .i64) r)) (o : G_slices_choosePivotCmpFunc_lift_Req_C1_R) (h : G_slices_choosePivotCmpFunc_lift_Req_C1 n v_data449 v_cmp452 v_b451 v_a450 = some o) (q : RunE Try.prog 63 Fi ks (G_slices_choosePivotCmpFunc_lift_Req_C1_ex o) (G_slices_choosePivotCmpFunc_lift_Req_C1_st v_data449 v_cmp452 v_b451 v_a450 v_cmp452_g v_cmp452_c o)) : RunE Try.prog 63 Fi (.s (cR (cL (cR (cR (cR (cR (cR (cR (bodyOf Try.f45))))))))) :: ks) .normal (G_slices_choosePivotCmpFunc_lift_Req_C1_hd v_data449 v_cmp452 v_b451 v_a450 v_cmp452_g v_cmp452_c) := by
  unfold G_slices_choosePivotCmpFunc_lift_Req_C1 at h
  by_cases h420 : (wi .i64 (v_b451 - v_a450)) ≥ 8
  · rw [if_pos h420] at h
    by_cases h425 : (wi .i64 (v_b451 - v_a450)) ≥ 50
    · rw [if_pos h425] at h
      obtain ⟨v_r625, h426, h⟩ := bind_some h
      obtain ⟨v_r626, h427, h⟩ := bind_some h
      obtain ⟨v_r627, h428, h⟩ := bind_some h
      obtain ⟨v_r628, h429, h⟩ := bind_some h
      cases h
      exact pkk_sound TTok mix hF 11 (hs := [.t true, .t true, .h [0] [] [.box [.d (.v (.int .i64 v_r625.2))]] (.d (.v (.int .i64 v_r625.1))), .h [0] [] [.box [.d (.v (.int .i64 v_r626.2))]] (.d (.v (.int .i64 v_r626.1))), .h [0] [] [.box [.d (.v (.int .i64 v_r627.2))]] (.d (.v (.int .i64 v_r627.1))), .h [0] [] [.box [.d (.v (.int .i64 v_r628.2))]] (.d (.v (.int .i64 v_r628.1)))]) (ts := []) (s := [0]) (l := [11, 13]) (by kernel_rfl) (by kernel_rfl) (.cons (dt h420) (.cons (dt h425) (.cons (G_slices_medianAdjacentCmpFunc_lift_Req_h_ok n v_data449 (wi .i64 (v_a450 + (wi .i64 ((quoI .i64 (wi .i64 (v_b451 - v_a450)) 4) * 1)))) 0 v_cmp452 v_cmp452_g v_cmp452_c v_cmp452_h _ h426) (.cons (G_slices_medianAdjacentCmpFunc_lift_Req_h_ok n v_data449 (wi .i64 (v_a450 + (wi .i64 ((quoI .i64 (wi .i64 (v_b451 - v_a450)) 4) * 2)))) v_r625.2 v_cmp452 v_cmp452_g v_cmp452_c v_cmp452_h _ h427) (.cons (G_slices_medianAdjacentCmpFunc_lift_Req_h_ok n v_data449 (wi .i64 (v_a450 + (wi .i64 ((quoI .i64 (wi .i64 (v_b451 - v_a450)) 4) * 3)))) v_r626.2 v_cmp452 v_cmp452_g v_cmp452_c v_cmp452_h _ h428) (.cons (G_slices_medianCmpFunc_lift_Req_h_ok n v_data449 v_r625.1 v_r626.1 v_r627.1 v_r627.2 v_cmp452 v_cmp452_g v_cmp452_c v_cmp452_h _ h429) .nil)))))) q
    · rw [if_neg h425] at h
      obtain ⟨v_r631, h430, h⟩ := bind_some h
      cases h
      exact pkk_sound TTok mix hF 7 (hs := [.t true, .t false, .h [0] [] [.box [.d (.v (.int .i64 v_r631.2))]] (.d (.v (.int .i64 v_r631.1)))]) (ts := []) (s := [0]) (l := [11, 13]) (by kernel_rfl) (by kernel_rfl) (.cons (dt h420) (.cons (df h425) (.cons (G_slices_medianCmpFunc_lift_Req_h_ok n v_data449 (wi .i64 (v_a450 + (wi .i64 ((quoI .i64 (wi .i64 (v_b451 - v_a450)) 4) * 1)))) (wi .i64 (v_a450 + (wi .i64 ((quoI .i64 (wi .i64 (v_b451 - v_a450)) 4) * 2)))) (wi .i64 (v_a450 + (wi .i64 ((quoI .i64 (wi .i64 (v_b451 - v_a450)) 4) * 3)))) 0 v_cmp452 v_cmp452_g v_cmp452_c v_cmp452_h _ h430) .nil))) q
  · rw [if_neg h420] at h
    cases h
    exact pkk_sound TTok mix hF 2 (hs := [.t false]) (ts := []) (s := [0]) (l := [11, 13]) (by kernel_rfl) (by kernel_rfl) (.cons (df h420) .nil) q
def G_slices_choosePivotCmpFunc_lift_Req_J1 (n : Nat)  (v_b640 : Int) (v_j641 : Int) : Option (Int × Int) :=
  if v_b640 = 0 then
   some (v_j641, 1)
  else
   if v_b640 = 12 then
    some (v_j641, 2)
   else
    some (v_j641, 0)
theorem G_slices_choosePivotCmpFunc_lift_Req_J1_ok (n : Nat)   (v_b640 : Int) (v_j641 : Int) (r : Int × Int) (h : G_slices_choosePivotCmpFunc_lift_Req_J1 n  v_b640 v_j641 = some r) : RunE Try.prog 63 (FinR Try.prog Try.f45 (.tup [(eI .i64) r.1, (eI .i64) r.2])) (.s (cR (cR (cR (cR (cR (cR (cR (bodyOf Try.f45)))))))) :: []) .normal ⟨(dds 11 (.ref 0 0 :: dd :: .d (.v (.int .i64 v_j641)) :: (dds 49 []))), [.box [.d (.v (.int .i64 v_b640))]]⟩ := by
  have hF : KC 63 (FinR Try.prog Try.f45 (.tup [(eI .i64) r.1, (eI .i64) r.2])) := FinR.kc' (by kernel_rfl)
  unfold G_slices_choosePivotCmpFunc_lift_Req_J1 at h
  by_cases h434 : v_b640 = 0
  · rw [if_pos h434] at h
    obtain rfl := Option.some.inj h
    exact pend_sound TTok mix 10 (hs := [.c, .t true]) (by kernel_rfl) (by kernel_rfl) (by kernel_rfl) (.cons (bt h434) .nil)
  · rw [if_neg h434] at h
    by_cases h436 : v_b640 = 12
    · rw [if_pos h436] at h
      obtain rfl := Option.some.inj h
      exact pend_sound TTok mix 13 (hs := [.c, .t false, .t true]) (by kernel_rfl) (by kernel_rfl) (by kernel_rfl) (.cons (bf h434) (.cons (bt h436) .nil))
    · rw [if_neg h436] at h
      obtain rfl := Option.some.inj h
      exact pend_sound TTok mix 13 (hs := [.c, .t false, .t false]) (by kernel_rfl) (by kernel_rfl) (by kernel_rfl) (.cons (bf h434) (.cons (bf h436) .nil))
/- slices.choosePivotCmpFunc[ringhall/lift.Req] -/
def G_slices_choosePivotCmpFunc_lift_Req (n : Nat) (v_data449 : (List S_lift_Req)) (v_a450 : Int) (v_b451 : Int) (v_cmp452 : (S_lift_Req → S_lift_Req → Option (Int))) : Option (Int × Int) :=
  (G_slices_choosePivotCmpFunc_lift_Req_C1 n v_data449 v_cmp452 v_b451 v_a450).bind fun v_o635 => match v_o635 with
  | .x0 v_z636 v_z637 =>
    G_slices_choosePivotCmpFunc_lift_Req_J1 n  v_z637 v_z636
  | .x1 v_z653 =>
    G_slices_choosePivotCmpFunc_lift_Req_J1 n  0 v_z653
theorem G_slices_choosePivotCmpFunc_lift_Req_ok (n : Nat) (v_data449 : (List S_lift_Req)) (v_a450 : Int) (v_b451 : Int) (v_cmp452 : (S_lift_Req → S_lift_Req → Option (Int))) (v_cmp452_g : FuncId) (v_cmp452_c : List PV) (v_cmp452_h : ∀ (x0 : S_lift_Req) (x1 : S_lift_Req) (r : Int), v_cmp452 x0 x1 = some r → Ret Try.prog v_cmp452_g ([eS_lift_Req x0, eS_lift_Req x1] ++ v_cmp452_c) ((eI .i64) r)) (r : Int × Int) (h : G_slices_choosePivotCmpFunc_lift_Req n v_data449 v_a450 v_b451 v_cmp452 = some r) : Ret Try.prog 45 [(eL eS_lift_Req) v_data449, (eI .i64) v_a450, (eI .i64) v_b451, (.clo v_cmp452_g v_cmp452_c)] (.tup [(eI .i64) r.1, (eI .i64) r.2]) := by
  refine ret_run (n := 63) (fn := Try.f45) (c := bodyOf Try.f45) (by kernel_rfl) (by kernel_rfl) (by kernel_rfl) (by kernel_rfl) ?_
  have hF : KC 63 (FinR Try.prog Try.f45 (.tup [(eI .i64) r.1, (eI .i64) r.2])) := FinR.kc' (by kernel_rfl)
  unfold G_slices_choosePivotCmpFunc_lift_Req at h
  obtain ⟨v_o635, h431, h⟩ := bind_some h
  refine pkk_sound TTok mix hF 15 (hs := []) (ts := []) (s := [30]) (l := [0, 3, 10, 11, 12, 13, 14, 34]) (by kernel_rfl) (by kernel_rfl) (.cons (show (4 : Int) ≠ 0 by decide) (.cons (show (4 : Int) ≠ 0 by decide) (.cons (show (4 : Int) ≠ 0 by decide) .nil))) (G_slices_choosePivotCmpFunc_lift_Req_C1_ok hF (.s (cR (cR (cR (cR (cR (cR (cR (bodyOf Try.f45)))))))) :: []) n v_data449 v_cmp452 v_b451 v_a450 v_cmp452_g v_cmp452_c v_cmp452_h _ h431 ?_)
  cases v_o635 with
  | x0 v_z636 v_z637 =>
    try dsimp only at h
    exact pkk_sound TTok mix hF 0 (hs := []) (ts := []) (s := [0]) (l := [11, 13]) (by kernel_rfl) (by kernel_rfl) .nil (G_slices_choosePivotCmpFunc_lift_Req_J1_ok n  v_z637 v_z636 _ h)
  | x1 v_z653 =>
    try dsimp only at h
    exact pkk_sound TTok mix hF 0 (hs := []) (ts := []) (s := [0]) (l := [11, 13]) (by kernel_rfl) (by kernel_rfl) .nil (G_slices_choosePivotCmpFunc_lift_Req_J1_ok n  0 v_z653 _ h)
inductive G_slices_reverseRangeCmpFunc_lift_Req_h_L1_R where
  | x0 (v_w675 : (List S_lift_Req))
def G_slices_reverseRangeCmpFunc_lift_Req_h_L1_ex : G_slices_reverseRangeCmpFunc_lift_Req_h_L1_R → Ex
  | .x0 _ => .exit 0
def G_slices_reverseRangeCmpFunc_lift_Req_h_L1_st  : G_slices_reverseRangeCmpFunc_lift_Req_h_L1_R → PS
  | .x0 v_w675 => ⟨(dds 34 []), [.gh 0 (.srf 1), .row 26 3 (v_w675.map eS_lift_Req)]⟩
def G_slices_reverseRangeCmpFunc_lift_Req_h_L1_hd  (v_i663 : Int) (v_j664 : Int) (v_w665 : (List S_lift_Req)) : PS := ⟨(.srf 1 :: dd :: dd :: dd :: dd :: dd :: dd :: dd :: .d (.v (.int .i64 v_i663)) :: .d (.v (.int .i64 v_j664)) :: (dds 24 [])), [.gh 0 (.srf 1), .row 26 3 (v_w665.map eS_lift_Req)]⟩
def G_slices_reverseRangeCmpFunc_lift_Req_h_L1 (n : Nat)  : Nat → Int → Int → (List S_lift_Req) → Option G_slices_reverseRangeCmpFunc_lift_Req_h_L1_R
  | 0, _, _, _ => none
  | k + 1, v_i663, v_j664, v_w665 =>
    if v_i663 < v_j664 then
     if 0 ≤ v_j664 ∧ (v_j664).toNat < v_w665.length then
      (v_w665[(v_j664).toNat]?).bind fun (v_y671 : S_lift_Req) =>
      if 0 ≤ v_i663 ∧ (v_i663).toNat < v_w665.length then
       (v_w665[(v_i663).toNat]?).bind fun (v_y672 : S_lift_Req) =>
       if 0 ≤ v_i663 ∧ (v_i663).toNat < v_w665.length then
        (v_w665[(v_i663).toNat]?).bind fun (v_y673 : S_lift_Req) =>
        if 0 ≤ v_j664 ∧ (v_j664).toNat < (v_w665.set (v_i663).toNat v_y671).length then
         ((v_w665.set (v_i663).toNat v_y671)[(v_j664).toNat]?).bind fun (v_y674 : S_lift_Req) =>
         G_slices_reverseRangeCmpFunc_lift_Req_h_L1 n  k (wi .i64 (v_i663 + 1)) (wi .i64 (v_j664 - 1)) ((v_w665.set (v_i663).toNat v_y671).set (v_j664).toNat v_y672)
        else none
       else none
      else none
     else none
    else
     some (.x0 v_w665)
theorem G_slices_reverseRangeCmpFunc_lift_Req_h_L1_ok {Fi : Ex → PS → Prop} (hF : KC 34 Fi) (ks : List Fr) (n : Nat)   : ∀ (k : Nat) (v_i663 : Int) (v_j664 : Int) (v_w665 : (List S_lift_Req)) (o : G_slices_reverseRangeCmpFunc_lift_Req_h_L1_R), G_slices_reverseRangeCmpFunc_lift_Req_h_L1 n  k v_i663 v_j664 v_w665 = some o → RunE Try.prog 34 Fi ks (G_slices_reverseRangeCmpFunc_lift_Req_h_L1_ex o) (G_slices_reverseRangeCmpFunc_lift_Req_h_L1_st  o) → RunE Try.prog 34 Fi (.l k (cP (cB (cR (cR (bodyOf Try.f46))))) :: ks) .normal (G_slices_reverseRangeCmpFunc_lift_Req_h_L1_hd  v_i663 v_j664 v_w665)
  | 0, v_i663, v_j664, v_w665, o, h, q => by rw [G_slices_reverseRangeCmpFunc_lift_Req_h_L1] at h; cases h
  | k + 1, v_i663, v_j664, v_w665, o, h, q => by
    rw [G_slices_reverseRangeCmpFunc_lift_Req_h_L1] at h
    by_cases h439 : v_i663 < v_j664
    · rw [if_pos h439] at h
      by_cases h448 : 0 ≤ v_j664 ∧ (v_j664).toNat < v_w665.length
      · rw [if_pos h448] at h
        obtain ⟨v_y671, h449, h⟩ := bind_some h
        by_cases h450 : 0 ≤ v_i663 ∧ (v_i663).toNat < v_w665.length
        · rw [if_pos h450] at h
          obtain ⟨v_y672, h451, h⟩ := bind_some h
          by_cases h452 : 0 ≤ v_i663 ∧ (v_i663).toNat < v_w665.length
          · rw [if_pos h452] at h
            obtain ⟨v_y673, h453, h⟩ := bind_some h
            by_cases h454 : 0 ≤ v_j664 ∧ (v_j664).toNat < (v_w665.set (v_i663).toNat v_y671).length
            · rw [if_pos h454] at h
              obtain ⟨v_y674, h455, h⟩ := bind_some h
              exact pkk_sound TTok mix hF 13 (hs := [.t true, .y (eS_lift_Req v_y671), .y (eS_lift_Req v_y672), .w ((v_w665.set (v_i663).toNat v_y671).map eS_lift_Req), .y (eS_lift_Req v_y673), .w (((v_w665.set (v_i663).toNat v_y671).set (v_j664).toNat v_y672).map eS_lift_Req), .y (eS_lift_Req v_y674)]) (ts := []) (s := [0, 1]) (l := [0, 8, 9]) (by kernel_rfl) (by kernel_rfl) (.cons (dt h439) (.cons (idx_ob (f := eS_lift_Req) h448) (.cons (get_ob (f := eS_lift_Req) h449) (.cons (idx_ob (f := eS_lift_Req) h450) (.cons (get_ob (f := eS_lift_Req) h451) (.cons (idx_ob (f := eS_lift_Req) h452) (.cons (get_ob (f := eS_lift_Req) h453) (.cons (Eq.refl (pcells (.agg [.v (.int .i64 v_y671.fSector), .sl (v_y671.fData.map (eI .u8)), .v (.bool v_y671.fBarrier)]))) (.cons (set_ob (f := eS_lift_Req) (l := v_w665) (k := (v_i663).toNat) (z := v_y671) (p := .agg [.v (.int .i64 v_y671.fSector), .sl (v_y671.fData.map (eI .u8)), .v (.bool v_y671.fBarrier)]) rfl) (.cons (idx_ob (f := eS_lift_Req) h454) (.cons (get_ob (f := eS_lift_Req) h455) (.cons (Eq.refl (pcells (.agg [.v (.int .i64 v_y672.fSector), .sl (v_y672.fData.map (eI .u8)), .v (.bool v_y672.fBarrier)]))) (.cons (set_ob (f := eS_lift_Req) (l := (v_w665.set (v_i663).toNat v_y671)) (k := (v_j664).toNat) (z := v_y672) (p := .agg [.v (.int .i64 v_y672.fSector), .sl (v_y672.fData.map (eI .u8)), .v (.bool v_y672.fBarrier)]) rfl) .nil))))))))))))) (G_slices_reverseRangeCmpFunc_lift_Req_h_L1_ok hF ks n  k (wi .i64 (v_i663 + 1)) (wi .i64 (v_j664 - 1)) ((v_w665.set (v_i663).toNat v_y671).set (v_j664).toNat v_y672) _ h q)
            · rw [if_neg h454] at h; cases h
          · rw [if_neg h452] at h; cases h
        · rw [if_neg h450] at h; cases h
      · rw [if_neg h448] at h; cases h
    · rw [if_neg h439] at h
      cases h
      exact pkk_sound TTok mix hF 8 (hs := [.t false]) (ts := []) (s := [0, 1]) (l := []) (by kernel_rfl) (by kernel_rfl) (.cons (df h439) .nil) q
/- slices.reverseRangeCmpFunc[ringhall/lift.Req] -/
def G_slices_reverseRangeCmpFunc_lift_Req_h (n : Nat) (v_data659 : (List S_lift_Req)) (v_a660 : Int) (v_b661 : Int) (v_cmp662 : (S_lift_Req → S_lift_Req → Option (Int))) : Option ((List S_lift_Req)) :=
  (G_slices_reverseRangeCmpFunc_lift_Req_h_L1 n  n v_a660 (wi .i64 (v_b661 - 1)) v_data659).bind fun v_o676 => match v_o676 with
  | .x0 v_z677 =>
    some v_z677
theorem G_slices_reverseRangeCmpFunc_lift_Req_h_ok (n : Nat) (v_data659 : (List S_lift_Req)) (v_a660 : Int) (v_b661 : Int) (v_cmp662 : (S_lift_Req → S_lift_Req → Option (Int))) (v_cmp662_g : FuncId) (v_cmp662_c : List PV) (v_cmp662_h : ∀ (x0 : S_lift_Req) (x1 : S_lift_Req) (r : Int), v_cmp662 x0 x1 = some r → Ret Try.prog v_cmp662_g ([eS_lift_Req x0, eS_lift_Req x1] ++ v_cmp662_c) ((eI .i64) r)) (r : (List S_lift_Req)) (h : G_slices_reverseRangeCmpFunc_lift_Req_h n v_data659 v_a660 v_b661 v_cmp662 = some r) : RetH Try.prog 46 [.srf 0, .d ((eI .i64) v_a660), .d ((eI .i64) v_b661), .d ((.clo v_cmp662_g v_cmp662_c))] [.row 26 3 (v_data659.map eS_lift_Req)] (.tup []) [.row 26 3 (r.map eS_lift_Req)] := by
  refine retH_run (n := 34) (fn := Try.f46) (c := bodyOf Try.f46) (by kernel_rfl) (by kernel_rfl) (by kernel_rfl) (by kernel_rfl) ?_
  have hF : KC 34 (FinH Try.prog Try.f46 [.row 26 3 (v_data659.map eS_lift_Req)] (.tup []) [.row 26 3 (r.map eS_lift_Req)]) := FinH.kc' (by kernel_rfl)
  unfold G_slices_reverseRangeCmpFunc_lift_Req_h at h
  obtain ⟨v_o676, h456, h⟩ := bind_some h
  refine pkk_sound TTok mix hF 6 (hs := [.n n]) (ts := []) (s := [1, 0]) (l := [0, 8, 9]) (by kernel_rfl) (by kernel_rfl) .nil (G_slices_reverseRangeCmpFunc_lift_Req_h_L1_ok hF (.b 0 :: []) n  n v_a660 (wi .i64 (v_b661 - 1)) v_data659 _ h456 ?_)
  cases v_o676 with
  | x0 v_z677 =>
    try dsimp only at h
    obtain rfl := Option.some.inj h
    exact pendH_sound TTok mix 1 (hs := []) [1] (by kernel_rfl) (by kernel_rfl) (by kernel_rfl) .nil
inductive G_slices_partialInsertionSortCmpFunc_lift_Req_h_L1_R where
  | x0 (v_i708 : Int) (v_w709 : (List S_lift_Req))
def G_slices_partialInsertionSortCmpFunc_lift_Req_h_L1_ex : G_slices_partialInsertionSortCmpFunc_lift_Req_h_L1_R → Ex
  | .x0 _ _ => .exit 2
def G_slices_partialInsertionSortCmpFunc_lift_Req_h_L1_st (v_a692 : Int) (v_b693 : Int) (v_cmp694 : (S_lift_Req → S_lift_Req → Option (Int))) (v_j696 : Int) (v_cmp694_g : FuncId) (v_cmp694_c : (List PV)) : G_slices_partialInsertionSortCmpFunc_lift_Req_h_L1_R → PS
  | .x0 v_i708 v_w709 => ⟨(.srf 1 :: .d (.v (.int .i64 v_a692)) :: .d (.v (.int .i64 v_b693)) :: .d (.clo v_cmp694_g v_cmp694_c) :: dd :: dd :: dd :: dd :: dd :: .d (.v (.int .i64 v_i708)) :: .d (.v (.int .i64 v_j696)) :: (dds 130 [])), [.gh 0 (.srf 1), .row 26 3 (v_w709.map eS_lift_Req)]⟩
def G_slices_partialInsertionSortCmpFunc_lift_Req_h_L1_hd (v_a692 : Int) (v_b693 : Int) (v_cmp694 : (S_lift_Req → S_lift_Req → Option (Int))) (v_j696 : Int) (v_cmp694_g : FuncId) (v_cmp694_c : (List PV)) (v_i699 : Int) (v_w700 : (List S_lift_Req)) : PS := ⟨(.srf 1 :: .d (.v (.int .i64 v_a692)) :: .d (.v (.int .i64 v_b693)) :: .d (.clo v_cmp694_g v_cmp694_c) :: dd :: dd :: dd :: dd :: dd :: .d (.v (.int .i64 v_i699)) :: .d (.v (.int .i64 v_j696)) :: (dds 130 [])), [.gh 0 (.srf 1), .row 26 3 (v_w700.map eS_lift_Req)]⟩
def G_slices_partialInsertionSortCmpFunc_lift_Req_h_L1 (n : Nat) (v_a692 : Int) (v_b693 : Int) (v_cmp694 : (S_lift_Req → S_lift_Req → Option (Int))) (v_j696 : Int) : Nat → Int → (List S_lift_Req) → Option G_slices_partialInsertionSortCmpFunc_lift_Req_h_L1_R
  | 0, _, _ => none
  | k + 1, v_i699, v_w700 =>
    if v_i699 < v_b693 then
     if 0 ≤ v_i699 ∧ (v_i699).toNat < v_w700.length then
      (v_w700[(v_i699).toNat]?).bind fun (v_y705 : S_lift_Req) =>
      if 0 ≤ (wi .i64 (v_i699 - 1)) ∧ ((wi .i64 (v_i699 - 1))).toNat < v_w700.length then
       (v_w700[((wi .i64 (v_i699 - 1))).toNat]?).bind fun (v_y706 : S_lift_Req) =>
       (v_cmp694 v_y705 v_y706).bind fun (v_r707 : (Int)) =>
       if v_r707 < 0 then
        some (.x0 v_i699 v_w700)
       else
        G_slices_partialInsertionSortCmpFunc_lift_Req_h_L1 n v_a692 v_b693 v_cmp694 v_j696 k (wi .i64 (v_i699 + 1)) v_w700
      else none
     else none
    else
     some (.x0 v_i699 v_w700)
theorem G_slices_partialInsertionSortCmpFunc_lift_Req_h_L1_ok {Fi : Ex → PS → Prop} (hF : KC 141 Fi) (ks : List Fr) (n : Nat) (v_a692 : Int) (v_b693 : Int) (v_cmp694 : (S_lift_Req → S_lift_Req → Option (Int))) (v_j696 : Int) (v_cmp694_g : FuncId) (v_cmp694_c : (List PV)) (v_cmp694_h : ∀ (x0 : S_lift_Req) (x1 : S_lift_Req) (r : Int), v_cmp694 x0 x1 = some r → Ret Try.prog v_cmp694_g ([eS_lift_Req x0, eS_lift_Req x1] ++ v_cmp694_c) ((eI .i64) r)) : ∀ (k : Nat) (v_i699 : Int) (v_w700 : (List S_lift_Req)) (o : G_slices_partialInsertionSortCmpFunc_lift_Req_h_L1_R), G_slices_partialInsertionSortCmpFunc_lift_Req_h_L1 n v_a692 v_b693 v_cmp694 v_j696 k v_i699 v_w700 = some o → RunE Try.prog 141 Fi ks (G_slices_partialInsertionSortCmpFunc_lift_Req_h_L1_ex o) (G_slices_partialInsertionSortCmpFunc_lift_Req_h_L1_st v_a692 v_b693 v_cmp694 v_j696 v_cmp694_g v_cmp694_c o) → RunE Try.prog 141 Fi (.l k (cP (cB (cL (cB (cL (cR (cP (cB (cR (cL (cR (cR (bodyOf Try.f47))))))))))))) :: ks) .normal (G_slices_partialInsertionSortCmpFunc_lift_Req_h_L1_hd v_a692 v_b693 v_cmp694 v_j696 v_cmp694_g v_cmp694_c v_i699 v_w700)
  | 0, v_i699, v_w700, o, h, q => by rw [G_slices_partialInsertionSortCmpFunc_lift_Req_h_L1] at h; cases h
  | k + 1, v_i699, v_w700, o, h, q => by
    rw [G_slices_partialInsertionSortCmpFunc_lift_Req_h_L1] at h
    by_cases h471 : v_i699 < v_b693
    · rw [if_pos h471] at h
      by_cases h472 : 0 ≤ v_i699 ∧ (v_i699).toNat < v_w700.length
      · rw [if_pos h472] at h
        obtain ⟨v_y705, h473, h⟩ := bind_some h
        by_cases h474 : 0 ≤ (wi .i64 (v_i699 - 1)) ∧ ((wi .i64 (v_i699 - 1))).toNat < v_w700.length
        · rw [if_pos h474] at h
          obtain ⟨v_y706, h475, h⟩ := bind_some h
          obtain ⟨v_r707, h476, h⟩ := bind_some h
          by_cases h477 : v_r707 < 0
          · rw [if_pos h477] at h
            cases h
            exact pkk_sound TTok mix hF 8 (hs := [.t true, .c, .c, .c, .c, .y (eS_lift_Req v_y705), .c, .c, .c, .c, .c, .y (eS_lift_Req v_y706), .c, .r ((eI .i64) v_r707), .c, .c, .t false]) (ts := []) (s := [0, 1]) (l := [0, 1, 2, 3, 9, 10]) (by kernel_rfl) (by kernel_rfl) (.cons (dt h471) (.cons (idx_ob (f := eS_lift_Req) h472) (.cons (get_ob (f := eS_lift_Req) h473) (.cons (idx_ob (f := eS_lift_Req) h474) (.cons (get_ob (f := eS_lift_Req) h475) (.cons (v_cmp694_h v_y705 v_y706 _ h476) (.cons (bnf (dt h477)) .nil))))))) q
          · rw [if_neg h477] at h
            exact pkk_sound TTok mix hF 9 (hs := [.t true, .c, .c, .c, .c, .y (eS_lift_Req v_y705), .c, .c, .c, .c, .c, .y (eS_lift_Req v_y706), .c, .r ((eI .i64) v_r707), .c, .c, .t true]) (ts := []) (s := [0, 1]) (l := [0, 1, 2, 3, 9, 10]) (by kernel_rfl) (by kernel_rfl) (.cons (dt h471) (.cons (idx_ob (f := eS_lift_Req) h472) (.cons (get_ob (f := eS_lift_Req) h473) (.cons (idx_ob (f := eS_lift_Req) h474) (.cons (get_ob (f := eS_lift_Req) h475) (.cons (v_cmp694_h v_y705 v_y706 _ h476) (.cons (bnt (df h477)) .nil))))))) (G_slices_partialInsertionSortCmpFunc_lift_Req_h_L1_ok hF ks n v_a692 v_b693 v_cmp694 v_j696 v_cmp694_g v_cmp694_c v_cmp694_h k (wi .i64 (v_i699 + 1)) v_w700 _ h q)
        · rw [if_neg h474] at h; cases h
      · rw [if_neg h472] at h; cases h
    · rw [if_neg h471] at h
      cases h
      exact pkk_sound TTok mix hF 8 (hs := [.t false, .c, .c, .c, .c, .c, .c, .c, .c, .c, .c, .c, .c, .c]) (ts := []) (s := [0, 1]) (l := [0, 1, 2, 3, 9, 10]) (by kernel_rfl) (by kernel_rfl) (.cons (df h471) .nil) q
inductive G_slices_partialInsertionSortCmpFunc_lift_Req_h_L2_R where
  | x0 (v_w736 : (List S_lift_Req))
def G_slices_partialInsertionSortCmpFunc_lift_Req_h_L2_ex : G_slices_partialInsertionSortCmpFunc_lift_Req_h_L2_R → Ex
  | .x0 _ => .exit 4
def G_slices_partialInsertionSortCmpFunc_lift_Req_h_L2_st (v_a692 : Int) (v_b693 : Int) (v_cmp694 : (S_lift_Req → S_lift_Req → Option (Int))) (v_z713 : Int) (v_j696 : Int) (v_cmp694_g : FuncId) (v_cmp694_c : (List PV)) : G_slices_partialInsertionSortCmpFunc_lift_Req_h_L2_R → PS
  | .x0 v_w736 => ⟨(.srf 1 :: .d (.v (.int .i64 v_a692)) :: .d (.v (.int .i64 v_b693)) :: .d (.clo v_cmp694_g v_cmp694_c) :: dd :: dd :: dd :: dd :: dd :: .d (.v (.int .i64 v_z713)) :: .d (.v (.int .i64 v_j696)) :: (dds 130 [])), [.gh 0 (.srf 1), .row 26 3 (v_w736.map eS_lift_Req)]⟩
def G_slices_partialInsertionSortCmpFunc_lift_Req_h_L2_hd (v_a692 : Int) (v_b693 : Int) (v_cmp694 : (S_lift_Req → S_lift_Req → Option (Int))) (v_z713 : Int) (v_j696 : Int) (v_cmp694_g : FuncId) (v_cmp694_c : (List PV)) (v_j723 : Int) (v_w724 : (List S_lift_Req)) : PS := ⟨(.srf 1 :: .d (.v (.int .i64 v_a692)) :: .d (.v (.int .i64 v_b693)) :: .d (.clo v_cmp694_g v_cmp694_c) :: dd :: dd :: dd :: dd :: dd :: .d (.v (.int .i64 v_z713)) :: .d (.v (.int .i64 v_j696)) :: .d (.v (.int .i64 v_j723)) :: (dds 129 [])), [.gh 0 (.srf 1), .row 26 3 (v_w724.map eS_lift_Req)]⟩
def G_slices_partialInsertionSortCmpFunc_lift_Req_h_L2 (n : Nat) (v_a692 : Int) (v_b693 : Int) (v_cmp694 : (S_lift_Req → S_lift_Req → Option (Int))) (v_z713 : Int) (v_j696 : Int) : Nat → Int → (List S_lift_Req) → Option G_slices_partialInsertionSortCmpFunc_lift_Req_h_L2_R
  | 0, _, _ => none
  | k + 1, v_j723, v_w724 =>
    if v_j723 ≥ 1 then
     if 0 ≤ v_j723 ∧ (v_j723).toNat < v_w724.length then
      (v_w724[(v_j723).toNat]?).bind fun (v_y733 : S_lift_Req) =>
      if 0 ≤ (wi .i64 (v_j723 - 1)) ∧ ((wi .i64 (v_j723 - 1))).toNat < v_w724.length then
       (v_w724[((wi .i64 (v_j723 - 1))).toNat]?).bind fun (v_y734 : S_lift_Req) =>
       (v_cmp694 v_y733 v_y734).bind fun (v_r735 : (Int)) =>
       if v_r735 < 0 then
        if 0 ≤ (wi .i64 (v_j723 - 1)) ∧ ((wi .i64 (v_j723 - 1))).toNat < v_w724.length then
         (v_w724[((wi .i64 (v_j723 - 1))).toNat]?).bind fun (v_y737 : S_lift_Req) =>
         if 0 ≤ v_j723 ∧ (v_j723).toNat < v_w724.length then
          (v_w724[(v_j723).toNat]?).bind fun (v_y738 : S_lift_Req) =>
          if 0 ≤ v_j723 ∧ (v_j723).toNat < v_w724.length then
           (v_w724[(v_j723).toNat]?).bind fun (v_y739 : S_lift_Req) =>
           if 0 ≤ (wi .i64 (v_j723 - 1)) ∧ ((wi .i64 (v_j723 - 1))).toNat < (v_w724.set (v_j723).toNat v_y737).length then
            ((v_w724.set (v_j723).toNat v_y737)[((wi .i64 (v_j723 - 1))).toNat]?).bind fun (v_y740 : S_lift_Req) =>
            G_slices_partialInsertionSortCmpFunc_lift_Req_h_L2 n v_a692 v_b693 v_cmp694 v_z713 v_j696 k (wi .i64 (v_j723 - 1)) ((v_w724.set (v_j723).toNat v_y737).set ((wi .i64 (v_j723 - 1))).toNat v_y738)
           else none
          else none
         else none
        else none
       else
        some (.x0 v_w724)
      else none
     else none
    else
     some (.x0 v_w724)
theorem G_slices_partialInsertionSortCmpFunc_lift_Req_h_L2_ok {Fi : Ex → PS → Prop} (hF : KC 141 Fi) (ks : List Fr) (n : Nat) (v_a692 : Int) (v_b693 : Int) (v_cmp694 : (S_lift_Req → S_lift_Req → Option (Int))) (v_z713 : Int) (v_j696 : Int) (v_cmp694_g : FuncId) (v_cmp694_c : (List PV)) (v_cmp694_h : ∀ (x0 : S_lift_Req) (x1 : S_lift_Req) (r : Int), v_cmp694 x0 x1 = some r → Ret Try.prog v_cmp694_g ([eS_lift_Req x0, eS_lift_Req x1] ++ v_cmp694_c) ((eI .i64) r)) : ∀ (k : Nat) (v_j723 : Int) (v_w724 : (List S_lift_Req)) (o : G_slices_partialInsertionSortCmpFunc_lift_Req_h_L2_R), G_slices_partialInsertionSortCmpFunc_lift_Req_h_L2 n v_a692 v_b693 v_cmp694 v_z713 v_j696 k v_j723 v_w724 = some o → RunE Try.prog 141 Fi ks (G_slices_partialInsertionSortCmpFunc_lift_Req_h_L2_ex o) (G_slices_partialInsertionSortCmpFunc_lift_Req_h_L2_st v_a692 v_b693 v_cmp694 v_z713 v_j696 v_cmp694_g v_cmp694_c o) → RunE Try.prog 141 Fi (.l k (cP (cB (cR (cT (cR (cL (cR (cR (cR (cR (cB (cL (cR (cP (cB (cR (cL (cR (cR (bodyOf Try.f47)))))))))))))))))))) :: ks) .normal (G_slices_partialInsertionSortCmpFunc_lift_Req_h_L2_hd v_a692 v_b693 v_cmp694 v_z713 v_j696 v_cmp694_g v_cmp694_c v_j723 v_w724)
  | 0, v_j723, v_w724, o, h, q => by rw [G_slices_partialInsertionSortCmpFunc_lift_Req_h_L2] at h; cases h
  | k + 1, v_j723, v_w724, o, h, q => by
    rw [G_slices_partialInsertionSortCmpFunc_lift_Req_h_L2] at h
    by_cases h490 : v_j723 ≥ 1
    · rw [if_pos h490] at h
      by_cases h505 : 0 ≤ v_j723 ∧ (v_j723).toNat < v_w724.length
      · rw [if_pos h505] at h
        obtain ⟨v_y733, h506, h⟩ := bind_some h
        by_cases h507 : 0 ≤ (wi .i64 (v_j723 - 1)) ∧ ((wi .i64 (v_j723 - 1))).toNat < v_w724.length
        · rw [if_pos h507] at h
          obtain ⟨v_y734, h508, h⟩ := bind_some h
          obtain ⟨v_r735, h509, h⟩ := bind_some h
          by_cases h510 : v_r735 < 0
          · rw [if_pos h510] at h
            by_cases h511 : 0 ≤ (wi .i64 (v_j723 - 1)) ∧ ((wi .i64 (v_j723 - 1))).toNat < v_w724.length
            · rw [if_pos h511] at h
              obtain ⟨v_y737, h512, h⟩ := bind_some h
              by_cases h513 : 0 ≤ v_j723 ∧ (v_j723).toNat < v_w724.length
              · rw [if_pos h513] at h
                obtain ⟨v_y738, h514, h⟩ := bind_some h
                by_cases h515 : 0 ≤ v_j723 ∧ (v_j723).toNat < v_w724.length
                · rw [if_pos h515] at h
                  obtain ⟨v_y739, h516, h⟩ := bind_some h
                  by_cases h517 : 0 ≤ (wi .i64 (v_j723 - 1)) ∧ ((wi .i64 (v_j723 - 1))).toNat < (v_w724.set (v_j723).toNat v_y737).length
                  · rw [if_pos h517] at h
                    obtain ⟨v_y740, h518, h⟩ := bind_some h
                    exact pkk_sound TTok mix hF 16 (hs := [.t true, .y (eS_lift_Req v_y733), .y (eS_lift_Req v_y734), .r ((eI .i64) v_r735), .t false, .y (eS_lift_Req v_y737), .y (eS_lift_Req v_y738), .w ((v_w724.set (v_j723).toNat v_y737).map eS_lift_Req), .y (eS_lift_Req v_y739), .w (((v_w724.set (v_j723).toNat v_y737).set ((wi .i64 (v_j723 - 1))).toNat v_y738).map eS_lift_Req), .y (eS_lift_Req v_y740)]) (ts := []) (s := [0, 1]) (l := [0, 1, 2, 3, 9, 10, 11]) (by kernel_rfl) (by kernel_rfl) (.cons (dt h490) (.cons (idx_ob (f := eS_lift_Req) h505) (.cons (get_ob (f := eS_lift_Req) h506) (.cons (idx_ob (f := eS_lift_Req) h507) (.cons (get_ob (f := eS_lift_Req) h508) (.cons (v_cmp694_h v_y733 v_y734 _ h509) (.cons (bnf (dt h510)) (.cons (idx_ob (f := eS_lift_Req) h511) (.cons (get_ob (f := eS_lift_Req) h512) (.cons (idx_ob (f := eS_lift_Req) h513) (.cons (get_ob (f := eS_lift_Req) h514) (.cons (idx_ob (f := eS_lift_Req) h515) (.cons (get_ob (f := eS_lift_Req) h516) (.cons (Eq.refl (pcells (.agg [.v (.int .i64 v_y737.fSector), .sl (v_y737.fData.map (eI .u8)), .v (.bool v_y737.fBarrier)]))) (.cons (set_ob (f := eS_lift_Req) (l := v_w724) (k := (v_j723).toNat) (z := v_y737) (p := .agg [.v (.int .i64 v_y737.fSector), .sl (v_y737.fData.map (eI .u8)), .v (.bool v_y737.fBarrier)]) rfl) (.cons (idx_ob (f := eS_lift_Req) h517) (.cons (get_ob (f := eS_lift_Req) h518) (.cons (Eq.refl (pcells (.agg [.v (.int .i64 v_y738.fSector), .sl (v_y738.fData.map (eI .u8)), .v (.bool v_y738.fBarrier)]))) (.cons (set_ob (f := eS_lift_Req) (l := (v_w724.set (v_j723).toNat v_y737)) (k := ((wi .i64 (v_j723 - 1))).toNat) (z := v_y738) (p := .agg [.v (.int .i64 v_y738.fSector), .sl (v_y738.fData.map (eI .u8)), .v (.bool v_y738.fBarrier)]) rfl) .nil))))))))))))))))))) (G_slices_partialInsertionSortCmpFunc_lift_Req_h_L2_ok hF ks n v_a692 v_b693 v_cmp694 v_z713 v_j696 v_cmp694_g v_cmp694_c v_cmp694_h k (wi .i64 (v_j723 - 1)) ((v_w724.set (v_j723).toNat v_y737).set ((wi .i64 (v_j723 - 1))).toNat v_y738) _ h q)
                  · rw [if_neg h517] at h; cases h
                · rw [if_neg h515] at h; cases h
              · rw [if_neg h513] at h; cases h
            · rw [if_neg h511] at h; cases h
          · rw [if_neg h510] at h
            cases h
            exact pkk_sound TTok mix hF 17 (hs := [.t true, .y (eS_lift_Req v_y733), .y (eS_lift_Req v_y734), .r ((eI .i64) v_r735), .t true]) (ts := []) (s := [0, 1]) (l := [0, 1, 2, 3, 9, 10]) (by kernel_rfl) (by kernel_rfl) (.cons (dt h490) (.cons (idx_ob (f := eS_lift_Req) h505) (.cons (get_ob (f := eS_lift_Req) h506) (.cons (idx_ob (f := eS_lift_Req) h507) (.cons (get_ob (f := eS_lift_Req) h508) (.cons (v_cmp694_h v_y733 v_y734 _ h509) (.cons (bnt (df h510)) .nil))))))) q
        · rw [if_neg h507] at h; cases h
      · rw [if_neg h505] at h; cases h
    · rw [if_neg h490] at h
      cases h
      exact pkk_sound TTok mix hF 8 (hs := [.t false]) (ts := []) (s := [0, 1]) (l := [0, 1, 2, 3, 9, 10]) (by kernel_rfl) (by kernel_rfl) (.cons (df h490) .nil) q
inductive G_slices_partialInsertionSortCmpFunc_lift_Req_h_L3_R where
  | x0 (v_w757 : (List S_lift_Req))
def G_slices_partialInsertionSortCmpFunc_lift_Req_h_L3_ex : G_slices_partialInsertionSortCmpFunc_lift_Req_h_L3_R → Ex
  | .x0 _ => .exit 6
def G_slices_partialInsertionSortCmpFunc_lift_Req_h_L3_st (v_a692 : Int) (v_b693 : Int) (v_cmp694 : (S_lift_Req → S_lift_Req → Option (Int))) (v_z713 : Int) (v_j696 : Int) (v_cmp694_g : FuncId) (v_cmp694_c : (List PV)) : G_slices_partialInsertionSortCmpFunc_lift_Req_h_L3_R → PS
  | .x0 v_w757 => ⟨(.srf 1 :: .d (.v (.int .i64 v_a692)) :: .d (.v (.int .i64 v_b693)) :: .d (.clo v_cmp694_g v_cmp694_c) :: dd :: dd :: dd :: dd :: dd :: .d (.v (.int .i64 v_z713)) :: .d (.v (.int .i64 v_j696)) :: (dds 130 [])), [.gh 0 (.srf 1), .row 26 3 (v_w757.map eS_lift_Req)]⟩
def G_slices_partialInsertionSortCmpFunc_lift_Req_h_L3_hd (v_a692 : Int) (v_b693 : Int) (v_cmp694 : (S_lift_Req → S_lift_Req → Option (Int))) (v_z713 : Int) (v_j696 : Int) (v_cmp694_g : FuncId) (v_cmp694_c : (List PV)) (v_j744 : Int) (v_w745 : (List S_lift_Req)) : PS := ⟨(.srf 1 :: .d (.v (.int .i64 v_a692)) :: .d (.v (.int .i64 v_b693)) :: .d (.clo v_cmp694_g v_cmp694_c) :: dd :: dd :: dd :: dd :: dd :: .d (.v (.int .i64 v_z713)) :: .d (.v (.int .i64 v_j696)) :: dd :: .d (.v (.int .i64 v_j744)) :: (dds 128 [])), [.gh 0 (.srf 1), .row 26 3 (v_w745.map eS_lift_Req)]⟩
def G_slices_partialInsertionSortCmpFunc_lift_Req_h_L3 (n : Nat) (v_a692 : Int) (v_b693 : Int) (v_cmp694 : (S_lift_Req → S_lift_Req → Option (Int))) (v_z713 : Int) (v_j696 : Int) : Nat → Int → (List S_lift_Req) → Option G_slices_partialInsertionSortCmpFunc_lift_Req_h_L3_R
  | 0, _, _ => none
  | k + 1, v_j744, v_w745 =>
    if v_j744 < v_b693 then
     if 0 ≤ v_j744 ∧ (v_j744).toNat < v_w745.length then
      (v_w745[(v_j744).toNat]?).bind fun (v_y754 : S_lift_Req) =>
      if 0 ≤ (wi .i64 (v_j744 - 1)) ∧ ((wi .i64 (v_j744 - 1))).toNat < v_w745.length then
       (v_w745[((wi .i64 (v_j744 - 1))).toNat]?).bind fun (v_y755 : S_lift_Req) =>
       (v_cmp694 v_y754 v_y755).bind fun (v_r756 : (Int)) =>
       if v_r756 < 0 then
        if 0 ≤ (wi .i64 (v_j744 - 1)) ∧ ((wi .i64 (v_j744 - 1))).toNat < v_w745.length then
         (v_w745[((wi .i64 (v_j744 - 1))).toNat]?).bind fun (v_y758 : S_lift_Req) =>
         if 0 ≤ v_j744 ∧ (v_j744).toNat < v_w745.length then
          (v_w745[(v_j744).toNat]?).bind fun (v_y759 : S_lift_Req) =>
          if 0 ≤ v_j744 ∧ (v_j744).toNat < v_w745.length then
           (v_w745[(v_j744).toNat]?).bind fun (v_y760 : S_lift_Req) =>
           if 0 ≤ (wi .i64 (v_j744 - 1)) ∧ ((wi .i64 (v_j744 - 1))).toNat < (v_w745.set (v_j744).toNat v_y758).length then
            ((v_w745.set (v_j744).toNat v_y758)[((wi .i64 (v_j744 - 1))).toNat]?).bind fun (v_y761 : S_lift_Req) =>
            G_slices_partialInsertionSortCmpFunc_lift_Req_h_L3 n v_a692 v_b693 v_cmp694 v_z713 v_j696 k (wi .i64 (v_j744 + 1)) ((v_w745.set (v_j744).toNat v_y758).set ((wi .i64 (v_j744 - 1))).toNat v_y759)
           else none
          else none
         else none
        else none
       else
        some (.x0 v_w745)
      else none
     else none
    else
     some (.x0 v_w745)
theorem G_slices_partialInsertionSortCmpFunc_lift_Req_h_L3_ok {Fi : Ex → PS → Prop} (hF : KC 141 Fi) (ks : List Fr) (n : Nat) (v_a692 : Int) (v_b693 : Int) (v_cmp694 : (S_lift_Req → S_lift_Req → Option (Int))) (v_z713 : Int) (v_j696 : Int) (v_cmp694_g : FuncId) (v_cmp694_c : (List PV)) (v_cmp694_h : ∀ (x0 : S_lift_Req) (x1 : S_lift_Req) (r : Int), v_cmp694 x0 x1 = some r → Ret Try.prog v_cmp694_g ([eS_lift_Req x0, eS_lift_Req x1] ++ v_cmp694_c) ((eI .i64) r)) : ∀ (k : Nat) (v_j744 : Int) (v_w745 : (List S_lift_Req)) (o : G_slices_partialInsertionSortCmpFunc_lift_Req_h_L3_R), G_slices_partialInsertionSortCmpFunc_lift_Req_h_L3 n v_a692 v_b693 v_cmp694 v_z713 v_j696 k v_j744 v_w745 = some o → RunE Try.prog 141 Fi ks (G_slices_partialInsertionSortCmpFunc_lift_Req_h_L3_ex o) (G_slices_partialInsertionSortCmpFunc_lift_Req_h_L3_st v_a692 v_b693 v_cmp694 v_z713 v_j696 v_cmp694_g v_cmp694_c o) → RunE Try.prog 141 Fi (.l k (cP (cB (cR (cT (cR (cR (cR (cR (cR (cR (cB (cL (cR (cP (cB (cR (cL (cR (cR (bodyOf Try.f47)))))))))))))))))))) :: ks) .normal (G_slices_partialInsertionSortCmpFunc_lift_Req_h_L3_hd v_a692 v_b693 v_cmp694 v_z713 v_j696 v_cmp694_g v_cmp694_c v_j744 v_w745)
  | 0, v_j744, v_w745, o, h, q => by rw [G_slices_partialInsertionSortCmpFunc_lift_Req_h_L3] at h; cases h
  | k + 1, v_j744, v_w745, o, h, q => by
    rw [G_slices_partialInsertionSortCmpFunc_lift_Req_h_L3] at h
    by_cases h521 : v_j744 < v_b693
    · rw [if_pos h521] at h
      by_cases h536 : 0 ≤ v_j744 ∧ (v_j744).toNat < v_w745.length
      · rw [if_pos h536] at h
        obtain ⟨v_y754, h537, h⟩ := bind_some h
        by_cases h538 : 0 ≤ (wi .i64 (v_j744 - 1)) ∧ ((wi .i64 (v_j744 - 1))).toNat < v_w745.length
        · rw [if_pos h538] at h
          obtain ⟨v_y755, h539, h⟩ := bind_some h
          obtain ⟨v_r756, h540, h⟩ := bind_some h
          by_cases h541 : v_r756 < 0
          · rw [if_pos h541] at h
            by_cases h542 : 0 ≤ (wi .i64 (v_j744 - 1)) ∧ ((wi .i64 (v_j744 - 1))).toNat < v_w745.length
            · rw [if_pos h542] at h
              obtain ⟨v_y758, h543, h⟩ := bind_some h
              by_cases h544 : 0 ≤ v_j744 ∧ (v_j744).toNat < v_w745.length
              · rw [if_pos h544] at h
                obtain ⟨v_y759, h545, h⟩ := bind_some h
                by_cases h546 : 0 ≤ v_j744 ∧ (v_j744).toNat < v_w745.length
                · rw [if_pos h546] at h
                  obtain ⟨v_y760, h547, h⟩ := bind_some h
                  by_cases h548 : 0 ≤ (wi .i64 (v_j744 - 1)) ∧ ((wi .i64 (v_j744 - 1))).toNat < (v_w745.set (v_j744).toNat v_y758).length
                  · rw [if_pos h548] at h
                    obtain ⟨v_y761, h549, h⟩ := bind_some h
                    exact pkk_sound TTok mix hF 16 (hs := [.t true, .y (eS_lift_Req v_y754), .y (eS_lift_Req v_y755), .r ((eI .i64) v_r756), .t false, .y (eS_lift_Req v_y758), .y (eS_lift_Req v_y759), .w ((v_w745.set (v_j744).toNat v_y758).map eS_lift_Req), .y (eS_lift_Req v_y760), .w (((v_w745.set (v_j744).toNat v_y758).set ((wi .i64 (v_j744 - 1))).toNat v_y759).map eS_lift_Req), .y (eS_lift_Req v_y761)]) (ts := []) (s := [0, 1]) (l := [0, 1, 2, 3, 9, 10, 12]) (by kernel_rfl) (by kernel_rfl) (.cons (dt h521) (.cons (idx_ob (f := eS_lift_Req) h536) (.cons (get_ob (f := eS_lift_Req) h537) (.cons (idx_ob (f := eS_lift_Req) h538) (.cons (get_ob (f := eS_lift_Req) h539) (.cons (v_cmp694_h v_y754 v_y755 _ h540) (.cons (bnf (dt h541)) (.cons (idx_ob (f := eS_lift_Req) h542) (.cons (get_ob (f := eS_lift_Req) h543) (.cons (idx_ob (f := eS_lift_Req) h544) (.cons (get_ob (f := eS_lift_Req) h545) (.cons (idx_ob (f := eS_lift_Req) h546) (.cons (get_ob (f := eS_lift_Req) h547) (.cons (Eq.refl (pcells (.agg [.v (.int .i64 v_y758.fSector), .sl (v_y758.fData.map (eI .u8)), .v (.bool v_y758.fBarrier)]))) (.cons (set_ob (f := eS_lift_Req) (l := v_w745) (k := (v_j744).toNat) (z := v_y758) (p := .agg [.v (.int .i64 v_y758.fSector), .sl (v_y758.fData.map (eI .u8)), .v (.bool v_y758.fBarrier)]) rfl) (.cons (idx_ob (f := eS_lift_Req) h548) (.cons (get_ob (f := eS_lift_Req) h549) (.cons (Eq.refl (pcells (.agg [.v (.int .i64 v_y759.fSector), .sl (v_y759.fData.map (eI .u8)), .v (.bool v_y759.fBarrier)]))) (.cons (set_ob (f := eS_lift_Req) (l := (v_w745.set (v_j744).toNat v_y758)) (k := ((wi .i64 (v_j744 - 1))).toNat) (z := v_y759) (p := .agg [.v (.int .i64 v_y759.fSector), .sl (v_y759.fData.map (eI .u8)), .v (.bool v_y759.fBarrier)]) rfl) .nil))))))))))))))))))) (G_slices_partialInsertionSortCmpFunc_lift_Req_h_L3_ok hF ks n v_a692 v_b693 v_cmp694 v_z713 v_j696 v_cmp694_g v_cmp694_c v_cmp694_h k (wi .i64 (v_j744 + 1)) ((v_w745.set (v_j744).toNat v_y758).set ((wi .i64 (v_j744 - 1))).toNat v_y759) _ h q)
                  · rw [if_neg h548] at h; cases h
                · rw [if_neg h546] at h; cases h
              · rw [if_neg h544] at h; cases h
            · rw [if_neg h542] at h; cases h
          · rw [if_neg h541] at h
            cases h
            exact pkk_sound TTok mix hF 17 (hs := [.t true, .y (eS_lift_Req v_y754), .y (eS_lift_Req v_y755), .r ((eI .i64) v_r756), .t true]) (ts := []) (s := [0, 1]) (l := [0, 1, 2, 3, 9, 10]) (by kernel_rfl) (by kernel_rfl) (.cons (dt h521) (.cons (idx_ob (f := eS_lift_Req) h536) (.cons (get_ob (f := eS_lift_Req) h537) (.cons (idx_ob (f := eS_lift_Req) h538) (.cons (get_ob (f := eS_lift_Req) h539) (.cons (v_cmp694_h v_y754 v_y755 _ h540) (.cons (bnt (df h541)) .nil))))))) q
        · rw [if_neg h538] at h; cases h
      · rw [if_neg h536] at h; cases h
    · rw [if_neg h521] at h
      cases h
      exact pkk_sound TTok mix hF 8 (hs := [.t false]) (ts := []) (s := [0, 1]) (l := [0, 1, 2, 3, 9, 10]) (by kernel_rfl) (by kernel_rfl) (.cons (df h521) .nil) q
inductive G_slices_partialInsertionSortCmpFunc_lift_Req_h_L4_R where
  | x0 (v_w778 : (List S_lift_Req))
def G_slices_partialInsertionSortCmpFunc_lift_Req_h_L4_ex : G_slices_partialInsertionSortCmpFunc_lift_Req_h_L4_R → Ex
  | .x0 _ => .exit 6
def G_slices_partialInsertionSortCmpFunc_lift_Req_h_L4_st (v_a692 : Int) (v_b693 : Int) (v_cmp694 : (S_lift_Req → S_lift_Req → Option (Int))) (v_z713 : Int) (v_j696 : Int) (v_cmp694_g : FuncId) (v_cmp694_c : (List PV)) : G_slices_partialInsertionSortCmpFunc_lift_Req_h_L4_R → PS
  | .x0 v_w778 => ⟨(.srf 1 :: .d (.v (.int .i64 v_a692)) :: .d (.v (.int .i64 v_b693)) :: .d (.clo v_cmp694_g v_cmp694_c) :: dd :: dd :: dd :: dd :: dd :: .d (.v (.int .i64 v_z713)) :: .d (.v (.int .i64 v_j696)) :: (dds 130 [])), [.gh 0 (.srf 1), .row 26 3 (v_w778.map eS_lift_Req)]⟩
def G_slices_partialInsertionSortCmpFunc_lift_Req_h_L4_hd (v_a692 : Int) (v_b693 : Int) (v_cmp694 : (S_lift_Req → S_lift_Req → Option (Int))) (v_z713 : Int) (v_j696 : Int) (v_cmp694_g : FuncId) (v_cmp694_c : (List PV)) (v_j765 : Int) (v_w766 : (List S_lift_Req)) : PS := ⟨(.srf 1 :: .d (.v (.int .i64 v_a692)) :: .d (.v (.int .i64 v_b693)) :: .d (.clo v_cmp694_g v_cmp694_c) :: dd :: dd :: dd :: dd :: dd :: .d (.v (.int .i64 v_z713)) :: .d (.v (.int .i64 v_j696)) :: dd :: .d (.v (.int .i64 v_j765)) :: (dds 128 [])), [.gh 0 (.srf 1), .row 26 3 (v_w766.map eS_lift_Req)]⟩
def G_slices_partialInsertionSortCmpFunc_lift_Req_h_L4 (n : Nat) (v_a692 : Int) (v_b693 : Int) (v_cmp694 : (S_lift_Req → S_lift_Req → Option (Int))) (v_z713 : Int) (v_j696 : Int) : Nat → Int → (List S_lift_Req) → Option G_slices_partialInsertionSortCmpFunc_lift_Req_h_L4_R
  | 0, _, _ => none
  | k + 1, v_j765, v_w766 =>
    if v_j765 < v_b693 then
     if 0 ≤ v_j765 ∧ (v_j765).toNat < v_w766.length then
      (v_w766[(v_j765).toNat]?).bind fun (v_y775 : S_lift_Req) =>
      if 0 ≤ (wi .i64 (v_j765 - 1)) ∧ ((wi .i64 (v_j765 - 1))).toNat < v_w766.length then
       (v_w766[((wi .i64 (v_j765 - 1))).toNat]?).bind fun (v_y776 : S_lift_Req) =>
       (v_cmp694 v_y775 v_y776).bind fun (v_r777 : (Int)) =>
       if v_r777 < 0 then
        if 0 ≤ (wi .i64 (v_j765 - 1)) ∧ ((wi .i64 (v_j765 - 1))).toNat < v_w766.length then
         (v_w766[((wi .i64 (v_j765 - 1))).toNat]?).bind fun (v_y779 : S_lift_Req) =>
         if 0 ≤ v_j765 ∧ (v_j765).toNat < v_w766.length then
          (v_w766[(v_j765).toNat]?).bind fun (v_y780 : S_lift_Req) =>
          if 0 ≤ v_j765 ∧ (v_j765).toNat < v_w766.length then
           (v_w766[(v_j765).toNat]?).bind fun (v_y781 : S_lift_Req) =>
           if 0 ≤ (wi .i64 (v_j765 - 1)) ∧ ((wi .i64 (v_j765 - 1))).toNat < (v_w766.set (v_j765).toNat v_y779).length then
            ((v_w766.set (v_j765).toNat v_y779)[((wi .i64 (v_j765 - 1))).toNat]?).bind fun (v_y782 : S_lift_Req) =>
            G_slices_partialInsertionSortCmpFunc_lift_Req_h_L4 n v_a692 v_b693 v_cmp694 v_z713 v_j696 k (wi .i64 (v_j765 + 1)) ((v_w766.set (v_j765).toNat v_y779).set ((wi .i64 (v_j765 - 1))).toNat v_y780)
           else none
          else none
         else none
        else none
       else
        some (.x0 v_w766)
      else none
     else none
    else
     some (.x0 v_w766)
theorem G_slices_partialInsertionSortCmpFunc_lift_Req_h_L4_ok {Fi : Ex → PS → Prop} (hF : KC 141 Fi) (ks : List Fr) (n : Nat) (v_a692 : Int) (v_b693 : Int) (v_cmp694 : (S_lift_Req → S_lift_Req → Option (Int))) (v_z713 : Int) (v_j696 : Int) (v_cmp694_g : FuncId) (v_cmp694_c : (List PV)) (v_cmp694_h : ∀ (x0 : S_lift_Req) (x1 : S_lift_Req) (r : Int), v_cmp694 x0 x1 = some r → Ret Try.prog v_cmp694_g ([eS_lift_Req x0, eS_lift_Req x1] ++ v_cmp694_c) ((eI .i64) r)) : ∀ (k : Nat) (v_j765 : Int) (v_w766 : (List S_lift_Req)) (o : G_slices_partialInsertionSortCmpFunc_lift_Req_h_L4_R), G_slices_partialInsertionSortCmpFunc_lift_Req_h_L4 n v_a692 v_b693 v_cmp694 v_z713 v_j696 k v_j765 v_w766 = some o → RunE Try.prog 141 Fi ks (G_slices_partialInsertionSortCmpFunc_lift_Req_h_L4_ex o) (G_slices_partialInsertionSortCmpFunc_lift_Req_h_L4_st v_a692 v_b693 v_cmp694 v_z713 v_j696 v_cmp694_g v_cmp694_c o) → RunE Try.prog 141 Fi (.l k (cP (cB (cR (cT (cR (cR (cR (cR (cR (cR (cB (cL (cR (cP (cB (cR (cL (cR (cR (bodyOf Try.f47)))))))))))))))))))) :: ks) .normal (G_slices_partialInsertionSortCmpFunc_lift_Req_h_L4_hd v_a692 v_b693 v_cmp694 v_z713 v_j696 v_cmp694_g v_cmp694_c v_j765 v_w766)
  | 0, v_j765, v_w766, o, h, q => by rw [G_slices_partialInsertionSortCmpFunc_lift_Req_h_L4] at h; cases h
  | k + 1, v_j765, v_w766, o, h, q => by
    rw [G_slices_partialInsertionSortCmpFunc_lift_Req_h_L4] at h
    by_cases h552 : v_j765 < v_b693
    · rw [if_pos h552] at h
      by_cases h567 : 0 ≤ v_j765 ∧ (v_j765).toNat < v_w766.length
      · rw [if_pos h567] at h
        obtain ⟨v_y775, h568, h⟩ := bind_some h
        by_cases h569 : 0 ≤ (wi .i64 (v_j765 - 1)) ∧ ((wi .i64 (v_j765 - 1))).toNat < v_w766.length
        · rw [if_pos h569] at h
          obtain ⟨v_y776, h570, h⟩ := bind_some h
          obtain ⟨v_r777, h571, h⟩ := bind_some h
          by_cases h572 : v_r777 < 0
          · rw [if_pos h572] at h
            by_cases h573 : 0 ≤ (wi .i64 (v_j765 - 1)) ∧ ((wi .i64 (v_j765 - 1))).toNat < v_w766.length
            · rw [if_pos h573] at h
              obtain ⟨v_y779, h574, h⟩ := bind_some h
              by_cases h575 : 0 ≤ v_j765 ∧ (v_j765).toNat < v_w766.length
              · rw [if_pos h575] at h
                obtain ⟨v_y780, h576, h⟩ := bind_some h
                by_cases h577 : 0 ≤ v_j765 ∧ (v_j765).toNat < v_w766.length
                · rw [if_pos h577] at h
                  obtain ⟨v_y781, h578, h⟩ := bind_some h
                  by_cases h579 : 0 ≤ (wi .i64 (v_j765 - 1)) ∧ ((wi .i64 (v_j765 - 1))).toNat < (v_w766.set (v_j765).toNat v_y779).length
                  · rw [if_pos h579] at h
                    obtain ⟨v_y782, h580, h⟩ := bind_some h
                    exact pkk_sound TTok mix hF 16 (hs := [.t true, .y (eS_lift_Req v_y775), .y (eS_lift_Req v_y776), .r ((eI .i64) v_r777), .t false, .y (eS_lift_Req v_y779), .y (eS_lift_Req v_y780), .w ((v_w766.set (v_j765).toNat v_y779).map eS_lift_Req), .y (eS_lift_Req v_y781), .w (((v_w766.set (v_j765).toNat v_y779).set ((wi .i64 (v_j765 - 1))).toNat v_y780).map eS_lift_Req), .y (eS_lift_Req v_y782)]) (ts := []) (s := [0, 1]) (l := [0, 1, 2, 3, 9, 10, 12]) (by kernel_rfl) (by kernel_rfl) (.cons (dt h552) (.cons (idx_ob (f := eS_lift_Req) h567) (.cons (get_ob (f := eS_lift_Req) h568) (.cons (idx_ob (f := eS_lift_Req) h569) (.cons (get_ob (f := eS_lift_Req) h570) (.cons (v_cmp694_h v_y775 v_y776 _ h571) (.cons (bnf (dt h572)) (.cons (idx_ob (f := eS_lift_Req) h573) (.cons (get_ob (f := eS_lift_Req) h574) (.cons (idx_ob (f := eS_lift_Req) h575) (.cons (get_ob (f := eS_lift_Req) h576) (.cons (idx_ob (f := eS_lift_Req) h577) (.cons (get_ob (f := eS_lift_Req) h578) (.cons (Eq.refl (pcells (.agg [.v (.int .i64 v_y779.fSector), .sl (v_y779.fData.map (eI .u8)), .v (.bool v_y779.fBarrier)]))) (.cons (set_ob (f := eS_lift_Req) (l := v_w766) (k := (v_j765).toNat) (z := v_y779) (p := .agg [.v (.int .i64 v_y779.fSector), .sl (v_y779.fData.map (eI .u8)), .v (.bool v_y779.fBarrier)]) rfl) (.cons (idx_ob (f := eS_lift_Req) h579) (.cons (get_ob (f := eS_lift_Req) h580) (.cons (Eq.refl (pcells (.agg [.v (.int .i64 v_y780.fSector), .sl (v_y780.fData.map (eI .u8)), .v (.bool v_y780.fBarrier)]))) (.cons (set_ob (f := eS_lift_Req) (l := (v_w766.set (v_j765).toNat v_y779)) (k := ((wi .i64 (v_j765 - 1))).toNat) (z := v_y780) (p := .agg [.v (.int .i64 v_y780.fSector), .sl (v_y780.fData.map (eI .u8)), .v (.bool v_y780.fBarrier)]) rfl) .nil))))))))))))))))))) (G_slices_partialInsertionSortCmpFunc_lift_Req_h_L4_ok hF ks n v_a692 v_b693 v_cmp694 v_z713 v_j696 v_cmp694_g v_cmp694_c v_cmp694_h k (wi .i64 (v_j765 + 1)) ((v_w766.set (v_j765).toNat v_y779).set ((wi .i64 (v_j765 - 1))).toNat v_y780) _ h q)
                  · rw [if_neg h579] at h; cases h
                · rw [if_neg h577] at h; cases h
              · rw [if_neg h575] at h; cases h
            · rw [if_neg h573] at h; cases h
          · rw [if_neg h572] at h
            cases h
            exact pkk_sound TTok mix hF 17 (hs := [.t true, .y (eS_lift_Req v_y775), .y (eS_lift_Req v_y776), .r ((eI .i64) v_r777), .t true]) (ts := []) (s := [0, 1]) (l := [0, 1, 2, 3, 9, 10]) (by kernel_rfl) (by kernel_rfl) (.cons (dt h552) (.cons (idx_ob (f := eS_lift_Req) h567) (.cons (get_ob (f := eS_lift_Req) h568) (.cons (idx_ob (f := eS_lift_Req) h569) (.cons (get_ob (f := eS_lift_Req) h570) (.cons (v_cmp694_h v_y775 v_y776 _ h571) (.cons (bnt (df h572)) .nil))))))) q
        · rw [if_neg h569] at h; cases h
      · rw [if_neg h567] at h; cases h
    · rw [if_neg h552] at h
      cases h
      exact pkk_sound TTok mix hF 8 (hs := [.t false]) (ts := []) (s := [0, 1]) (l := [0, 1, 2, 3, 9, 10]) (by kernel_rfl) (by kernel_rfl) (.cons (df h552) .nil) q
inductive G_slices_partialInsertionSortCmpFunc_lift_Req_h_L5_R where
  | x0 (v_x715 : Bool) (v_w716 : (List S_lift_Req))
  | x1 (v_w786 : (List S_lift_Req))
def G_slices_partialInsertionSortCmpFunc_lift_Req_h_L5_ex : G_slices_partialInsertionSortCmpFunc_lift_Req_h_L5_R → Ex
  | .x0 _ _ => .ret
  | .x1 _ => .exit 0
def G_slices_partialInsertionSortCmpFunc_lift_Req_h_L5_st (v_a692 : Int) (v_b693 : Int) (v_cmp694 : (S_lift_Req → S_lift_Req → Option (Int))) (v_cmp694_g : FuncId) (v_cmp694_c : (List PV)) : G_slices_partialInsertionSortCmpFunc_lift_Req_h_L5_R → PS
  | .x0 v_x715 v_w716 => ⟨(dds 8 (.d (.v (.bool v_x715)) :: (dds 132 []))), [.gh 0 (.srf 1), .row 26 3 (v_w716.map eS_lift_Req)]⟩
  | .x1 v_w786 => ⟨(dds 141 []), [.gh 0 (.srf 1), .row 26 3 (v_w786.map eS_lift_Req)]⟩
def G_slices_partialInsertionSortCmpFunc_lift_Req_h_L5_hd (v_a692 : Int) (v_b693 : Int) (v_cmp694 : (S_lift_Req → S_lift_Req → Option (Int))) (v_cmp694_g : FuncId) (v_cmp694_c : (List PV)) (v_i695 : Int) (v_j696 : Int) (v_w697 : (List S_lift_Req)) : PS := ⟨(.srf 1 :: .d (.v (.int .i64 v_a692)) :: .d (.v (.int .i64 v_b693)) :: .d (.clo v_cmp694_g v_cmp694_c) :: dd :: dd :: dd :: dd :: dd :: .d (.v (.int .i64 v_i695)) :: .d (.v (.int .i64 v_j696)) :: (dds 130 [])), [.gh 0 (.srf 1), .row 26 3 (v_w697.map eS_lift_Req)]⟩
def G_slices_partialInsertionSortCmpFunc_lift_Req_h_L5 (n : Nat) (v_a692 : Int) (v_b693 : Int) (v_cmp694 : (S_lift_Req → S_lift_Req → Option (Int))) : Nat → Int → Int → (List S_lift_Req) → Option G_slices_partialInsertionSortCmpFunc_lift_Req_h_L5_R
  | 0, _, _, _ => none
  | k + 1, v_i695, v_j696, v_w697 =>
    if v_j696 < 5 then
     (G_slices_partialInsertionSortCmpFunc_lift_Req_h_L1 n v_a692 v_b693 v_cmp694 v_j696 n v_i695 v_w697).bind fun v_o712 => match v_o712 with
     | .x0 v_z713 v_z714 =>
       if v_z713 = v_b693 then
        some (.x0 true v_z714)
       else
        if (wi .i64 (v_b693 - v_a692)) < 50 then
         some (.x0 false v_z714)
        else
         if 0 ≤ (wi .i64 (v_z713 - 1)) ∧ ((wi .i64 (v_z713 - 1))).toNat < v_z714.length then
          (v_z714[((wi .i64 (v_z713 - 1))).toNat]?).bind fun (v_y719 : S_lift_Req) =>
          if 0 ≤ v_z713 ∧ (v_z713).toNat < v_z714.length then
           (v_z714[(v_z713).toNat]?).bind fun (v_y720 : S_lift_Req) =>
           if 0 ≤ v_z713 ∧ (v_z713).toNat < v_z714.length then
            (v_z714[(v_z713).toNat]?).bind fun (v_y721 : S_lift_Req) =>
            if 0 ≤ (wi .i64 (v_z713 - 1)) ∧ ((wi .i64 (v_z713 - 1))).toNat < (v_z714.set (v_z713).toNat v_y719).length then
             ((v_z714.set (v_z713).toNat v_y719)[((wi .i64 (v_z713 - 1))).toNat]?).bind fun (v_y722 : S_lift_Req) =>
             if (wi .i64 (v_z713 - v_a692)) ≥ 2 then
              (G_slices_partialInsertionSortCmpFunc_lift_Req_h_L2 n v_a692 v_b693 v_cmp694 v_z713 v_j696 n (wi .i64 (v_z713 - 1)) ((v_z714.set (v_z713).toNat v_y719).set ((wi .i64 (v_z713 - 1))).toNat v_y720)).bind fun v_o742 => match v_o742 with
              | .x0 v_z743 =>
                if (wi .i64 (v_b693 - v_z713)) ≥ 2 then
                 (G_slices_partialInsertionSortCmpFunc_lift_Req_h_L3 n v_a692 v_b693 v_cmp694 v_z713 v_j696 n (wi .i64 (v_z713 + 1)) v_z743).bind fun v_o763 => match v_o763 with
                 | .x0 v_z764 =>
                   G_slices_partialInsertionSortCmpFunc_lift_Req_h_L5 n v_a692 v_b693 v_cmp694 k v_z713 (wi .i64 (v_j696 + 1)) v_z764
                else
                 G_slices_partialInsertionSortCmpFunc_lift_Req_h_L5 n v_a692 v_b693 v_cmp694 k v_z713 (wi .i64 (v_j696 + 1)) v_z743
             else
              if (wi .i64 (v_b693 - v_z713)) ≥ 2 then
               (G_slices_partialInsertionSortCmpFunc_lift_Req_h_L4 n v_a692 v_b693 v_cmp694 v_z713 v_j696 n (wi .i64 (v_z713 + 1)) ((v_z714.set (v_z713).toNat v_y719).set ((wi .i64 (v_z713 - 1))).toNat v_y720)).bind fun v_o784 => match v_o784 with
               | .x0 v_z785 =>
                 G_slices_partialInsertionSortCmpFunc_lift_Req_h_L5 n v_a692 v_b693 v_cmp694 k v_z713 (wi .i64 (v_j696 + 1)) v_z785
              else
               G_slices_partialInsertionSortCmpFunc_lift_Req_h_L5 n v_a692 v_b693 v_cmp694 k v_z713 (wi .i64 (v_j696 + 1)) ((v_z714.set (v_z713).toNat v_y719).set ((wi .i64 (v_z713 - 1))).toNat v_y720)
            else none
           else none
          else none
         else none
    else
     some (.x1 v_w697)
theorem G_slices_partialInsertionSortCmpFunc_lift_Req_h_L5_ok {Fi : Ex → PS → Prop} (hF : KC 141 Fi) (ks : List Fr) (n : Nat) (v_a692 : Int) (v_b693 : Int) (v_cmp694 : (S_lift_Req → S_lift_Req → Option (Int))) (v_cmp694_g : FuncId) (v_cmp694_c : (List PV)) (v_cmp694_h : ∀ (x0 : S_lift_Req) (x1 : S_lift_Req) (r : Int), v_cmp694 x0 x1 = some r → Ret Try.prog v_cmp694_g ([eS_lift_Req x0, eS_lift_Req x1] ++ v_cmp694_c) ((eI .i64) r)) : ∀ (k : Nat) (v_i695 : Int) (v_j696 : Int) (v_w697 : (List S_lift_Req)) (o : G_slices_partialInsertionSortCmpFunc_lift_Req_h_L5_R), G_slices_partialInsertionSortCmpFunc_lift_Req_h_L5 n v_a692 v_b693 v_cmp694 k v_i695 v_j696 v_w697 = some o → RunE Try.prog 141 Fi ks (G_slices_partialInsertionSortCmpFunc_lift_Req_h_L5_ex o) (G_slices_partialInsertionSortCmpFunc_lift_Req_h_L5_st v_a692 v_b693 v_cmp694 v_cmp694_g v_cmp694_c o) → RunE Try.prog 141 Fi (.l k (cP (cB (cR (cL (cR (cR (bodyOf Try.f47))))))) :: ks) .normal (G_slices_partialInsertionSortCmpFunc_lift_Req_h_L5_hd v_a692 v_b693 v_cmp694 v_cmp694_g v_cmp694_c v_i695 v_j696 v_w697)
  | 0, v_i695, v_j696, v_w697, o, h, q => by rw [G_slices_partialInsertionSortCmpFunc_lift_Req_h_L5] at h; cases h
  | k + 1, v_i695, v_j696, v_w697, o, h, q => by
    rw [G_slices_partialInsertionSortCmpFunc_lift_Req_h_L5] at h
    by_cases h464 : v_j696 < 5
    · rw [if_pos h464] at h
      obtain ⟨v_o712, h478, h⟩ := bind_some h
      refine pkk_sound TTok mix hF 11 (hs := [.t true, .n n]) (ts := []) (s := [0, 1]) (l := [0, 1, 2, 3, 9, 10]) (by kernel_rfl) (by kernel_rfl) (.cons (dt h464) .nil) (G_slices_partialInsertionSortCmpFunc_lift_Req_h_L1_ok hF (.b 2 :: .s (cR (cB (cL (cR (cP (cB (cR (cL (cR (cR (bodyOf Try.f47))))))))))) :: .b 1 :: .s (cR (cR (cP (cB (cR (cL (cR (cR (bodyOf Try.f47))))))))) :: .l k (cP (cB (cR (cL (cR (cR (bodyOf Try.f47))))))) :: ks) n v_a692 v_b693 v_cmp694 v_j696 v_cmp694_g v_cmp694_c v_cmp694_h n v_i695 v_w697 _ h478 ?_)
      cases v_o712 with
      | x0 v_z713 v_z714 =>
        try dsimp only at h
        by_cases h479 : v_z713 = v_b693
        · rw [if_pos h479] at h
          cases h
          exact pkk_sound TTok mix hF 12 (hs := [.t true]) (ts := []) (s := [0, 1]) (l := [8]) (by kernel_rfl) (by kernel_rfl) (.cons (bt h479) .nil) q
        · rw [if_neg h479] at h
          by_cases h480 : (wi .i64 (v_b693 - v_a692)) < 50
          · rw [if_pos h480] at h
            cases h
            exact pkk_sound TTok mix hF 17 (hs := [.t false, .t true]) (ts := []) (s := [0, 1]) (l := [8]) (by kernel_rfl) (by kernel_rfl) (.cons (bf h479) (.cons (dt h480) .nil)) q
          · rw [if_neg h480] at h
            by_cases h481 : 0 ≤ (wi .i64 (v_z713 - 1)) ∧ ((wi .i64 (v_z713 - 1))).toNat < v_z714.length
            · rw [if_pos h481] at h
              obtain ⟨v_y719, h482, h⟩ := bind_some h
              by_cases h483 : 0 ≤ v_z713 ∧ (v_z713).toNat < v_z714.length
              · rw [if_pos h483] at h
                obtain ⟨v_y720, h484, h⟩ := bind_some h
                by_cases h485 : 0 ≤ v_z713 ∧ (v_z713).toNat < v_z714.length
                · rw [if_pos h485] at h
                  obtain ⟨v_y721, h486, h⟩ := bind_some h
                  by_cases h487 : 0 ≤ (wi .i64 (v_z713 - 1)) ∧ ((wi .i64 (v_z713 - 1))).toNat < (v_z714.set (v_z713).toNat v_y719).length
                  · rw [if_pos h487] at h
                    obtain ⟨v_y722, h488, h⟩ := bind_some h
                    by_cases h489 : (wi .i64 (v_z713 - v_a692)) ≥ 2
                    · rw [if_pos h489] at h
                      obtain ⟨v_o742, h519, h⟩ := bind_some h
                      refine pkk_sound TTok mix hF 21 (hs := [.t false, .t false, .y (eS_lift_Req v_y719), .y (eS_lift_Req v_y720), .w ((v_z714.set (v_z713).toNat v_y719).map eS_lift_Req), .y (eS_lift_Req v_y721), .w (((v_z714.set (v_z713).toNat v_y719).set ((wi .i64 (v_z713 - 1))).toNat v_y720).map eS_lift_Req), .y (eS_lift_Req v_y722), .t true, .n n]) (ts := []) (s := [0, 1]) (l := [0, 1, 2, 3, 9, 10, 11]) (by kernel_rfl) (by kernel_rfl) (.cons (bf h479) (.cons (df h480) (.cons (idx_ob (f := eS_lift_Req) h481) (.cons (get_ob (f := eS_lift_Req) h482) (.cons (idx_ob (f := eS_lift_Req) h483) (.cons (get_ob (f := eS_lift_Req) h484) (.cons (idx_ob (f := eS_lift_Req) h485) (.cons (get_ob (f := eS_lift_Req) h486) (.cons (Eq.refl (pcells (.agg [.v (.int .i64 v_y719.fSector), .sl (v_y719.fData.map (eI .u8)), .v (.bool v_y719.fBarrier)]))) (.cons (set_ob (f := eS_lift_Req) (l := v_z714) (k := (v_z713).toNat) (z := v_y719) (p := .agg [.v (.int .i64 v_y719.fSector), .sl (v_y719.fData.map (eI .u8)), .v (.bool v_y719.fBarrier)]) rfl) (.cons (idx_ob (f := eS_lift_Req) h487) (.cons (get_ob (f := eS_lift_Req) h488) (.cons (Eq.refl (pcells (.agg [.v (.int .i64 v_y720.fSector), .sl (v_y720.fData.map (eI .u8)), .v (.bool v_y720.fBarrier)]))) (.cons (set_ob (f := eS_lift_Req) (l := (v_z714.set (v_z713).toNat v_y719)) (k := ((wi .i64 (v_z713 - 1))).toNat) (z := v_y720) (p := .agg [.v (.int .i64 v_y720.fSector), .sl (v_y720.fData.map (eI .u8)), .v (.bool v_y720.fBarrier)]) rfl) (.cons (dt h489) .nil))))))))))))))) (G_slices_partialInsertionSortCmpFunc_lift_Req_h_L2_ok hF (.b 4 :: .s (cR (cR (cR (cR (cR (cB (cL (cR (cP (cB (cR (cL (cR (cR (bodyOf Try.f47))))))))))))))) :: .b 1 :: .s (cR (cR (cP (cB (cR (cL (cR (cR (bodyOf Try.f47))))))))) :: .l k (cP (cB (cR (cL (cR (cR (bodyOf Try.f47))))))) :: ks) n v_a692 v_b693 v_cmp694 v_z713 v_j696 v_cmp694_g v_cmp694_c v_cmp694_h n (wi .i64 (v_z713 - 1)) ((v_z714.set (v_z713).toNat v_y719).set ((wi .i64 (v_z713 - 1))).toNat v_y720) _ h519 ?_)
                      cases v_o742 with
                      | x0 v_z743 =>
                        try dsimp only at h
                        by_cases h520 : (wi .i64 (v_b693 - v_z713)) ≥ 2
                        · rw [if_pos h520] at h
                          obtain ⟨v_o763, h550, h⟩ := bind_some h
                          refine pkk_sound TTok mix hF 8 (hs := [.t true, .n n]) (ts := []) (s := [0, 1]) (l := [0, 1, 2, 3, 9, 10, 12]) (by kernel_rfl) (by kernel_rfl) (.cons (dt h520) .nil) (G_slices_partialInsertionSortCmpFunc_lift_Req_h_L3_ok hF (.b 6 :: .b 1 :: .s (cR (cR (cP (cB (cR (cL (cR (cR (bodyOf Try.f47))))))))) :: .l k (cP (cB (cR (cL (cR (cR (bodyOf Try.f47))))))) :: ks) n v_a692 v_b693 v_cmp694 v_z713 v_j696 v_cmp694_g v_cmp694_c v_cmp694_h n (wi .i64 (v_z713 + 1)) v_z743 _ h550 ?_)
                          cases v_o763 with
                          | x0 v_z764 =>
                            try dsimp only at h
                            exact pkk_sound TTok mix hF 3 (hs := []) (ts := []) (s := [0, 1]) (l := [0, 1, 2, 3, 9, 10]) (by kernel_rfl) (by kernel_rfl) .nil (G_slices_partialInsertionSortCmpFunc_lift_Req_h_L5_ok hF ks n v_a692 v_b693 v_cmp694 v_cmp694_g v_cmp694_c v_cmp694_h k v_z713 (wi .i64 (v_j696 + 1)) v_z764 _ h q)
                        · rw [if_neg h520] at h
                          exact pkk_sound TTok mix hF 7 (hs := [.t false]) (ts := []) (s := [0, 1]) (l := [0, 1, 2, 3, 9, 10]) (by kernel_rfl) (by kernel_rfl) (.cons (df h520) .nil) (G_slices_partialInsertionSortCmpFunc_lift_Req_h_L5_ok hF ks n v_a692 v_b693 v_cmp694 v_cmp694_g v_cmp694_c v_cmp694_h k v_z713 (wi .i64 (v_j696 + 1)) v_z743 _ h q)
                    · rw [if_neg h489] at h
                      by_cases h551 : (wi .i64 (v_b693 - v_z713)) ≥ 2
                      · rw [if_pos h551] at h
                        obtain ⟨v_o784, h581, h⟩ := bind_some h
                        refine pkk_sound TTok mix hF 25 (hs := [.t false, .t false, .y (eS_lift_Req v_y719), .y (eS_lift_Req v_y720), .w ((v_z714.set (v_z713).toNat v_y719).map eS_lift_Req), .y (eS_lift_Req v_y721), .w (((v_z714.set (v_z713).toNat v_y719).set ((wi .i64 (v_z713 - 1))).toNat v_y720).map eS_lift_Req), .y (eS_lift_Req v_y722), .t false, .t true, .n n]) (ts := []) (s := [0, 1]) (l := [0, 1, 2, 3, 9, 10, 12]) (by kernel_rfl) (by kernel_rfl) (.cons (bf h479) (.cons (df h480) (.cons (idx_ob (f := eS_lift_Req) h481) (.cons (get_ob (f := eS_lift_Req) h482) (.cons (idx_ob (f := eS_lift_Req) h483) (.cons (get_ob (f := eS_lift_Req) h484) (.cons (idx_ob (f := eS_lift_Req) h485) (.cons (get_ob (f := eS_lift_Req) h486) (.cons (Eq.refl (pcells (.agg [.v (.int .i64 v_y719.fSector), .sl (v_y719.fData.map (eI .u8)), .v (.bool v_y719.fBarrier)]))) (.cons (set_ob (f := eS_lift_Req) (l := v_z714) (k := (v_z713).toNat) (z := v_y719) (p := .agg [.v (.int .i64 v_y719.fSector), .sl (v_y719.fData.map (eI .u8)), .v (.bool v_y719.fBarrier)]) rfl) (.cons (idx_ob (f := eS_lift_Req) h487) (.cons (get_ob (f := eS_lift_Req) h488) (.cons (Eq.refl (pcells (.agg [.v (.int .i64 v_y720.fSector), .sl (v_y720.fData.map (eI .u8)), .v (.bool v_y720.fBarrier)]))) (.cons (set_ob (f := eS_lift_Req) (l := (v_z714.set (v_z713).toNat v_y719)) (k := ((wi .i64 (v_z713 - 1))).toNat) (z := v_y720) (p := .agg [.v (.int .i64 v_y720.fSector), .sl (v_y720.fData.map (eI .u8)), .v (.bool v_y720.fBarrier)]) rfl) (.cons (df h489) (.cons (dt h551) .nil)))))))))))))))) (G_slices_partialInsertionSortCmpFunc_lift_Req_h_L4_ok hF (.b 6 :: .b 1 :: .s (cR (cR (cP (cB (cR (cL (cR (cR (bodyOf Try.f47))))))))) :: .l k (cP (cB (cR (cL (cR (cR (bodyOf Try.f47))))))) :: ks) n v_a692 v_b693 v_cmp694 v_z713 v_j696 v_cmp694_g v_cmp694_c v_cmp694_h n (wi .i64 (v_z713 + 1)) ((v_z714.set (v_z713).toNat v_y719).set ((wi .i64 (v_z713 - 1))).toNat v_y720) _ h581 ?_)
                        cases v_o784 with
                        | x0 v_z785 =>
                          try dsimp only at h
                          exact pkk_sound TTok mix hF 3 (hs := []) (ts := []) (s := [0, 1]) (l := [0, 1, 2, 3, 9, 10]) (by kernel_rfl) (by kernel_rfl) .nil (G_slices_partialInsertionSortCmpFunc_lift_Req_h_L5_ok hF ks n v_a692 v_b693 v_cmp694 v_cmp694_g v_cmp694_c v_cmp694_h k v_z713 (wi .i64 (v_j696 + 1)) v_z785 _ h q)
                      · rw [if_neg h551] at h
                        exact pkk_sound TTok mix hF 24 (hs := [.t false, .t false, .y (eS_lift_Req v_y719), .y (eS_lift_Req v_y720), .w ((v_z714.set (v_z713).toNat v_y719).map eS_lift_Req), .y (eS_lift_Req v_y721), .w (((v_z714.set (v_z713).toNat v_y719).set ((wi .i64 (v_z713 - 1))).toNat v_y720).map eS_lift_Req), .y (eS_lift_Req v_y722), .t false, .t false]) (ts := []) (s := [0, 1]) (l := [0, 1, 2, 3, 9, 10]) (by kernel_rfl) (by kernel_rfl) (.cons (bf h479) (.cons (df h480) (.cons (idx_ob (f := eS_lift_Req) h481) (.cons (get_ob (f := eS_lift_Req) h482) (.cons (idx_ob (f := eS_lift_Req) h483) (.cons (get_ob (f := eS_lift_Req) h484) (.cons (idx_ob (f := eS_lift_Req) h485) (.cons (get_ob (f := eS_lift_Req) h486) (.cons (Eq.refl (pcells (.agg [.v (.int .i64 v_y719.fSector), .sl (v_y719.fData.map (eI .u8)), .v (.bool v_y719.fBarrier)]))) (.cons (set_ob (f := eS_lift_Req) (l := v_z714) (k := (v_z713).toNat) (z := v_y719) (p := .agg [.v (.int .i64 v_y719.fSector), .sl (v_y719.fData.map (eI .u8)), .v (.bool v_y719.fBarrier)]) rfl) (.cons (idx_ob (f := eS_lift_Req) h487) (.cons (get_ob (f := eS_lift_Req) h488) (.cons (Eq.refl (pcells (.agg [.v (.int .i64 v_y720.fSector), .sl (v_y720.fData.map (eI .u8)), .v (.bool v_y720.fBarrier)]))) (.cons (set_ob (f := eS_lift_Req) (l := (v_z714.set (v_z713).toNat v_y719)) (k := ((wi .i64 (v_z713 - 1))).toNat) (z := v_y720) (p := .agg [.v (.int .i64 v_y720.fSector), .sl (v_y720.fData.map (eI .u8)), .v (.bool v_y720.fBarrier)]) rfl) (.cons (df h489) (.cons (df h551) .nil)))))))))))))))) (G_slices_partialInsertionSortCmpFunc_lift_Req_h_L5_ok hF ks n v_a692 v_b693 v_cmp694 v_cmp694_g v_cmp694_c v_cmp694_h k v_z713 (wi .i64 (v_j696 + 1)) ((v_z714.set (v_z713).toNat v_y719).set ((wi .i64 (v_z713 - 1))).toNat v_y720) _ h q)
                  · rw [if_neg h487] at h; cases h
                · rw [if_neg h485] at h; cases h
              · rw [if_neg h483] at h; cases h
            · rw [if_neg h481] at h; cases h
    · rw [if_neg h464] at h
      cases h
      exact pkk_sound TTok mix hF 8 (hs := [.t false]) (ts := []) (s := [0, 1]) (l := []) (by kernel_rfl) (by kernel_rfl) (.cons (df h464) .nil) q
/- slices.partialInsertionSortCmpFunc[ringhall/lift.Req] -/
def G_slices_partialInsertionSortCmpFunc_lift_Req_h (n : Nat) (v_data691 : (List S_lift_Req)) (v_a692 : Int) (v_b693 : Int) (v_cmp694 : (S_lift_Req → S_lift_Req → Option (Int))) : Option (Bool × (List S_lift_Req)) :=
  (G_slices_partialInsertionSortCmpFunc_lift_Req_h_L5 n v_a692 v_b693 v_cmp694 n (wi .i64 (v_a692 + 1)) 0 v_data691).bind fun v_o787 => match v_o787 with
  | .x0 v_z788 v_z789 =>
    some (v_z788, v_z789)
  | .x1 v_z790 =>
    some (false, v_z790)
theorem G_slices_partialInsertionSortCmpFunc_lift_Req_h_ok (n : Nat) (v_data691 : (List S_lift_Req)) (v_a692 : Int) (v_b693 : Int) (v_cmp694 : (S_lift_Req → S_lift_Req → Option (Int))) (v_cmp694_g : FuncId) (v_cmp694_c : List PV) (v_cmp694_h : ∀ (x0 : S_lift_Req) (x1 : S_lift_Req) (r : Int), v_cmp694 x0 x1 = some r → Ret Try.prog v_cmp694_g ([eS_lift_Req x0, eS_lift_Req x1] ++ v_cmp694_c) ((eI .i64) r)) (r : Bool × (List S_lift_Req)) (h : G_slices_partialInsertionSortCmpFunc_lift_Req_h n v_data691 v_a692 v_b693 v_cmp694 = some r) : RetH Try.prog 47 [.srf 0, .d ((eI .i64) v_a692), .d ((eI .i64) v_b693), .d ((.clo v_cmp694_g v_cmp694_c))] [.row 26 3 (v_data691.map eS_lift_Req)] (.d (eB r.1)) [.row 26 3 (r.2.map eS_lift_Req)] := by
  refine retH_run (n := 141) (fn := Try.f47) (c := bodyOf Try.f47) (by kernel_rfl) (by kernel_rfl) (by kernel_rfl) (by kernel_rfl) ?_
  have hF : KC 141 (FinH Try.prog Try.f47 [.row 26 3 (v_data691.map eS_lift_Req)] (.d (eB r.1)) [.row 26 3 (r.2.map eS_lift_Req)]) := FinH.kc' (by kernel_rfl)
  unfold G_slices_partialInsertionSortCmpFunc_lift_Req_h at h
  obtain ⟨v_o787, h582, h⟩ := bind_some h
  refine pkk_sound TTok mix hF 9 (hs := [.n n]) (ts := []) (s := [1, 0]) (l := [0, 1, 2, 3, 9, 10]) (by kernel_rfl) (by kernel_rfl) .nil (G_slices_partialInsertionSortCmpFunc_lift_Req_h_L5_ok hF (.b 0 :: .s (cR (cR (cR (bodyOf Try.f47)))) :: []) n v_a692 v_b693 v_cmp694 v_cmp694_g v_cmp694_c v_cmp694_h n (wi .i64 (v_a692 + 1)) 0 v_data691 _ h582 ?_)
  cases v_o787 with
  | x0 v_z788 v_z789 =>
    try dsimp only at h
    obtain rfl := Option.some.inj h
    exact pendH_sound TTok mix 2 (hs := []) [1] (by kernel_rfl) (by kernel_rfl) (by kernel_rfl) .nil
  | x1 v_z790 =>
    try dsimp only at h
    obtain rfl := Option.some.inj h
    exact pendH_sound TTok mix 4 (hs := []) [1] (by kernel_rfl) (by kernel_rfl) (by kernel_rfl) .nil
inductive G_slices_partitionEqualCmpFunc_lift_Req_h_L1_R where
  | x0 (v_i836 : Int) (v_w837 : (List S_lift_Req))
def G_slices_partitionEqualCmpFunc_lift_Req_h_L1_ex : G_slices_partitionEqualCmpFunc_lift_Req_h_L1_R → Ex
  | .x0 _ _ => .exit 2
def G_slices_partitionEqualCmpFunc_lift_Req_h_L1_st (v_a815 : Int) (v_cmp818 : (S_lift_Req → S_lift_Req → Option (Int))) (v_j824 : Int) (v_cmp818_g : FuncId) (v_cmp818_c : (List PV)) : G_slices_partitionEqualCmpFunc_lift_Req_h_L1_R → PS
  | .x0 v_i836 v_w837 => ⟨(.srf 1 :: .d (.v (.int .i64 v_a815)) :: dd :: dd :: .d (.clo v_cmp818_g v_cmp818_c) :: dd :: dd :: dd :: dd :: dd :: dd :: .d (.v (.int .i64 v_i836)) :: .d (.v (.int .i64 v_j824)) :: (dds 77 [])), [.gh 0 (.srf 1), .row 26 3 (v_w837.map eS_lift_Req)]⟩
def G_slices_partitionEqualCmpFunc_lift_Req_h_L1_hd (v_a815 : Int) (v_cmp818 : (S_lift_Req → S_lift_Req → Option (Int))) (v_j824 : Int) (v_cmp818_g : FuncId) (v_cmp818_c : (List PV)) (v_i827 : Int) (v_w828 : (List S_lift_Req)) : PS := ⟨(.srf 1 :: .d (.v (.int .i64 v_a815)) :: dd :: dd :: .d (.clo v_cmp818_g v_cmp818_c) :: dd :: dd :: dd :: dd :: dd :: dd :: .d (.v (.int .i64 v_i827)) :: .d (.v (.int .i64 v_j824)) :: (dds 77 [])), [.gh 0 (.srf 1), .row 26 3 (v_w828.map eS_lift_Req)]⟩
def G_slices_partitionEqualCmpFunc_lift_Req_h_L1 (n : Nat) (v_a815 : Int) (v_cmp818 : (S_lift_Req → S_lift_Req → Option (Int))) (v_j824 : Int) : Nat → Int → (List S_lift_Req) → Option G_slices_partitionEqualCmpFunc_lift_Req_h_L1_R
  | 0, _, _ => none
  | k + 1, v_i827, v_w828 =>
    if v_i827 ≤ v_j824 then
     if 0 ≤ v_a815 ∧ (v_a815).toNat < v_w828.length then
      (v_w828[(v_a815).toNat]?).bind fun (v_y833 : S_lift_Req) =>
      if 0 ≤ v_i827 ∧ (v_i827).toNat < v_w828.length then
       (v_w828[(v_i827).toNat]?).bind fun (v_y834 : S_lift_Req) =>
       (v_cmp818 v_y833 v_y834).bind fun (v_r835 : (Int)) =>
       if v_r835 < 0 then
        some (.x0 v_i827 v_w828)
       else
        G_slices_partitionEqualCmpFunc_lift_Req_h_L1 n v_a815 v_cmp818 v_j824 k (wi .i64 (v_i827 + 1)) v_w828
      else none
     else none
    else
     some (.x0 v_i827 v_w828)
theorem G_slices_partitionEqualCmpFunc_lift_Req_h_L1_ok {Fi : Ex → PS → Prop} (hF : KC 90 Fi) (ks : List Fr) (n : Nat) (v_a815 : Int) (v_cmp818 : (S_lift_Req → S_lift_Req → Option (Int))) (v_j824 : Int) (v_cmp818_g : FuncId) (v_cmp818_c : (List PV)) (v_cmp818_h : ∀ (x0 : S_lift_Req) (x1 : S_lift_Req) (r : Int), v_cmp818 x0 x1 = some r → Ret Try.prog v_cmp818_g ([eS_lift_Req x0, eS_lift_Req x1] ++ v_cmp818_c) ((eI .i64) r)) : ∀ (k : Nat) (v_i827 : Int) (v_w828 : (List S_lift_Req)) (o : G_slices_partitionEqualCmpFunc_lift_Req_h_L1_R), G_slices_partitionEqualCmpFunc_lift_Req_h_L1 n v_a815 v_cmp818 v_j824 k v_i827 v_w828 = some o → RunE Try.prog 90 Fi ks (G_slices_partitionEqualCmpFunc_lift_Req_h_L1_ex o) (G_slices_partitionEqualCmpFunc_lift_Req_h_L1_st v_a815 v_cmp818 v_j824 v_cmp818_g v_cmp818_c o) → RunE Try.prog 90 Fi (.l k (cP (cB (cL (cB (cP (cB (cL (cR (cR (cR (bodyOf Try.f48))))))))))) :: ks) .normal (G_slices_partitionEqualCmpFunc_lift_Req_h_L1_hd v_a815 v_cmp818 v_j824 v_cmp818_g v_cmp818_c v_i827 v_w828)
  | 0, v_i827, v_w828, o, h, q => by rw [G_slices_partitionEqualCmpFunc_lift_Req_h_L1] at h; cases h
  | k + 1, v_i827, v_w828, o, h, q => by
    rw [G_slices_partitionEqualCmpFunc_lift_Req_h_L1] at h
    by_cases h617 : v_i827 ≤ v_j824
    · rw [if_pos h617] at h
      by_cases h618 : 0 ≤ v_a815 ∧ (v_a815).toNat < v_w828.length
      · rw [if_pos h618] at h
        obtain ⟨v_y833, h619, h⟩ := bind_some h
        by_cases h620 : 0 ≤ v_i827 ∧ (v_i827).toNat < v_w828.length
        · rw [if_pos h620] at h
          obtain ⟨v_y834, h621, h⟩ := bind_some h
          obtain ⟨v_r835, h622, h⟩ := bind_some h
          by_cases h623 : v_r835 < 0
          · rw [if_pos h623] at h
            cases h
            exact pkk_sound TTok mix hF 8 (hs := [.t true, .c, .c, .c, .c, .y (eS_lift_Req v_y833), .c, .c, .c, .c, .y (eS_lift_Req v_y834), .c, .r ((eI .i64) v_r835), .c, .c, .t false]) (ts := []) (s := [0, 1]) (l := [0, 1, 4, 11, 12]) (by kernel_rfl) (by kernel_rfl) (.cons (dt h617) (.cons (idx_ob (f := eS_lift_Req) h618) (.cons (get_ob (f := eS_lift_Req) h619) (.cons (idx_ob (f := eS_lift_Req) h620) (.cons (get_ob (f := eS_lift_Req) h621) (.cons (v_cmp818_h v_y833 v_y834 _ h622) (.cons (bnf (dt h623)) .nil))))))) q
          · rw [if_neg h623] at h
            exact pkk_sound TTok mix hF 9 (hs := [.t true, .c, .c, .c, .c, .y (eS_lift_Req v_y833), .c, .c, .c, .c, .y (eS_lift_Req v_y834), .c, .r ((eI .i64) v_r835), .c, .c, .t true]) (ts := []) (s := [0, 1]) (l := [0, 1, 4, 11, 12]) (by kernel_rfl) (by kernel_rfl) (.cons (dt h617) (.cons (idx_ob (f := eS_lift_Req) h618) (.cons (get_ob (f := eS_lift_Req) h619) (.cons (idx_ob (f := eS_lift_Req) h620) (.cons (get_ob (f := eS_lift_Req) h621) (.cons (v_cmp818_h v_y833 v_y834 _ h622) (.cons (bnt (df h623)) .nil))))))) (G_slices_partitionEqualCmpFunc_lift_Req_h_L1_ok hF ks n v_a815 v_cmp818 v_j824 v_cmp818_g v_cmp818_c v_cmp818_h k (wi .i64 (v_i827 + 1)) v_w828 _ h q)
        · rw [if_neg h620] at h; cases h
      · rw [if_neg h618] at h; cases h
    · rw [if_neg h617] at h
      cases h
      exact pkk_sound TTok mix hF 8 (hs := [.t false, .c, .c, .c, .c, .c, .c, .c, .c, .c, .c, .c, .c]) (ts := []) (s := [0, 1]) (l := [0, 1, 4, 11, 12]) (by kernel_rfl) (by kernel_rfl) (.cons (df h617) .nil) q
inductive G_slices_partitionEqualCmpFunc_lift_Req_h_L2_R where
  | x0 (v_j852 : Int) (v_w853 : (List S_lift_Req))
def G_slices_partitionEqualCmpFunc_lift_Req_h_L2_ex : G_slices_partitionEqualCmpFunc_lift_Req_h_L2_R → Ex
  | .x0 _ _ => .exit 4
def G_slices_partitionEqualCmpFunc_lift_Req_h_L2_st (v_a815 : Int) (v_cmp818 : (S_lift_Req → S_lift_Req → Option (Int))) (v_z841 : Int) (v_cmp818_g : FuncId) (v_cmp818_c : (List PV)) : G_slices_partitionEqualCmpFunc_lift_Req_h_L2_R → PS
  | .x0 v_j852 v_w853 => ⟨(.srf 1 :: .d (.v (.int .i64 v_a815)) :: dd :: dd :: .d (.clo v_cmp818_g v_cmp818_c) :: dd :: dd :: dd :: dd :: dd :: dd :: .d (.v (.int .i64 v_z841)) :: .d (.v (.int .i64 v_j852)) :: (dds 77 [])), [.gh 0 (.srf 1), .row 26 3 (v_w853.map eS_lift_Req)]⟩
def G_slices_partitionEqualCmpFunc_lift_Req_h_L2_hd (v_a815 : Int) (v_cmp818 : (S_lift_Req → S_lift_Req → Option (Int))) (v_z841 : Int) (v_cmp818_g : FuncId) (v_cmp818_c : (List PV)) (v_j843 : Int) (v_w844 : (List S_lift_Req)) : PS := ⟨(.srf 1 :: .d (.v (.int .i64 v_a815)) :: dd :: dd :: .d (.clo v_cmp818_g v_cmp818_c) :: dd :: dd :: dd :: dd :: dd :: dd :: .d (.v (.int .i64 v_z841)) :: .d (.v (.int .i64 v_j843)) :: (dds 77 [])), [.gh 0 (.srf 1), .row 26 3 (v_w844.map eS_lift_Req)]⟩
def G_slices_partitionEqualCmpFunc_lift_Req_h_L2 (n : Nat) (v_a815 : Int) (v_cmp818 : (S_lift_Req → S_lift_Req → Option (Int))) (v_z841 : Int) : Nat → Int → (List S_lift_Req) → Option G_slices_partitionEqualCmpFunc_lift_Req_h_L2_R
  | 0, _, _ => none
  | k + 1, v_j843, v_w844 =>
    if v_z841 ≤ v_j843 then
     if 0 ≤ v_a815 ∧ (v_a815).toNat < v_w844.length then
      (v_w844[(v_a815).toNat]?).bind fun (v_y849 : S_lift_Req) =>
      if 0 ≤ v_j843 ∧ (v_j843).toNat < v_w844.length then
       (v_w844[(v_j843).toNat]?).bind fun (v_y850 : S_lift_Req) =>
       (v_cmp818 v_y849 v_y850).bind fun (v_r851 : (Int)) =>
       if v_r851 < 0 then
        G_slices_partitionEqualCmpFunc_lift_Req_h_L2 n v_a815 v_cmp818 v_z841 k (wi .i64 (v_j843 - 1)) v_w844
       else
        some (.x0 v_j843 v_w844)
      else none
     else none
    else
     some (.x0 v_j843 v_w844)
theorem G_slices_partitionEqualCmpFunc_lift_Req_h_L2_ok {Fi : Ex → PS → Prop} (hF : KC 90 Fi) (ks : List Fr) (n : Nat) (v_a815 : Int) (v_cmp818 : (S_lift_Req → S_lift_Req → Option (Int))) (v_z841 : Int) (v_cmp818_g : FuncId) (v_cmp818_c : (List PV)) (v_cmp818_h : ∀ (x0 : S_lift_Req) (x1 : S_lift_Req) (r : Int), v_cmp818 x0 x1 = some r → Ret Try.prog v_cmp818_g ([eS_lift_Req x0, eS_lift_Req x1] ++ v_cmp818_c) ((eI .i64) r)) : ∀ (k : Nat) (v_j843 : Int) (v_w844 : (List S_lift_Req)) (o : G_slices_partitionEqualCmpFunc_lift_Req_h_L2_R), G_slices_partitionEqualCmpFunc_lift_Req_h_L2 n v_a815 v_cmp818 v_z841 k v_j843 v_w844 = some o → RunE Try.prog 90 Fi ks (G_slices_partitionEqualCmpFunc_lift_Req_h_L2_ex o) (G_slices_partitionEqualCmpFunc_lift_Req_h_L2_st v_a815 v_cmp818 v_z841 v_cmp818_g v_cmp818_c o) → RunE Try.prog 90 Fi (.l k (cP (cB (cL (cR (cB (cP (cB (cL (cR (cR (cR (bodyOf Try.f48)))))))))))) :: ks) .normal (G_slices_partitionEqualCmpFunc_lift_Req_h_L2_hd v_a815 v_cmp818 v_z841 v_cmp818_g v_cmp818_c v_j843 v_w844)
  | 0, v_j843, v_w844, o, h, q => by rw [G_slices_partitionEqualCmpFunc_lift_Req_h_L2] at h; cases h
  | k + 1, v_j843, v_w844, o, h, q => by
    rw [G_slices_partitionEqualCmpFunc_lift_Req_h_L2] at h
    by_cases h631 : v_z841 ≤ v_j843
    · rw [if_pos h631] at h
      by_cases h632 : 0 ≤ v_a815 ∧ (v_a815).toNat < v_w844.length
      · rw [if_pos h632] at h
        obtain ⟨v_y849, h633, h⟩ := bind_some h
        by_cases h634 : 0 ≤ v_j843 ∧ (v_j843).toNat < v_w844.length
        · rw [if_pos h634] at h
          obtain ⟨v_y850, h635, h⟩ := bind_some h
          obtain ⟨v_r851, h636, h⟩ := bind_some h
          by_cases h637 : v_r851 < 0
          · rw [if_pos h637] at h
            exact pkk_sound TTok mix hF 9 (hs := [.t true, .c, .c, .c, .c, .y (eS_lift_Req v_y849), .c, .c, .c, .c, .y (eS_lift_Req v_y850), .c, .r ((eI .i64) v_r851), .c, .t true]) (ts := []) (s := [0, 1]) (l := [0, 1, 4, 11, 12]) (by kernel_rfl) (by kernel_rfl) (.cons (dt h631) (.cons (idx_ob (f := eS_lift_Req) h632) (.cons (get_ob (f := eS_lift_Req) h633) (.cons (idx_ob (f := eS_lift_Req) h634) (.cons (get_ob (f := eS_lift_Req) h635) (.cons (v_cmp818_h v_y849 v_y850 _ h636) (.cons (dt h637) .nil))))))) (G_slices_partitionEqualCmpFunc_lift_Req_h_L2_ok hF ks n v_a815 v_cmp818 v_z841 v_cmp818_g v_cmp818_c v_cmp818_h k (wi .i64 (v_j843 - 1)) v_w844 _ h q)
          · rw [if_neg h637] at h
            cases h
            exact pkk_sound TTok mix hF 8 (hs := [.t true, .c, .c, .c, .c, .y (eS_lift_Req v_y849), .c, .c, .c, .c, .y (eS_lift_Req v_y850), .c, .r ((eI .i64) v_r851), .c, .t false]) (ts := []) (s := [0, 1]) (l := [0, 1, 4, 11, 12]) (by kernel_rfl) (by kernel_rfl) (.cons (dt h631) (.cons (idx_ob (f := eS_lift_Req) h632) (.cons (get_ob (f := eS_lift_Req) h633) (.cons (idx_ob (f := eS_lift_Req) h634) (.cons (get_ob (f := eS_lift_Req) h635) (.cons (v_cmp818_h v_y849 v_y850 _ h636) (.cons (df h637) .nil))))))) q
        · rw [if_neg h634] at h; cases h
      · rw [if_neg h632] at h; cases h
    · rw [if_neg h631] at h
      cases h
      exact pkk_sound TTok mix hF 8 (hs := [.t false, .c, .c, .c, .c, .c, .c, .c, .c, .c, .c, .c]) (ts := []) (s := [0, 1]) (l := [0, 1, 4, 11, 12]) (by kernel_rfl) (by kernel_rfl) (.cons (df h631) .nil) q
inductive G_slices_partitionEqualCmpFunc_lift_Req_h_L3_R where
  | x0 (v_i859 : Int) (v_w860 : (List S_lift_Req))
def G_slices_partitionEqualCmpFunc_lift_Req_h_L3_ex : G_slices_partitionEqualCmpFunc_lift_Req_h_L3_R → Ex
  | .x0 _ _ => .exit 0
def G_slices_partitionEqualCmpFunc_lift_Req_h_L3_st (v_a815 : Int) (v_cmp818 : (S_lift_Req → S_lift_Req → Option (Int))) (v_cmp818_g : FuncId) (v_cmp818_c : (List PV)) : G_slices_partitionEqualCmpFunc_lift_Req_h_L3_R → PS
  | .x0 v_i859 v_w860 => ⟨(dds 11 (.d (.v (.int .i64 v_i859)) :: (dds 78 []))), [.gh 0 (.srf 1), .row 26 3 (v_w860.map eS_lift_Req)]⟩
def G_slices_partitionEqualCmpFunc_lift_Req_h_L3_hd (v_a815 : Int) (v_cmp818 : (S_lift_Req → S_lift_Req → Option (Int))) (v_cmp818_g : FuncId) (v_cmp818_c : (List PV)) (v_i823 : Int) (v_j824 : Int) (v_w825 : (List S_lift_Req)) : PS := ⟨(.srf 1 :: .d (.v (.int .i64 v_a815)) :: dd :: dd :: .d (.clo v_cmp818_g v_cmp818_c) :: dd :: dd :: dd :: dd :: dd :: dd :: .d (.v (.int .i64 v_i823)) :: .d (.v (.int .i64 v_j824)) :: (dds 77 [])), [.gh 0 (.srf 1), .row 26 3 (v_w825.map eS_lift_Req)]⟩
def G_slices_partitionEqualCmpFunc_lift_Req_h_L3 (n : Nat) (v_a815 : Int) (v_cmp818 : (S_lift_Req → S_lift_Req → Option (Int))) : Nat → Int → Int → (List S_lift_Req) → Option G_slices_partitionEqualCmpFunc_lift_Req_h_L3_R
  | 0, _, _, _ => none
  | k + 1, v_i823, v_j824, v_w825 =>
    (G_slices_partitionEqualCmpFunc_lift_Req_h_L1 n v_a815 v_cmp818 v_j824 n v_i823 v_w825).bind fun v_o840 => match v_o840 with
    | .x0 v_z841 v_z842 =>
      (G_slices_partitionEqualCmpFunc_lift_Req_h_L2 n v_a815 v_cmp818 v_z841 n v_j824 v_z842).bind fun v_o856 => match v_o856 with
      | .x0 v_z857 v_z858 =>
        if v_z841 > v_z857 then
         some (.x0 v_z841 v_z858)
        else
         if 0 ≤ v_z857 ∧ (v_z857).toNat < v_z858.length then
          (v_z858[(v_z857).toNat]?).bind fun (v_y861 : S_lift_Req) =>
          if 0 ≤ v_z841 ∧ (v_z841).toNat < v_z858.length then
           (v_z858[(v_z841).toNat]?).bind fun (v_y862 : S_lift_Req) =>
           if 0 ≤ v_z841 ∧ (v_z841).toNat < v_z858.length then
            (v_z858[(v_z841).toNat]?).bind fun (v_y863 : S_lift_Req) =>
            if 0 ≤ v_z857 ∧ (v_z857).toNat < (v_z858.set (v_z841).toNat v_y861).length then
             ((v_z858.set (v_z841).toNat v_y861)[(v_z857).toNat]?).bind fun (v_y864 : S_lift_Req) =>
             G_slices_partitionEqualCmpFunc_lift_Req_h_L3 n v_a815 v_cmp818 k (wi .i64 (v_z841 + 1)) (wi .i64 (v_z857 - 1)) ((v_z858.set (v_z841).toNat v_y861).set (v_z857).toNat v_y862)
            else none
           else none
          else none
         else none
theorem G_slices_partitionEqualCmpFunc_lift_Req_h_L3_ok {Fi : Ex → PS → Prop} (hF : KC 90 Fi) (ks : List Fr) (n : Nat) (v_a815 : Int) (v_cmp818 : (S_lift_Req → S_lift_Req → Option (Int))) (v_cmp818_g : FuncId) (v_cmp818_c : (List PV)) (v_cmp818_h : ∀ (x0 : S_lift_Req) (x1 : S_lift_Req) (r : Int), v_cmp818 x0 x1 = some r → Ret Try.prog v_cmp818_g ([eS_lift_Req x0, eS_lift_Req x1] ++ v_cmp818_c) ((eI .i64) r)) : ∀ (k : Nat) (v_i823 : Int) (v_j824 : Int) (v_w825 : (List S_lift_Req)) (o : G_slices_partitionEqualCmpFunc_lift_Req_h_L3_R), G_slices_partitionEqualCmpFunc_lift_Req_h_L3 n v_a815 v_cmp818 k v_i823 v_j824 v_w825 = some o → RunE Try.prog 90 Fi ks (G_slices_partitionEqualCmpFunc_lift_Req_h_L3_ex o) (G_slices_partitionEqualCmpFunc_lift_Req_h_L3_st v_a815 v_cmp818 v_cmp818_g v_cmp818_c o) → RunE Try.prog 90 Fi (.l k (cP (cB (cL (cR (cR (cR (bodyOf Try.f48))))))) :: ks) .normal (G_slices_partitionEqualCmpFunc_lift_Req_h_L3_hd v_a815 v_cmp818 v_cmp818_g v_cmp818_c v_i823 v_j824 v_w825)
  | 0, v_i823, v_j824, v_w825, o, h, q => by rw [G_slices_partitionEqualCmpFunc_lift_Req_h_L3] at h; cases h
  | k + 1, v_i823, v_j824, v_w825, o, h, q => by
    rw [G_slices_partitionEqualCmpFunc_lift_Req_h_L3] at h
    obtain ⟨v_o840, h624, h⟩ := bind_some h
    refine pkk_sound TTok mix hF 5 (hs := [.n n]) (ts := []) (s := [0, 1]) (l := [0, 1, 4, 11, 12]) (by kernel_rfl) (by kernel_rfl) .nil (G_slices_partitionEqualCmpFunc_lift_Req_h_L1_ok hF (.b 2 :: .s (cR (cB (cP (cB (cL (cR (cR (cR (bodyOf Try.f48))))))))) :: .b 1 :: .l k (cP (cB (cL (cR (cR (cR (bodyOf Try.f48))))))) :: ks) n v_a815 v_cmp818 v_j824 v_cmp818_g v_cmp818_c v_cmp818_h n v_i823 v_w825 _ h624 ?_)
    cases v_o840 with
    | x0 v_z841 v_z842 =>
      try dsimp only at h
      obtain ⟨v_o856, h638, h⟩ := bind_some h
      refine pkk_sound TTok mix hF 4 (hs := [.n n]) (ts := []) (s := [0, 1]) (l := [0, 1, 4, 11, 12]) (by kernel_rfl) (by kernel_rfl) .nil (G_slices_partitionEqualCmpFunc_lift_Req_h_L2_ok hF (.b 4 :: .s (cR (cR (cB (cP (cB (cL (cR (cR (cR (bodyOf Try.f48)))))))))) :: .b 1 :: .l k (cP (cB (cL (cR (cR (cR (bodyOf Try.f48))))))) :: ks) n v_a815 v_cmp818 v_z841 v_cmp818_g v_cmp818_c v_cmp818_h n v_j824 v_z842 _ h638 ?_)
      cases v_o856 with
      | x0 v_z857 v_z858 =>
        try dsimp only at h
        by_cases h639 : v_z841 > v_z857
        · rw [if_pos h639] at h
          cases h
          exact pkk_sound TTok mix hF 9 (hs := [.t true]) (ts := []) (s := [0, 1]) (l := [11]) (by kernel_rfl) (by kernel_rfl) (.cons (dt h639) .nil) q
        · rw [if_neg h639] at h
          by_cases h640 : 0 ≤ v_z857 ∧ (v_z857).toNat < v_z858.length
          · rw [if_pos h640] at h
            obtain ⟨v_y861, h641, h⟩ := bind_some h
            by_cases h642 : 0 ≤ v_z841 ∧ (v_z841).toNat < v_z858.length
            · rw [if_pos h642] at h
              obtain ⟨v_y862, h643, h⟩ := bind_some h
              by_cases h644 : 0 ≤ v_z841 ∧ (v_z841).toNat < v_z858.length
              · rw [if_pos h644] at h
                obtain ⟨v_y863, h645, h⟩ := bind_some h
                by_cases h646 : 0 ≤ v_z857 ∧ (v_z857).toNat < (v_z858.set (v_z841).toNat v_y861).length
                · rw [if_pos h646] at h
                  obtain ⟨v_y864, h647, h⟩ := bind_some h
                  exact pkk_sound TTok mix hF 12 (hs := [.t false, .y (eS_lift_Req v_y861), .y (eS_lift_Req v_y862), .w ((v_z858.set (v_z841).toNat v_y861).map eS_lift_Req), .y (eS_lift_Req v_y863), .w (((v_z858.set (v_z841).toNat v_y861).set (v_z857).toNat v_y862).map eS_lift_Req), .y (eS_lift_Req v_y864)]) (ts := []) (s := [0, 1]) (l := [0, 1, 4, 11, 12]) (by kernel_rfl) (by kernel_rfl) (.cons (df h639) (.cons (idx_ob (f := eS_lift_Req) h640) (.cons (get_ob (f := eS_lift_Req) h641) (.cons (idx_ob (f := eS_lift_Req) h642) (.cons (get_ob (f := eS_lift_Req) h643) (.cons (idx_ob (f := eS_lift_Req) h644) (.cons (get_ob (f := eS_lift_Req) h645) (.cons (Eq.refl (pcells (.agg [.v (.int .i64 v_y861.fSector), .sl (v_y861.fData.map (eI .u8)), .v (.bool v_y861.fBarrier)]))) (.cons (set_ob (f := eS_lift_Req) (l := v_z858) (k := (v_z841).toNat) (z := v_y861) (p := .agg [.v (.int .i64 v_y861.fSector), .sl (v_y861.fData.map (eI .u8)), .v (.bool v_y861.fBarrier)]) rfl) (.cons (idx_ob (f := eS_lift_Req) h646) (.cons (get_ob (f := eS_lift_Req) h647) (.cons (Eq.refl (pcells (.agg [.v (.int .i64 v_y862.fSector), .sl (v_y862.fData.map (eI .u8)), .v (.bool v_y862.fBarrier)]))) (.cons (set_ob (f := eS_lift_Req) (l := (v_z858.set (v_z841).toNat v_y861)) (k := (v_z857).toNat) (z := v_y862) (p := .agg [.v (.int .i64 v_y862.fSector), .sl (v_y862.fData.map (eI .u8)), .v (.bool v_y862.fBarrier)]) rfl) .nil))))))))))))) (G_slices_partitionEqualCmpFunc_lift_Req_h_L3_ok hF ks n v_a815 v_cmp818 v_cmp818_g v_cmp818_c v_cmp818_h k (wi .i64 (v_z841 + 1)) (wi .i64 (v_z857 - 1)) ((v_z858.set (v_z841).toNat v_y861).set (v_z857).toNat v_y862) _ h q)
                · rw [if_neg h646] at h; cases h
              · rw [if_neg h644] at h; cases h
            · rw [if_neg h642] at h; cases h
          · rw [if_neg h640] at h; cases h
/- slices.partitionEqualCmpFunc[ringhall/lift.Req] -/
def G_slices_partitionEqualCmpFunc_lift_Req_h (n : Nat) (v_data814 : (List S_lift_Req)) (v_a815 : Int) (v_b816 : Int) (v_pivot817 : Int) (v_cmp818 : (S_lift_Req → S_lift_Req → Option (Int))) : Option (Int × (List S_lift_Req)) :=
  if 0 ≤ v_pivot817 ∧ (v_pivot817).toNat < v_data814.length then
   (v_data814[(v_pivot817).toNat]?).bind fun (v_y819 : S_lift_Req) =>
   if 0 ≤ v_a815 ∧ (v_a815).toNat < v_data814.length then
    (v_data814[(v_a815).toNat]?).bind fun (v_y820 : S_lift_Req) =>
    if 0 ≤ v_a815 ∧ (v_a815).toNat < v_data814.length then
     (v_data814[(v_a815).toNat]?).bind fun (v_y821 : S_lift_Req) =>
     if 0 ≤ v_pivot817 ∧ (v_pivot817).toNat < (v_data814.set (v_a815).toNat v_y819).length then
      ((v_data814.set (v_a815).toNat v_y819)[(v_pivot817).toNat]?).bind fun (v_y822 : S_lift_Req) =>
      (G_slices_partitionEqualCmpFunc_lift_Req_h_L3 n v_a815 v_cmp818 n (wi .i64 (v_a815 + 1)) (wi .i64 (v_b816 - 1)) ((v_data814.set (v_a815).toNat v_y819).set (v_pivot817).toNat v_y820)).bind fun v_o865 => match v_o865 with
      | .x0 v_z866 v_z867 =>
        some (v_z866, v_z867)
     else none
    else none
   else none
  else none
theorem G_slices_partitionEqualCmpFunc_lift_Req_h_ok (n : Nat) (v_data814 : (List S_lift_Req)) (v_a815 : Int) (v_b816 : Int) (v_pivot817 : Int) (v_cmp818 : (S_lift_Req → S_lift_Req → Option (Int))) (v_cmp818_g : FuncId) (v_cmp818_c : List PV) (v_cmp818_h : ∀ (x0 : S_lift_Req) (x1 : S_lift_Req) (r : Int), v_cmp818 x0 x1 = some r → Ret Try.prog v_cmp818_g ([eS_lift_Req x0, eS_lift_Req x1] ++ v_cmp818_c) ((eI .i64) r)) (r : Int × (List S_lift_Req)) (h : G_slices_partitionEqualCmpFunc_lift_Req_h n v_data814 v_a815 v_b816 v_pivot817 v_cmp818 = some r) : RetH Try.prog 48 [.srf 0, .d ((eI .i64) v_a815), .d ((eI .i64) v_b816), .d ((eI .i64) v_pivot817), .d ((.clo v_cmp818_g v_cmp818_c))] [.row 26 3 (v_data814.map eS_lift_Req)] (.d ((eI .i64) r.1)) [.row 26 3 (r.2.map eS_lift_Req)] := by
  refine retH_run (n := 90) (fn := Try.f48) (c := bodyOf Try.f48) (by kernel_rfl) (by kernel_rfl) (by kernel_rfl) (by kernel_rfl) ?_
  have hF : KC 90 (FinH Try.prog Try.f48 [.row 26 3 (v_data814.map eS_lift_Req)] (.d ((eI .i64) r.1)) [.row 26 3 (r.2.map eS_lift_Req)]) := FinH.kc' (by kernel_rfl)
  unfold G_slices_partitionEqualCmpFunc_lift_Req_h at h
  by_cases h603 : 0 ≤ v_pivot817 ∧ (v_pivot817).toNat < v_data814.length
  · rw [if_pos h603] at h
    obtain ⟨v_y819, h604, h⟩ := bind_some h
    by_cases h605 : 0 ≤ v_a815 ∧ (v_a815).toNat < v_data814.length
    · rw [if_pos h605] at h
      obtain ⟨v_y820, h606, h⟩ := bind_some h
      by_cases h607 : 0 ≤ v_a815 ∧ (v_a815).toNat < v_data814.length
      · rw [if_pos h607] at h
        obtain ⟨v_y821, h608, h⟩ := bind_some h
        by_cases h609 : 0 ≤ v_pivot817 ∧ (v_pivot817).toNat < (v_data814.set (v_a815).toNat v_y819).length
        · rw [if_pos h609] at h
          obtain ⟨v_y822, h610, h⟩ := bind_some h
          obtain ⟨v_o865, h648, h⟩ := bind_some h
          refine pkk_sound TTok mix hF 9 (hs := [.y (eS_lift_Req v_y819), .y (eS_lift_Req v_y820), .w ((v_data814.set (v_a815).toNat v_y819).map eS_lift_Req), .y (eS_lift_Req v_y821), .w (((v_data814.set (v_a815).toNat v_y819).set (v_pivot817).toNat v_y820).map eS_lift_Req), .y (eS_lift_Req v_y822), .n n]) (ts := []) (s := [1, 0]) (l := [0, 1, 4, 11, 12]) (by kernel_rfl) (by kernel_rfl) (.cons (idx_ob (f := eS_lift_Req) h603) (.cons (get_ob (f := eS_lift_Req) h604) (.cons (idx_ob (f := eS_lift_Req) h605) (.cons (get_ob (f := eS_lift_Req) h606) (.cons (idx_ob (f := eS_lift_Req) h607) (.cons (get_ob (f := eS_lift_Req) h608) (.cons (Eq.refl (pcells (.agg [.v (.int .i64 v_y819.fSector), .sl (v_y819.fData.map (eI .u8)), .v (.bool v_y819.fBarrier)]))) (.cons (set_ob (f := eS_lift_Req) (l := v_data814) (k := (v_a815).toNat) (z := v_y819) (p := .agg [.v (.int .i64 v_y819.fSector), .sl (v_y819.fData.map (eI .u8)), .v (.bool v_y819.fBarrier)]) rfl) (.cons (idx_ob (f := eS_lift_Req) h609) (.cons (get_ob (f := eS_lift_Req) h610) (.cons (Eq.refl (pcells (.agg [.v (.int .i64 v_y820.fSector), .sl (v_y820.fData.map (eI .u8)), .v (.bool v_y820.fBarrier)]))) (.cons (set_ob (f := eS_lift_Req) (l := (v_data814.set (v_a815).toNat v_y819)) (k := (v_pivot817).toNat) (z := v_y820) (p := .agg [.v (.int .i64 v_y820.fSector), .sl (v_y820.fData.map (eI .u8)), .v (.bool v_y820.fBarrier)]) rfl) .nil)))))))))))) (G_slices_partitionEqualCmpFunc_lift_Req_h_L3_ok hF (.b 0 :: .s (cR (cR (cR (cR (bodyOf Try.f48))))) :: []) n v_a815 v_cmp818 v_cmp818_g v_cmp818_c v_cmp818_h n (wi .i64 (v_a815 + 1)) (wi .i64 (v_b816 - 1)) ((v_data814.set (v_a815).toNat v_y819).set (v_pivot817).toNat v_y820) _ h648 ?_)
          cases v_o865 with
          | x0 v_z866 v_z867 =>
            try dsimp only at h
            obtain rfl := Option.some.inj h
            exact pendH_sound TTok mix 4 (hs := []) [1] (by kernel_rfl) (by kernel_rfl) (by kernel_rfl) .nil
        · rw [if_neg h609] at h; cases h
      · rw [if_neg h607] at h; cases h
    · rw [if_neg h605] at h; cases h
  · rw [if_neg h603] at h; cases h
inductive G_slices_partitionCmpFunc_lift_Req_h_L1_R where
  | x0 (v_i888 : Int) (v_w889 : (List S_lift_Req))
def G_slices_partitionCmpFunc_lift_Req_h_L1_ex : G_slices_partitionCmpFunc_lift_Req_h_L1_R → Ex
  | .x0 _ _ => .exit 0
def G_slices_partitionCmpFunc_lift_Req_h_L1_st (v_a871 : Int) (v_cmp874 : (S_lift_Req → S_lift_Req → Option (Int))) (v_b872 : Int) (v_cmp874_g : FuncId) (v_cmp874_c : (List PV)) : G_slices_partitionCmpFunc_lift_Req_h_L1_R → PS
  | .x0 v_i888 v_w889 => ⟨(.srf 1 :: .d (.v (.int .i64 v_a871)) :: dd :: dd :: .d (.clo v_cmp874_g v_cmp874_c) :: dd :: dd :: dd :: dd :: dd :: dd :: dd :: .d (.v (.int .i64 v_i888)) :: .d (.v (.int .i64 (wi .i64 (v_b872 - 1)))) :: (dds 164 [])), [.gh 0 (.srf 1), .row 26 3 (v_w889.map eS_lift_Req)]⟩
def G_slices_partitionCmpFunc_lift_Req_h_L1_hd (v_a871 : Int) (v_cmp874 : (S_lift_Req → S_lift_Req → Option (Int))) (v_b872 : Int) (v_cmp874_g : FuncId) (v_cmp874_c : (List PV)) (v_i879 : Int) (v_w880 : (List S_lift_Req)) : PS := ⟨(.srf 1 :: .d (.v (.int .i64 v_a871)) :: dd :: dd :: .d (.clo v_cmp874_g v_cmp874_c) :: dd :: dd :: dd :: dd :: dd :: dd :: dd :: .d (.v (.int .i64 v_i879)) :: .d (.v (.int .i64 (wi .i64 (v_b872 - 1)))) :: (dds 164 [])), [.gh 0 (.srf 1), .row 26 3 (v_w880.map eS_lift_Req)]⟩
def G_slices_partitionCmpFunc_lift_Req_h_L1 (n : Nat) (v_a871 : Int) (v_cmp874 : (S_lift_Req → S_lift_Req → Option (Int))) (v_b872 : Int) : Nat → Int → (List S_lift_Req) → Option G_slices_partitionCmpFunc_lift_Req_h_L1_R
  | 0, _, _ => none
  | k + 1, v_i879, v_w880 =>
    if v_i879 ≤ (wi .i64 (v_b872 - 1)) then
     if 0 ≤ v_i879 ∧ (v_i879).toNat < v_w880.length then
      (v_w880[(v_i879).toNat]?).bind fun (v_y885 : S_lift_Req) =>
      if 0 ≤ v_a871 ∧ (v_a871).toNat < v_w880.length then
       (v_w880[(v_a871).toNat]?).bind fun (v_y886 : S_lift_Req) =>
       (v_cmp874 v_y885 v_y886).bind fun (v_r887 : (Int)) =>
       if v_r887 < 0 then
        G_slices_partitionCmpFunc_lift_Req_h_L1 n v_a871 v_cmp874 v_b872 k (wi .i64 (v_i879 + 1)) v_w880
       else
        some (.x0 v_i879 v_w880)
      else none
     else none
    else
     some (.x0 v_i879 v_w880)
theorem G_slices_partitionCmpFunc_lift_Req_h_L1_ok {Fi : Ex → PS → Prop} (hF : KC 178 Fi) (ks : List Fr) (n : Nat) (v_a871 : Int) (v_cmp874 : (S_lift_Req → S_lift_Req → Option (Int))) (v_b872 : Int) (v_cmp874_g : FuncId) (v_cmp874_c : (List PV)) (v_cmp874_h : ∀ (x0 : S_lift_Req) (x1 : S_lift_Req) (r : Int), v_cmp874 x0 x1 = some r → Ret Try.prog v_cmp874_g ([eS_lift_Req x0, eS_lift_Req x1] ++ v_cmp874_c) ((eI .i64) r)) : ∀ (k : Nat) (v_i879 : Int) (v_w880 : (List S_lift_Req)) (o : G_slices_partitionCmpFunc_lift_Req_h_L1_R), G_slices_partitionCmpFunc_lift_Req_h_L1 n v_a871 v_cmp874 v_b872 k v_i879 v_w880 = some o → RunE Try.prog 178 Fi ks (G_slices_partitionCmpFunc_lift_Req_h_L1_ex o) (G_slices_partitionCmpFunc_lift_Req_h_L1_st v_a871 v_cmp874 v_b872 v_cmp874_g v_cmp874_c o) → RunE Try.prog 178 Fi (.l k (cP (cB (cL (cR (cR (cR (bodyOf Try.f49))))))) :: ks) .normal (G_slices_partitionCmpFunc_lift_Req_h_L1_hd v_a871 v_cmp874 v_b872 v_cmp874_g v_cmp874_c v_i879 v_w880)
  | 0, v_i879, v_w880, o, h, q => by rw [G_slices_partitionCmpFunc_lift_Req_h_L1] at h; cases h
  | k + 1, v_i879, v_w880, o, h, q => by
    rw [G_slices_partitionCmpFunc_lift_Req_h_L1] at h
    by_cases h666 : v_i879 ≤ (wi .i64 (v_b872 - 1))
    · rw [if_pos h666] at h
      by_cases h667 : 0 ≤ v_i879 ∧ (v_i879).toNat < v_w880.length
      · rw [if_pos h667] at h
        obtain ⟨v_y885, h668, h⟩ := bind_some h
        by_cases h669 : 0 ≤ v_a871 ∧ (v_a871).toNat < v_w880.length
        · rw [if_pos h669] at h
          obtain ⟨v_y886, h670, h⟩ := bind_some h
          obtain ⟨v_r887, h671, h⟩ := bind_some h
          by_cases h672 : v_r887 < 0
          · rw [if_pos h672] at h
            exact pkk_sound TTok mix hF 9 (hs := [.t true, .c, .c, .c, .c, .y (eS_lift_Req v_y885), .c, .c, .c, .c, .y (eS_lift_Req v_y886), .c, .r ((eI .i64) v_r887), .c, .t true]) (ts := []) (s := [0, 1]) (l := [0, 1, 4, 12, 13]) (by kernel_rfl) (by kernel_rfl) (.cons (dt h666) (.cons (idx_ob (f := eS_lift_Req) h667) (.cons (get_ob (f := eS_lift_Req) h668) (.cons (idx_ob (f := eS_lift_Req) h669) (.cons (get_ob (f := eS_lift_Req) h670) (.cons (v_cmp874_h v_y885 v_y886 _ h671) (.cons (dt h672) .nil))))))) (G_slices_partitionCmpFunc_lift_Req_h_L1_ok hF ks n v_a871 v_cmp874 v_b872 v_cmp874_g v_cmp874_c v_cmp874_h k (wi .i64 (v_i879 + 1)) v_w880 _ h q)
          · rw [if_neg h672] at h
            cases h
            exact pkk_sound TTok mix hF 8 (hs := [.t true, .c, .c, .c, .c, .y (eS_lift_Req v_y885), .c, .c, .c, .c, .y (eS_lift_Req v_y886), .c, .r ((eI .i64) v_r887), .c, .t false]) (ts := []) (s := [0, 1]) (l := [0, 1, 4, 12, 13]) (by kernel_rfl) (by kernel_rfl) (.cons (dt h666) (.cons (idx_ob (f := eS_lift_Req) h667) (.cons (get_ob (f := eS_lift_Req) h668) (.cons (idx_ob (f := eS_lift_Req) h669) (.cons (get_ob (f := eS_lift_Req) h670) (.cons (v_cmp874_h v_y885 v_y886 _ h671) (.cons (df h672) .nil))))))) q
        · rw [if_neg h669] at h; cases h
      · rw [if_neg h667] at h; cases h
    · rw [if_neg h666] at h
      cases h
      exact pkk_sound TTok mix hF 8 (hs := [.t false, .c, .c, .c, .c, .c, .c, .c, .c, .c, .c, .c]) (ts := []) (s := [0, 1]) (l := [0, 1, 4, 12, 13]) (by kernel_rfl) (by kernel_rfl) (.cons (df h666) .nil) q
inductive G_slices_partitionCmpFunc_lift_Req_h_L2_R where
  | x0 (v_j904 : Int) (v_w905 : (List S_lift_Req))
def G_slices_partitionCmpFunc_lift_Req_h_L2_ex : G_slices_partitionCmpFunc_lift_Req_h_L2_R → Ex
  | .x0 _ _ => .exit 2
def G_slices_partitionCmpFunc_lift_Req_h_L2_st (v_a871 : Int) (v_cmp874 : (S_lift_Req → S_lift_Req → Option (Int))) (v_z893 : Int) (v_cmp874_g : FuncId) (v_cmp874_c : (List PV)) : G_slices_partitionCmpFunc_lift_Req_h_L2_R → PS
  | .x0 v_j904 v_w905 => ⟨(.srf 1 :: .d (.v (.int .i64 v_a871)) :: dd :: dd :: .d (.clo v_cmp874_g v_cmp874_c) :: dd :: dd :: dd :: dd :: dd :: dd :: dd :: .d (.v (.int .i64 v_z893)) :: .d (.v (.int .i64 v_j904)) :: (dds 164 [])), [.gh 0 (.srf 1), .row 26 3 (v_w905.map eS_lift_Req)]⟩
def G_slices_partitionCmpFunc_lift_Req_h_L2_hd (v_a871 : Int) (v_cmp874 : (S_lift_Req → S_lift_Req → Option (Int))) (v_z893 : Int) (v_cmp874_g : FuncId) (v_cmp874_c : (List PV)) (v_j895 : Int) (v_w896 : (List S_lift_Req)) : PS := ⟨(.srf 1 :: .d (.v (.int .i64 v_a871)) :: dd :: dd :: .d (.clo v_cmp874_g v_cmp874_c) :: dd :: dd :: dd :: dd :: dd :: dd :: dd :: .d (.v (.int .i64 v_z893)) :: .d (.v (.int .i64 v_j895)) :: (dds 164 [])), [.gh 0 (.srf 1), .row 26 3 (v_w896.map eS_lift_Req)]⟩
def G_slices_partitionCmpFunc_lift_Req_h_L2 (n : Nat) (v_a871 : Int) (v_cmp874 : (S_lift_Req → S_lift_Req → Option (Int))) (v_z893 : Int) : Nat → Int → (List S_lift_Req) → Option G_slices_partitionCmpFunc_lift_Req_h_L2_R
  | 0, _, _ => none
  | k + 1, v_j895, v_w896 =>
    if v_z893 ≤ v_j895 then
     if 0 ≤ v_j895 ∧ (v_j895).toNat < v_w896.length then
      (v_w896[(v_j895).toNat]?).bind fun (v_y901 : S_lift_Req) =>
      if 0 ≤ v_a871 ∧ (v_a871).toNat < v_w896.length then
       (v_w896[(v_a871).toNat]?).bind fun (v_y902 : S_lift_Req) =>
       (v_cmp874 v_y901 v_y902).bind fun (v_r903 : (Int)) =>
       if v_r903 < 0 then
        some (.x0 v_j895 v_w896)
       else
        G_slices_partitionCmpFunc_lift_Req_h_L2 n v_a871 v_cmp874 v_z893 k (wi .i64 (v_j895 - 1)) v_w896
      else none
     else none
    else
     some (.x0 v_j895 v_w896)
theorem G_slices_partitionCmpFunc_lift_Req_h_L2_ok {Fi : Ex → PS → Prop} (hF : KC 178 Fi) (ks : List Fr) (n : Nat) (v_a871 : Int) (v_cmp874 : (S_lift_Req → S_lift_Req → Option (Int))) (v_z893 : Int) (v_cmp874_g : FuncId) (v_cmp874_c : (List PV)) (v_cmp874_h : ∀ (x0 : S_lift_Req) (x1 : S_lift_Req) (r : Int), v_cmp874 x0 x1 = some r → Ret Try.prog v_cmp874_g ([eS_lift_Req x0, eS_lift_Req x1] ++ v_cmp874_c) ((eI .i64) r)) : ∀ (k : Nat) (v_j895 : Int) (v_w896 : (List S_lift_Req)) (o : G_slices_partitionCmpFunc_lift_Req_h_L2_R), G_slices_partitionCmpFunc_lift_Req_h_L2 n v_a871 v_cmp874 v_z893 k v_j895 v_w896 = some o → RunE Try.prog 178 Fi ks (G_slices_partitionCmpFunc_lift_Req_h_L2_ex o) (G_slices_partitionCmpFunc_lift_Req_h_L2_st v_a871 v_cmp874 v_z893 v_cmp874_g v_cmp874_c o) → RunE Try.prog 178 Fi (.l k (cP (cB (cL (cR (cR (cR (cR (bodyOf Try.f49)))))))) :: ks) .normal (G_slices_partitionCmpFunc_lift_Req_h_L2_hd v_a871 v_cmp874 v_z893 v_cmp874_g v_cmp874_c v_j895 v_w896)
  | 0, v_j895, v_w896, o, h, q => by rw [G_slices_partitionCmpFunc_lift_Req_h_L2] at h; cases h
  | k + 1, v_j895, v_w896, o, h, q => by
    rw [G_slices_partitionCmpFunc_lift_Req_h_L2] at h
    by_cases h680 : v_z893 ≤ v_j895
    · rw [if_pos h680] at h
      by_cases h681 : 0 ≤ v_j895 ∧ (v_j895).toNat < v_w896.length
      · rw [if_pos h681] at h
        obtain ⟨v_y901, h682, h⟩ := bind_some h
        by_cases h683 : 0 ≤ v_a871 ∧ (v_a871).toNat < v_w896.length
        · rw [if_pos h683] at h
          obtain ⟨v_y902, h684, h⟩ := bind_some h
          obtain ⟨v_r903, h685, h⟩ := bind_some h
          by_cases h686 : v_r903 < 0
          · rw [if_pos h686] at h
            cases h
            exact pkk_sound TTok mix hF 8 (hs := [.t true, .c, .c, .c, .c, .y (eS_lift_Req v_y901), .c, .c, .c, .c, .y (eS_lift_Req v_y902), .c, .r ((eI .i64) v_r903), .c, .c, .t false]) (ts := []) (s := [0, 1]) (l := [0, 1, 4, 12, 13]) (by kernel_rfl) (by kernel_rfl) (.cons (dt h680) (.cons (idx_ob (f := eS_lift_Req) h681) (.cons (get_ob (f := eS_lift_Req) h682) (.cons (idx_ob (f := eS_lift_Req) h683) (.cons (get_ob (f := eS_lift_Req) h684) (.cons (v_cmp874_h v_y901 v_y902 _ h685) (.cons (bnf (dt h686)) .nil))))))) q
          · rw [if_neg h686] at h
            exact pkk_sound TTok mix hF 9 (hs := [.t true, .c, .c, .c, .c, .y (eS_lift_Req v_y901), .c, .c, .c, .c, .y (eS_lift_Req v_y902), .c, .r ((eI .i64) v_r903), .c, .c, .t true]) (ts := []) (s := [0, 1]) (l := [0, 1, 4, 12, 13]) (by kernel_rfl) (by kernel_rfl) (.cons (dt h680) (.cons (idx_ob (f := eS_lift_Req) h681) (.cons (get_ob (f := eS_lift_Req) h682) (.cons (idx_ob (f := eS_lift_Req) h683) (.cons (get_ob (f := eS_lift_Req) h684) (.cons (v_cmp874_h v_y901 v_y902 _ h685) (.cons (bnt (df h686)) .nil))))))) (G_slices_partitionCmpFunc_lift_Req_h_L2_ok hF ks n v_a871 v_cmp874 v_z893 v_cmp874_g v_cmp874_c v_cmp874_h k (wi .i64 (v_j895 - 1)) v_w896 _ h q)
        · rw [if_neg h683] at h; cases h
      · rw [if_neg h681] at h; cases h
    · rw [if_neg h680] at h
      cases h
      exact pkk_sound TTok mix hF 8 (hs := [.t false, .c, .c, .c, .c, .c, .c, .c, .c, .c, .c, .c, .c]) (ts := []) (s := [0, 1]) (l := [0, 1, 4, 12, 13]) (by kernel_rfl) (by kernel_rfl) (.cons (df h680) .nil) q
inductive G_slices_partitionCmpFunc_lift_Req_h_L3_R where
  | x0 (v_i936 : Int) (v_w937 : (List S_lift_Req))
def G_slices_partitionCmpFunc_lift_Req_h_L3_ex : G_slices_partitionCmpFunc_lift_Req_h_L3_R → Ex
  | .x0 _ _ => .exit 6
def G_slices_partitionCmpFunc_lift_Req_h_L3_st (v_a871 : Int) (v_cmp874 : (S_lift_Req → S_lift_Req → Option (Int))) (v_j924 : Int) (v_cmp874_g : FuncId) (v_cmp874_c : (List PV)) : G_slices_partitionCmpFunc_lift_Req_h_L3_R → PS
  | .x0 v_i936 v_w937 => ⟨(.srf 1 :: .d (.v (.int .i64 v_a871)) :: dd :: dd :: .d (.clo v_cmp874_g v_cmp874_c) :: dd :: dd :: dd :: dd :: dd :: dd :: dd :: .d (.v (.int .i64 v_i936)) :: .d (.v (.int .i64 v_j924)) :: (dds 164 [])), [.gh 0 (.srf 1), .row 26 3 (v_w937.map eS_lift_Req)]⟩
def G_slices_partitionCmpFunc_lift_Req_h_L3_hd (v_a871 : Int) (v_cmp874 : (S_lift_Req → S_lift_Req → Option (Int))) (v_j924 : Int) (v_cmp874_g : FuncId) (v_cmp874_c : (List PV)) (v_i927 : Int) (v_w928 : (List S_lift_Req)) : PS := ⟨(.srf 1 :: .d (.v (.int .i64 v_a871)) :: dd :: dd :: .d (.clo v_cmp874_g v_cmp874_c) :: dd :: dd :: dd :: dd :: dd :: dd :: dd :: .d (.v (.int .i64 v_i927)) :: .d (.v (.int .i64 v_j924)) :: (dds 164 [])), [.gh 0 (.srf 1), .row 26 3 (v_w928.map eS_lift_Req)]⟩
def G_slices_partitionCmpFunc_lift_Req_h_L3 (n : Nat) (v_a871 : Int) (v_cmp874 : (S_lift_Req → S_lift_Req → Option (Int))) (v_j924 : Int) : Nat → Int → (List S_lift_Req) → Option G_slices_partitionCmpFunc_lift_Req_h_L3_R
  | 0, _, _ => none
  | k + 1, v_i927, v_w928 =>
    if v_i927 ≤ v_j924 then
     if 0 ≤ v_i927 ∧ (v_i927).toNat < v_w928.length then
      (v_w928[(v_i927).toNat]?).bind fun (v_y933 : S_lift_Req) =>
      if 0 ≤ v_a871 ∧ (v_a871).toNat < v_w928.length then
       (v_w928[(v_a871).toNat]?).bind fun (v_y934 : S_lift_Req) =>
       (v_cmp874 v_y933 v_y934).bind fun (v_r935 : (Int)) =>
       if v_r935 < 0 then
        G_slices_partitionCmpFunc_lift_Req_h_L3 n v_a871 v_cmp874 v_j924 k (wi .i64 (v_i927 + 1)) v_w928
       else
        some (.x0 v_i927 v_w928)
      else none
     else none
    else
     some (.x0 v_i927 v_w928)
theorem G_slices_partitionCmpFunc_lift_Req_h_L3_ok {Fi : Ex → PS → Prop} (hF : KC 178 Fi) (ks : List Fr) (n : Nat) (v_a871 : Int) (v_cmp874 : (S_lift_Req → S_lift_Req → Option (Int))) (v_j924 : Int) (v_cmp874_g : FuncId) (v_cmp874_c : (List PV)) (v_cmp874_h : ∀ (x0 : S_lift_Req) (x1 : S_lift_Req) (r : Int), v_cmp874 x0 x1 = some r → Ret Try.prog v_cmp874_g ([eS_lift_Req x0, eS_lift_Req x1] ++ v_cmp874_c) ((eI .i64) r)) : ∀ (k : Nat) (v_i927 : Int) (v_w928 : (List S_lift_Req)) (o : G_slices_partitionCmpFunc_lift_Req_h_L3_R), G_slices_partitionCmpFunc_lift_Req_h_L3 n v_a871 v_cmp874 v_j924 k v_i927 v_w928 = some o → RunE Try.prog 178 Fi ks (G_slices_partitionCmpFunc_lift_Req_h_L3_ex o) (G_slices_partitionCmpFunc_lift_Req_h_L3_st v_a871 v_cmp874 v_j924 v_cmp874_g v_cmp874_c o) → RunE Try.prog 178 Fi (.l k (cP (cB (cL (cB (cP (cB (cL (cR (cR (cR (cR (cR (cR (cR (cR (cR (bodyOf Try.f49))))))))))))))))) :: ks) .normal (G_slices_partitionCmpFunc_lift_Req_h_L3_hd v_a871 v_cmp874 v_j924 v_cmp874_g v_cmp874_c v_i927 v_w928)
  | 0, v_i927, v_w928, o, h, q => by rw [G_slices_partitionCmpFunc_lift_Req_h_L3] at h; cases h
  | k + 1, v_i927, v_w928, o, h, q => by
    rw [G_slices_partitionCmpFunc_lift_Req_h_L3] at h
    by_cases h720 : v_i927 ≤ v_j924
    · rw [if_pos h720] at h
      by_cases h721 : 0 ≤ v_i927 ∧ (v_i927).toNat < v_w928.length
      · rw [if_pos h721] at h
        obtain ⟨v_y933, h722, h⟩ := bind_some h
        by_cases h723 : 0 ≤ v_a871 ∧ (v_a871).toNat < v_w928.length
        · rw [if_pos h723] at h
          obtain ⟨v_y934, h724, h⟩ := bind_some h
          obtain ⟨v_r935, h725, h⟩ := bind_some h
          by_cases h726 : v_r935 < 0
          · rw [if_pos h726] at h
            exact pkk_sound TTok mix hF 9 (hs := [.t true, .c, .c, .c, .c, .y (eS_lift_Req v_y933), .c, .c, .c, .c, .y (eS_lift_Req v_y934), .c, .r ((eI .i64) v_r935), .c, .t true]) (ts := []) (s := [0, 1]) (l := [0, 1, 4, 12, 13]) (by kernel_rfl) (by kernel_rfl) (.cons (dt h720) (.cons (idx_ob (f := eS_lift_Req) h721) (.cons (get_ob (f := eS_lift_Req) h722) (.cons (idx_ob (f := eS_lift_Req) h723) (.cons (get_ob (f := eS_lift_Req) h724) (.cons (v_cmp874_h v_y933 v_y934 _ h725) (.cons (dt h726) .nil))))))) (G_slices_partitionCmpFunc_lift_Req_h_L3_ok hF ks n v_a871 v_cmp874 v_j924 v_cmp874_g v_cmp874_c v_cmp874_h k (wi .i64 (v_i927 + 1)) v_w928 _ h q)
          · rw [if_neg h726] at h
            cases h
            exact pkk_sound TTok mix hF 8 (hs := [.t true, .c, .c, .c, .c, .y (eS_lift_Req v_y933), .c, .c, .c, .c, .y (eS_lift_Req v_y934), .c, .r ((eI .i64) v_r935), .c, .t false]) (ts := []) (s := [0, 1]) (l := [0, 1, 4, 12, 13]) (by kernel_rfl) (by kernel_rfl) (.cons (dt h720) (.cons (idx_ob (f := eS_lift_Req) h721) (.cons (get_ob (f := eS_lift_Req) h722) (.cons (idx_ob (f := eS_lift_Req) h723) (.cons (get_ob (f := eS_lift_Req) h724) (.cons (v_cmp874_h v_y933 v_y934 _ h725) (.cons (df h726) .nil))))))) q
        · rw [if_neg h723] at h; cases h
      · rw [if_neg h721] at h; cases h
    · rw [if_neg h720] at h
      cases h
      exact pkk_sound TTok mix hF 8 (hs := [.t false, .c, .c, .c, .c, .c, .c, .c, .c, .c, .c, .c]) (ts := []) (s := [0, 1]) (l := [0, 1, 4, 12, 13]) (by kernel_rfl) (by kernel_rfl) (.cons (df h720) .nil) q
inductive G_slices_partitionCmpFunc_lift_Req_h_L4_R where
  | x0 (v_j952 : Int) (v_w953 : (List S_lift_Req))
def G_slices_partitionCmpFunc_lift_Req_h_L4_ex : G_slices_partitionCmpFunc_lift_Req_h_L4_R → Ex
  | .x0 _ _ => .exit 8
def G_slices_partitionCmpFunc_lift_Req_h_L4_st (v_a871 : Int) (v_cmp874 : (S_lift_Req → S_lift_Req → Option (Int))) (v_z941 : Int) (v_cmp874_g : FuncId) (v_cmp874_c : (List PV)) : G_slices_partitionCmpFunc_lift_Req_h_L4_R → PS
  | .x0 v_j952 v_w953 => ⟨(.srf 1 :: .d (.v (.int .i64 v_a871)) :: dd :: dd :: .d (.clo v_cmp874_g v_cmp874_c) :: dd :: dd :: dd :: dd :: dd :: dd :: dd :: .d (.v (.int .i64 v_z941)) :: .d (.v (.int .i64 v_j952)) :: (dds 164 [])), [.gh 0 (.srf 1), .row 26 3 (v_w953.map eS_lift_Req)]⟩
def G_slices_partitionCmpFunc_lift_Req_h_L4_hd (v_a871 : Int) (v_cmp874 : (S_lift_Req → S_lift_Req → Option (Int))) (v_z941 : Int) (v_cmp874_g : FuncId) (v_cmp874_c : (List PV)) (v_j943 : Int) (v_w944 : (List S_lift_Req)) : PS := ⟨(.srf 1 :: .d (.v (.int .i64 v_a871)) :: dd :: dd :: .d (.clo v_cmp874_g v_cmp874_c) :: dd :: dd :: dd :: dd :: dd :: dd :: dd :: .d (.v (.int .i64 v_z941)) :: .d (.v (.int .i64 v_j943)) :: (dds 164 [])), [.gh 0 (.srf 1), .row 26 3 (v_w944.map eS_lift_Req)]⟩
def G_slices_partitionCmpFunc_lift_Req_h_L4 (n : Nat) (v_a871 : Int) (v_cmp874 : (S_lift_Req → S_lift_Req → Option (Int))) (v_z941 : Int) : Nat → Int → (List S_lift_Req) → Option G_slices_partitionCmpFunc_lift_Req_h_L4_R
  | 0, _, _ => none
  | k + 1, v_j943, v_w944 =>
    if v_z941 ≤ v_j943 then
     if 0 ≤ v_j943 ∧ (v_j943).toNat < v_w944.length then
      (v_w944[(v_j943).toNat]?).bind fun (v_y949 : S_lift_Req) =>
      if 0 ≤ v_a871 ∧ (v_a871).toNat < v_w944.length then
       (v_w944[(v_a871).toNat]?).bind fun (v_y950 : S_lift_Req) =>
       (v_cmp874 v_y949 v_y950).bind fun (v_r951 : (Int)) =>
       if v_r951 < 0 then
        some (.x0 v_j943 v_w944)
       else
        G_slices_partitionCmpFunc_lift_Req_h_L4 n v_a871 v_cmp874 v_z941 k (wi .i64 (v_j943 - 1)) v_w944
      else none
     else none
    else
     some (.x0 v_j943 v_w944)
theorem G_slices_partitionCmpFunc_lift_Req_h_L4_ok {Fi : Ex → PS → Prop} (hF : KC 178 Fi) (ks : List Fr) (n : Nat) (v_a871 : Int) (v_cmp874 : (S_lift_Req → S_lift_Req → Option (Int))) (v_z941 : Int) (v_cmp874_g : FuncId) (v_cmp874_c : (List PV)) (v_cmp874_h : ∀ (x0 : S_lift_Req) (x1 : S_lift_Req) (r : Int), v_cmp874 x0 x1 = some r → Ret Try.prog v_cmp874_g ([eS_lift_Req x0, eS_lift_Req x1] ++ v_cmp874_c) ((eI .i64) r)) : ∀ (k : Nat) (v_j943 : Int) (v_w944 : (List S_lift_Req)) (o : G_slices_partitionCmpFunc_lift_Req_h_L4_R), G_slices_partitionCmpFunc_lift_Req_h_L4 n v_a871 v_cmp874 v_z941 k v_j943 v_w944 = some o → RunE Try.prog 178 Fi ks (G_slices_partitionCmpFunc_lift_Req_h_L4_ex o) (G_slices_partitionCmpFunc_lift_Req_h_L4_st v_a871 v_cmp874 v_z941 v_cmp874_g v_cmp874_c o) → RunE Try.prog 178 Fi (.l k (cP (cB (cL (cR (cB (cP (cB (cL (cR (cR (cR (cR (cR (cR (cR (cR (cR (bodyOf Try.f49)))))))))))))))))) :: ks) .normal (G_slices_partitionCmpFunc_lift_Req_h_L4_hd v_a871 v_cmp874 v_z941 v_cmp874_g v_cmp874_c v_j943 v_w944)
  | 0, v_j943, v_w944, o, h, q => by rw [G_slices_partitionCmpFunc_lift_Req_h_L4] at h; cases h
  | k + 1, v_j943, v_w944, o, h, q => by
    rw [G_slices_partitionCmpFunc_lift_Req_h_L4] at h
    by_cases h734 : v_z941 ≤ v_j943
    · rw [if_pos h734] at h
      by_cases h735 : 0 ≤ v_j943 ∧ (v_j943).toNat < v_w944.length
      · rw [if_pos h735] at h
        obtain ⟨v_y949, h736, h⟩ := bind_some h
        by_cases h737 : 0 ≤ v_a871 ∧ (v_a871).toNat < v_w944.length
        · rw [if_pos h737] at h
          obtain ⟨v_y950, h738, h⟩ := bind_some h
          obtain ⟨v_r951, h739, h⟩ := bind_some h
          by_cases h740 : v_r951 < 0
          · rw [if_pos h740] at h
            cases h
            exact pkk_sound TTok mix hF 8 (hs := [.t true, .c, .c, .c, .c, .y (eS_lift_Req v_y949), .c, .c, .c, .c, .y (eS_lift_Req v_y950), .c, .r ((eI .i64) v_r951), .c, .c, .t false]) (ts := []) (s := [0, 1]) (l := [0, 1, 4, 12, 13]) (by kernel_rfl) (by kernel_rfl) (.cons (dt h734) (.cons (idx_ob (f := eS_lift_Req) h735) (.cons (get_ob (f := eS_lift_Req) h736) (.cons (idx_ob (f := eS_lift_Req) h737) (.cons (get_ob (f := eS_lift_Req) h738) (.cons (v_cmp874_h v_y949 v_y950 _ h739) (.cons (bnf (dt h740)) .nil))))))) q
          · rw [if_neg h740] at h
            exact pkk_sound TTok mix hF 9 (hs := [.t true, .c, .c, .c, .c, .y (eS_lift_Req v_y949), .c, .c, .c, .c, .y (eS_lift_Req v_y950), .c, .r ((eI .i64) v_r951), .c, .c, .t true]) (ts := []) (s := [0, 1]) (l := [0, 1, 4, 12, 13]) (by kernel_rfl) (by kernel_rfl) (.cons (dt h734) (.cons (idx_ob (f := eS_lift_Req) h735) (.cons (get_ob (f := eS_lift_Req) h736) (.cons (idx_ob (f := eS_lift_Req) h737) (.cons (get_ob (f := eS_lift_Req) h738) (.cons (v_cmp874_h v_y949 v_y950 _ h739) (.cons (bnt (df h740)) .nil))))))) (G_slices_partitionCmpFunc_lift_Req_h_L4_ok hF ks n v_a871 v_cmp874 v_z941 v_cmp874_g v_cmp874_c v_cmp874_h k (wi .i64 (v_j943 - 1)) v_w944 _ h q)
        · rw [if_neg h737] at h; cases h
      · rw [if_neg h735] at h; cases h
    · rw [if_neg h734] at h
      cases h
      exact pkk_sound TTok mix hF 8 (hs := [.t false, .c, .c, .c, .c, .c, .c, .c, .c, .c, .c, .c, .c]) (ts := []) (s := [0, 1]) (l := [0, 1, 4, 12, 13]) (by kernel_rfl) (by kernel_rfl) (.cons (df h734) .nil) q
inductive G_slices_partitionCmpFunc_lift_Req_h_L5_R where
  | x0 (v_j959 : Int) (v_w960 : (List S_lift_Req))
def G_slices_partitionCmpFunc_lift_Req_h_L5_ex : G_slices_partitionCmpFunc_lift_Req_h_L5_R → Ex
  | .x0 _ _ => .exit 4
def G_slices_partitionCmpFunc_lift_Req_h_L5_st (v_a871 : Int) (v_cmp874 : (S_lift_Req → S_lift_Req → Option (Int))) (v_cmp874_g : FuncId) (v_cmp874_c : (List PV)) : G_slices_partitionCmpFunc_lift_Req_h_L5_R → PS
  | .x0 v_j959 v_w960 => ⟨(.srf 1 :: .d (.v (.int .i64 v_a871)) :: (dds 11 (.d (.v (.int .i64 v_j959)) :: (dds 164 [])))), [.gh 0 (.srf 1), .row 26 3 (v_w960.map eS_lift_Req)]⟩
def G_slices_partitionCmpFunc_lift_Req_h_L5_hd (v_a871 : Int) (v_cmp874 : (S_lift_Req → S_lift_Req → Option (Int))) (v_cmp874_g : FuncId) (v_cmp874_c : (List PV)) (v_i923 : Int) (v_j924 : Int) (v_w925 : (List S_lift_Req)) : PS := ⟨(.srf 1 :: .d (.v (.int .i64 v_a871)) :: dd :: dd :: .d (.clo v_cmp874_g v_cmp874_c) :: dd :: dd :: dd :: dd :: dd :: dd :: dd :: .d (.v (.int .i64 v_i923)) :: .d (.v (.int .i64 v_j924)) :: (dds 164 [])), [.gh 0 (.srf 1), .row 26 3 (v_w925.map eS_lift_Req)]⟩
def G_slices_partitionCmpFunc_lift_Req_h_L5 (n : Nat) (v_a871 : Int) (v_cmp874 : (S_lift_Req → S_lift_Req → Option (Int))) : Nat → Int → Int → (List S_lift_Req) → Option G_slices_partitionCmpFunc_lift_Req_h_L5_R
  | 0, _, _, _ => none
  | k + 1, v_i923, v_j924, v_w925 =>
    (G_slices_partitionCmpFunc_lift_Req_h_L3 n v_a871 v_cmp874 v_j924 n v_i923 v_w925).bind fun v_o940 => match v_o940 with
    | .x0 v_z941 v_z942 =>
      (G_slices_partitionCmpFunc_lift_Req_h_L4 n v_a871 v_cmp874 v_z941 n v_j924 v_z942).bind fun v_o956 => match v_o956 with
      | .x0 v_z957 v_z958 =>
        if v_z941 > v_z957 then
         some (.x0 v_z957 v_z958)
        else
         if 0 ≤ v_z957 ∧ (v_z957).toNat < v_z958.length then
          (v_z958[(v_z957).toNat]?).bind fun (v_y961 : S_lift_Req) =>
          if 0 ≤ v_z941 ∧ (v_z941).toNat < v_z958.length then
           (v_z958[(v_z941).toNat]?).bind fun (v_y962 : S_lift_Req) =>
           if 0 ≤ v_z941 ∧ (v_z941).toNat < v_z958.length then
            (v_z958[(v_z941).toNat]?).bind fun (v_y963 : S_lift_Req) =>
            if 0 ≤ v_z957 ∧ (v_z957).toNat < (v_z958.set (v_z941).toNat v_y961).length then
             ((v_z958.set (v_z941).toNat v_y961)[(v_z957).toNat]?).bind fun (v_y964 : S_lift_Req) =>
             G_slices_partitionCmpFunc_lift_Req_h_L5 n v_a871 v_cmp874 k (wi .i64 (v_z941 + 1)) (wi .i64 (v_z957 - 1)) ((v_z958.set (v_z941).toNat v_y961).set (v_z957).toNat v_y962)
            else none
           else none
          else none
         else none
theorem G_slices_partitionCmpFunc_lift_Req_h_L5_ok {Fi : Ex → PS → Prop} (hF : KC 178 Fi) (ks : List Fr) (n : Nat) (v_a871 : Int) (v_cmp874 : (S_lift_Req → S_lift_Req → Option (Int))) (v_cmp874_g : FuncId) (v_cmp874_c : (List PV)) (v_cmp874_h : ∀ (x0 : S_lift_Req) (x1 : S_lift_Req) (r : Int), v_cmp874 x0 x1 = some r → Ret Try.prog v_cmp874_g ([eS_lift_Req x0, eS_lift_Req x1] ++ v_cmp874_c) ((eI .i64) r)) : ∀ (k : Nat) (v_i923 : Int) (v_j924 : Int) (v_w925 : (List S_lift_Req)) (o : G_slices_partitionCmpFunc_lift_Req_h_L5_R), G_slices_partitionCmpFunc_lift_Req_h_L5 n v_a871 v_cmp874 k v_i923 v_j924 v_w925 = some o → RunE Try.prog 178 Fi ks (G_slices_partitionCmpFunc_lift_Req_h_L5_ex o) (G_slices_partitionCmpFunc_lift_Req_h_L5_st v_a871 v_cmp874 v_cmp874_g v_cmp874_c o) → RunE Try.prog 178 Fi (.l k (cP (cB (cL (cR (cR (cR (cR (cR (cR (cR (cR (cR (bodyOf Try.f49))))))))))))) :: ks) .normal (G_slices_partitionCmpFunc_lift_Req_h_L5_hd v_a871 v_cmp874 v_cmp874_g v_cmp874_c v_i923 v_j924 v_w925)
  | 0, v_i923, v_j924, v_w925, o, h, q => by rw [G_slices_partitionCmpFunc_lift_Req_h_L5] at h; cases h
  | k + 1, v_i923, v_j924, v_w925, o, h, q => by
    rw [G_slices_partitionCmpFunc_lift_Req_h_L5] at h
    obtain ⟨v_o940, h727, h⟩ := bind_some h
    refine pkk_sound TTok mix hF 5 (hs := [.n n]) (ts := []) (s := [0, 1]) (l := [0, 1, 4, 12, 13]) (by kernel_rfl) (by kernel_rfl) .nil (G_slices_partitionCmpFunc_lift_Req_h_L3_ok hF (.b 6 :: .s (cR (cB (cP (cB (cL (cR (cR (cR (cR (cR (cR (cR (cR (cR (bodyOf Try.f49))))))))))))))) :: .b 5 :: .l k (cP (cB (cL (cR (cR (cR (cR (cR (cR (cR (cR (cR (bodyOf Try.f49))))))))))))) :: ks) n v_a871 v_cmp874 v_j924 v_cmp874_g v_cmp874_c v_cmp874_h n v_i923 v_w925 _ h727 ?_)
    cases v_o940 with
    | x0 v_z941 v_z942 =>
      try dsimp only at h
      obtain ⟨v_o956, h741, h⟩ := bind_some h
      refine pkk_sound TTok mix hF 4 (hs := [.n n]) (ts := []) (s := [0, 1]) (l := [0, 1, 4, 12, 13]) (by kernel_rfl) (by kernel_rfl) .nil (G_slices_partitionCmpFunc_lift_Req_h_L4_ok hF (.b 8 :: .s (cR (cR (cB (cP (cB (cL (cR (cR (cR (cR (cR (cR (cR (cR (cR (bodyOf Try.f49)))))))))))))))) :: .b 5 :: .l k (cP (cB (cL (cR (cR (cR (cR (cR (cR (cR (cR (cR (bodyOf Try.f49))))))))))))) :: ks) n v_a871 v_cmp874 v_z941 v_cmp874_g v_cmp874_c v_cmp874_h n v_j924 v_z942 _ h741 ?_)
      cases v_o956 with
      | x0 v_z957 v_z958 =>
        try dsimp only at h
        by_cases h742 : v_z941 > v_z957
        · rw [if_pos h742] at h
          cases h
          exact pkk_sound TTok mix hF 9 (hs := [.t true]) (ts := []) (s := [0, 1]) (l := [0, 1, 13]) (by kernel_rfl) (by kernel_rfl) (.cons (dt h742) .nil) q
        · rw [if_neg h742] at h
          by_cases h743 : 0 ≤ v_z957 ∧ (v_z957).toNat < v_z958.length
          · rw [if_pos h743] at h
            obtain ⟨v_y961, h744, h⟩ := bind_some h
            by_cases h745 : 0 ≤ v_z941 ∧ (v_z941).toNat < v_z958.length
            · rw [if_pos h745] at h
              obtain ⟨v_y962, h746, h⟩ := bind_some h
              by_cases h747 : 0 ≤ v_z941 ∧ (v_z941).toNat < v_z958.length
              · rw [if_pos h747] at h
                obtain ⟨v_y963, h748, h⟩ := bind_some h
                by_cases h749 : 0 ≤ v_z957 ∧ (v_z957).toNat < (v_z958.set (v_z941).toNat v_y961).length
                · rw [if_pos h749] at h
                  obtain ⟨v_y964, h750, h⟩ := bind_some h
                  exact pkk_sound TTok mix hF 12 (hs := [.t false, .y (eS_lift_Req v_y961), .y (eS_lift_Req v_y962), .w ((v_z958.set (v_z941).toNat v_y961).map eS_lift_Req), .y (eS_lift_Req v_y963), .w (((v_z958.set (v_z941).toNat v_y961).set (v_z957).toNat v_y962).map eS_lift_Req), .y (eS_lift_Req v_y964)]) (ts := []) (s := [0, 1]) (l := [0, 1, 4, 12, 13]) (by kernel_rfl) (by kernel_rfl) (.cons (df h742) (.cons (idx_ob (f := eS_lift_Req) h743) (.cons (get_ob (f := eS_lift_Req) h744) (.cons (idx_ob (f := eS_lift_Req) h745) (.cons (get_ob (f := eS_lift_Req) h746) (.cons (idx_ob (f := eS_lift_Req) h747) (.cons (get_ob (f := eS_lift_Req) h748) (.cons (Eq.refl (pcells (.agg [.v (.int .i64 v_y961.fSector), .sl (v_y961.fData.map (eI .u8)), .v (.bool v_y961.fBarrier)]))) (.cons (set_ob (f := eS_lift_Req) (l := v_z958) (k := (v_z941).toNat) (z := v_y961) (p := .agg [.v (.int .i64 v_y961.fSector), .sl (v_y961.fData.map (eI .u8)), .v (.bool v_y961.fBarrier)]) rfl) (.cons (idx_ob (f := eS_lift_Req) h749) (.cons (get_ob (f := eS_lift_Req) h750) (.cons (Eq.refl (pcells (.agg [.v (.int .i64 v_y962.fSector), .sl (v_y962.fData.map (eI .u8)), .v (.bool v_y962.fBarrier)]))) (.cons (set_ob (f := eS_lift_Req) (l := (v_z958.set (v_z941).toNat v_y961)) (k := (v_z957).toNat) (z := v_y962) (p := .agg [.v (.int .i64 v_y962.fSector), .sl (v_y962.fData.map (eI .u8)), .v (.bool v_y962.fBarrier)]) rfl) .nil))))))))))))) (G_slices_partitionCmpFunc_lift_Req_h_L5_ok hF ks n v_a871 v_cmp874 v_cmp874_g v_cmp874_c v_cmp874_h k (wi .i64 (v_z941 + 1)) (wi .i64 (v_z957 - 1)) ((v_z958.set (v_z941).toNat v_y961).set (v_z957).toNat v_y962) _ h q)
                · rw [if_neg h749] at h; cases h
              · rw [if_neg h747] at h; cases h
            · rw [if_neg h745] at h; cases h
          · rw [if_neg h743] at h; cases h
/- slices.partitionCmpFunc[ringhall/lift.Req] -/
def G_slices_partitionCmpFunc_lift_Req_h (n : Nat) (v_data870 : (List S_lift_Req)) (v_a871 : Int) (v_b872 : Int) (v_pivot873 : Int) (v_cmp874 : (S_lift_Req → S_lift_Req → Option (Int))) : Option (Int × Bool × (List S_lift_Req)) :=
  if 0 ≤ v_pivot873 ∧ (v_pivot873).toNat < v_data870.length then
   (v_data870[(v_pivot873).toNat]?).bind fun (v_y875 : S_lift_Req) =>
   if 0 ≤ v_a871 ∧ (v_a871).toNat < v_data870.length then
    (v_data870[(v_a871).toNat]?).bind fun (v_y876 : S_lift_Req) =>
    if 0 ≤ v_a871 ∧ (v_a871).toNat < v_data870.length then
     (v_data870[(v_a871).toNat]?).bind fun (v_y877 : S_lift_Req) =>
     if 0 ≤ v_pivot873 ∧ (v_pivot873).toNat < (v_data870.set (v_a871).toNat v_y875).length then
      ((v_data870.set (v_a871).toNat v_y875)[(v_pivot873).toNat]?).bind fun (v_y878 : S_lift_Req) =>
      (G_slices_partitionCmpFunc_lift_Req_h_L1 n v_a871 v_cmp874 v_b872 n (wi .i64 (v_a871 + 1)) ((v_data870.set (v_a871).toNat v_y875).set (v_pivot873).toNat v_y876)).bind fun v_o892 => match v_o892 with
      | .x0 v_z893 v_z894 =>
        (G_slices_partitionCmpFunc_lift_Req_h_L2 n v_a871 v_cmp874 v_z893 n (wi .i64 (v_b872 - 1)) v_z894).bind fun v_o908 => match v_o908 with
        | .x0 v_z909 v_z910 =>
          if v_z893 > v_z909 then
           if 0 ≤ v_a871 ∧ (v_a871).toNat < v_z910.length then
            (v_z910[(v_a871).toNat]?).bind fun (v_y915 : S_lift_Req) =>
            if 0 ≤ v_z909 ∧ (v_z909).toNat < v_z910.length then
             (v_z910[(v_z909).toNat]?).bind fun (v_y916 : S_lift_Req) =>
             if 0 ≤ v_z909 ∧ (v_z909).toNat < v_z910.length then
              (v_z910[(v_z909).toNat]?).bind fun (v_y917 : S_lift_Req) =>
              if 0 ≤ v_a871 ∧ (v_a871).toNat < (v_z910.set (v_z909).toNat v_y915).length then
               ((v_z910.set (v_z909).toNat v_y915)[(v_a871).toNat]?).bind fun (v_y918 : S_lift_Req) =>
               some (v_z909, true, ((v_z910.set (v_z909).toNat v_y915).set (v_a871).toNat v_y916))
              else none
             else none
            else none
           else none
          else
           if 0 ≤ v_z909 ∧ (v_z909).toNat < v_z910.length then
            (v_z910[(v_z909).toNat]?).bind fun (v_y919 : S_lift_Req) =>
            if 0 ≤ v_z893 ∧ (v_z893).toNat < v_z910.length then
             (v_z910[(v_z893).toNat]?).bind fun (v_y920 : S_lift_Req) =>
             if 0 ≤ v_z893 ∧ (v_z893).toNat < v_z910.length then
              (v_z910[(v_z893).toNat]?).bind fun (v_y921 : S_lift_Req) =>
              if 0 ≤ v_z909 ∧ (v_z909).toNat < (v_z910.set (v_z893).toNat v_y919).length then
               ((v_z910.set (v_z893).toNat v_y919)[(v_z909).toNat]?).bind fun (v_y922 : S_lift_Req) =>
               (G_slices_partitionCmpFunc_lift_Req_h_L5 n v_a871 v_cmp874 n (wi .i64 (v_z893 + 1)) (wi .i64 (v_z909 - 1)) ((v_z910.set (v_z893).toNat v_y919).set (v_z909).toNat v_y920)).bind fun v_o965 => match v_o965 with
               | .x0 v_z966 v_z967 =>
                 if 0 ≤ v_a871 ∧ (v_a871).toNat < v_z967.length then
                  (v_z967[(v_a871).toNat]?).bind fun (v_y968 : S_lift_Req) =>
                  if 0 ≤ v_z966 ∧ (v_z966).toNat < v_z967.length then
                   (v_z967[(v_z966).toNat]?).bind fun (v_y969 : S_lift_Req) =>
                   if 0 ≤ v_z966 ∧ (v_z966).toNat < v_z967.length then
                    (v_z967[(v_z966).toNat]?).bind fun (v_y970 : S_lift_Req) =>
                    if 0 ≤ v_a871 ∧ (v_a871).toNat < (v_z967.set (v_z966).toNat v_y968).length then
                     ((v_z967.set (v_z966).toNat v_y968)[(v_a871).toNat]?).bind fun (v_y971 : S_lift_Req) =>
                     some (v_z966, false, ((v_z967.set (v_z966).toNat v_y968).set (v_a871).toNat v_y969))
                    else none
                   else none
                  else none
                 else none
              else none
             else none
            else none
           else none
     else none
    else none
   else none
  else none
theorem G_slices_partitionCmpFunc_lift_Req_h_ok (n : Nat) (v_data870 : (List S_lift_Req)) (v_a871 : Int) (v_b872 : Int) (v_pivot873 : Int) (v_cmp874 : (S_lift_Req → S_lift_Req → Option (Int))) (v_cmp874_g : FuncId) (v_cmp874_c : List PV) (v_cmp874_h : ∀ (x0 : S_lift_Req) (x1 : S_lift_Req) (r : Int), v_cmp874 x0 x1 = some r → Ret Try.prog v_cmp874_g ([eS_lift_Req x0, eS_lift_Req x1] ++ v_cmp874_c) ((eI .i64) r)) (r : Int × Bool × (List S_lift_Req)) (h : G_slices_partitionCmpFunc_lift_Req_h n v_data870 v_a871 v_b872 v_pivot873 v_cmp874 = some r) : RetH Try.prog 49 [.srf 0, .d ((eI .i64) v_a871), .d ((eI .i64) v_b872), .d ((eI .i64) v_pivot873), .d ((.clo v_cmp874_g v_cmp874_c))] [.row 26 3 (v_data870.map eS_lift_Req)] (.tup [.d ((eI .i64) r.1), .d (eB r.2.1)]) [.row 26 3 (r.2.2.map eS_lift_Req)] := by
  refine retH_run (n := 178) (fn := Try.f49) (c := bodyOf Try.f49) (by kernel_rfl) (by kernel_rfl) (by kernel_rfl) (by kernel_rfl) ?_
  have hF : KC 178 (FinH Try.prog Try.f49 [.row 26 3 (v_data870.map eS_lift_Req)] (.tup [.d ((eI .i64) r.1), .d (eB r.2.1)]) [.row 26 3 (r.2.2.map eS_lift_Req)]) := FinH.kc' (by kernel_rfl)
  unfold G_slices_partitionCmpFunc_lift_Req_h at h
  by_cases h652 : 0 ≤ v_pivot873 ∧ (v_pivot873).toNat < v_data870.length
  · rw [if_pos h652] at h
    obtain ⟨v_y875, h653, h⟩ := bind_some h
    by_cases h654 : 0 ≤ v_a871 ∧ (v_a871).toNat < v_data870.length
    · rw [if_pos h654] at h
      obtain ⟨v_y876, h655, h⟩ := bind_some h
      by_cases h656 : 0 ≤ v_a871 ∧ (v_a871).toNat < v_data870.length
      · rw [if_pos h656] at h
        obtain ⟨v_y877, h657, h⟩ := bind_some h
        by_cases h658 : 0 ≤ v_pivot873 ∧ (v_pivot873).toNat < (v_data870.set (v_a871).toNat v_y875).length
        · rw [if_pos h658] at h
          obtain ⟨v_y878, h659, h⟩ := bind_some h
          obtain ⟨v_o892, h673, h⟩ := bind_some h
          refine pkk_sound TTok mix hF 9 (hs := [.y (eS_lift_Req v_y875), .y (eS_lift_Req v_y876), .w ((v_data870.set (v_a871).toNat v_y875).map eS_lift_Req), .y (eS_lift_Req v_y877), .w (((v_data870.set (v_a871).toNat v_y875).set (v_pivot873).toNat v_y876).map eS_lift_Req), .y (eS_lift_Req v_y878), .n n]) (ts := []) (s := [1, 0]) (l := [0, 1, 4, 12, 13]) (by kernel_rfl) (by kernel_rfl) (.cons (idx_ob (f := eS_lift_Req) h652) (.cons (get_ob (f := eS_lift_Req) h653) (.cons (idx_ob (f := eS_lift_Req) h654) (.cons (get_ob (f := eS_lift_Req) h655) (.cons (idx_ob (f := eS_lift_Req) h656) (.cons (get_ob (f := eS_lift_Req) h657) (.cons (Eq.refl (pcells (.agg [.v (.int .i64 v_y875.fSector), .sl (v_y875.fData.map (eI .u8)), .v (.bool v_y875.fBarrier)]))) (.cons (set_ob (f := eS_lift_Req) (l := v_data870) (k := (v_a871).toNat) (z := v_y875) (p := .agg [.v (.int .i64 v_y875.fSector), .sl (v_y875.fData.map (eI .u8)), .v (.bool v_y875.fBarrier)]) rfl) (.cons (idx_ob (f := eS_lift_Req) h658) (.cons (get_ob (f := eS_lift_Req) h659) (.cons (Eq.refl (pcells (.agg [.v (.int .i64 v_y876.fSector), .sl (v_y876.fData.map (eI .u8)), .v (.bool v_y876.fBarrier)]))) (.cons (set_ob (f := eS_lift_Req) (l := (v_data870.set (v_a871).toNat v_y875)) (k := (v_pivot873).toNat) (z := v_y876) (p := .agg [.v (.int .i64 v_y876.fSector), .sl (v_y876.fData.map (eI .u8)), .v (.bool v_y876.fBarrier)]) rfl) .nil)))))))))))) (G_slices_partitionCmpFunc_lift_Req_h_L1_ok hF (.b 0 :: .s (cR (cR (cR (cR (bodyOf Try.f49))))) :: []) n v_a871 v_cmp874 v_b872 v_cmp874_g v_cmp874_c v_cmp874_h n (wi .i64 (v_a871 + 1)) ((v_data870.set (v_a871).toNat v_y875).set (v_pivot873).toNat v_y876) _ h673 ?_)
          cases v_o892 with
          | x0 v_z893 v_z894 =>
            try dsimp only at h
            obtain ⟨v_o908, h687, h⟩ := bind_some h
            refine pkk_sound TTok mix hF 4 (hs := [.n n]) (ts := []) (s := [0, 1]) (l := [0, 1, 4, 12, 13]) (by kernel_rfl) (by kernel_rfl) .nil (G_slices_partitionCmpFunc_lift_Req_h_L2_ok hF (.b 2 :: .s (cR (cR (cR (cR (cR (bodyOf Try.f49)))))) :: []) n v_a871 v_cmp874 v_z893 v_cmp874_g v_cmp874_c v_cmp874_h n (wi .i64 (v_b872 - 1)) v_z894 _ h687 ?_)
            cases v_o908 with
            | x0 v_z909 v_z910 =>
              try dsimp only at h
              by_cases h697 : v_z893 > v_z909
              · rw [if_pos h697] at h
                by_cases h698 : 0 ≤ v_a871 ∧ (v_a871).toNat < v_z910.length
                · rw [if_pos h698] at h
                  obtain ⟨v_y915, h699, h⟩ := bind_some h
                  by_cases h700 : 0 ≤ v_z909 ∧ (v_z909).toNat < v_z910.length
                  · rw [if_pos h700] at h
                    obtain ⟨v_y916, h701, h⟩ := bind_some h
                    by_cases h702 : 0 ≤ v_z909 ∧ (v_z909).toNat < v_z910.length
                    · rw [if_pos h702] at h
                      obtain ⟨v_y917, h703, h⟩ := bind_some h
                      by_cases h704 : 0 ≤ v_a871 ∧ (v_a871).toNat < (v_z910.set (v_z909).toNat v_y915).length
                      · rw [if_pos h704] at h
                        obtain ⟨v_y918, h705, h⟩ := bind_some h
                        obtain rfl := Option.some.inj h
                        exact pendH_sound TTok mix 11 (hs := [.t true, .y (eS_lift_Req v_y915), .y (eS_lift_Req v_y916), .w ((v_z910.set (v_z909).toNat v_y915).map eS_lift_Req), .y (eS_lift_Req v_y917), .w (((v_z910.set (v_z909).toNat v_y915).set (v_a871).toNat v_y916).map eS_lift_Req), .y (eS_lift_Req v_y918)]) [1] (by kernel_rfl) (by kernel_rfl) (by kernel_rfl) (.cons (dt h697) (.cons (idx_ob (f := eS_lift_Req) h698) (.cons (get_ob (f := eS_lift_Req) h699) (.cons (idx_ob (f := eS_lift_Req) h700) (.cons (get_ob (f := eS_lift_Req) h701) (.cons (idx_ob (f := eS_lift_Req) h702) (.cons (get_ob (f := eS_lift_Req) h703) (.cons (Eq.refl (pcells (.agg [.v (.int .i64 v_y915.fSector), .sl (v_y915.fData.map (eI .u8)), .v (.bool v_y915.fBarrier)]))) (.cons (set_ob (f := eS_lift_Req) (l := v_z910) (k := (v_z909).toNat) (z := v_y915) (p := .agg [.v (.int .i64 v_y915.fSector), .sl (v_y915.fData.map (eI .u8)), .v (.bool v_y915.fBarrier)]) rfl) (.cons (idx_ob (f := eS_lift_Req) h704) (.cons (get_ob (f := eS_lift_Req) h705) (.cons (Eq.refl (pcells (.agg [.v (.int .i64 v_y916.fSector), .sl (v_y916.fData.map (eI .u8)), .v (.bool v_y916.fBarrier)]))) (.cons (set_ob (f := eS_lift_Req) (l := (v_z910.set (v_z909).toNat v_y915)) (k := (v_a871).toNat) (z := v_y916) (p := .agg [.v (.int .i64 v_y916.fSector), .sl (v_y916.fData.map (eI .u8)), .v (.bool v_y916.fBarrier)]) rfl) .nil)))))))))))))
                      · rw [if_neg h704] at h; cases h
                    · rw [if_neg h702] at h; cases h
                  · rw [if_neg h700] at h; cases h
                · rw [if_neg h698] at h; cases h
              · rw [if_neg h697] at h
                by_cases h706 : 0 ≤ v_z909 ∧ (v_z909).toNat < v_z910.length
                · rw [if_pos h706] at h
                  obtain ⟨v_y919, h707, h⟩ := bind_some h
                  by_cases h708 : 0 ≤ v_z893 ∧ (v_z893).toNat < v_z910.length
                  · rw [if_pos h708] at h
                    obtain ⟨v_y920, h709, h⟩ := bind_some h
                    by_cases h710 : 0 ≤ v_z893 ∧ (v_z893).toNat < v_z910.length
                    · rw [if_pos h710] at h
                      obtain ⟨v_y921, h711, h⟩ := bind_some h
                      by_cases h712 : 0 ≤ v_z909 ∧ (v_z909).toNat < (v_z910.set (v_z893).toNat v_y919).length
                      · rw [if_pos h712] at h
                        obtain ⟨v_y922, h713, h⟩ := bind_some h
                        obtain ⟨v_o965, h751, h⟩ := bind_some h
                        refine pkk_sound TTok mix hF 15 (hs := [.t false, .y (eS_lift_Req v_y919), .y (eS_lift_Req v_y920), .w ((v_z910.set (v_z893).toNat v_y919).map eS_lift_Req), .y (eS_lift_Req v_y921), .w (((v_z910.set (v_z893).toNat v_y919).set (v_z909).toNat v_y920).map eS_lift_Req), .y (eS_lift_Req v_y922), .n n]) (ts := []) (s := [0, 1]) (l := [0, 1, 4, 12, 13]) (by kernel_rfl) (by kernel_rfl) (.cons (df h697) (.cons (idx_ob (f := eS_lift_Req) h706) (.cons (get_ob (f := eS_lift_Req) h707) (.cons (idx_ob (f := eS_lift_Req) h708) (.cons (get_ob (f := eS_lift_Req) h709) (.cons (idx_ob (f := eS_lift_Req) h710) (.cons (get_ob (f := eS_lift_Req) h711) (.cons (Eq.refl (pcells (.agg [.v (.int .i64 v_y919.fSector), .sl (v_y919.fData.map (eI .u8)), .v (.bool v_y919.fBarrier)]))) (.cons (set_ob (f := eS_lift_Req) (l := v_z910) (k := (v_z893).toNat) (z := v_y919) (p := .agg [.v (.int .i64 v_y919.fSector), .sl (v_y919.fData.map (eI .u8)), .v (.bool v_y919.fBarrier)]) rfl) (.cons (idx_ob (f := eS_lift_Req) h712) (.cons (get_ob (f := eS_lift_Req) h713) (.cons (Eq.refl (pcells (.agg [.v (.int .i64 v_y920.fSector), .sl (v_y920.fData.map (eI .u8)), .v (.bool v_y920.fBarrier)]))) (.cons (set_ob (f := eS_lift_Req) (l := (v_z910.set (v_z893).toNat v_y919)) (k := (v_z909).toNat) (z := v_y920) (p := .agg [.v (.int .i64 v_y920.fSector), .sl (v_y920.fData.map (eI .u8)), .v (.bool v_y920.fBarrier)]) rfl) .nil))))))))))))) (G_slices_partitionCmpFunc_lift_Req_h_L5_ok hF (.b 4 :: .s (cR (cR (cR (cR (cR (cR (cR (cR (cR (cR (bodyOf Try.f49))))))))))) :: []) n v_a871 v_cmp874 v_cmp874_g v_cmp874_c v_cmp874_h n (wi .i64 (v_z893 + 1)) (wi .i64 (v_z909 - 1)) ((v_z910.set (v_z893).toNat v_y919).set (v_z909).toNat v_y920) _ h751 ?_)
                        cases v_o965 with
                        | x0 v_z966 v_z967 =>
                          try dsimp only at h
                          by_cases h752 : 0 ≤ v_a871 ∧ (v_a871).toNat < v_z967.length
                          · rw [if_pos h752] at h
                            obtain ⟨v_y968, h753, h⟩ := bind_some h
                            by_cases h754 : 0 ≤ v_z966 ∧ (v_z966).toNat < v_z967.length
                            · rw [if_pos h754] at h
                              obtain ⟨v_y969, h755, h⟩ := bind_some h
                              by_cases h756 : 0 ≤ v_z966 ∧ (v_z966).toNat < v_z967.length
                              · rw [if_pos h756] at h
                                obtain ⟨v_y970, h757, h⟩ := bind_some h
                                by_cases h758 : 0 ≤ v_a871 ∧ (v_a871).toNat < (v_z967.set (v_z966).toNat v_y968).length
                                · rw [if_pos h758] at h
                                  obtain ⟨v_y971, h759, h⟩ := bind_some h
                                  obtain rfl := Option.some.inj h
                                  exact pendH_sound TTok mix 6 (hs := [.y (eS_lift_Req v_y968), .y (eS_lift_Req v_y969), .w ((v_z967.set (v_z966).toNat v_y968).map eS_lift_Req), .y (eS_lift_Req v_y970), .w (((v_z967.set (v_z966).toNat v_y968).set (v_a871).toNat v_y969).map eS_lift_Req), .y (eS_lift_Req v_y971)]) [1] (by kernel_rfl) (by kernel_rfl) (by kernel_rfl) (.cons (idx_ob (f := eS_lift_Req) h752) (.cons (get_ob (f := eS_lift_Req) h753) (.cons (idx_ob (f := eS_lift_Req) h754) (.cons (get_ob (f := eS_lift_Req) h755) (.cons (idx_ob (f := eS_lift_Req) h756) (.cons (get_ob (f := eS_lift_Req) h757) (.cons (Eq.refl (pcells (.agg [.v (.int .i64 v_y968.fSector), .sl (v_y968.fData.map (eI .u8)), .v (.bool v_y968.fBarrier)]))) (.cons (set_ob (f := eS_lift_Req) (l := v_z967) (k := (v_z966).toNat) (z := v_y968) (p := .agg [.v (.int .i64 v_y968.fSector), .sl (v_y968.fData.map (eI .u8)), .v (.bool v_y968.fBarrier)]) rfl) (.cons (idx_ob (f := eS_lift_Req) h758) (.cons (get_ob (f := eS_lift_Req) h759) (.cons (Eq.refl (pcells (.agg [.v (.int .i64 v_y969.fSector), .sl (v_y969.fData.map (eI .u8)), .v (.bool v_y969.fBarrier)]))) (.cons (set_ob (f := eS_lift_Req) (l := (v_z967.set (v_z966).toNat v_y968)) (k := (v_a871).toNat) (z := v_y969) (p := .agg [.v (.int .i64 v_y969.fSector), .sl (v_y969.fData.map (eI .u8)), .v (.bool v_y969.fBarrier)]) rfl) .nil))))))))))))
                                · rw [if_neg h758] at h; cases h
                              · rw [if_neg h756] at h; cases h
                            · rw [if_neg h754] at h; cases h
                          · rw [if_neg h752] at h; cases h
                      · rw [if_neg h712] at h; cases h
                    · rw [if_neg h710] at h; cases h
                  · rw [if_neg h708] at h; cases h
                · rw [if_neg h706] at h; cases h
        · rw [if_neg h658] at h; cases h
      · rw [if_neg h656] at h; cases h
    · rw [if_neg h654] at h; cases h
  · rw [if_neg h652] at h; cases h
inductive G_slices_pdqsortCmpFunc_lift_Req_h_C1_R where
  | x0 (v_limit1030 : Int) (v_w1031 : (List S_lift_Req))
def G_slices_pdqsortCmpFunc_lift_Req_h_C1_ex : G_slices_pdqsortCmpFunc_lift_Req_h_C1_R → Ex
  | .x0 _ _ => .normal
def G_slices_pdqsortCmpFunc_lift_Req_h_C1_st (v_a248 : Int) (v_b249 : Int) (v_limit250 : Int) (v_cmp247 : (S_lift_Req → S_lift_Req → Option (Int))) (v_wasBalanced251 : Bool) (v_wasPartitioned252 : Bool) (v_w253 : (List S_lift_Req)) (v_cmp247_g : FuncId) (v_cmp247_c : (List PV)) : G_slices_pdqsortCmpFunc_lift_Req_h_C1_R → PS
  | .x0 v_limit1030 v_w1031 => ⟨(.srf 1 :: .d (.v (.int .i64 v_a248)) :: .d (.v (.int .i64 v_b249)) :: .d (.v (.int .i64 v_limit1030)) :: .d (.clo v_cmp247_g v_cmp247_c) :: dd :: dd :: dd :: dd :: dd :: .d (.v (.bool v_wasBalanced251)) :: .d (.v (.bool v_wasPartitioned252)) :: .d (.v (.int .i64 (wi .i64 (v_b249 - v_a248)))) :: (dds 135 [])), [.gh 0 (.srf 1), .row 26 3 (v_w1031.map eS_lift_Req)]⟩
def G_slices_pdqsortCmpFunc_lift_Req_h_C1_hd (v_a248 : Int) (v_b249 : Int) (v_limit250 : Int) (v_cmp247 : (S_lift_Req → S_lift_Req → Option (Int))) (v_wasBalanced251 : Bool) (v_wasPartitioned252 : Bool) (v_w253 : (List S_lift_Req)) (v_cmp247_g : FuncId) (v_cmp247_c : (List PV))  : PS := ⟨(.srf 1 :: .d (.v (.int .i64 v_a248)) :: .d (.v (.int .i64 v_b249)) :: .d (.v (.int .i64 v_limit250)) :: .d (.clo v_cmp247_g v_cmp247_c) :: dd :: dd :: dd :: dd :: dd :: .d (.v (.bool v_wasBalanced251)) :: .d (.v (.bool v_wasPartitioned252)) :: .d (.v (.int .i64 (wi .i64 (v_b249 - v_a248)))) :: (dds 26 (.d (.v (.bool (!v_wasBalanced251))) :: (dds 108 [])))), [.gh 0 (.srf 1), .row 26 3 (v_w253.map eS_lift_Req)]⟩
def G_slices_pdqsortCmpFunc_lift_Req_h_C1 (n : Nat) (v_a248 : Int) (v_b249 : Int) (v_limit250 : Int) (v_cmp247 : (S_lift_Req → S_lift_Req → Option (Int))) (v_wasBalanced251 : Bool) (v_wasPartitioned252 : Bool) (v_w253 : (List S_lift_Req)) : Option G_slices_pdqsortCmpFunc_lift_Req_h_C1_R :=
  if v_wasBalanced251 = true then
   some (.x0 v_limit250 v_w253)
  else
   (G_slices_breakPatternsCmpFunc_lift_Req_h n v_w253 v_a248 v_b249 v_cmp247).bind fun (v_r1029 : ((List S_lift_Req))) =>
   some (.x0 (wi .i64 (v_limit250 - 1)) v_r1029)
theorem G_slices_pdqsortCmpFunc_lift_Req_h_C1_ok {Fi : Ex → PS → Prop} (hF : KC 148 Fi) (ks : List Fr) (n : Nat) (v_a248 : Int) (v_b249 : Int) (v_limit250 : Int) (v_cmp247 : (S_lift_Req → S_lift_Req → Option (Int))) (v_wasBalanced251 : Bool) (v_wasPartitioned252 : Bool) (v_w253 : (List S_lift_Req)) (v_cmp247_g : FuncId) (v_cmp247_c : (List PV)) (v_cmp247_h : ∀ (x0 : S_lift_Req) (x1 : S_lift_Req) (r : Int), v_cmp247 x0 x1 = some r → Ret Try.prog v_cmp247_g ([eS_lift_Req x0, eS_lift_Req x1] ++ v_cmp247_c) ((eI .i64) r)) (o : G_slices_pdqsortCmpFunc_lift_Req_h_C1_R) (h : G_slices_pdqsortCmpFunc_lift_Req_h_C1 n v_a248 v_b249 v_limit250 v_cmp247 v_wasBalanced251 v_wasPartitioned252 v_w253 = some o) (q : RunE Try.prog 148 Fi ks (G_slices_pdqsortCmpFunc_lift_Req_h_C1_ex o) (G_slices_pdqsortCmpFunc_lift_Req_h_C1_st v_a248 v_b249 v_limit250 v_cmp247 v_wasBalanced251 v_wasPartitioned252 v_w253 v_cmp247_g v_cmp247_c o)) : RunE Try.prog 148 Fi (.s (cR (cL (cR (cR (cR (cB (cP (cB (cR (cR (bodyOf Try.f39))))))))))) :: ks) .normal (G_slices_pdqsortCmpFunc_lift_Req_h_C1_hd v_a248 v_b249 v_limit250 v_cmp247 v_wasBalanced251 v_wasPartitioned252 v_w253 v_cmp247_g v_cmp247_c) := by
  unfold G_slices_pdqsortCmpFunc_lift_Req_h_C1 at h
  by_cases h828 : v_wasBalanced251 = true
  · rw [if_pos h828] at h
    cases h
    exact pkk_sound TTok mix hF 2 (hs := [.t false]) (ts := []) (s := [0, 1]) (l := [0, 1, 2, 3, 4, 10, 11, 12]) (by kernel_rfl) (by kernel_rfl) (.cons (bnf h828) .nil) q
  · rw [if_neg h828] at h
    obtain ⟨v_r1029, h829, h⟩ := bind_some h
    cases h
    exact pkk_sound TTok mix hF 4 (hs := [.t true, .h [1] [] [.row 26 3 (v_r1029.map eS_lift_Req)] (.tup [])]) (ts := []) (s := [0, 1]) (l := [0, 1, 2, 3, 4, 10, 11, 12]) (by kernel_rfl) (by kernel_rfl) (.cons (bnt (vf h828)) (.cons (G_slices_breakPatternsCmpFunc_lift_Req_h_ok n v_w253 v_a248 v_b249 v_cmp247 v_cmp247_g v_cmp247_c v_cmp247_h _ h829) .nil)) q
inductive G_slices_pdqsortCmpFunc_lift_Req_h_C2_R where
  | x0 (v_pivot1041 : Int) (v_hint1042 : Int) (v_w1043 : (List S_lift_Req))
def G_slices_pdqsortCmpFunc_lift_Req_h_C2_ex : G_slices_pdqsortCmpFunc_lift_Req_h_C2_R → Ex
  | .x0 _ _ _ => .normal
def G_slices_pdqsortCmpFunc_lift_Req_h_C2_st (v_a248 : Int) (v_b249 : Int) (v_z1035 : Int) (v_cmp247 : (S_lift_Req → S_lift_Req → Option (Int))) (v_wasBalanced251 : Bool) (v_wasPartitioned252 : Bool) (v_r1037 : (Int × Int)) (v_z1036 : (List S_lift_Req)) (v_cmp247_g : FuncId) (v_cmp247_c : (List PV)) : G_slices_pdqsortCmpFunc_lift_Req_h_C2_R → PS
  | .x0 v_pivot1041 v_hint1042 v_w1043 => ⟨(.srf 1 :: .d (.v (.int .i64 v_a248)) :: .d (.v (.int .i64 v_b249)) :: .d (.v (.int .i64 v_z1035)) :: .d (.clo v_cmp247_g v_cmp247_c) :: dd :: dd :: dd :: dd :: dd :: .d (.v (.bool v_wasBalanced251)) :: .d (.v (.bool v_wasPartitioned252)) :: .d (.v (.int .i64 (wi .i64 (v_b249 - v_a248)))) :: .d (.v (.int .i64 v_pivot1041)) :: .d (.v (.int .i64 v_hint1042)) :: (dds 133 [])), [.gh 0 (.srf 1), .row 26 3 (v_w1043.map eS_lift_Req)]⟩
def G_slices_pdqsortCmpFunc_lift_Req_h_C2_hd (v_a248 : Int) (v_b249 : Int) (v_z1035 : Int) (v_cmp247 : (S_lift_Req → S_lift_Req → Option (Int))) (v_wasBalanced251 : Bool) (v_wasPartitioned252 : Bool) (v_r1037 : (Int × Int)) (v_z1036 : (List S_lift_Req)) (v_cmp247_g : FuncId) (v_cmp247_c : (List PV))  : PS := ⟨(.srf 1 :: .d (.v (.int .i64 v_a248)) :: .d (.v (.int .i64 v_b249)) :: .d (.v (.int .i64 v_z1035)) :: .d (.clo v_cmp247_g v_cmp247_c) :: dd :: dd :: dd :: dd :: dd :: .d (.v (.bool v_wasBalanced251)) :: .d (.v (.bool v_wasPartitioned252)) :: .d (.v (.int .i64 (wi .i64 (v_b249 - v_a248)))) :: .d (.v (.int .i64 v_r1037.1)) :: .d (.v (.int .i64 v_r1037.2)) :: (dds 41 (.d (.v (.bool (v_r1037.2 == 2))) :: (dds 91 [])))), [.gh 0 (.srf 1), .row 26 3 (v_z1036.map eS_lift_Req)]⟩
def G_slices_pdqsortCmpFunc_lift_Req_h_C2 (n : Nat) (v_a248 : Int) (v_b249 : Int) (v_z1035 : Int) (v_cmp247 : (S_lift_Req → S_lift_Req → Option (Int))) (v_wasBalanced251 : Bool) (v_wasPartitioned252 : Bool) (v_r1037 : (Int × Int)) (v_z1036 : (List S_lift_Req)) : Option G_slices_pdqsortCmpFunc_lift_Req_h_C2_R :=
  if v_r1037.2 = 2 then
   (G_slices_reverseRangeCmpFunc_lift_Req_h n v_z1036 v_a248 v_b249 v_cmp247).bind fun (v_r1040 : ((List S_lift_Req))) =>
   some (.x0 (wi .i64 ((wi .i64 (v_b249 - 1)) - (wi .i64 (v_r1037.1 - v_a248)))) 1 v_r1040)
  else
   some (.x0 v_r1037.1 v_r1037.2 v_z1036)
theorem G_slices_pdqsortCmpFunc_lift_Req_h_C2_ok {Fi : Ex → PS → Prop} (hF : KC 148 Fi) (ks : List Fr) (n : Nat) (v_a248 : Int) (v_b249 : Int) (v_z1035 : Int) (v_cmp247 : (S_lift_Req → S_lift_Req → Option (Int))) (v_wasBalanced251 : Bool) (v_wasPartitioned252 : Bool) (v_r1037 : (Int × Int)) (v_z1036 : (List S_lift_Req)) (v_cmp247_g : FuncId) (v_cmp247_c : (List PV)) (v_cmp247_h : ∀ (x0 : S_lift_Req) (x1 : S_lift_Req) (r : Int), v_cmp247 x0 x1 = some r → Ret Try.prog v_cmp247_g ([eS_lift_Req x0, eS_lift_Req x1] ++ v_cmp247_c) ((eI .i64) r)) (o : G_slices_pdqsortCmpFunc_lift_Req_h_C2_R) (h : G_slices_pdqsortCmpFunc_lift_Req_h_C2 n v_a248 v_b249 v_z1035 v_cmp247 v_wasBalanced251 v_wasPartitioned252 v_r1037 v_z1036 = some o) (q : RunE Try.prog 148 Fi ks (G_slices_pdqsortCmpFunc_lift_Req_h_C2_ex o) (G_slices_pdqsortCmpFunc_lift_Req_h_C2_st v_a248 v_b249 v_z1035 v_cmp247 v_wasBalanced251 v_wasPartitioned252 v_r1037 v_z1036 v_cmp247_g v_cmp247_c o)) : RunE Try.prog 148 Fi (.s (cR (cL (cR (cR (cR (cR (cR (cB (cP (cB (cR (cR (bodyOf Try.f39))))))))))))) :: ks) .normal (G_slices_pdqsortCmpFunc_lift_Req_h_C2_hd v_a248 v_b249 v_z1035 v_cmp247 v_wasBalanced251 v_wasPartitioned252 v_r1037 v_z1036 v_cmp247_g v_cmp247_c) := by
  unfold G_slices_pdqsortCmpFunc_lift_Req_h_C2 at h
  by_cases h834 : v_r1037.2 = 2
  · rw [if_pos h834] at h
    obtain ⟨v_r1040, h835, h⟩ := bind_some h
    cases h
    exact pkk_sound TTok mix hF 6 (hs := [.t true, .h [1] [] [.row 26 3 (v_r1040.map eS_lift_Req)] (.tup [])]) (ts := []) (s := [0, 1]) (l := [0, 1, 2, 3, 4, 10, 11, 12, 13, 14]) (by kernel_rfl) (by kernel_rfl) (.cons (bt h834) (.cons (G_slices_reverseRangeCmpFunc_lift_Req_h_ok n v_z1036 v_a248 v_b249 v_cmp247 v_cmp247_g v_cmp247_c v_cmp247_h _ h835) .nil)) q
  · rw [if_neg h834] at h
    cases h
    exact pkk_sound TTok mix hF 2 (hs := [.t false]) (ts := []) (s := [0, 1]) (l := [0, 1, 2, 3, 4, 10, 11, 12, 13, 14]) (by kernel_rfl) (by kernel_rfl) (.cons (bf h834) .nil) q
inductive G_slices_pdqsortCmpFunc_lift_Req_h_C3_R where
  | x0 (v_w1054 : (List S_lift_Req))
  | x1 (v_w1055 : (List S_lift_Req))
def G_slices_pdqsortCmpFunc_lift_Req_h_C3_ex : G_slices_pdqsortCmpFunc_lift_Req_h_C3_R → Ex
  | .x0 _ => .ret
  | .x1 _ => .normal
def G_slices_pdqsortCmpFunc_lift_Req_h_C3_st (v_a248 : Int) (v_b249 : Int) (v_z1035 : Int) (v_cmp247 : (S_lift_Req → S_lift_Req → Option (Int))) (v_wasBalanced251 : Bool) (v_wasPartitioned252 : Bool) (v_z1048 : Int) (v_z1049 : Int) (v_z1050 : (List S_lift_Req)) (v_cmp247_g : FuncId) (v_cmp247_c : (List PV)) : G_slices_pdqsortCmpFunc_lift_Req_h_C3_R → PS
  | .x0 v_w1054 => ⟨(dds 148 []), [.gh 0 (.srf 1), .row 26 3 (v_w1054.map eS_lift_Req)]⟩
  | .x1 v_w1055 => ⟨(.srf 1 :: .d (.v (.int .i64 v_a248)) :: .d (.v (.int .i64 v_b249)) :: .d (.v (.int .i64 v_z1035)) :: .d (.clo v_cmp247_g v_cmp247_c) :: dd :: dd :: dd :: dd :: dd :: .d (.v (.bool v_wasBalanced251)) :: .d (.v (.bool v_wasPartitioned252)) :: .d (.v (.int .i64 (wi .i64 (v_b249 - v_a248)))) :: .d (.v (.int .i64 v_z1048)) :: (dds 134 [])), [.gh 0 (.srf 1), .row 26 3 (v_w1055.map eS_lift_Req)]⟩
def G_slices_pdqsortCmpFunc_lift_Req_h_C3_hd (v_a248 : Int) (v_b249 : Int) (v_z1035 : Int) (v_cmp247 : (S_lift_Req → S_lift_Req → Option (Int))) (v_wasBalanced251 : Bool) (v_wasPartitioned252 : Bool) (v_z1048 : Int) (v_z1049 : Int) (v_z1050 : (List S_lift_Req)) (v_cmp247_g : FuncId) (v_cmp247_c : (List PV))  : PS := ⟨(.srf 1 :: .d (.v (.int .i64 v_a248)) :: .d (.v (.int .i64 v_b249)) :: .d (.v (.int .i64 v_z1035)) :: .d (.clo v_cmp247_g v_cmp247_c) :: dd :: dd :: dd :: dd :: dd :: .d (.v (.bool v_wasBalanced251)) :: .d (.v (.bool v_wasPartitioned252)) :: .d (.v (.int .i64 (wi .i64 (v_b249 - v_a248)))) :: .d (.v (.int .i64 v_z1048)) :: (dds 61 (.d (.v (.bool (v_z1049 == 1))) :: (dds 72 [])))), [.gh 0 (.srf 1), .row 26 3 (v_z1050.map eS_lift_Req)]⟩
def G_slices_pdqsortCmpFunc_lift_Req_h_C3 (n : Nat) (v_a248 : Int) (v_b249 : Int) (v_z1035 : Int) (v_cmp247 : (S_lift_Req → S_lift_Req → Option (Int))) (v_wasBalanced251 : Bool) (v_wasPartitioned252 : Bool) (v_z1048 : Int) (v_z1049 : Int) (v_z1050 : (List S_lift_Req)) : Option G_slices_pdqsortCmpFunc_lift_Req_h_C3_R :=
  if v_z1049 = 1 then
   (G_slices_partialInsertionSortCmpFunc_lift_Req_h n v_z1050 v_a248 v_b249 v_cmp247).bind fun (v_r1053 : (Bool × (List S_lift_Req))) =>
   if v_r1053.1 = true then
    some (.x0 v_r1053.2)
   else
    some (.x1 v_r1053.2)
  else
   some (.x1 v_z1050)
theorem G_slices_pdqsortCmpFunc_lift_Req_h_C3_ok {Fi : Ex → PS → Prop} (hF : KC 148 Fi) (ks : List Fr) (n : Nat) (v_a248 : Int) (v_b249 : Int) (v_z1035 : Int) (v_cmp247 : (S_lift_Req → S_lift_Req → Option (Int))) (v_wasBalanced251 : Bool) (v_wasPartitioned252 : Bool) (v_z1048 : Int) (v_z1049 : Int) (v_z1050 : (List S_lift_Req)) (v_cmp247_g : FuncId) (v_cmp247_c : (List PV)) (v_cmp247_h : ∀ (x0 : S_lift_Req) (x1 : S_lift_Req) (r : Int), v_cmp247 x0 x1 = some r → Ret Try.prog v_cmp247_g ([eS_lift_Req x0, eS_lift_Req x1] ++ v_cmp247_c) ((eI .i64) r)) (o : G_slices_pdqsortCmpFunc_lift_Req_h_C3_R) (h : G_slices_pdqsortCmpFunc_lift_Req_h_C3 n v_a248 v_b249 v_z1035 v_cmp247 v_wasBalanced251 v_wasPartitioned252 v_z1048 v_z1049 v_z1050 = some o) (q : RunE Try.prog 148 Fi ks (G_slices_pdqsortCmpFunc_lift_Req_h_C3_ex o) (G_slices_pdqsortCmpFunc_lift_Req_h_C3_st v_a248 v_b249 v_z1035 v_cmp247 v_wasBalanced251 v_wasPartitioned252 v_z1048 v_z1049 v_z1050 v_cmp247_g v_cmp247_c o)) : RunE Try.prog 148 Fi (.s (cR (cL (cR (cR (cR (cR (cR (cR (cB (cP (cB (cR (cR (bodyOf Try.f39)))))))))))))) :: ks) .normal (G_slices_pdqsortCmpFunc_lift_Req_h_C3_hd v_a248 v_b249 v_z1035 v_cmp247 v_wasBalanced251 v_wasPartitioned252 v_z1048 v_z1049 v_z1050 v_cmp247_g v_cmp247_c) := by
  unfold G_slices_pdqsortCmpFunc_lift_Req_h_C3 at h
  by_cases h842 : v_z1049 = 1
  · rw [if_pos h842] at h
    obtain ⟨v_r1053, h843, h⟩ := bind_some h
    by_cases h844 : v_r1053.1 = true
    · rw [if_pos h844] at h
      cases h
      exact pkk_sound TTok mix hF 5 (hs := [.t true, .h [1] [] [.row 26 3 (v_r1053.2.map eS_lift_Req)] (.d (.v (.bool v_r1053.1))), .t true]) (ts := []) (s := [0, 1]) (l := []) (by kernel_rfl) (by kernel_rfl) (.cons (bt h842) (.cons (G_slices_partialInsertionSortCmpFunc_lift_Req_h_ok n v_z1050 v_a248 v_b249 v_cmp247 v_cmp247_g v_cmp247_c v_cmp247_h _ h843) (.cons h844 .nil))) q
    · rw [if_neg h844] at h
      cases h
      exact pkk_sound TTok mix hF 5 (hs := [.t true, .h [1] [] [.row 26 3 (v_r1053.2.map eS_lift_Req)] (.d (.v (.bool v_r1053.1))), .t false]) (ts := []) (s := [0, 1]) (l := [0, 1, 2, 3, 4, 10, 11, 12, 13]) (by kernel_rfl) (by kernel_rfl) (.cons (bt h842) (.cons (G_slices_partialInsertionSortCmpFunc_lift_Req_h_ok n v_z1050 v_a248 v_b249 v_cmp247 v_cmp247_g v_cmp247_c v_cmp247_h _ h843) (.cons (vf h844) .nil))) q
  · rw [if_neg h842] at h
    cases h
    exact pkk_sound TTok mix hF 2 (hs := [.t false]) (ts := []) (s := [0, 1]) (l := [0, 1, 2, 3, 4, 10, 11, 12, 13]) (by kernel_rfl) (by kernel_rfl) (.cons (bf h842) .nil) q
inductive G_slices_pdqsortCmpFunc_lift_Req_h_C4_R where
  | x0 (v_x1068 : Bool) (v_w1069 : (List S_lift_Req))
def G_slices_pdqsortCmpFunc_lift_Req_h_C4_ex : G_slices_pdqsortCmpFunc_lift_Req_h_C4_R → Ex
  | .x0 _ _ => .normal
def G_slices_pdqsortCmpFunc_lift_Req_h_C4_st (v_a248 : Int) (v_b249 : Int) (v_z1035 : Int) (v_cmp247 : (S_lift_Req → S_lift_Req → Option (Int))) (v_wasBalanced251 : Bool) (v_wasPartitioned252 : Bool) (v_z1048 : Int) (v_z1060 : (List S_lift_Req)) (v_cmp247_g : FuncId) (v_cmp247_c : (List PV)) : G_slices_pdqsortCmpFunc_lift_Req_h_C4_R → PS
  | .x0 v_x1068 v_w1069 => ⟨(.srf 1 :: .d (.v (.int .i64 v_a248)) :: .d (.v (.int .i64 v_b249)) :: .d (.v (.int .i64 v_z1035)) :: .d (.clo v_cmp247_g v_cmp247_c) :: dd :: dd :: dd :: dd :: dd :: .d (.v (.bool v_wasBalanced251)) :: .d (.v (.bool v_wasPartitioned252)) :: .d (.v (.int .i64 (wi .i64 (v_b249 - v_a248)))) :: .d (.v (.int .i64 v_z1048)) :: (dds 83 (.d (.v (.bool v_x1068)) :: (dds 50 [])))), [.gh 0 (.srf 1), .row 26 3 (v_w1069.map eS_lift_Req)]⟩
def G_slices_pdqsortCmpFunc_lift_Req_h_C4_hd (v_a248 : Int) (v_b249 : Int) (v_z1035 : Int) (v_cmp247 : (S_lift_Req → S_lift_Req → Option (Int))) (v_wasBalanced251 : Bool) (v_wasPartitioned252 : Bool) (v_z1048 : Int) (v_z1060 : (List S_lift_Req)) (v_cmp247_g : FuncId) (v_cmp247_c : (List PV))  : PS := ⟨(.srf 1 :: .d (.v (.int .i64 v_a248)) :: .d (.v (.int .i64 v_b249)) :: .d (.v (.int .i64 v_z1035)) :: .d (.clo v_cmp247_g v_cmp247_c) :: dd :: dd :: dd :: dd :: dd :: .d (.v (.bool v_wasBalanced251)) :: .d (.v (.bool v_wasPartitioned252)) :: .d (.v (.int .i64 (wi .i64 (v_b249 - v_a248)))) :: .d (.v (.int .i64 v_z1048)) :: (dds 134 [])), [.gh 0 (.srf 1), .row 26 3 (v_z1060.map eS_lift_Req)]⟩
def G_slices_pdqsortCmpFunc_lift_Req_h_C4 (n : Nat) (v_a248 : Int) (v_b249 : Int) (v_z1035 : Int) (v_cmp247 : (S_lift_Req → S_lift_Req → Option (Int))) (v_wasBalanced251 : Bool) (v_wasPartitioned252 : Bool) (v_z1048 : Int) (v_z1060 : (List S_lift_Req)) : Option G_slices_pdqsortCmpFunc_lift_Req_h_C4_R :=
  if v_a248 > 0 then
   if 0 ≤ (wi .i64 (v_a248 - 1)) ∧ ((wi .i64 (v_a248 - 1))).toNat < v_z1060.length then
    (v_z1060[((wi .i64 (v_a248 - 1))).toNat]?).bind fun (v_y1065 : S_lift_Req) =>
    if 0 ≤ v_z1048 ∧ (v_z1048).toNat < v_z1060.length then
     (v_z1060[(v_z1048).toNat]?).bind fun (v_y1066 : S_lift_Req) =>
     (v_cmp247 v_y1065 v_y1066).bind fun (v_r1067 : (Int)) =>
     some (.x0 (!(decide (v_r1067 < 0))) v_z1060)
    else none
   else none
  else
   some (.x0 false v_z1060)

end Go.Proofs.Ytdimcmpkhbfcnaa.pv
