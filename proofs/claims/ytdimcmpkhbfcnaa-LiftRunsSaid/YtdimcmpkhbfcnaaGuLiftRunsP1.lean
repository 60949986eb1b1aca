/- What the functions compute, as functions over plain data, with their contracts: written by gen.py. -/
import Derived.Test.YtdimcmpkhbfcnaaProg
import Derived.Test.YtdimcmpkhbfcnaaQr
import Derived.Test.YtdimcmpkhbfcnaaShelf
import Derived.Test.YtdimcmpkhbfcnaaTi
import Derived.Test.YtdimcmpkhbfcnaaTh
import Derived.Test.YtdimcmpkhbfcnaaTd
import Derived.Test.YtdimcmpkhbfcnaaSh
import Derived.Test.YtdimcmpkhbfcnaaSr
set_option maxRecDepth 100000
set_option linter.all false
namespace Go.Proofs.Ytdimcmpkhbfcnaa.pv
open Go.RowKit
def dds (n : Nat) (l : List FV) : List FV := List.replicate n dd ++ l
def TT : List TI := [
⟨1, 0, .oth, []⟩,
⟨1, 8, .oth, [.nf]⟩,
⟨1, 8, .int .i64, [.i .i64]⟩,
⟨1, 8, .int .i64, [.i .i64]⟩,
⟨1, 1, .bool, [.b]⟩,
⟨1, 1, .int .u8, [.i .u8]⟩,
⟨1, 1, .int .u8, [.i .u8]⟩,
⟨4, 24, .st [(0, 2), (1, 3), (2, 4), (3, 6)], [.i .i64, .i .i64, .b, .i .u8]⟩,
⟨4, 24, .st [(0, 2), (1, 3), (2, 4), (3, 6)], [.i .i64, .i .i64, .b, .i .u8]⟩,
⟨1, 16, .str, [.s]⟩,
⟨1, 16, .str, [.s]⟩,
⟨1, 16, .str, [.s]⟩,
⟨1, 8, .int .u64, [.i .u64]⟩,
⟨2, 24, .st [(0, 9), (1, 12)], [.s, .i .u64]⟩,
⟨2, 24, .st [(0, 9), (1, 12)], [.s, .i .u64]⟩,
⟨1, 8, .ptr 121, [.np]⟩,
⟨1, 8, .ptr 124, [.np]⟩,
⟨1, 8, .ptr 131, [.np]⟩,
⟨1, 8, .st [(0, 17)], [.np]⟩,
⟨1, 8, .st [(0, 17)], [.np]⟩,
⟨1, 16, .oth, [.ni]⟩,
⟨1, 4, .int .i32, [.i .i32]⟩,
⟨1, 24, .sl 26, [.sl]⟩,
⟨1, 8, .int .i64, [.i .i64]⟩,
⟨1, 24, .sl 5, [.sl]⟩,
⟨3, 40, .st [(0, 3), (1, 24), (2, 4)], [.i .i64, .sl, .b]⟩,
⟨3, 40, .st [(0, 3), (1, 24), (2, 4)], [.i .i64, .sl, .b]⟩,
⟨1, 8, .oth, [.nf]⟩,
⟨1, 0, .oth, []⟩,
⟨1, 8, .oth, [.nf]⟩,
⟨1, 0, .oth, []⟩,
⟨1, 8, .oth, [.nf]⟩,
⟨1, 8, .oth, [.nf]⟩,
⟨1, 24, .sl 35, [.sl]⟩,
⟨2, 24, .st [(0, 3), (1, 9)], [.i .i64, .s]⟩,
⟨2, 24, .st [(0, 3), (1, 9)], [.i .i64, .s]⟩,
⟨1, 8, .oth, [.nf]⟩,
⟨1, 8, .oth, [.nf]⟩,
⟨1, 8, .oth, [.nf]⟩,
⟨1, 8, .oth, [.nf]⟩,
⟨1, 24, .sl 4, [.sl]⟩,
⟨1, 8, .int .u64, [.i .u64]⟩,
⟨1, 8, .ptr 65, [.np]⟩,
⟨1, 0, .oth, []⟩,
⟨1, 8, .oth, [.nf]⟩,
⟨1, 8, .ptr 54, [.np]⟩,
⟨1, 8, .oth, [.nf]⟩,
⟨1, 8, .oth, [.nf]⟩,
⟨1, 8, .oth, [.nf]⟩,
⟨1, 8, .oth, [.nf]⟩,
⟨1, 8, .oth, [.nf]⟩,
⟨1, 8, .oth, [.nf]⟩,
⟨1, 24, .sl 68, [.sl]⟩,
⟨4, 48, .st [(0, 3), (1, 3), (2, 3), (3, 52)], [.i .i64, .i .i64, .i .i64, .sl]⟩,
⟨4, 48, .st [(0, 3), (1, 3), (2, 3), (3, 52)], [.i .i64, .i .i64, .i .i64, .sl]⟩,
⟨1, 8, .oth, [.nf]⟩,
⟨1, 8, .oth, [.nf]⟩,
⟨1, 8, .oth, [.nf]⟩,
⟨1, 8, .oth, [.nf]⟩,
⟨1, 8, .oth, [.nf]⟩,
⟨1, 0, .oth, []⟩,
⟨1, 8, .oth, [.nf]⟩,
⟨1, 8, .oth, [.nf]⟩,
⟨1, 24, .sl 70, [.sl]⟩,
⟨4, 80, .st [(0, 24), (1, 24), (2, 63), (3, 3)], [.sl, .sl, .sl, .i .i64]⟩,
⟨4, 80, .st [(0, 24), (1, 24), (2, 63), (3, 3)], [.sl, .sl, .sl, .i .i64]⟩,
⟨1, 8, .oth, [.nf]⟩,
⟨1, 8, .oth, [.nf]⟩,
⟨2, 24, .st [(0, 3), (1, 9)], [.i .i64, .s]⟩,
⟨2, 32, .st [(0, 3), (1, 24)], [.i .i64, .sl]⟩,
⟨2, 32, .st [(0, 3), (1, 24)], [.i .i64, .sl]⟩,
⟨1, 8, .oth, [.nf]⟩,
⟨1, 8, .oth, [.nf]⟩,
⟨1, 8, .oth, [.nm]⟩,
⟨1, 8, .oth, [.nf]⟩,
⟨1, 8, .oth, [.nf]⟩,
⟨1, 8, .oth, [.nf]⟩,
⟨1, 8, .oth, [.nf]⟩,
⟨1, 8, .oth, [.nf]⟩,
⟨1, 8, .oth, [.nf]⟩,
⟨1, 8, .oth, [.nf]⟩,
⟨1, 8, .int .i64, [.i .i64]⟩,
⟨1, 0, .oth, []⟩,
⟨1, 8, .oth, [.nf]⟩,
⟨1, 8, .oth, [.nf]⟩,
⟨1, 8, .oth, [.nf]⟩,
⟨1, 0, .oth, []⟩,
⟨1, 8, .oth, [.nf]⟩,
⟨1, 8, .oth, [.nf]⟩,
⟨1, 4, .int .u32, [.i .u32]⟩,
⟨1, 8, .oth, [.nf]⟩,
⟨1, 8, .int .u64, [.i .u64]⟩,
⟨1, 0, .oth, []⟩,
⟨1, 8, .oth, [.nf]⟩,
⟨1, 8, .oth, [.nf]⟩,
⟨1, 8, .ptr 97, [.np]⟩,
⟨2, 32, .st [(0, 95), (1, 24)], [.np, .sl]⟩,
⟨2, 32, .st [(0, 95), (1, 24)], [.np, .sl]⟩,
⟨1, 8, .oth, [.nf]⟩,
⟨1, 16, .oth, [.ni]⟩,
⟨1, 16, .oth, [.ni]⟩,
⟨1, 0, .oth, []⟩,
⟨1, 8, .oth, [.nf]⟩,
⟨1, 8, .int .u64, [.i .u64]⟩,
⟨1, 8, .oth, [.nf]⟩,
⟨1, 8, .oth, [.nf]⟩,
⟨1, 8, .oth, [.nf]⟩,
⟨1, 8, .ptr 3, [.np]⟩,
⟨1, 8, .oth, [.nf]⟩,
⟨1, 0, .oth, []⟩,
⟨1, 8, .oth, [.nf]⟩,
⟨1, 0, .oth, []⟩,
⟨1, 8, .oth, [.nf]⟩,
⟨1, 8, .ptr 5, [.np]⟩,
⟨1, 8, .ptr 103, [.np]⟩,
⟨1, 0, .oth, []⟩,
⟨1, 8, .oth, [.nf]⟩,
⟨1, 8, .oth, [.np]⟩,
⟨1, 8, .oth, [.nf]⟩,
⟨1, 8, .oth, [.nf]⟩,
⟨4, 40, .st [(0, 17), (1, 17), (2, 17), (3, 9)], [.np, .np, .np, .s]⟩,
⟨4, 40, .st [(0, 17), (1, 17), (2, 17), (3, 9)], [.np, .np, .np, .s]⟩,
⟨0, 0, .arr 0 16, []⟩,
⟨0, 0, .st [(0, 122)], []⟩,
⟨0, 0, .st [(0, 122)], []⟩,
⟨1, 1, .int .u8, [.i .u8]⟩,
⟨1, 1, .int .u8, [.i .u8]⟩,
⟨1, 8, .oth, [.nf]⟩,
⟨1, 4, .int .i32, [.i .i32]⟩,
⟨1, 4, .int .i32, [.i .i32]⟩,
⟨11, 48, .st [(0, 12), (1, 12), (2, 89), (3, 125), (4, 5), (5, 5), (6, 126), (7, 127), (8, 113), (9, 128), (10, 129)], [.i .u64, .i .u64, .i .u32, .i .u8, .i .u8, .i .u8, .i .u8, .nf, .np, .i .i32, .i .i32]⟩,
⟨11, 48, .st [(0, 12), (1, 12), (2, 89), (3, 125), (4, 5), (5, 5), (6, 126), (7, 127), (8, 113), (9, 128), (10, 129)], [.i .u64, .i .u64, .i .u32, .i .u8, .i .u8, .i .u8, .i .u8, .nf, .np, .i .i32, .i .i32]⟩]
theorem TTok : TOk Try.prog TT := by unfold TOk; kernel_rfl
theorem mix : Try.prog.follows .mixedOrders = true := by kernel_rfl
structure S_lift_Req where
  fSector : Int
  fData : (List Int)
  fBarrier : Bool
def eS_lift_Req (x : S_lift_Req) : PV := .agg [.v (.int .i64 x.fSector), .sl (x.fData.map (eI .u8)), .v (.bool x.fBarrier)]
structure S_disk_write where
  fn : Int
  fdata : (List Int)
def eS_disk_write (x : S_disk_write) : PV := .agg [.v (.int .i64 x.fn), .sl (x.fdata.map (eI .u8))]
structure S_disk_Disk where
  fsafe : (List Int)
  fnow : (List Int)
  fwait : (List S_disk_write)
  ffuse : Int
def eS_disk_Disk (x : S_disk_Disk) : PV := .agg [.sl (x.fsafe.map (eI .u8)), .sl (x.fnow.map (eI .u8)), .sl (x.fwait.map eS_disk_write), .v (.int .i64 x.ffuse)]
structure S_ringref3_Put where
  fN : Int
  fData : ByteArray
def eS_ringref3_Put (x : S_ringref3_Put) : PV := .agg [.v (.int .i64 x.fN), .v (.string x.fData)]
structure S_ringref3_Disk where
  fSectors : Int
  fMark : Int
  fFuse : Int
  fAll : (List S_ringref3_Put)
def eS_ringref3_Disk (x : S_ringref3_Disk) : PV := .agg [.v (.int .i64 x.fSectors), .v (.int .i64 x.fMark), .v (.int .i64 x.fFuse), .sl (x.fAll.map eS_ringref3_Put)]
structure S_ringref3_Req where
  fN : Int
  fData : ByteArray
def eS_ringref3_Req (x : S_ringref3_Req) : PV := .agg [.v (.int .i64 x.fN), .v (.string x.fData)]
inductive G_lift_Right_C1_R where
  | x0 (v_x17 : Bool)
def G_lift_Right_C1_ex : G_lift_Right_C1_R → Ex
  | .x0 _ => .normal
def G_lift_Right_C1_st (v_l4 : (List S_lift_Req)) (v_x5 : Int) (v_y15 : S_lift_Req) : G_lift_Right_C1_R → PS
  | .x0 v_x17 => ⟨(dds 8 (.d (.sl (v_l4.map eS_lift_Req)) :: .d (.v (.int .i64 (v_l4.length : Int))) :: .d (.v (.int .i64 v_x5)) :: (dds 21 [.d (.v (.bool v_x17)), dd]))), []⟩
def G_lift_Right_C1_hd (v_l4 : (List S_lift_Req)) (v_x5 : Int) (v_y15 : S_lift_Req)  : PS := ⟨(dd :: dd :: dd :: dd :: .ref 0 0 :: dd :: dd :: dd :: .d (.sl (v_l4.map eS_lift_Req)) :: .d (.v (.int .i64 (v_l4.length : Int))) :: .d (.v (.int .i64 v_x5)) :: (dds 23 [])), [.box [.d (.v (.int .i64 v_y15.fSector)), .d (.sl (v_y15.fData.map (eI .u8))), .d (.v (.bool v_y15.fBarrier))]]⟩
def G_lift_Right_C1 (n : Nat) (v_l4 : (List S_lift_Req)) (v_x5 : Int) (v_y15 : S_lift_Req) : Option G_lift_Right_C1_R :=
  if v_y15.fBarrier = true then
   some (.x0 false)
  else
   if v_y15.fSector < 0 then
    some (.x0 true)
   else
    if v_y15.fSector ≥ 256 then
     some (.x0 true)
    else
     some (.x0 ((v_y15.fData.length : Int) != 64))
theorem G_lift_Right_C1_ok {Fi : Ex → PS → Prop} (hF : KC 34 Fi) (ks : List Fr) (n : Nat) (v_l4 : (List S_lift_Req)) (v_x5 : Int) (v_y15 : S_lift_Req)  (o : G_lift_Right_C1_R) (h : G_lift_Right_C1 n v_l4 v_x5 v_y15 = some o) (q : RunE Try.prog 34 Fi ks (G_lift_Right_C1_ex o) (G_lift_Right_C1_st v_l4 v_x5 v_y15 o)) : RunE Try.prog 34 Fi (.s (cL (cR (cB (cL (cR (cR (cP (cB (cR (cL (cR (cR (bodyOf Try.f5))))))))))))) :: ks) .normal (G_lift_Right_C1_hd v_l4 v_x5 v_y15) := by
  unfold G_lift_Right_C1 at h
  by_cases h19 : v_y15.fBarrier = true
  · rw [if_pos h19] at h
    cases h
    exact pkk_sound TTok mix hF 1 (hs := [.c, .t false, .c, .c, .c, .c, .c, .c]) (ts := []) (s := []) (l := [8, 9, 10, 32]) (by kernel_rfl) (by kernel_rfl) (.cons (bnf h19) .nil) q
  · rw [if_neg h19] at h
    by_cases h20 : v_y15.fSector < 0
    · rw [if_pos h20] at h
      cases h
      exact pkk_sound TTok mix hF 1 (hs := [.c, .t true, .c, .c, .c, .c, .t true, .c, .c, .c, .c, .c, .c, .c, .c, .c]) (ts := []) (s := []) (l := [8, 9, 10, 32]) (by kernel_rfl) (by kernel_rfl) (.cons (bnt (vf h19)) (.cons (dt h20) .nil)) q
    · rw [if_neg h20] at h
      by_cases h21 : v_y15.fSector ≥ 256
      · rw [if_pos h21] at h
        cases h
        exact pkk_sound TTok mix hF 1 (hs := [.c, .t true, .c, .c, .c, .c, .t false, .c, .c, .c, .c, .c, .t true, .c, .c, .c, .c]) (ts := []) (s := []) (l := [8, 9, 10, 32]) (by kernel_rfl) (by kernel_rfl) (.cons (bnt (vf h19)) (.cons (df h20) (.cons (dt h21) .nil))) q
      · rw [if_neg h21] at h
        cases h
        exact pkk_sound TTok mix hF 1 (hs := [.c, .t true, .c, .c, .c, .c, .t false, .c, .c, .c, .c, .c, .t false, .c, .c, .c, .u (.d (.v (.int .i64 (v_y15.fData.length : Int)))), .c, .c]) (ts := []) (s := []) (l := [8, 9, 10, 32]) (by kernel_rfl) (by kernel_rfl) (.cons (bnt (vf h19)) (.cons (df h20) (.cons (df h21) (.cons (len_ob (f := (eI .u8)) (l := v_y15.fData)) .nil)))) q
inductive G_lift_Right_L2_R where
  | x0 (v_x23 : Int)
  | x1 
def G_lift_Right_L2_ex : G_lift_Right_L2_R → Ex
  | .x0 _ => .ret
  | .x1  => .exit 0
def G_lift_Right_L2_st (v_l4 : (List S_lift_Req)) : G_lift_Right_L2_R → PS
  | .x0 v_x23 => ⟨(dd :: dd :: .d (.v (.int .i64 v_x23)) :: (dds 31 [])), []⟩
  | .x1  => ⟨(dds 34 []), []⟩
def G_lift_Right_L2_hd (v_l4 : (List S_lift_Req)) (v_x5 : Int) : PS := ⟨(dds 8 (.d (.sl (v_l4.map eS_lift_Req)) :: .d (.v (.int .i64 (v_l4.length : Int))) :: .d (.v (.int .i64 v_x5)) :: (dds 23 []))), []⟩
def G_lift_Right_L2 (n : Nat) (v_l4 : (List S_lift_Req)) : Nat → Int → Option G_lift_Right_L2_R
  | 0, _ => none
  | k + 1, v_x5 =>
    if v_x5 < (v_l4.length : Int) then
     (getI v_l4 v_x5).bind fun (v_y15 : S_lift_Req) =>
     (G_lift_Right_C1 n v_l4 v_x5 v_y15).bind fun v_o21 => match v_o21 with
     | .x0 v_z22 =>
       if v_z22 = true then
        some (.x0 1)
       else
        G_lift_Right_L2 n v_l4 k (wi .i64 (v_x5 + 1))
    else
     some (.x1 )
theorem G_lift_Right_L2_ok {Fi : Ex → PS → Prop} (hF : KC 34 Fi) (ks : List Fr) (n : Nat) (v_l4 : (List S_lift_Req))  : ∀ (k : Nat) (v_x5 : Int) (o : G_lift_Right_L2_R), G_lift_Right_L2 n v_l4 k v_x5 = some o → RunE Try.prog 34 Fi ks (G_lift_Right_L2_ex o) (G_lift_Right_L2_st v_l4 o) → RunE Try.prog 34 Fi (.l k (cP (cB (cR (cL (cR (cR (bodyOf Try.f5))))))) :: ks) .normal (G_lift_Right_L2_hd v_l4 v_x5)
  | 0, v_x5, o, h, q => by rw [G_lift_Right_L2] at h; cases h
  | k + 1, v_x5, o, h, q => by
    rw [G_lift_Right_L2] at h
    by_cases h5 : v_x5 < (v_l4.length : Int)
    · rw [if_pos h5] at h
      obtain ⟨v_y15, h15, h⟩ := bind_some h
      obtain ⟨v_o21, h22, h⟩ := bind_some h
      refine pkk_sound TTok mix hF 11 (hs := [.t true, .y (eS_lift_Req v_y15), .c]) (ts := []) (s := [15]) (l := [4, 8, 9, 10]) (by kernel_rfl) (by kernel_rfl) (.cons (dt h5) (.cons (getI_ob (f := eS_lift_Req) h15) (.cons (show 0 + 3 ≤ 3 by decide) .nil))) (G_lift_Right_C1_ok hF (.s (cR (cR (cB (cL (cR (cR (cP (cB (cR (cL (cR (cR (bodyOf Try.f5))))))))))))) :: .b 1 :: .s (cR (cR (cR (cP (cB (cR (cL (cR (cR (bodyOf Try.f5)))))))))) :: .l k (cP (cB (cR (cL (cR (cR (bodyOf Try.f5))))))) :: ks) n v_l4 v_x5 v_y15 _ h22 ?_)
      cases v_o21 with
      | x0 v_z22 =>
        try dsimp only at h
        by_cases h23 : v_z22 = true
        · rw [if_pos h23] at h
          cases h
          exact pkk_sound TTok mix hF 7 (hs := [.t true]) (ts := []) (s := []) (l := [2]) (by kernel_rfl) (by kernel_rfl) (.cons h23 .nil) q
        · rw [if_neg h23] at h
          exact pkk_sound TTok mix hF 4 (hs := [.t false]) (ts := []) (s := []) (l := [8, 9, 10]) (by kernel_rfl) (by kernel_rfl) (.cons (vf h23) .nil) (G_lift_Right_L2_ok hF ks n v_l4 k (wi .i64 (v_x5 + 1)) _ h q)
    · rw [if_neg h5] at h
      cases h
      exact pkk_sound TTok mix hF 8 (hs := [.t false]) (ts := []) (s := []) (l := []) (by kernel_rfl) (by kernel_rfl) (.cons (df h5) .nil) q
/- ringhall/lift.Right -/
def G_lift_Right (n : Nat) (v_l4 : (List S_lift_Req)) : Option (Int) :=
  if (v_l4.length : Int) > 100 then
   some 2
  else
   (G_lift_Right_L2 n v_l4 n 0).bind fun v_o24 => match v_o24 with
   | .x0 v_z25 =>
     some v_z25
   | .x1  =>
     some 0
theorem G_lift_Right_ok (n : Nat) (v_l4 : (List S_lift_Req)) (r : Int) (h : G_lift_Right n v_l4 = some r) : Ret Try.prog 5 [(eL eS_lift_Req) v_l4] ((eI .i64) r) := by
  refine ret_run (n := 34) (fn := Try.f5) (c := bodyOf Try.f5) (by kernel_rfl) (by kernel_rfl) (by kernel_rfl) (by kernel_rfl) ?_
  have hF : KC 34 (FinR Try.prog Try.f5 ((eI .i64) r)) := FinR.kc' (by kernel_rfl)
  unfold G_lift_Right at h
  by_cases h4 : (v_l4.length : Int) > 100
  · rw [if_pos h4] at h
    obtain rfl := Option.some.inj h
    exact pend_sound TTok mix 10 (hs := [.u (.d (.v (.int .i64 (v_l4.length : Int)))), .t true]) (by kernel_rfl) (by kernel_rfl) (by kernel_rfl) (.cons (len_ob (f := eS_lift_Req) (l := v_l4)) (.cons (dt h4) .nil))
  · rw [if_neg h4] at h
    obtain ⟨v_o24, h24, h⟩ := bind_some h
    refine pkk_sound TTok mix hF 12 (hs := [.u (.d (.v (.int .i64 (v_l4.length : Int)))), .t false, .u (.d (.v (.int .i64 (v_l4.length : Int)))), .n n]) (ts := []) (s := []) (l := [8, 9, 10]) (by kernel_rfl) (by kernel_rfl) (.cons (len_ob (f := eS_lift_Req) (l := v_l4)) (.cons (df h4) (.cons (len_ob (f := eS_lift_Req) (l := v_l4)) .nil))) (G_lift_Right_L2_ok hF (.b 0 :: .s (cR (cR (cR (bodyOf Try.f5)))) :: []) n v_l4 n 0 _ h24 ?_)
    cases v_o24 with
    | x0 v_z25 =>
      try dsimp only at h
      obtain rfl := Option.some.inj h
      exact pend_sound TTok mix 2 (hs := []) (by kernel_rfl) (by kernel_rfl) (by kernel_rfl) .nil
    | x1  =>
      try dsimp only at h
      obtain rfl := Option.some.inj h
      exact pend_sound TTok mix 4 (hs := []) (by kernel_rfl) (by kernel_rfl) (by kernel_rfl) .nil
/- ringhall/disk.New -/
def G_disk_New_h (n : Nat) (v_sectors34 : Int) : Option ((Option S_disk_Disk) × Int) :=
  if v_sectors34 < 16 then
   some (none, 1)
  else
   if v_sectors34 > 256 then
    some (none, 1)
   else
    (mkL 1 0 (wi .i64 (v_sectors34 * 64))).bind fun (v_m35 : (List Int)) =>
    (mkL 1 0 (wi .i64 (v_sectors34 * 64))).bind fun (v_m36 : (List Int)) =>
    some ((some (S_disk_Disk.mk v_m35 v_m36 ([] : List S_disk_write) (-1))), 0)
theorem G_disk_New_h_ok (n : Nat) (v_sectors34 : Int) (r : (Option S_disk_Disk) × Int) (h : G_disk_New_h n v_sectors34 = some r) : RetH Try.prog 12 [.d ((eI .i64) v_sectors34)] [] (.tup [(match r.1 with | none => .d (.v (.pointer none)) | some x => .ref 0 0), .d ((eI .i64) r.2)]) (match r.1 with | none => [] | some x => [.box [.srf 1, .srf 2, .srf 3, .d (.v (.int .i64 x.ffuse))], .row 5 1 (x.fsafe.map (eI .u8)), .row 5 1 (x.fnow.map (eI .u8)), .row 70 2 (x.fwait.map eS_disk_write)]) := by
  refine retH_run (n := 19) (fn := Try.f12) (c := bodyOf Try.f12) (by kernel_rfl) (by kernel_rfl) (by kernel_rfl) (by kernel_rfl) ?_
  have hF : KC 19 (FinH Try.prog Try.f12 [] (.tup [(match r.1 with | none => .d (.v (.pointer none)) | some x => .ref 0 0), .d ((eI .i64) r.2)]) (match r.1 with | none => [] | some x => [.box [.srf 1, .srf 2, .srf 3, .d (.v (.int .i64 x.ffuse))], .row 5 1 (x.fsafe.map (eI .u8)), .row 5 1 (x.fnow.map (eI .u8)), .row 70 2 (x.fwait.map eS_disk_write)])) := FinH.kc' (by kernel_rfl)
  unfold G_disk_New_h at h
  by_cases h31 : v_sectors34 < 16
  · rw [if_pos h31] at h
    obtain rfl := Option.some.inj h
    exact pendH_sound TTok mix 10 (hs := [.t true, .c, .c]) [] (by kernel_rfl) (by kernel_rfl) (by kernel_rfl) (.cons (dt h31) .nil)
  · rw [if_neg h31] at h
    by_cases h32 : v_sectors34 > 256
    · rw [if_pos h32] at h
      obtain rfl := Option.some.inj h
      exact pendH_sound TTok mix 10 (hs := [.t false, .c, .t true]) [] (by kernel_rfl) (by kernel_rfl) (by kernel_rfl) (.cons (df h31) (.cons (dt h32) .nil))
    · rw [if_neg h32] at h
      obtain ⟨v_m35, h33, h⟩ := bind_some h
      obtain ⟨v_m36, h34, h⟩ := bind_some h
      obtain rfl := Option.some.inj h
      exact pendH_sound TTok mix 13 (hs := [.t false, .c, .t false, .w (v_m35.map (eI .u8)), .w (v_m36.map (eI .u8)), .dl 1, .tb 80 2 70 2]) [80, 60, 70, 95] (by kernel_rfl) (by kernel_rfl) (by kernel_rfl) (.cons (df h31) (.cons (df h32) (.cons (mkL_ob (f := (eI .u8)) (p := .v (.int .u8 0)) h33 rfl).1 (.cons (mkL_ob (f := (eI .u8)) (p := .v (.int .u8 0)) h33 rfl).2.1 (.cons (mkL_ob (f := (eI .u8)) (p := .v (.int .u8 0)) h33 rfl).2.2.1 (.cons (mkL_ob (f := (eI .u8)) (p := .v (.int .u8 0)) h33 rfl).2.2.2.1 (.cons (mkL_ob (f := (eI .u8)) (p := .v (.int .u8 0)) h33 rfl).2.2.2.2 (.cons (mkL_ob (f := (eI .u8)) (p := .v (.int .u8 0)) h34 rfl).1 (.cons (mkL_ob (f := (eI .u8)) (p := .v (.int .u8 0)) h34 rfl).2.1 (.cons (mkL_ob (f := (eI .u8)) (p := .v (.int .u8 0)) h34 rfl).2.2.1 (.cons (mkL_ob (f := (eI .u8)) (p := .v (.int .u8 0)) h34 rfl).2.2.2.1 (.cons (mkL_ob (f := (eI .u8)) (p := .v (.int .u8 0)) h34 rfl).2.2.2.2 .nil))))))))))))
/- ringhall/ringref3.NewDisk -/
def G_ringref3_NewDisk_h (n : Nat) (v_n38 : Int) : Option (S_ringref3_Disk) :=
  some (S_ringref3_Disk.mk v_n38 0 (-1) ([] : List S_ringref3_Put))
theorem G_ringref3_NewDisk_h_ok (n : Nat) (v_n38 : Int) (r : S_ringref3_Disk) (h : G_ringref3_NewDisk_h n v_n38 = some r) : RetH Try.prog 13 [.d ((eI .i64) v_n38)] [] (.ref 0 0) [.box [.d (.v (.int .i64 r.fSectors)), .d (.v (.int .i64 r.fMark)), .d (.v (.int .i64 r.fFuse)), .srf 1], .cu (rowF 68 2 (r.fAll.map eS_ringref3_Put)) []] := by
  refine retH_run (n := 6) (fn := Try.f13) (c := bodyOf Try.f13) (by kernel_rfl) (by kernel_rfl) (by kernel_rfl) (by kernel_rfl) ?_
  have hF : KC 6 (FinH Try.prog Try.f13 [] (.ref 0 0) [.box [.d (.v (.int .i64 r.fSectors)), .d (.v (.int .i64 r.fMark)), .d (.v (.int .i64 r.fFuse)), .srf 1], .cu (rowF 68 2 (r.fAll.map eS_ringref3_Put)) []]) := FinH.kc' (by kernel_rfl)
  unfold G_ringref3_NewDisk_h at h
  obtain rfl := Option.some.inj h
  exact pendH_sound TTok mix 7 (hs := [.dl 5, .tb 15 3 68 2, .sx [25] (toF 25 68 2 (([] : List S_ringref3_Put).map eS_ringref3_Put))]) [15, 25] (by kernel_rfl) (by kernel_rfl) (by kernel_rfl) (.cons (row_toF (l := 25) (e := 68) (s := 2) (xs := (([] : List S_ringref3_Put).map eS_ringref3_Put))) .nil)
inductive G_slices_IndexFunc_lift_Req_lift_Req_L1_R where
  | x0 (v_x50 : Int)
  | x1 
def G_slices_IndexFunc_lift_Req_lift_Req_L1_ex : G_slices_IndexFunc_lift_Req_lift_Req_L1_R → Ex
  | .x0 _ => .ret
  | .x1  => .exit 0
def G_slices_IndexFunc_lift_Req_lift_Req_L1_st (v_s42 : (List S_lift_Req)) (v_f43 : (S_lift_Req → Option (Bool))) (v_f43_g : FuncId) (v_f43_c : (List PV)) : G_slices_IndexFunc_lift_Req_lift_Req_L1_R → PS
  | .x0 v_x50 => ⟨(dd :: dd :: dd :: dd :: .d (.v (.int .i64 v_x50)) :: (dds 14 [])), []⟩
  | .x1  => ⟨(dds 19 []), []⟩
def G_slices_IndexFunc_lift_Req_lift_Req_L1_hd (v_s42 : (List S_lift_Req)) (v_f43 : (S_lift_Req → Option (Bool))) (v_f43_g : FuncId) (v_f43_c : (List PV)) (v_x44 : Int) : PS := ⟨(.d (.sl (v_s42.map eS_lift_Req)) :: .d (.clo v_f43_g v_f43_c) :: dd :: dd :: dd :: dd :: dd :: .d (.v (.int .i64 (v_s42.length : Int))) :: .d (.v (.int .i64 v_x44)) :: (dds 10 [])), []⟩
def G_slices_IndexFunc_lift_Req_lift_Req_L1 (n : Nat) (v_s42 : (List S_lift_Req)) (v_f43 : (S_lift_Req → Option (Bool))) : Nat → Int → Option G_slices_IndexFunc_lift_Req_lift_Req_L1_R
  | 0, _ => none
  | k + 1, v_x44 =>
    if v_x44 < (v_s42.length : Int) then
     (getI v_s42 v_x44).bind fun (v_y48 : S_lift_Req) =>
     (v_f43 v_y48).bind fun (v_r49 : (Bool)) =>
     if v_r49 = true then
      some (.x0 v_x44)
     else
      G_slices_IndexFunc_lift_Req_lift_Req_L1 n v_s42 v_f43 k (wi .i64 (v_x44 + 1))
    else
     some (.x1 )
theorem G_slices_IndexFunc_lift_Req_lift_Req_L1_ok {Fi : Ex → PS → Prop} (hF : KC 19 Fi) (ks : List Fr) (n : Nat) (v_s42 : (List S_lift_Req)) (v_f43 : (S_lift_Req → Option (Bool))) (v_f43_g : FuncId) (v_f43_c : (List PV)) (v_f43_h : ∀ (x0 : S_lift_Req) (r : Bool), v_f43 x0 = some r → Ret Try.prog v_f43_g ([eS_lift_Req x0] ++ v_f43_c) (eB r)) : ∀ (k : Nat) (v_x44 : Int) (o : G_slices_IndexFunc_lift_Req_lift_Req_L1_R), G_slices_IndexFunc_lift_Req_lift_Req_L1 n v_s42 v_f43 k v_x44 = some o → RunE Try.prog 19 Fi ks (G_slices_IndexFunc_lift_Req_lift_Req_L1_ex o) (G_slices_IndexFunc_lift_Req_lift_Req_L1_st v_s42 v_f43 v_f43_g v_f43_c o) → RunE Try.prog 19 Fi (.l k (cP (cB (cR (cL (cR (bodyOf Try.f24)))))) :: ks) .normal (G_slices_IndexFunc_lift_Req_lift_Req_L1_hd v_s42 v_f43 v_f43_g v_f43_c v_x44)
  | 0, v_x44, o, h, q => by rw [G_slices_IndexFunc_lift_Req_lift_Req_L1] at h; cases h
  | k + 1, v_x44, o, h, q => by
    rw [G_slices_IndexFunc_lift_Req_lift_Req_L1] at h
    by_cases h39 : v_x44 < (v_s42.length : Int)
    · rw [if_pos h39] at h
      obtain ⟨v_y48, h43, h⟩ := bind_some h
      obtain ⟨v_r49, h44, h⟩ := bind_some h
      by_cases h45 : v_r49 = true
      · rw [if_pos h45] at h
        cases h
        exact pkk_sound TTok mix hF 19 (hs := [.t true, .y (eS_lift_Req v_y48), .r (eB v_r49), .t true]) (ts := []) (s := []) (l := [4]) (by kernel_rfl) (by kernel_rfl) (.cons (dt h39) (.cons (getI_ob (f := eS_lift_Req) h43) (.cons (v_f43_h v_y48 _ h44) (.cons h45 .nil)))) q
      · rw [if_neg h45] at h
        exact pkk_sound TTok mix hF 16 (hs := [.t true, .y (eS_lift_Req v_y48), .r (eB v_r49), .t false]) (ts := []) (s := []) (l := [0, 1, 7, 8]) (by kernel_rfl) (by kernel_rfl) (.cons (dt h39) (.cons (getI_ob (f := eS_lift_Req) h43) (.cons (v_f43_h v_y48 _ h44) (.cons (vf h45) .nil)))) (G_slices_IndexFunc_lift_Req_lift_Req_L1_ok hF ks n v_s42 v_f43 v_f43_g v_f43_c v_f43_h k (wi .i64 (v_x44 + 1)) _ h q)
    · rw [if_neg h39] at h
      cases h
      exact pkk_sound TTok mix hF 8 (hs := [.t false]) (ts := []) (s := []) (l := []) (by kernel_rfl) (by kernel_rfl) (.cons (df h39) .nil) q
/- slices.IndexFunc[[]ringhall/lift.Req,ringhall/lift.Req] -/
def G_slices_IndexFunc_lift_Req_lift_Req (n : Nat) (v_s42 : (List S_lift_Req)) (v_f43 : (S_lift_Req → Option (Bool))) : Option (Int) :=
  (G_slices_IndexFunc_lift_Req_lift_Req_L1 n v_s42 v_f43 n 0).bind fun v_o51 => match v_o51 with
  | .x0 v_z52 =>
    some v_z52
  | .x1  =>
    some (-1)
theorem G_slices_IndexFunc_lift_Req_lift_Req_ok (n : Nat) (v_s42 : (List S_lift_Req)) (v_f43 : (S_lift_Req → Option (Bool))) (v_f43_g : FuncId) (v_f43_c : List PV) (v_f43_h : ∀ (x0 : S_lift_Req) (r : Bool), v_f43 x0 = some r → Ret Try.prog v_f43_g ([eS_lift_Req x0] ++ v_f43_c) (eB r)) (r : Int) (h : G_slices_IndexFunc_lift_Req_lift_Req n v_s42 v_f43 = some r) : Ret Try.prog 24 [(eL eS_lift_Req) v_s42, (.clo v_f43_g v_f43_c)] ((eI .i64) r) := by
  refine ret_run (n := 19) (fn := Try.f24) (c := bodyOf Try.f24) (by kernel_rfl) (by kernel_rfl) (by kernel_rfl) (by kernel_rfl) ?_
  have hF : KC 19 (FinR Try.prog Try.f24 ((eI .i64) r)) := FinR.kc' (by kernel_rfl)
  unfold G_slices_IndexFunc_lift_Req_lift_Req at h
  obtain ⟨v_o51, h46, h⟩ := bind_some h
  refine pkk_sound TTok mix hF 7 (hs := [.u (.d (.v (.int .i64 (v_s42.length : Int)))), .n n]) (ts := []) (s := []) (l := [0, 1, 7, 8]) (by kernel_rfl) (by kernel_rfl) (.cons (len_ob (f := eS_lift_Req) (l := v_s42)) .nil) (G_slices_IndexFunc_lift_Req_lift_Req_L1_ok hF (.b 0 :: .s (cR (cR (bodyOf Try.f24))) :: []) n v_s42 v_f43 v_f43_g v_f43_c v_f43_h n 0 _ h46 ?_)
  cases v_o51 with
  | x0 v_z52 =>
    try dsimp only at h
    obtain rfl := Option.some.inj h
    exact pend_sound TTok mix 2 (hs := []) (by kernel_rfl) (by kernel_rfl) (by kernel_rfl) .nil
  | x1  =>
    try dsimp only at h
    obtain rfl := Option.some.inj h
    exact pend_sound TTok mix 4 (hs := []) (by kernel_rfl) (by kernel_rfl) (by kernel_rfl) .nil
/- slices.ContainsFunc[[]ringhall/lift.Req,ringhall/lift.Req] -/
def G_slices_ContainsFunc_lift_Req_lift_Req (n : Nat) (v_s40 : (List S_lift_Req)) (v_f41 : (S_lift_Req → Option (Bool))) : Option (Bool) :=
  (G_slices_IndexFunc_lift_Req_lift_Req n v_s40 v_f41).bind fun (v_r53 : (Int)) =>
  some (decide (v_r53 ≥ 0))
theorem G_slices_ContainsFunc_lift_Req_lift_Req_ok (n : Nat) (v_s40 : (List S_lift_Req)) (v_f41 : (S_lift_Req → Option (Bool))) (v_f41_g : FuncId) (v_f41_c : List PV) (v_f41_h : ∀ (x0 : S_lift_Req) (r : Bool), v_f41 x0 = some r → Ret Try.prog v_f41_g ([eS_lift_Req x0] ++ v_f41_c) (eB r)) (r : Bool) (h : G_slices_ContainsFunc_lift_Req_lift_Req n v_s40 v_f41 = some r) : Ret Try.prog 14 [(eL eS_lift_Req) v_s40, (.clo v_f41_g v_f41_c)] (eB r) := by
  refine ret_run (n := 9) (fn := Try.f14) (c := bodyOf Try.f14) (by kernel_rfl) (by kernel_rfl) (by kernel_rfl) (by kernel_rfl) ?_
  have hF : KC 9 (FinR Try.prog Try.f14 (eB r)) := FinR.kc' (by kernel_rfl)
  unfold G_slices_ContainsFunc_lift_Req_lift_Req at h
  obtain ⟨v_r53, h47, h⟩ := bind_some h
  obtain rfl := Option.some.inj h
  exact pend_sound TTok mix 5 (hs := [.r ((eI .i64) v_r53)]) (by kernel_rfl) (by kernel_rfl) (by kernel_rfl) (.cons (G_slices_IndexFunc_lift_Req_lift_Req_ok n v_s40 v_f41 v_f41_g v_f41_c v_f41_h _ h47) .nil)
/- ringhall/ringlaw3.LiftRuns$1 -/
def G_ringlaw3_LiftRuns_1 (n : Nat) (v_x54 : S_lift_Req) (v_c55 : Int) : Option (Bool) :=
  if v_x54.fBarrier = true then
   some false
  else
   some (decide (v_x54.fSector ≥ v_c55))
theorem G_ringlaw3_LiftRuns_1_ok (n : Nat) (v_x54 : S_lift_Req) (v_c55 : Int) (r : Bool) (h : G_ringlaw3_LiftRuns_1 n v_x54 v_c55 = some r) : Ret Try.prog 15 [eS_lift_Req v_x54, .iptr [.v (.int .i64 v_c55)] 0] (eB r) := by
  refine ret_run (n := 13) (fn := Try.f15) (c := bodyOf Try.f15) (by kernel_rfl) (by kernel_rfl) (by kernel_rfl) (by kernel_rfl) ?_
  have hF : KC 13 (FinR Try.prog Try.f15 (eB r)) := FinR.kc' (by kernel_rfl)
  unfold G_ringlaw3_LiftRuns_1 at h
  by_cases h49 : v_x54.fBarrier = true
  · rw [if_pos h49] at h
    obtain rfl := Option.some.inj h
    exact pend_sound TTok mix 5 (hs := [.c, .t false, .c, .c, .c]) (by kernel_rfl) (by kernel_rfl) (by kernel_rfl) (.cons (bnf h49) .nil)
  · rw [if_neg h49] at h
    obtain rfl := Option.some.inj h
    exact pend_sound TTok mix 5 (hs := [.c, .t true, .c, .c, .c, .c, .c]) (by kernel_rfl) (by kernel_rfl) (by kernel_rfl) (.cons (bnt (vf h49)) .nil)
/- (*ringhall/disk.Disk).Size -/
def G_disk_Disk_Size_h (n : Nat) (v_d65 : S_disk_Disk) : Option (Int × S_disk_Disk) :=
  some ((quoI .i64 (v_d65.fnow.length : Int) 64), v_d65)
theorem G_disk_Disk_Size_h_ok (n : Nat) (v_d65 : S_disk_Disk) (r : Int × S_disk_Disk) (h : G_disk_Disk_Size_h n v_d65 = some r) : RetH Try.prog 29 [.ref 0 0] [.box [.srf 1, .srf 2, .srf 3, .d (.v (.int .i64 v_d65.ffuse))], .row 5 1 (v_d65.fsafe.map (eI .u8)), .row 5 1 (v_d65.fnow.map (eI .u8)), .row 70 2 (v_d65.fwait.map eS_disk_write)] (.d ((eI .i64) r.1)) [.box [.srf 4, .srf 5, .srf 6, .d (.v (.int .i64 r.2.ffuse))], .none, .none, .none, .row 5 1 (r.2.fsafe.map (eI .u8)), .row 5 1 (r.2.fnow.map (eI .u8)), .row 70 2 (r.2.fwait.map eS_disk_write)] := by
  refine retH_run (n := 9) (fn := Try.f29) (c := bodyOf Try.f29) (by kernel_rfl) (by kernel_rfl) (by kernel_rfl) (by kernel_rfl) ?_
  have hF : KC 9 (FinH Try.prog Try.f29 [.box [.srf 1, .srf 2, .srf 3, .d (.v (.int .i64 v_d65.ffuse))], .row 5 1 (v_d65.fsafe.map (eI .u8)), .row 5 1 (v_d65.fnow.map (eI .u8)), .row 70 2 (v_d65.fwait.map eS_disk_write)] (.d ((eI .i64) r.1)) [.box [.srf 4, .srf 5, .srf 6, .d (.v (.int .i64 r.2.ffuse))], .none, .none, .none, .row 5 1 (r.2.fsafe.map (eI .u8)), .row 5 1 (r.2.fnow.map (eI .u8)), .row 70 2 (r.2.fwait.map eS_disk_write)]) := FinH.kc' (by kernel_rfl)
  unfold G_disk_Disk_Size_h at h
  obtain rfl := Option.some.inj h
  exact pendH_sound TTok mix 8 (hs := [.c, .u (.d (.v (.int .i64 (v_d65.fnow.length : Int)))), .dl 1, .mv 1, .mv 2, .mv 3]) [0, 1, 2, 3, 48, 49, 50] (by kernel_rfl) (by kernel_rfl) (by kernel_rfl) (.cons (len_ob (f := (eI .u8)) (l := v_d65.fnow)) (.cons (show (64 : Int) ≠ 0 by decide) .nil))
/- ringhall/lift.Order$1 -/
def G_lift_Order_1 (n : Nat) (v_r287 : S_lift_Req) : Option (Bool) :=
  some v_r287.fBarrier
theorem G_lift_Order_1_ok (n : Nat) (v_r287 : S_lift_Req) (r : Bool) (h : G_lift_Order_1 n v_r287 = some r) : Ret Try.prog 25 [eS_lift_Req v_r287] (eB r) := by
  refine ret_run (n := 5) (fn := Try.f25) (c := bodyOf Try.f25) (by kernel_rfl) (by kernel_rfl) (by kernel_rfl) (by kernel_rfl) ?_
  have hF : KC 5 (FinR Try.prog Try.f25 (eB r)) := FinR.kc' (by kernel_rfl)
  unfold G_lift_Order_1 at h
  obtain rfl := Option.some.inj h
  exact pend_sound TTok mix 5 (hs := [.c]) (by kernel_rfl) (by kernel_rfl) (by kernel_rfl) .nil
/- slices.Clone[[]byte,byte] -/
def G_slices_Clone_byte_byte_A (n : Nat) (v_c315 : Nat) : Option ((List Int)) :=
  some ([] : List Int)
theorem G_slices_Clone_byte_byte_A_ok (n : Nat) (v_c315 : Nat) (r : (List Int)) (h : G_slices_Clone_byte_byte_A n v_c315 = some r) : RetH Try.prog 33 [.d (.v (.slice none 0 v_c315))] [] (.srf 0) [.row 5 1 (r.map (eI .u8))] := by
  refine retH_run (n := 8) (fn := Try.f33) (c := bodyOf Try.f33) (by kernel_rfl) (by kernel_rfl) (by kernel_rfl) (by kernel_rfl) ?_
  have hF : KC 8 (FinH Try.prog Try.f33 [] (.srf 0) [.row 5 1 (r.map (eI .u8))]) := FinH.kc' (by kernel_rfl)
  unfold G_slices_Clone_byte_byte_A at h
  obtain rfl := Option.some.inj h
  exact pendH_sound TTok mix 11 (hs := [.c, .dl 4, .th 2 5 1]) [20] (by kernel_rfl) (by kernel_rfl) (by kernel_rfl) .nil
/- slices.Clone[[]byte,byte] -/
def G_slices_Clone_byte_byte_B (n : Nat) (v_a316 : Addr) (v_c317 : Nat) : Option ((List Int)) :=
  (app 1 ([] : List Int) ([] : (List Int))).bind fun (v_a318 : (List Int)) =>
  some v_a318
theorem G_slices_Clone_byte_byte_B_ok (n : Nat) (v_a316 : Addr) (v_c317 : Nat) (r : (List Int)) (h : G_slices_Clone_byte_byte_B n v_a316 v_c317 = some r) : RetH Try.prog 33 [.d (.v (.slice (some v_a316) 0 v_c317))] [] (.srf 0) [.row 5 1 (r.map (eI .u8))] := by
  refine retH_run (n := 8) (fn := Try.f33) (c := bodyOf Try.f33) (by kernel_rfl) (by kernel_rfl) (by kernel_rfl) (by kernel_rfl) ?_
  have hF : KC 8 (FinH Try.prog Try.f33 [] (.srf 0) [.row 5 1 (r.map (eI .u8))]) := FinH.kc' (by kernel_rfl)
  unfold G_slices_Clone_byte_byte_B at h
  obtain ⟨v_a318, h131, h⟩ := bind_some h
  obtain rfl := Option.some.inj h
  exact pendH_sound TTok mix 10 (hs := [.c, .w (([] : List Int).map (eI .u8)), .w (v_a318.map (eI .u8))]) [25] (by kernel_rfl) (by kernel_rfl) (by kernel_rfl) (.cons (Eq.refl (([] : List Int).map (eI .u8))) (.cons (app_ob (f := (eI .u8)) (s := 1) h131 (fun _ => rfl)).1 (.cons (app_ob (f := (eI .u8)) (s := 1) h131 (fun _ => rfl)).2.1 (.cons (app_ob (f := (eI .u8)) (s := 1) h131 (fun _ => rfl)).2.2.1 (.cons (app_ob (f := (eI .u8)) (s := 1) h131 (fun _ => rfl)).2.2.2 .nil)))))
/- slices.Clone[[]byte,byte] -/
def G_slices_Clone_byte_byte_C (n : Nat) (v_y319 : Int) (v_ys320 : (List Int)) : Option ((List Int)) :=
  (app 1 ([] : List Int) (v_y319 :: v_ys320)).bind fun (v_a321 : (List Int)) =>
  some v_a321
theorem G_slices_Clone_byte_byte_C_ok (n : Nat) (v_y319 : Int) (v_ys320 : (List Int)) (r : (List Int)) (h : G_slices_Clone_byte_byte_C n v_y319 v_ys320 = some r) : RetH Try.prog 33 [.d (.sl ((eI .u8) v_y319 :: v_ys320.map (eI .u8)))] [] (.srf 0) [.row 5 1 (r.map (eI .u8))] := by
  refine retH_run (n := 8) (fn := Try.f33) (c := bodyOf Try.f33) (by kernel_rfl) (by kernel_rfl) (by kernel_rfl) (by kernel_rfl) ?_
  have hF : KC 8 (FinH Try.prog Try.f33 [] (.srf 0) [.row 5 1 (r.map (eI .u8))]) := FinH.kc' (by kernel_rfl)
  unfold G_slices_Clone_byte_byte_C at h
  obtain ⟨v_a321, h132, h⟩ := bind_some h
  obtain rfl := Option.some.inj h
  exact pendH_sound TTok mix 10 (hs := [.c, .w (([] : List Int).map (eI .u8)), .w (v_a321.map (eI .u8))]) [25] (by kernel_rfl) (by kernel_rfl) (by kernel_rfl) (.cons (Eq.refl (([] : List Int).map (eI .u8))) (.cons (app_ob (f := (eI .u8)) (s := 1) h132 (fun _ => rfl)).1 (.cons (app_ob (f := (eI .u8)) (s := 1) h132 (fun _ => rfl)).2.1 (.cons (app_ob (f := (eI .u8)) (s := 1) h132 (fun _ => rfl)).2.2.1 (.cons (app_ob (f := (eI .u8)) (s := 1) h132 (fun _ => rfl)).2.2.2 .nil)))))
def G_slices_Clone_byte_byte (n : Nat) (xs : (List Int)) : Option (List Int) := app 1 [] xs
theorem G_slices_Clone_byte_byte_ok (n : Nat) (xs : (List Int)) (r : (List Int)) (h : G_slices_Clone_byte_byte n xs = some r) : RetH Try.prog 33 [.d (.sl (xs.map (eI .u8)))] [] (.srf 0) [.row 5 1 (r.map (eI .u8))] := by
  unfold G_slices_Clone_byte_byte at h
  have e : app 1 ([] : (List Int)) [] = some [] := by simp [app]
  cases xs with
  | nil =>
    rw [e] at h; obtain rfl := Option.some.inj h
    exact clone_nil (fun c => G_slices_Clone_byte_byte_A_ok n c _ (by unfold G_slices_Clone_byte_byte_A; rfl)) (fun a c => G_slices_Clone_byte_byte_B_ok n a c _ (by unfold G_slices_Clone_byte_byte_B; rw [e]; rfl))
  | cons y ys => exact G_slices_Clone_byte_byte_C_ok n y ys _ (by unfold G_slices_Clone_byte_byte_C; rw [h]; rfl)
theorem G_slices_Clone_byte_byte_okD (n : Nat) (xs : (List Int)) (r : (List Int)) (h : G_slices_Clone_byte_byte n xs = some r) : Ret Try.prog 33 [.sl (xs.map (eI .u8))] (eL (eI .u8) r) := Ret.of_H (args := [.sl (xs.map (eI .u8))]) (G_slices_Clone_byte_byte_ok n xs r h)
/- math/bits.Len64 -/
def G_math_bits_Len64 (n : Nat) (v_x331 : Int) : Option (Int) :=
  if v_x331 ≥ 4294967296 then
   if (shrI .u64 v_x331 32) ≥ 65536 then
    if (shrI .u64 (shrI .u64 v_x331 32) 16) ≥ 256 then
     (getS (ByteArray.mk #[0, 1, 2, 2, 3, 3, 3, 3, 4, 4, 4, 4, 4, 4, 4, 4, 5, 5, 5, 5, 5, 5, 5, 5, 5, 5, 5, 5, 5, 5, 5, 5, 6, 6, 6, 6, 6, 6, 6, 6, 6, 6, 6, 6, 6, 6, 6, 6, 6, 6, 6, 6, 6, 6, 6, 6, 6, 6, 6, 6, 6, 6, 6, 6, 7, 7, 7, 7, 7, 7, 7, 7, 7, 7, 7, 7, 7, 7, 7, 7, 7, 7, 7, 7, 7, 7, 7, 7, 7, 7, 7, 7, 7, 7, 7, 7, 7, 7, 7, 7, 7, 7, 7, 7, 7, 7, 7, 7, 7, 7, 7, 7, 7, 7, 7, 7, 7, 7, 7, 7, 7, 7, 7, 7, 7, 7, 7, 7, 8, 8, 8, 8, 8, 8, 8, 8, 8, 8, 8, 8, 8, 8, 8, 8, 8, 8, 8, 8, 8, 8, 8, 8, 8, 8, 8, 8, 8, 8, 8, 8, 8, 8, 8, 8, 8, 8, 8, 8, 8, 8, 8, 8, 8, 8, 8, 8, 8, 8, 8, 8, 8, 8, 8, 8, 8, 8, 8, 8, 8, 8, 8, 8, 8, 8, 8, 8, 8, 8, 8, 8, 8, 8, 8, 8, 8, 8, 8, 8, 8, 8, 8, 8, 8, 8, 8, 8, 8, 8, 8, 8, 8, 8, 8, 8, 8, 8, 8, 8, 8, 8, 8, 8, 8, 8, 8, 8, 8, 8, 8, 8, 8, 8, 8, 8, 8, 8, 8, 8, 8, 8, 8, 8, 8, 8, 8, 8]) (wi .u8 (shrI .u64 (shrI .u64 (shrI .u64 v_x331 32) 16) 8))).bind fun (v_y332 : Int) =>
     some (wi .i64 ((wi .i64 ((wi .i64 (32 + 16)) + 8)) + (wi .i64 v_y332)))
    else
     (getS (ByteArray.mk #[0, 1, 2, 2, 3, 3, 3, 3, 4, 4, 4, 4, 4, 4, 4, 4, 5, 5, 5, 5, 5, 5, 5, 5, 5, 5, 5, 5, 5, 5, 5, 5, 6, 6, 6, 6, 6, 6, 6, 6, 6, 6, 6, 6, 6, 6, 6, 6, 6, 6, 6, 6, 6, 6, 6, 6, 6, 6, 6, 6, 6, 6, 6, 6, 7, 7, 7, 7, 7, 7, 7, 7, 7, 7, 7, 7, 7, 7, 7, 7, 7, 7, 7, 7, 7, 7, 7, 7, 7, 7, 7, 7, 7, 7, 7, 7, 7, 7, 7, 7, 7, 7, 7, 7, 7, 7, 7, 7, 7, 7, 7, 7, 7, 7, 7, 7, 7, 7, 7, 7, 7, 7, 7, 7, 7, 7, 7, 7, 8, 8, 8, 8, 8, 8, 8, 8, 8, 8, 8, 8, 8, 8, 8, 8, 8, 8, 8, 8, 8, 8, 8, 8, 8, 8, 8, 8, 8, 8, 8, 8, 8, 8, 8, 8, 8, 8, 8, 8, 8, 8, 8, 8, 8, 8, 8, 8, 8, 8, 8, 8, 8, 8, 8, 8, 8, 8, 8, 8, 8, 8, 8, 8, 8, 8, 8, 8, 8, 8, 8, 8, 8, 8, 8, 8, 8, 8, 8, 8, 8, 8, 8, 8, 8, 8, 8, 8, 8, 8, 8, 8, 8, 8, 8, 8, 8, 8, 8, 8, 8, 8, 8, 8, 8, 8, 8, 8, 8, 8, 8, 8, 8, 8, 8, 8, 8, 8, 8, 8, 8, 8, 8, 8, 8, 8, 8, 8]) (wi .u8 (shrI .u64 (shrI .u64 v_x331 32) 16))).bind fun (v_y333 : Int) =>
     some (wi .i64 ((wi .i64 (32 + 16)) + (wi .i64 v_y333)))
   else
    if (shrI .u64 v_x331 32) ≥ 256 then
     (getS (ByteArray.mk #[0, 1, 2, 2, 3, 3, 3, 3, 4, 4, 4, 4, 4, 4, 4, 4, 5, 5, 5, 5, 5, 5, 5, 5, 5, 5, 5, 5, 5, 5, 5, 5, 6, 6, 6, 6, 6, 6, 6, 6, 6, 6, 6, 6, 6, 6, 6, 6, 6, 6, 6, 6, 6, 6, 6, 6, 6, 6, 6, 6, 6, 6, 6, 6, 7, 7, 7, 7, 7, 7, 7, 7, 7, 7, 7, 7, 7, 7, 7, 7, 7, 7, 7, 7, 7, 7, 7, 7, 7, 7, 7, 7, 7, 7, 7, 7, 7, 7, 7, 7, 7, 7, 7, 7, 7, 7, 7, 7, 7, 7, 7, 7, 7, 7, 7, 7, 7, 7, 7, 7, 7, 7, 7, 7, 7, 7, 7, 7, 8, 8, 8, 8, 8, 8, 8, 8, 8, 8, 8, 8, 8, 8, 8, 8, 8, 8, 8, 8, 8, 8, 8, 8, 8, 8, 8, 8, 8, 8, 8, 8, 8, 8, 8, 8, 8, 8, 8, 8, 8, 8, 8, 8, 8, 8, 8, 8, 8, 8, 8, 8, 8, 8, 8, 8, 8, 8, 8, 8, 8, 8, 8, 8, 8, 8, 8, 8, 8, 8, 8, 8, 8, 8, 8, 8, 8, 8, 8, 8, 8, 8, 8, 8, 8, 8, 8, 8, 8, 8, 8, 8, 8, 8, 8, 8, 8, 8, 8, 8, 8, 8, 8, 8, 8, 8, 8, 8, 8, 8, 8, 8, 8, 8, 8, 8, 8, 8, 8, 8, 8, 8, 8, 8, 8, 8, 8, 8]) (wi .u8 (shrI .u64 (shrI .u64 v_x331 32) 8))).bind fun (v_y334 : Int) =>
     some (wi .i64 ((wi .i64 (32 + 8)) + (wi .i64 v_y334)))
    else
     (getS (ByteArray.mk #[0, 1, 2, 2, 3, 3, 3, 3, 4, 4, 4, 4, 4, 4, 4, 4, 5, 5, 5, 5, 5, 5, 5, 5, 5, 5, 5, 5, 5, 5, 5, 5, 6, 6, 6, 6, 6, 6, 6, 6, 6, 6, 6, 6, 6, 6, 6, 6, 6, 6, 6, 6, 6, 6, 6, 6, 6, 6, 6, 6, 6, 6, 6, 6, 7, 7, 7, 7, 7, 7, 7, 7, 7, 7, 7, 7, 7, 7, 7, 7, 7, 7, 7, 7, 7, 7, 7, 7, 7, 7, 7, 7, 7, 7, 7, 7, 7, 7, 7, 7, 7, 7, 7, 7, 7, 7, 7, 7, 7, 7, 7, 7, 7, 7, 7, 7, 7, 7, 7, 7, 7, 7, 7, 7, 7, 7, 7, 7, 8, 8, 8, 8, 8, 8, 8, 8, 8, 8, 8, 8, 8, 8, 8, 8, 8, 8, 8, 8, 8, 8, 8, 8, 8, 8, 8, 8, 8, 8, 8, 8, 8, 8, 8, 8, 8, 8, 8, 8, 8, 8, 8, 8, 8, 8, 8, 8, 8, 8, 8, 8, 8, 8, 8, 8, 8, 8, 8, 8, 8, 8, 8, 8, 8, 8, 8, 8, 8, 8, 8, 8, 8, 8, 8, 8, 8, 8, 8, 8, 8, 8, 8, 8, 8, 8, 8, 8, 8, 8, 8, 8, 8, 8, 8, 8, 8, 8, 8, 8, 8, 8, 8, 8, 8, 8, 8, 8, 8, 8, 8, 8, 8, 8, 8, 8, 8, 8, 8, 8, 8, 8, 8, 8, 8, 8, 8, 8]) (wi .u8 (shrI .u64 v_x331 32))).bind fun (v_y335 : Int) =>
     some (wi .i64 (32 + (wi .i64 v_y335)))
  else
   if v_x331 ≥ 65536 then
    if (shrI .u64 v_x331 16) ≥ 256 then
     (getS (ByteArray.mk #[0, 1, 2, 2, 3, 3, 3, 3, 4, 4, 4, 4, 4, 4, 4, 4, 5, 5, 5, 5, 5, 5, 5, 5, 5, 5, 5, 5, 5, 5, 5, 5, 6, 6, 6, 6, 6, 6, 6, 6, 6, 6, 6, 6, 6, 6, 6, 6, 6, 6, 6, 6, 6, 6, 6, 6, 6, 6, 6, 6, 6, 6, 6, 6, 7, 7, 7, 7, 7, 7, 7, 7, 7, 7, 7, 7, 7, 7, 7, 7, 7, 7, 7, 7, 7, 7, 7, 7, 7, 7, 7, 7, 7, 7, 7, 7, 7, 7, 7, 7, 7, 7, 7, 7, 7, 7, 7, 7, 7, 7, 7, 7, 7, 7, 7, 7, 7, 7, 7, 7, 7, 7, 7, 7, 7, 7, 7, 7, 8, 8, 8, 8, 8, 8, 8, 8, 8, 8, 8, 8, 8, 8, 8, 8, 8, 8, 8, 8, 8, 8, 8, 8, 8, 8, 8, 8, 8, 8, 8, 8, 8, 8, 8, 8, 8, 8, 8, 8, 8, 8, 8, 8, 8, 8, 8, 8, 8, 8, 8, 8, 8, 8, 8, 8, 8, 8, 8, 8, 8, 8, 8, 8, 8, 8, 8, 8, 8, 8, 8, 8, 8, 8, 8, 8, 8, 8, 8, 8, 8, 8, 8, 8, 8, 8, 8, 8, 8, 8, 8, 8, 8, 8, 8, 8, 8, 8, 8, 8, 8, 8, 8, 8, 8, 8, 8, 8, 8, 8, 8, 8, 8, 8, 8, 8, 8, 8, 8, 8, 8, 8, 8, 8, 8, 8, 8, 8]) (wi .u8 (shrI .u64 (shrI .u64 v_x331 16) 8))).bind fun (v_y336 : Int) =>
     some (wi .i64 ((wi .i64 ((wi .i64 (0 + 16)) + 8)) + (wi .i64 v_y336)))
    else
     (getS (ByteArray.mk #[0, 1, 2, 2, 3, 3, 3, 3, 4, 4, 4, 4, 4, 4, 4, 4, 5, 5, 5, 5, 5, 5, 5, 5, 5, 5, 5, 5, 5, 5, 5, 5, 6, 6, 6, 6, 6, 6, 6, 6, 6, 6, 6, 6, 6, 6, 6, 6, 6, 6, 6, 6, 6, 6, 6, 6, 6, 6, 6, 6, 6, 6, 6, 6, 7, 7, 7, 7, 7, 7, 7, 7, 7, 7, 7, 7, 7, 7, 7, 7, 7, 7, 7, 7, 7, 7, 7, 7, 7, 7, 7, 7, 7, 7, 7, 7, 7, 7, 7, 7, 7, 7, 7, 7, 7, 7, 7, 7, 7, 7, 7, 7, 7, 7, 7, 7, 7, 7, 7, 7, 7, 7, 7, 7, 7, 7, 7, 7, 8, 8, 8, 8, 8, 8, 8, 8, 8, 8, 8, 8, 8, 8, 8, 8, 8, 8, 8, 8, 8, 8, 8, 8, 8, 8, 8, 8, 8, 8, 8, 8, 8, 8, 8, 8, 8, 8, 8, 8, 8, 8, 8, 8, 8, 8, 8, 8, 8, 8, 8, 8, 8, 8, 8, 8, 8, 8, 8, 8, 8, 8, 8, 8, 8, 8, 8, 8, 8, 8, 8, 8, 8, 8, 8, 8, 8, 8, 8, 8, 8, 8, 8, 8, 8, 8, 8, 8, 8, 8, 8, 8, 8, 8, 8, 8, 8, 8, 8, 8, 8, 8, 8, 8, 8, 8, 8, 8, 8, 8, 8, 8, 8, 8, 8, 8, 8, 8, 8, 8, 8, 8, 8, 8, 8, 8, 8, 8]) (wi .u8 (shrI .u64 v_x331 16))).bind fun (v_y337 : Int) =>
     some (wi .i64 ((wi .i64 (0 + 16)) + (wi .i64 v_y337)))
   else
    if v_x331 ≥ 256 then
     (getS (ByteArray.mk #[0, 1, 2, 2, 3, 3, 3, 3, 4, 4, 4, 4, 4, 4, 4, 4, 5, 5, 5, 5, 5, 5, 5, 5, 5, 5, 5, 5, 5, 5, 5, 5, 6, 6, 6, 6, 6, 6, 6, 6, 6, 6, 6, 6, 6, 6, 6, 6, 6, 6, 6, 6, 6, 6, 6, 6, 6, 6, 6, 6, 6, 6, 6, 6, 7, 7, 7, 7, 7, 7, 7, 7, 7, 7, 7, 7, 7, 7, 7, 7, 7, 7, 7, 7, 7, 7, 7, 7, 7, 7, 7, 7, 7, 7, 7, 7, 7, 7, 7, 7, 7, 7, 7, 7, 7, 7, 7, 7, 7, 7, 7, 7, 7, 7, 7, 7, 7, 7, 7, 7, 7, 7, 7, 7, 7, 7, 7, 7, 8, 8, 8, 8, 8, 8, 8, 8, 8, 8, 8, 8, 8, 8, 8, 8, 8, 8, 8, 8, 8, 8, 8, 8, 8, 8, 8, 8, 8, 8, 8, 8, 8, 8, 8, 8, 8, 8, 8, 8, 8, 8, 8, 8, 8, 8, 8, 8, 8, 8, 8, 8, 8, 8, 8, 8, 8, 8, 8, 8, 8, 8, 8, 8, 8, 8, 8, 8, 8, 8, 8, 8, 8, 8, 8, 8, 8, 8, 8, 8, 8, 8, 8, 8, 8, 8, 8, 8, 8, 8, 8, 8, 8, 8, 8, 8, 8, 8, 8, 8, 8, 8, 8, 8, 8, 8, 8, 8, 8, 8, 8, 8, 8, 8, 8, 8, 8, 8, 8, 8, 8, 8, 8, 8, 8, 8, 8, 8]) (wi .u8 (shrI .u64 v_x331 8))).bind fun (v_y338 : Int) =>
     some (wi .i64 ((wi .i64 (0 + 8)) + (wi .i64 v_y338)))
    else
     (getS (ByteArray.mk #[0, 1, 2, 2, 3, 3, 3, 3, 4, 4, 4, 4, 4, 4, 4, 4, 5, 5, 5, 5, 5, 5, 5, 5, 5, 5, 5, 5, 5, 5, 5, 5, 6, 6, 6, 6, 6, 6, 6, 6, 6, 6, 6, 6, 6, 6, 6, 6, 6, 6, 6, 6, 6, 6, 6, 6, 6, 6, 6, 6, 6, 6, 6, 6, 7, 7, 7, 7, 7, 7, 7, 7, 7, 7, 7, 7, 7, 7, 7, 7, 7, 7, 7, 7, 7, 7, 7, 7, 7, 7, 7, 7, 7, 7, 7, 7, 7, 7, 7, 7, 7, 7, 7, 7, 7, 7, 7, 7, 7, 7, 7, 7, 7, 7, 7, 7, 7, 7, 7, 7, 7, 7, 7, 7, 7, 7, 7, 7, 8, 8, 8, 8, 8, 8, 8, 8, 8, 8, 8, 8, 8, 8, 8, 8, 8, 8, 8, 8, 8, 8, 8, 8, 8, 8, 8, 8, 8, 8, 8, 8, 8, 8, 8, 8, 8, 8, 8, 8, 8, 8, 8, 8, 8, 8, 8, 8, 8, 8, 8, 8, 8, 8, 8, 8, 8, 8, 8, 8, 8, 8, 8, 8, 8, 8, 8, 8, 8, 8, 8, 8, 8, 8, 8, 8, 8, 8, 8, 8, 8, 8, 8, 8, 8, 8, 8, 8, 8, 8, 8, 8, 8, 8, 8, 8, 8, 8, 8, 8, 8, 8, 8, 8, 8, 8, 8, 8, 8, 8, 8, 8, 8, 8, 8, 8, 8, 8, 8, 8, 8, 8, 8, 8, 8, 8, 8, 8]) (wi .u8 v_x331)).bind fun (v_y339 : Int) =>
     some (wi .i64 (0 + (wi .i64 v_y339)))
theorem G_math_bits_Len64_ok (n : Nat) (v_x331 : Int) (r : Int) (h : G_math_bits_Len64 n v_x331 = some r) : Ret Try.prog 51 [(eI .u64) v_x331] ((eI .i64) r) := by
  refine ret_run (n := 25) (fn := Try.f51) (c := bodyOf Try.f51) (by kernel_rfl) (by kernel_rfl) (by kernel_rfl) (by kernel_rfl) ?_
  have hF : KC 25 (FinR Try.prog Try.f51 ((eI .i64) r)) := FinR.kc' (by kernel_rfl)
  unfold G_math_bits_Len64 at h
  by_cases h140 : v_x331 ≥ 4294967296
  · rw [if_pos h140] at h
    by_cases h144 : (shrI .u64 v_x331 32) ≥ 65536
    · rw [if_pos h144] at h
      by_cases h148 : (shrI .u64 (shrI .u64 v_x331 32) 16) ≥ 256
      · rw [if_pos h148] at h
        obtain ⟨v_y332, h150, h⟩ := bind_some h
        obtain rfl := Option.some.inj h
        exact pend_sound TTok mix 26 (hs := [.t true, .t true, .t true, .l (.d (.v (.int .u8 v_y332)))]) (by kernel_rfl) (by kernel_rfl) (by kernel_rfl) (.cons (dt h140) (.cons (show (0 : Int) ≤ 32 by decide) (.cons (dt h144) (.cons (show (0 : Int) ≤ 16 by decide) (.cons (dt h148) (.cons (show (0 : Int) ≤ 8 by decide) (.cons (getS_ob h150) .nil)))))))
      · rw [if_neg h148] at h
        obtain ⟨v_y333, h151, h⟩ := bind_some h
        obtain rfl := Option.some.inj h
        exact pend_sound TTok mix 24 (hs := [.t true, .t true, .t false, .l (.d (.v (.int .u8 v_y333)))]) (by kernel_rfl) (by kernel_rfl) (by kernel_rfl) (.cons (dt h140) (.cons (show (0 : Int) ≤ 32 by decide) (.cons (dt h144) (.cons (show (0 : Int) ≤ 16 by decide) (.cons (df h148) (.cons (getS_ob h151) .nil))))))
    · rw [if_neg h144] at h
      by_cases h154 : (shrI .u64 v_x331 32) ≥ 256
      · rw [if_pos h154] at h
        obtain ⟨v_y334, h156, h⟩ := bind_some h
        obtain rfl := Option.some.inj h
        exact pend_sound TTok mix 24 (hs := [.t true, .t false, .t true, .l (.d (.v (.int .u8 v_y334)))]) (by kernel_rfl) (by kernel_rfl) (by kernel_rfl) (.cons (dt h140) (.cons (show (0 : Int) ≤ 32 by decide) (.cons (df h144) (.cons (dt h154) (.cons (show (0 : Int) ≤ 8 by decide) (.cons (getS_ob h156) .nil))))))
      · rw [if_neg h154] at h
        obtain ⟨v_y335, h157, h⟩ := bind_some h
        obtain rfl := Option.some.inj h
        exact pend_sound TTok mix 22 (hs := [.t true, .t false, .t false, .l (.d (.v (.int .u8 v_y335)))]) (by kernel_rfl) (by kernel_rfl) (by kernel_rfl) (.cons (dt h140) (.cons (show (0 : Int) ≤ 32 by decide) (.cons (df h144) (.cons (df h154) (.cons (getS_ob h157) .nil)))))
  · rw [if_neg h140] at h
    by_cases h160 : v_x331 ≥ 65536
    · rw [if_pos h160] at h
      by_cases h164 : (shrI .u64 v_x331 16) ≥ 256
      · rw [if_pos h164] at h
        obtain ⟨v_y336, h166, h⟩ := bind_some h
        obtain rfl := Option.some.inj h
        exact pend_sound TTok mix 24 (hs := [.t false, .t true, .t true, .l (.d (.v (.int .u8 v_y336)))]) (by kernel_rfl) (by kernel_rfl) (by kernel_rfl) (.cons (df h140) (.cons (dt h160) (.cons (show (0 : Int) ≤ 16 by decide) (.cons (dt h164) (.cons (show (0 : Int) ≤ 8 by decide) (.cons (getS_ob h166) .nil))))))
      · rw [if_neg h164] at h
        obtain ⟨v_y337, h167, h⟩ := bind_some h
        obtain rfl := Option.some.inj h
        exact pend_sound TTok mix 22 (hs := [.t false, .t true, .t false, .l (.d (.v (.int .u8 v_y337)))]) (by kernel_rfl) (by kernel_rfl) (by kernel_rfl) (.cons (df h140) (.cons (dt h160) (.cons (show (0 : Int) ≤ 16 by decide) (.cons (df h164) (.cons (getS_ob h167) .nil)))))
    · rw [if_neg h160] at h
      by_cases h170 : v_x331 ≥ 256
      · rw [if_pos h170] at h
        obtain ⟨v_y338, h172, h⟩ := bind_some h
        obtain rfl := Option.some.inj h
        exact pend_sound TTok mix 22 (hs := [.t false, .t false, .t true, .l (.d (.v (.int .u8 v_y338)))]) (by kernel_rfl) (by kernel_rfl) (by kernel_rfl) (.cons (df h140) (.cons (df h160) (.cons (dt h170) (.cons (show (0 : Int) ≤ 8 by decide) (.cons (getS_ob h172) .nil)))))
      · rw [if_neg h170] at h
        obtain ⟨v_y339, h173, h⟩ := bind_some h
        obtain rfl := Option.some.inj h
        exact pend_sound TTok mix 20 (hs := [.t false, .t false, .t false, .l (.d (.v (.int .u8 v_y339)))]) (by kernel_rfl) (by kernel_rfl) (by kernel_rfl) (.cons (df h140) (.cons (df h160) (.cons (df h170) (.cons (getS_ob h173) .nil))))
/- math/bits.Len -/
def G_math_bits_Len (n : Nat) (v_x330 : Int) : Option (Int) :=
  (G_math_bits_Len64 n v_x330).bind fun (v_r340 : (Int)) =>
  some v_r340
theorem G_math_bits_Len_ok (n : Nat) (v_x330 : Int) (r : Int) (h : G_math_bits_Len n v_x330 = some r) : Ret Try.prog 40 [(eI .u64) v_x330] ((eI .i64) r) := by
  refine ret_run (n := 8) (fn := Try.f40) (c := bodyOf Try.f40) (by kernel_rfl) (by kernel_rfl) (by kernel_rfl) (by kernel_rfl) ?_
  have hF : KC 8 (FinR Try.prog Try.f40 ((eI .i64) r)) := FinR.kc' (by kernel_rfl)
  unfold G_math_bits_Len at h
  obtain ⟨v_r340, h174, h⟩ := bind_some h
  obtain rfl := Option.some.inj h
  exact pend_sound TTok mix 8 (hs := [.c, .r ((eI .i64) v_r340)]) (by kernel_rfl) (by kernel_rfl) (by kernel_rfl) (.cons (G_math_bits_Len64_ok n v_x330 _ h174) .nil)
inductive G_slices_insertionSortCmpFunc_lift_Req_h_L1_R where
  | x0 (v_w378 : (List S_lift_Req))
def G_slices_insertionSortCmpFunc_lift_Req_h_L1_ex : G_slices_insertionSortCmpFunc_lift_Req_h_L1_R → Ex
  | .x0 _ => .exit 2
def G_slices_insertionSortCmpFunc_lift_Req_h_L1_st (v_a355 : Int) (v_b356 : Int) (v_cmp357 : (S_lift_Req → S_lift_Req → Option (Int))) (v_i358 : Int) (v_cmp357_g : FuncId) (v_cmp357_c : (List PV)) : G_slices_insertionSortCmpFunc_lift_Req_h_L1_R → PS
  | .x0 v_w378 => ⟨(.srf 1 :: .d (.v (.int .i64 v_a355)) :: .d (.v (.int .i64 v_b356)) :: .d (.clo v_cmp357_g v_cmp357_c) :: dd :: dd :: dd :: dd :: .d (.v (.int .i64 v_i358)) :: (dds 44 [])), [.gh 0 (.srf 1), .row 26 3 (v_w378.map eS_lift_Req)]⟩
def G_slices_insertionSortCmpFunc_lift_Req_h_L1_hd (v_a355 : Int) (v_b356 : Int) (v_cmp357 : (S_lift_Req → S_lift_Req → Option (Int))) (v_i358 : Int) (v_cmp357_g : FuncId) (v_cmp357_c : (List PV)) (v_j361 : Int) (v_w362 : (List S_lift_Req)) : PS := ⟨(.srf 1 :: .d (.v (.int .i64 v_a355)) :: .d (.v (.int .i64 v_b356)) :: .d (.clo v_cmp357_g v_cmp357_c) :: dd :: dd :: dd :: dd :: .d (.v (.int .i64 v_i358)) :: .d (.v (.int .i64 v_j361)) :: (dds 43 [])), [.gh 0 (.srf 1), .row 26 3 (v_w362.map eS_lift_Req)]⟩
def G_slices_insertionSortCmpFunc_lift_Req_h_L1 (n : Nat) (v_a355 : Int) (v_b356 : Int) (v_cmp357 : (S_lift_Req → S_lift_Req → Option (Int))) (v_i358 : Int) : Nat → Int → (List S_lift_Req) → Option G_slices_insertionSortCmpFunc_lift_Req_h_L1_R
  | 0, _, _ => none
  | k + 1, v_j361, v_w362 =>
    if v_j361 > v_a355 then
     if 0 ≤ v_j361 ∧ (v_j361).toNat < v_w362.length then
      (v_w362[(v_j361).toNat]?).bind fun (v_y367 : S_lift_Req) =>
      if 0 ≤ (wi .i64 (v_j361 - 1)) ∧ ((wi .i64 (v_j361 - 1))).toNat < v_w362.length then
       (v_w362[((wi .i64 (v_j361 - 1))).toNat]?).bind fun (v_y368 : S_lift_Req) =>
       (v_cmp357 v_y367 v_y368).bind fun (v_r369 : (Int)) =>
       if v_r369 < 0 then
        if 0 ≤ (wi .i64 (v_j361 - 1)) ∧ ((wi .i64 (v_j361 - 1))).toNat < v_w362.length then
         (v_w362[((wi .i64 (v_j361 - 1))).toNat]?).bind fun (v_y374 : S_lift_Req) =>
         if 0 ≤ v_j361 ∧ (v_j361).toNat < v_w362.length then
          (v_w362[(v_j361).toNat]?).bind fun (v_y375 : S_lift_Req) =>
          if 0 ≤ v_j361 ∧ (v_j361).toNat < v_w362.length then
           (v_w362[(v_j361).toNat]?).bind fun (v_y376 : S_lift_Req) =>
           if 0 ≤ (wi .i64 (v_j361 - 1)) ∧ ((wi .i64 (v_j361 - 1))).toNat < (v_w362.set (v_j361).toNat v_y374).length then
            ((v_w362.set (v_j361).toNat v_y374)[((wi .i64 (v_j361 - 1))).toNat]?).bind fun (v_y377 : S_lift_Req) =>
            G_slices_insertionSortCmpFunc_lift_Req_h_L1 n v_a355 v_b356 v_cmp357 v_i358 k (wi .i64 (v_j361 - 1)) ((v_w362.set (v_j361).toNat v_y374).set ((wi .i64 (v_j361 - 1))).toNat v_y375)
           else none
          else none
         else none
        else none
       else
        some (.x0 v_w362)
      else none
     else none
    else
     some (.x0 v_w362)
theorem G_slices_insertionSortCmpFunc_lift_Req_h_L1_ok {Fi : Ex → PS → Prop} (hF : KC 53 Fi) (ks : List Fr) (n : Nat) (v_a355 : Int) (v_b356 : Int) (v_cmp357 : (S_lift_Req → S_lift_Req → Option (Int))) (v_i358 : Int) (v_cmp357_g : FuncId) (v_cmp357_c : (List PV)) (v_cmp357_h : ∀ (x0 : S_lift_Req) (x1 : S_lift_Req) (r : Int), v_cmp357 x0 x1 = some r → Ret Try.prog v_cmp357_g ([eS_lift_Req x0, eS_lift_Req x1] ++ v_cmp357_c) ((eI .i64) r)) : ∀ (k : Nat) (v_j361 : Int) (v_w362 : (List S_lift_Req)) (o : G_slices_insertionSortCmpFunc_lift_Req_h_L1_R), G_slices_insertionSortCmpFunc_lift_Req_h_L1 n v_a355 v_b356 v_cmp357 v_i358 k v_j361 v_w362 = some o → RunE Try.prog 53 Fi ks (G_slices_insertionSortCmpFunc_lift_Req_h_L1_ex o) (G_slices_insertionSortCmpFunc_lift_Req_h_L1_st v_a355 v_b356 v_cmp357 v_i358 v_cmp357_g v_cmp357_c o) → RunE Try.prog 53 Fi (.l k (cP (cB (cR (cB (cL (cR (cP (cB (cR (bodyOf Try.f42)))))))))) :: ks) .normal (G_slices_insertionSortCmpFunc_lift_Req_h_L1_hd v_a355 v_b356 v_cmp357 v_i358 v_cmp357_g v_cmp357_c v_j361 v_w362)
  | 0, v_j361, v_w362, o, h, q => by rw [G_slices_insertionSortCmpFunc_lift_Req_h_L1] at h; cases h
  | k + 1, v_j361, v_w362, o, h, q => by
    rw [G_slices_insertionSortCmpFunc_lift_Req_h_L1] at h
    by_cases h184 : v_j361 > v_a355
    · rw [if_pos h184] at h
      by_cases h185 : 0 ≤ v_j361 ∧ (v_j361).toNat < v_w362.length
      · rw [if_pos h185] at h
        obtain ⟨v_y367, h186, h⟩ := bind_some h
        by_cases h187 : 0 ≤ (wi .i64 (v_j361 - 1)) ∧ ((wi .i64 (v_j361 - 1))).toNat < v_w362.length
        · rw [if_pos h187] at h
          obtain ⟨v_y368, h188, h⟩ := bind_some h
          obtain ⟨v_r369, h189, h⟩ := bind_some h
          by_cases h190 : v_r369 < 0
          · rw [if_pos h190] at h
            by_cases h199 : 0 ≤ (wi .i64 (v_j361 - 1)) ∧ ((wi .i64 (v_j361 - 1))).toNat < v_w362.length
            · rw [if_pos h199] at h
              obtain ⟨v_y374, h200, h⟩ := bind_some h
              by_cases h201 : 0 ≤ v_j361 ∧ (v_j361).toNat < v_w362.length
              · rw [if_pos h201] at h
                obtain ⟨v_y375, h202, h⟩ := bind_some h
                by_cases h203 : 0 ≤ v_j361 ∧ (v_j361).toNat < v_w362.length
                · rw [if_pos h203] at h
                  obtain ⟨v_y376, h204, h⟩ := bind_some h
                  by_cases h205 : 0 ≤ (wi .i64 (v_j361 - 1)) ∧ ((wi .i64 (v_j361 - 1))).toNat < (v_w362.set (v_j361).toNat v_y374).length
                  · rw [if_pos h205] at h
                    obtain ⟨v_y377, h206, h⟩ := bind_some h
                    exact pkk_sound TTok mix hF 11 (hs := [.t true, .c, .c, .c, .c, .y (eS_lift_Req v_y367), .c, .c, .c, .c, .c, .y (eS_lift_Req v_y368), .c, .r ((eI .i64) v_r369), .c, .t true, .y (eS_lift_Req v_y374), .y (eS_lift_Req v_y375), .w ((v_w362.set (v_j361).toNat v_y374).map eS_lift_Req), .y (eS_lift_Req v_y376), .w (((v_w362.set (v_j361).toNat v_y374).set ((wi .i64 (v_j361 - 1))).toNat v_y375).map eS_lift_Req), .y (eS_lift_Req v_y377)]) (ts := []) (s := [0, 1]) (l := [0, 1, 2, 3, 8, 9]) (by kernel_rfl) (by kernel_rfl) (.cons (dt h184) (.cons (idx_ob (f := eS_lift_Req) h185) (.cons (get_ob (f := eS_lift_Req) h186) (.cons (idx_ob (f := eS_lift_Req) h187) (.cons (get_ob (f := eS_lift_Req) h188) (.cons (v_cmp357_h v_y367 v_y368 _ h189) (.cons (dt h190) (.cons (idx_ob (f := eS_lift_Req) h199) (.cons (get_ob (f := eS_lift_Req) h200) (.cons (idx_ob (f := eS_lift_Req) h201) (.cons (get_ob (f := eS_lift_Req) h202) (.cons (idx_ob (f := eS_lift_Req) h203) (.cons (get_ob (f := eS_lift_Req) h204) (.cons (Eq.refl (pcells (.agg [.v (.int .i64 v_y374.fSector), .sl (v_y374.fData.map (eI .u8)), .v (.bool v_y374.fBarrier)]))) (.cons (set_ob (f := eS_lift_Req) (l := v_w362) (k := (v_j361).toNat) (z := v_y374) (p := .agg [.v (.int .i64 v_y374.fSector), .sl (v_y374.fData.map (eI .u8)), .v (.bool v_y374.fBarrier)]) rfl) (.cons (idx_ob (f := eS_lift_Req) h205) (.cons (get_ob (f := eS_lift_Req) h206) (.cons (Eq.refl (pcells (.agg [.v (.int .i64 v_y375.fSector), .sl (v_y375.fData.map (eI .u8)), .v (.bool v_y375.fBarrier)]))) (.cons (set_ob (f := eS_lift_Req) (l := (v_w362.set (v_j361).toNat v_y374)) (k := ((wi .i64 (v_j361 - 1))).toNat) (z := v_y375) (p := .agg [.v (.int .i64 v_y375.fSector), .sl (v_y375.fData.map (eI .u8)), .v (.bool v_y375.fBarrier)]) rfl) .nil))))))))))))))))))) (G_slices_insertionSortCmpFunc_lift_Req_h_L1_ok hF ks n v_a355 v_b356 v_cmp357 v_i358 v_cmp357_g v_cmp357_c v_cmp357_h k (wi .i64 (v_j361 - 1)) ((v_w362.set (v_j361).toNat v_y374).set ((wi .i64 (v_j361 - 1))).toNat v_y375) _ h q)
                  · rw [if_neg h205] at h; cases h
                · rw [if_neg h203] at h; cases h
              · rw [if_neg h201] at h; cases h
            · rw [if_neg h199] at h; cases h
          · rw [if_neg h190] at h
            cases h
            exact pkk_sound TTok mix hF 8 (hs := [.t true, .c, .c, .c, .c, .y (eS_lift_Req v_y367), .c, .c, .c, .c, .c, .y (eS_lift_Req v_y368), .c, .r ((eI .i64) v_r369), .c, .t false]) (ts := []) (s := [0, 1]) (l := [0, 1, 2, 3, 8]) (by kernel_rfl) (by kernel_rfl) (.cons (dt h184) (.cons (idx_ob (f := eS_lift_Req) h185) (.cons (get_ob (f := eS_lift_Req) h186) (.cons (idx_ob (f := eS_lift_Req) h187) (.cons (get_ob (f := eS_lift_Req) h188) (.cons (v_cmp357_h v_y367 v_y368 _ h189) (.cons (df h190) .nil))))))) q
        · rw [if_neg h187] at h; cases h
      · rw [if_neg h185] at h; cases h
    · rw [if_neg h184] at h
      cases h
      exact pkk_sound TTok mix hF 8 (hs := [.t false, .c, .c, .c, .c, .c, .c, .c, .c, .c, .c, .c, .c]) (ts := []) (s := [0, 1]) (l := [0, 1, 2, 3, 8]) (by kernel_rfl) (by kernel_rfl) (.cons (df h184) .nil) q
inductive G_slices_insertionSortCmpFunc_lift_Req_h_L2_R where
  | x0 (v_w382 : (List S_lift_Req))
def G_slices_insertionSortCmpFunc_lift_Req_h_L2_ex : G_slices_insertionSortCmpFunc_lift_Req_h_L2_R → Ex
  | .x0 _ => .exit 0
def G_slices_insertionSortCmpFunc_lift_Req_h_L2_st (v_a355 : Int) (v_b356 : Int) (v_cmp357 : (S_lift_Req → S_lift_Req → Option (Int))) (v_cmp357_g : FuncId) (v_cmp357_c : (List PV)) : G_slices_insertionSortCmpFunc_lift_Req_h_L2_R → PS
  | .x0 v_w382 => ⟨(dds 53 []), [.gh 0 (.srf 1), .row 26 3 (v_w382.map eS_lift_Req)]⟩
def G_slices_insertionSortCmpFunc_lift_Req_h_L2_hd (v_a355 : Int) (v_b356 : Int) (v_cmp357 : (S_lift_Req → S_lift_Req → Option (Int))) (v_cmp357_g : FuncId) (v_cmp357_c : (List PV)) (v_i358 : Int) (v_w359 : (List S_lift_Req)) : PS := ⟨(.srf 1 :: .d (.v (.int .i64 v_a355)) :: .d (.v (.int .i64 v_b356)) :: .d (.clo v_cmp357_g v_cmp357_c) :: dd :: dd :: dd :: dd :: .d (.v (.int .i64 v_i358)) :: (dds 44 [])), [.gh 0 (.srf 1), .row 26 3 (v_w359.map eS_lift_Req)]⟩
def G_slices_insertionSortCmpFunc_lift_Req_h_L2 (n : Nat) (v_a355 : Int) (v_b356 : Int) (v_cmp357 : (S_lift_Req → S_lift_Req → Option (Int))) : Nat → Int → (List S_lift_Req) → Option G_slices_insertionSortCmpFunc_lift_Req_h_L2_R
  | 0, _, _ => none
  | k + 1, v_i358, v_w359 =>
    if v_i358 < v_b356 then
     (G_slices_insertionSortCmpFunc_lift_Req_h_L1 n v_a355 v_b356 v_cmp357 v_i358 n v_i358 v_w359).bind fun v_o380 => match v_o380 with
     | .x0 v_z381 =>
       G_slices_insertionSortCmpFunc_lift_Req_h_L2 n v_a355 v_b356 v_cmp357 k (wi .i64 (v_i358 + 1)) v_z381
    else
     some (.x0 v_w359)
theorem G_slices_insertionSortCmpFunc_lift_Req_h_L2_ok {Fi : Ex → PS → Prop} (hF : KC 53 Fi) (ks : List Fr) (n : Nat) (v_a355 : Int) (v_b356 : Int) (v_cmp357 : (S_lift_Req → S_lift_Req → Option (Int))) (v_cmp357_g : FuncId) (v_cmp357_c : (List PV)) (v_cmp357_h : ∀ (x0 : S_lift_Req) (x1 : S_lift_Req) (r : Int), v_cmp357 x0 x1 = some r → Ret Try.prog v_cmp357_g ([eS_lift_Req x0, eS_lift_Req x1] ++ v_cmp357_c) ((eI .i64) r)) : ∀ (k : Nat) (v_i358 : Int) (v_w359 : (List S_lift_Req)) (o : G_slices_insertionSortCmpFunc_lift_Req_h_L2_R), G_slices_insertionSortCmpFunc_lift_Req_h_L2 n v_a355 v_b356 v_cmp357 k v_i358 v_w359 = some o → RunE Try.prog 53 Fi ks (G_slices_insertionSortCmpFunc_lift_Req_h_L2_ex o) (G_slices_insertionSortCmpFunc_lift_Req_h_L2_st v_a355 v_b356 v_cmp357 v_cmp357_g v_cmp357_c o) → RunE Try.prog 53 Fi (.l k (cP (cB (cR (bodyOf Try.f42)))) :: ks) .normal (G_slices_insertionSortCmpFunc_lift_Req_h_L2_hd v_a355 v_b356 v_cmp357 v_cmp357_g v_cmp357_c v_i358 v_w359)
  | 0, v_i358, v_w359, o, h, q => by rw [G_slices_insertionSortCmpFunc_lift_Req_h_L2] at h; cases h
  | k + 1, v_i358, v_w359, o, h, q => by
    rw [G_slices_insertionSortCmpFunc_lift_Req_h_L2] at h
    by_cases h177 : v_i358 < v_b356
    · rw [if_pos h177] at h
      obtain ⟨v_o380, h207, h⟩ := bind_some h
      refine pkk_sound TTok mix hF 12 (hs := [.t true, .n n]) (ts := []) (s := [0, 1]) (l := [0, 1, 2, 3, 8, 9]) (by kernel_rfl) (by kernel_rfl) (.cons (dt h177) .nil) (G_slices_insertionSortCmpFunc_lift_Req_h_L1_ok hF (.b 2 :: .b 1 :: .s (cR (cR (cP (cB (cR (bodyOf Try.f42)))))) :: .l k (cP (cB (cR (bodyOf Try.f42)))) :: ks) n v_a355 v_b356 v_cmp357 v_i358 v_cmp357_g v_cmp357_c v_cmp357_h n v_i358 v_w359 _ h207 ?_)
      cases v_o380 with
      | x0 v_z381 =>
        try dsimp only at h
        exact pkk_sound TTok mix hF 3 (hs := []) (ts := []) (s := [0, 1]) (l := [0, 1, 2, 3, 8]) (by kernel_rfl) (by kernel_rfl) .nil (G_slices_insertionSortCmpFunc_lift_Req_h_L2_ok hF ks n v_a355 v_b356 v_cmp357 v_cmp357_g v_cmp357_c v_cmp357_h k (wi .i64 (v_i358 + 1)) v_z381 _ h q)
    · rw [if_neg h177] at h
      cases h
      exact pkk_sound TTok mix hF 8 (hs := [.t false]) (ts := []) (s := [0, 1]) (l := []) (by kernel_rfl) (by kernel_rfl) (.cons (df h177) .nil) q
/- slices.insertionSortCmpFunc[ringhall/lift.Req] -/
def G_slices_insertionSortCmpFunc_lift_Req_h (n : Nat) (v_data354 : (List S_lift_Req)) (v_a355 : Int) (v_b356 : Int) (v_cmp357 : (S_lift_Req → S_lift_Req → Option (Int))) : Option ((List S_lift_Req)) :=
  (G_slices_insertionSortCmpFunc_lift_Req_h_L2 n v_a355 v_b356 v_cmp357 n (wi .i64 (v_a355 + 1)) v_data354).bind fun v_o383 => match v_o383 with
  | .x0 v_z384 =>
    some v_z384
theorem G_slices_insertionSortCmpFunc_lift_Req_h_ok (n : Nat) (v_data354 : (List S_lift_Req)) (v_a355 : Int) (v_b356 : Int) (v_cmp357 : (S_lift_Req → S_lift_Req → Option (Int))) (v_cmp357_g : FuncId) (v_cmp357_c : List PV) (v_cmp357_h : ∀ (x0 : S_lift_Req) (x1 : S_lift_Req) (r : Int), v_cmp357 x0 x1 = some r → Ret Try.prog v_cmp357_g ([eS_lift_Req x0, eS_lift_Req x1] ++ v_cmp357_c) ((eI .i64) r)) (r : (List S_lift_Req)) (h : G_slices_insertionSortCmpFunc_lift_Req_h n v_data354 v_a355 v_b356 v_cmp357 = some r) : RetH Try.prog 42 [.srf 0, .d ((eI .i64) v_a355), .d ((eI .i64) v_b356), .d ((.clo v_cmp357_g v_cmp357_c))] [.row 26 3 (v_data354.map eS_lift_Req)] (.tup []) [.row 26 3 (r.map eS_lift_Req)] := by
  refine retH_run (n := 53) (fn := Try.f42) (c := bodyOf Try.f42) (by kernel_rfl) (by kernel_rfl) (by kernel_rfl) (by kernel_rfl) ?_
  have hF : KC 53 (FinH Try.prog Try.f42 [.row 26 3 (v_data354.map eS_lift_Req)] (.tup []) [.row 26 3 (r.map eS_lift_Req)]) := FinH.kc' (by kernel_rfl)
  unfold G_slices_insertionSortCmpFunc_lift_Req_h at h
  obtain ⟨v_o383, h208, h⟩ := bind_some h
  refine pkk_sound TTok mix hF 4 (hs := [.n n]) (ts := []) (s := [1, 0]) (l := [0, 1, 2, 3, 8]) (by kernel_rfl) (by kernel_rfl) .nil (G_slices_insertionSortCmpFunc_lift_Req_h_L2_ok hF (.b 0 :: []) n v_a355 v_b356 v_cmp357 v_cmp357_g v_cmp357_c v_cmp357_h n (wi .i64 (v_a355 + 1)) v_data354 _ h208 ?_)
  cases v_o383 with
  | x0 v_z384 =>
    try dsimp only at h
    obtain rfl := Option.some.inj h
    exact pendH_sound TTok mix 1 (hs := []) [1] (by kernel_rfl) (by kernel_rfl) (by kernel_rfl) .nil
inductive G_slices_siftDownCmpFunc_lift_Req_h_C1_R where
  | x0 (v_x439 : Bool) (v_w440 : (List S_lift_Req))
def G_slices_siftDownCmpFunc_lift_Req_h_C1_ex : G_slices_siftDownCmpFunc_lift_Req_h_C1_R → Ex
  | .x0 _ _ => .normal
def G_slices_siftDownCmpFunc_lift_Req_h_C1_st (v_hi396 : Int) (v_first397 : Int) (v_cmp398 : (S_lift_Req → S_lift_Req → Option (Int))) (v_root399 : Int) (v_w400 : (List S_lift_Req)) (v_cmp398_g : FuncId) (v_cmp398_c : (List PV)) : G_slices_siftDownCmpFunc_lift_Req_h_C1_R → PS
  | .x0 v_x439 v_w440 => ⟨(.srf 1 :: dd :: .d (.v (.int .i64 v_hi396)) :: .d (.v (.int .i64 v_first397)) :: .d (.clo v_cmp398_g v_cmp398_c) :: dd :: dd :: dd :: dd :: dd :: .d (.v (.int .i64 v_root399)) :: .d (.v (.int .i64 (wi .i64 ((wi .i64 (2 * v_root399)) + 1)))) :: (dds 28 (.d (.v (.bool v_x439)) :: (dds 41 [])))), [.gh 0 (.srf 1), .row 26 3 (v_w440.map eS_lift_Req)]⟩
def G_slices_siftDownCmpFunc_lift_Req_h_C1_hd (v_hi396 : Int) (v_first397 : Int) (v_cmp398 : (S_lift_Req → S_lift_Req → Option (Int))) (v_root399 : Int) (v_w400 : (List S_lift_Req)) (v_cmp398_g : FuncId) (v_cmp398_c : (List PV))  : PS := ⟨(.srf 1 :: dd :: .d (.v (.int .i64 v_hi396)) :: .d (.v (.int .i64 v_first397)) :: .d (.clo v_cmp398_g v_cmp398_c) :: dd :: dd :: dd :: dd :: dd :: .d (.v (.int .i64 v_root399)) :: .d (.v (.int .i64 (wi .i64 ((wi .i64 (2 * v_root399)) + 1)))) :: (dds 70 [])), [.gh 0 (.srf 1), .row 26 3 (v_w400.map eS_lift_Req)]⟩
def G_slices_siftDownCmpFunc_lift_Req_h_C1 (n : Nat) (v_hi396 : Int) (v_first397 : Int) (v_cmp398 : (S_lift_Req → S_lift_Req → Option (Int))) (v_root399 : Int) (v_w400 : (List S_lift_Req)) : Option G_slices_siftDownCmpFunc_lift_Req_h_C1_R :=
  if (wi .i64 ((wi .i64 ((wi .i64 (2 * v_root399)) + 1)) + 1)) < v_hi396 then
   if 0 ≤ (wi .i64 (v_first397 + (wi .i64 ((wi .i64 (2 * v_root399)) + 1)))) ∧ ((wi .i64 (v_first397 + (wi .i64 ((wi .i64 (2 * v_root399)) + 1))))).toNat < v_w400.length then
    (v_w400[((wi .i64 (v_first397 + (wi .i64 ((wi .i64 (2 * v_root399)) + 1))))).toNat]?).bind fun (v_y436 : S_lift_Req) =>
    if 0 ≤ (wi .i64 ((wi .i64 (v_first397 + (wi .i64 ((wi .i64 (2 * v_root399)) + 1)))) + 1)) ∧ ((wi .i64 ((wi .i64 (v_first397 + (wi .i64 ((wi .i64 (2 * v_root399)) + 1)))) + 1))).toNat < v_w400.length then
     (v_w400[((wi .i64 ((wi .i64 (v_first397 + (wi .i64 ((wi .i64 (2 * v_root399)) + 1)))) + 1))).toNat]?).bind fun (v_y437 : S_lift_Req) =>
     (v_cmp398 v_y436 v_y437).bind fun (v_r438 : (Int)) =>
     some (.x0 (decide (v_r438 < 0)) v_w400)
    else none
   else none
  else
   some (.x0 false v_w400)
theorem G_slices_siftDownCmpFunc_lift_Req_h_C1_ok {Fi : Ex → PS → Prop} (hF : KC 82 Fi) (ks : List Fr) (n : Nat) (v_hi396 : Int) (v_first397 : Int) (v_cmp398 : (S_lift_Req → S_lift_Req → Option (Int))) (v_root399 : Int) (v_w400 : (List S_lift_Req)) (v_cmp398_g : FuncId) (v_cmp398_c : (List PV)) (v_cmp398_h : ∀ (x0 : S_lift_Req) (x1 : S_lift_Req) (r : Int), v_cmp398 x0 x1 = some r → Ret Try.prog v_cmp398_g ([eS_lift_Req x0, eS_lift_Req x1] ++ v_cmp398_c) ((eI .i64) r)) (o : G_slices_siftDownCmpFunc_lift_Req_h_C1_R) (h : G_slices_siftDownCmpFunc_lift_Req_h_C1 n v_hi396 v_first397 v_cmp398 v_root399 v_w400 = some o) (q : RunE Try.prog 82 Fi ks (G_slices_siftDownCmpFunc_lift_Req_h_C1_ex o) (G_slices_siftDownCmpFunc_lift_Req_h_C1_st v_hi396 v_first397 v_cmp398 v_root399 v_w400 v_cmp398_g v_cmp398_c o)) : RunE Try.prog 82 Fi (.s (cL (cL (cR (cR (cB (cP (cB (cR (bodyOf Try.f58))))))))) :: ks) .normal (G_slices_siftDownCmpFunc_lift_Req_h_C1_hd v_hi396 v_first397 v_cmp398 v_root399 v_w400 v_cmp398_g v_cmp398_c) := by
  unfold G_slices_siftDownCmpFunc_lift_Req_h_C1 at h
  by_cases h253 : (wi .i64 ((wi .i64 ((wi .i64 (2 * v_root399)) + 1)) + 1)) < v_hi396
  · rw [if_pos h253] at h
    by_cases h254 : 0 ≤ (wi .i64 (v_first397 + (wi .i64 ((wi .i64 (2 * v_root399)) + 1)))) ∧ ((wi .i64 (v_first397 + (wi .i64 ((wi .i64 (2 * v_root399)) + 1))))).toNat < v_w400.length
    · rw [if_pos h254] at h
      obtain ⟨v_y436, h255, h⟩ := bind_some h
      by_cases h256 : 0 ≤ (wi .i64 ((wi .i64 (v_first397 + (wi .i64 ((wi .i64 (2 * v_root399)) + 1)))) + 1)) ∧ ((wi .i64 ((wi .i64 (v_first397 + (wi .i64 ((wi .i64 (2 * v_root399)) + 1)))) + 1))).toNat < v_w400.length
      · rw [if_pos h256] at h
        obtain ⟨v_y437, h257, h⟩ := bind_some h
        obtain ⟨v_r438, h258, h⟩ := bind_some h
        cases h
        exact pkk_sound TTok mix hF 1 (hs := [.t true, .c, .c, .c, .c, .c, .c, .y (eS_lift_Req v_y436), .c, .c, .c, .c, .c, .c, .c, .y (eS_lift_Req v_y437), .c, .r ((eI .i64) v_r438), .c]) (ts := []) (s := [0, 1]) (l := [0, 2, 3, 4, 10, 11, 40]) (by kernel_rfl) (by kernel_rfl) (.cons (dt h253) (.cons (idx_ob (f := eS_lift_Req) h254) (.cons (get_ob (f := eS_lift_Req) h255) (.cons (idx_ob (f := eS_lift_Req) h256) (.cons (get_ob (f := eS_lift_Req) h257) (.cons (v_cmp398_h v_y436 v_y437 _ h258) .nil)))))) q
      · rw [if_neg h256] at h; cases h
    · rw [if_neg h254] at h; cases h
  · rw [if_neg h253] at h
    cases h
    exact pkk_sound TTok mix hF 1 (hs := [.t false, .c, .c, .c, .c, .c, .c, .c, .c, .c, .c, .c, .c, .c, .c, .c]) (ts := []) (s := [0, 1]) (l := [0, 2, 3, 4, 10, 11, 40]) (by kernel_rfl) (by kernel_rfl) (.cons (df h253) .nil) q
inductive G_slices_siftDownCmpFunc_lift_Req_h_C2_R where
  | x0 (v_child447 : Int) (v_w448 : (List S_lift_Req))
def G_slices_siftDownCmpFunc_lift_Req_h_C2_ex : G_slices_siftDownCmpFunc_lift_Req_h_C2_R → Ex
  | .x0 _ _ => .normal
def G_slices_siftDownCmpFunc_lift_Req_h_C2_st (v_hi396 : Int) (v_first397 : Int) (v_cmp398 : (S_lift_Req → S_lift_Req → Option (Int))) (v_root399 : Int) (v_z444 : Bool) (v_z445 : (List S_lift_Req)) (v_cmp398_g : FuncId) (v_cmp398_c : (List PV)) : G_slices_siftDownCmpFunc_lift_Req_h_C2_R → PS
  | .x0 v_child447 v_w448 => ⟨(.srf 1 :: dd :: .d (.v (.int .i64 v_hi396)) :: .d (.v (.int .i64 v_first397)) :: .d (.clo v_cmp398_g v_cmp398_c) :: dd :: dd :: dd :: dd :: dd :: .d (.v (.int .i64 v_root399)) :: .d (.v (.int .i64 v_child447)) :: (dds 70 [])), [.gh 0 (.srf 1), .row 26 3 (v_w448.map eS_lift_Req)]⟩
def G_slices_siftDownCmpFunc_lift_Req_h_C2_hd (v_hi396 : Int) (v_first397 : Int) (v_cmp398 : (S_lift_Req → S_lift_Req → Option (Int))) (v_root399 : Int) (v_z444 : Bool) (v_z445 : (List S_lift_Req)) (v_cmp398_g : FuncId) (v_cmp398_c : (List PV))  : PS := ⟨(.srf 1 :: dd :: .d (.v (.int .i64 v_hi396)) :: .d (.v (.int .i64 v_first397)) :: .d (.clo v_cmp398_g v_cmp398_c) :: dd :: dd :: dd :: dd :: dd :: .d (.v (.int .i64 v_root399)) :: .d (.v (.int .i64 (wi .i64 ((wi .i64 (2 * v_root399)) + 1)))) :: (dds 28 (.d (.v (.bool v_z444)) :: (dds 41 [])))), [.gh 0 (.srf 1), .row 26 3 (v_z445.map eS_lift_Req)]⟩
def G_slices_siftDownCmpFunc_lift_Req_h_C2 (n : Nat) (v_hi396 : Int) (v_first397 : Int) (v_cmp398 : (S_lift_Req → S_lift_Req → Option (Int))) (v_root399 : Int) (v_z444 : Bool) (v_z445 : (List S_lift_Req)) : Option G_slices_siftDownCmpFunc_lift_Req_h_C2_R :=
  if v_z444 = true then
   some (.x0 (wi .i64 ((wi .i64 ((wi .i64 (2 * v_root399)) + 1)) + 1)) v_z445)
  else
   some (.x0 (wi .i64 ((wi .i64 (2 * v_root399)) + 1)) v_z445)
theorem G_slices_siftDownCmpFunc_lift_Req_h_C2_ok {Fi : Ex → PS → Prop} (hF : KC 82 Fi) (ks : List Fr) (n : Nat) (v_hi396 : Int) (v_first397 : Int) (v_cmp398 : (S_lift_Req → S_lift_Req → Option (Int))) (v_root399 : Int) (v_z444 : Bool) (v_z445 : (List S_lift_Req)) (v_cmp398_g : FuncId) (v_cmp398_c : (List PV)) (v_cmp398_h : ∀ (x0 : S_lift_Req) (x1 : S_lift_Req) (r : Int), v_cmp398 x0 x1 = some r → Ret Try.prog v_cmp398_g ([eS_lift_Req x0, eS_lift_Req x1] ++ v_cmp398_c) ((eI .i64) r)) (o : G_slices_siftDownCmpFunc_lift_Req_h_C2_R) (h : G_slices_siftDownCmpFunc_lift_Req_h_C2 n v_hi396 v_first397 v_cmp398 v_root399 v_z444 v_z445 = some o) (q : RunE Try.prog 82 Fi ks (G_slices_siftDownCmpFunc_lift_Req_h_C2_ex o) (G_slices_siftDownCmpFunc_lift_Req_h_C2_st v_hi396 v_first397 v_cmp398 v_root399 v_z444 v_z445 v_cmp398_g v_cmp398_c o)) : RunE Try.prog 82 Fi (.s (cR (cL (cR (cR (cB (cP (cB (cR (bodyOf Try.f58))))))))) :: ks) .normal (G_slices_siftDownCmpFunc_lift_Req_h_C2_hd v_hi396 v_first397 v_cmp398 v_root399 v_z444 v_z445 v_cmp398_g v_cmp398_c) := by
  unfold G_slices_siftDownCmpFunc_lift_Req_h_C2 at h
  by_cases h261 : v_z444 = true
  · rw [if_pos h261] at h
    cases h
    exact pkk_sound TTok mix hF 2 (hs := [.t true]) (ts := []) (s := [0, 1]) (l := [0, 2, 3, 4, 10, 11]) (by kernel_rfl) (by kernel_rfl) (.cons h261 .nil) q
  · rw [if_neg h261] at h
    cases h
    exact pkk_sound TTok mix hF 2 (hs := [.t false]) (ts := []) (s := [0, 1]) (l := [0, 2, 3, 4, 10, 11]) (by kernel_rfl) (by kernel_rfl) (.cons (vf h261) .nil) q
inductive G_slices_siftDownCmpFunc_lift_Req_h_L3_R where
  | x0 (v_w431 : (List S_lift_Req))
  | x1 (v_w457 : (List S_lift_Req))
def G_slices_siftDownCmpFunc_lift_Req_h_L3_ex : G_slices_siftDownCmpFunc_lift_Req_h_L3_R → Ex
  | .x0 _ => .exit 0
  | .x1 _ => .ret
def G_slices_siftDownCmpFunc_lift_Req_h_L3_st (v_hi396 : Int) (v_first397 : Int) (v_cmp398 : (S_lift_Req → S_lift_Req → Option (Int))) (v_cmp398_g : FuncId) (v_cmp398_c : (List PV)) : G_slices_siftDownCmpFunc_lift_Req_h_L3_R → PS
  | .x0 v_w431 => ⟨(dds 82 []), [.gh 0 (.srf 1), .row 26 3 (v_w431.map eS_lift_Req)]⟩
  | .x1 v_w457 => ⟨(dds 82 []), [.gh 0 (.srf 1), .row 26 3 (v_w457.map eS_lift_Req)]⟩
def G_slices_siftDownCmpFunc_lift_Req_h_L3_hd (v_hi396 : Int) (v_first397 : Int) (v_cmp398 : (S_lift_Req → S_lift_Req → Option (Int))) (v_cmp398_g : FuncId) (v_cmp398_c : (List PV)) (v_root399 : Int) (v_w400 : (List S_lift_Req)) : PS := ⟨(.srf 1 :: dd :: .d (.v (.int .i64 v_hi396)) :: .d (.v (.int .i64 v_first397)) :: .d (.clo v_cmp398_g v_cmp398_c) :: dd :: dd :: dd :: dd :: dd :: .d (.v (.int .i64 v_root399)) :: (dds 71 [])), [.gh 0 (.srf 1), .row 26 3 (v_w400.map eS_lift_Req)]⟩
def G_slices_siftDownCmpFunc_lift_Req_h_L3 (n : Nat) (v_hi396 : Int) (v_first397 : Int) (v_cmp398 : (S_lift_Req → S_lift_Req → Option (Int))) : Nat → Int → (List S_lift_Req) → Option G_slices_siftDownCmpFunc_lift_Req_h_L3_R
  | 0, _, _ => none
  | k + 1, v_root399, v_w400 =>
    if (wi .i64 ((wi .i64 (2 * v_root399)) + 1)) ≥ v_hi396 then
     some (.x0 v_w400)
    else
     (G_slices_siftDownCmpFunc_lift_Req_h_C1 n v_hi396 v_first397 v_cmp398 v_root399 v_w400).bind fun v_o443 => match v_o443 with
     | .x0 v_z444 v_z445 =>
       (G_slices_siftDownCmpFunc_lift_Req_h_C2 n v_hi396 v_first397 v_cmp398 v_root399 v_z444 v_z445).bind fun v_o451 => match v_o451 with
       | .x0 v_z452 v_z453 =>
         if 0 ≤ (wi .i64 (v_first397 + v_root399)) ∧ ((wi .i64 (v_first397 + v_root399))).toNat < v_z453.length then
          (v_z453[((wi .i64 (v_first397 + v_root399))).toNat]?).bind fun (v_y454 : S_lift_Req) =>
          if 0 ≤ (wi .i64 (v_first397 + v_z452)) ∧ ((wi .i64 (v_first397 + v_z452))).toNat < v_z453.length then
           (v_z453[((wi .i64 (v_first397 + v_z452))).toNat]?).bind fun (v_y455 : S_lift_Req) =>
           (v_cmp398 v_y454 v_y455).bind fun (v_r456 : (Int)) =>
           if v_r456 < 0 then
            if 0 ≤ (wi .i64 (v_first397 + v_z452)) ∧ ((wi .i64 (v_first397 + v_z452))).toNat < v_z453.length then
             (v_z453[((wi .i64 (v_first397 + v_z452))).toNat]?).bind fun (v_y458 : S_lift_Req) =>
             if 0 ≤ (wi .i64 (v_first397 + v_root399)) ∧ ((wi .i64 (v_first397 + v_root399))).toNat < v_z453.length then
              (v_z453[((wi .i64 (v_first397 + v_root399))).toNat]?).bind fun (v_y459 : S_lift_Req) =>
              if 0 ≤ (wi .i64 (v_first397 + v_root399)) ∧ ((wi .i64 (v_first397 + v_root399))).toNat < v_z453.length then
               (v_z453[((wi .i64 (v_first397 + v_root399))).toNat]?).bind fun (v_y460 : S_lift_Req) =>
               if 0 ≤ (wi .i64 (v_first397 + v_z452)) ∧ ((wi .i64 (v_first397 + v_z452))).toNat < (v_z453.set ((wi .i64 (v_first397 + v_root399))).toNat v_y458).length then
                ((v_z453.set ((wi .i64 (v_first397 + v_root399))).toNat v_y458)[((wi .i64 (v_first397 + v_z452))).toNat]?).bind fun (v_y461 : S_lift_Req) =>
                G_slices_siftDownCmpFunc_lift_Req_h_L3 n v_hi396 v_first397 v_cmp398 k v_z452 ((v_z453.set ((wi .i64 (v_first397 + v_root399))).toNat v_y458).set ((wi .i64 (v_first397 + v_z452))).toNat v_y459)
               else none
              else none
             else none
            else none
           else
            some (.x1 v_z453)
          else none
         else none
theorem G_slices_siftDownCmpFunc_lift_Req_h_L3_ok {Fi : Ex → PS → Prop} (hF : KC 82 Fi) (ks : List Fr) (n : Nat) (v_hi396 : Int) (v_first397 : Int) (v_cmp398 : (S_lift_Req → S_lift_Req → Option (Int))) (v_cmp398_g : FuncId) (v_cmp398_c : (List PV)) (v_cmp398_h : ∀ (x0 : S_lift_Req) (x1 : S_lift_Req) (r : Int), v_cmp398 x0 x1 = some r → Ret Try.prog v_cmp398_g ([eS_lift_Req x0, eS_lift_Req x1] ++ v_cmp398_c) ((eI .i64) r)) : ∀ (k : Nat) (v_root399 : Int) (v_w400 : (List S_lift_Req)) (o : G_slices_siftDownCmpFunc_lift_Req_h_L3_R), G_slices_siftDownCmpFunc_lift_Req_h_L3 n v_hi396 v_first397 v_cmp398 k v_root399 v_w400 = some o → RunE Try.prog 82 Fi ks (G_slices_siftDownCmpFunc_lift_Req_h_L3_ex o) (G_slices_siftDownCmpFunc_lift_Req_h_L3_st v_hi396 v_first397 v_cmp398 v_cmp398_g v_cmp398_c o) → RunE Try.prog 82 Fi (.l k (cP (cB (cR (bodyOf Try.f58)))) :: ks) .normal (G_slices_siftDownCmpFunc_lift_Req_h_L3_hd v_hi396 v_first397 v_cmp398 v_cmp398_g v_cmp398_c v_root399 v_w400)
  | 0, v_root399, v_w400, o, h, q => by rw [G_slices_siftDownCmpFunc_lift_Req_h_L3] at h; cases h
  | k + 1, v_root399, v_w400, o, h, q => by
    rw [G_slices_siftDownCmpFunc_lift_Req_h_L3] at h
    by_cases h246 : (wi .i64 ((wi .i64 (2 * v_root399)) + 1)) ≥ v_hi396
    · rw [if_pos h246] at h
      cases h
      exact pkk_sound TTok mix hF 12 (hs := [.t true]) (ts := []) (s := [0, 1]) (l := []) (by kernel_rfl) (by kernel_rfl) (.cons (dt h246) .nil) q
    · rw [if_neg h246] at h
      obtain ⟨v_o443, h259, h⟩ := bind_some h
      refine pkk_sound TTok mix hF 11 (hs := [.t false]) (ts := []) (s := [0, 1]) (l := [0, 2, 3, 4, 10, 11]) (by kernel_rfl) (by kernel_rfl) (.cons (df h246) .nil) (G_slices_siftDownCmpFunc_lift_Req_h_C1_ok hF (.s (cR (cL (cR (cR (cB (cP (cB (cR (bodyOf Try.f58))))))))) :: .s (cR (cR (cR (cB (cP (cB (cR (bodyOf Try.f58)))))))) :: .b 1 :: .l k (cP (cB (cR (bodyOf Try.f58)))) :: ks) n v_hi396 v_first397 v_cmp398 v_root399 v_w400 v_cmp398_g v_cmp398_c v_cmp398_h _ h259 ?_)
      cases v_o443 with
      | x0 v_z444 v_z445 =>
        try dsimp only at h
        obtain ⟨v_o451, h262, h⟩ := bind_some h
        refine pkk_sound TTok mix hF 0 (hs := []) (ts := []) (s := [0, 1]) (l := [0, 2, 3, 4, 10, 11, 40]) (by kernel_rfl) (by kernel_rfl) .nil (G_slices_siftDownCmpFunc_lift_Req_h_C2_ok hF (.s (cR (cR (cR (cB (cP (cB (cR (bodyOf Try.f58)))))))) :: .b 1 :: .l k (cP (cB (cR (bodyOf Try.f58)))) :: ks) n v_hi396 v_first397 v_cmp398 v_root399 v_z444 v_z445 v_cmp398_g v_cmp398_c v_cmp398_h _ h262 ?_)
        cases v_o451 with
        | x0 v_z452 v_z453 =>
          try dsimp only at h
          by_cases h263 : 0 ≤ (wi .i64 (v_first397 + v_root399)) ∧ ((wi .i64 (v_first397 + v_root399))).toNat < v_z453.length
          · rw [if_pos h263] at h
            obtain ⟨v_y454, h264, h⟩ := bind_some h
            by_cases h265 : 0 ≤ (wi .i64 (v_first397 + v_z452)) ∧ ((wi .i64 (v_first397 + v_z452))).toNat < v_z453.length
            · rw [if_pos h265] at h
              obtain ⟨v_y455, h266, h⟩ := bind_some h
              obtain ⟨v_r456, h267, h⟩ := bind_some h
              by_cases h268 : v_r456 < 0
              · rw [if_pos h268] at h
                by_cases h269 : 0 ≤ (wi .i64 (v_first397 + v_z452)) ∧ ((wi .i64 (v_first397 + v_z452))).toNat < v_z453.length
                · rw [if_pos h269] at h
                  obtain ⟨v_y458, h270, h⟩ := bind_some h
                  by_cases h271 : 0 ≤ (wi .i64 (v_first397 + v_root399)) ∧ ((wi .i64 (v_first397 + v_root399))).toNat < v_z453.length
                  · rw [if_pos h271] at h
                    obtain ⟨v_y459, h272, h⟩ := bind_some h
                    by_cases h273 : 0 ≤ (wi .i64 (v_first397 + v_root399)) ∧ ((wi .i64 (v_first397 + v_root399))).toNat < v_z453.length
                    · rw [if_pos h273] at h
                      obtain ⟨v_y460, h274, h⟩ := bind_some h
                      by_cases h275 : 0 ≤ (wi .i64 (v_first397 + v_z452)) ∧ ((wi .i64 (v_first397 + v_z452))).toNat < (v_z453.set ((wi .i64 (v_first397 + v_root399))).toNat v_y458).length
                      · rw [if_pos h275] at h
                        obtain ⟨v_y461, h276, h⟩ := bind_some h
                        exact pkk_sound TTok mix hF 9 (hs := [.y (eS_lift_Req v_y454), .y (eS_lift_Req v_y455), .r ((eI .i64) v_r456), .t false, .y (eS_lift_Req v_y458), .y (eS_lift_Req v_y459), .w ((v_z453.set ((wi .i64 (v_first397 + v_root399))).toNat v_y458).map eS_lift_Req), .y (eS_lift_Req v_y460), .w (((v_z453.set ((wi .i64 (v_first397 + v_root399))).toNat v_y458).set ((wi .i64 (v_first397 + v_z452))).toNat v_y459).map eS_lift_Req), .y (eS_lift_Req v_y461)]) (ts := []) (s := [0, 1]) (l := [0, 2, 3, 4, 10]) (by kernel_rfl) (by kernel_rfl) (.cons (idx_ob (f := eS_lift_Req) h263) (.cons (get_ob (f := eS_lift_Req) h264) (.cons (idx_ob (f := eS_lift_Req) h265) (.cons (get_ob (f := eS_lift_Req) h266) (.cons (v_cmp398_h v_y454 v_y455 _ h267) (.cons (bnf (dt h268)) (.cons (idx_ob (f := eS_lift_Req) h269) (.cons (get_ob (f := eS_lift_Req) h270) (.cons (idx_ob (f := eS_lift_Req) h271) (.cons (get_ob (f := eS_lift_Req) h272) (.cons (idx_ob (f := eS_lift_Req) h273) (.cons (get_ob (f := eS_lift_Req) h274) (.cons (Eq.refl (pcells (.agg [.v (.int .i64 v_y458.fSector), .sl (v_y458.fData.map (eI .u8)), .v (.bool v_y458.fBarrier)]))) (.cons (set_ob (f := eS_lift_Req) (l := v_z453) (k := ((wi .i64 (v_first397 + v_root399))).toNat) (z := v_y458) (p := .agg [.v (.int .i64 v_y458.fSector), .sl (v_y458.fData.map (eI .u8)), .v (.bool v_y458.fBarrier)]) rfl) (.cons (idx_ob (f := eS_lift_Req) h275) (.cons (get_ob (f := eS_lift_Req) h276) (.cons (Eq.refl (pcells (.agg [.v (.int .i64 v_y459.fSector), .sl (v_y459.fData.map (eI .u8)), .v (.bool v_y459.fBarrier)]))) (.cons (set_ob (f := eS_lift_Req) (l := (v_z453.set ((wi .i64 (v_first397 + v_root399))).toNat v_y458)) (k := ((wi .i64 (v_first397 + v_z452))).toNat) (z := v_y459) (p := .agg [.v (.int .i64 v_y459.fSector), .sl (v_y459.fData.map (eI .u8)), .v (.bool v_y459.fBarrier)]) rfl) .nil)))))))))))))))))) (G_slices_siftDownCmpFunc_lift_Req_h_L3_ok hF ks n v_hi396 v_first397 v_cmp398 v_cmp398_g v_cmp398_c v_cmp398_h k v_z452 ((v_z453.set ((wi .i64 (v_first397 + v_root399))).toNat v_y458).set ((wi .i64 (v_first397 + v_z452))).toNat v_y459) _ h q)
                      · rw [if_neg h275] at h; cases h
                    · rw [if_neg h273] at h; cases h
                  · rw [if_neg h271] at h; cases h
                · rw [if_neg h269] at h; cases h
              · rw [if_neg h268] at h
                cases h
                exact pkk_sound TTok mix hF 8 (hs := [.y (eS_lift_Req v_y454), .y (eS_lift_Req v_y455), .r ((eI .i64) v_r456), .t true]) (ts := []) (s := [0, 1]) (l := []) (by kernel_rfl) (by kernel_rfl) (.cons (idx_ob (f := eS_lift_Req) h263) (.cons (get_ob (f := eS_lift_Req) h264) (.cons (idx_ob (f := eS_lift_Req) h265) (.cons (get_ob (f := eS_lift_Req) h266) (.cons (v_cmp398_h v_y454 v_y455 _ h267) (.cons (bnt (df h268)) .nil)))))) q
            · rw [if_neg h265] at h; cases h
          · rw [if_neg h263] at h; cases h
/- slices.siftDownCmpFunc[ringhall/lift.Req] -/
def G_slices_siftDownCmpFunc_lift_Req_h (n : Nat) (v_data394 : (List S_lift_Req)) (v_lo395 : Int) (v_hi396 : Int) (v_first397 : Int) (v_cmp398 : (S_lift_Req → S_lift_Req → Option (Int))) : Option ((List S_lift_Req)) :=
  (G_slices_siftDownCmpFunc_lift_Req_h_L3 n v_hi396 v_first397 v_cmp398 n v_lo395 v_data394).bind fun v_o462 => match v_o462 with
  | .x0 v_z463 =>
    some v_z463
  | .x1 v_z464 =>
    some v_z464
theorem G_slices_siftDownCmpFunc_lift_Req_h_ok (n : Nat) (v_data394 : (List S_lift_Req)) (v_lo395 : Int) (v_hi396 : Int) (v_first397 : Int) (v_cmp398 : (S_lift_Req → S_lift_Req → Option (Int))) (v_cmp398_g : FuncId) (v_cmp398_c : List PV) (v_cmp398_h : ∀ (x0 : S_lift_Req) (x1 : S_lift_Req) (r : Int), v_cmp398 x0 x1 = some r → Ret Try.prog v_cmp398_g ([eS_lift_Req x0, eS_lift_Req x1] ++ v_cmp398_c) ((eI .i64) r)) (r : (List S_lift_Req)) (h : G_slices_siftDownCmpFunc_lift_Req_h n v_data394 v_lo395 v_hi396 v_first397 v_cmp398 = some r) : RetH Try.prog 58 [.srf 0, .d ((eI .i64) v_lo395), .d ((eI .i64) v_hi396), .d ((eI .i64) v_first397), .d ((.clo v_cmp398_g v_cmp398_c))] [.row 26 3 (v_data394.map eS_lift_Req)] (.tup []) [.row 26 3 (r.map eS_lift_Req)] := by
  refine retH_run (n := 82) (fn := Try.f58) (c := bodyOf Try.f58) (by kernel_rfl) (by kernel_rfl) (by kernel_rfl) (by kernel_rfl) ?_
  have hF : KC 82 (FinH Try.prog Try.f58 [.row 26 3 (v_data394.map eS_lift_Req)] (.tup []) [.row 26 3 (r.map eS_lift_Req)]) := FinH.kc' (by kernel_rfl)
  unfold G_slices_siftDownCmpFunc_lift_Req_h at h
  obtain ⟨v_o462, h277, h⟩ := bind_some h
  refine pkk_sound TTok mix hF 4 (hs := [.n n]) (ts := []) (s := [1, 0]) (l := [0, 2, 3, 4, 10]) (by kernel_rfl) (by kernel_rfl) .nil (G_slices_siftDownCmpFunc_lift_Req_h_L3_ok hF (.b 0 :: []) n v_hi396 v_first397 v_cmp398 v_cmp398_g v_cmp398_c v_cmp398_h n v_lo395 v_data394 _ h277 ?_)
  cases v_o462 with
  | x0 v_z463 =>
    try dsimp only at h
    obtain rfl := Option.some.inj h
    exact pendH_sound TTok mix 1 (hs := []) [1] (by kernel_rfl) (by kernel_rfl) (by kernel_rfl) .nil
  | x1 v_z464 =>
    try dsimp only at h
    obtain rfl := Option.some.inj h
    exact pendH_sound TTok mix 1 (hs := []) [1] (by kernel_rfl) (by kernel_rfl) (by kernel_rfl) .nil
inductive G_slices_heapSortCmpFunc_lift_Req_h_L1_R where
  | x0 (v_w467 : (List S_lift_Req))
def G_slices_heapSortCmpFunc_lift_Req_h_L1_ex : G_slices_heapSortCmpFunc_lift_Req_h_L1_R → Ex
  | .x0 _ => .exit 0
def G_slices_heapSortCmpFunc_lift_Req_h_L1_st (v_cmp390 : (S_lift_Req → S_lift_Req → Option (Int))) (v_a388 : Int) (v_b389 : Int) (v_cmp390_g : FuncId) (v_cmp390_c : (List PV)) : G_slices_heapSortCmpFunc_lift_Req_h_L1_R → PS
  | .x0 v_w467 => ⟨(.srf 1 :: dd :: dd :: .d (.clo v_cmp390_g v_cmp390_c) :: dd :: dd :: dd :: dd :: .d (.v (.int .i64 v_a388)) :: .d (.v (.int .i64 0)) :: .d (.v (.int .i64 (wi .i64 (v_b389 - v_a388)))) :: (dds 49 [])), [.gh 0 (.srf 1), .row 26 3 (v_w467.map eS_lift_Req)]⟩
def G_slices_heapSortCmpFunc_lift_Req_h_L1_hd (v_cmp390 : (S_lift_Req → S_lift_Req → Option (Int))) (v_a388 : Int) (v_b389 : Int) (v_cmp390_g : FuncId) (v_cmp390_c : (List PV)) (v_i391 : Int) (v_w392 : (List S_lift_Req)) : PS := ⟨(.srf 1 :: dd :: dd :: .d (.clo v_cmp390_g v_cmp390_c) :: dd :: dd :: dd :: dd :: .d (.v (.int .i64 v_a388)) :: .d (.v (.int .i64 0)) :: .d (.v (.int .i64 (wi .i64 (v_b389 - v_a388)))) :: .d (.v (.int .i64 v_i391)) :: (dds 48 [])), [.gh 0 (.srf 1), .row 26 3 (v_w392.map eS_lift_Req)]⟩
def G_slices_heapSortCmpFunc_lift_Req_h_L1 (n : Nat) (v_cmp390 : (S_lift_Req → S_lift_Req → Option (Int))) (v_a388 : Int) (v_b389 : Int) : Nat → Int → (List S_lift_Req) → Option G_slices_heapSortCmpFunc_lift_Req_h_L1_R
  | 0, _, _ => none
  | k + 1, v_i391, v_w392 =>
    if v_i391 ≥ 0 then
     (G_slices_siftDownCmpFunc_lift_Req_h n v_w392 v_i391 (wi .i64 (v_b389 - v_a388)) v_a388 v_cmp390).bind fun (v_r466 : ((List S_lift_Req))) =>
     G_slices_heapSortCmpFunc_lift_Req_h_L1 n v_cmp390 v_a388 v_b389 k (wi .i64 (v_i391 - 1)) v_r466
    else
     some (.x0 v_w392)
theorem G_slices_heapSortCmpFunc_lift_Req_h_L1_ok {Fi : Ex → PS → Prop} (hF : KC 60 Fi) (ks : List Fr) (n : Nat) (v_cmp390 : (S_lift_Req → S_lift_Req → Option (Int))) (v_a388 : Int) (v_b389 : Int) (v_cmp390_g : FuncId) (v_cmp390_c : (List PV)) (v_cmp390_h : ∀ (x0 : S_lift_Req) (x1 : S_lift_Req) (r : Int), v_cmp390 x0 x1 = some r → Ret Try.prog v_cmp390_g ([eS_lift_Req x0, eS_lift_Req x1] ++ v_cmp390_c) ((eI .i64) r)) : ∀ (k : Nat) (v_i391 : Int) (v_w392 : (List S_lift_Req)) (o : G_slices_heapSortCmpFunc_lift_Req_h_L1_R), G_slices_heapSortCmpFunc_lift_Req_h_L1 n v_cmp390 v_a388 v_b389 k v_i391 v_w392 = some o → RunE Try.prog 60 Fi ks (G_slices_heapSortCmpFunc_lift_Req_h_L1_ex o) (G_slices_heapSortCmpFunc_lift_Req_h_L1_st v_cmp390 v_a388 v_b389 v_cmp390_g v_cmp390_c o) → RunE Try.prog 60 Fi (.l k (cP (cB (cR (cL (cR (cR (cR (bodyOf Try.f43)))))))) :: ks) .normal (G_slices_heapSortCmpFunc_lift_Req_h_L1_hd v_cmp390 v_a388 v_b389 v_cmp390_g v_cmp390_c v_i391 v_w392)
  | 0, v_i391, v_w392, o, h, q => by rw [G_slices_heapSortCmpFunc_lift_Req_h_L1] at h; cases h
  | k + 1, v_i391, v_w392, o, h, q => by
    rw [G_slices_heapSortCmpFunc_lift_Req_h_L1] at h
    by_cases h214 : v_i391 ≥ 0
    · rw [if_pos h214] at h
      obtain ⟨v_r466, h279, h⟩ := bind_some h
      exact pkk_sound TTok mix hF 11 (hs := [.t true, .h [1] [] [.row 26 3 (v_r466.map eS_lift_Req)] (.tup [])]) (ts := []) (s := [0, 1]) (l := [0, 3, 8, 9, 10, 11]) (by kernel_rfl) (by kernel_rfl) (.cons (dt h214) (.cons (G_slices_siftDownCmpFunc_lift_Req_h_ok n v_w392 v_i391 (wi .i64 (v_b389 - v_a388)) v_a388 v_cmp390 v_cmp390_g v_cmp390_c v_cmp390_h _ h279) .nil)) (G_slices_heapSortCmpFunc_lift_Req_h_L1_ok hF ks n v_cmp390 v_a388 v_b389 v_cmp390_g v_cmp390_c v_cmp390_h k (wi .i64 (v_i391 - 1)) v_r466 _ h q)
    · rw [if_neg h214] at h
      cases h
      exact pkk_sound TTok mix hF 8 (hs := [.t false]) (ts := []) (s := [0, 1]) (l := [0, 3, 8, 9, 10]) (by kernel_rfl) (by kernel_rfl) (.cons (df h214) .nil) q
inductive G_slices_heapSortCmpFunc_lift_Req_h_L2_R where
  | x0 (v_w483 : (List S_lift_Req))
def G_slices_heapSortCmpFunc_lift_Req_h_L2_ex : G_slices_heapSortCmpFunc_lift_Req_h_L2_R → Ex
  | .x0 _ => .exit 2
def G_slices_heapSortCmpFunc_lift_Req_h_L2_st (v_cmp390 : (S_lift_Req → S_lift_Req → Option (Int))) (v_a388 : Int) (v_cmp390_g : FuncId) (v_cmp390_c : (List PV)) : G_slices_heapSortCmpFunc_lift_Req_h_L2_R → PS
  | .x0 v_w483 => ⟨(dds 60 []), [.gh 0 (.srf 1), .row 26 3 (v_w483.map eS_lift_Req)]⟩
def G_slices_heapSortCmpFunc_lift_Req_h_L2_hd (v_cmp390 : (S_lift_Req → S_lift_Req → Option (Int))) (v_a388 : Int) (v_cmp390_g : FuncId) (v_cmp390_c : (List PV)) (v_i470 : Int) (v_w471 : (List S_lift_Req)) : PS := ⟨(.srf 1 :: dd :: dd :: .d (.clo v_cmp390_g v_cmp390_c) :: dd :: dd :: dd :: dd :: .d (.v (.int .i64 v_a388)) :: .d (.v (.int .i64 0)) :: dd :: dd :: .d (.v (.int .i64 v_i470)) :: (dds 47 [])), [.gh 0 (.srf 1), .row 26 3 (v_w471.map eS_lift_Req)]⟩
def G_slices_heapSortCmpFunc_lift_Req_h_L2 (n : Nat) (v_cmp390 : (S_lift_Req → S_lift_Req → Option (Int))) (v_a388 : Int) : Nat → Int → (List S_lift_Req) → Option G_slices_heapSortCmpFunc_lift_Req_h_L2_R
  | 0, _, _ => none
  | k + 1, v_i470, v_w471 =>
    if v_i470 ≥ 0 then
     if 0 ≤ (wi .i64 (v_a388 + v_i470)) ∧ ((wi .i64 (v_a388 + v_i470))).toNat < v_w471.length then
      (v_w471[((wi .i64 (v_a388 + v_i470))).toNat]?).bind fun (v_y478 : S_lift_Req) =>
      if 0 ≤ v_a388 ∧ (v_a388).toNat < v_w471.length then
       (v_w471[(v_a388).toNat]?).bind fun (v_y479 : S_lift_Req) =>
       if 0 ≤ v_a388 ∧ (v_a388).toNat < v_w471.length then
        (v_w471[(v_a388).toNat]?).bind fun (v_y480 : S_lift_Req) =>
        if 0 ≤ (wi .i64 (v_a388 + v_i470)) ∧ ((wi .i64 (v_a388 + v_i470))).toNat < (v_w471.set (v_a388).toNat v_y478).length then
         ((v_w471.set (v_a388).toNat v_y478)[((wi .i64 (v_a388 + v_i470))).toNat]?).bind fun (v_y481 : S_lift_Req) =>
         (G_slices_siftDownCmpFunc_lift_Req_h n ((v_w471.set (v_a388).toNat v_y478).set ((wi .i64 (v_a388 + v_i470))).toNat v_y479) 0 v_i470 v_a388 v_cmp390).bind fun (v_r482 : ((List S_lift_Req))) =>
         G_slices_heapSortCmpFunc_lift_Req_h_L2 n v_cmp390 v_a388 k (wi .i64 (v_i470 - 1)) v_r482
        else none
       else none
      else none
     else none
    else
     some (.x0 v_w471)
theorem G_slices_heapSortCmpFunc_lift_Req_h_L2_ok {Fi : Ex → PS → Prop} (hF : KC 60 Fi) (ks : List Fr) (n : Nat) (v_cmp390 : (S_lift_Req → S_lift_Req → Option (Int))) (v_a388 : Int) (v_cmp390_g : FuncId) (v_cmp390_c : (List PV)) (v_cmp390_h : ∀ (x0 : S_lift_Req) (x1 : S_lift_Req) (r : Int), v_cmp390 x0 x1 = some r → Ret Try.prog v_cmp390_g ([eS_lift_Req x0, eS_lift_Req x1] ++ v_cmp390_c) ((eI .i64) r)) : ∀ (k : Nat) (v_i470 : Int) (v_w471 : (List S_lift_Req)) (o : G_slices_heapSortCmpFunc_lift_Req_h_L2_R), G_slices_heapSortCmpFunc_lift_Req_h_L2 n v_cmp390 v_a388 k v_i470 v_w471 = some o → RunE Try.prog 60 Fi ks (G_slices_heapSortCmpFunc_lift_Req_h_L2_ex o) (G_slices_heapSortCmpFunc_lift_Req_h_L2_st v_cmp390 v_a388 v_cmp390_g v_cmp390_c o) → RunE Try.prog 60 Fi (.l k (cP (cB (cR (cR (cR (cR (cR (bodyOf Try.f43)))))))) :: ks) .normal (G_slices_heapSortCmpFunc_lift_Req_h_L2_hd v_cmp390 v_a388 v_cmp390_g v_cmp390_c v_i470 v_w471)
  | 0, v_i470, v_w471, o, h, q => by rw [G_slices_heapSortCmpFunc_lift_Req_h_L2] at h; cases h
  | k + 1, v_i470, v_w471, o, h, q => by
    rw [G_slices_heapSortCmpFunc_lift_Req_h_L2] at h
    by_cases h281 : v_i470 ≥ 0
    · rw [if_pos h281] at h
      by_cases h291 : 0 ≤ (wi .i64 (v_a388 + v_i470)) ∧ ((wi .i64 (v_a388 + v_i470))).toNat < v_w471.length
      · rw [if_pos h291] at h
        obtain ⟨v_y478, h292, h⟩ := bind_some h
        by_cases h293 : 0 ≤ v_a388 ∧ (v_a388).toNat < v_w471.length
        · rw [if_pos h293] at h
          obtain ⟨v_y479, h294, h⟩ := bind_some h
          by_cases h295 : 0 ≤ v_a388 ∧ (v_a388).toNat < v_w471.length
          · rw [if_pos h295] at h
            obtain ⟨v_y480, h296, h⟩ := bind_some h
            by_cases h297 : 0 ≤ (wi .i64 (v_a388 + v_i470)) ∧ ((wi .i64 (v_a388 + v_i470))).toNat < (v_w471.set (v_a388).toNat v_y478).length
            · rw [if_pos h297] at h
              obtain ⟨v_y481, h298, h⟩ := bind_some h
              obtain ⟨v_r482, h299, h⟩ := bind_some h
              exact pkk_sound TTok mix hF 13 (hs := [.t true, .y (eS_lift_Req v_y478), .y (eS_lift_Req v_y479), .w ((v_w471.set (v_a388).toNat v_y478).map eS_lift_Req), .y (eS_lift_Req v_y480), .w (((v_w471.set (v_a388).toNat v_y478).set ((wi .i64 (v_a388 + v_i470))).toNat v_y479).map eS_lift_Req), .y (eS_lift_Req v_y481), .h [1] [] [.row 26 3 (v_r482.map eS_lift_Req)] (.tup [])]) (ts := []) (s := [0, 1]) (l := [0, 3, 8, 9, 12]) (by kernel_rfl) (by kernel_rfl) (.cons (dt h281) (.cons (idx_ob (f := eS_lift_Req) h291) (.cons (get_ob (f := eS_lift_Req) h292) (.cons (idx_ob (f := eS_lift_Req) h293) (.cons (get_ob (f := eS_lift_Req) h294) (.cons (idx_ob (f := eS_lift_Req) h295) (.cons (get_ob (f := eS_lift_Req) h296) (.cons (Eq.refl (pcells (.agg [.v (.int .i64 v_y478.fSector), .sl (v_y478.fData.map (eI .u8)), .v (.bool v_y478.fBarrier)]))) (.cons (set_ob (f := eS_lift_Req) (l := v_w471) (k := (v_a388).toNat) (z := v_y478) (p := .agg [.v (.int .i64 v_y478.fSector), .sl (v_y478.fData.map (eI .u8)), .v (.bool v_y478.fBarrier)]) rfl) (.cons (idx_ob (f := eS_lift_Req) h297) (.cons (get_ob (f := eS_lift_Req) h298) (.cons (Eq.refl (pcells (.agg [.v (.int .i64 v_y479.fSector), .sl (v_y479.fData.map (eI .u8)), .v (.bool v_y479.fBarrier)]))) (.cons (set_ob (f := eS_lift_Req) (l := (v_w471.set (v_a388).toNat v_y478)) (k := ((wi .i64 (v_a388 + v_i470))).toNat) (z := v_y479) (p := .agg [.v (.int .i64 v_y479.fSector), .sl (v_y479.fData.map (eI .u8)), .v (.bool v_y479.fBarrier)]) rfl) (.cons (G_slices_siftDownCmpFunc_lift_Req_h_ok n ((v_w471.set (v_a388).toNat v_y478).set ((wi .i64 (v_a388 + v_i470))).toNat v_y479) 0 v_i470 v_a388 v_cmp390 v_cmp390_g v_cmp390_c v_cmp390_h _ h299) .nil)))))))))))))) (G_slices_heapSortCmpFunc_lift_Req_h_L2_ok hF ks n v_cmp390 v_a388 v_cmp390_g v_cmp390_c v_cmp390_h k (wi .i64 (v_i470 - 1)) v_r482 _ h q)
            · rw [if_neg h297] at h; cases h
          · rw [if_neg h295] at h; cases h
        · rw [if_neg h293] at h; cases h
      · rw [if_neg h291] at h; cases h
    · rw [if_neg h281] at h
      cases h
      exact pkk_sound TTok mix hF 8 (hs := [.t false]) (ts := []) (s := [0, 1]) (l := []) (by kernel_rfl) (by kernel_rfl) (.cons (df h281) .nil) q
/- slices.heapSortCmpFunc[ringhall/lift.Req] -/
def G_slices_heapSortCmpFunc_lift_Req_h (n : Nat) (v_data387 : (List S_lift_Req)) (v_a388 : Int) (v_b389 : Int) (v_cmp390 : (S_lift_Req → S_lift_Req → Option (Int))) : Option ((List S_lift_Req)) :=
  (G_slices_heapSortCmpFunc_lift_Req_h_L1 n v_cmp390 v_a388 v_b389 n (quoI .i64 (wi .i64 ((wi .i64 (v_b389 - v_a388)) - 1)) 2) v_data387).bind fun v_o468 => match v_o468 with
  | .x0 v_z469 =>
    (G_slices_heapSortCmpFunc_lift_Req_h_L2 n v_cmp390 v_a388 n (wi .i64 ((wi .i64 (v_b389 - v_a388)) - 1)) v_z469).bind fun v_o484 => match v_o484 with
    | .x0 v_z485 =>
      some v_z485
theorem G_slices_heapSortCmpFunc_lift_Req_h_ok (n : Nat) (v_data387 : (List S_lift_Req)) (v_a388 : Int) (v_b389 : Int) (v_cmp390 : (S_lift_Req → S_lift_Req → Option (Int))) (v_cmp390_g : FuncId) (v_cmp390_c : List PV) (v_cmp390_h : ∀ (x0 : S_lift_Req) (x1 : S_lift_Req) (r : Int), v_cmp390 x0 x1 = some r → Ret Try.prog v_cmp390_g ([eS_lift_Req x0, eS_lift_Req x1] ++ v_cmp390_c) ((eI .i64) r)) (r : (List S_lift_Req)) (h : G_slices_heapSortCmpFunc_lift_Req_h n v_data387 v_a388 v_b389 v_cmp390 = some r) : RetH Try.prog 43 [.srf 0, .d ((eI .i64) v_a388), .d ((eI .i64) v_b389), .d ((.clo v_cmp390_g v_cmp390_c))] [.row 26 3 (v_data387.map eS_lift_Req)] (.tup []) [.row 26 3 (r.map eS_lift_Req)] := by
  refine retH_run (n := 60) (fn := Try.f43) (c := bodyOf Try.f43) (by kernel_rfl) (by kernel_rfl) (by kernel_rfl) (by kernel_rfl) ?_
  have hF : KC 60 (FinH Try.prog Try.f43 [.row 26 3 (v_data387.map eS_lift_Req)] (.tup []) [.row 26 3 (r.map eS_lift_Req)]) := FinH.kc' (by kernel_rfl)
  unfold G_slices_heapSortCmpFunc_lift_Req_h at h
  obtain ⟨v_o468, h280, h⟩ := bind_some h
  refine pkk_sound TTok mix hF 11 (hs := [.n n]) (ts := []) (s := [1, 0]) (l := [0, 3, 8, 9, 10, 11]) (by kernel_rfl) (by kernel_rfl) (.cons (show (2 : Int) ≠ 0 by decide) .nil) (G_slices_heapSortCmpFunc_lift_Req_h_L1_ok hF (.b 0 :: .s (cR (cR (cR (cR (bodyOf Try.f43))))) :: []) n v_cmp390 v_a388 v_b389 v_cmp390_g v_cmp390_c v_cmp390_h n (quoI .i64 (wi .i64 ((wi .i64 (v_b389 - v_a388)) - 1)) 2) v_data387 _ h280 ?_)
  cases v_o468 with
  | x0 v_z469 =>
    try dsimp only at h
    obtain ⟨v_o484, h300, h⟩ := bind_some h
    refine pkk_sound TTok mix hF 5 (hs := [.n n]) (ts := []) (s := [0, 1]) (l := [0, 3, 8, 9, 12]) (by kernel_rfl) (by kernel_rfl) .nil (G_slices_heapSortCmpFunc_lift_Req_h_L2_ok hF (.b 2 :: []) n v_cmp390 v_a388 v_cmp390_g v_cmp390_c v_cmp390_h n (wi .i64 ((wi .i64 (v_b389 - v_a388)) - 1)) v_z469 _ h300 ?_)
    cases v_o484 with
    | x0 v_z485 =>
      try dsimp only at h
      obtain rfl := Option.some.inj h
      exact pendH_sound TTok mix 1 (hs := []) [1] (by kernel_rfl) (by kernel_rfl) (by kernel_rfl) .nil
/- slices.nextPowerOfTwo -/
def G_slices_nextPowerOfTwo (n : Nat) (v_length492 : Int) : Option (Int) :=
  (G_math_bits_Len n (wi .u64 v_length492)).bind fun (v_r493 : (Int)) =>
  if 0 ≤ v_r493 then
   some (shlI .u64 1 v_r493)
  else none
theorem G_slices_nextPowerOfTwo_ok (n : Nat) (v_length492 : Int) (r : Int) (h : G_slices_nextPowerOfTwo n v_length492 = some r) : Ret Try.prog 59 [(eI .i64) v_length492] ((eI .u64) r) := by
  refine ret_run (n := 7) (fn := Try.f59) (c := bodyOf Try.f59) (by kernel_rfl) (by kernel_rfl) (by kernel_rfl) (by kernel_rfl) ?_
  have hF : KC 7 (FinR Try.prog Try.f59 ((eI .u64) r)) := FinR.kc' (by kernel_rfl)
  unfold G_slices_nextPowerOfTwo at h
  obtain ⟨v_r493, h306, h⟩ := bind_some h
  by_cases h307 : 0 ≤ v_r493
  · rw [if_pos h307] at h
    obtain rfl := Option.some.inj h
    exact pend_sound TTok mix 5 (hs := [.r ((eI .i64) v_r493)]) (by kernel_rfl) (by kernel_rfl) (by kernel_rfl) (.cons (G_math_bits_Len_ok n (wi .u64 v_length492) _ h306) (.cons h307 .nil))
  · rw [if_neg h307] at h; cases h
/- (*slices.xorshift).Next -/
def G_slices_xorshift_Next_h (n : Nat) (v_r498 : Int) : Option (Int × Int) :=
  some ((bits .xor .u64 (bits .xor .u64 (bits .xor .u64 v_r498 (shlI .u64 v_r498 13)) (shrI .u64 (bits .xor .u64 v_r498 (shlI .u64 v_r498 13)) 7)) (shlI .u64 (bits .xor .u64 (bits .xor .u64 v_r498 (shlI .u64 v_r498 13)) (shrI .u64 (bits .xor .u64 v_r498 (shlI .u64 v_r498 13)) 7)) 17)), (bits .xor .u64 (bits .xor .u64 (bits .xor .u64 v_r498 (shlI .u64 v_r498 13)) (shrI .u64 (bits .xor .u64 v_r498 (shlI .u64 v_r498 13)) 7)) (shlI .u64 (bits .xor .u64 (bits .xor .u64 v_r498 (shlI .u64 v_r498 13)) (shrI .u64 (bits .xor .u64 v_r498 (shlI .u64 v_r498 13)) 7)) 17)))
theorem G_slices_xorshift_Next_h_ok (n : Nat) (v_r498 : Int) (r : Int × Int) (h : G_slices_xorshift_Next_h n v_r498 = some r) : RetH Try.prog 60 [.ref 0 0] [.box [.d (.v (.int .u64 v_r498))]] (.d ((eI .u64) r.1)) [.box [.d (.v (.int .u64 r.2))]] := by
  refine retH_run (n := 33) (fn := Try.f60) (c := bodyOf Try.f60) (by kernel_rfl) (by kernel_rfl) (by kernel_rfl) (by kernel_rfl) ?_
  have hF : KC 33 (FinH Try.prog Try.f60 [.box [.d (.v (.int .u64 v_r498))]] (.d ((eI .u64) r.1)) [.box [.d (.v (.int .u64 r.2))]]) := FinH.kc' (by kernel_rfl)
  unfold G_slices_xorshift_Next_h at h
  obtain rfl := Option.some.inj h
  exact pendH_sound TTok mix 11 (hs := [.c, .c, .c, .c, .c, .c, .c, .c, .c, .c]) [0] (by kernel_rfl) (by kernel_rfl) (by kernel_rfl) (.cons (show (0 : Int) ≤ 13 by decide) (.cons (show 0 + 1 ≤ 1 by decide) (.cons (show (0 : Int) ≤ 7 by decide) (.cons (show 0 + 1 ≤ 1 by decide) (.cons (show (0 : Int) ≤ 17 by decide) (.cons (show 0 + 1 ≤ 1 by decide) .nil))))))
inductive G_slices_breakPatternsCmpFunc_lift_Req_h_L1_R where
  | x0 (v_w535 : (List S_lift_Req))
def G_slices_breakPatternsCmpFunc_lift_Req_h_L1_ex : G_slices_breakPatternsCmpFunc_lift_Req_h_L1_R → Ex
  | .x0 _ => .exit 0
def G_slices_breakPatternsCmpFunc_lift_Req_h_L1_st (v_a489 : Int) (v_b490 : Int) (v_r494 : (Int)) : G_slices_breakPatternsCmpFunc_lift_Req_h_L1_R → PS
  | .x0 v_w535 => ⟨(dds 67 []), [.gh 0 (.srf 1), .row 26 3 (v_w535.map eS_lift_Req)]⟩
def G_slices_breakPatternsCmpFunc_lift_Req_h_L1_hd (v_a489 : Int) (v_b490 : Int) (v_r494 : (Int)) (v_idx513 : Int) (v_w514 : (List S_lift_Req)) (v_b515 : Int) : PS := ⟨(.srf 1 :: .d (.v (.int .i64 v_a489)) :: dd :: dd :: dd :: dd :: dd :: dd :: .d (.v (.int .i64 (wi .i64 (v_b490 - v_a489)))) :: .ref 2 0 :: .d (.v (.int .u64 v_r494)) :: .d (.v (.int .i64 v_idx513)) :: (dds 55 [])), [.gh 0 (.srf 1), .row 26 3 (v_w514.map eS_lift_Req), .box [.d (.v (.int .u64 v_b515))]]⟩
def G_slices_breakPatternsCmpFunc_lift_Req_h_L1 (n : Nat) (v_a489 : Int) (v_b490 : Int) (v_r494 : (Int)) : Nat → Int → (List S_lift_Req) → Int → Option G_slices_breakPatternsCmpFunc_lift_Req_h_L1_R
  | 0, _, _, _ => none
  | k + 1, v_idx513, v_w514, v_b515 =>
    if v_idx513 ≤ (wi .i64 ((wi .i64 (v_a489 + (wi .i64 ((quoI .i64 (wi .i64 (v_b490 - v_a489)) 4) * 2)))) + 1)) then
     (G_slices_xorshift_Next_h n v_b515).bind fun (v_r526 : (Int × Int)) =>
     if (wi .i64 (bits .and .u64 v_r526.1 (wi .u64 (v_r494 - 1)))) ≥ (wi .i64 (v_b490 - v_a489)) then
      if 0 ≤ (wi .i64 (v_a489 + (wi .i64 ((wi .i64 (bits .and .u64 v_r526.1 (wi .u64 (v_r494 - 1)))) - (wi .i64 (v_b490 - v_a489)))))) ∧ ((wi .i64 (v_a489 + (wi .i64 ((wi .i64 (bits .and .u64 v_r526.1 (wi .u64 (v_r494 - 1)))) - (wi .i64 (v_b490 - v_a489))))))).toNat < v_w514.length then
       (v_w514[((wi .i64 (v_a489 + (wi .i64 ((wi .i64 (bits .and .u64 v_r526.1 (wi .u64 (v_r494 - 1)))) - (wi .i64 (v_b490 - v_a489))))))).toNat]?).bind fun (v_y527 : S_lift_Req) =>
       if 0 ≤ v_idx513 ∧ (v_idx513).toNat < v_w514.length then
        (v_w514[(v_idx513).toNat]?).bind fun (v_y528 : S_lift_Req) =>
        if 0 ≤ v_idx513 ∧ (v_idx513).toNat < v_w514.length then
         (v_w514[(v_idx513).toNat]?).bind fun (v_y529 : S_lift_Req) =>
         if 0 ≤ (wi .i64 (v_a489 + (wi .i64 ((wi .i64 (bits .and .u64 v_r526.1 (wi .u64 (v_r494 - 1)))) - (wi .i64 (v_b490 - v_a489)))))) ∧ ((wi .i64 (v_a489 + (wi .i64 ((wi .i64 (bits .and .u64 v_r526.1 (wi .u64 (v_r494 - 1)))) - (wi .i64 (v_b490 - v_a489))))))).toNat < (v_w514.set (v_idx513).toNat v_y527).length then
          ((v_w514.set (v_idx513).toNat v_y527)[((wi .i64 (v_a489 + (wi .i64 ((wi .i64 (bits .and .u64 v_r526.1 (wi .u64 (v_r494 - 1)))) - (wi .i64 (v_b490 - v_a489))))))).toNat]?).bind fun (v_y530 : S_lift_Req) =>
          G_slices_breakPatternsCmpFunc_lift_Req_h_L1 n v_a489 v_b490 v_r494 k (wi .i64 (v_idx513 + 1)) ((v_w514.set (v_idx513).toNat v_y527).set ((wi .i64 (v_a489 + (wi .i64 ((wi .i64 (bits .and .u64 v_r526.1 (wi .u64 (v_r494 - 1)))) - (wi .i64 (v_b490 - v_a489))))))).toNat v_y528) v_r526.2
         else none
        else none
       else none
      else none
     else
      if 0 ≤ (wi .i64 (v_a489 + (wi .i64 (bits .and .u64 v_r526.1 (wi .u64 (v_r494 - 1)))))) ∧ ((wi .i64 (v_a489 + (wi .i64 (bits .and .u64 v_r526.1 (wi .u64 (v_r494 - 1))))))).toNat < v_w514.length then
       (v_w514[((wi .i64 (v_a489 + (wi .i64 (bits .and .u64 v_r526.1 (wi .u64 (v_r494 - 1))))))).toNat]?).bind fun (v_y531 : S_lift_Req) =>
       if 0 ≤ v_idx513 ∧ (v_idx513).toNat < v_w514.length then
        (v_w514[(v_idx513).toNat]?).bind fun (v_y532 : S_lift_Req) =>
        if 0 ≤ v_idx513 ∧ (v_idx513).toNat < v_w514.length then
         (v_w514[(v_idx513).toNat]?).bind fun (v_y533 : S_lift_Req) =>
         if 0 ≤ (wi .i64 (v_a489 + (wi .i64 (bits .and .u64 v_r526.1 (wi .u64 (v_r494 - 1)))))) ∧ ((wi .i64 (v_a489 + (wi .i64 (bits .and .u64 v_r526.1 (wi .u64 (v_r494 - 1))))))).toNat < (v_w514.set (v_idx513).toNat v_y531).length then
          ((v_w514.set (v_idx513).toNat v_y531)[((wi .i64 (v_a489 + (wi .i64 (bits .and .u64 v_r526.1 (wi .u64 (v_r494 - 1))))))).toNat]?).bind fun (v_y534 : S_lift_Req) =>
          G_slices_breakPatternsCmpFunc_lift_Req_h_L1 n v_a489 v_b490 v_r494 k (wi .i64 (v_idx513 + 1)) ((v_w514.set (v_idx513).toNat v_y531).set ((wi .i64 (v_a489 + (wi .i64 (bits .and .u64 v_r526.1 (wi .u64 (v_r494 - 1))))))).toNat v_y532) v_r526.2
         else none
        else none
       else none
      else none
    else
     some (.x0 v_w514)
theorem G_slices_breakPatternsCmpFunc_lift_Req_h_L1_ok {Fi : Ex → PS → Prop} (hF : KC 67 Fi) (ks : List Fr) (n : Nat) (v_a489 : Int) (v_b490 : Int) (v_r494 : (Int))  : ∀ (k : Nat) (v_idx513 : Int) (v_w514 : (List S_lift_Req)) (v_b515 : Int) (o : G_slices_breakPatternsCmpFunc_lift_Req_h_L1_R), G_slices_breakPatternsCmpFunc_lift_Req_h_L1 n v_a489 v_b490 v_r494 k v_idx513 v_w514 v_b515 = some o → RunE Try.prog 67 Fi ks (G_slices_breakPatternsCmpFunc_lift_Req_h_L1_ex o) (G_slices_breakPatternsCmpFunc_lift_Req_h_L1_st v_a489 v_b490 v_r494 o) → RunE Try.prog 67 Fi (.l k (cP (cB (cR (cR (cR (cT (cR (cR (bodyOf Try.f44))))))))) :: ks) .normal (G_slices_breakPatternsCmpFunc_lift_Req_h_L1_hd v_a489 v_b490 v_r494 v_idx513 v_w514 v_b515)
  | 0, v_idx513, v_w514, v_b515, o, h, q => by rw [G_slices_breakPatternsCmpFunc_lift_Req_h_L1] at h; cases h
  | k + 1, v_idx513, v_w514, v_b515, o, h, q => by
    rw [G_slices_breakPatternsCmpFunc_lift_Req_h_L1] at h
    by_cases h346 : v_idx513 ≤ (wi .i64 ((wi .i64 (v_a489 + (wi .i64 ((quoI .i64 (wi .i64 (v_b490 - v_a489)) 4) * 2)))) + 1))
    · rw [if_pos h346] at h
      obtain ⟨v_r526, h366, h⟩ := bind_some h
      by_cases h368 : (wi .i64 (bits .and .u64 v_r526.1 (wi .u64 (v_r494 - 1)))) ≥ (wi .i64 (v_b490 - v_a489))
      · rw [if_pos h368] at h
        by_cases h369 : 0 ≤ (wi .i64 (v_a489 + (wi .i64 ((wi .i64 (bits .and .u64 v_r526.1 (wi .u64 (v_r494 - 1)))) - (wi .i64 (v_b490 - v_a489)))))) ∧ ((wi .i64 (v_a489 + (wi .i64 ((wi .i64 (bits .and .u64 v_r526.1 (wi .u64 (v_r494 - 1)))) - (wi .i64 (v_b490 - v_a489))))))).toNat < v_w514.length
        · rw [if_pos h369] at h
          obtain ⟨v_y527, h370, h⟩ := bind_some h
          by_cases h371 : 0 ≤ v_idx513 ∧ (v_idx513).toNat < v_w514.length
          · rw [if_pos h371] at h
            obtain ⟨v_y528, h372, h⟩ := bind_some h
            by_cases h373 : 0 ≤ v_idx513 ∧ (v_idx513).toNat < v_w514.length
            · rw [if_pos h373] at h
              obtain ⟨v_y529, h374, h⟩ := bind_some h
              by_cases h375 : 0 ≤ (wi .i64 (v_a489 + (wi .i64 ((wi .i64 (bits .and .u64 v_r526.1 (wi .u64 (v_r494 - 1)))) - (wi .i64 (v_b490 - v_a489)))))) ∧ ((wi .i64 (v_a489 + (wi .i64 ((wi .i64 (bits .and .u64 v_r526.1 (wi .u64 (v_r494 - 1)))) - (wi .i64 (v_b490 - v_a489))))))).toNat < (v_w514.set (v_idx513).toNat v_y527).length
              · rw [if_pos h375] at h
                obtain ⟨v_y530, h376, h⟩ := bind_some h
                exact pkk_sound TTok mix hF 18 (hs := [.t true, .h [2] [] [.box [.d (.v (.int .u64 v_r526.2))]] (.d (.v (.int .u64 v_r526.1))), .t true, .y (eS_lift_Req v_y527), .y (eS_lift_Req v_y528), .w ((v_w514.set (v_idx513).toNat v_y527).map eS_lift_Req), .y (eS_lift_Req v_y529), .w (((v_w514.set (v_idx513).toNat v_y527).set ((wi .i64 (v_a489 + (wi .i64 ((wi .i64 (bits .and .u64 v_r526.1 (wi .u64 (v_r494 - 1)))) - (wi .i64 (v_b490 - v_a489))))))).toNat v_y528).map eS_lift_Req), .y (eS_lift_Req v_y530)]) (ts := []) (s := [0, 1, 2]) (l := [0, 1, 8, 9, 10, 11]) (by kernel_rfl) (by kernel_rfl) (.cons (show (4 : Int) ≠ 0 by decide) (.cons (dt h346) (.cons (G_slices_xorshift_Next_h_ok n v_b515 _ h366) (.cons (dt h368) (.cons (idx_ob (f := eS_lift_Req) h369) (.cons (get_ob (f := eS_lift_Req) h370) (.cons (idx_ob (f := eS_lift_Req) h371) (.cons (get_ob (f := eS_lift_Req) h372) (.cons (idx_ob (f := eS_lift_Req) h373) (.cons (get_ob (f := eS_lift_Req) h374) (.cons (Eq.refl (pcells (.agg [.v (.int .i64 v_y527.fSector), .sl (v_y527.fData.map (eI .u8)), .v (.bool v_y527.fBarrier)]))) (.cons (set_ob (f := eS_lift_Req) (l := v_w514) (k := (v_idx513).toNat) (z := v_y527) (p := .agg [.v (.int .i64 v_y527.fSector), .sl (v_y527.fData.map (eI .u8)), .v (.bool v_y527.fBarrier)]) rfl) (.cons (idx_ob (f := eS_lift_Req) h375) (.cons (get_ob (f := eS_lift_Req) h376) (.cons (Eq.refl (pcells (.agg [.v (.int .i64 v_y528.fSector), .sl (v_y528.fData.map (eI .u8)), .v (.bool v_y528.fBarrier)]))) (.cons (set_ob (f := eS_lift_Req) (l := (v_w514.set (v_idx513).toNat v_y527)) (k := ((wi .i64 (v_a489 + (wi .i64 ((wi .i64 (bits .and .u64 v_r526.1 (wi .u64 (v_r494 - 1)))) - (wi .i64 (v_b490 - v_a489))))))).toNat) (z := v_y528) (p := .agg [.v (.int .i64 v_y528.fSector), .sl (v_y528.fData.map (eI .u8)), .v (.bool v_y528.fBarrier)]) rfl) .nil)))))))))))))))) (G_slices_breakPatternsCmpFunc_lift_Req_h_L1_ok hF ks n v_a489 v_b490 v_r494 k (wi .i64 (v_idx513 + 1)) ((v_w514.set (v_idx513).toNat v_y527).set ((wi .i64 (v_a489 + (wi .i64 ((wi .i64 (bits .and .u64 v_r526.1 (wi .u64 (v_r494 - 1)))) - (wi .i64 (v_b490 - v_a489))))))).toNat v_y528) v_r526.2 _ h q)
              · rw [if_neg h375] at h; cases h
            · rw [if_neg h373] at h; cases h
          · rw [if_neg h371] at h; cases h
        · rw [if_neg h369] at h; cases h
      · rw [if_neg h368] at h
        by_cases h377 : 0 ≤ (wi .i64 (v_a489 + (wi .i64 (bits .and .u64 v_r526.1 (wi .u64 (v_r494 - 1)))))) ∧ ((wi .i64 (v_a489 + (wi .i64 (bits .and .u64 v_r526.1 (wi .u64 (v_r494 - 1))))))).toNat < v_w514.length
        · rw [if_pos h377] at h
          obtain ⟨v_y531, h378, h⟩ := bind_some h
          by_cases h379 : 0 ≤ v_idx513 ∧ (v_idx513).toNat < v_w514.length
          · rw [if_pos h379] at h
            obtain ⟨v_y532, h380, h⟩ := bind_some h
            by_cases h381 : 0 ≤ v_idx513 ∧ (v_idx513).toNat < v_w514.length
            · rw [if_pos h381] at h
              obtain ⟨v_y533, h382, h⟩ := bind_some h
              by_cases h383 : 0 ≤ (wi .i64 (v_a489 + (wi .i64 (bits .and .u64 v_r526.1 (wi .u64 (v_r494 - 1)))))) ∧ ((wi .i64 (v_a489 + (wi .i64 (bits .and .u64 v_r526.1 (wi .u64 (v_r494 - 1))))))).toNat < (v_w514.set (v_idx513).toNat v_y531).length
              · rw [if_pos h383] at h
                obtain ⟨v_y534, h384, h⟩ := bind_some h
                exact pkk_sound TTok mix hF 18 (hs := [.t true, .h [2] [] [.box [.d (.v (.int .u64 v_r526.2))]] (.d (.v (.int .u64 v_r526.1))), .t false, .y (eS_lift_Req v_y531), .y (eS_lift_Req v_y532), .w ((v_w514.set (v_idx513).toNat v_y531).map eS_lift_Req), .y (eS_lift_Req v_y533), .w (((v_w514.set (v_idx513).toNat v_y531).set ((wi .i64 (v_a489 + (wi .i64 (bits .and .u64 v_r526.1 (wi .u64 (v_r494 - 1))))))).toNat v_y532).map eS_lift_Req), .y (eS_lift_Req v_y534)]) (ts := []) (s := [0, 1, 2]) (l := [0, 1, 8, 9, 10, 11]) (by kernel_rfl) (by kernel_rfl) (.cons (show (4 : Int) ≠ 0 by decide) (.cons (dt h346) (.cons (G_slices_xorshift_Next_h_ok n v_b515 _ h366) (.cons (df h368) (.cons (idx_ob (f := eS_lift_Req) h377) (.cons (get_ob (f := eS_lift_Req) h378) (.cons (idx_ob (f := eS_lift_Req) h379) (.cons (get_ob (f := eS_lift_Req) h380) (.cons (idx_ob (f := eS_lift_Req) h381) (.cons (get_ob (f := eS_lift_Req) h382) (.cons (Eq.refl (pcells (.agg [.v (.int .i64 v_y531.fSector), .sl (v_y531.fData.map (eI .u8)), .v (.bool v_y531.fBarrier)]))) (.cons (set_ob (f := eS_lift_Req) (l := v_w514) (k := (v_idx513).toNat) (z := v_y531) (p := .agg [.v (.int .i64 v_y531.fSector), .sl (v_y531.fData.map (eI .u8)), .v (.bool v_y531.fBarrier)]) rfl) (.cons (idx_ob (f := eS_lift_Req) h383) (.cons (get_ob (f := eS_lift_Req) h384) (.cons (Eq.refl (pcells (.agg [.v (.int .i64 v_y532.fSector), .sl (v_y532.fData.map (eI .u8)), .v (.bool v_y532.fBarrier)]))) (.cons (set_ob (f := eS_lift_Req) (l := (v_w514.set (v_idx513).toNat v_y531)) (k := ((wi .i64 (v_a489 + (wi .i64 (bits .and .u64 v_r526.1 (wi .u64 (v_r494 - 1))))))).toNat) (z := v_y532) (p := .agg [.v (.int .i64 v_y532.fSector), .sl (v_y532.fData.map (eI .u8)), .v (.bool v_y532.fBarrier)]) rfl) .nil)))))))))))))))) (G_slices_breakPatternsCmpFunc_lift_Req_h_L1_ok hF ks n v_a489 v_b490 v_r494 k (wi .i64 (v_idx513 + 1)) ((v_w514.set (v_idx513).toNat v_y531).set ((wi .i64 (v_a489 + (wi .i64 (bits .and .u64 v_r526.1 (wi .u64 (v_r494 - 1))))))).toNat v_y532) v_r526.2 _ h q)
              · rw [if_neg h383] at h; cases h
            · rw [if_neg h381] at h; cases h
          · rw [if_neg h379] at h; cases h
        · rw [if_neg h377] at h; cases h
    · rw [if_neg h346] at h
      cases h
      exact pkk_sound TTok mix hF 8 (hs := [.t false]) (ts := []) (s := [0, 1]) (l := []) (by kernel_rfl) (by kernel_rfl) (.cons (show (4 : Int) ≠ 0 by decide) (.cons (df h346) .nil)) q
/- slices.breakPatternsCmpFunc[ringhall/lift.Req] -/
def G_slices_breakPatternsCmpFunc_lift_Req_h (n : Nat) (v_data488 : (List S_lift_Req)) (v_a489 : Int) (v_b490 : Int) (v_cmp491 : (S_lift_Req → S_lift_Req → Option (Int))) : Option ((List S_lift_Req)) :=
  if (wi .i64 (v_b490 - v_a489)) ≥ 8 then
   (G_slices_nextPowerOfTwo n (wi .i64 (v_b490 - v_a489))).bind fun (v_r494 : (Int)) =>
   (G_slices_breakPatternsCmpFunc_lift_Req_h_L1 n v_a489 v_b490 v_r494 n (wi .i64 ((wi .i64 (v_a489 + (wi .i64 ((quoI .i64 (wi .i64 (v_b490 - v_a489)) 4) * 2)))) - 1)) v_data488 (wi .u64 (wi .i64 (v_b490 - v_a489)))).bind fun v_o536 => match v_o536 with
   | .x0 v_z537 =>
     some v_z537
  else
   some v_data488
theorem G_slices_breakPatternsCmpFunc_lift_Req_h_ok (n : Nat) (v_data488 : (List S_lift_Req)) (v_a489 : Int) (v_b490 : Int) (v_cmp491 : (S_lift_Req → S_lift_Req → Option (Int))) (v_cmp491_g : FuncId) (v_cmp491_c : List PV) (v_cmp491_h : ∀ (x0 : S_lift_Req) (x1 : S_lift_Req) (r : Int), v_cmp491 x0 x1 = some r → Ret Try.prog v_cmp491_g ([eS_lift_Req x0, eS_lift_Req x1] ++ v_cmp491_c) ((eI .i64) r)) (r : (List S_lift_Req)) (h : G_slices_breakPatternsCmpFunc_lift_Req_h n v_data488 v_a489 v_b490 v_cmp491 = some r) : RetH Try.prog 44 [.srf 0, .d ((eI .i64) v_a489), .d ((eI .i64) v_b490), .d ((.clo v_cmp491_g v_cmp491_c))] [.row 26 3 (v_data488.map eS_lift_Req)] (.tup []) [.row 26 3 (r.map eS_lift_Req)] := by
  refine retH_run (n := 67) (fn := Try.f44) (c := bodyOf Try.f44) (by kernel_rfl) (by kernel_rfl) (by kernel_rfl) (by kernel_rfl) ?_
  have hF : KC 67 (FinH Try.prog Try.f44 [.row 26 3 (v_data488.map eS_lift_Req)] (.tup []) [.row 26 3 (r.map eS_lift_Req)]) := FinH.kc' (by kernel_rfl)
  unfold G_slices_breakPatternsCmpFunc_lift_Req_h at h
  by_cases h305 : (wi .i64 (v_b490 - v_a489)) ≥ 8
  · rw [if_pos h305] at h
    obtain ⟨v_r494, h308, h⟩ := bind_some h
    obtain ⟨v_o536, h385, h⟩ := bind_some h
    refine pkk_sound TTok mix hF 13 (hs := [.t true, .c, .r ((eI .u64) v_r494), .n n]) (ts := []) (s := [1, 0, 42]) (l := [0, 1, 8, 9, 10, 11]) (by kernel_rfl) (by kernel_rfl) (.cons (dt h305) (.cons (show 0 + 1 ≤ 1 by decide) (.cons (G_slices_nextPowerOfTwo_ok n (wi .i64 (v_b490 - v_a489)) _ h308) (.cons (show (4 : Int) ≠ 0 by decide) .nil)))) (G_slices_breakPatternsCmpFunc_lift_Req_h_L1_ok hF (.b 0 :: []) n v_a489 v_b490 v_r494 n (wi .i64 ((wi .i64 (v_a489 + (wi .i64 ((quoI .i64 (wi .i64 (v_b490 - v_a489)) 4) * 2)))) - 1)) v_data488 (wi .u64 (wi .i64 (v_b490 - v_a489))) _ h385 ?_)
    cases v_o536 with
    | x0 v_z537 =>
      try dsimp only at h
      obtain rfl := Option.some.inj h
      exact pendH_sound TTok mix 1 (hs := []) [1] (by kernel_rfl) (by kernel_rfl) (by kernel_rfl) .nil
  · rw [if_neg h305] at h
    obtain rfl := Option.some.inj h
    exact pendH_sound TTok mix 6 (hs := [.t false]) [0] (by kernel_rfl) (by kernel_rfl) (by kernel_rfl) (.cons (df h305) .nil)
/- slices.order2CmpFunc[ringhall/lift.Req] -/
def G_slices_order2CmpFunc_lift_Req_h (n : Nat) (v_data562 : (List S_lift_Req)) (v_a563 : Int) (v_b564 : Int) (v_swaps565 : Int) (v_cmp566 : (S_lift_Req → S_lift_Req → Option (Int))) : Option (Int × Int × Int) :=
  (getI v_data562 v_b564).bind fun (v_y567 : S_lift_Req) =>
  (getI v_data562 v_a563).bind fun (v_y568 : S_lift_Req) =>
  (v_cmp566 v_y567 v_y568).bind fun (v_r569 : (Int)) =>
  if v_r569 < 0 then
   some (v_b564, v_a563, (wi .i64 (v_swaps565 + 1)))
  else
   some (v_a563, v_b564, v_swaps565)
theorem G_slices_order2CmpFunc_lift_Req_h_ok (n : Nat) (v_data562 : (List S_lift_Req)) (v_a563 : Int) (v_b564 : Int) (v_swaps565 : Int) (v_cmp566 : (S_lift_Req → S_lift_Req → Option (Int))) (v_cmp566_g : FuncId) (v_cmp566_c : List PV) (v_cmp566_h : ∀ (x0 : S_lift_Req) (x1 : S_lift_Req) (r : Int), v_cmp566 x0 x1 = some r → Ret Try.prog v_cmp566_g ([eS_lift_Req x0, eS_lift_Req x1] ++ v_cmp566_c) ((eI .i64) r)) (r : Int × Int × Int) (h : G_slices_order2CmpFunc_lift_Req_h n v_data562 v_a563 v_b564 v_swaps565 v_cmp566 = some r) : RetH Try.prog 68 [.d ((eL eS_lift_Req) v_data562), .d ((eI .i64) v_a563), .d ((eI .i64) v_b564), .ref 0 0, .d ((.clo v_cmp566_g v_cmp566_c))] [.box [.d (.v (.int .i64 v_swaps565))]] (.tup [.d ((eI .i64) r.1), .d ((eI .i64) r.2.1)]) [.box [.d (.v (.int .i64 r.2.2))]] := by
  refine retH_run (n := 32) (fn := Try.f68) (c := bodyOf Try.f68) (by kernel_rfl) (by kernel_rfl) (by kernel_rfl) (by kernel_rfl) ?_
  have hF : KC 32 (FinH Try.prog Try.f68 [.box [.d (.v (.int .i64 v_swaps565))]] (.tup [.d ((eI .i64) r.1), .d ((eI .i64) r.2.1)]) [.box [.d (.v (.int .i64 r.2.2))]]) := FinH.kc' (by kernel_rfl)
  unfold G_slices_order2CmpFunc_lift_Req_h at h
  obtain ⟨v_y567, h395, h⟩ := bind_some h
  obtain ⟨v_y568, h396, h⟩ := bind_some h
  obtain ⟨v_r569, h397, h⟩ := bind_some h
  by_cases h399 : v_r569 < 0
  · rw [if_pos h399] at h
    obtain rfl := Option.some.inj h
    exact pendH_sound TTok mix 12 (hs := [.y (eS_lift_Req v_y567), .y (eS_lift_Req v_y568), .r ((eI .i64) v_r569), .t true, .c, .c]) [0] (by kernel_rfl) (by kernel_rfl) (by kernel_rfl) (.cons (getI_ob (f := eS_lift_Req) h395) (.cons (getI_ob (f := eS_lift_Req) h396) (.cons (v_cmp566_h v_y567 v_y568 _ h397) (.cons (dt h399) (.cons (show 0 + 1 ≤ 1 by decide) .nil)))))
  · rw [if_neg h399] at h
    obtain rfl := Option.some.inj h
    exact pendH_sound TTok mix 10 (hs := [.y (eS_lift_Req v_y567), .y (eS_lift_Req v_y568), .r ((eI .i64) v_r569), .t false]) [0] (by kernel_rfl) (by kernel_rfl) (by kernel_rfl) (.cons (getI_ob (f := eS_lift_Req) h395) (.cons (getI_ob (f := eS_lift_Req) h396) (.cons (v_cmp566_h v_y567 v_y568 _ h397) (.cons (df h399) .nil))))
/- slices.medianCmpFunc[ringhall/lift.Req] -/
def G_slices_medianCmpFunc_lift_Req_h (n : Nat) (v_data556 : (List S_lift_Req)) (v_a557 : Int) (v_b558 : Int) (v_c559 : Int) (v_swaps560 : Int) (v_cmp561 : (S_lift_Req → S_lift_Req → Option (Int))) : Option (Int × Int) :=
  (G_slices_order2CmpFunc_lift_Req_h n v_data556 v_a557 v_b558 v_swaps560 v_cmp561).bind fun (v_r570 : (Int × Int × Int)) =>
  (G_slices_order2CmpFunc_lift_Req_h n v_data556 v_r570.2.1 v_c559 v_r570.2.2 v_cmp561).bind fun (v_r571 : (Int × Int × Int)) =>
  (G_slices_order2CmpFunc_lift_Req_h n v_data556 v_r570.1 v_r571.1 v_r571.2.2 v_cmp561).bind fun (v_r572 : (Int × Int × Int)) =>
  some (v_r572.2.1, v_r572.2.2)
theorem G_slices_medianCmpFunc_lift_Req_h_ok (n : Nat) (v_data556 : (List S_lift_Req)) (v_a557 : Int) (v_b558 : Int) (v_c559 : Int) (v_swaps560 : Int) (v_cmp561 : (S_lift_Req → S_lift_Req → Option (Int))) (v_cmp561_g : FuncId) (v_cmp561_c : List PV) (v_cmp561_h : ∀ (x0 : S_lift_Req) (x1 : S_lift_Req) (r : Int), v_cmp561 x0 x1 = some r → Ret Try.prog v_cmp561_g ([eS_lift_Req x0, eS_lift_Req x1] ++ v_cmp561_c) ((eI .i64) r)) (r : Int × Int) (h : G_slices_medianCmpFunc_lift_Req_h n v_data556 v_a557 v_b558 v_c559 v_swaps560 v_cmp561 = some r) : RetH Try.prog 62 [.d ((eL eS_lift_Req) v_data556), .d ((eI .i64) v_a557), .d ((eI .i64) v_b558), .d ((eI .i64) v_c559), .ref 0 0, .d ((.clo v_cmp561_g v_cmp561_c))] [.box [.d (.v (.int .i64 v_swaps560))]] (.d ((eI .i64) r.1)) [.box [.d (.v (.int .i64 r.2))]] := by
  refine retH_run (n := 41) (fn := Try.f62) (c := bodyOf Try.f62) (by kernel_rfl) (by kernel_rfl) (by kernel_rfl) (by kernel_rfl) ?_
  have hF : KC 41 (FinH Try.prog Try.f62 [.box [.d (.v (.int .i64 v_swaps560))]] (.d ((eI .i64) r.1)) [.box [.d (.v (.int .i64 r.2))]]) := FinH.kc' (by kernel_rfl)
  unfold G_slices_medianCmpFunc_lift_Req_h at h
  obtain ⟨v_r570, h400, h⟩ := bind_some h
  obtain ⟨v_r571, h401, h⟩ := bind_some h
  obtain ⟨v_r572, h402, h⟩ := bind_some h
  obtain rfl := Option.some.inj h
  exact pendH_sound TTok mix 11 (hs := [.h [0] [] [.box [.d (.v (.int .i64 v_r570.2.2))]] (.tup [.d (.v (.int .i64 v_r570.1)), .d (.v (.int .i64 v_r570.2.1))]), .h [0] [] [.box [.d (.v (.int .i64 v_r571.2.2))]] (.tup [.d (.v (.int .i64 v_r571.1)), .d (.v (.int .i64 v_r571.2.1))]), .h [0] [] [.box [.d (.v (.int .i64 v_r572.2.2))]] (.tup [.d (.v (.int .i64 v_r572.1)), .d (.v (.int .i64 v_r572.2.1))])]) [0] (by kernel_rfl) (by kernel_rfl) (by kernel_rfl) (.cons (G_slices_order2CmpFunc_lift_Req_h_ok n v_data556 v_a557 v_b558 v_swaps560 v_cmp561 v_cmp561_g v_cmp561_c v_cmp561_h _ h400) (.cons (G_slices_order2CmpFunc_lift_Req_h_ok n v_data556 v_r570.2.1 v_c559 v_r570.2.2 v_cmp561 v_cmp561_g v_cmp561_c v_cmp561_h _ h401) (.cons (G_slices_order2CmpFunc_lift_Req_h_ok n v_data556 v_r570.1 v_r571.1 v_r571.2.2 v_cmp561 v_cmp561_g v_cmp561_c v_cmp561_h _ h402) .nil)))
/- slices.medianAdjacentCmpFunc[ringhall/lift.Req] -/
def G_slices_medianAdjacentCmpFunc_lift_Req_h (n : Nat) (v_data552 : (List S_lift_Req)) (v_a553 : Int) (v_swaps554 : Int) (v_cmp555 : (S_lift_Req → S_lift_Req → Option (Int))) : Option (Int × Int) :=
  (G_slices_medianCmpFunc_lift_Req_h n v_data552 (wi .i64 (v_a553 - 1)) v_a553 (wi .i64 (v_a553 + 1)) v_swaps554 v_cmp555).bind fun (v_r573 : (Int × Int)) =>
  some (v_r573.1, v_r573.2)
theorem G_slices_medianAdjacentCmpFunc_lift_Req_h_ok (n : Nat) (v_data552 : (List S_lift_Req)) (v_a553 : Int) (v_swaps554 : Int) (v_cmp555 : (S_lift_Req → S_lift_Req → Option (Int))) (v_cmp555_g : FuncId) (v_cmp555_c : List PV) (v_cmp555_h : ∀ (x0 : S_lift_Req) (x1 : S_lift_Req) (r : Int), v_cmp555 x0 x1 = some r → Ret Try.prog v_cmp555_g ([eS_lift_Req x0, eS_lift_Req x1] ++ v_cmp555_c) ((eI .i64) r)) (r : Int × Int) (h : G_slices_medianAdjacentCmpFunc_lift_Req_h n v_data552 v_a553 v_swaps554 v_cmp555 = some r) : RetH Try.prog 61 [.d ((eL eS_lift_Req) v_data552), .d ((eI .i64) v_a553), .ref 0 0, .d ((.clo v_cmp555_g v_cmp555_c))] [.box [.d (.v (.int .i64 v_swaps554))]] (.d ((eI .i64) r.1)) [.box [.d (.v (.int .i64 r.2))]] := by
  refine retH_run (n := 18) (fn := Try.f61) (c := bodyOf Try.f61) (by kernel_rfl) (by kernel_rfl) (by kernel_rfl) (by kernel_rfl) ?_
  have hF : KC 18 (FinH Try.prog Try.f61 [.box [.d (.v (.int .i64 v_swaps554))]] (.d ((eI .i64) r.1)) [.box [.d (.v (.int .i64 r.2))]]) := FinH.kc' (by kernel_rfl)
  unfold G_slices_medianAdjacentCmpFunc_lift_Req_h at h
  obtain ⟨v_r573, h403, h⟩ := bind_some h
  obtain rfl := Option.some.inj h
  exact pendH_sound TTok mix 5 (hs := [.h [0] [] [.box [.d (.v (.int .i64 v_r573.2))]] (.d (.v (.int .i64 v_r573.1)))]) [0] (by kernel_rfl) (by kernel_rfl) (by kernel_rfl) (.cons (G_slices_medianCmpFunc_lift_Req_h_ok n v_data552 (wi .i64 (v_a553 - 1)) v_a553 (wi .i64 (v_a553 + 1)) v_swaps554 v_cmp555 v_cmp555_g v_cmp555_c v_cmp555_h _ h403) .nil)
inductive G_slices_choosePivotCmpFunc_lift_Req_C1_R where
  | x0 (v_j590 : Int) (v_b591 : Int)
  | x1 (v_j595 : Int)
def G_slices_choosePivotCmpFunc_lift_Req_C1_ex : G_slices_choosePivotCmpFunc_lift_Req_C1_R → Ex
  | .x0 _ _ => .normal
  | .x1 _ => .normal
def G_slices_choosePivotCmpFunc_lift_Req_C1_st (v_data548 : (List S_lift_Req)) (v_cmp551 : (S_lift_Req → S_lift_Req → Option (Int))) (v_b550 : Int) (v_a549 : Int) (v_cmp551_g : FuncId) (v_cmp551_c : (List PV)) : G_slices_choosePivotCmpFunc_lift_Req_C1_R → PS
  | .x0 v_j590 v_b591 => ⟨(dds 11 (.ref 0 0 :: dd :: .d (.v (.int .i64 v_j590)) :: (dds 49 []))), [.box [.d (.v (.int .i64 v_b591))]]⟩
  | .x1 v_j595 => ⟨(dds 11 (.ref 0 0 :: dd :: .d (.v (.int .i64 v_j595)) :: (dds 49 []))), [.box [.d (.v (.int .i64 0))]]⟩
def G_slices_choosePivotCmpFunc_lift_Req_C1_hd (v_data548 : (List S_lift_Req)) (v_cmp551 : (S_lift_Req → S_lift_Req → Option (Int))) (v_b550 : Int) (v_a549 : Int) (v_cmp551_g : FuncId) (v_cmp551_c : (List PV))  : PS := ⟨(.d (.sl (v_data548.map eS_lift_Req)) :: dd :: dd :: .d (.clo v_cmp551_g v_cmp551_c) :: dd :: dd :: dd :: dd :: dd :: dd :: .d (.v (.int .i64 (wi .i64 (v_b550 - v_a549)))) :: .ref 0 0 :: .d (.v (.int .i64 (wi .i64 (v_a549 + (wi .i64 ((quoI .i64 (wi .i64 (v_b550 - v_a549)) 4) * 1)))))) :: .d (.v (.int .i64 (wi .i64 (v_a549 + (wi .i64 ((quoI .i64 (wi .i64 (v_b550 - v_a549)) 4) * 2)))))) :: .d (.v (.int .i64 (wi .i64 (v_a549 + (wi .i64 ((quoI .i64 (wi .i64 (v_b550 - v_a549)) 4) * 3)))))) :: (dds 19 (.d (.v (.bool (decide ((wi .i64 (v_b550 - v_a549)) ≥ 8)))) :: (dds 28 [])))), [.box [.d (.v (.int .i64 0))]]⟩
def G_slices_choosePivotCmpFunc_lift_Req_C1 (n : Nat) (v_data548 : (List S_lift_Req)) (v_cmp551 : (S_lift_Req → S_lift_Req → Option (Int))) (v_b550 : Int) (v_a549 : Int) : Option G_slices_choosePivotCmpFunc_lift_Req_C1_R :=
  if (wi .i64 (v_b550 - v_a549)) ≥ 8 then
   if (wi .i64 (v_b550 - v_a549)) ≥ 50 then
    (G_slices_medianAdjacentCmpFunc_lift_Req_h n v_data548 (wi .i64 (v_a549 + (wi .i64 ((quoI .i64 (wi .i64 (v_b550 - v_a549)) 4) * 1)))) 0 v_cmp551).bind fun (v_r586 : (Int × Int)) =>
    (G_slices_medianAdjacentCmpFunc_lift_Req_h n v_data548 (wi .i64 (v_a549 + (wi .i64 ((quoI .i64 (wi .i64 (v_b550 - v_a549)) 4) * 2)))) v_r586.2 v_cmp551).bind fun (v_r587 : (Int × Int)) =>
    (G_slices_medianAdjacentCmpFunc_lift_Req_h n v_data548 (wi .i64 (v_a549 + (wi .i64 ((quoI .i64 (wi .i64 (v_b550 - v_a549)) 4) * 3)))) v_r587.2 v_cmp551).bind fun (v_r588 : (Int × Int)) =>
    (G_slices_medianCmpFunc_lift_Req_h n v_data548 v_r586.1 v_r587.1 v_r588.1 v_r588.2 v_cmp551).bind fun (v_r589 : (Int × Int)) =>
    some (.x0 v_r589.1 v_r589.2)
   else
    (G_slices_medianCmpFunc_lift_Req_h n v_data548 (wi .i64 (v_a549 + (wi .i64 ((quoI .i64 (wi .i64 (v_b550 - v_a549)) 4) * 1)))) (wi .i64 (v_a549 + (wi .i64 ((quoI .i64 (wi .i64 (v_b550 - v_a549)) 4) * 2)))) (wi .i64 (v_a549 + (wi .i64 ((quoI .i64 (wi .i64 (v_b550 - v_a549)) 4) * 3)))) 0 v_cmp551).bind fun (v_r592 : (Int × Int)) =>
    some (.x0 v_r592.1 v_r592.2)
  else
   some (.x1 (wi .i64 (v_a549 + (wi .i64 ((quoI .i64 (wi .i64 (v_b550 - v_a549)) 4) * 2)))))
theorem G_slices_choosePivotCmpFunc_lift_Req_C1_ok {Fi : Ex → PS → Prop} (hF : KC 63 Fi) (ks : List Fr) (n : Nat) (v_data548 : (List S_lift_Req)) (v_cmp551 : (S_lift_Req → S_lift_Req → Option (Int))) (v_b550 : Int) (v_a549 : Int) (v_cmp551_g : FuncId) (v_cmp551_c : (List PV)) (v_cmp551_h : ∀ (x0 : S_lift_Req) (x1 : S_lift_Req) (r : Int), v_cmp551 x0 x1 = some r → Ret Try.prog v_cmp551_g ([eS_lift_Req x0, eS_lift_Req x1] ++ v_cmp551_c) ((eI .i64) r)) (o : G_slices_choosePivotCmpFunc_lift_Req_C1_R) (h : G_slices_choosePivotCmpFunc_lift_Req_C1 n v_data548 v_cmp551 v_b550 v_a549 = some o) (q : RunE Try.prog 63 Fi ks (G_slices_choosePivotCmpFunc_lift_Req_C1_ex o) (G_slices_choosePivotCmpFunc_lift_Req_C1_st v_data548 v_cmp551 v_b550 v_a549 v_cmp551_g v_cmp551_c o)) : RunE Try.prog 63 Fi (.s (cR (cL (cR (cR (cR (cR (cR (cR (bodyOf Try.f45))))))))) :: ks) .normal (G_slices_choosePivotCmpFunc_lift_Req_C1_hd v_data548 v_cmp551 v_b550 v_a549 v_cmp551_g v_cmp551_c) := by
  unfold G_slices_choosePivotCmpFunc_lift_Req_C1 at h
  by_cases h413 : (wi .i64 (v_b550 - v_a549)) ≥ 8
  · rw [if_pos h413] at h
    by_cases h418 : (wi .i64 (v_b550 - v_a549)) ≥ 50
    · rw [if_pos h418] at h
      obtain ⟨v_r586, h419, h⟩ := bind_some h
      obtain ⟨v_r587, h420, h⟩ := bind_some h
      obtain ⟨v_r588, h421, h⟩ := bind_some h
      obtain ⟨v_r589, h422, h⟩ := bind_some h
      cases h
      exact pkk_sound TTok mix hF 11 (hs := [.t true, .t true, .h [0] [] [.box [.d (.v (.int .i64 v_r586.2))]] (.d (.v (.int .i64 v_r586.1))), .h [0] [] [.box [.d (.v (.int .i64 v_r587.2))]] (.d (.v (.int .i64 v_r587.1))), .h [0] [] [.box [.d (.v (.int .i64 v_r588.2))]] (.d (.v (.int .i64 v_r588.1))), .h [0] [] [.box [.d (.v (.int .i64 v_r589.2))]] (.d (.v (.int .i64 v_r589.1)))]) (ts := []) (s := [0]) (l := [11, 13]) (by kernel_rfl) (by kernel_rfl) (.cons (dt h413) (.cons (dt h418) (.cons (G_slices_medianAdjacentCmpFunc_lift_Req_h_ok n v_data548 (wi .i64 (v_a549 + (wi .i64 ((quoI .i64 (wi .i64 (v_b550 - v_a549)) 4) * 1)))) 0 v_cmp551 v_cmp551_g v_cmp551_c v_cmp551_h _ h419) (.cons (G_slices_medianAdjacentCmpFunc_lift_Req_h_ok n v_data548 (wi .i64 (v_a549 + (wi .i64 ((quoI .i64 (wi .i64 (v_b550 - v_a549)) 4) * 2)))) v_r586.2 v_cmp551 v_cmp551_g v_cmp551_c v_cmp551_h _ h420) (.cons (G_slices_medianAdjacentCmpFunc_lift_Req_h_ok n v_data548 (wi .i64 (v_a549 + (wi .i64 ((quoI .i64 (wi .i64 (v_b550 - v_a549)) 4) * 3)))) v_r587.2 v_cmp551 v_cmp551_g v_cmp551_c v_cmp551_h _ h421) (.cons (G_slices_medianCmpFunc_lift_Req_h_ok n v_data548 v_r586.1 v_r587.1 v_r588.1 v_r588.2 v_cmp551 v_cmp551_g v_cmp551_c v_cmp551_h _ h422) .nil)))))) q
    · rw [if_neg h418] at h
      obtain ⟨v_r592, h423, h⟩ := bind_some h
      cases h
      exact pkk_sound TTok mix hF 7 (hs := [.t true, .t false, .h [0] [] [.box [.d (.v (.int .i64 v_r592.2))]] (.d (.v (.int .i64 v_r592.1)))]) (ts := []) (s := [0]) (l := [11, 13]) (by kernel_rfl) (by kernel_rfl) (.cons (dt h413) (.cons (df h418) (.cons (G_slices_medianCmpFunc_lift_Req_h_ok n v_data548 (wi .i64 (v_a549 + (wi .i64 ((quoI .i64 (wi .i64 (v_b550 - v_a549)) 4) * 1)))) (wi .i64 (v_a549 + (wi .i64 ((quoI .i64 (wi .i64 (v_b550 - v_a549)) 4) * 2)))) (wi .i64 (v_a549 + (wi .i64 ((quoI .i64 (wi .i64 (v_b550 - v_a549)) 4) * 3)))) 0 v_cmp551 v_cmp551_g v_cmp551_c v_cmp551_h _ h423) .nil))) q
  · rw [if_neg h413] at h
    cases h
    exact pkk_sound TTok mix hF 2 (hs := [.t false]) (ts := []) (s := [0]) (l := [11, 13]) (by kernel_rfl) (by kernel_rfl) (.cons (df h413) .nil) q
/- slices.choosePivotCmpFunc[ringhall/lift.Req] -/
def G_slices_choosePivotCmpFunc_lift_Req (n : Nat) (v_data548 : (List S_lift_Req)) (v_a549 : Int) (v_b550 : Int) (v_cmp551 : (S_lift_Req → S_lift_Req → Option (Int))) : Option (Int × Int) :=
  (G_slices_choosePivotCmpFunc_lift_Req_C1 n v_data548 v_cmp551 v_b550 v_a549).bind fun v_o596 => match v_o596 with
  | .x0 v_z597 v_z598 =>
    if v_z598 = 0 then
     some (v_z597, 1)
    else
     if v_z598 = 12 then
      some (v_z597, 2)
     else
      some (v_z597, 0)
  | .x1 v_z599 =>
    some (v_z599, 1)
theorem G_slices_choosePivotCmpFunc_lift_Req_ok (n : Nat) (v_data548 : (List S_lift_Req)) (v_a549 : Int) (v_b550 : Int) (v_cmp551 : (S_lift_Req → S_lift_Req → Option (Int))) (v_cmp551_g : FuncId) (v_cmp551_c : List PV) (v_cmp551_h : ∀ (x0 : S_lift_Req) (x1 : S_lift_Req) (r : Int), v_cmp551 x0 x1 = some r → Ret Try.prog v_cmp551_g ([eS_lift_Req x0, eS_lift_Req x1] ++ v_cmp551_c) ((eI .i64) r)) (r : Int × Int) (h : G_slices_choosePivotCmpFunc_lift_Req n v_data548 v_a549 v_b550 v_cmp551 = some r) : Ret Try.prog 45 [(eL eS_lift_Req) v_data548, (eI .i64) v_a549, (eI .i64) v_b550, (.clo v_cmp551_g v_cmp551_c)] (.tup [(eI .i64) r.1, (eI .i64) r.2]) := by
  refine ret_run (n := 63) (fn := Try.f45) (c := bodyOf Try.f45) (by kernel_rfl) (by kernel_rfl) (by kernel_rfl) (by kernel_rfl) ?_
  have hF : KC 63 (FinR Try.prog Try.f45 (.tup [(eI .i64) r.1, (eI .i64) r.2])) := FinR.kc' (by kernel_rfl)
  unfold G_slices_choosePivotCmpFunc_lift_Req at h
  obtain ⟨v_o596, h424, h⟩ := bind_some h
  refine pkk_sound TTok mix hF 15 (hs := []) (ts := []) (s := [30]) (l := [0, 3, 10, 11, 12, 13, 14, 34]) (by kernel_rfl) (by kernel_rfl) (.cons (show (4 : Int) ≠ 0 by decide) (.cons (show (4 : Int) ≠ 0 by decide) (.cons (show (4 : Int) ≠ 0 by decide) .nil))) (G_slices_choosePivotCmpFunc_lift_Req_C1_ok hF (.s (cR (cR (cR (cR (cR (cR (cR (bodyOf Try.f45)))))))) :: []) n v_data548 v_cmp551 v_b550 v_a549 v_cmp551_g v_cmp551_c v_cmp551_h _ h424 ?_)
  cases v_o596 with
  | x0 v_z597 v_z598 =>
    try dsimp only at h
    by_cases h427 : v_z598 = 0
    · rw [if_pos h427] at h
      obtain rfl := Option.some.inj h
      exact pend_sound TTok mix 10 (hs := [.c, .t true]) (by kernel_rfl) (by kernel_rfl) (by kernel_rfl) (.cons (bt h427) .nil)
    · rw [if_neg h427] at h
      by_cases h429 : v_z598 = 12
      · rw [if_pos h429] at h
        obtain rfl := Option.some.inj h
        exact pend_sound TTok mix 13 (hs := [.c, .t false, .t true]) (by kernel_rfl) (by kernel_rfl) (by kernel_rfl) (.cons (bf h427) (.cons (bt h429) .nil))
      · rw [if_neg h429] at h
        obtain rfl := Option.some.inj h
        exact pend_sound TTok mix 13 (hs := [.c, .t false, .t false]) (by kernel_rfl) (by kernel_rfl) (by kernel_rfl) (.cons (bf h427) (.cons (bf h429) .nil))
  | x1 v_z599 =>
    try dsimp only at h
    obtain rfl := Option.some.inj h
    exact pend_sound TTok mix 10 (hs := [.c, .c]) (by kernel_rfl) (by kernel_rfl) (by kernel_rfl) .nil
inductive G_slices_reverseRangeCmpFunc_lift_Req_h_L1_R where
  | x0 (v_w617 : (List S_lift_Req))
def G_slices_reverseRangeCmpFunc_lift_Req_h_L1_ex : G_slices_reverseRangeCmpFunc_lift_Req_h_L1_R → Ex
  | .x0 _ => .exit 0
def G_slices_reverseRangeCmpFunc_lift_Req_h_L1_st  : G_slices_reverseRangeCmpFunc_lift_Req_h_L1_R → PS
  | .x0 v_w617 => ⟨(dds 34 []), [.gh 0 (.srf 1), .row 26 3 (v_w617.map eS_lift_Req)]⟩
def G_slices_reverseRangeCmpFunc_lift_Req_h_L1_hd  (v_i605 : Int) (v_j606 : Int) (v_w607 : (List S_lift_Req)) : PS := ⟨(.srf 1 :: dd :: dd :: dd :: dd :: dd :: dd :: dd :: .d (.v (.int .i64 v_i605)) :: .d (.v (.int .i64 v_j606)) :: (dds 24 [])), [.gh 0 (.srf 1), .row 26 3 (v_w607.map eS_lift_Req)]⟩
def G_slices_reverseRangeCmpFunc_lift_Req_h_L1 (n : Nat)  : Nat → Int → Int → (List S_lift_Req) → Option G_slices_reverseRangeCmpFunc_lift_Req_h_L1_R
  | 0, _, _, _ => none
  | k + 1, v_i605, v_j606, v_w607 =>
    if v_i605 < v_j606 then
     if 0 ≤ v_j606 ∧ (v_j606).toNat < v_w607.length then
      (v_w607[(v_j606).toNat]?).bind fun (v_y613 : S_lift_Req) =>
      if 0 ≤ v_i605 ∧ (v_i605).toNat < v_w607.length then
       (v_w607[(v_i605).toNat]?).bind fun (v_y614 : S_lift_Req) =>
       if 0 ≤ v_i605 ∧ (v_i605).toNat < v_w607.length then
        (v_w607[(v_i605).toNat]?).bind fun (v_y615 : S_lift_Req) =>
        if 0 ≤ v_j606 ∧ (v_j606).toNat < (v_w607.set (v_i605).toNat v_y613).length then
         ((v_w607.set (v_i605).toNat v_y613)[(v_j606).toNat]?).bind fun (v_y616 : S_lift_Req) =>
         G_slices_reverseRangeCmpFunc_lift_Req_h_L1 n  k (wi .i64 (v_i605 + 1)) (wi .i64 (v_j606 - 1)) ((v_w607.set (v_i605).toNat v_y613).set (v_j606).toNat v_y614)
        else none
       else none
      else none
     else none
    else
     some (.x0 v_w607)
theorem G_slices_reverseRangeCmpFunc_lift_Req_h_L1_ok {Fi : Ex → PS → Prop} (hF : KC 34 Fi) (ks : List Fr) (n : Nat)   : ∀ (k : Nat) (v_i605 : Int) (v_j606 : Int) (v_w607 : (List S_lift_Req)) (o : G_slices_reverseRangeCmpFunc_lift_Req_h_L1_R), G_slices_reverseRangeCmpFunc_lift_Req_h_L1 n  k v_i605 v_j606 v_w607 = some o → RunE Try.prog 34 Fi ks (G_slices_reverseRangeCmpFunc_lift_Req_h_L1_ex o) (G_slices_reverseRangeCmpFunc_lift_Req_h_L1_st  o) → RunE Try.prog 34 Fi (.l k (cP (cB (cR (cR (bodyOf Try.f46))))) :: ks) .normal (G_slices_reverseRangeCmpFunc_lift_Req_h_L1_hd  v_i605 v_j606 v_w607)
  | 0, v_i605, v_j606, v_w607, o, h, q => by rw [G_slices_reverseRangeCmpFunc_lift_Req_h_L1] at h; cases h
  | k + 1, v_i605, v_j606, v_w607, o, h, q => by
    rw [G_slices_reverseRangeCmpFunc_lift_Req_h_L1] at h
    by_cases h432 : v_i605 < v_j606
    · rw [if_pos h432] at h
      by_cases h441 : 0 ≤ v_j606 ∧ (v_j606).toNat < v_w607.length
      · rw [if_pos h441] at h
        obtain ⟨v_y613, h442, h⟩ := bind_some h
        by_cases h443 : 0 ≤ v_i605 ∧ (v_i605).toNat < v_w607.length
        · rw [if_pos h443] at h
          obtain ⟨v_y614, h444, h⟩ := bind_some h
          by_cases h445 : 0 ≤ v_i605 ∧ (v_i605).toNat < v_w607.length
          · rw [if_pos h445] at h
            obtain ⟨v_y615, h446, h⟩ := bind_some h
            by_cases h447 : 0 ≤ v_j606 ∧ (v_j606).toNat < (v_w607.set (v_i605).toNat v_y613).length
            · rw [if_pos h447] at h
              obtain ⟨v_y616, h448, h⟩ := bind_some h
              exact pkk_sound TTok mix hF 13 (hs := [.t true, .y (eS_lift_Req v_y613), .y (eS_lift_Req v_y614), .w ((v_w607.set (v_i605).toNat v_y613).map eS_lift_Req), .y (eS_lift_Req v_y615), .w (((v_w607.set (v_i605).toNat v_y613).set (v_j606).toNat v_y614).map eS_lift_Req), .y (eS_lift_Req v_y616)]) (ts := []) (s := [0, 1]) (l := [0, 8, 9]) (by kernel_rfl) (by kernel_rfl) (.cons (dt h432) (.cons (idx_ob (f := eS_lift_Req) h441) (.cons (get_ob (f := eS_lift_Req) h442) (.cons (idx_ob (f := eS_lift_Req) h443) (.cons (get_ob (f := eS_lift_Req) h444) (.cons (idx_ob (f := eS_lift_Req) h445) (.cons (get_ob (f := eS_lift_Req) h446) (.cons (Eq.refl (pcells (.agg [.v (.int .i64 v_y613.fSector), .sl (v_y613.fData.map (eI .u8)), .v (.bool v_y613.fBarrier)]))) (.cons (set_ob (f := eS_lift_Req) (l := v_w607) (k := (v_i605).toNat) (z := v_y613) (p := .agg [.v (.int .i64 v_y613.fSector), .sl (v_y613.fData.map (eI .u8)), .v (.bool v_y613.fBarrier)]) rfl) (.cons (idx_ob (f := eS_lift_Req) h447) (.cons (get_ob (f := eS_lift_Req) h448) (.cons (Eq.refl (pcells (.agg [.v (.int .i64 v_y614.fSector), .sl (v_y614.fData.map (eI .u8)), .v (.bool v_y614.fBarrier)]))) (.cons (set_ob (f := eS_lift_Req) (l := (v_w607.set (v_i605).toNat v_y613)) (k := (v_j606).toNat) (z := v_y614) (p := .agg [.v (.int .i64 v_y614.fSector), .sl (v_y614.fData.map (eI .u8)), .v (.bool v_y614.fBarrier)]) rfl) .nil))))))))))))) (G_slices_reverseRangeCmpFunc_lift_Req_h_L1_ok hF ks n  k (wi .i64 (v_i605 + 1)) (wi .i64 (v_j606 - 1)) ((v_w607.set (v_i605).toNat v_y613).set (v_j606).toNat v_y614) _ h q)
            · rw [if_neg h447] at h; cases h
          · rw [if_neg h445] at h; cases h
        · rw [if_neg h443] at h; cases h
      · rw [if_neg h441] at h; cases h
    · rw [if_neg h432] at h
      cases h
      exact pkk_sound TTok mix hF 8 (hs := [.t false]) (ts := []) (s := [0, 1]) (l := []) (by kernel_rfl) (by kernel_rfl) (.cons (df h432) .nil) q
/- slices.reverseRangeCmpFunc[ringhall/lift.Req] -/
def G_slices_reverseRangeCmpFunc_lift_Req_h (n : Nat) (v_data601 : (List S_lift_Req)) (v_a602 : Int) (v_b603 : Int) (v_cmp604 : (S_lift_Req → S_lift_Req → Option (Int))) : Option ((List S_lift_Req)) :=
  (G_slices_reverseRangeCmpFunc_lift_Req_h_L1 n  n v_a602 (wi .i64 (v_b603 - 1)) v_data601).bind fun v_o618 => match v_o618 with
  | .x0 v_z619 =>
    some v_z619
theorem G_slices_reverseRangeCmpFunc_lift_Req_h_ok (n : Nat) (v_data601 : (List S_lift_Req)) (v_a602 : Int) (v_b603 : Int) (v_cmp604 : (S_lift_Req → S_lift_Req → Option (Int))) (v_cmp604_g : FuncId) (v_cmp604_c : List PV) (v_cmp604_h : ∀ (x0 : S_lift_Req) (x1 : S_lift_Req) (r : Int), v_cmp604 x0 x1 = some r → Ret Try.prog v_cmp604_g ([eS_lift_Req x0, eS_lift_Req x1] ++ v_cmp604_c) ((eI .i64) r)) (r : (List S_lift_Req)) (h : G_slices_reverseRangeCmpFunc_lift_Req_h n v_data601 v_a602 v_b603 v_cmp604 = some r) : RetH Try.prog 46 [.srf 0, .d ((eI .i64) v_a602), .d ((eI .i64) v_b603), .d ((.clo v_cmp604_g v_cmp604_c))] [.row 26 3 (v_data601.map eS_lift_Req)] (.tup []) [.row 26 3 (r.map eS_lift_Req)] := by
  refine retH_run (n := 34) (fn := Try.f46) (c := bodyOf Try.f46) (by kernel_rfl) (by kernel_rfl) (by kernel_rfl) (by kernel_rfl) ?_
  have hF : KC 34 (FinH Try.prog Try.f46 [.row 26 3 (v_data601.map eS_lift_Req)] (.tup []) [.row 26 3 (r.map eS_lift_Req)]) := FinH.kc' (by kernel_rfl)
  unfold G_slices_reverseRangeCmpFunc_lift_Req_h at h
  obtain ⟨v_o618, h449, h⟩ := bind_some h
  refine pkk_sound TTok mix hF 6 (hs := [.n n]) (ts := []) (s := [1, 0]) (l := [0, 8, 9]) (by kernel_rfl) (by kernel_rfl) .nil (G_slices_reverseRangeCmpFunc_lift_Req_h_L1_ok hF (.b 0 :: []) n  n v_a602 (wi .i64 (v_b603 - 1)) v_data601 _ h449 ?_)
  cases v_o618 with
  | x0 v_z619 =>
    try dsimp only at h
    obtain rfl := Option.some.inj h
    exact pendH_sound TTok mix 1 (hs := []) [1] (by kernel_rfl) (by kernel_rfl) (by kernel_rfl) .nil
inductive G_slices_partialInsertionSortCmpFunc_lift_Req_h_L1_R where
  | x0 (v_i650 : Int) (v_w651 : (List S_lift_Req))
def G_slices_partialInsertionSortCmpFunc_lift_Req_h_L1_ex : G_slices_partialInsertionSortCmpFunc_lift_Req_h_L1_R → Ex
  | .x0 _ _ => .exit 2
def G_slices_partialInsertionSortCmpFunc_lift_Req_h_L1_st (v_a634 : Int) (v_b635 : Int) (v_cmp636 : (S_lift_Req → S_lift_Req → Option (Int))) (v_j638 : Int) (v_cmp636_g : FuncId) (v_cmp636_c : (List PV)) : G_slices_partialInsertionSortCmpFunc_lift_Req_h_L1_R → PS
  | .x0 v_i650 v_w651 => ⟨(.srf 1 :: .d (.v (.int .i64 v_a634)) :: .d (.v (.int .i64 v_b635)) :: .d (.clo v_cmp636_g v_cmp636_c) :: dd :: dd :: dd :: dd :: dd :: .d (.v (.int .i64 v_i650)) :: .d (.v (.int .i64 v_j638)) :: (dds 130 [])), [.gh 0 (.srf 1), .row 26 3 (v_w651.map eS_lift_Req)]⟩
def G_slices_partialInsertionSortCmpFunc_lift_Req_h_L1_hd (v_a634 : Int) (v_b635 : Int) (v_cmp636 : (S_lift_Req → S_lift_Req → Option (Int))) (v_j638 : Int) (v_cmp636_g : FuncId) (v_cmp636_c : (List PV)) (v_i641 : Int) (v_w642 : (List S_lift_Req)) : PS := ⟨(.srf 1 :: .d (.v (.int .i64 v_a634)) :: .d (.v (.int .i64 v_b635)) :: .d (.clo v_cmp636_g v_cmp636_c) :: dd :: dd :: dd :: dd :: dd :: .d (.v (.int .i64 v_i641)) :: .d (.v (.int .i64 v_j638)) :: (dds 130 [])), [.gh 0 (.srf 1), .row 26 3 (v_w642.map eS_lift_Req)]⟩
def G_slices_partialInsertionSortCmpFunc_lift_Req_h_L1 (n : Nat) (v_a634 : Int) (v_b635 : Int) (v_cmp636 : (S_lift_Req → S_lift_Req → Option (Int))) (v_j638 : Int) : Nat → Int → (List S_lift_Req) → Option G_slices_partialInsertionSortCmpFunc_lift_Req_h_L1_R
  | 0, _, _ => none
  | k + 1, v_i641, v_w642 =>
    if v_i641 < v_b635 then
     if 0 ≤ v_i641 ∧ (v_i641).toNat < v_w642.length then
      (v_w642[(v_i641).toNat]?).bind fun (v_y647 : S_lift_Req) =>
      if 0 ≤ (wi .i64 (v_i641 - 1)) ∧ ((wi .i64 (v_i641 - 1))).toNat < v_w642.length then
       (v_w642[((wi .i64 (v_i641 - 1))).toNat]?).bind fun (v_y648 : S_lift_Req) =>
       (v_cmp636 v_y647 v_y648).bind fun (v_r649 : (Int)) =>
       if v_r649 < 0 then
        some (.x0 v_i641 v_w642)
       else
        G_slices_partialInsertionSortCmpFunc_lift_Req_h_L1 n v_a634 v_b635 v_cmp636 v_j638 k (wi .i64 (v_i641 + 1)) v_w642
      else none
     else none
    else
     some (.x0 v_i641 v_w642)
theorem G_slices_partialInsertionSortCmpFunc_lift_Req_h_L1_ok {Fi : Ex → PS → Prop} (hF : KC 141 Fi) (ks : List Fr) (n : Nat) (v_a634 : Int) (v_b635 : Int) (v_cmp636 : (S_lift_Req → S_lift_Req → Option (Int))) (v_j638 : Int) (v_cmp636_g : FuncId) (v_cmp636_c : (List PV)) (v_cmp636_h : ∀ (x0 : S_lift_Req) (x1 : S_lift_Req) (r : Int), v_cmp636 x0 x1 = some r → Ret Try.prog v_cmp636_g ([eS_lift_Req x0, eS_lift_Req x1] ++ v_cmp636_c) ((eI .i64) r)) : ∀ (k : Nat) (v_i641 : Int) (v_w642 : (List S_lift_Req)) (o : G_slices_partialInsertionSortCmpFunc_lift_Req_h_L1_R), G_slices_partialInsertionSortCmpFunc_lift_Req_h_L1 n v_a634 v_b635 v_cmp636 v_j638 k v_i641 v_w642 = some o → RunE Try.prog 141 Fi ks (G_slices_partialInsertionSortCmpFunc_lift_Req_h_L1_ex o) (G_slices_partialInsertionSortCmpFunc_lift_Req_h_L1_st v_a634 v_b635 v_cmp636 v_j638 v_cmp636_g v_cmp636_c o) → RunE Try.prog 141 Fi (.l k (cP (cB (cL (cB (cL (cR (cP (cB (cR (cL (cR (cR (bodyOf Try.f47))))))))))))) :: ks) .normal (G_slices_partialInsertionSortCmpFunc_lift_Req_h_L1_hd v_a634 v_b635 v_cmp636 v_j638 v_cmp636_g v_cmp636_c v_i641 v_w642)
  | 0, v_i641, v_w642, o, h, q => by rw [G_slices_partialInsertionSortCmpFunc_lift_Req_h_L1] at h; cases h
  | k + 1, v_i641, v_w642, o, h, q => by
    rw [G_slices_partialInsertionSortCmpFunc_lift_Req_h_L1] at h
    by_cases h464 : v_i641 < v_b635
    · rw [if_pos h464] at h
      by_cases h465 : 0 ≤ v_i641 ∧ (v_i641).toNat < v_w642.length
      · rw [if_pos h465] at h
        obtain ⟨v_y647, h466, h⟩ := bind_some h
        by_cases h467 : 0 ≤ (wi .i64 (v_i641 - 1)) ∧ ((wi .i64 (v_i641 - 1))).toNat < v_w642.length
        · rw [if_pos h467] at h
          obtain ⟨v_y648, h468, h⟩ := bind_some h
          obtain ⟨v_r649, h469, h⟩ := bind_some h
          by_cases h470 : v_r649 < 0
          · rw [if_pos h470] at h
            cases h
            exact pkk_sound TTok mix hF 8 (hs := [.t true, .c, .c, .c, .c, .y (eS_lift_Req v_y647), .c, .c, .c, .c, .c, .y (eS_lift_Req v_y648), .c, .r ((eI .i64) v_r649), .c, .c, .t false]) (ts := []) (s := [0, 1]) (l := [0, 1, 2, 3, 9, 10]) (by kernel_rfl) (by kernel_rfl) (.cons (dt h464) (.cons (idx_ob (f := eS_lift_Req) h465) (.cons (get_ob (f := eS_lift_Req) h466) (.cons (idx_ob (f := eS_lift_Req) h467) (.cons (get_ob (f := eS_lift_Req) h468) (.cons (v_cmp636_h v_y647 v_y648 _ h469) (.cons (bnf (dt h470)) .nil))))))) q
          · rw [if_neg h470] at h
            exact pkk_sound TTok mix hF 9 (hs := [.t true, .c, .c, .c, .c, .y (eS_lift_Req v_y647), .c, .c, .c, .c, .c, .y (eS_lift_Req v_y648), .c, .r ((eI .i64) v_r649), .c, .c, .t true]) (ts := []) (s := [0, 1]) (l := [0, 1, 2, 3, 9, 10]) (by kernel_rfl) (by kernel_rfl) (.cons (dt h464) (.cons (idx_ob (f := eS_lift_Req) h465) (.cons (get_ob (f := eS_lift_Req) h466) (.cons (idx_ob (f := eS_lift_Req) h467) (.cons (get_ob (f := eS_lift_Req) h468) (.cons (v_cmp636_h v_y647 v_y648 _ h469) (.cons (bnt (df h470)) .nil))))))) (G_slices_partialInsertionSortCmpFunc_lift_Req_h_L1_ok hF ks n v_a634 v_b635 v_cmp636 v_j638 v_cmp636_g v_cmp636_c v_cmp636_h k (wi .i64 (v_i641 + 1)) v_w642 _ h q)
        · rw [if_neg h467] at h; cases h
      · rw [if_neg h465] at h; cases h
    · rw [if_neg h464] at h
      cases h
      exact pkk_sound TTok mix hF 8 (hs := [.t false, .c, .c, .c, .c, .c, .c, .c, .c, .c, .c, .c, .c, .c]) (ts := []) (s := [0, 1]) (l := [0, 1, 2, 3, 9, 10]) (by kernel_rfl) (by kernel_rfl) (.cons (df h464) .nil) q
inductive G_slices_partialInsertionSortCmpFunc_lift_Req_h_L2_R where
  | x0 (v_w678 : (List S_lift_Req))
def G_slices_partialInsertionSortCmpFunc_lift_Req_h_L2_ex : G_slices_partialInsertionSortCmpFunc_lift_Req_h_L2_R → Ex
  | .x0 _ => .exit 4
def G_slices_partialInsertionSortCmpFunc_lift_Req_h_L2_st (v_a634 : Int) (v_b635 : Int) (v_cmp636 : (S_lift_Req → S_lift_Req → Option (Int))) (v_z655 : Int) (v_j638 : Int) (v_cmp636_g : FuncId) (v_cmp636_c : (List PV)) : G_slices_partialInsertionSortCmpFunc_lift_Req_h_L2_R → PS
  | .x0 v_w678 => ⟨(.srf 1 :: .d (.v (.int .i64 v_a634)) :: .d (.v (.int .i64 v_b635)) :: .d (.clo v_cmp636_g v_cmp636_c) :: dd :: dd :: dd :: dd :: dd :: .d (.v (.int .i64 v_z655)) :: .d (.v (.int .i64 v_j638)) :: (dds 130 [])), [.gh 0 (.srf 1), .row 26 3 (v_w678.map eS_lift_Req)]⟩
def G_slices_partialInsertionSortCmpFunc_lift_Req_h_L2_hd (v_a634 : Int) (v_b635 : Int) (v_cmp636 : (S_lift_Req → S_lift_Req → Option (Int))) (v_z655 : Int) (v_j638 : Int) (v_cmp636_g : FuncId) (v_cmp636_c : (List PV)) (v_j665 : Int) (v_w666 : (List S_lift_Req)) : PS := ⟨(.srf 1 :: .d (.v (.int .i64 v_a634)) :: .d (.v (.int .i64 v_b635)) :: .d (.clo v_cmp636_g v_cmp636_c) :: dd :: dd :: dd :: dd :: dd :: .d (.v (.int .i64 v_z655)) :: .d (.v (.int .i64 v_j638)) :: .d (.v (.int .i64 v_j665)) :: (dds 129 [])), [.gh 0 (.srf 1), .row 26 3 (v_w666.map eS_lift_Req)]⟩
def G_slices_partialInsertionSortCmpFunc_lift_Req_h_L2 (n : Nat) (v_a634 : Int) (v_b635 : Int) (v_cmp636 : (S_lift_Req → S_lift_Req → Option (Int))) (v_z655 : Int) (v_j638 : Int) : Nat → Int → (List S_lift_Req) → Option G_slices_partialInsertionSortCmpFunc_lift_Req_h_L2_R
  | 0, _, _ => none
  | k + 1, v_j665, v_w666 =>
    if v_j665 ≥ 1 then
     if 0 ≤ v_j665 ∧ (v_j665).toNat < v_w666.length then
      (v_w666[(v_j665).toNat]?).bind fun (v_y675 : S_lift_Req) =>
      if 0 ≤ (wi .i64 (v_j665 - 1)) ∧ ((wi .i64 (v_j665 - 1))).toNat < v_w666.length then
       (v_w666[((wi .i64 (v_j665 - 1))).toNat]?).bind fun (v_y676 : S_lift_Req) =>
       (v_cmp636 v_y675 v_y676).bind fun (v_r677 : (Int)) =>
       if v_r677 < 0 then
        if 0 ≤ (wi .i64 (v_j665 - 1)) ∧ ((wi .i64 (v_j665 - 1))).toNat < v_w666.length then
         (v_w666[((wi .i64 (v_j665 - 1))).toNat]?).bind fun (v_y679 : S_lift_Req) =>
         if 0 ≤ v_j665 ∧ (v_j665).toNat < v_w666.length then
          (v_w666[(v_j665).toNat]?).bind fun (v_y680 : S_lift_Req) =>
          if 0 ≤ v_j665 ∧ (v_j665).toNat < v_w666.length then
           (v_w666[(v_j665).toNat]?).bind fun (v_y681 : S_lift_Req) =>
           if 0 ≤ (wi .i64 (v_j665 - 1)) ∧ ((wi .i64 (v_j665 - 1))).toNat < (v_w666.set (v_j665).toNat v_y679).length then
            ((v_w666.set (v_j665).toNat v_y679)[((wi .i64 (v_j665 - 1))).toNat]?).bind fun (v_y682 : S_lift_Req) =>
            G_slices_partialInsertionSortCmpFunc_lift_Req_h_L2 n v_a634 v_b635 v_cmp636 v_z655 v_j638 k (wi .i64 (v_j665 - 1)) ((v_w666.set (v_j665).toNat v_y679).set ((wi .i64 (v_j665 - 1))).toNat v_y680)
           else none
          else none
         else none
        else none
       else
        some (.x0 v_w666)
      else none
     else none
    else
     some (.x0 v_w666)
theorem G_slices_partialInsertionSortCmpFunc_lift_Req_h_L2_ok {Fi : Ex → PS → Prop} (hF : KC 141 Fi) (ks : List Fr) (n : Nat) (v_a634 : Int) (v_b635 : Int) (v_cmp636 : (S_lift_Req → S_lift_Req → Option (Int))) (v_z655 : Int) (v_j638 : Int) (v_cmp636_g : FuncId) (v_cmp636_c : (List PV)) (v_cmp636_h : ∀ (x0 : S_lift_Req) (x1 : S_lift_Req) (r : Int), v_cmp636 x0 x1 = some r → Ret Try.prog v_cmp636_g ([eS_lift_Req x0, eS_lift_Req x1] ++ v_cmp636_c) ((eI .i64) r)) : ∀ (k : Nat) (v_j665 : Int) (v_w666 : (List S_lift_Req)) (o : G_slices_partialInsertionSortCmpFunc_lift_Req_h_L2_R), G_slices_partialInsertionSortCmpFunc_lift_Req_h_L2 n v_a634 v_b635 v_cmp636 v_z655 v_j638 k v_j665 v_w666 = some o → RunE Try.prog 141 Fi ks (G_slices_partialInsertionSortCmpFunc_lift_Req_h_L2_ex o) (G_slices_partialInsertionSortCmpFunc_lift_Req_h_L2_st v_a634 v_b635 v_cmp636 v_z655 v_j638 v_cmp636_g v_cmp636_c o) → RunE Try.prog 141 Fi (.l k (cP (cB (cR (cT (cR (cL (cR (cR (cR (cR (cB (cL (cR (cP (cB (cR (cL (cR (cR (bodyOf Try.f47)))))))))))))))))))) :: ks) .normal (G_slices_partialInsertionSortCmpFunc_lift_Req_h_L2_hd v_a634 v_b635 v_cmp636 v_z655 v_j638 v_cmp636_g v_cmp636_c v_j665 v_w666)
  | 0, v_j665, v_w666, o, h, q => by rw [G_slices_partialInsertionSortCmpFunc_lift_Req_h_L2] at h; cases h
  | k + 1, v_j665, v_w666, o, h, q => by
    rw [G_slices_partialInsertionSortCmpFunc_lift_Req_h_L2] at h
    by_cases h483 : v_j665 ≥ 1
    · rw [if_pos h483] at h
      by_cases h498 : 0 ≤ v_j665 ∧ (v_j665).toNat < v_w666.length
      · rw [if_pos h498] at h
        obtain ⟨v_y675, h499, h⟩ := bind_some h
        by_cases h500 : 0 ≤ (wi .i64 (v_j665 - 1)) ∧ ((wi .i64 (v_j665 - 1))).toNat < v_w666.length
        · rw [if_pos h500] at h
          obtain ⟨v_y676, h501, h⟩ := bind_some h
          obtain ⟨v_r677, h502, h⟩ := bind_some h
          by_cases h503 : v_r677 < 0
          · rw [if_pos h503] at h
            by_cases h504 : 0 ≤ (wi .i64 (v_j665 - 1)) ∧ ((wi .i64 (v_j665 - 1))).toNat < v_w666.length
            · rw [if_pos h504] at h
              obtain ⟨v_y679, h505, h⟩ := bind_some h
              by_cases h506 : 0 ≤ v_j665 ∧ (v_j665).toNat < v_w666.length
              · rw [if_pos h506] at h
                obtain ⟨v_y680, h507, h⟩ := bind_some h
                by_cases h508 : 0 ≤ v_j665 ∧ (v_j665).toNat < v_w666.length
                · rw [if_pos h508] at h
                  obtain ⟨v_y681, h509, h⟩ := bind_some h
                  by_cases h510 : 0 ≤ (wi .i64 (v_j665 - 1)) ∧ ((wi .i64 (v_j665 - 1))).toNat < (v_w666.set (v_j665).toNat v_y679).length
                  · rw [if_pos h510] at h
                    obtain ⟨v_y682, h511, h⟩ := bind_some h
                    exact pkk_sound TTok mix hF 16 (hs := [.t true, .y (eS_lift_Req v_y675), .y (eS_lift_Req v_y676), .r ((eI .i64) v_r677), .t false, .y (eS_lift_Req v_y679), .y (eS_lift_Req v_y680), .w ((v_w666.set (v_j665).toNat v_y679).map eS_lift_Req), .y (eS_lift_Req v_y681), .w (((v_w666.set (v_j665).toNat v_y679).set ((wi .i64 (v_j665 - 1))).toNat v_y680).map eS_lift_Req), .y (eS_lift_Req v_y682)]) (ts := []) (s := [0, 1]) (l := [0, 1, 2, 3, 9, 10, 11]) (by kernel_rfl) (by kernel_rfl) (.cons (dt h483) (.cons (idx_ob (f := eS_lift_Req) h498) (.cons (get_ob (f := eS_lift_Req) h499) (.cons (idx_ob (f := eS_lift_Req) h500) (.cons (get_ob (f := eS_lift_Req) h501) (.cons (v_cmp636_h v_y675 v_y676 _ h502) (.cons (bnf (dt h503)) (.cons (idx_ob (f := eS_lift_Req) h504) (.cons (get_ob (f := eS_lift_Req) h505) (.cons (idx_ob (f := eS_lift_Req) h506) (.cons (get_ob (f := eS_lift_Req) h507) (.cons (idx_ob (f := eS_lift_Req) h508) (.cons (get_ob (f := eS_lift_Req) h509) (.cons (Eq.refl (pcells (.agg [.v (.int .i64 v_y679.fSector), .sl (v_y679.fData.map (eI .u8)), .v (.bool v_y679.fBarrier)]))) (.cons (set_ob (f := eS_lift_Req) (l := v_w666) (k := (v_j665).toNat) (z := v_y679) (p := .agg [.v (.int .i64 v_y679.fSector), .sl (v_y679.fData.map (eI .u8)), .v (.bool v_y679.fBarrier)]) rfl) (.cons (idx_ob (f := eS_lift_Req) h510) (.cons (get_ob (f := eS_lift_Req) h511) (.cons (Eq.refl (pcells (.agg [.v (.int .i64 v_y680.fSector), .sl (v_y680.fData.map (eI .u8)), .v (.bool v_y680.fBarrier)]))) (.cons (set_ob (f := eS_lift_Req) (l := (v_w666.set (v_j665).toNat v_y679)) (k := ((wi .i64 (v_j665 - 1))).toNat) (z := v_y680) (p := .agg [.v (.int .i64 v_y680.fSector), .sl (v_y680.fData.map (eI .u8)), .v (.bool v_y680.fBarrier)]) rfl) .nil))))))))))))))))))) (G_slices_partialInsertionSortCmpFunc_lift_Req_h_L2_ok hF ks n v_a634 v_b635 v_cmp636 v_z655 v_j638 v_cmp636_g v_cmp636_c v_cmp636_h k (wi .i64 (v_j665 - 1)) ((v_w666.set (v_j665).toNat v_y679).set ((wi .i64 (v_j665 - 1))).toNat v_y680) _ h q)
                  · rw [if_neg h510] at h; cases h
                · rw [if_neg h508] at h; cases h
              · rw [if_neg h506] at h; cases h
            · rw [if_neg h504] at h; cases h
          · rw [if_neg h503] at h
            cases h
            exact pkk_sound TTok mix hF 17 (hs := [.t true, .y (eS_lift_Req v_y675), .y (eS_lift_Req v_y676), .r ((eI .i64) v_r677), .t true]) (ts := []) (s := [0, 1]) (l := [0, 1, 2, 3, 9, 10]) (by kernel_rfl) (by kernel_rfl) (.cons (dt h483) (.cons (idx_ob (f := eS_lift_Req) h498) (.cons (get_ob (f := eS_lift_Req) h499) (.cons (idx_ob (f := eS_lift_Req) h500) (.cons (get_ob (f := eS_lift_Req) h501) (.cons (v_cmp636_h v_y675 v_y676 _ h502) (.cons (bnt (df h503)) .nil))))))) q
        · rw [if_neg h500] at h; cases h
      · rw [if_neg h498] at h; cases h
    · rw [if_neg h483] at h
      cases h
      exact pkk_sound TTok mix hF 8 (hs := [.t false]) (ts := []) (s := [0, 1]) (l := [0, 1, 2, 3, 9, 10]) (by kernel_rfl) (by kernel_rfl) (.cons (df h483) .nil) q
inductive G_slices_partialInsertionSortCmpFunc_lift_Req_h_L3_R where
  | x0 (v_w699 : (List S_lift_Req))
def G_slices_partialInsertionSortCmpFunc_lift_Req_h_L3_ex : G_slices_partialInsertionSortCmpFunc_lift_Req_h_L3_R → Ex
  | .x0 _ => .exit 6
def G_slices_partialInsertionSortCmpFunc_lift_Req_h_L3_st (v_a634 : Int) (v_b635 : Int) (v_cmp636 : (S_lift_Req → S_lift_Req → Option (Int))) (v_z655 : Int) (v_j638 : Int) (v_cmp636_g : FuncId) (v_cmp636_c : (List PV)) : G_slices_partialInsertionSortCmpFunc_lift_Req_h_L3_R → PS
  | .x0 v_w699 => ⟨(.srf 1 :: .d (.v (.int .i64 v_a634)) :: .d (.v (.int .i64 v_b635)) :: .d (.clo v_cmp636_g v_cmp636_c) :: dd :: dd :: dd :: dd :: dd :: .d (.v (.int .i64 v_z655)) :: .d (.v (.int .i64 v_j638)) :: (dds 130 [])), [.gh 0 (.srf 1), .row 26 3 (v_w699.map eS_lift_Req)]⟩
def G_slices_partialInsertionSortCmpFunc_lift_Req_h_L3_hd (v_a634 : Int) (v_b635 : Int) (v_cmp636 : (S_lift_Req → S_lift_Req → Option (Int))) (v_z655 : Int) (v_j638 : Int) (v_cmp636_g : FuncId) (v_cmp636_c : (List PV)) (v_j686 : Int) (v_w687 : (List S_lift_Req)) : PS := ⟨(.srf 1 :: .d (.v (.int .i64 v_a634)) :: .d (.v (.int .i64 v_b635)) :: .d (.clo v_cmp636_g v_cmp636_c) :: dd :: dd :: dd :: dd :: dd :: .d (.v (.int .i64 v_z655)) :: .d (.v (.int .i64 v_j638)) :: dd :: .d (.v (.int .i64 v_j686)) :: (dds 128 [])), [.gh 0 (.srf 1), .row 26 3 (v_w687.map eS_lift_Req)]⟩
def G_slices_partialInsertionSortCmpFunc_lift_Req_h_L3 (n : Nat) (v_a634 : Int) (v_b635 : Int) (v_cmp636 : (S_lift_Req → S_lift_Req → Option (Int))) (v_z655 : Int) (v_j638 : Int) : Nat → Int → (List S_lift_Req) → Option G_slices_partialInsertionSortCmpFunc_lift_Req_h_L3_R
  | 0, _, _ => none
  | k + 1, v_j686, v_w687 =>
    if v_j686 < v_b635 then
     if 0 ≤ v_j686 ∧ (v_j686).toNat < v_w687.length then
      (v_w687[(v_j686).toNat]?).bind fun (v_y696 : S_lift_Req) =>
      if 0 ≤ (wi .i64 (v_j686 - 1)) ∧ ((wi .i64 (v_j686 - 1))).toNat < v_w687.length then
       (v_w687[((wi .i64 (v_j686 - 1))).toNat]?).bind fun (v_y697 : S_lift_Req) =>
       (v_cmp636 v_y696 v_y697).bind fun (v_r698 : (Int)) =>
       if v_r698 < 0 then
        if 0 ≤ (wi .i64 (v_j686 - 1)) ∧ ((wi .i64 (v_j686 - 1))).toNat < v_w687.length then
         (v_w687[((wi .i64 (v_j686 - 1))).toNat]?).bind fun (v_y700 : S_lift_Req) =>
         if 0 ≤ v_j686 ∧ (v_j686).toNat < v_w687.length then
          (v_w687[(v_j686).toNat]?).bind fun (v_y701 : S_lift_Req) =>
          if 0 ≤ v_j686 ∧ (v_j686).toNat < v_w687.length then
           (v_w687[(v_j686).toNat]?).bind fun (v_y702 : S_lift_Req) =>
           if 0 ≤ (wi .i64 (v_j686 - 1)) ∧ ((wi .i64 (v_j686 - 1))).toNat < (v_w687.set (v_j686).toNat v_y700).length then
            ((v_w687.set (v_j686).toNat v_y700)[((wi .i64 (v_j686 - 1))).toNat]?).bind fun (v_y703 : S_lift_Req) =>
            G_slices_partialInsertionSortCmpFunc_lift_Req_h_L3 n v_a634 v_b635 v_cmp636 v_z655 v_j638 k (wi .i64 (v_j686 + 1)) ((v_w687.set (v_j686).toNat v_y700).set ((wi .i64 (v_j686 - 1))).toNat v_y701)
           else none
          else none
         else none
        else none
       else
        some (.x0 v_w687)
      else none
     else none
    else
     some (.x0 v_w687)
theorem G_slices_partialInsertionSortCmpFunc_lift_Req_h_L3_ok {Fi : Ex → PS → Prop} (hF : KC 141 Fi) (ks : List Fr) (n : Nat) (v_a634 : Int) (v_b635 : Int) (v_cmp636 : (S_lift_Req → S_lift_Req → Option (Int))) (v_z655 : Int) (v_j638 : Int) (v_cmp636_g : FuncId) (v_cmp636_c : (List PV)) (v_cmp636_h : ∀ (x0 : S_lift_Req) (x1 : S_lift_Req) (r : Int), v_cmp636 x0 x1 = some r → Ret Try.prog v_cmp636_g ([eS_lift_Req x0, eS_lift_Req x1] ++ v_cmp636_c) ((eI .i64) r)) : ∀ (k : Nat) (v_j686 : Int) (v_w687 : (List S_lift_Req)) (o : G_slices_partialInsertionSortCmpFunc_lift_Req_h_L3_R), G_slices_partialInsertionSortCmpFunc_lift_Req_h_L3 n v_a634 v_b635 v_cmp636 v_z655 v_j638 k v_j686 v_w687 = some o → RunE Try.prog 141 Fi ks (G_slices_partialInsertionSortCmpFunc_lift_Req_h_L3_ex o) (G_slices_partialInsertionSortCmpFunc_lift_Req_h_L3_st v_a634 v_b635 v_cmp636 v_z655 v_j638 v_cmp636_g v_cmp636_c o) → RunE Try.prog 141 Fi (.l k (cP (cB (cR (cT (cR (cR (cR (cR (cR (cR (cB (cL (cR (cP (cB (cR (cL (cR (cR (bodyOf Try.f47)))))))))))))))))))) :: ks) .normal (G_slices_partialInsertionSortCmpFunc_lift_Req_h_L3_hd v_a634 v_b635 v_cmp636 v_z655 v_j638 v_cmp636_g v_cmp636_c v_j686 v_w687)
  | 0, v_j686, v_w687, o, h, q => by rw [G_slices_partialInsertionSortCmpFunc_lift_Req_h_L3] at h; cases h
  | k + 1, v_j686, v_w687, o, h, q => by
    rw [G_slices_partialInsertionSortCmpFunc_lift_Req_h_L3] at h
    by_cases h514 : v_j686 < v_b635
    · rw [if_pos h514] at h
      by_cases h529 : 0 ≤ v_j686 ∧ (v_j686).toNat < v_w687.length
      · rw [if_pos h529] at h
        obtain ⟨v_y696, h530, h⟩ := bind_some h
        by_cases h531 : 0 ≤ (wi .i64 (v_j686 - 1)) ∧ ((wi .i64 (v_j686 - 1))).toNat < v_w687.length
        · rw [if_pos h531] at h
          obtain ⟨v_y697, h532, h⟩ := bind_some h
          obtain ⟨v_r698, h533, h⟩ := bind_some h
          by_cases h534 : v_r698 < 0
          · rw [if_pos h534] at h
            by_cases h535 : 0 ≤ (wi .i64 (v_j686 - 1)) ∧ ((wi .i64 (v_j686 - 1))).toNat < v_w687.length
            · rw [if_pos h535] at h
              obtain ⟨v_y700, h536, h⟩ := bind_some h
              by_cases h537 : 0 ≤ v_j686 ∧ (v_j686).toNat < v_w687.length
              · rw [if_pos h537] at h
                obtain ⟨v_y701, h538, h⟩ := bind_some h
                by_cases h539 : 0 ≤ v_j686 ∧ (v_j686).toNat < v_w687.length
                · rw [if_pos h539] at h
                  obtain ⟨v_y702, h540, h⟩ := bind_some h
                  by_cases h541 : 0 ≤ (wi .i64 (v_j686 - 1)) ∧ ((wi .i64 (v_j686 - 1))).toNat < (v_w687.set (v_j686).toNat v_y700).length
                  · rw [if_pos h541] at h
                    obtain ⟨v_y703, h542, h⟩ := bind_some h
                    exact pkk_sound TTok mix hF 16 (hs := [.t true, .y (eS_lift_Req v_y696), .y (eS_lift_Req v_y697), .r ((eI .i64) v_r698), .t false, .y (eS_lift_Req v_y700), .y (eS_lift_Req v_y701), .w ((v_w687.set (v_j686).toNat v_y700).map eS_lift_Req), .y (eS_lift_Req v_y702), .w (((v_w687.set (v_j686).toNat v_y700).set ((wi .i64 (v_j686 - 1))).toNat v_y701).map eS_lift_Req), .y (eS_lift_Req v_y703)]) (ts := []) (s := [0, 1]) (l := [0, 1, 2, 3, 9, 10, 12]) (by kernel_rfl) (by kernel_rfl) (.cons (dt h514) (.cons (idx_ob (f := eS_lift_Req) h529) (.cons (get_ob (f := eS_lift_Req) h530) (.cons (idx_ob (f := eS_lift_Req) h531) (.cons (get_ob (f := eS_lift_Req) h532) (.cons (v_cmp636_h v_y696 v_y697 _ h533) (.cons (bnf (dt h534)) (.cons (idx_ob (f := eS_lift_Req) h535) (.cons (get_ob (f := eS_lift_Req) h536) (.cons (idx_ob (f := eS_lift_Req) h537) (.cons (get_ob (f := eS_lift_Req) h538) (.cons (idx_ob (f := eS_lift_Req) h539) (.cons (get_ob (f := eS_lift_Req) h540) (.cons (Eq.refl (pcells (.agg [.v (.int .i64 v_y700.fSector), .sl (v_y700.fData.map (eI .u8)), .v (.bool v_y700.fBarrier)]))) (.cons (set_ob (f := eS_lift_Req) (l := v_w687) (k := (v_j686).toNat) (z := v_y700) (p := .agg [.v (.int .i64 v_y700.fSector), .sl (v_y700.fData.map (eI .u8)), .v (.bool v_y700.fBarrier)]) rfl) (.cons (idx_ob (f := eS_lift_Req) h541) (.cons (get_ob (f := eS_lift_Req) h542) (.cons (Eq.refl (pcells (.agg [.v (.int .i64 v_y701.fSector), .sl (v_y701.fData.map (eI .u8)), .v (.bool v_y701.fBarrier)]))) (.cons (set_ob (f := eS_lift_Req) (l := (v_w687.set (v_j686).toNat v_y700)) (k := ((wi .i64 (v_j686 - 1))).toNat) (z := v_y701) (p := .agg [.v (.int .i64 v_y701.fSector), .sl (v_y701.fData.map (eI .u8)), .v (.bool v_y701.fBarrier)]) rfl) .nil))))))))))))))))))) (G_slices_partialInsertionSortCmpFunc_lift_Req_h_L3_ok hF ks n v_a634 v_b635 v_cmp636 v_z655 v_j638 v_cmp636_g v_cmp636_c v_cmp636_h k (wi .i64 (v_j686 + 1)) ((v_w687.set (v_j686).toNat v_y700).set ((wi .i64 (v_j686 - 1))).toNat v_y701) _ h q)
                  · rw [if_neg h541] at h; cases h
                · rw [if_neg h539] at h; cases h
              · rw [if_neg h537] at h; cases h
            · rw [if_neg h535] at h; cases h
          · rw [if_neg h534] at h
            cases h
            exact pkk_sound TTok mix hF 17 (hs := [.t true, .y (eS_lift_Req v_y696), .y (eS_lift_Req v_y697), .r ((eI .i64) v_r698), .t true]) (ts := []) (s := [0, 1]) (l := [0, 1, 2, 3, 9, 10]) (by kernel_rfl) (by kernel_rfl) (.cons (dt h514) (.cons (idx_ob (f := eS_lift_Req) h529) (.cons (get_ob (f := eS_lift_Req) h530) (.cons (idx_ob (f := eS_lift_Req) h531) (.cons (get_ob (f := eS_lift_Req) h532) (.cons (v_cmp636_h v_y696 v_y697 _ h533) (.cons (bnt (df h534)) .nil))))))) q
        · rw [if_neg h531] at h; cases h
      · rw [if_neg h529] at h; cases h
    · rw [if_neg h514] at h
      cases h
      exact pkk_sound TTok mix hF 8 (hs := [.t false]) (ts := []) (s := [0, 1]) (l := [0, 1, 2, 3, 9, 10]) (by kernel_rfl) (by kernel_rfl) (.cons (df h514) .nil) q
inductive G_slices_partialInsertionSortCmpFunc_lift_Req_h_L4_R where
  | x0 (v_w720 : (List S_lift_Req))
def G_slices_partialInsertionSortCmpFunc_lift_Req_h_L4_ex : G_slices_partialInsertionSortCmpFunc_lift_Req_h_L4_R → Ex
  | .x0 _ => .exit 6
def G_slices_partialInsertionSortCmpFunc_lift_Req_h_L4_st (v_a634 : Int) (v_b635 : Int) (v_cmp636 : (S_lift_Req → S_lift_Req → Option (Int))) (v_z655 : Int) (v_j638 : Int) (v_cmp636_g : FuncId) (v_cmp636_c : (List PV)) : G_slices_partialInsertionSortCmpFunc_lift_Req_h_L4_R → PS
  | .x0 v_w720 => ⟨(.srf 1 :: .d (.v (.int .i64 v_a634)) :: .d (.v (.int .i64 v_b635)) :: .d (.clo v_cmp636_g v_cmp636_c) :: dd :: dd :: dd :: dd :: dd :: .d (.v (.int .i64 v_z655)) :: .d (.v (.int .i64 v_j638)) :: (dds 130 [])), [.gh 0 (.srf 1), .row 26 3 (v_w720.map eS_lift_Req)]⟩
def G_slices_partialInsertionSortCmpFunc_lift_Req_h_L4_hd (v_a634 : Int) (v_b635 : Int) (v_cmp636 : (S_lift_Req → S_lift_Req → Option (Int))) (v_z655 : Int) (v_j638 : Int) (v_cmp636_g : FuncId) (v_cmp636_c : (List PV)) (v_j707 : Int) (v_w708 : (List S_lift_Req)) : PS := ⟨(.srf 1 :: .d (.v (.int .i64 v_a634)) :: .d (.v (.int .i64 v_b635)) :: .d (.clo v_cmp636_g v_cmp636_c) :: dd :: dd :: dd :: dd :: dd :: .d (.v (.int .i64 v_z655)) :: .d (.v (.int .i64 v_j638)) :: dd :: .d (.v (.int .i64 v_j707)) :: (dds 128 [])), [.gh 0 (.srf 1), .row 26 3 (v_w708.map eS_lift_Req)]⟩
def G_slices_partialInsertionSortCmpFunc_lift_Req_h_L4 (n : Nat) (v_a634 : Int) (v_b635 : Int) (v_cmp636 : (S_lift_Req → S_lift_Req → Option (Int))) (v_z655 : Int) (v_j638 : Int) : Nat → Int → (List S_lift_Req) → Option G_slices_partialInsertionSortCmpFunc_lift_Req_h_L4_R
  | 0, _, _ => none
  | k + 1, v_j707, v_w708 =>
    if v_j707 < v_b635 then
     if 0 ≤ v_j707 ∧ (v_j707).toNat < v_w708.length then
      (v_w708[(v_j707).toNat]?).bind fun (v_y717 : S_lift_Req) =>
      if 0 ≤ (wi .i64 (v_j707 - 1)) ∧ ((wi .i64 (v_j707 - 1))).toNat < v_w708.length then
       (v_w708[((wi .i64 (v_j707 - 1))).toNat]?).bind fun (v_y718 : S_lift_Req) =>
       (v_cmp636 v_y717 v_y718).bind fun (v_r719 : (Int)) =>
       if v_r719 < 0 then
        if 0 ≤ (wi .i64 (v_j707 - 1)) ∧ ((wi .i64 (v_j707 - 1))).toNat < v_w708.length then
         (v_w708[((wi .i64 (v_j707 - 1))).toNat]?).bind fun (v_y721 : S_lift_Req) =>
         if 0 ≤ v_j707 ∧ (v_j707).toNat < v_w708.length then
          (v_w708[(v_j707).toNat]?).bind fun (v_y722 : S_lift_Req) =>
          if 0 ≤ v_j707 ∧ (v_j707).toNat < v_w708.length then
           (v_w708[(v_j707).toNat]?).bind fun (v_y723 : S_lift_Req) =>
           if 0 ≤ (wi .i64 (v_j707 - 1)) ∧ ((wi .i64 (v_j707 - 1))).toNat < (v_w708.set (v_j707).toNat v_y721).length then
            ((v_w708.set (v_j707).toNat v_y721)[((wi .i64 (v_j707 - 1))).toNat]?).bind fun (v_y724 : S_lift_Req) =>
            G_slices_partialInsertionSortCmpFunc_lift_Req_h_L4 n v_a634 v_b635 v_cmp636 v_z655 v_j638 k (wi .i64 (v_j707 + 1)) ((v_w708.set (v_j707).toNat v_y721).set ((wi .i64 (v_j707 - 1))).toNat v_y722)
           else none
          else none
         else none
        else none
       else
        some (.x0 v_w708)
      else none
     else none
    else
     some (.x0 v_w708)
theorem G_slices_partialInsertionSortCmpFunc_lift_Req_h_L4_ok {Fi : Ex → PS → Prop} (hF : KC 141 Fi) (ks : List Fr) (n : Nat) (v_a634 : Int) (v_b635 : Int) (v_cmp636 : (S_lift_Req → S_lift_Req → Option (Int))) (v_z655 : Int) (v_j638 : Int) (v_cmp636_g : FuncId) (v_cmp636_c : (List PV)) (v_cmp636_h : ∀ (x0 : S_lift_Req) (x1 : S_lift_Req) (r : Int), v_cmp636 x0 x1 = some r → Ret Try.prog v_cmp636_g ([eS_lift_Req x0, eS_lift_Req x1] ++ v_cmp636_c) ((eI .i64) r)) : ∀ (k : Nat) (v_j707 : Int) (v_w708 : (List S_lift_Req)) (o : G_slices_partialInsertionSortCmpFunc_lift_Req_h_L4_R), G_slices_partialInsertionSortCmpFunc_lift_Req_h_L4 n v_a634 v_b635 v_cmp636 v_z655 v_j638 k v_j707 v_w708 = some o → RunE Try.prog 141 Fi ks (G_slices_partialInsertionSortCmpFunc_lift_Req_h_L4_ex o) (G_slices_partialInsertionSortCmpFunc_lift_Req_h_L4_st v_a634 v_b635 v_cmp636 v_z655 v_j638 v_cmp636_g v_cmp636_c o) → RunE Try.prog 141 Fi (.l k (cP (cB (cR (cT (cR (cR (cR (cR (cR (cR (cB (cL (cR (cP (cB (cR (cL (cR (cR (bodyOf Try.f47)))))))))))))))))))) :: ks) .normal (G_slices_partialInsertionSortCmpFunc_lift_Req_h_L4_hd v_a634 v_b635 v_cmp636 v_z655 v_j638 v_cmp636_g v_cmp636_c v_j707 v_w708)
  | 0, v_j707, v_w708, o, h, q => by rw [G_slices_partialInsertionSortCmpFunc_lift_Req_h_L4] at h; cases h
  | k + 1, v_j707, v_w708, o, h, q => by
    rw [G_slices_partialInsertionSortCmpFunc_lift_Req_h_L4] at h
    by_cases h545 : v_j707 < v_b635
    · rw [if_pos h545] at h
      by_cases h560 : 0 ≤ v_j707 ∧ (v_j707).toNat < v_w708.length
      · rw [if_pos h560] at h
        obtain ⟨v_y717, h561, h⟩ := bind_some h
        by_cases h562 : 0 ≤ (wi .i64 (v_j707 - 1)) ∧ ((wi .i64 (v_j707 - 1))).toNat < v_w708.length
        · rw [if_pos h562] at h
          obtain ⟨v_y718, h563, h⟩ := bind_some h
          obtain ⟨v_r719, h564, h⟩ := bind_some h
          by_cases h565 : v_r719 < 0
          · rw [if_pos h565] at h
            by_cases h566 : 0 ≤ (wi .i64 (v_j707 - 1)) ∧ ((wi .i64 (v_j707 - 1))).toNat < v_w708.length
            · rw [if_pos h566] at h
              obtain ⟨v_y721, h567, h⟩ := bind_some h
              by_cases h568 : 0 ≤ v_j707 ∧ (v_j707).toNat < v_w708.length
              · rw [if_pos h568] at h
                obtain ⟨v_y722, h569, h⟩ := bind_some h
                by_cases h570 : 0 ≤ v_j707 ∧ (v_j707).toNat < v_w708.length
                · rw [if_pos h570] at h
                  obtain ⟨v_y723, h571, h⟩ := bind_some h
                  by_cases h572 : 0 ≤ (wi .i64 (v_j707 - 1)) ∧ ((wi .i64 (v_j707 - 1))).toNat < (v_w708.set (v_j707).toNat v_y721).length
                  · rw [if_pos h572] at h
                    obtain ⟨v_y724, h573, h⟩ := bind_some h
                    exact pkk_sound TTok mix hF 16 (hs := [.t true, .y (eS_lift_Req v_y717), .y (eS_lift_Req v_y718), .r ((eI .i64) v_r719), .t false, .y (eS_lift_Req v_y721), .y (eS_lift_Req v_y722), .w ((v_w708.set (v_j707).toNat v_y721).map eS_lift_Req), .y (eS_lift_Req v_y723), .w (((v_w708.set (v_j707).toNat v_y721).set ((wi .i64 (v_j707 - 1))).toNat v_y722).map eS_lift_Req), .y (eS_lift_Req v_y724)]) (ts := []) (s := [0, 1]) (l := [0, 1, 2, 3, 9, 10, 12]) (by kernel_rfl) (by kernel_rfl) (.cons (dt h545) (.cons (idx_ob (f := eS_lift_Req) h560) (.cons (get_ob (f := eS_lift_Req) h561) (.cons (idx_ob (f := eS_lift_Req) h562) (.cons (get_ob (f := eS_lift_Req) h563) (.cons (v_cmp636_h v_y717 v_y718 _ h564) (.cons (bnf (dt h565)) (.cons (idx_ob (f := eS_lift_Req) h566) (.cons (get_ob (f := eS_lift_Req) h567) (.cons (idx_ob (f := eS_lift_Req) h568) (.cons (get_ob (f := eS_lift_Req) h569) (.cons (idx_ob (f := eS_lift_Req) h570) (.cons (get_ob (f := eS_lift_Req) h571) (.cons (Eq.refl (pcells (.agg [.v (.int .i64 v_y721.fSector), .sl (v_y721.fData.map (eI .u8)), .v (.bool v_y721.fBarrier)]))) (.cons (set_ob (f := eS_lift_Req) (l := v_w708) (k := (v_j707).toNat) (z := v_y721) (p := .agg [.v (.int .i64 v_y721.fSector), .sl (v_y721.fData.map (eI .u8)), .v (.bool v_y721.fBarrier)]) rfl) (.cons (idx_ob (f := eS_lift_Req) h572) (.cons (get_ob (f := eS_lift_Req) h573) (.cons (Eq.refl (pcells (.agg [.v (.int .i64 v_y722.fSector), .sl (v_y722.fData.map (eI .u8)), .v (.bool v_y722.fBarrier)]))) (.cons (set_ob (f := eS_lift_Req) (l := (v_w708.set (v_j707).toNat v_y721)) (k := ((wi .i64 (v_j707 - 1))).toNat) (z := v_y722) (p := .agg [.v (.int .i64 v_y722.fSector), .sl (v_y722.fData.map (eI .u8)), .v (.bool v_y722.fBarrier)]) rfl) .nil))))))))))))))))))) (G_slices_partialInsertionSortCmpFunc_lift_Req_h_L4_ok hF ks n v_a634 v_b635 v_cmp636 v_z655 v_j638 v_cmp636_g v_cmp636_c v_cmp636_h k (wi .i64 (v_j707 + 1)) ((v_w708.set (v_j707).toNat v_y721).set ((wi .i64 (v_j707 - 1))).toNat v_y722) _ h q)
                  · rw [if_neg h572] at h; cases h
                · rw [if_neg h570] at h; cases h
              · rw [if_neg h568] at h; cases h
            · rw [if_neg h566] at h; cases h
          · rw [if_neg h565] at h
            cases h
            exact pkk_sound TTok mix hF 17 (hs := [.t true, .y (eS_lift_Req v_y717), .y (eS_lift_Req v_y718), .r ((eI .i64) v_r719), .t true]) (ts := []) (s := [0, 1]) (l := [0, 1, 2, 3, 9, 10]) (by kernel_rfl) (by kernel_rfl) (.cons (dt h545) (.cons (idx_ob (f := eS_lift_Req) h560) (.cons (get_ob (f := eS_lift_Req) h561) (.cons (idx_ob (f := eS_lift_Req) h562) (.cons (get_ob (f := eS_lift_Req) h563) (.cons (v_cmp636_h v_y717 v_y718 _ h564) (.cons (bnt (df h565)) .nil))))))) q
        · rw [if_neg h562] at h; cases h
      · rw [if_neg h560] at h; cases h
    · rw [if_neg h545] at h
      cases h
      exact pkk_sound TTok mix hF 8 (hs := [.t false]) (ts := []) (s := [0, 1]) (l := [0, 1, 2, 3, 9, 10]) (by kernel_rfl) (by kernel_rfl) (.cons (df h545) .nil) q
inductive G_slices_partialInsertionSortCmpFunc_lift_Req_h_L5_R where
  | x0 (v_x657 : Bool) (v_w658 : (List S_lift_Req))
  | x1 (v_w728 : (List S_lift_Req))
def G_slices_partialInsertionSortCmpFunc_lift_Req_h_L5_ex : G_slices_partialInsertionSortCmpFunc_lift_Req_h_L5_R → Ex
  | .x0 _ _ => .ret
  | .x1 _ => .exit 0
def G_slices_partialInsertionSortCmpFunc_lift_Req_h_L5_st (v_a634 : Int) (v_b635 : Int) (v_cmp636 : (S_lift_Req → S_lift_Req → Option (Int))) (v_cmp636_g : FuncId) (v_cmp636_c : (List PV)) : G_slices_partialInsertionSortCmpFunc_lift_Req_h_L5_R → PS
  | .x0 v_x657 v_w658 => ⟨(dds 8 (.d (.v (.bool v_x657)) :: (dds 132 []))), [.gh 0 (.srf 1), .row 26 3 (v_w658.map eS_lift_Req)]⟩
  | .x1 v_w728 => ⟨(dds 141 []), [.gh 0 (.srf 1), .row 26 3 (v_w728.map eS_lift_Req)]⟩
def G_slices_partialInsertionSortCmpFunc_lift_Req_h_L5_hd (v_a634 : Int) (v_b635 : Int) (v_cmp636 : (S_lift_Req → S_lift_Req → Option (Int))) (v_cmp636_g : FuncId) (v_cmp636_c : (List PV)) (v_i637 : Int) (v_j638 : Int) (v_w639 : (List S_lift_Req)) : PS := ⟨(.srf 1 :: .d (.v (.int .i64 v_a634)) :: .d (.v (.int .i64 v_b635)) :: .d (.clo v_cmp636_g v_cmp636_c) :: dd :: dd :: dd :: dd :: dd :: .d (.v (.int .i64 v_i637)) :: .d (.v (.int .i64 v_j638)) :: (dds 130 [])), [.gh 0 (.srf 1), .row 26 3 (v_w639.map eS_lift_Req)]⟩
def G_slices_partialInsertionSortCmpFunc_lift_Req_h_L5 (n : Nat) (v_a634 : Int) (v_b635 : Int) (v_cmp636 : (S_lift_Req → S_lift_Req → Option (Int))) : Nat → Int → Int → (List S_lift_Req) → Option G_slices_partialInsertionSortCmpFunc_lift_Req_h_L5_R
  | 0, _, _, _ => none
  | k + 1, v_i637, v_j638, v_w639 =>
    if v_j638 < 5 then
     (G_slices_partialInsertionSortCmpFunc_lift_Req_h_L1 n v_a634 v_b635 v_cmp636 v_j638 n v_i637 v_w639).bind fun v_o654 => match v_o654 with
     | .x0 v_z655 v_z656 =>
       if v_z655 = v_b635 then
        some (.x0 true v_z656)
       else
        if (wi .i64 (v_b635 - v_a634)) < 50 then
         some (.x0 false v_z656)
        else
         if 0 ≤ (wi .i64 (v_z655 - 1)) ∧ ((wi .i64 (v_z655 - 1))).toNat < v_z656.length then
          (v_z656[((wi .i64 (v_z655 - 1))).toNat]?).bind fun (v_y661 : S_lift_Req) =>
          if 0 ≤ v_z655 ∧ (v_z655).toNat < v_z656.length then
           (v_z656[(v_z655).toNat]?).bind fun (v_y662 : S_lift_Req) =>
           if 0 ≤ v_z655 ∧ (v_z655).toNat < v_z656.length then
            (v_z656[(v_z655).toNat]?).bind fun (v_y663 : S_lift_Req) =>
            if 0 ≤ (wi .i64 (v_z655 - 1)) ∧ ((wi .i64 (v_z655 - 1))).toNat < (v_z656.set (v_z655).toNat v_y661).length then
             ((v_z656.set (v_z655).toNat v_y661)[((wi .i64 (v_z655 - 1))).toNat]?).bind fun (v_y664 : S_lift_Req) =>
             if (wi .i64 (v_z655 - v_a634)) ≥ 2 then
              (G_slices_partialInsertionSortCmpFunc_lift_Req_h_L2 n v_a634 v_b635 v_cmp636 v_z655 v_j638 n (wi .i64 (v_z655 - 1)) ((v_z656.set (v_z655).toNat v_y661).set ((wi .i64 (v_z655 - 1))).toNat v_y662)).bind fun v_o684 => match v_o684 with
              | .x0 v_z685 =>
                if (wi .i64 (v_b635 - v_z655)) ≥ 2 then
                 (G_slices_partialInsertionSortCmpFunc_lift_Req_h_L3 n v_a634 v_b635 v_cmp636 v_z655 v_j638 n (wi .i64 (v_z655 + 1)) v_z685).bind fun v_o705 => match v_o705 with
                 | .x0 v_z706 =>
                   G_slices_partialInsertionSortCmpFunc_lift_Req_h_L5 n v_a634 v_b635 v_cmp636 k v_z655 (wi .i64 (v_j638 + 1)) v_z706
                else
                 G_slices_partialInsertionSortCmpFunc_lift_Req_h_L5 n v_a634 v_b635 v_cmp636 k v_z655 (wi .i64 (v_j638 + 1)) v_z685
             else
              if (wi .i64 (v_b635 - v_z655)) ≥ 2 then
               (G_slices_partialInsertionSortCmpFunc_lift_Req_h_L4 n v_a634 v_b635 v_cmp636 v_z655 v_j638 n (wi .i64 (v_z655 + 1)) ((v_z656.set (v_z655).toNat v_y661).set ((wi .i64 (v_z655 - 1))).toNat v_y662)).bind fun v_o726 => match v_o726 with
               | .x0 v_z727 =>
                 G_slices_partialInsertionSortCmpFunc_lift_Req_h_L5 n v_a634 v_b635 v_cmp636 k v_z655 (wi .i64 (v_j638 + 1)) v_z727
              else
               G_slices_partialInsertionSortCmpFunc_lift_Req_h_L5 n v_a634 v_b635 v_cmp636 k v_z655 (wi .i64 (v_j638 + 1)) ((v_z656.set (v_z655).toNat v_y661).set ((wi .i64 (v_z655 - 1))).toNat v_y662)
            else none
           else none
          else none
         else none
    else
     some (.x1 v_w639)
theorem G_slices_partialInsertionSortCmpFunc_lift_Req_h_L5_ok {Fi : Ex → PS → Prop} (hF : KC 141 Fi) (ks : List Fr) (n : Nat) (v_a634 : Int) (v_b635 : Int) (v_cmp636 : (S_lift_Req → S_lift_Req → Option (Int))) (v_cmp636_g : FuncId) (v_cmp636_c : (List PV)) (v_cmp636_h : ∀ (x0 : S_lift_Req) (x1 : S_lift_Req) (r : Int), v_cmp636 x0 x1 = some r → Ret Try.prog v_cmp636_g ([eS_lift_Req x0, eS_lift_Req x1] ++ v_cmp636_c) ((eI .i64) r)) : ∀ (k : Nat) (v_i637 : Int) (v_j638 : Int) (v_w639 : (List S_lift_Req)) (o : G_slices_partialInsertionSortCmpFunc_lift_Req_h_L5_R), G_slices_partialInsertionSortCmpFunc_lift_Req_h_L5 n v_a634 v_b635 v_cmp636 k v_i637 v_j638 v_w639 = some o → RunE Try.prog 141 Fi ks (G_slices_partialInsertionSortCmpFunc_lift_Req_h_L5_ex o) (G_slices_partialInsertionSortCmpFunc_lift_Req_h_L5_st v_a634 v_b635 v_cmp636 v_cmp636_g v_cmp636_c o) → RunE Try.prog 141 Fi (.l k (cP (cB (cR (cL (cR (cR (bodyOf Try.f47))))))) :: ks) .normal (G_slices_partialInsertionSortCmpFunc_lift_Req_h_L5_hd v_a634 v_b635 v_cmp636 v_cmp636_g v_cmp636_c v_i637 v_j638 v_w639)
  | 0, v_i637, v_j638, v_w639, o, h, q => by rw [G_slices_partialInsertionSortCmpFunc_lift_Req_h_L5] at h; cases h
  | k + 1, v_i637, v_j638, v_w639, o, h, q => by
    rw [G_slices_partialInsertionSortCmpFunc_lift_Req_h_L5] at h
    by_cases h457 : v_j638 < 5
    · rw [if_pos h457] at h
      obtain ⟨v_o654, h471, h⟩ := bind_some h
      refine pkk_sound TTok mix hF 11 (hs := [.t true, .n n]) (ts := []) (s := [0, 1]) (l := [0, 1, 2, 3, 9, 10]) (by kernel_rfl) (by kernel_rfl) (.cons (dt h457) .nil) (G_slices_partialInsertionSortCmpFunc_lift_Req_h_L1_ok hF (.b 2 :: .s (cR (cB (cL (cR (cP (cB (cR (cL (cR (cR (bodyOf Try.f47))))))))))) :: .b 1 :: .s (cR (cR (cP (cB (cR (cL (cR (cR (bodyOf Try.f47))))))))) :: .l k (cP (cB (cR (cL (cR (cR (bodyOf Try.f47))))))) :: ks) n v_a634 v_b635 v_cmp636 v_j638 v_cmp636_g v_cmp636_c v_cmp636_h n v_i637 v_w639 _ h471 ?_)
      cases v_o654 with
      | x0 v_z655 v_z656 =>
        try dsimp only at h
        by_cases h472 : v_z655 = v_b635
        · rw [if_pos h472] at h
          cases h
          exact pkk_sound TTok mix hF 12 (hs := [.t true]) (ts := []) (s := [0, 1]) (l := [8]) (by kernel_rfl) (by kernel_rfl) (.cons (bt h472) .nil) q
        · rw [if_neg h472] at h
          by_cases h473 : (wi .i64 (v_b635 - v_a634)) < 50
          · rw [if_pos h473] at h
            cases h
            exact pkk_sound TTok mix hF 17 (hs := [.t false, .t true]) (ts := []) (s := [0, 1]) (l := [8]) (by kernel_rfl) (by kernel_rfl) (.cons (bf h472) (.cons (dt h473) .nil)) q
          · rw [if_neg h473] at h
            by_cases h474 : 0 ≤ (wi .i64 (v_z655 - 1)) ∧ ((wi .i64 (v_z655 - 1))).toNat < v_z656.length
            · rw [if_pos h474] at h
              obtain ⟨v_y661, h475, h⟩ := bind_some h
              by_cases h476 : 0 ≤ v_z655 ∧ (v_z655).toNat < v_z656.length
              · rw [if_pos h476] at h
                obtain ⟨v_y662, h477, h⟩ := bind_some h
                by_cases h478 : 0 ≤ v_z655 ∧ (v_z655).toNat < v_z656.length
                · rw [if_pos h478] at h
                  obtain ⟨v_y663, h479, h⟩ := bind_some h
                  by_cases h480 : 0 ≤ (wi .i64 (v_z655 - 1)) ∧ ((wi .i64 (v_z655 - 1))).toNat < (v_z656.set (v_z655).toNat v_y661).length
                  · rw [if_pos h480] at h
                    obtain ⟨v_y664, h481, h⟩ := bind_some h
                    by_cases h482 : (wi .i64 (v_z655 - v_a634)) ≥ 2
                    · rw [if_pos h482] at h
                      obtain ⟨v_o684, h512, h⟩ := bind_some h
                      refine pkk_sound TTok mix hF 21 (hs := [.t false, .t false, .y (eS_lift_Req v_y661), .y (eS_lift_Req v_y662), .w ((v_z656.set (v_z655).toNat v_y661).map eS_lift_Req), .y (eS_lift_Req v_y663), .w (((v_z656.set (v_z655).toNat v_y661).set ((wi .i64 (v_z655 - 1))).toNat v_y662).map eS_lift_Req), .y (eS_lift_Req v_y664), .t true, .n n]) (ts := []) (s := [0, 1]) (l := [0, 1, 2, 3, 9, 10, 11]) (by kernel_rfl) (by kernel_rfl) (.cons (bf h472) (.cons (df h473) (.cons (idx_ob (f := eS_lift_Req) h474) (.cons (get_ob (f := eS_lift_Req) h475) (.cons (idx_ob (f := eS_lift_Req) h476) (.cons (get_ob (f := eS_lift_Req) h477) (.cons (idx_ob (f := eS_lift_Req) h478) (.cons (get_ob (f := eS_lift_Req) h479) (.cons (Eq.refl (pcells (.agg [.v (.int .i64 v_y661.fSector), .sl (v_y661.fData.map (eI .u8)), .v (.bool v_y661.fBarrier)]))) (.cons (set_ob (f := eS_lift_Req) (l := v_z656) (k := (v_z655).toNat) (z := v_y661) (p := .agg [.v (.int .i64 v_y661.fSector), .sl (v_y661.fData.map (eI .u8)), .v (.bool v_y661.fBarrier)]) rfl) (.cons (idx_ob (f := eS_lift_Req) h480) (.cons (get_ob (f := eS_lift_Req) h481) (.cons (Eq.refl (pcells (.agg [.v (.int .i64 v_y662.fSector), .sl (v_y662.fData.map (eI .u8)), .v (.bool v_y662.fBarrier)]))) (.cons (set_ob (f := eS_lift_Req) (l := (v_z656.set (v_z655).toNat v_y661)) (k := ((wi .i64 (v_z655 - 1))).toNat) (z := v_y662) (p := .agg [.v (.int .i64 v_y662.fSector), .sl (v_y662.fData.map (eI .u8)), .v (.bool v_y662.fBarrier)]) rfl) (.cons (dt h482) .nil))))))))))))))) (G_slices_partialInsertionSortCmpFunc_lift_Req_h_L2_ok hF (.b 4 :: .s (cR (cR (cR (cR (cR (cB (cL (cR (cP (cB (cR (cL (cR (cR (bodyOf Try.f47))))))))))))))) :: .b 1 :: .s (cR (cR (cP (cB (cR (cL (cR (cR (bodyOf Try.f47))))))))) :: .l k (cP (cB (cR (cL (cR (cR (bodyOf Try.f47))))))) :: ks) n v_a634 v_b635 v_cmp636 v_z655 v_j638 v_cmp636_g v_cmp636_c v_cmp636_h n (wi .i64 (v_z655 - 1)) ((v_z656.set (v_z655).toNat v_y661).set ((wi .i64 (v_z655 - 1))).toNat v_y662) _ h512 ?_)
                      cases v_o684 with
                      | x0 v_z685 =>
                        try dsimp only at h
                        by_cases h513 : (wi .i64 (v_b635 - v_z655)) ≥ 2
                        · rw [if_pos h513] at h
                          obtain ⟨v_o705, h543, h⟩ := bind_some h
                          refine pkk_sound TTok mix hF 8 (hs := [.t true, .n n]) (ts := []) (s := [0, 1]) (l := [0, 1, 2, 3, 9, 10, 12]) (by kernel_rfl) (by kernel_rfl) (.cons (dt h513) .nil) (G_slices_partialInsertionSortCmpFunc_lift_Req_h_L3_ok hF (.b 6 :: .b 1 :: .s (cR (cR (cP (cB (cR (cL (cR (cR (bodyOf Try.f47))))))))) :: .l k (cP (cB (cR (cL (cR (cR (bodyOf Try.f47))))))) :: ks) n v_a634 v_b635 v_cmp636 v_z655 v_j638 v_cmp636_g v_cmp636_c v_cmp636_h n (wi .i64 (v_z655 + 1)) v_z685 _ h543 ?_)
                          cases v_o705 with
                          | x0 v_z706 =>
                            try dsimp only at h
                            exact pkk_sound TTok mix hF 3 (hs := []) (ts := []) (s := [0, 1]) (l := [0, 1, 2, 3, 9, 10]) (by kernel_rfl) (by kernel_rfl) .nil (G_slices_partialInsertionSortCmpFunc_lift_Req_h_L5_ok hF ks n v_a634 v_b635 v_cmp636 v_cmp636_g v_cmp636_c v_cmp636_h k v_z655 (wi .i64 (v_j638 + 1)) v_z706 _ h q)
                        · rw [if_neg h513] at h
                          exact pkk_sound TTok mix hF 7 (hs := [.t false]) (ts := []) (s := [0, 1]) (l := [0, 1, 2, 3, 9, 10]) (by kernel_rfl) (by kernel_rfl) (.cons (df h513) .nil) (G_slices_partialInsertionSortCmpFunc_lift_Req_h_L5_ok hF ks n v_a634 v_b635 v_cmp636 v_cmp636_g v_cmp636_c v_cmp636_h k v_z655 (wi .i64 (v_j638 + 1)) v_z685 _ h q)
                    · rw [if_neg h482] at h
                      by_cases h544 : (wi .i64 (v_b635 - v_z655)) ≥ 2
                      · rw [if_pos h544] at h
                        obtain ⟨v_o726, h574, h⟩ := bind_some h
                        refine pkk_sound TTok mix hF 25 (hs := [.t false, .t false, .y (eS_lift_Req v_y661), .y (eS_lift_Req v_y662), .w ((v_z656.set (v_z655).toNat v_y661).map eS_lift_Req), .y (eS_lift_Req v_y663), .w (((v_z656.set (v_z655).toNat v_y661).set ((wi .i64 (v_z655 - 1))).toNat v_y662).map eS_lift_Req), .y (eS_lift_Req v_y664), .t false, .t true, .n n]) (ts := []) (s := [0, 1]) (l := [0, 1, 2, 3, 9, 10, 12]) (by kernel_rfl) (by kernel_rfl) (.cons (bf h472) (.cons (df h473) (.cons (idx_ob (f := eS_lift_Req) h474) (.cons (get_ob (f := eS_lift_Req) h475) (.cons (idx_ob (f := eS_lift_Req) h476) (.cons (get_ob (f := eS_lift_Req) h477) (.cons (idx_ob (f := eS_lift_Req) h478) (.cons (get_ob (f := eS_lift_Req) h479) (.cons (Eq.refl (pcells (.agg [.v (.int .i64 v_y661.fSector), .sl (v_y661.fData.map (eI .u8)), .v (.bool v_y661.fBarrier)]))) (.cons (set_ob (f := eS_lift_Req) (l := v_z656) (k := (v_z655).toNat) (z := v_y661) (p := .agg [.v (.int .i64 v_y661.fSector), .sl (v_y661.fData.map (eI .u8)), .v (.bool v_y661.fBarrier)]) rfl) (.cons (idx_ob (f := eS_lift_Req) h480) (.cons (get_ob (f := eS_lift_Req) h481) (.cons (Eq.refl (pcells (.agg [.v (.int .i64 v_y662.fSector), .sl (v_y662.fData.map (eI .u8)), .v (.bool v_y662.fBarrier)]))) (.cons (set_ob (f := eS_lift_Req) (l := (v_z656.set (v_z655).toNat v_y661)) (k := ((wi .i64 (v_z655 - 1))).toNat) (z := v_y662) (p := .agg [.v (.int .i64 v_y662.fSector), .sl (v_y662.fData.map (eI .u8)), .v (.bool v_y662.fBarrier)]) rfl) (.cons (df h482) (.cons (dt h544) .nil)))))))))))))))) (G_slices_partialInsertionSortCmpFunc_lift_Req_h_L4_ok hF (.b 6 :: .b 1 :: .s (cR (cR (cP (cB (cR (cL (cR (cR (bodyOf Try.f47))))))))) :: .l k (cP (cB (cR (cL (cR (cR (bodyOf Try.f47))))))) :: ks) n v_a634 v_b635 v_cmp636 v_z655 v_j638 v_cmp636_g v_cmp636_c v_cmp636_h n (wi .i64 (v_z655 + 1)) ((v_z656.set (v_z655).toNat v_y661).set ((wi .i64 (v_z655 - 1))).toNat v_y662) _ h574 ?_)
                        cases v_o726 with
                        | x0 v_z727 =>
                          try dsimp only at h
                          exact pkk_sound TTok mix hF 3 (hs := []) (ts := []) (s := [0, 1]) (l := [0, 1, 2, 3, 9, 10]) (by kernel_rfl) (by kernel_rfl) .nil (G_slices_partialInsertionSortCmpFunc_lift_Req_h_L5_ok hF ks n v_a634 v_b635 v_cmp636 v_cmp636_g v_cmp636_c v_cmp636_h k v_z655 (wi .i64 (v_j638 + 1)) v_z727 _ h q)
                      · rw [if_neg h544] at h
                        exact pkk_sound TTok mix hF 24 (hs := [.t false, .t false, .y (eS_lift_Req v_y661), .y (eS_lift_Req v_y662), .w ((v_z656.set (v_z655).toNat v_y661).map eS_lift_Req), .y (eS_lift_Req v_y663), .w (((v_z656.set (v_z655).toNat v_y661).set ((wi .i64 (v_z655 - 1))).toNat v_y662).map eS_lift_Req), .y (eS_lift_Req v_y664), .t false, .t false]) (ts := []) (s := [0, 1]) (l := [0, 1, 2, 3, 9, 10]) (by kernel_rfl) (by kernel_rfl) (.cons (bf h472) (.cons (df h473) (.cons (idx_ob (f := eS_lift_Req) h474) (.cons (get_ob (f := eS_lift_Req) h475) (.cons (idx_ob (f := eS_lift_Req) h476) (.cons (get_ob (f := eS_lift_Req) h477) (.cons (idx_ob (f := eS_lift_Req) h478) (.cons (get_ob (f := eS_lift_Req) h479) (.cons (Eq.refl (pcells (.agg [.v (.int .i64 v_y661.fSector), .sl (v_y661.fData.map (eI .u8)), .v (.bool v_y661.fBarrier)]))) (.cons (set_ob (f := eS_lift_Req) (l := v_z656) (k := (v_z655).toNat) (z := v_y661) (p := .agg [.v (.int .i64 v_y661.fSector), .sl (v_y661.fData.map (eI .u8)), .v (.bool v_y661.fBarrier)]) rfl) (.cons (idx_ob (f := eS_lift_Req) h480) (.cons (get_ob (f := eS_lift_Req) h481) (.cons (Eq.refl (pcells (.agg [.v (.int .i64 v_y662.fSector), .sl (v_y662.fData.map (eI .u8)), .v (.bool v_y662.fBarrier)]))) (.cons (set_ob (f := eS_lift_Req) (l := (v_z656.set (v_z655).toNat v_y661)) (k := ((wi .i64 (v_z655 - 1))).toNat) (z := v_y662) (p := .agg [.v (.int .i64 v_y662.fSector), .sl (v_y662.fData.map (eI .u8)), .v (.bool v_y662.fBarrier)]) rfl) (.cons (df h482) (.cons (df h544) .nil)))))))))))))))) (G_slices_partialInsertionSortCmpFunc_lift_Req_h_L5_ok hF ks n v_a634 v_b635 v_cmp636 v_cmp636_g v_cmp636_c v_cmp636_h k v_z655 (wi .i64 (v_j638 + 1)) ((v_z656.set (v_z655).toNat v_y661).set ((wi .i64 (v_z655 - 1))).toNat v_y662) _ h q)
                  · rw [if_neg h480] at h; cases h
                · rw [if_neg h478] at h; cases h
              · rw [if_neg h476] at h; cases h
            · rw [if_neg h474] at h; cases h
    · rw [if_neg h457] at h
      cases h
      exact pkk_sound TTok mix hF 8 (hs := [.t false]) (ts := []) (s := [0, 1]) (l := []) (by kernel_rfl) (by kernel_rfl) (.cons (df h457) .nil) q
/- slices.partialInsertionSortCmpFunc[ringhall/lift.Req] -/
def G_slices_partialInsertionSortCmpFunc_lift_Req_h (n : Nat) (v_data633 : (List S_lift_Req)) (v_a634 : Int) (v_b635 : Int) (v_cmp636 : (S_lift_Req → S_lift_Req → Option (Int))) : Option (Bool × (List S_lift_Req)) :=
  (G_slices_partialInsertionSortCmpFunc_lift_Req_h_L5 n v_a634 v_b635 v_cmp636 n (wi .i64 (v_a634 + 1)) 0 v_data633).bind fun v_o729 => match v_o729 with
  | .x0 v_z730 v_z731 =>
    some (v_z730, v_z731)
  | .x1 v_z732 =>
    some (false, v_z732)
theorem G_slices_partialInsertionSortCmpFunc_lift_Req_h_ok (n : Nat) (v_data633 : (List S_lift_Req)) (v_a634 : Int) (v_b635 : Int) (v_cmp636 : (S_lift_Req → S_lift_Req → Option (Int))) (v_cmp636_g : FuncId) (v_cmp636_c : List PV) (v_cmp636_h : ∀ (x0 : S_lift_Req) (x1 : S_lift_Req) (r : Int), v_cmp636 x0 x1 = some r → Ret Try.prog v_cmp636_g ([eS_lift_Req x0, eS_lift_Req x1] ++ v_cmp636_c) ((eI .i64) r)) (r : Bool × (List S_lift_Req)) (h : G_slices_partialInsertionSortCmpFunc_lift_Req_h n v_data633 v_a634 v_b635 v_cmp636 = some r) : RetH Try.prog 47 [.srf 0, .d ((eI .i64) v_a634), .d ((eI .i64) v_b635), .d ((.clo v_cmp636_g v_cmp636_c))] [.row 26 3 (v_data633.map eS_lift_Req)] (.d (eB r.1)) [.row 26 3 (r.2.map eS_lift_Req)] := by
  refine retH_run (n := 141) (fn := Try.f47) (c := bodyOf Try.f47) (by kernel_rfl) (by kernel_rfl) (by kernel_rfl) (by kernel_rfl) ?_
  have hF : KC 141 (FinH Try.prog Try.f47 [.row 26 3 (v_data633.map eS_lift_Req)] (.d (eB r.1)) [.row 26 3 (r.2.map eS_lift_Req)]) := FinH.kc' (by kernel_rfl)
  unfold G_slices_partialInsertionSortCmpFunc_lift_Req_h at h
  obtain ⟨v_o729, h575, h⟩ := bind_some h
  refine pkk_sound TTok mix hF 9 (hs := [.n n]) (ts := []) (s := [1, 0]) (l := [0, 1, 2, 3, 9, 10]) (by kernel_rfl) (by kernel_rfl) .nil (G_slices_partialInsertionSortCmpFunc_lift_Req_h_L5_ok hF (.b 0 :: .s (cR (cR (cR (bodyOf Try.f47)))) :: []) n v_a634 v_b635 v_cmp636 v_cmp636_g v_cmp636_c v_cmp636_h n (wi .i64 (v_a634 + 1)) 0 v_data633 _ h575 ?_)
  cases v_o729 with
  | x0 v_z730 v_z731 =>
    try dsimp only at h
    obtain rfl := Option.some.inj h
    exact pendH_sound TTok mix 2 (hs := []) [1] (by kernel_rfl) (by kernel_rfl) (by kernel_rfl) .nil
  | x1 v_z732 =>
    try dsimp only at h
    obtain rfl := Option.some.inj h
    exact pendH_sound TTok mix 4 (hs := []) [1] (by kernel_rfl) (by kernel_rfl) (by kernel_rfl) .nil
inductive G_slices_partitionEqualCmpFunc_lift_Req_h_L1_R where
  | x0 (v_i778 : Int) (v_w779 : (List S_lift_Req))
def G_slices_partitionEqualCmpFunc_lift_Req_h_L1_ex : G_slices_partitionEqualCmpFunc_lift_Req_h_L1_R → Ex
  | .x0 _ _ => .exit 2
def G_slices_partitionEqualCmpFunc_lift_Req_h_L1_st (v_a757 : Int) (v_cmp760 : (S_lift_Req → S_lift_Req → Option (Int))) (v_j766 : Int) (v_cmp760_g : FuncId) (v_cmp760_c : (List PV)) : G_slices_partitionEqualCmpFunc_lift_Req_h_L1_R → PS
  | .x0 v_i778 v_w779 => ⟨(.srf 1 :: .d (.v (.int .i64 v_a757)) :: dd :: dd :: .d (.clo v_cmp760_g v_cmp760_c) :: dd :: dd :: dd :: dd :: dd :: dd :: .d (.v (.int .i64 v_i778)) :: .d (.v (.int .i64 v_j766)) :: (dds 77 [])), [.gh 0 (.srf 1), .row 26 3 (v_w779.map eS_lift_Req)]⟩
def G_slices_partitionEqualCmpFunc_lift_Req_h_L1_hd (v_a757 : Int) (v_cmp760 : (S_lift_Req → S_lift_Req → Option (Int))) (v_j766 : Int) (v_cmp760_g : FuncId) (v_cmp760_c : (List PV)) (v_i769 : Int) (v_w770 : (List S_lift_Req)) : PS := ⟨(.srf 1 :: .d (.v (.int .i64 v_a757)) :: dd :: dd :: .d (.clo v_cmp760_g v_cmp760_c) :: dd :: dd :: dd :: dd :: dd :: dd :: .d (.v (.int .i64 v_i769)) :: .d (.v (.int .i64 v_j766)) :: (dds 77 [])), [.gh 0 (.srf 1), .row 26 3 (v_w770.map eS_lift_Req)]⟩
def G_slices_partitionEqualCmpFunc_lift_Req_h_L1 (n : Nat) (v_a757 : Int) (v_cmp760 : (S_lift_Req → S_lift_Req → Option (Int))) (v_j766 : Int) : Nat → Int → (List S_lift_Req) → Option G_slices_partitionEqualCmpFunc_lift_Req_h_L1_R
  | 0, _, _ => none
  | k + 1, v_i769, v_w770 =>
    if v_i769 ≤ v_j766 then
     if 0 ≤ v_a757 ∧ (v_a757).toNat < v_w770.length then
      (v_w770[(v_a757).toNat]?).bind fun (v_y775 : S_lift_Req) =>
      if 0 ≤ v_i769 ∧ (v_i769).toNat < v_w770.length then
       (v_w770[(v_i769).toNat]?).bind fun (v_y776 : S_lift_Req) =>
       (v_cmp760 v_y775 v_y776).bind fun (v_r777 : (Int)) =>
       if v_r777 < 0 then
        some (.x0 v_i769 v_w770)
       else
        G_slices_partitionEqualCmpFunc_lift_Req_h_L1 n v_a757 v_cmp760 v_j766 k (wi .i64 (v_i769 + 1)) v_w770
      else none
     else none
    else
     some (.x0 v_i769 v_w770)
theorem G_slices_partitionEqualCmpFunc_lift_Req_h_L1_ok {Fi : Ex → PS → Prop} (hF : KC 90 Fi) (ks : List Fr) (n : Nat) (v_a757 : Int) (v_cmp760 : (S_lift_Req → S_lift_Req → Option (Int))) (v_j766 : Int) (v_cmp760_g : FuncId) (v_cmp760_c : (List PV)) (v_cmp760_h : ∀ (x0 : S_lift_Req) (x1 : S_lift_Req) (r : Int), v_cmp760 x0 x1 = some r → Ret Try.prog v_cmp760_g ([eS_lift_Req x0, eS_lift_Req x1] ++ v_cmp760_c) ((eI .i64) r)) : ∀ (k : Nat) (v_i769 : Int) (v_w770 : (List S_lift_Req)) (o : G_slices_partitionEqualCmpFunc_lift_Req_h_L1_R), G_slices_partitionEqualCmpFunc_lift_Req_h_L1 n v_a757 v_cmp760 v_j766 k v_i769 v_w770 = some o → RunE Try.prog 90 Fi ks (G_slices_partitionEqualCmpFunc_lift_Req_h_L1_ex o) (G_slices_partitionEqualCmpFunc_lift_Req_h_L1_st v_a757 v_cmp760 v_j766 v_cmp760_g v_cmp760_c o) → RunE Try.prog 90 Fi (.l k (cP (cB (cL (cB (cP (cB (cL (cR (cR (cR (bodyOf Try.f48))))))))))) :: ks) .normal (G_slices_partitionEqualCmpFunc_lift_Req_h_L1_hd v_a757 v_cmp760 v_j766 v_cmp760_g v_cmp760_c v_i769 v_w770)
  | 0, v_i769, v_w770, o, h, q => by rw [G_slices_partitionEqualCmpFunc_lift_Req_h_L1] at h; cases h
  | k + 1, v_i769, v_w770, o, h, q => by
    rw [G_slices_partitionEqualCmpFunc_lift_Req_h_L1] at h
    by_cases h610 : v_i769 ≤ v_j766
    · rw [if_pos h610] at h
      by_cases h611 : 0 ≤ v_a757 ∧ (v_a757).toNat < v_w770.length
      · rw [if_pos h611] at h
        obtain ⟨v_y775, h612, h⟩ := bind_some h
        by_cases h613 : 0 ≤ v_i769 ∧ (v_i769).toNat < v_w770.length
        · rw [if_pos h613] at h
          obtain ⟨v_y776, h614, h⟩ := bind_some h
          obtain ⟨v_r777, h615, h⟩ := bind_some h
          by_cases h616 : v_r777 < 0
          · rw [if_pos h616] at h
            cases h
            exact pkk_sound TTok mix hF 8 (hs := [.t true, .c, .c, .c, .c, .y (eS_lift_Req v_y775), .c, .c, .c, .c, .y (eS_lift_Req v_y776), .c, .r ((eI .i64) v_r777), .c, .c, .t false]) (ts := []) (s := [0, 1]) (l := [0, 1, 4, 11, 12]) (by kernel_rfl) (by kernel_rfl) (.cons (dt h610) (.cons (idx_ob (f := eS_lift_Req) h611) (.cons (get_ob (f := eS_lift_Req) h612) (.cons (idx_ob (f := eS_lift_Req) h613) (.cons (get_ob (f := eS_lift_Req) h614) (.cons (v_cmp760_h v_y775 v_y776 _ h615) (.cons (bnf (dt h616)) .nil))))))) q
          · rw [if_neg h616] at h
            exact pkk_sound TTok mix hF 9 (hs := [.t true, .c, .c, .c, .c, .y (eS_lift_Req v_y775), .c, .c, .c, .c, .y (eS_lift_Req v_y776), .c, .r ((eI .i64) v_r777), .c, .c, .t true]) (ts := []) (s := [0, 1]) (l := [0, 1, 4, 11, 12]) (by kernel_rfl) (by kernel_rfl) (.cons (dt h610) (.cons (idx_ob (f := eS_lift_Req) h611) (.cons (get_ob (f := eS_lift_Req) h612) (.cons (idx_ob (f := eS_lift_Req) h613) (.cons (get_ob (f := eS_lift_Req) h614) (.cons (v_cmp760_h v_y775 v_y776 _ h615) (.cons (bnt (df h616)) .nil))))))) (G_slices_partitionEqualCmpFunc_lift_Req_h_L1_ok hF ks n v_a757 v_cmp760 v_j766 v_cmp760_g v_cmp760_c v_cmp760_h k (wi .i64 (v_i769 + 1)) v_w770 _ h q)
        · rw [if_neg h613] at h; cases h
      · rw [if_neg h611] at h; cases h
    · rw [if_neg h610] at h
      cases h
      exact pkk_sound TTok mix hF 8 (hs := [.t false, .c, .c, .c, .c, .c, .c, .c, .c, .c, .c, .c, .c]) (ts := []) (s := [0, 1]) (l := [0, 1, 4, 11, 12]) (by kernel_rfl) (by kernel_rfl) (.cons (df h610) .nil) q
inductive G_slices_partitionEqualCmpFunc_lift_Req_h_L2_R where
  | x0 (v_j794 : Int) (v_w795 : (List S_lift_Req))
def G_slices_partitionEqualCmpFunc_lift_Req_h_L2_ex : G_slices_partitionEqualCmpFunc_lift_Req_h_L2_R → Ex
  | .x0 _ _ => .exit 4
def G_slices_partitionEqualCmpFunc_lift_Req_h_L2_st (v_a757 : Int) (v_cmp760 : (S_lift_Req → S_lift_Req → Option (Int))) (v_z783 : Int) (v_cmp760_g : FuncId) (v_cmp760_c : (List PV)) : G_slices_partitionEqualCmpFunc_lift_Req_h_L2_R → PS
  | .x0 v_j794 v_w795 => ⟨(.srf 1 :: .d (.v (.int .i64 v_a757)) :: dd :: dd :: .d (.clo v_cmp760_g v_cmp760_c) :: dd :: dd :: dd :: dd :: dd :: dd :: .d (.v (.int .i64 v_z783)) :: .d (.v (.int .i64 v_j794)) :: (dds 77 [])), [.gh 0 (.srf 1), .row 26 3 (v_w795.map eS_lift_Req)]⟩
def G_slices_partitionEqualCmpFunc_lift_Req_h_L2_hd (v_a757 : Int) (v_cmp760 : (S_lift_Req → S_lift_Req → Option (Int))) (v_z783 : Int) (v_cmp760_g : FuncId) (v_cmp760_c : (List PV)) (v_j785 : Int) (v_w786 : (List S_lift_Req)) : PS := ⟨(.srf 1 :: .d (.v (.int .i64 v_a757)) :: dd :: dd :: .d (.clo v_cmp760_g v_cmp760_c) :: dd :: dd :: dd :: dd :: dd :: dd :: .d (.v (.int .i64 v_z783)) :: .d (.v (.int .i64 v_j785)) :: (dds 77 [])), [.gh 0 (.srf 1), .row 26 3 (v_w786.map eS_lift_Req)]⟩
def G_slices_partitionEqualCmpFunc_lift_Req_h_L2 (n : Nat) (v_a757 : Int) (v_cmp760 : (S_lift_Req → S_lift_Req → Option (Int))) (v_z783 : Int) : Nat → Int → (List S_lift_Req) → Option G_slices_partitionEqualCmpFunc_lift_Req_h_L2_R
  | 0, _, _ => none
  | k + 1, v_j785, v_w786 =>
    if v_z783 ≤ v_j785 then
     if 0 ≤ v_a757 ∧ (v_a757).toNat < v_w786.length then
      (v_w786[(v_a757).toNat]?).bind fun (v_y791 : S_lift_Req) =>
      if 0 ≤ v_j785 ∧ (v_j785).toNat < v_w786.length then
       (v_w786[(v_j785).toNat]?).bind fun (v_y792 : S_lift_Req) =>
       (v_cmp760 v_y791 v_y792).bind fun (v_r793 : (Int)) =>
       if v_r793 < 0 then
        G_slices_partitionEqualCmpFunc_lift_Req_h_L2 n v_a757 v_cmp760 v_z783 k (wi .i64 (v_j785 - 1)) v_w786
       else
        some (.x0 v_j785 v_w786)
      else none
     else none
    else
     some (.x0 v_j785 v_w786)
theorem G_slices_partitionEqualCmpFunc_lift_Req_h_L2_ok {Fi : Ex → PS → Prop} (hF : KC 90 Fi) (ks : List Fr) (n : Nat) (v_a757 : Int) (v_cmp760 : (S_lift_Req → S_lift_Req → Option (Int))) (v_z783 : Int) (v_cmp760_g : FuncId) (v_cmp760_c : (List PV)) (v_cmp760_h : ∀ (x0 : S_lift_Req) (x1 : S_lift_Req) (r : Int), v_cmp760 x0 x1 = some r → Ret Try.prog v_cmp760_g ([eS_lift_Req x0, eS_lift_Req x1] ++ v_cmp760_c) ((eI .i64) r)) : ∀ (k : Nat) (v_j785 : Int) (v_w786 : (List S_lift_Req)) (o : G_slices_partitionEqualCmpFunc_lift_Req_h_L2_R), G_slices_partitionEqualCmpFunc_lift_Req_h_L2 n v_a757 v_cmp760 v_z783 k v_j785 v_w786 = some o → RunE Try.prog 90 Fi ks (G_slices_partitionEqualCmpFunc_lift_Req_h_L2_ex o) (G_slices_partitionEqualCmpFunc_lift_Req_h_L2_st v_a757 v_cmp760 v_z783 v_cmp760_g v_cmp760_c o) → RunE Try.prog 90 Fi (.l k (cP (cB (cL (cR (cB (cP (cB (cL (cR (cR (cR (bodyOf Try.f48)))))))))))) :: ks) .normal (G_slices_partitionEqualCmpFunc_lift_Req_h_L2_hd v_a757 v_cmp760 v_z783 v_cmp760_g v_cmp760_c v_j785 v_w786)
  | 0, v_j785, v_w786, o, h, q => by rw [G_slices_partitionEqualCmpFunc_lift_Req_h_L2] at h; cases h
  | k + 1, v_j785, v_w786, o, h, q => by
    rw [G_slices_partitionEqualCmpFunc_lift_Req_h_L2] at h
    by_cases h624 : v_z783 ≤ v_j785
    · rw [if_pos h624] at h
      by_cases h625 : 0 ≤ v_a757 ∧ (v_a757).toNat < v_w786.length
      · rw [if_pos h625] at h
        obtain ⟨v_y791, h626, h⟩ := bind_some h
        by_cases h627 : 0 ≤ v_j785 ∧ (v_j785).toNat < v_w786.length
        · rw [if_pos h627] at h
          obtain ⟨v_y792, h628, h⟩ := bind_some h
          obtain ⟨v_r793, h629, h⟩ := bind_some h
          by_cases h630 : v_r793 < 0
          · rw [if_pos h630] at h
            exact pkk_sound TTok mix hF 9 (hs := [.t true, .c, .c, .c, .c, .y (eS_lift_Req v_y791), .c, .c, .c, .c, .y (eS_lift_Req v_y792), .c, .r ((eI .i64) v_r793), .c, .t true]) (ts := []) (s := [0, 1]) (l := [0, 1, 4, 11, 12]) (by kernel_rfl) (by kernel_rfl) (.cons (dt h624) (.cons (idx_ob (f := eS_lift_Req) h625) (.cons (get_ob (f := eS_lift_Req) h626) (.cons (idx_ob (f := eS_lift_Req) h627) (.cons (get_ob (f := eS_lift_Req) h628) (.cons (v_cmp760_h v_y791 v_y792 _ h629) (.cons (dt h630) .nil))))))) (G_slices_partitionEqualCmpFunc_lift_Req_h_L2_ok hF ks n v_a757 v_cmp760 v_z783 v_cmp760_g v_cmp760_c v_cmp760_h k (wi .i64 (v_j785 - 1)) v_w786 _ h q)
          · rw [if_neg h630] at h
            cases h
            exact pkk_sound TTok mix hF 8 (hs := [.t true, .c, .c, .c, .c, .y (eS_lift_Req v_y791), .c, .c, .c, .c, .y (eS_lift_Req v_y792), .c, .r ((eI .i64) v_r793), .c, .t false]) (ts := []) (s := [0, 1]) (l := [0, 1, 4, 11, 12]) (by kernel_rfl) (by kernel_rfl) (.cons (dt h624) (.cons (idx_ob (f := eS_lift_Req) h625) (.cons (get_ob (f := eS_lift_Req) h626) (.cons (idx_ob (f := eS_lift_Req) h627) (.cons (get_ob (f := eS_lift_Req) h628) (.cons (v_cmp760_h v_y791 v_y792 _ h629) (.cons (df h630) .nil))))))) q
        · rw [if_neg h627] at h; cases h
      · rw [if_neg h625] at h; cases h
    · rw [if_neg h624] at h
      cases h
      exact pkk_sound TTok mix hF 8 (hs := [.t false, .c, .c, .c, .c, .c, .c, .c, .c, .c, .c, .c]) (ts := []) (s := [0, 1]) (l := [0, 1, 4, 11, 12]) (by kernel_rfl) (by kernel_rfl) (.cons (df h624) .nil) q
inductive G_slices_partitionEqualCmpFunc_lift_Req_h_L3_R where
  | x0 (v_i801 : Int) (v_w802 : (List S_lift_Req))
def G_slices_partitionEqualCmpFunc_lift_Req_h_L3_ex : G_slices_partitionEqualCmpFunc_lift_Req_h_L3_R → Ex
  | .x0 _ _ => .exit 0
def G_slices_partitionEqualCmpFunc_lift_Req_h_L3_st (v_a757 : Int) (v_cmp760 : (S_lift_Req → S_lift_Req → Option (Int))) (v_cmp760_g : FuncId) (v_cmp760_c : (List PV)) : G_slices_partitionEqualCmpFunc_lift_Req_h_L3_R → PS
  | .x0 v_i801 v_w802 => ⟨(dds 11 (.d (.v (.int .i64 v_i801)) :: (dds 78 []))), [.gh 0 (.srf 1), .row 26 3 (v_w802.map eS_lift_Req)]⟩
def G_slices_partitionEqualCmpFunc_lift_Req_h_L3_hd (v_a757 : Int) (v_cmp760 : (S_lift_Req → S_lift_Req → Option (Int))) (v_cmp760_g : FuncId) (v_cmp760_c : (List PV)) (v_i765 : Int) (v_j766 : Int) (v_w767 : (List S_lift_Req)) : PS := ⟨(.srf 1 :: .d (.v (.int .i64 v_a757)) :: dd :: dd :: .d (.clo v_cmp760_g v_cmp760_c) :: dd :: dd :: dd :: dd :: dd :: dd :: .d (.v (.int .i64 v_i765)) :: .d (.v (.int .i64 v_j766)) :: (dds 77 [])), [.gh 0 (.srf 1), .row 26 3 (v_w767.map eS_lift_Req)]⟩
def G_slices_partitionEqualCmpFunc_lift_Req_h_L3 (n : Nat) (v_a757 : Int) (v_cmp760 : (S_lift_Req → S_lift_Req → Option (Int))) : Nat → Int → Int → (List S_lift_Req) → Option G_slices_partitionEqualCmpFunc_lift_Req_h_L3_R
  | 0, _, _, _ => none
  | k + 1, v_i765, v_j766, v_w767 =>
    (G_slices_partitionEqualCmpFunc_lift_Req_h_L1 n v_a757 v_cmp760 v_j766 n v_i765 v_w767).bind fun v_o782 => match v_o782 with
    | .x0 v_z783 v_z784 =>
      (G_slices_partitionEqualCmpFunc_lift_Req_h_L2 n v_a757 v_cmp760 v_z783 n v_j766 v_z784).bind fun v_o798 => match v_o798 with
      | .x0 v_z799 v_z800 =>
        if v_z783 > v_z799 then
         some (.x0 v_z783 v_z800)
        else
         if 0 ≤ v_z799 ∧ (v_z799).toNat < v_z800.length then
          (v_z800[(v_z799).toNat]?).bind fun (v_y803 : S_lift_Req) =>
          if 0 ≤ v_z783 ∧ (v_z783).toNat < v_z800.length then
           (v_z800[(v_z783).toNat]?).bind fun (v_y804 : S_lift_Req) =>
           if 0 ≤ v_z783 ∧ (v_z783).toNat < v_z800.length then
            (v_z800[(v_z783).toNat]?).bind fun (v_y805 : S_lift_Req) =>
            if 0 ≤ v_z799 ∧ (v_z799).toNat < (v_z800.set (v_z783).toNat v_y803).length then
             ((v_z800.set (v_z783).toNat v_y803)[(v_z799).toNat]?).bind fun (v_y806 : S_lift_Req) =>
             G_slices_partitionEqualCmpFunc_lift_Req_h_L3 n v_a757 v_cmp760 k (wi .i64 (v_z783 + 1)) (wi .i64 (v_z799 - 1)) ((v_z800.set (v_z783).toNat v_y803).set (v_z799).toNat v_y804)
            else none
           else none
          else none
         else none
theorem G_slices_partitionEqualCmpFunc_lift_Req_h_L3_ok {Fi : Ex → PS → Prop} (hF : KC 90 Fi) (ks : List Fr) (n : Nat) (v_a757 : Int) (v_cmp760 : (S_lift_Req → S_lift_Req → Option (Int))) (v_cmp760_g : FuncId) (v_cmp760_c : (List PV)) (v_cmp760_h : ∀ (x0 : S_lift_Req) (x1 : S_lift_Req) (r : Int), v_cmp760 x0 x1 = some r → Ret Try.prog v_cmp760_g ([eS_lift_Req x0, eS_lift_Req x1] ++ v_cmp760_c) ((eI .i64) r)) : ∀ (k : Nat) (v_i765 : Int) (v_j766 : Int) (v_w767 : (List S_lift_Req)) (o : G_slices_partitionEqualCmpFunc_lift_Req_h_L3_R), G_slices_partitionEqualCmpFunc_lift_Req_h_L3 n v_a757 v_cmp760 k v_i765 v_j766 v_w767 = some o → RunE Try.prog 90 Fi ks (G_slices_partitionEqualCmpFunc_lift_Req_h_L3_ex o) (G_slices_partitionEqualCmpFunc_lift_Req_h_L3_st v_a757 v_cmp760 v_cmp760_g v_cmp760_c o) → RunE Try.prog 90 Fi (.l k (cP (cB (cL (cR (cR (cR (bodyOf Try.f48))))))) :: ks) .normal (G_slices_partitionEqualCmpFunc_lift_Req_h_L3_hd v_a757 v_cmp760 v_cmp760_g v_cmp760_c v_i765 v_j766 v_w767)
  | 0, v_i765, v_j766, v_w767, o, h, q => by rw [G_slices_partitionEqualCmpFunc_lift_Req_h_L3] at h; cases h
  | k + 1, v_i765, v_j766, v_w767, o, h, q => by
    rw [G_slices_partitionEqualCmpFunc_lift_Req_h_L3] at h
    obtain ⟨v_o782, h617, h⟩ := bind_some h
    refine pkk_sound TTok mix hF 5 (hs := [.n n]) (ts := []) (s := [0, 1]) (l := [0, 1, 4, 11, 12]) (by kernel_rfl) (by kernel_rfl) .nil (G_slices_partitionEqualCmpFunc_lift_Req_h_L1_ok hF (.b 2 :: .s (cR (cB (cP (cB (cL (cR (cR (cR (bodyOf Try.f48))))))))) :: .b 1 :: .l k (cP (cB (cL (cR (cR (cR (bodyOf Try.f48))))))) :: ks) n v_a757 v_cmp760 v_j766 v_cmp760_g v_cmp760_c v_cmp760_h n v_i765 v_w767 _ h617 ?_)
    cases v_o782 with
    | x0 v_z783 v_z784 =>
      try dsimp only at h
      obtain ⟨v_o798, h631, h⟩ := bind_some h
      refine pkk_sound TTok mix hF 4 (hs := [.n n]) (ts := []) (s := [0, 1]) (l := [0, 1, 4, 11, 12]) (by kernel_rfl) (by kernel_rfl) .nil (G_slices_partitionEqualCmpFunc_lift_Req_h_L2_ok hF (.b 4 :: .s (cR (cR (cB (cP (cB (cL (cR (cR (cR (bodyOf Try.f48)))))))))) :: .b 1 :: .l k (cP (cB (cL (cR (cR (cR (bodyOf Try.f48))))))) :: ks) n v_a757 v_cmp760 v_z783 v_cmp760_g v_cmp760_c v_cmp760_h n v_j766 v_z784 _ h631 ?_)
      cases v_o798 with
      | x0 v_z799 v_z800 =>
        try dsimp only at h
        by_cases h632 : v_z783 > v_z799
        · rw [if_pos h632] at h
          cases h
          exact pkk_sound TTok mix hF 9 (hs := [.t true]) (ts := []) (s := [0, 1]) (l := [11]) (by kernel_rfl) (by kernel_rfl) (.cons (dt h632) .nil) q
        · rw [if_neg h632] at h
          by_cases h633 : 0 ≤ v_z799 ∧ (v_z799).toNat < v_z800.length
          · rw [if_pos h633] at h
            obtain ⟨v_y803, h634, h⟩ := bind_some h
            by_cases h635 : 0 ≤ v_z783 ∧ (v_z783).toNat < v_z800.length
            · rw [if_pos h635] at h
              obtain ⟨v_y804, h636, h⟩ := bind_some h
              by_cases h637 : 0 ≤ v_z783 ∧ (v_z783).toNat < v_z800.length
              · rw [if_pos h637] at h
                obtain ⟨v_y805, h638, h⟩ := bind_some h
                by_cases h639 : 0 ≤ v_z799 ∧ (v_z799).toNat < (v_z800.set (v_z783).toNat v_y803).length
                · rw [if_pos h639] at h
                  obtain ⟨v_y806, h640, h⟩ := bind_some h
                  exact pkk_sound TTok mix hF 12 (hs := [.t false, .y (eS_lift_Req v_y803), .y (eS_lift_Req v_y804), .w ((v_z800.set (v_z783).toNat v_y803).map eS_lift_Req), .y (eS_lift_Req v_y805), .w (((v_z800.set (v_z783).toNat v_y803).set (v_z799).toNat v_y804).map eS_lift_Req), .y (eS_lift_Req v_y806)]) (ts := []) (s := [0, 1]) (l := [0, 1, 4, 11, 12]) (by kernel_rfl) (by kernel_rfl) (.cons (df h632) (.cons (idx_ob (f := eS_lift_Req) h633) (.cons (get_ob (f := eS_lift_Req) h634) (.cons (idx_ob (f := eS_lift_Req) h635) (.cons (get_ob (f := eS_lift_Req) h636) (.cons (idx_ob (f := eS_lift_Req) h637) (.cons (get_ob (f := eS_lift_Req) h638) (.cons (Eq.refl (pcells (.agg [.v (.int .i64 v_y803.fSector), .sl (v_y803.fData.map (eI .u8)), .v (.bool v_y803.fBarrier)]))) (.cons (set_ob (f := eS_lift_Req) (l := v_z800) (k := (v_z783).toNat) (z := v_y803) (p := .agg [.v (.int .i64 v_y803.fSector), .sl (v_y803.fData.map (eI .u8)), .v (.bool v_y803.fBarrier)]) rfl) (.cons (idx_ob (f := eS_lift_Req) h639) (.cons (get_ob (f := eS_lift_Req) h640) (.cons (Eq.refl (pcells (.agg [.v (.int .i64 v_y804.fSector), .sl (v_y804.fData.map (eI .u8)), .v (.bool v_y804.fBarrier)]))) (.cons (set_ob (f := eS_lift_Req) (l := (v_z800.set (v_z783).toNat v_y803)) (k := (v_z799).toNat) (z := v_y804) (p := .agg [.v (.int .i64 v_y804.fSector), .sl (v_y804.fData.map (eI .u8)), .v (.bool v_y804.fBarrier)]) rfl) .nil))))))))))))) (G_slices_partitionEqualCmpFunc_lift_Req_h_L3_ok hF ks n v_a757 v_cmp760 v_cmp760_g v_cmp760_c v_cmp760_h k (wi .i64 (v_z783 + 1)) (wi .i64 (v_z799 - 1)) ((v_z800.set (v_z783).toNat v_y803).set (v_z799).toNat v_y804) _ h q)
                · rw [if_neg h639] at h; cases h
              · rw [if_neg h637] at h; cases h
            · rw [if_neg h635] at h; cases h
          · rw [if_neg h633] at h; cases h
/- slices.partitionEqualCmpFunc[ringhall/lift.Req] -/
def G_slices_partitionEqualCmpFunc_lift_Req_h (n : Nat) (v_data756 : (List S_lift_Req)) (v_a757 : Int) (v_b758 : Int) (v_pivot759 : Int) (v_cmp760 : (S_lift_Req → S_lift_Req → Option (Int))) : Option (Int × (List S_lift_Req)) :=
  if 0 ≤ v_pivot759 ∧ (v_pivot759).toNat < v_data756.length then
   (v_data756[(v_pivot759).toNat]?).bind fun (v_y761 : S_lift_Req) =>
   if 0 ≤ v_a757 ∧ (v_a757).toNat < v_data756.length then
    (v_data756[(v_a757).toNat]?).bind fun (v_y762 : S_lift_Req) =>
    if 0 ≤ v_a757 ∧ (v_a757).toNat < v_data756.length then
     (v_data756[(v_a757).toNat]?).bind fun (v_y763 : S_lift_Req) =>
     if 0 ≤ v_pivot759 ∧ (v_pivot759).toNat < (v_data756.set (v_a757).toNat v_y761).length then
      ((v_data756.set (v_a757).toNat v_y761)[(v_pivot759).toNat]?).bind fun (v_y764 : S_lift_Req) =>
      (G_slices_partitionEqualCmpFunc_lift_Req_h_L3 n v_a757 v_cmp760 n (wi .i64 (v_a757 + 1)) (wi .i64 (v_b758 - 1)) ((v_data756.set (v_a757).toNat v_y761).set (v_pivot759).toNat v_y762)).bind fun v_o807 => match v_o807 with
      | .x0 v_z808 v_z809 =>
        some (v_z808, v_z809)
     else none
    else none
   else none
  else none
theorem G_slices_partitionEqualCmpFunc_lift_Req_h_ok (n : Nat) (v_data756 : (List S_lift_Req)) (v_a757 : Int) (v_b758 : Int) (v_pivot759 : Int) (v_cmp760 : (S_lift_Req → S_lift_Req → Option (Int))) (v_cmp760_g : FuncId) (v_cmp760_c : List PV) (v_cmp760_h : ∀ (x0 : S_lift_Req) (x1 : S_lift_Req) (r : Int), v_cmp760 x0 x1 = some r → Ret Try.prog v_cmp760_g ([eS_lift_Req x0, eS_lift_Req x1] ++ v_cmp760_c) ((eI .i64) r)) (r : Int × (List S_lift_Req)) (h : G_slices_partitionEqualCmpFunc_lift_Req_h n v_data756 v_a757 v_b758 v_pivot759 v_cmp760 = some r) : RetH Try.prog 48 [.srf 0, .d ((eI .i64) v_a757), .d ((eI .i64) v_b758), .d ((eI .i64) v_pivot759), .d ((.clo v_cmp760_g v_cmp760_c))] [.row 26 3 (v_data756.map eS_lift_Req)] (.d ((eI .i64) r.1)) [.row 26 3 (r.2.map eS_lift_Req)] := by
  refine retH_run (n := 90) (fn := Try.f48) (c := bodyOf Try.f48) (by kernel_rfl) (by kernel_rfl) (by kernel_rfl) (by kernel_rfl) ?_
  have hF : KC 90 (FinH Try.prog Try.f48 [.row 26 3 (v_data756.map eS_lift_Req)] (.d ((eI .i64) r.1)) [.row 26 3 (r.2.map eS_lift_Req)]) := FinH.kc' (by kernel_rfl)
  unfold G_slices_partitionEqualCmpFunc_lift_Req_h at h
  by_cases h596 : 0 ≤ v_pivot759 ∧ (v_pivot759).toNat < v_data756.length
  · rw [if_pos h596] at h
    obtain ⟨v_y761, h597, h⟩ := bind_some h
    by_cases h598 : 0 ≤ v_a757 ∧ (v_a757).toNat < v_data756.length
    · rw [if_pos h598] at h
      obtain ⟨v_y762, h599, h⟩ := bind_some h
      by_cases h600 : 0 ≤ v_a757 ∧ (v_a757).toNat < v_data756.length
      · rw [if_pos h600] at h
        obtain ⟨v_y763, h601, h⟩ := bind_some h
        by_cases h602 : 0 ≤ v_pivot759 ∧ (v_pivot759).toNat < (v_data756.set (v_a757).toNat v_y761).length
        · rw [if_pos h602] at h
          obtain ⟨v_y764, h603, h⟩ := bind_some h
          obtain ⟨v_o807, h641, h⟩ := bind_some h
          refine pkk_sound TTok mix hF 9 (hs := [.y (eS_lift_Req v_y761), .y (eS_lift_Req v_y762), .w ((v_data756.set (v_a757).toNat v_y761).map eS_lift_Req), .y (eS_lift_Req v_y763), .w (((v_data756.set (v_a757).toNat v_y761).set (v_pivot759).toNat v_y762).map eS_lift_Req), .y (eS_lift_Req v_y764), .n n]) (ts := []) (s := [1, 0]) (l := [0, 1, 4, 11, 12]) (by kernel_rfl) (by kernel_rfl) (.cons (idx_ob (f := eS_lift_Req) h596) (.cons (get_ob (f := eS_lift_Req) h597) (.cons (idx_ob (f := eS_lift_Req) h598) (.cons (get_ob (f := eS_lift_Req) h599) (.cons (idx_ob (f := eS_lift_Req) h600) (.cons (get_ob (f := eS_lift_Req) h601) (.cons (Eq.refl (pcells (.agg [.v (.int .i64 v_y761.fSector), .sl (v_y761.fData.map (eI .u8)), .v (.bool v_y761.fBarrier)]))) (.cons (set_ob (f := eS_lift_Req) (l := v_data756) (k := (v_a757).toNat) (z := v_y761) (p := .agg [.v (.int .i64 v_y761.fSector), .sl (v_y761.fData.map (eI .u8)), .v (.bool v_y761.fBarrier)]) rfl) (.cons (idx_ob (f := eS_lift_Req) h602) (.cons (get_ob (f := eS_lift_Req) h603) (.cons (Eq.refl (pcells (.agg [.v (.int .i64 v_y762.fSector), .sl (v_y762.fData.map (eI .u8)), .v (.bool v_y762.fBarrier)]))) (.cons (set_ob (f := eS_lift_Req) (l := (v_data756.set (v_a757).toNat v_y761)) (k := (v_pivot759).toNat) (z := v_y762) (p := .agg [.v (.int .i64 v_y762.fSector), .sl (v_y762.fData.map (eI .u8)), .v (.bool v_y762.fBarrier)]) rfl) .nil)))))))))))) (G_slices_partitionEqualCmpFunc_lift_Req_h_L3_ok hF (.b 0 :: .s (cR (cR (cR (cR (bodyOf Try.f48))))) :: []) n v_a757 v_cmp760 v_cmp760_g v_cmp760_c v_cmp760_h n (wi .i64 (v_a757 + 1)) (wi .i64 (v_b758 - 1)) ((v_data756.set (v_a757).toNat v_y761).set (v_pivot759).toNat v_y762) _ h641 ?_)
          cases v_o807 with
          | x0 v_z808 v_z809 =>
            try dsimp only at h
            obtain rfl := Option.some.inj h
            exact pendH_sound TTok mix 4 (hs := []) [1] (by kernel_rfl) (by kernel_rfl) (by kernel_rfl) .nil
        · rw [if_neg h602] at h; cases h
      · rw [if_neg h600] at h; cases h
    · rw [if_neg h598] at h; cases h
  · rw [if_neg h596] at h; cases h
inductive G_slices_partitionCmpFunc_lift_Req_h_L1_R where
  | x0 (v_i830 : Int) (v_w831 : (List S_lift_Req))
def G_slices_partitionCmpFunc_lift_Req_h_L1_ex : G_slices_partitionCmpFunc_lift_Req_h_L1_R → Ex
  | .x0 _ _ => .exit 0
def G_slices_partitionCmpFunc_lift_Req_h_L1_st (v_a813 : Int) (v_cmp816 : (S_lift_Req → S_lift_Req → Option (Int))) (v_b814 : Int) (v_cmp816_g : FuncId) (v_cmp816_c : (List PV)) : G_slices_partitionCmpFunc_lift_Req_h_L1_R → PS
  | .x0 v_i830 v_w831 => ⟨(.srf 1 :: .d (.v (.int .i64 v_a813)) :: dd :: dd :: .d (.clo v_cmp816_g v_cmp816_c) :: dd :: dd :: dd :: dd :: dd :: dd :: dd :: .d (.v (.int .i64 v_i830)) :: .d (.v (.int .i64 (wi .i64 (v_b814 - 1)))) :: (dds 164 [])), [.gh 0 (.srf 1), .row 26 3 (v_w831.map eS_lift_Req)]⟩
def G_slices_partitionCmpFunc_lift_Req_h_L1_hd (v_a813 : Int) (v_cmp816 : (S_lift_Req → S_lift_Req → Option (Int))) (v_b814 : Int) (v_cmp816_g : FuncId) (v_cmp816_c : (List PV)) (v_i821 : Int) (v_w822 : (List S_lift_Req)) : PS := ⟨(.srf 1 :: .d (.v (.int .i64 v_a813)) :: dd :: dd :: .d (.clo v_cmp816_g v_cmp816_c) :: dd :: dd :: dd :: dd :: dd :: dd :: dd :: .d (.v (.int .i64 v_i821)) :: .d (.v (.int .i64 (wi .i64 (v_b814 - 1)))) :: (dds 164 [])), [.gh 0 (.srf 1), .row 26 3 (v_w822.map eS_lift_Req)]⟩
def G_slices_partitionCmpFunc_lift_Req_h_L1 (n : Nat) (v_a813 : Int) (v_cmp816 : (S_lift_Req → S_lift_Req → Option (Int))) (v_b814 : Int) : Nat → Int → (List S_lift_Req) → Option G_slices_partitionCmpFunc_lift_Req_h_L1_R
  | 0, _, _ => none
  | k + 1, v_i821, v_w822 =>
    if v_i821 ≤ (wi .i64 (v_b814 - 1)) then
     if 0 ≤ v_i821 ∧ (v_i821).toNat < v_w822.length then
      (v_w822[(v_i821).toNat]?).bind fun (v_y827 : S_lift_Req) =>
      if 0 ≤ v_a813 ∧ (v_a813).toNat < v_w822.length then
       (v_w822[(v_a813).toNat]?).bind fun (v_y828 : S_lift_Req) =>
       (v_cmp816 v_y827 v_y828).bind fun (v_r829 : (Int)) =>
       if v_r829 < 0 then
        G_slices_partitionCmpFunc_lift_Req_h_L1 n v_a813 v_cmp816 v_b814 k (wi .i64 (v_i821 + 1)) v_w822
       else
        some (.x0 v_i821 v_w822)
      else none
     else none
    else
     some (.x0 v_i821 v_w822)
theorem G_slices_partitionCmpFunc_lift_Req_h_L1_ok {Fi : Ex → PS → Prop} (hF : KC 178 Fi) (ks : List Fr) (n : Nat) (v_a813 : Int) (v_cmp816 : (S_lift_Req → S_lift_Req → Option (Int))) (v_b814 : Int) (v_cmp816_g : FuncId) (v_cmp816_c : (List PV)) (v_cmp816_h : ∀ (x0 : S_lift_Req) (x1 : S_lift_Req) (r : Int), v_cmp816 x0 x1 = some r → Ret Try.prog v_cmp816_g ([eS_lift_Req x0, eS_lift_Req x1] ++ v_cmp816_c) ((eI .i64) r)) : ∀ (k : Nat) (v_i821 : Int) (v_w822 : (List S_lift_Req)) (o : G_slices_partitionCmpFunc_lift_Req_h_L1_R), G_slices_partitionCmpFunc_lift_Req_h_L1 n v_a813 v_cmp816 v_b814 k v_i821 v_w822 = some o → RunE Try.prog 178 Fi ks (G_slices_partitionCmpFunc_lift_Req_h_L1_ex o) (G_slices_partitionCmpFunc_lift_Req_h_L1_st v_a813 v_cmp816 v_b814 v_cmp816_g v_cmp816_c o) → RunE Try.prog 178 Fi (.l k (cP (cB (cL (cR (cR (cR (bodyOf Try.f49))))))) :: ks) .normal (G_slices_partitionCmpFunc_lift_Req_h_L1_hd v_a813 v_cmp816 v_b814 v_cmp816_g v_cmp816_c v_i821 v_w822)
  | 0, v_i821, v_w822, o, h, q => by rw [G_slices_partitionCmpFunc_lift_Req_h_L1] at h; cases h
  | k + 1, v_i821, v_w822, o, h, q => by
    rw [G_slices_partitionCmpFunc_lift_Req_h_L1] at h
    by_cases h659 : v_i821 ≤ (wi .i64 (v_b814 - 1))
    · rw [if_pos h659] at h
      by_cases h660 : 0 ≤ v_i821 ∧ (v_i821).toNat < v_w822.length
      · rw [if_pos h660] at h
        obtain ⟨v_y827, h661, h⟩ := bind_some h
        by_cases h662 : 0 ≤ v_a813 ∧ (v_a813).toNat < v_w822.length
        · rw [if_pos h662] at h
          obtain ⟨v_y828, h663, h⟩ := bind_some h
          obtain ⟨v_r829, h664, h⟩ := bind_some h
          by_cases h665 : v_r829 < 0
          · rw [if_pos h665] at h
            exact pkk_sound TTok mix hF 9 (hs := [.t true, .c, .c, .c, .c, .y (eS_lift_Req v_y827), .c, .c, .c, .c, .y (eS_lift_Req v_y828), .c, .r ((eI .i64) v_r829), .c, .t true]) (ts := []) (s := [0, 1]) (l := [0, 1, 4, 12, 13]) (by kernel_rfl) (by kernel_rfl) (.cons (dt h659) (.cons (idx_ob (f := eS_lift_Req) h660) (.cons (get_ob (f := eS_lift_Req) h661) (.cons (idx_ob (f := eS_lift_Req) h662) (.cons (get_ob (f := eS_lift_Req) h663) (.cons (v_cmp816_h v_y827 v_y828 _ h664) (.cons (dt h665) .nil))))))) (G_slices_partitionCmpFunc_lift_Req_h_L1_ok hF ks n v_a813 v_cmp816 v_b814 v_cmp816_g v_cmp816_c v_cmp816_h k (wi .i64 (v_i821 + 1)) v_w822 _ h q)
          · rw [if_neg h665] at h
            cases h
            exact pkk_sound TTok mix hF 8 (hs := [.t true, .c, .c, .c, .c, .y (eS_lift_Req v_y827), .c, .c, .c, .c, .y (eS_lift_Req v_y828), .c, .r ((eI .i64) v_r829), .c, .t false]) (ts := []) (s := [0, 1]) (l := [0, 1, 4, 12, 13]) (by kernel_rfl) (by kernel_rfl) (.cons (dt h659) (.cons (idx_ob (f := eS_lift_Req) h660) (.cons (get_ob (f := eS_lift_Req) h661) (.cons (idx_ob (f := eS_lift_Req) h662) (.cons (get_ob (f := eS_lift_Req) h663) (.cons (v_cmp816_h v_y827 v_y828 _ h664) (.cons (df h665) .nil))))))) q
        · rw [if_neg h662] at h; cases h
      · rw [if_neg h660] at h; cases h
    · rw [if_neg h659] at h
      cases h
      exact pkk_sound TTok mix hF 8 (hs := [.t false, .c, .c, .c, .c, .c, .c, .c, .c, .c, .c, .c]) (ts := []) (s := [0, 1]) (l := [0, 1, 4, 12, 13]) (by kernel_rfl) (by kernel_rfl) (.cons (df h659) .nil) q
inductive G_slices_partitionCmpFunc_lift_Req_h_L2_R where
  | x0 (v_j846 : Int) (v_w847 : (List S_lift_Req))
def G_slices_partitionCmpFunc_lift_Req_h_L2_ex : G_slices_partitionCmpFunc_lift_Req_h_L2_R → Ex
  | .x0 _ _ => .exit 2
def G_slices_partitionCmpFunc_lift_Req_h_L2_st (v_a813 : Int) (v_cmp816 : (S_lift_Req → S_lift_Req → Option (Int))) (v_z835 : Int) (v_cmp816_g : FuncId) (v_cmp816_c : (List PV)) : G_slices_partitionCmpFunc_lift_Req_h_L2_R → PS
  | .x0 v_j846 v_w847 => ⟨(.srf 1 :: .d (.v (.int .i64 v_a813)) :: dd :: dd :: .d (.clo v_cmp816_g v_cmp816_c) :: dd :: dd :: dd :: dd :: dd :: dd :: dd :: .d (.v (.int .i64 v_z835)) :: .d (.v (.int .i64 v_j846)) :: (dds 164 [])), [.gh 0 (.srf 1), .row 26 3 (v_w847.map eS_lift_Req)]⟩
def G_slices_partitionCmpFunc_lift_Req_h_L2_hd (v_a813 : Int) (v_cmp816 : (S_lift_Req → S_lift_Req → Option (Int))) (v_z835 : Int) (v_cmp816_g : FuncId) (v_cmp816_c : (List PV)) (v_j837 : Int) (v_w838 : (List S_lift_Req)) : PS := ⟨(.srf 1 :: .d (.v (.int .i64 v_a813)) :: dd :: dd :: .d (.clo v_cmp816_g v_cmp816_c) :: dd :: dd :: dd :: dd :: dd :: dd :: dd :: .d (.v (.int .i64 v_z835)) :: .d (.v (.int .i64 v_j837)) :: (dds 164 [])), [.gh 0 (.srf 1), .row 26 3 (v_w838.map eS_lift_Req)]⟩
def G_slices_partitionCmpFunc_lift_Req_h_L2 (n : Nat) (v_a813 : Int) (v_cmp816 : (S_lift_Req → S_lift_Req → Option (Int))) (v_z835 : Int) : Nat → Int → (List S_lift_Req) → Option G_slices_partitionCmpFunc_lift_Req_h_L2_R
  | 0, _, _ => none
  | k + 1, v_j837, v_w838 =>
    if v_z835 ≤ v_j837 then
     if 0 ≤ v_j837 ∧ (v_j837).toNat < v_w838.length then
      (v_w838[(v_j837).toNat]?).bind fun (v_y843 : S_lift_Req) =>
      if 0 ≤ v_a813 ∧ (v_a813).toNat < v_w838.length then
       (v_w838[(v_a813).toNat]?).bind fun (v_y844 : S_lift_Req) =>
       (v_cmp816 v_y843 v_y844).bind fun (v_r845 : (Int)) =>
       if v_r845 < 0 then
        some (.x0 v_j837 v_w838)
       else
        G_slices_partitionCmpFunc_lift_Req_h_L2 n v_a813 v_cmp816 v_z835 k (wi .i64 (v_j837 - 1)) v_w838
      else none
     else none
    else
     some (.x0 v_j837 v_w838)
theorem G_slices_partitionCmpFunc_lift_Req_h_L2_ok {Fi : Ex → PS → Prop} (hF : KC 178 Fi) (ks : List Fr) (n : Nat) (v_a813 : Int) (v_cmp816 : (S_lift_Req → S_lift_Req → Option (Int))) (v_z835 : Int) (v_cmp816_g : FuncId) (v_cmp816_c : (List PV)) (v_cmp816_h : ∀ (x0 : S_lift_Req) (x1 : S_lift_Req) (r : Int), v_cmp816 x0 x1 = some r → Ret Try.prog v_cmp816_g ([eS_lift_Req x0, eS_lift_Req x1] ++ v_cmp816_c) ((eI .i64) r)) : ∀ (k : Nat) (v_j837 : Int) (v_w838 : (List S_lift_Req)) (o : G_slices_partitionCmpFunc_lift_Req_h_L2_R), G_slices_partitionCmpFunc_lift_Req_h_L2 n v_a813 v_cmp816 v_z835 k v_j837 v_w838 = some o → RunE Try.prog 178 Fi ks (G_slices_partitionCmpFunc_lift_Req_h_L2_ex o) (G_slices_partitionCmpFunc_lift_Req_h_L2_st v_a813 v_cmp816 v_z835 v_cmp816_g v_cmp816_c o) → RunE Try.prog 178 Fi (.l k (cP (cB (cL (cR (cR (cR (cR (bodyOf Try.f49)))))))) :: ks) .normal (G_slices_partitionCmpFunc_lift_Req_h_L2_hd v_a813 v_cmp816 v_z835 v_cmp816_g v_cmp816_c v_j837 v_w838)
  | 0, v_j837, v_w838, o, h, q => by rw [G_slices_partitionCmpFunc_lift_Req_h_L2] at h; cases h
  | k + 1, v_j837, v_w838, o, h, q => by
    rw [G_slices_partitionCmpFunc_lift_Req_h_L2] at h
    by_cases h673 : v_z835 ≤ v_j837
    · rw [if_pos h673] at h
      by_cases h674 : 0 ≤ v_j837 ∧ (v_j837).toNat < v_w838.length
      · rw [if_pos h674] at h
        obtain ⟨v_y843, h675, h⟩ := bind_some h
        by_cases h676 : 0 ≤ v_a813 ∧ (v_a813).toNat < v_w838.length
        · rw [if_pos h676] at h
          obtain ⟨v_y844, h677, h⟩ := bind_some h
          obtain ⟨v_r845, h678, h⟩ := bind_some h
          by_cases h679 : v_r845 < 0
          · rw [if_pos h679] at h
            cases h
            exact pkk_sound TTok mix hF 8 (hs := [.t true, .c, .c, .c, .c, .y (eS_lift_Req v_y843), .c, .c, .c, .c, .y (eS_lift_Req v_y844), .c, .r ((eI .i64) v_r845), .c, .c, .t false]) (ts := []) (s := [0, 1]) (l := [0, 1, 4, 12, 13]) (by kernel_rfl) (by kernel_rfl) (.cons (dt h673) (.cons (idx_ob (f := eS_lift_Req) h674) (.cons (get_ob (f := eS_lift_Req) h675) (.cons (idx_ob (f := eS_lift_Req) h676) (.cons (get_ob (f := eS_lift_Req) h677) (.cons (v_cmp816_h v_y843 v_y844 _ h678) (.cons (bnf (dt h679)) .nil))))))) q
          · rw [if_neg h679] at h
            exact pkk_sound TTok mix hF 9 (hs := [.t true, .c, .c, .c, .c, .y (eS_lift_Req v_y843), .c, .c, .c, .c, .y (eS_lift_Req v_y844), .c, .r ((eI .i64) v_r845), .c, .c, .t true]) (ts := []) (s := [0, 1]) (l := [0, 1, 4, 12, 13]) (by kernel_rfl) (by kernel_rfl) (.cons (dt h673) (.cons (idx_ob (f := eS_lift_Req) h674) (.cons (get_ob (f := eS_lift_Req) h675) (.cons (idx_ob (f := eS_lift_Req) h676) (.cons (get_ob (f := eS_lift_Req) h677) (.cons (v_cmp816_h v_y843 v_y844 _ h678) (.cons (bnt (df h679)) .nil))))))) (G_slices_partitionCmpFunc_lift_Req_h_L2_ok hF ks n v_a813 v_cmp816 v_z835 v_cmp816_g v_cmp816_c v_cmp816_h k (wi .i64 (v_j837 - 1)) v_w838 _ h q)
        · rw [if_neg h676] at h; cases h
      · rw [if_neg h674] at h; cases h
    · rw [if_neg h673] at h
      cases h
      exact pkk_sound TTok mix hF 8 (hs := [.t false, .c, .c, .c, .c, .c, .c, .c, .c, .c, .c, .c, .c]) (ts := []) (s := [0, 1]) (l := [0, 1, 4, 12, 13]) (by kernel_rfl) (by kernel_rfl) (.cons (df h673) .nil) q
inductive G_slices_partitionCmpFunc_lift_Req_h_L3_R where
  | x0 (v_i878 : Int) (v_w879 : (List S_lift_Req))
def G_slices_partitionCmpFunc_lift_Req_h_L3_ex : G_slices_partitionCmpFunc_lift_Req_h_L3_R → Ex
  | .x0 _ _ => .exit 6
def G_slices_partitionCmpFunc_lift_Req_h_L3_st (v_a813 : Int) (v_cmp816 : (S_lift_Req → S_lift_Req → Option (Int))) (v_j866 : Int) (v_cmp816_g : FuncId) (v_cmp816_c : (List PV)) : G_slices_partitionCmpFunc_lift_Req_h_L3_R → PS
  | .x0 v_i878 v_w879 => ⟨(.srf 1 :: .d (.v (.int .i64 v_a813)) :: dd :: dd :: .d (.clo v_cmp816_g v_cmp816_c) :: dd :: dd :: dd :: dd :: dd :: dd :: dd :: .d (.v (.int .i64 v_i878)) :: .d (.v (.int .i64 v_j866)) :: (dds 164 [])), [.gh 0 (.srf 1), .row 26 3 (v_w879.map eS_lift_Req)]⟩
def G_slices_partitionCmpFunc_lift_Req_h_L3_hd (v_a813 : Int) (v_cmp816 : (S_lift_Req → S_lift_Req → Option (Int))) (v_j866 : Int) (v_cmp816_g : FuncId) (v_cmp816_c : (List PV)) (v_i869 : Int) (v_w870 : (List S_lift_Req)) : PS := ⟨(.srf 1 :: .d (.v (.int .i64 v_a813)) :: dd :: dd :: .d (.clo v_cmp816_g v_cmp816_c) :: dd :: dd :: dd :: dd :: dd :: dd :: dd :: .d (.v (.int .i64 v_i869)) :: .d (.v (.int .i64 v_j866)) :: (dds 164 [])), [.gh 0 (.srf 1), .row 26 3 (v_w870.map eS_lift_Req)]⟩
def G_slices_partitionCmpFunc_lift_Req_h_L3 (n : Nat) (v_a813 : Int) (v_cmp816 : (S_lift_Req → S_lift_Req → Option (Int))) (v_j866 : Int) : Nat → Int → (List S_lift_Req) → Option G_slices_partitionCmpFunc_lift_Req_h_L3_R
  | 0, _, _ => none
  | k + 1, v_i869, v_w870 =>
    if v_i869 ≤ v_j866 then
     if 0 ≤ v_i869 ∧ (v_i869).toNat < v_w870.length then
      (v_w870[(v_i869).toNat]?).bind fun (v_y875 : S_lift_Req) =>
      if 0 ≤ v_a813 ∧ (v_a813).toNat < v_w870.length then
       (v_w870[(v_a813).toNat]?).bind fun (v_y876 : S_lift_Req) =>
       (v_cmp816 v_y875 v_y876).bind fun (v_r877 : (Int)) =>
       if v_r877 < 0 then
        G_slices_partitionCmpFunc_lift_Req_h_L3 n v_a813 v_cmp816 v_j866 k (wi .i64 (v_i869 + 1)) v_w870
       else
        some (.x0 v_i869 v_w870)
      else none
     else none
    else
     some (.x0 v_i869 v_w870)
theorem G_slices_partitionCmpFunc_lift_Req_h_L3_ok {Fi : Ex → PS → Prop} (hF : KC 178 Fi) (ks : List Fr) (n : Nat) (v_a813 : Int) (v_cmp816 : (S_lift_Req → S_lift_Req → Option (Int))) (v_j866 : Int) (v_cmp816_g : FuncId) (v_cmp816_c : (List PV)) (v_cmp816_h : ∀ (x0 : S_lift_Req) (x1 : S_lift_Req) (r : Int), v_cmp816 x0 x1 = some r → Ret Try.prog v_cmp816_g ([eS_lift_Req x0, eS_lift_Req x1] ++ v_cmp816_c) ((eI .i64) r)) : ∀ (k : Nat) (v_i869 : Int) (v_w870 : (List S_lift_Req)) (o : G_slices_partitionCmpFunc_lift_Req_h_L3_R), G_slices_partitionCmpFunc_lift_Req_h_L3 n v_a813 v_cmp816 v_j866 k v_i869 v_w870 = some o → RunE Try.prog 178 Fi ks (G_slices_partitionCmpFunc_lift_Req_h_L3_ex o) (G_slices_partitionCmpFunc_lift_Req_h_L3_st v_a813 v_cmp816 v_j866 v_cmp816_g v_cmp816_c o) → RunE Try.prog 178 Fi (.l k (cP (cB (cL (cB (cP (cB (cL (cR (cR (cR (cR (cR (cR (cR (cR (cR (bodyOf Try.f49))))))))))))))))) :: ks) .normal (G_slices_partitionCmpFunc_lift_Req_h_L3_hd v_a813 v_cmp816 v_j866 v_cmp816_g v_cmp816_c v_i869 v_w870)
  | 0, v_i869, v_w870, o, h, q => by rw [G_slices_partitionCmpFunc_lift_Req_h_L3] at h; cases h
  | k + 1, v_i869, v_w870, o, h, q => by
    rw [G_slices_partitionCmpFunc_lift_Req_h_L3] at h
    by_cases h713 : v_i869 ≤ v_j866
    · rw [if_pos h713] at h
      by_cases h714 : 0 ≤ v_i869 ∧ (v_i869).toNat < v_w870.length
      · rw [if_pos h714] at h
        obtain ⟨v_y875, h715, h⟩ := bind_some h
        by_cases h716 : 0 ≤ v_a813 ∧ (v_a813).toNat < v_w870.length
        · rw [if_pos h716] at h
          obtain ⟨v_y876, h717, h⟩ := bind_some h
          obtain ⟨v_r877, h718, h⟩ := bind_some h
          by_cases h719 : v_r877 < 0
          · rw [if_pos h719] at h
            exact pkk_sound TTok mix hF 9 (hs := [.t true, .c, .c, .c, .c, .y (eS_lift_Req v_y875), .c, .c, .c, .c, .y (eS_lift_Req v_y876), .c, .r ((eI .i64) v_r877), .c, .t true]) (ts := []) (s := [0, 1]) (l := [0, 1, 4, 12, 13]) (by kernel_rfl) (by kernel_rfl) (.cons (dt h713) (.cons (idx_ob (f := eS_lift_Req) h714) (.cons (get_ob (f := eS_lift_Req) h715) (.cons (idx_ob (f := eS_lift_Req) h716) (.cons (get_ob (f := eS_lift_Req) h717) (.cons (v_cmp816_h v_y875 v_y876 _ h718) (.cons (dt h719) .nil))))))) (G_slices_partitionCmpFunc_lift_Req_h_L3_ok hF ks n v_a813 v_cmp816 v_j866 v_cmp816_g v_cmp816_c v_cmp816_h k (wi .i64 (v_i869 + 1)) v_w870 _ h q)
          · rw [if_neg h719] at h
            cases h
            exact pkk_sound TTok mix hF 8 (hs := [.t true, .c, .c, .c, .c, .y (eS_lift_Req v_y875), .c, .c, .c, .c, .y (eS_lift_Req v_y876), .c, .r ((eI .i64) v_r877), .c, .t false]) (ts := []) (s := [0, 1]) (l := [0, 1, 4, 12, 13]) (by kernel_rfl) (by kernel_rfl) (.cons (dt h713) (.cons (idx_ob (f := eS_lift_Req) h714) (.cons (get_ob (f := eS_lift_Req) h715) (.cons (idx_ob (f := eS_lift_Req) h716) (.cons (get_ob (f := eS_lift_Req) h717) (.cons (v_cmp816_h v_y875 v_y876 _ h718) (.cons (df h719) .nil))))))) q
        · rw [if_neg h716] at h; cases h
      · rw [if_neg h714] at h; cases h
    · rw [if_neg h713] at h
      cases h
      exact pkk_sound TTok mix hF 8 (hs := [.t false, .c, .c, .c, .c, .c, .c, .c, .c, .c, .c, .c]) (ts := []) (s := [0, 1]) (l := [0, 1, 4, 12, 13]) (by kernel_rfl) (by kernel_rfl) (.cons (df h713) .nil) q
inductive G_slices_partitionCmpFunc_lift_Req_h_L4_R where
  | x0 (v_j894 : Int) (v_w895 : (List S_lift_Req))
def G_slices_partitionCmpFunc_lift_Req_h_L4_ex : G_slices_partitionCmpFunc_lift_Req_h_L4_R → Ex
  | .x0 _ _ => .exit 8
def G_slices_partitionCmpFunc_lift_Req_h_L4_st (v_a813 : Int) (v_cmp816 : (S_lift_Req → S_lift_Req → Option (Int))) (v_z883 : Int) (v_cmp816_g : FuncId) (v_cmp816_c : (List PV)) : G_slices_partitionCmpFunc_lift_Req_h_L4_R → PS
  | .x0 v_j894 v_w895 => ⟨(.srf 1 :: .d (.v (.int .i64 v_a813)) :: dd :: dd :: .d (.clo v_cmp816_g v_cmp816_c) :: dd :: dd :: dd :: dd :: dd :: dd :: dd :: .d (.v (.int .i64 v_z883)) :: .d (.v (.int .i64 v_j894)) :: (dds 164 [])), [.gh 0 (.srf 1), .row 26 3 (v_w895.map eS_lift_Req)]⟩
def G_slices_partitionCmpFunc_lift_Req_h_L4_hd (v_a813 : Int) (v_cmp816 : (S_lift_Req → S_lift_Req → Option (Int))) (v_z883 : Int) (v_cmp816_g : FuncId) (v_cmp816_c : (List PV)) (v_j885 : Int) (v_w886 : (List S_lift_Req)) : PS := ⟨(.srf 1 :: .d (.v (.int .i64 v_a813)) :: dd :: dd :: .d (.clo v_cmp816_g v_cmp816_c) :: dd :: dd :: dd :: dd :: dd :: dd :: dd :: .d (.v (.int .i64 v_z883)) :: .d (.v (.int .i64 v_j885)) :: (dds 164 [])), [.gh 0 (.srf 1), .row 26 3 (v_w886.map eS_lift_Req)]⟩
def G_slices_partitionCmpFunc_lift_Req_h_L4 (n : Nat) (v_a813 : Int) (v_cmp816 : (S_lift_Req → S_lift_Req → Option (Int))) (v_z883 : Int) : Nat → Int → (List S_lift_Req) → Option G_slices_partitionCmpFunc_lift_Req_h_L4_R
  | 0, _, _ => none
  | k + 1, v_j885, v_w886 =>
    if v_z883 ≤ v_j885 then
     if 0 ≤ v_j885 ∧ (v_j885).toNat < v_w886.length then
      (v_w886[(v_j885).toNat]?).bind fun (v_y891 : S_lift_Req) =>
      if 0 ≤ v_a813 ∧ (v_a813).toNat < v_w886.length then
       (v_w886[(v_a813).toNat]?).bind fun (v_y892 : S_lift_Req) =>
       (v_cmp816 v_y891 v_y892).bind fun (v_r893 : (Int)) =>
       if v_r893 < 0 then
        some (.x0 v_j885 v_w886)
       else
        G_slices_partitionCmpFunc_lift_Req_h_L4 n v_a813 v_cmp816 v_z883 k (wi .i64 (v_j885 - 1)) v_w886
      else none
     else none
    else
     some (.x0 v_j885 v_w886)
theorem G_slices_partitionCmpFunc_lift_Req_h_L4_ok {Fi : Ex → PS → Prop} (hF : KC 178 Fi) (ks : List Fr) (n : Nat) (v_a813 : Int) (v_cmp816 : (S_lift_Req → S_lift_Req → Option (Int))) (v_z883 : Int) (v_cmp816_g : FuncId) (v_cmp816_c : (List PV)) (v_cmp816_h : ∀ (x0 : S_lift_Req) (x1 : S_lift_Req) (r : Int), v_cmp816 x0 x1 = some r → Ret Try.prog v_cmp816_g ([eS_lift_Req x0, eS_lift_Req x1] ++ v_cmp816_c) ((eI .i64) r)) : ∀ (k : Nat) (v_j885 : Int) (v_w886 : (List S_lift_Req)) (o : G_slices_partitionCmpFunc_lift_Req_h_L4_R), G_slices_partitionCmpFunc_lift_Req_h_L4 n v_a813 v_cmp816 v_z883 k v_j885 v_w886 = some o → RunE Try.prog 178 Fi ks (G_slices_partitionCmpFunc_lift_Req_h_L4_ex o) (G_slices_partitionCmpFunc_lift_Req_h_L4_st v_a813 v_cmp816 v_z883 v_cmp816_g v_cmp816_c o) → RunE Try.prog 178 Fi (.l k (cP (cB (cL (cR (cB (cP (cB (cL (cR (cR (cR (cR (cR (cR (cR (cR (cR (bodyOf Try.f49)))))))))))))))))) :: ks) .normal (G_slices_partitionCmpFunc_lift_Req_h_L4_hd v_a813 v_cmp816 v_z883 v_cmp816_g v_cmp816_c v_j885 v_w886)
  | 0, v_j885, v_w886, o, h, q => by rw [G_slices_partitionCmpFunc_lift_Req_h_L4] at h; cases h
  | k + 1, v_j885, v_w886, o, h, q => by
    rw [G_slices_partitionCmpFunc_lift_Req_h_L4] at h
    by_cases h727 : v_z883 ≤ v_j885
    · rw [if_pos h727] at h
      by_cases h728 : 0 ≤ v_j885 ∧ (v_j885).toNat < v_w886.length
      · rw [if_pos h728] at h
        obtain ⟨v_y891, h729, h⟩ := bind_some h
        by_cases h730 : 0 ≤ v_a813 ∧ (v_a813).toNat < v_w886.length
        · rw [if_pos h730] at h
          obtain ⟨v_y892, h731, h⟩ := bind_some h
          obtain ⟨v_r893, h732, h⟩ := bind_some h
          by_cases h733 : v_r893 < 0
          · rw [if_pos h733] at h
            cases h
            exact pkk_sound TTok mix hF 8 (hs := [.t true, .c, .c, .c, .c, .y (eS_lift_Req v_y891), .c, .c, .c, .c, .y (eS_lift_Req v_y892), .c, .r ((eI .i64) v_r893), .c, .c, .t false]) (ts := []) (s := [0, 1]) (l := [0, 1, 4, 12, 13]) (by kernel_rfl) (by kernel_rfl) (.cons (dt h727) (.cons (idx_ob (f := eS_lift_Req) h728) (.cons (get_ob (f := eS_lift_Req) h729) (.cons (idx_ob (f := eS_lift_Req) h730) (.cons (get_ob (f := eS_lift_Req) h731) (.cons (v_cmp816_h v_y891 v_y892 _ h732) (.cons (bnf (dt h733)) .nil))))))) q
          · rw [if_neg h733] at h
            exact pkk_sound TTok mix hF 9 (hs := [.t true, .c, .c, .c, .c, .y (eS_lift_Req v_y891), .c, .c, .c, .c, .y (eS_lift_Req v_y892), .c, .r ((eI .i64) v_r893), .c, .c, .t true]) (ts := []) (s := [0, 1]) (l := [0, 1, 4, 12, 13]) (by kernel_rfl) (by kernel_rfl) (.cons (dt h727) (.cons (idx_ob (f := eS_lift_Req) h728) (.cons (get_ob (f := eS_lift_Req) h729) (.cons (idx_ob (f := eS_lift_Req) h730) (.cons (get_ob (f := eS_lift_Req) h731) (.cons (v_cmp816_h v_y891 v_y892 _ h732) (.cons (bnt (df h733)) .nil))))))) (G_slices_partitionCmpFunc_lift_Req_h_L4_ok hF ks n v_a813 v_cmp816 v_z883 v_cmp816_g v_cmp816_c v_cmp816_h k (wi .i64 (v_j885 - 1)) v_w886 _ h q)
        · rw [if_neg h730] at h; cases h
      · rw [if_neg h728] at h; cases h
    · rw [if_neg h727] at h
      cases h
      exact pkk_sound TTok mix hF 8 (hs := [.t false, .c, .c, .c, .c, .c, .c, .c, .c, .c, .c, .c, .c]) (ts := []) (s := [0, 1]) (l := [0, 1, 4, 12, 13]) (by kernel_rfl) (by kernel_rfl) (.cons (df h727) .nil) q
inductive G_slices_partitionCmpFunc_lift_Req_h_L5_R where
  | x0 (v_j901 : Int) (v_w902 : (List S_lift_Req))
def G_slices_partitionCmpFunc_lift_Req_h_L5_ex : G_slices_partitionCmpFunc_lift_Req_h_L5_R → Ex
  | .x0 _ _ => .exit 4
def G_slices_partitionCmpFunc_lift_Req_h_L5_st (v_a813 : Int) (v_cmp816 : (S_lift_Req → S_lift_Req → Option (Int))) (v_cmp816_g : FuncId) (v_cmp816_c : (List PV)) : G_slices_partitionCmpFunc_lift_Req_h_L5_R → PS
  | .x0 v_j901 v_w902 => ⟨(.srf 1 :: .d (.v (.int .i64 v_a813)) :: (dds 11 (.d (.v (.int .i64 v_j901)) :: (dds 164 [])))), [.gh 0 (.srf 1), .row 26 3 (v_w902.map eS_lift_Req)]⟩
def G_slices_partitionCmpFunc_lift_Req_h_L5_hd (v_a813 : Int) (v_cmp816 : (S_lift_Req → S_lift_Req → Option (Int))) (v_cmp816_g : FuncId) (v_cmp816_c : (List PV)) (v_i865 : Int) (v_j866 : Int) (v_w867 : (List S_lift_Req)) : PS := ⟨(.srf 1 :: .d (.v (.int .i64 v_a813)) :: dd :: dd :: .d (.clo v_cmp816_g v_cmp816_c) :: dd :: dd :: dd :: dd :: dd :: dd :: dd :: .d (.v (.int .i64 v_i865)) :: .d (.v (.int .i64 v_j866)) :: (dds 164 [])), [.gh 0 (.srf 1), .row 26 3 (v_w867.map eS_lift_Req)]⟩
def G_slices_partitionCmpFunc_lift_Req_h_L5 (n : Nat) (v_a813 : Int) (v_cmp816 : (S_lift_Req → S_lift_Req → Option (Int))) : Nat → Int → Int → (List S_lift_Req) → Option G_slices_partitionCmpFunc_lift_Req_h_L5_R
  | 0, _, _, _ => none
  | k + 1, v_i865, v_j866, v_w867 =>
    (G_slices_partitionCmpFunc_lift_Req_h_L3 n v_a813 v_cmp816 v_j866 n v_i865 v_w867).bind fun v_o882 => match v_o882 with
    | .x0 v_z883 v_z884 =>
      (G_slices_partitionCmpFunc_lift_Req_h_L4 n v_a813 v_cmp816 v_z883 n v_j866 v_z884).bind fun v_o898 => match v_o898 with
      | .x0 v_z899 v_z900 =>
        if v_z883 > v_z899 then
         some (.x0 v_z899 v_z900)
        else
         if 0 ≤ v_z899 ∧ (v_z899).toNat < v_z900.length then
          (v_z900[(v_z899).toNat]?).bind fun (v_y903 : S_lift_Req) =>
          if 0 ≤ v_z883 ∧ (v_z883).toNat < v_z900.length then
           (v_z900[(v_z883).toNat]?).bind fun (v_y904 : S_lift_Req) =>
           if 0 ≤ v_z883 ∧ (v_z883).toNat < v_z900.length then
            (v_z900[(v_z883).toNat]?).bind fun (v_y905 : S_lift_Req) =>
            if 0 ≤ v_z899 ∧ (v_z899).toNat < (v_z900.set (v_z883).toNat v_y903).length then
             ((v_z900.set (v_z883).toNat v_y903)[(v_z899).toNat]?).bind fun (v_y906 : S_lift_Req) =>
             G_slices_partitionCmpFunc_lift_Req_h_L5 n v_a813 v_cmp816 k (wi .i64 (v_z883 + 1)) (wi .i64 (v_z899 - 1)) ((v_z900.set (v_z883).toNat v_y903).set (v_z899).toNat v_y904)
            else none
           else none
          else none
         else none
theorem G_slices_partitionCmpFunc_lift_Req_h_L5_ok {Fi : Ex → PS → Prop} (hF : KC 178 Fi) (ks : List Fr) (n : Nat) (v_a813 : Int) (v_cmp816 : (S_lift_Req → S_lift_Req → Option (Int))) (v_cmp816_g : FuncId) (v_cmp816_c : (List PV)) (v_cmp816_h : ∀ (x0 : S_lift_Req) (x1 : S_lift_Req) (r : Int), v_cmp816 x0 x1 = some r → Ret Try.prog v_cmp816_g ([eS_lift_Req x0, eS_lift_Req x1] ++ v_cmp816_c) ((eI .i64) r)) : ∀ (k : Nat) (v_i865 : Int) (v_j866 : Int) (v_w867 : (List S_lift_Req)) (o : G_slices_partitionCmpFunc_lift_Req_h_L5_R), G_slices_partitionCmpFunc_lift_Req_h_L5 n v_a813 v_cmp816 k v_i865 v_j866 v_w867 = some o → RunE Try.prog 178 Fi ks (G_slices_partitionCmpFunc_lift_Req_h_L5_ex o) (G_slices_partitionCmpFunc_lift_Req_h_L5_st v_a813 v_cmp816 v_cmp816_g v_cmp816_c o) → RunE Try.prog 178 Fi (.l k (cP (cB (cL (cR (cR (cR (cR (cR (cR (cR (cR (cR (bodyOf Try.f49))))))))))))) :: ks) .normal (G_slices_partitionCmpFunc_lift_Req_h_L5_hd v_a813 v_cmp816 v_cmp816_g v_cmp816_c v_i865 v_j866 v_w867)
  | 0, v_i865, v_j866, v_w867, o, h, q => by rw [G_slices_partitionCmpFunc_lift_Req_h_L5] at h; cases h
  | k + 1, v_i865, v_j866, v_w867, o, h, q => by
    rw [G_slices_partitionCmpFunc_lift_Req_h_L5] at h
    obtain ⟨v_o882, h720, h⟩ := bind_some h
    refine pkk_sound TTok mix hF 5 (hs := [.n n]) (ts := []) (s := [0, 1]) (l := [0, 1, 4, 12, 13]) (by kernel_rfl) (by kernel_rfl) .nil (G_slices_partitionCmpFunc_lift_Req_h_L3_ok hF (.b 6 :: .s (cR (cB (cP (cB (cL (cR (cR (cR (cR (cR (cR (cR (cR (cR (bodyOf Try.f49))))))))))))))) :: .b 5 :: .l k (cP (cB (cL (cR (cR (cR (cR (cR (cR (cR (cR (cR (bodyOf Try.f49))))))))))))) :: ks) n v_a813 v_cmp816 v_j866 v_cmp816_g v_cmp816_c v_cmp816_h n v_i865 v_w867 _ h720 ?_)
    cases v_o882 with
    | x0 v_z883 v_z884 =>
      try dsimp only at h
      obtain ⟨v_o898, h734, h⟩ := bind_some h
      refine pkk_sound TTok mix hF 4 (hs := [.n n]) (ts := []) (s := [0, 1]) (l := [0, 1, 4, 12, 13]) (by kernel_rfl) (by kernel_rfl) .nil (G_slices_partitionCmpFunc_lift_Req_h_L4_ok hF (.b 8 :: .s (cR (cR (cB (cP (cB (cL (cR (cR (cR (cR (cR (cR (cR (cR (cR (bodyOf Try.f49)))))))))))))))) :: .b 5 :: .l k (cP (cB (cL (cR (cR (cR (cR (cR (cR (cR (cR (cR (bodyOf Try.f49))))))))))))) :: ks) n v_a813 v_cmp816 v_z883 v_cmp816_g v_cmp816_c v_cmp816_h n v_j866 v_z884 _ h734 ?_)
      cases v_o898 with
      | x0 v_z899 v_z900 =>
        try dsimp only at h
        by_cases h735 : v_z883 > v_z899
        · rw [if_pos h735] at h
          cases h
          exact pkk_sound TTok mix hF 9 (hs := [.t true]) (ts := []) (s := [0, 1]) (l := [0, 1, 13]) (by kernel_rfl) (by kernel_rfl) (.cons (dt h735) .nil) q
        · rw [if_neg h735] at h
          by_cases h736 : 0 ≤ v_z899 ∧ (v_z899).toNat < v_z900.length
          · rw [if_pos h736] at h
            obtain ⟨v_y903, h737, h⟩ := bind_some h
            by_cases h738 : 0 ≤ v_z883 ∧ (v_z883).toNat < v_z900.length
            · rw [if_pos h738] at h
              obtain ⟨v_y904, h739, h⟩ := bind_some h
              by_cases h740 : 0 ≤ v_z883 ∧ (v_z883).toNat < v_z900.length
              · rw [if_pos h740] at h
                obtain ⟨v_y905, h741, h⟩ := bind_some h
                by_cases h742 : 0 ≤ v_z899 ∧ (v_z899).toNat < (v_z900.set (v_z883).toNat v_y903).length
                · rw [if_pos h742] at h
                  obtain ⟨v_y906, h743, h⟩ := bind_some h
                  exact pkk_sound TTok mix hF 12 (hs := [.t false, .y (eS_lift_Req v_y903), .y (eS_lift_Req v_y904), .w ((v_z900.set (v_z883).toNat v_y903).map eS_lift_Req), .y (eS_lift_Req v_y905), .w (((v_z900.set (v_z883).toNat v_y903).set (v_z899).toNat v_y904).map eS_lift_Req), .y (eS_lift_Req v_y906)]) (ts := []) (s := [0, 1]) (l := [0, 1, 4, 12, 13]) (by kernel_rfl) (by kernel_rfl) (.cons (df h735) (.cons (idx_ob (f := eS_lift_Req) h736) (.cons (get_ob (f := eS_lift_Req) h737) (.cons (idx_ob (f := eS_lift_Req) h738) (.cons (get_ob (f := eS_lift_Req) h739) (.cons (idx_ob (f := eS_lift_Req) h740) (.cons (get_ob (f := eS_lift_Req) h741) (.cons (Eq.refl (pcells (.agg [.v (.int .i64 v_y903.fSector), .sl (v_y903.fData.map (eI .u8)), .v (.bool v_y903.fBarrier)]))) (.cons (set_ob (f := eS_lift_Req) (l := v_z900) (k := (v_z883).toNat) (z := v_y903) (p := .agg [.v (.int .i64 v_y903.fSector), .sl (v_y903.fData.map (eI .u8)), .v (.bool v_y903.fBarrier)]) rfl) (.cons (idx_ob (f := eS_lift_Req) h742) (.cons (get_ob (f := eS_lift_Req) h743) (.cons (Eq.refl (pcells (.agg [.v (.int .i64 v_y904.fSector), .sl (v_y904.fData.map (eI .u8)), .v (.bool v_y904.fBarrier)]))) (.cons (set_ob (f := eS_lift_Req) (l := (v_z900.set (v_z883).toNat v_y903)) (k := (v_z899).toNat) (z := v_y904) (p := .agg [.v (.int .i64 v_y904.fSector), .sl (v_y904.fData.map (eI .u8)), .v (.bool v_y904.fBarrier)]) rfl) .nil))))))))))))) (G_slices_partitionCmpFunc_lift_Req_h_L5_ok hF ks n v_a813 v_cmp816 v_cmp816_g v_cmp816_c v_cmp816_h k (wi .i64 (v_z883 + 1)) (wi .i64 (v_z899 - 1)) ((v_z900.set (v_z883).toNat v_y903).set (v_z899).toNat v_y904) _ h q)
                · rw [if_neg h742] at h; cases h
              · rw [if_neg h740] at h; cases h
            · rw [if_neg h738] at h; cases h
          · rw [if_neg h736] at h; cases h
/- slices.partitionCmpFunc[ringhall/lift.Req] -/
def G_slices_partitionCmpFunc_lift_Req_h (n : Nat) (v_data812 : (List S_lift_Req)) (v_a813 : Int) (v_b814 : Int) (v_pivot815 : Int) (v_cmp816 : (S_lift_Req → S_lift_Req → Option (Int))) : Option (Int × Bool × (List S_lift_Req)) :=
  if 0 ≤ v_pivot815 ∧ (v_pivot815).toNat < v_data812.length then
   (v_data812[(v_pivot815).toNat]?).bind fun (v_y817 : S_lift_Req) =>
   if 0 ≤ v_a813 ∧ (v_a813).toNat < v_data812.length then
    (v_data812[(v_a813).toNat]?).bind fun (v_y818 : S_lift_Req) =>
    if 0 ≤ v_a813 ∧ (v_a813).toNat < v_data812.length then
     (v_data812[(v_a813).toNat]?).bind fun (v_y819 : S_lift_Req) =>
     if 0 ≤ v_pivot815 ∧ (v_pivot815).toNat < (v_data812.set (v_a813).toNat v_y817).length then
      ((v_data812.set (v_a813).toNat v_y817)[(v_pivot815).toNat]?).bind fun (v_y820 : S_lift_Req) =>
      (G_slices_partitionCmpFunc_lift_Req_h_L1 n v_a813 v_cmp816 v_b814 n (wi .i64 (v_a813 + 1)) ((v_data812.set (v_a813).toNat v_y817).set (v_pivot815).toNat v_y818)).bind fun v_o834 => match v_o834 with
      | .x0 v_z835 v_z836 =>
        (G_slices_partitionCmpFunc_lift_Req_h_L2 n v_a813 v_cmp816 v_z835 n (wi .i64 (v_b814 - 1)) v_z836).bind fun v_o850 => match v_o850 with
        | .x0 v_z851 v_z852 =>
          if v_z835 > v_z851 then
           if 0 ≤ v_a813 ∧ (v_a813).toNat < v_z852.length then
            (v_z852[(v_a813).toNat]?).bind fun (v_y857 : S_lift_Req) =>
            if 0 ≤ v_z851 ∧ (v_z851).toNat < v_z852.length then
             (v_z852[(v_z851).toNat]?).bind fun (v_y858 : S_lift_Req) =>
             if 0 ≤ v_z851 ∧ (v_z851).toNat < v_z852.length then
              (v_z852[(v_z851).toNat]?).bind fun (v_y859 : S_lift_Req) =>
              if 0 ≤ v_a813 ∧ (v_a813).toNat < (v_z852.set (v_z851).toNat v_y857).length then
               ((v_z852.set (v_z851).toNat v_y857)[(v_a813).toNat]?).bind fun (v_y860 : S_lift_Req) =>
               some (v_z851, true, ((v_z852.set (v_z851).toNat v_y857).set (v_a813).toNat v_y858))
              else none
             else none
            else none
           else none
          else
           if 0 ≤ v_z851 ∧ (v_z851).toNat < v_z852.length then
            (v_z852[(v_z851).toNat]?).bind fun (v_y861 : S_lift_Req) =>
            if 0 ≤ v_z835 ∧ (v_z835).toNat < v_z852.length then
             (v_z852[(v_z835).toNat]?).bind fun (v_y862 : S_lift_Req) =>
             if 0 ≤ v_z835 ∧ (v_z835).toNat < v_z852.length then
              (v_z852[(v_z835).toNat]?).bind fun (v_y863 : S_lift_Req) =>
              if 0 ≤ v_z851 ∧ (v_z851).toNat < (v_z852.set (v_z835).toNat v_y861).length then
               ((v_z852.set (v_z835).toNat v_y861)[(v_z851).toNat]?).bind fun (v_y864 : S_lift_Req) =>
               (G_slices_partitionCmpFunc_lift_Req_h_L5 n v_a813 v_cmp816 n (wi .i64 (v_z835 + 1)) (wi .i64 (v_z851 - 1)) ((v_z852.set (v_z835).toNat v_y861).set (v_z851).toNat v_y862)).bind fun v_o907 => match v_o907 with
               | .x0 v_z908 v_z909 =>
                 if 0 ≤ v_a813 ∧ (v_a813).toNat < v_z909.length then
                  (v_z909[(v_a813).toNat]?).bind fun (v_y910 : S_lift_Req) =>
                  if 0 ≤ v_z908 ∧ (v_z908).toNat < v_z909.length then
                   (v_z909[(v_z908).toNat]?).bind fun (v_y911 : S_lift_Req) =>
                   if 0 ≤ v_z908 ∧ (v_z908).toNat < v_z909.length then
                    (v_z909[(v_z908).toNat]?).bind fun (v_y912 : S_lift_Req) =>
                    if 0 ≤ v_a813 ∧ (v_a813).toNat < (v_z909.set (v_z908).toNat v_y910).length then
                     ((v_z909.set (v_z908).toNat v_y910)[(v_a813).toNat]?).bind fun (v_y913 : S_lift_Req) =>
                     some (v_z908, false, ((v_z909.set (v_z908).toNat v_y910).set (v_a813).toNat v_y911))
                    else none
                   else none
                  else none
                 else none
              else none
             else none
            else none
           else none
     else none
    else none
   else none
  else none
theorem G_slices_partitionCmpFunc_lift_Req_h_ok (n : Nat) (v_data812 : (List S_lift_Req)) (v_a813 : Int) (v_b814 : Int) (v_pivot815 : Int) (v_cmp816 : (S_lift_Req → S_lift_Req → Option (Int))) (v_cmp816_g : FuncId) (v_cmp816_c : List PV) (v_cmp816_h : ∀ (x0 : S_lift_Req) (x1 : S_lift_Req) (r : Int), v_cmp816 x0 x1 = some r → Ret Try.prog v_cmp816_g ([eS_lift_Req x0, eS_lift_Req x1] ++ v_cmp816_c) ((eI .i64) r)) (r : Int × Bool × (List S_lift_Req)) (h : G_slices_partitionCmpFunc_lift_Req_h n v_data812 v_a813 v_b814 v_pivot815 v_cmp816 = some r) : RetH Try.prog 49 [.srf 0, .d ((eI .i64) v_a813), .d ((eI .i64) v_b814), .d ((eI .i64) v_pivot815), .d ((.clo v_cmp816_g v_cmp816_c))] [.row 26 3 (v_data812.map eS_lift_Req)] (.tup [.d ((eI .i64) r.1), .d (eB r.2.1)]) [.row 26 3 (r.2.2.map eS_lift_Req)] := by
  refine retH_run (n := 178) (fn := Try.f49) (c := bodyOf Try.f49) (by kernel_rfl) (by kernel_rfl) (by kernel_rfl) (by kernel_rfl) ?_
  have hF : KC 178 (FinH Try.prog Try.f49 [.row 26 3 (v_data812.map eS_lift_Req)] (.tup [.d ((eI .i64) r.1), .d (eB r.2.1)]) [.row 26 3 (r.2.2.map eS_lift_Req)]) := FinH.kc' (by kernel_rfl)
  unfold G_slices_partitionCmpFunc_lift_Req_h at h
  by_cases h645 : 0 ≤ v_pivot815 ∧ (v_pivot815).toNat < v_data812.length
  · rw [if_pos h645] at h
    obtain ⟨v_y817, h646, h⟩ := bind_some h
    by_cases h647 : 0 ≤ v_a813 ∧ (v_a813).toNat < v_data812.length
    · rw [if_pos h647] at h
      obtain ⟨v_y818, h648, h⟩ := bind_some h
      by_cases h649 : 0 ≤ v_a813 ∧ (v_a813).toNat < v_data812.length
      · rw [if_pos h649] at h
        obtain ⟨v_y819, h650, h⟩ := bind_some h
        by_cases h651 : 0 ≤ v_pivot815 ∧ (v_pivot815).toNat < (v_data812.set (v_a813).toNat v_y817).length
        · rw [if_pos h651] at h
          obtain ⟨v_y820, h652, h⟩ := bind_some h
          obtain ⟨v_o834, h666, h⟩ := bind_some h
          refine pkk_sound TTok mix hF 9 (hs := [.y (eS_lift_Req v_y817), .y (eS_lift_Req v_y818), .w ((v_data812.set (v_a813).toNat v_y817).map eS_lift_Req), .y (eS_lift_Req v_y819), .w (((v_data812.set (v_a813).toNat v_y817).set (v_pivot815).toNat v_y818).map eS_lift_Req), .y (eS_lift_Req v_y820), .n n]) (ts := []) (s := [1, 0]) (l := [0, 1, 4, 12, 13]) (by kernel_rfl) (by kernel_rfl) (.cons (idx_ob (f := eS_lift_Req) h645) (.cons (get_ob (f := eS_lift_Req) h646) (.cons (idx_ob (f := eS_lift_Req) h647) (.cons (get_ob (f := eS_lift_Req) h648) (.cons (idx_ob (f := eS_lift_Req) h649) (.cons (get_ob (f := eS_lift_Req) h650) (.cons (Eq.refl (pcells (.agg [.v (.int .i64 v_y817.fSector), .sl (v_y817.fData.map (eI .u8)), .v (.bool v_y817.fBarrier)]))) (.cons (set_ob (f := eS_lift_Req) (l := v_data812) (k := (v_a813).toNat) (z := v_y817) (p := .agg [.v (.int .i64 v_y817.fSector), .sl (v_y817.fData.map (eI .u8)), .v (.bool v_y817.fBarrier)]) rfl) (.cons (idx_ob (f := eS_lift_Req) h651) (.cons (get_ob (f := eS_lift_Req) h652) (.cons (Eq.refl (pcells (.agg [.v (.int .i64 v_y818.fSector), .sl (v_y818.fData.map (eI .u8)), .v (.bool v_y818.fBarrier)]))) (.cons (set_ob (f := eS_lift_Req) (l := (v_data812.set (v_a813).toNat v_y817)) (k := (v_pivot815).toNat) (z := v_y818) (p := .agg [.v (.int .i64 v_y818.fSector), .sl (v_y818.fData.map (eI .u8)), .v (.bool v_y818.fBarrier)]) rfl) .nil)))))))))))) (G_slices_partitionCmpFunc_lift_Req_h_L1_ok hF (.b 0 :: .s (cR (cR (cR (cR (bodyOf Try.f49))))) :: []) n v_a813 v_cmp816 v_b814 v_cmp816_g v_cmp816_c v_cmp816_h n (wi .i64 (v_a813 + 1)) ((v_data812.set (v_a813).toNat v_y817).set (v_pivot815).toNat v_y818) _ h666 ?_)
          cases v_o834 with
          | x0 v_z835 v_z836 =>
            try dsimp only at h
            obtain ⟨v_o850, h680, h⟩ := bind_some h
            refine pkk_sound TTok mix hF 4 (hs := [.n n]) (ts := []) (s := [0, 1]) (l := [0, 1, 4, 12, 13]) (by kernel_rfl) (by kernel_rfl) .nil (G_slices_partitionCmpFunc_lift_Req_h_L2_ok hF (.b 2 :: .s (cR (cR (cR (cR (cR (bodyOf Try.f49)))))) :: []) n v_a813 v_cmp816 v_z835 v_cmp816_g v_cmp816_c v_cmp816_h n (wi .i64 (v_b814 - 1)) v_z836 _ h680 ?_)
            cases v_o850 with
            | x0 v_z851 v_z852 =>
              try dsimp only at h
              by_cases h690 : v_z835 > v_z851
              · rw [if_pos h690] at h
                by_cases h691 : 0 ≤ v_a813 ∧ (v_a813).toNat < v_z852.length
                · rw [if_pos h691] at h
                  obtain ⟨v_y857, h692, h⟩ := bind_some h
                  by_cases h693 : 0 ≤ v_z851 ∧ (v_z851).toNat < v_z852.length
                  · rw [if_pos h693] at h
                    obtain ⟨v_y858, h694, h⟩ := bind_some h
                    by_cases h695 : 0 ≤ v_z851 ∧ (v_z851).toNat < v_z852.length
                    · rw [if_pos h695] at h
                      obtain ⟨v_y859, h696, h⟩ := bind_some h
                      by_cases h697 : 0 ≤ v_a813 ∧ (v_a813).toNat < (v_z852.set (v_z851).toNat v_y857).length
                      · rw [if_pos h697] at h
                        obtain ⟨v_y860, h698, h⟩ := bind_some h
                        obtain rfl := Option.some.inj h
                        exact pendH_sound TTok mix 11 (hs := [.t true, .y (eS_lift_Req v_y857), .y (eS_lift_Req v_y858), .w ((v_z852.set (v_z851).toNat v_y857).map eS_lift_Req), .y (eS_lift_Req v_y859), .w (((v_z852.set (v_z851).toNat v_y857).set (v_a813).toNat v_y858).map eS_lift_Req), .y (eS_lift_Req v_y860)]) [1] (by kernel_rfl) (by kernel_rfl) (by kernel_rfl) (.cons (dt h690) (.cons (idx_ob (f := eS_lift_Req) h691) (.cons (get_ob (f := eS_lift_Req) h692) (.cons (idx_ob (f := eS_lift_Req) h693) (.cons (get_ob (f := eS_lift_Req) h694) (.cons (idx_ob (f := eS_lift_Req) h695) (.cons (get_ob (f := eS_lift_Req) h696) (.cons (Eq.refl (pcells (.agg [.v (.int .i64 v_y857.fSector), .sl (v_y857.fData.map (eI .u8)), .v (.bool v_y857.fBarrier)]))) (.cons (set_ob (f := eS_lift_Req) (l := v_z852) (k := (v_z851).toNat) (z := v_y857) (p := .agg [.v (.int .i64 v_y857.fSector), .sl (v_y857.fData.map (eI .u8)), .v (.bool v_y857.fBarrier)]) rfl) (.cons (idx_ob (f := eS_lift_Req) h697) (.cons (get_ob (f := eS_lift_Req) h698) (.cons (Eq.refl (pcells (.agg [.v (.int .i64 v_y858.fSector), .sl (v_y858.fData.map (eI .u8)), .v (.bool v_y858.fBarrier)]))) (.cons (set_ob (f := eS_lift_Req) (l := (v_z852.set (v_z851).toNat v_y857)) (k := (v_a813).toNat) (z := v_y858) (p := .agg [.v (.int .i64 v_y858.fSector), .sl (v_y858.fData.map (eI .u8)), .v (.bool v_y858.fBarrier)]) rfl) .nil)))))))))))))
                      · rw [if_neg h697] at h; cases h
                    · rw [if_neg h695] at h; cases h
                  · rw [if_neg h693] at h; cases h
                · rw [if_neg h691] at h; cases h
              · rw [if_neg h690] at h
                by_cases h699 : 0 ≤ v_z851 ∧ (v_z851).toNat < v_z852.length
                · rw [if_pos h699] at h
                  obtain ⟨v_y861, h700, h⟩ := bind_some h
                  by_cases h701 : 0 ≤ v_z835 ∧ (v_z835).toNat < v_z852.length
                  · rw [if_pos h701] at h
                    obtain ⟨v_y862, h702, h⟩ := bind_some h
                    by_cases h703 : 0 ≤ v_z835 ∧ (v_z835).toNat < v_z852.length
                    · rw [if_pos h703] at h
                      obtain ⟨v_y863, h704, h⟩ := bind_some h
                      by_cases h705 : 0 ≤ v_z851 ∧ (v_z851).toNat < (v_z852.set (v_z835).toNat v_y861).length
                      · rw [if_pos h705] at h
                        obtain ⟨v_y864, h706, h⟩ := bind_some h
                        obtain ⟨v_o907, h744, h⟩ := bind_some h
                        refine pkk_sound TTok mix hF 15 (hs := [.t false, .y (eS_lift_Req v_y861), .y (eS_lift_Req v_y862), .w ((v_z852.set (v_z835).toNat v_y861).map eS_lift_Req), .y (eS_lift_Req v_y863), .w (((v_z852.set (v_z835).toNat v_y861).set (v_z851).toNat v_y862).map eS_lift_Req), .y (eS_lift_Req v_y864), .n n]) (ts := []) (s := [0, 1]) (l := [0, 1, 4, 12, 13]) (by kernel_rfl) (by kernel_rfl) (.cons (df h690) (.cons (idx_ob (f := eS_lift_Req) h699) (.cons (get_ob (f := eS_lift_Req) h700) (.cons (idx_ob (f := eS_lift_Req) h701) (.cons (get_ob (f := eS_lift_Req) h702) (.cons (idx_ob (f := eS_lift_Req) h703) (.cons (get_ob (f := eS_lift_Req) h704) (.cons (Eq.refl (pcells (.agg [.v (.int .i64 v_y861.fSector), .sl (v_y861.fData.map (eI .u8)), .v (.bool v_y861.fBarrier)]))) (.cons (set_ob (f := eS_lift_Req) (l := v_z852) (k := (v_z835).toNat) (z := v_y861) (p := .agg [.v (.int .i64 v_y861.fSector), .sl (v_y861.fData.map (eI .u8)), .v (.bool v_y861.fBarrier)]) rfl) (.cons (idx_ob (f := eS_lift_Req) h705) (.cons (get_ob (f := eS_lift_Req) h706) (.cons (Eq.refl (pcells (.agg [.v (.int .i64 v_y862.fSector), .sl (v_y862.fData.map (eI .u8)), .v (.bool v_y862.fBarrier)]))) (.cons (set_ob (f := eS_lift_Req) (l := (v_z852.set (v_z835).toNat v_y861)) (k := (v_z851).toNat) (z := v_y862) (p := .agg [.v (.int .i64 v_y862.fSector), .sl (v_y862.fData.map (eI .u8)), .v (.bool v_y862.fBarrier)]) rfl) .nil))))))))))))) (G_slices_partitionCmpFunc_lift_Req_h_L5_ok hF (.b 4 :: .s (cR (cR (cR (cR (cR (cR (cR (cR (cR (cR (bodyOf Try.f49))))))))))) :: []) n v_a813 v_cmp816 v_cmp816_g v_cmp816_c v_cmp816_h n (wi .i64 (v_z835 + 1)) (wi .i64 (v_z851 - 1)) ((v_z852.set (v_z835).toNat v_y861).set (v_z851).toNat v_y862) _ h744 ?_)
                        cases v_o907 with
                        | x0 v_z908 v_z909 =>
                          try dsimp only at h
                          by_cases h745 : 0 ≤ v_a813 ∧ (v_a813).toNat < v_z909.length
                          · rw [if_pos h745] at h
                            obtain ⟨v_y910, h746, h⟩ := bind_some h
                            by_cases h747 : 0 ≤ v_z908 ∧ (v_z908).toNat < v_z909.length
                            · rw [if_pos h747] at h
                              obtain ⟨v_y911, h748, h⟩ := bind_some h
                              by_cases h749 : 0 ≤ v_z908 ∧ (v_z908).toNat < v_z909.length
                              · rw [if_pos h749] at h
                                obtain ⟨v_y912, h750, h⟩ := bind_some h
                                by_cases h751 : 0 ≤ v_a813 ∧ (v_a813).toNat < (v_z909.set (v_z908).toNat v_y910).length
                                · rw [if_pos h751] at h
                                  obtain ⟨v_y913, h752, h⟩ := bind_some h
                                  obtain rfl := Option.some.inj h
                                  exact pendH_sound TTok mix 6 (hs := [.y (eS_lift_Req v_y910), .y (eS_lift_Req v_y911), .w ((v_z909.set (v_z908).toNat v_y910).map eS_lift_Req), .y (eS_lift_Req v_y912), .w (((v_z909.set (v_z908).toNat v_y910).set (v_a813).toNat v_y911).map eS_lift_Req), .y (eS_lift_Req v_y913)]) [1] (by kernel_rfl) (by kernel_rfl) (by kernel_rfl) (.cons (idx_ob (f := eS_lift_Req) h745) (.cons (get_ob (f := eS_lift_Req) h746) (.cons (idx_ob (f := eS_lift_Req) h747) (.cons (get_ob (f := eS_lift_Req) h748) (.cons (idx_ob (f := eS_lift_Req) h749) (.cons (get_ob (f := eS_lift_Req) h750) (.cons (Eq.refl (pcells (.agg [.v (.int .i64 v_y910.fSector), .sl (v_y910.fData.map (eI .u8)), .v (.bool v_y910.fBarrier)]))) (.cons (set_ob (f := eS_lift_Req) (l := v_z909) (k := (v_z908).toNat) (z := v_y910) (p := .agg [.v (.int .i64 v_y910.fSector), .sl (v_y910.fData.map (eI .u8)), .v (.bool v_y910.fBarrier)]) rfl) (.cons (idx_ob (f := eS_lift_Req) h751) (.cons (get_ob (f := eS_lift_Req) h752) (.cons (Eq.refl (pcells (.agg [.v (.int .i64 v_y911.fSector), .sl (v_y911.fData.map (eI .u8)), .v (.bool v_y911.fBarrier)]))) (.cons (set_ob (f := eS_lift_Req) (l := (v_z909.set (v_z908).toNat v_y910)) (k := (v_a813).toNat) (z := v_y911) (p := .agg [.v (.int .i64 v_y911.fSector), .sl (v_y911.fData.map (eI .u8)), .v (.bool v_y911.fBarrier)]) rfl) .nil))))))))))))
                                · rw [if_neg h751] at h; cases h
                              · rw [if_neg h749] at h; cases h
                            · rw [if_neg h747] at h; cases h
                          · rw [if_neg h745] at h; cases h
                      · rw [if_neg h705] at h; cases h
                    · rw [if_neg h703] at h; cases h
                  · rw [if_neg h701] at h; cases h
                · rw [if_neg h699] at h; cases h
        · rw [if_neg h651] at h; cases h
      · rw [if_neg h649] at h; cases h
    · rw [if_neg h647] at h; cases h
  · rw [if_neg h645] at h; cases h
inductive G_slices_pdqsortCmpFunc_lift_Req_h_C1_R where
  | x0 (v_limit972 : Int) (v_w973 : (List S_lift_Req))
def G_slices_pdqsortCmpFunc_lift_Req_h_C1_ex : G_slices_pdqsortCmpFunc_lift_Req_h_C1_R → Ex
  | .x0 _ _ => .normal
def G_slices_pdqsortCmpFunc_lift_Req_h_C1_st (v_a347 : Int) (v_b348 : Int) (v_limit349 : Int) (v_cmp346 : (S_lift_Req → S_lift_Req → Option (Int))) (v_wasBalanced350 : Bool) (v_wasPartitioned351 : Bool) (v_w352 : (List S_lift_Req)) (v_cmp346_g : FuncId) (v_cmp346_c : (List PV)) : G_slices_pdqsortCmpFunc_lift_Req_h_C1_R → PS
  | .x0 v_limit972 v_w973 => ⟨(.srf 1 :: .d (.v (.int .i64 v_a347)) :: .d (.v (.int .i64 v_b348)) :: .d (.v (.int .i64 v_limit972)) :: .d (.clo v_cmp346_g v_cmp346_c) :: dd :: dd :: dd :: dd :: dd :: .d (.v (.bool v_wasBalanced350)) :: .d (.v (.bool v_wasPartitioned351)) :: .d (.v (.int .i64 (wi .i64 (v_b348 - v_a347)))) :: (dds 135 [])), [.gh 0 (.srf 1), .row 26 3 (v_w973.map eS_lift_Req)]⟩
def G_slices_pdqsortCmpFunc_lift_Req_h_C1_hd (v_a347 : Int) (v_b348 : Int) (v_limit349 : Int) (v_cmp346 : (S_lift_Req → S_lift_Req → Option (Int))) (v_wasBalanced350 : Bool) (v_wasPartitioned351 : Bool) (v_w352 : (List S_lift_Req)) (v_cmp346_g : FuncId) (v_cmp346_c : (List PV))  : PS := ⟨(.srf 1 :: .d (.v (.int .i64 v_a347)) :: .d (.v (.int .i64 v_b348)) :: .d (.v (.int .i64 v_limit349)) :: .d (.clo v_cmp346_g v_cmp346_c) :: dd :: dd :: dd :: dd :: dd :: .d (.v (.bool v_wasBalanced350)) :: .d (.v (.bool v_wasPartitioned351)) :: .d (.v (.int .i64 (wi .i64 (v_b348 - v_a347)))) :: (dds 26 (.d (.v (.bool (!v_wasBalanced350))) :: (dds 108 [])))), [.gh 0 (.srf 1), .row 26 3 (v_w352.map eS_lift_Req)]⟩
def G_slices_pdqsortCmpFunc_lift_Req_h_C1 (n : Nat) (v_a347 : Int) (v_b348 : Int) (v_limit349 : Int) (v_cmp346 : (S_lift_Req → S_lift_Req → Option (Int))) (v_wasBalanced350 : Bool) (v_wasPartitioned351 : Bool) (v_w352 : (List S_lift_Req)) : Option G_slices_pdqsortCmpFunc_lift_Req_h_C1_R :=
  if v_wasBalanced350 = true then
   some (.x0 v_limit349 v_w352)
  else
   (G_slices_breakPatternsCmpFunc_lift_Req_h n v_w352 v_a347 v_b348 v_cmp346).bind fun (v_r971 : ((List S_lift_Req))) =>
   some (.x0 (wi .i64 (v_limit349 - 1)) v_r971)
theorem G_slices_pdqsortCmpFunc_lift_Req_h_C1_ok {Fi : Ex → PS → Prop} (hF : KC 148 Fi) (ks : List Fr) (n : Nat) (v_a347 : Int) (v_b348 : Int) (v_limit349 : Int) (v_cmp346 : (S_lift_Req → S_lift_Req → Option (Int))) (v_wasBalanced350 : Bool) (v_wasPartitioned351 : Bool) (v_w352 : (List S_lift_Req)) (v_cmp346_g : FuncId) (v_cmp346_c : (List PV)) (v_cmp346_h : ∀ (x0 : S_lift_Req) (x1 : S_lift_Req) (r : Int), v_cmp346 x0 x1 = some r → Ret Try.prog v_cmp346_g ([eS_lift_Req x0, eS_lift_Req x1] ++ v_cmp346_c) ((eI .i64) r)) (o : G_slices_pdqsortCmpFunc_lift_Req_h_C1_R) (h : G_slices_pdqsortCmpFunc_lift_Req_h_C1 n v_a347 v_b348 v_limit349 v_cmp346 v_wasBalanced350 v_wasPartitioned351 v_w352 = some o) (q : RunE Try.prog 148 Fi ks (G_slices_pdqsortCmpFunc_lift_Req_h_C1_ex o) (G_slices_pdqsortCmpFunc_lift_Req_h_C1_st v_a347 v_b348 v_limit349 v_cmp346 v_wasBalanced350 v_wasPartitioned351 v_w352 v_cmp346_g v_cmp346_c o)) : RunE Try.prog 148 Fi (.s (cR (cL (cR (cR (cR (cB (cP (cB (cR (cR (bodyOf Try.f39))))))))))) :: ks) .normal (G_slices_pdqsortCmpFunc_lift_Req_h_C1_hd v_a347 v_b348 v_limit349 v_cmp346 v_wasBalanced350 v_wasPartitioned351 v_w352 v_cmp346_g v_cmp346_c) := by
  unfold G_slices_pdqsortCmpFunc_lift_Req_h_C1 at h
  by_cases h821 : v_wasBalanced350 = true
  · rw [if_pos h821] at h
    cases h
    exact pkk_sound TTok mix hF 2 (hs := [.t false]) (ts := []) (s := [0, 1]) (l := [0, 1, 2, 3, 4, 10, 11, 12]) (by kernel_rfl) (by kernel_rfl) (.cons (bnf h821) .nil) q
  · rw [if_neg h821] at h
    obtain ⟨v_r971, h822, h⟩ := bind_some h
    cases h
    exact pkk_sound TTok mix hF 4 (hs := [.t true, .h [1] [] [.row 26 3 (v_r971.map eS_lift_Req)] (.tup [])]) (ts := []) (s := [0, 1]) (l := [0, 1, 2, 3, 4, 10, 11, 12]) (by kernel_rfl) (by kernel_rfl) (.cons (bnt (vf h821)) (.cons (G_slices_breakPatternsCmpFunc_lift_Req_h_ok n v_w352 v_a347 v_b348 v_cmp346 v_cmp346_g v_cmp346_c v_cmp346_h _ h822) .nil)) q
inductive G_slices_pdqsortCmpFunc_lift_Req_h_C2_R where
  | x0 (v_pivot983 : Int) (v_hint984 : Int) (v_w985 : (List S_lift_Req))
def G_slices_pdqsortCmpFunc_lift_Req_h_C2_ex : G_slices_pdqsortCmpFunc_lift_Req_h_C2_R → Ex
  | .x0 _ _ _ => .normal
def G_slices_pdqsortCmpFunc_lift_Req_h_C2_st (v_a347 : Int) (v_b348 : Int) (v_z977 : Int) (v_cmp346 : (S_lift_Req → S_lift_Req → Option (Int))) (v_wasBalanced350 : Bool) (v_wasPartitioned351 : Bool) (v_r979 : (Int × Int)) (v_z978 : (List S_lift_Req)) (v_cmp346_g : FuncId) (v_cmp346_c : (List PV)) : G_slices_pdqsortCmpFunc_lift_Req_h_C2_R → PS
  | .x0 v_pivot983 v_hint984 v_w985 => ⟨(.srf 1 :: .d (.v (.int .i64 v_a347)) :: .d (.v (.int .i64 v_b348)) :: .d (.v (.int .i64 v_z977)) :: .d (.clo v_cmp346_g v_cmp346_c) :: dd :: dd :: dd :: dd :: dd :: .d (.v (.bool v_wasBalanced350)) :: .d (.v (.bool v_wasPartitioned351)) :: .d (.v (.int .i64 (wi .i64 (v_b348 - v_a347)))) :: .d (.v (.int .i64 v_pivot983)) :: .d (.v (.int .i64 v_hint984)) :: (dds 133 [])), [.gh 0 (.srf 1), .row 26 3 (v_w985.map eS_lift_Req)]⟩
def G_slices_pdqsortCmpFunc_lift_Req_h_C2_hd (v_a347 : Int) (v_b348 : Int) (v_z977 : Int) (v_cmp346 : (S_lift_Req → S_lift_Req → Option (Int))) (v_wasBalanced350 : Bool) (v_wasPartitioned351 : Bool) (v_r979 : (Int × Int)) (v_z978 : (List S_lift_Req)) (v_cmp346_g : FuncId) (v_cmp346_c : (List PV))  : PS := ⟨(.srf 1 :: .d (.v (.int .i64 v_a347)) :: .d (.v (.int .i64 v_b348)) :: .d (.v (.int .i64 v_z977)) :: .d (.clo v_cmp346_g v_cmp346_c) :: dd :: dd :: dd :: dd :: dd :: .d (.v (.bool v_wasBalanced350)) :: .d (.v (.bool v_wasPartitioned351)) :: .d (.v (.int .i64 (wi .i64 (v_b348 - v_a347)))) :: .d (.v (.int .i64 v_r979.1)) :: .d (.v (.int .i64 v_r979.2)) :: (dds 41 (.d (.v (.bool (v_r979.2 == 2))) :: (dds 91 [])))), [.gh 0 (.srf 1), .row 26 3 (v_z978.map eS_lift_Req)]⟩
def G_slices_pdqsortCmpFunc_lift_Req_h_C2 (n : Nat) (v_a347 : Int) (v_b348 : Int) (v_z977 : Int) (v_cmp346 : (S_lift_Req → S_lift_Req → Option (Int))) (v_wasBalanced350 : Bool) (v_wasPartitioned351 : Bool) (v_r979 : (Int × Int)) (v_z978 : (List S_lift_Req)) : Option G_slices_pdqsortCmpFunc_lift_Req_h_C2_R :=
  if v_r979.2 = 2 then
   (G_slices_reverseRangeCmpFunc_lift_Req_h n v_z978 v_a347 v_b348 v_cmp346).bind fun (v_r982 : ((List S_lift_Req))) =>
   some (.x0 (wi .i64 ((wi .i64 (v_b348 - 1)) - (wi .i64 (v_r979.1 - v_a347)))) 1 v_r982)
  else
   some (.x0 v_r979.1 v_r979.2 v_z978)
theorem G_slices_pdqsortCmpFunc_lift_Req_h_C2_ok {Fi : Ex → PS → Prop} (hF : KC 148 Fi) (ks : List Fr) (n : Nat) (v_a347 : Int) (v_b348 : Int) (v_z977 : Int) (v_cmp346 : (S_lift_Req → S_lift_Req → Option (Int))) (v_wasBalanced350 : Bool) (v_wasPartitioned351 : Bool) (v_r979 : (Int × Int)) (v_z978 : (List S_lift_Req)) (v_cmp346_g : FuncId) (v_cmp346_c : (List PV)) (v_cmp346_h : ∀ (x0 : S_lift_Req) (x1 : S_lift_Req) (r : Int), v_cmp346 x0 x1 = some r → Ret Try.prog v_cmp346_g ([eS_lift_Req x0, eS_lift_Req x1] ++ v_cmp346_c) ((eI .i64) r)) (o : G_slices_pdqsortCmpFunc_lift_Req_h_C2_R) (h : G_slices_pdqsortCmpFunc_lift_Req_h_C2 n v_a347 v_b348 v_z977 v_cmp346 v_wasBalanced350 v_wasPartitioned351 v_r979 v_z978 = some o) (q : RunE Try.prog 148 Fi ks (G_slices_pdqsortCmpFunc_lift_Req_h_C2_ex o) (G_slices_pdqsortCmpFunc_lift_Req_h_C2_st v_a347 v_b348 v_z977 v_cmp346 v_wasBalanced350 v_wasPartitioned351 v_r979 v_z978 v_cmp346_g v_cmp346_c o)) : RunE Try.prog 148 Fi (.s (cR (cL (cR (cR (cR (cR (cR (cB (cP (cB (cR (cR (bodyOf Try.f39))))))))))))) :: ks) .normal (G_slices_pdqsortCmpFunc_lift_Req_h_C2_hd v_a347 v_b348 v_z977 v_cmp346 v_wasBalanced350 v_wasPartitioned351 v_r979 v_z978 v_cmp346_g v_cmp346_c) := by
  unfold G_slices_pdqsortCmpFunc_lift_Req_h_C2 at h
  by_cases h827 : v_r979.2 = 2
  · rw [if_pos h827] at h
    obtain ⟨v_r982, h828, h⟩ := bind_some h
    cases h
    exact pkk_sound TTok mix hF 6 (hs := [.t true, .h [1] [] [.row 26 3 (v_r982.map eS_lift_Req)] (.tup [])]) (ts := []) (s := [0, 1]) (l := [0, 1, 2, 3, 4, 10, 11, 12, 13, 14]) (by kernel_rfl) (by kernel_rfl) (.cons (bt h827) (.cons (G_slices_reverseRangeCmpFunc_lift_Req_h_ok n v_z978 v_a347 v_b348 v_cmp346 v_cmp346_g v_cmp346_c v_cmp346_h _ h828) .nil)) q
  · rw [if_neg h827] at h
    cases h
    exact pkk_sound TTok mix hF 2 (hs := [.t false]) (ts := []) (s := [0, 1]) (l := [0, 1, 2, 3, 4, 10, 11, 12, 13, 14]) (by kernel_rfl) (by kernel_rfl) (.cons (bf h827) .nil) q
inductive G_slices_pdqsortCmpFunc_lift_Req_h_C3_R where
  | x0 (v_w996 : (List S_lift_Req))
  | x1 (v_w997 : (List S_lift_Req))
end Go.Proofs.Ytdimcmpkhbfcnaa.pv
