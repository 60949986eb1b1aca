/- What the functions compute, as functions over plain data, with their contracts: written by gen.py. -/
import Derived.Test.YtkeikccopkjgiaaDoorProg
import Derived.Test.YtkeikccopkjgiaaDoorQr
import Derived.Test.YtkeikccopkjgiaaDoorShelf
import Derived.Test.YtkeikccopkjgiaaDoorSh
set_option maxRecDepth 100000
set_option linter.all false
namespace Go.Proofs.YtkeikccopkjgiaaDoor.pv
open Go.RowKit
def TT : List TI := [
⟨1, 0, .oth, []⟩,
⟨1, 8, .oth, [.nf]⟩,
⟨1, 8, .int .i64, [.i .i64]⟩,
⟨1, 8, .int .i64, [.i .i64]⟩,
⟨1, 1, .bool, [.b]⟩,
⟨1, 1, .int .u8, [.i .u8]⟩,
⟨1, 1, .int .u8, [.i .u8]⟩,
⟨4, 24, .st [(0, 2), (1, 3), (2, 4), (3, 6)], [.i .i64, .i .i64, .b, .i .u8]⟩,
⟨4, 24, .st [(0, 2), (1, 3), (2, 4), (3, 6)], [.i .i64, .i .i64, .b, .i .u8]⟩,
⟨1, 16, .str, [.s]⟩,
⟨1, 16, .str, [.s]⟩,
⟨1, 16, .str, [.s]⟩,
⟨1, 8, .int .u64, [.i .u64]⟩,
⟨2, 24, .st [(0, 9), (1, 12)], [.s, .i .u64]⟩,
⟨2, 24, .st [(0, 9), (1, 12)], [.s, .i .u64]⟩,
⟨1, 8, .ptr 72, [.np]⟩,
⟨1, 8, .ptr 75, [.np]⟩,
⟨1, 8, .ptr 84, [.np]⟩,
⟨1, 8, .st [(0, 17)], [.np]⟩,
⟨1, 8, .st [(0, 17)], [.np]⟩,
⟨1, 16, .oth, [.ni]⟩,
⟨1, 4, .int .i32, [.i .i32]⟩,
⟨1, 24, .sl 9, [.sl]⟩,
⟨1, 8, .int .i64, [.i .i64]⟩,
⟨1, 0, .oth, []⟩,
⟨1, 8, .oth, [.nf]⟩,
⟨1, 8, .oth, [.nf]⟩,
⟨1, 8, .oth, [.nf]⟩,
⟨4, 32, .st [(0, 3), (1, 3), (2, 3), (3, 3)], [.i .i64, .i .i64, .i .i64, .i .i64]⟩,
⟨4, 32, .st [(0, 3), (1, 3), (2, 3), (3, 3)], [.i .i64, .i .i64, .i .i64, .i .i64]⟩,
⟨1, 4, .int .u32, [.i .u32]⟩,
⟨1, 0, .oth, []⟩,
⟨1, 8, .oth, [.nf]⟩,
⟨1, 0, .oth, []⟩,
⟨1, 8, .oth, [.nf]⟩,
⟨1, 8, .oth, [.nf]⟩,
⟨1, 0, .oth, []⟩,
⟨1, 8, .oth, [.nf]⟩,
⟨1, 0, .oth, []⟩,
⟨1, 8, .oth, [.nf]⟩,
⟨1, 8, .oth, [.nf]⟩,
⟨1, 8, .oth, [.nf]⟩,
⟨1, 8, .oth, [.nf]⟩,
⟨1, 8, .oth, [.nf]⟩,
⟨1, 8, .oth, [.nf]⟩,
⟨1, 8, .oth, [.nf]⟩,
⟨1, 8, .oth, [.nf]⟩,
⟨1, 0, .oth, []⟩,
⟨1, 8, .oth, [.nf]⟩,
⟨1, 8, .int .u64, [.i .u64]⟩,
⟨1, 2, .int .u16, [.i .u16]⟩,
⟨1, 2, .int .i16, [.i .i16]⟩,
⟨1, 0, .oth, []⟩,
⟨1, 8, .oth, [.nf]⟩,
⟨1, 8, .oth, [.nf]⟩,
⟨1, 24, .sl 57, [.sl]⟩,
⟨2, 16, .st [(0, 3), (1, 3)], [.i .i64, .i .i64]⟩,
⟨2, 16, .st [(0, 3), (1, 3)], [.i .i64, .i .i64]⟩,
⟨1, 8, .oth, [.nf]⟩,
⟨1, 8, .oth, [.nf]⟩,
⟨1, 8, .oth, [.nf]⟩,
⟨1, 0, .oth, []⟩,
⟨1, 8, .oth, [.nf]⟩,
⟨1, 8, .oth, [.nf]⟩,
⟨256, 256, .arr 256 5, List.replicate 256 (.i .u8)⟩,
⟨2, 2, .st [(0, 5), (1, 5)], [.i .u8, .i .u8]⟩,
⟨2, 2, .st [(0, 5), (1, 5)], [.i .u8, .i .u8]⟩,
⟨32, 32, .arr 16 66, List.replicate 32 (.i .u8)⟩,
⟨1, 0, .oth, []⟩,
⟨1, 8, .oth, [.nf]⟩,
⟨1, 8, .oth, [.nf]⟩,
⟨4, 40, .st [(0, 17), (1, 17), (2, 17), (3, 9)], [.np, .np, .np, .s]⟩,
⟨4, 40, .st [(0, 17), (1, 17), (2, 17), (3, 9)], [.np, .np, .np, .s]⟩,
⟨0, 0, .arr 0 16, []⟩,
⟨0, 0, .st [(0, 73)], []⟩,
⟨0, 0, .st [(0, 73)], []⟩,
⟨1, 8, .oth, [.nf]⟩,
⟨1, 1, .int .u8, [.i .u8]⟩,
⟨1, 1, .int .u8, [.i .u8]⟩,
⟨1, 8, .oth, [.nf]⟩,
⟨1, 8, .ptr 5, [.np]⟩,
⟨1, 4, .int .i32, [.i .i32]⟩,
⟨1, 4, .int .i32, [.i .i32]⟩,
⟨11, 48, .st [(0, 12), (1, 12), (2, 30), (3, 77), (4, 5), (5, 5), (6, 78), (7, 79), (8, 80), (9, 81), (10, 82)], [.i .u64, .i .u64, .i .u32, .i .u8, .i .u8, .i .u8, .i .u8, .nf, .np, .i .i32, .i .i32]⟩,
⟨11, 48, .st [(0, 12), (1, 12), (2, 30), (3, 77), (4, 5), (5, 5), (6, 78), (7, 79), (8, 80), (9, 81), (10, 82)], [.i .u64, .i .u64, .i .u32, .i .u8, .i .u8, .i .u8, .i .u8, .nf, .np, .i .i32, .i .i32]⟩,
⟨1, 8, .oth, [.np]⟩]
theorem TTok : TOk Tryd.prog TT := by unfold TOk; kernel_rfl
theorem mix : Tryd.prog.follows .mixedOrders = true := by kernel_rfl


theorem one_byteCount {c : ByteArray} (h : c.size = 1) : ∃ x, c = ⟨#[x]⟩ := by
  obtain ⟨⟨l⟩⟩ := c
  match l, h with
  | [x], _ => exact ⟨x, rfl⟩
def G_strings_Count (n : Nat) (s c : ByteArray) : Option Int := if c.size = 1 then some (((Lib.countByte s.data.toList (c.data.toList.headD 0) : Nat) : Int)) else none
theorem G_strings_Count_ok (n : Nat) (s c : ByteArray) (r : Int) (h : G_strings_Count n s c = some r) : Ret Tryd.prog 26 [eS s, eS c] (eI .i64 r) := by
  unfold G_strings_Count at h
  split at h
  · rename_i q
    obtain rfl := Option.some.inj h
    obtain ⟨x, rfl⟩ := one_byteCount q
    refine ⟨⟨Tryd.f26, by kernel_rfl, by kernel_rfl, by kernel_rfl⟩, fun ow w vs _ hv => ?_⟩
    simp only [RT, R, eS, eI] at hv
    obtain ⟨_, _, rfl, ⟨rfl, _⟩, _, _, rfl, ⟨rfl, _⟩, rfl⟩ := hv
    refine (Tryd.strings_Count_one s x w).mono ?_
    rintro e w' ⟨rfl, rfl⟩
    exact ⟨_, rfl, Below.refl _ _, rfl, rfl⟩
  · cases h
theorem one_byteIndex {c : ByteArray} (h : c.size = 1) : ∃ x, c = ⟨#[x]⟩ := by
  obtain ⟨⟨l⟩⟩ := c
  match l, h with
  | [x], _ => exact ⟨x, rfl⟩
def G_strings_Index (n : Nat) (s c : ByteArray) : Option Int := if c.size = 1 then some (Lib.indexByte s.data.toList (c.data.toList.headD 0)) else none
theorem G_strings_Index_ok (n : Nat) (s c : ByteArray) (r : Int) (h : G_strings_Index n s c = some r) : Ret Tryd.prog 27 [eS s, eS c] (eI .i64 r) := by
  unfold G_strings_Index at h
  split at h
  · rename_i q
    obtain rfl := Option.some.inj h
    obtain ⟨x, rfl⟩ := one_byteIndex q
    refine ⟨⟨Tryd.f27, by kernel_rfl, by kernel_rfl, by kernel_rfl⟩, fun ow w vs _ hv => ?_⟩
    simp only [RT, R, eS, eI] at hv
    obtain ⟨_, _, rfl, ⟨rfl, _⟩, _, _, rfl, ⟨rfl, _⟩, rfl⟩ := hv
    refine (Tryd.strings_Index_one s x w).mono ?_
    rintro e w' ⟨rfl, rfl⟩
    exact ⟨_, rfl, Below.refl _ _, rfl, rfl⟩
  · cases h
inductive G_strings_genSplit_C1_R where
  | x0 (v_n21 : Int)
def G_strings_genSplit_C1_ex : G_strings_genSplit_C1_R → Ex
  | .x0 _ => .normal
def G_strings_genSplit_C1_st (v_s9 : ByteArray) (v_sep10 : ByteArray) (v_sepSave11 : Int) (v_n12 : Int) : G_strings_genSplit_C1_R → PS
  | .x0 v_n21 => ⟨[.d (.v (.string v_s9)), .d (.v (.string v_sep10)), .d (.v (.int .i64 v_sepSave11)), .d (.v (.int .i64 v_n21)), dd, dd, dd, dd, dd, dd, dd, dd, dd, dd, dd, dd, dd, dd, dd, dd, dd, dd, dd, dd, dd, dd, dd, dd, dd, dd, dd, dd, dd, dd, dd, dd, dd, dd, dd, dd, dd, dd, dd, dd, dd, dd, dd, dd, dd, dd, dd, dd, dd, dd, dd, dd, dd, dd, dd, dd, dd, dd, dd, dd, dd, dd], []⟩
def G_strings_genSplit_C1_hd (v_s9 : ByteArray) (v_sep10 : ByteArray) (v_sepSave11 : Int) (v_n12 : Int)  : PS := ⟨[.d (.v (.string v_s9)), .d (.v (.string v_sep10)), .d (.v (.int .i64 v_sepSave11)), .d (.v (.int .i64 v_n12)), dd, dd, dd, dd, dd, dd, dd, dd, dd, dd, dd, dd, dd, dd, dd, dd, .d (.v (.bool (decide (v_n12 < 0)))), dd, dd, dd, dd, dd, dd, dd, dd, dd, dd, dd, dd, dd, dd, dd, dd, dd, dd, dd, dd, dd, dd, dd, dd, dd, dd, dd, dd, dd, dd, dd, dd, dd, dd, dd, dd, dd, dd, dd, dd, dd, dd, dd, dd, dd], []⟩
def G_strings_genSplit_C1 (n : Nat) (v_s9 : ByteArray) (v_sep10 : ByteArray) (v_sepSave11 : Int) (v_n12 : Int) : Option G_strings_genSplit_C1_R :=
  if v_n12 < 0 then
   (G_strings_Count n v_s9 v_sep10).bind fun (v_r20 : (Int)) =>
   some (.x0 (wi .i64 (v_r20 + 1)))
  else
   some (.x0 v_n12)
theorem G_strings_genSplit_C1_ok {Fi : Ex → PS → Prop} (hF : KC 66 Fi) (ks : List Fr) (n : Nat) (v_s9 : ByteArray) (v_sep10 : ByteArray) (v_sepSave11 : Int) (v_n12 : Int)  (o : G_strings_genSplit_C1_R) (h : G_strings_genSplit_C1 n v_s9 v_sep10 v_sepSave11 v_n12 = some o) (q : RunE Tryd.prog 66 Fi ks (G_strings_genSplit_C1_ex o) (G_strings_genSplit_C1_st v_s9 v_sep10 v_sepSave11 v_n12 o)) : RunE Tryd.prog 66 Fi (.s (cR (cL (cR (cR (cR (bodyOf Tryd.f23)))))) :: ks) .normal (G_strings_genSplit_C1_hd v_s9 v_sep10 v_sepSave11 v_n12) := by
  unfold G_strings_genSplit_C1 at h
  by_cases h10 : v_n12 < 0
  · rw [if_pos h10] at h
    obtain ⟨v_r20, h11, h⟩ := bind_some h
    cases h
    exact pkk_sound TTok mix hF 2 (hs := [.t true, .r ((eI .i64) v_r20)]) (ts := []) (s := []) (l := [0, 1, 2, 3]) (by kernel_rfl) (by kernel_rfl) (.cons (dt h10) (.cons (G_strings_Count_ok n v_s9 v_sep10 _ h11) .nil)) q
  · rw [if_neg h10] at h
    cases h
    exact pkk_sound TTok mix hF 2 (hs := [.t false]) (ts := []) (s := []) (l := [0, 1, 2, 3]) (by kernel_rfl) (by kernel_rfl) (.cons (df h10) .nil) q
inductive G_strings_genSplit_L2_R where
  | x0 (v_s55 : ByteArray) (v_i56 : Int) (v_w57 : (List ByteArray))
def G_strings_genSplit_L2_ex : G_strings_genSplit_L2_R → Ex
  | .x0 _ _ _ => .exit 0
def G_strings_genSplit_L2_st (v_sep10 : ByteArray) (v_sepSave11 : Int) (v_z24 : Int) (v_s9 : ByteArray) : G_strings_genSplit_L2_R → PS
  | .x0 v_s55 v_i56 v_w57 => ⟨[.d (.v (.string v_s55)), dd, dd, dd, dd, dd, dd, dd, dd, .srf 0, .d (.v (.int .i64 v_i56)), dd, dd, dd, dd, dd, dd, dd, dd, dd, dd, dd, dd, dd, dd, dd, dd, dd, dd, dd, dd, dd, dd, dd, dd, dd, dd, dd, dd, dd, dd, dd, dd, dd, dd, dd, dd, dd, dd, dd, dd, dd, dd, dd, dd, dd, dd, dd, dd, dd, dd, dd, dd, dd, dd, dd], [.row 9 1 (v_w57.map eS)]⟩
def G_strings_genSplit_L2_hd (v_sep10 : ByteArray) (v_sepSave11 : Int) (v_z24 : Int) (v_s9 : ByteArray) (v_s47 : ByteArray) (v_i48 : Int) (v_w49 : (List ByteArray)) : PS := ⟨[.d (.v (.string v_s47)), .d (.v (.string v_sep10)), .d (.v (.int .i64 v_sepSave11)), .d (.v (.int .i64 (wi .i64 ((minI v_z24 (wi .i64 ((v_s9.size : Int) + 1))) - 1)))), dd, dd, dd, dd, dd, .srf 0, .d (.v (.int .i64 v_i48)), dd, dd, dd, dd, dd, dd, dd, dd, dd, dd, dd, dd, dd, dd, dd, dd, dd, dd, dd, dd, dd, dd, dd, dd, dd, dd, dd, dd, dd, dd, dd, dd, dd, dd, dd, dd, dd, dd, dd, dd, dd, dd, dd, dd, dd, dd, dd, dd, dd, dd, dd, dd, dd, dd, dd], [.row 9 1 (v_w49.map eS)]⟩
def G_strings_genSplit_L2 (n : Nat) (v_sep10 : ByteArray) (v_sepSave11 : Int) (v_z24 : Int) (v_s9 : ByteArray) : Nat → ByteArray → Int → (List ByteArray) → Option G_strings_genSplit_L2_R
  | 0, _, _, _ => none
  | k + 1, v_s47, v_i48, v_w49 =>
    if v_i48 < (wi .i64 ((minI v_z24 (wi .i64 ((v_s9.size : Int) + 1))) - 1)) then
     (G_strings_Index n v_s47 v_sep10).bind fun (v_r54 : (Int)) =>
     if v_r54 < 0 then
      some (.x0 v_s47 v_i48 v_w49)
     else
      (subS v_s47 0 (wi .i64 (v_r54 + v_sepSave11))).bind fun (v_s58 : ByteArray) =>
      if 0 ≤ v_i48 ∧ (v_i48).toNat < v_w49.length then
       (v_w49[(v_i48).toNat]?).bind fun (v_y59 : ByteArray) =>
       (subS v_s47 (wi .i64 (v_r54 + (v_sep10.size : Int))) (v_s47.size : Int)).bind fun (v_s60 : ByteArray) =>
       G_strings_genSplit_L2 n v_sep10 v_sepSave11 v_z24 v_s9 k v_s60 (wi .i64 (v_i48 + 1)) (v_w49.set (v_i48).toNat v_s58)
      else none
    else
     some (.x0 v_s47 v_i48 v_w49)
theorem G_strings_genSplit_L2_ok {Fi : Ex → PS → Prop} (hF : KC 66 Fi) (ks : List Fr) (n : Nat) (v_sep10 : ByteArray) (v_sepSave11 : Int) (v_z24 : Int) (v_s9 : ByteArray)  : ∀ (k : Nat) (v_s47 : ByteArray) (v_i48 : Int) (v_w49 : (List ByteArray)) (o : G_strings_genSplit_L2_R), G_strings_genSplit_L2 n v_sep10 v_sepSave11 v_z24 v_s9 k v_s47 v_i48 v_w49 = some o → RunE Tryd.prog 66 Fi ks (G_strings_genSplit_L2_ex o) (G_strings_genSplit_L2_st v_sep10 v_sepSave11 v_z24 v_s9 o) → RunE Tryd.prog 66 Fi (.l k (cP (cB (cL (cR (cR (cR (cR (cR (cR (cR (cR (bodyOf Tryd.f23)))))))))))) :: ks) .normal (G_strings_genSplit_L2_hd v_sep10 v_sepSave11 v_z24 v_s9 v_s47 v_i48 v_w49)
  | 0, v_s47, v_i48, v_w49, o, h, q => by rw [G_strings_genSplit_L2] at h; cases h
  | k + 1, v_s47, v_i48, v_w49, o, h, q => by
    rw [G_strings_genSplit_L2] at h
    by_cases h14 : v_i48 < (wi .i64 ((minI v_z24 (wi .i64 ((v_s9.size : Int) + 1))) - 1))
    · rw [if_pos h14] at h
      obtain ⟨v_r54, h21, h⟩ := bind_some h
      by_cases h22 : v_r54 < 0
      · rw [if_pos h22] at h
        cases h
        exact pkk_sound TTok mix hF 17 (hs := [.t true, .r ((eI .i64) v_r54), .t true]) (ts := []) (s := [0]) (l := [0, 9, 10]) (by kernel_rfl) (by kernel_rfl) (.cons (dt h14) (.cons (G_strings_Index_ok n v_s47 v_sep10 _ h21) (.cons (dt h22) .nil))) q
      · rw [if_neg h22] at h
        obtain ⟨v_s58, h23, h⟩ := bind_some h
        by_cases h24 : 0 ≤ v_i48 ∧ (v_i48).toNat < v_w49.length
        · rw [if_pos h24] at h
          obtain ⟨v_y59, h25, h⟩ := bind_some h
          obtain ⟨v_s60, h26, h⟩ := bind_some h
          exact pkk_sound TTok mix hF 20 (hs := [.t true, .r ((eI .i64) v_r54), .t false, .e 76 [] (.d (.v (.string v_s58))) [], .w ((v_w49.set (v_i48).toNat v_s58).map eS), .y (eS v_y59), .e 116 [] (.d (.v (.string v_s60))) []]) (ts := []) (s := [0]) (l := [0, 1, 2, 3, 9, 10]) (by kernel_rfl) (by kernel_rfl) (.cons (dt h14) (.cons (G_strings_Index_ok n v_s47 v_sep10 _ h21) (.cons (df h22) (.cons (xsub01 (P := Tryd.prog) (T := TT) (t := 9) (x := (.tmp 44)) (p := v_s47) (r := v_s58) (hi := (.tmp 47)) (h := (wi .i64 (v_r54 + v_sepSave11))) (kb := .i64) (by kernel_rfl) h23) (.cons (idx_ob (f := eS) h24) (.cons (get_ob (f := eS) h25) (.cons (Eq.refl (pcells (.v (.string v_s58)))) (.cons (set_ob (f := eS) (l := v_w49) (k := (v_i48).toNat) (z := v_s58) (p := .v (.string v_s58)) rfl) (.cons (xsub10 (P := Tryd.prog) (T := TT) (t := 9) (x := (.tmp 50)) (p := v_s47) (r := v_s60) (lo := (.tmp 54)) (i := (wi .i64 (v_r54 + (v_sep10.size : Int)))) (ka := .i64) (by kernel_rfl) h26) .nil))))))))) (G_strings_genSplit_L2_ok hF ks n v_sep10 v_sepSave11 v_z24 v_s9 k v_s60 (wi .i64 (v_i48 + 1)) (v_w49.set (v_i48).toNat v_s58) _ h q)
        · rw [if_neg h24] at h; cases h
    · rw [if_neg h14] at h
      cases h
      exact pkk_sound TTok mix hF 8 (hs := [.t false]) (ts := []) (s := [0]) (l := [0, 9, 10]) (by kernel_rfl) (by kernel_rfl) (.cons (df h14) .nil) q
/- strings.genSplit -/
def G_strings_genSplit (n : Nat) (v_s9 : ByteArray) (v_sep10 : ByteArray) (v_sepSave11 : Int) (v_n12 : Int) : Option ((List ByteArray)) :=
  if v_n12 = 0 then
   some ([] : (List ByteArray))
  else
   if (v_sep10.toList == (ByteArray.mk #[]).toList) = true then
    none
   else
    (G_strings_genSplit_C1 n v_s9 v_sep10 v_sepSave11 v_n12).bind fun v_o23 => match v_o23 with
    | .x0 v_z24 =>
      (mkL 16 (ByteArray.mk #[]) (minI v_z24 (wi .i64 ((v_s9.size : Int) + 1)))).bind fun (v_m29 : (List ByteArray)) =>
      (G_strings_genSplit_L2 n v_sep10 v_sepSave11 v_z24 v_s9 n v_s9 0 v_m29).bind fun v_o64 => match v_o64 with
      | .x0 v_z65 v_z66 v_z67 =>
        if 0 ≤ v_z66 ∧ (v_z66).toNat < v_z67.length then
         (v_z67[(v_z66).toNat]?).bind fun (v_y68 : ByteArray) =>
         (sub (v_z67.set (v_z66).toNat v_z65) 0 (wi .i64 (v_z66 + 1))).bind fun (v_s69 : (List ByteArray)) =>
         some v_s69
        else none
theorem G_strings_genSplit_ok (n : Nat) (v_s9 : ByteArray) (v_sep10 : ByteArray) (v_sepSave11 : Int) (v_n12 : Int) (r : (List ByteArray)) (h : G_strings_genSplit n v_s9 v_sep10 v_sepSave11 v_n12 = some r) : Ret Tryd.prog 23 [eS v_s9, eS v_sep10, (eI .i64) v_sepSave11, (eI .i64) v_n12] ((eL eS) r) := by
  refine ret_run (n := 66) (fn := Tryd.f23) (c := bodyOf Tryd.f23) (by kernel_rfl) (by kernel_rfl) (by kernel_rfl) (by kernel_rfl) ?_
  have hF : KC 66 (FinR Tryd.prog Tryd.f23 ((eL eS) r)) := FinR.kc' (by kernel_rfl)
  unfold G_strings_genSplit at h
  by_cases h5 : v_n12 = 0
  · rw [if_pos h5] at h
    obtain rfl := Option.some.inj h
    exact pend_sound TTok mix 10 (hs := [.t true]) (by kernel_rfl) (by kernel_rfl) (by kernel_rfl) (.cons (bt h5) .nil)
  · rw [if_neg h5] at h
    by_cases h7 : (v_sep10.toList == (ByteArray.mk #[]).toList) = true
    · rw [if_pos h7] at h
      cases h
    · rw [if_neg h7] at h
      obtain ⟨v_o23, h12, h⟩ := bind_some h
      refine pkk_sound TTok mix hF 15 (hs := [.t false, .t false]) (ts := []) (s := []) (l := [0, 1, 2, 3, 20]) (by kernel_rfl) (by kernel_rfl) (.cons (bf h5) (.cons (vf h7) .nil)) (G_strings_genSplit_C1_ok hF (.s (cR (cR (cR (cR (bodyOf Tryd.f23))))) :: []) n v_s9 v_sep10 v_sepSave11 v_n12 _ h12 ?_)
      cases v_o23 with
      | x0 v_z24 =>
        try dsimp only at h
        obtain ⟨v_m29, h13, h⟩ := bind_some h
        obtain ⟨v_o64, h27, h⟩ := bind_some h
        refine pkk_sound TTok mix hF 11 (hs := [.w (v_m29.map eS), .n n]) (ts := []) (s := [35]) (l := [0, 1, 2, 3, 9, 10]) (by kernel_rfl) (by kernel_rfl) (.cons (mkL_ob (f := eS) (p := .v (.string ⟨#[]⟩)) h13 rfl).1 (.cons (mkL_ob (f := eS) (p := .v (.string ⟨#[]⟩)) h13 rfl).2.1 (.cons (mkL_ob (f := eS) (p := .v (.string ⟨#[]⟩)) h13 rfl).2.2.1 (.cons (mkL_ob (f := eS) (p := .v (.string ⟨#[]⟩)) h13 rfl).2.2.2.1 (.cons (mkL_ob (f := eS) (p := .v (.string ⟨#[]⟩)) h13 rfl).2.2.2.2 .nil))))) (G_strings_genSplit_L2_ok hF (.b 0 :: .s (cR (cR (cR (cR (cR (cR (cR (cR (cR (bodyOf Tryd.f23)))))))))) :: []) n v_sep10 v_sepSave11 v_z24 v_s9 n v_s9 0 v_m29 _ h27 ?_)
        cases v_o64 with
        | x0 v_z65 v_z66 v_z67 =>
          try dsimp only at h
          by_cases h28 : 0 ≤ v_z66 ∧ (v_z66).toNat < v_z67.length
          · rw [if_pos h28] at h
            obtain ⟨v_y68, h29, h⟩ := bind_some h
            obtain ⟨v_s69, h30, h⟩ := bind_some h
            obtain rfl := Option.some.inj h
            exact pend_sound TTok mix 6 (hs := [.w ((v_z67.set (v_z66).toNat v_z65).map eS), .y (eS v_y68), .w (v_s69.map eS)]) (by kernel_rfl) (by kernel_rfl) (by kernel_rfl) (.cons (idx_ob (f := eS) h28) (.cons (get_ob (f := eS) h29) (.cons (Eq.refl (pcells (.v (.string v_z65)))) (.cons (set_ob (f := eS) (l := v_z67) (k := (v_z66).toNat) (z := v_z65) (p := .v (.string v_z65)) rfl) (.cons (Eq.refl (0 : Int)) (.cons (subR_ob (f := eS) h30).1 (.cons (subR_ob (f := eS) h30).2.1 (.cons (subR_ob (f := eS) h30).2.2 .nil))))))))
          · rw [if_neg h28] at h; cases h
/- strings.Split -/
def G_strings_Split (n : Nat) (v_s7 : ByteArray) (v_sep8 : ByteArray) : Option ((List ByteArray)) :=
  (G_strings_genSplit n v_s7 v_sep8 0 (-1)).bind fun (v_r70 : ((List ByteArray))) =>
  some v_r70
theorem G_strings_Split_ok (n : Nat) (v_s7 : ByteArray) (v_sep8 : ByteArray) (r : (List ByteArray)) (h : G_strings_Split n v_s7 v_sep8 = some r) : Ret Tryd.prog 18 [eS v_s7, eS v_sep8] ((eL eS) r) := by
  refine ret_run (n := 8) (fn := Tryd.f18) (c := bodyOf Tryd.f18) (by kernel_rfl) (by kernel_rfl) (by kernel_rfl) (by kernel_rfl) ?_
  have hF : KC 8 (FinR Tryd.prog Tryd.f18 ((eL eS) r)) := FinR.kc' (by kernel_rfl)
  unfold G_strings_Split at h
  obtain ⟨v_r70, h31, h⟩ := bind_some h
  obtain rfl := Option.some.inj h
  exact pend_sound TTok mix 5 (hs := [.r ((eL eS) v_r70)]) (by kernel_rfl) (by kernel_rfl) (by kernel_rfl) (.cons (G_strings_genSplit_ok n v_s7 v_sep8 0 (-1) _ h31) .nil)
inductive G_path_Split_L1_R where
  | x0 (v_x84 : Bool) (v_x85 : Int)
  | x1 (v_w88 : (List ByteArray))
def G_path_Split_L1_ex : G_path_Split_L1_R → Ex
  | .x0 _ _ => .ret
  | .x1 _ => .exit 0
def G_path_Split_L1_st (v_s2 : ByteArray) (v_r71 : ((List ByteArray))) : G_path_Split_L1_R → PS
  | .x0 v_x84 v_x85 => ⟨[dd, dd, .d (.v (.bool v_x84)), .d (vnil), .d (.v (.int .i64 v_x85)), dd, dd, dd, dd, dd, dd, dd, dd, dd, dd, dd, dd, dd, dd, dd, dd, dd, dd, dd, dd, dd, dd, dd, dd, dd, dd, dd, dd, dd], []⟩
  | .x1 v_w88 => ⟨[.d (.v (.string v_s2)), dd, dd, dd, dd, .srf 0, dd, dd, dd, dd, dd, dd, dd, dd, dd, dd, dd, dd, dd, dd, dd, dd, dd, dd, dd, dd, dd, dd, dd, dd, dd, dd, dd, dd], [.row 9 1 (v_w88.map eS)]⟩
def G_path_Split_L1_hd (v_s2 : ByteArray) (v_r71 : ((List ByteArray))) (v_x78 : Int) (v_w79 : (List ByteArray)) : PS := ⟨[.d (.v (.string v_s2)), dd, dd, dd, dd, .srf 0, dd, dd, dd, dd, dd, dd, dd, dd, .d (.sl (v_r71.map eS)), .d (.v (.int .i64 (v_r71.length : Int))), .d (.v (.int .i64 v_x78)), dd, dd, dd, dd, dd, dd, dd, dd, dd, dd, dd, dd, dd, dd, dd, dd, dd], [.row 9 1 (v_w79.map eS)]⟩
def G_path_Split_L1 (n : Nat) (v_s2 : ByteArray) (v_r71 : ((List ByteArray))) : Nat → Int → (List ByteArray) → Option G_path_Split_L1_R
  | 0, _, _ => none
  | k + 1, v_x78, v_w79 =>
    if v_x78 < (v_r71.length : Int) then
     (getI v_r71 v_x78).bind fun (v_y83 : ByteArray) =>
     if (v_y83.size : Int) > 14 then
      some (.x0 false 3)
     else
      if (!(v_y83.toList == (ByteArray.mk #[]).toList)) = true then
       (app 16 v_w79 ([v_y83])).bind fun (v_a87 : (List ByteArray)) =>
       G_path_Split_L1 n v_s2 v_r71 k (wi .i64 (v_x78 + 1)) v_a87
      else
       G_path_Split_L1 n v_s2 v_r71 k (wi .i64 (v_x78 + 1)) v_w79
    else
     some (.x1 v_w79)
theorem G_path_Split_L1_ok {Fi : Ex → PS → Prop} (hF : KC 34 Fi) (ks : List Fr) (n : Nat) (v_s2 : ByteArray) (v_r71 : ((List ByteArray)))  : ∀ (k : Nat) (v_x78 : Int) (v_w79 : (List ByteArray)) (o : G_path_Split_L1_R), G_path_Split_L1 n v_s2 v_r71 k v_x78 v_w79 = some o → RunE Tryd.prog 34 Fi ks (G_path_Split_L1_ex o) (G_path_Split_L1_st v_s2 v_r71 o) → RunE Tryd.prog 34 Fi (.l k (cP (cB (cR (cL (cR (cR (cR (cR (bodyOf Tryd.f5))))))))) :: ks) .normal (G_path_Split_L1_hd v_s2 v_r71 v_x78 v_w79)
  | 0, v_x78, v_w79, o, h, q => by rw [G_path_Split_L1] at h; cases h
  | k + 1, v_x78, v_w79, o, h, q => by
    rw [G_path_Split_L1] at h
    by_cases h33 : v_x78 < (v_r71.length : Int)
    · rw [if_pos h33] at h
      obtain ⟨v_y83, h41, h⟩ := bind_some h
      by_cases h43 : (v_y83.size : Int) > 14
      · rw [if_pos h43] at h
        cases h
        exact pkk_sound TTok mix hF 21 (hs := [.t true, .y (eS v_y83), .c, .t true]) (ts := []) (s := []) (l := [2, 3, 4]) (by kernel_rfl) (by kernel_rfl) (.cons (dt h33) (.cons (getI_ob (f := eS) h41) (.cons (dt h43) .nil))) q
      · rw [if_neg h43] at h
        by_cases h46 : (!(v_y83.toList == (ByteArray.mk #[]).toList)) = true
        · rw [if_pos h46] at h
          obtain ⟨v_a87, h47, h⟩ := bind_some h
          exact pkk_sound TTok mix hF 21 (hs := [.t true, .y (eS v_y83), .c, .t false, .t true, .bd, .w (v_a87.map eS)]) (ts := []) (s := [61]) (l := [0, 5, 14, 15, 16]) (by kernel_rfl) (by kernel_rfl) (.cons (dt h33) (.cons (getI_ob (f := eS) h41) (.cons (df h43) (.cons h46 (.cons (app_ob (f := eS) (s := 1) h47 (fun _ => rfl)).1 (.cons (app_ob (f := eS) (s := 1) h47 (fun _ => rfl)).2.1 (.cons (app_ob (f := eS) (s := 1) h47 (fun _ => rfl)).2.2.1 (.cons (app_ob (f := eS) (s := 1) h47 (fun _ => rfl)).2.2.2 .nil)))))))) (G_path_Split_L1_ok hF ks n v_s2 v_r71 k (wi .i64 (v_x78 + 1)) v_a87 _ h q)
        · rw [if_neg h46] at h
          exact pkk_sound TTok mix hF 21 (hs := [.t true, .y (eS v_y83), .c, .t false, .t false]) (ts := []) (s := [0]) (l := [0, 5, 14, 15, 16]) (by kernel_rfl) (by kernel_rfl) (.cons (dt h33) (.cons (getI_ob (f := eS) h41) (.cons (df h43) (.cons (vf h46) .nil)))) (G_path_Split_L1_ok hF ks n v_s2 v_r71 k (wi .i64 (v_x78 + 1)) v_w79 _ h q)
    · rw [if_neg h33] at h
      cases h
      exact pkk_sound TTok mix hF 8 (hs := [.t false]) (ts := []) (s := [0]) (l := [0, 5]) (by kernel_rfl) (by kernel_rfl) (.cons (df h33) .nil) q
/- ringhall/path.Split -/
def G_path_Split (n : Nat) (v_s2 : ByteArray) : Option (Bool × (List ByteArray) × Int) :=
  if (v_s2.size : Int) > 64 then
   some (false, ([] : (List ByteArray)), 2)
  else
   if (v_s2.toList == (ByteArray.mk #[]).toList) = true then
    some (false, ([] : (List ByteArray)), 3)
   else
    (G_strings_Split n v_s2 (ByteArray.mk #[47])).bind fun (v_r71 : ((List ByteArray))) =>
    (G_path_Split_L1 n v_s2 v_r71 n 0 ([] : List ByteArray)).bind fun v_o89 => match v_o89 with
    | .x0 v_z90 v_z91 =>
      some (v_z90, ([] : (List ByteArray)), v_z91)
    | .x1 v_z92 =>
      (getS v_s2 0).bind fun (v_y93 : Int) =>
      some ((v_y93 == 47), v_z92, 0)
theorem G_path_Split_ok (n : Nat) (v_s2 : ByteArray) (r : Bool × (List ByteArray) × Int) (h : G_path_Split n v_s2 = some r) : Ret Tryd.prog 5 [eS v_s2] (.tup [eB r.1, (eL eS) r.2.1, (eI .i64) r.2.2]) := by
  refine ret_run (n := 34) (fn := Tryd.f5) (c := bodyOf Tryd.f5) (by kernel_rfl) (by kernel_rfl) (by kernel_rfl) (by kernel_rfl) ?_
  have hF : KC 34 (FinR Tryd.prog Tryd.f5 (.tup [eB r.1, (eL eS) r.2.1, (eI .i64) r.2.2])) := FinR.kc' (by kernel_rfl)
  unfold G_path_Split at h
  by_cases h2 : (v_s2.size : Int) > 64
  · rw [if_pos h2] at h
    obtain rfl := Option.some.inj h
    exact pend_sound TTok mix 10 (hs := [.t true]) (by kernel_rfl) (by kernel_rfl) (by kernel_rfl) (.cons (dt h2) .nil)
  · rw [if_neg h2] at h
    by_cases h4 : (v_s2.toList == (ByteArray.mk #[]).toList) = true
    · rw [if_pos h4] at h
      obtain rfl := Option.some.inj h
      exact pend_sound TTok mix 15 (hs := [.t false, .t true]) (by kernel_rfl) (by kernel_rfl) (by kernel_rfl) (.cons (df h2) (.cons h4 .nil))
    · rw [if_neg h4] at h
      obtain ⟨v_r71, h32, h⟩ := bind_some h
      obtain ⟨v_o89, h48, h⟩ := bind_some h
      refine pkk_sound TTok mix hF 19 (hs := [.t false, .t false, .r ((eL eS) v_r71), .u (.d (.v (.int .i64 (v_r71.length : Int)))), .n n]) (ts := [(5, 9, 1)]) (s := [65]) (l := [0, 5, 14, 15, 16]) (by kernel_rfl) (by kernel_rfl) (.cons (df h2) (.cons (vf h4) (.cons (G_strings_Split_ok n v_s2 (ByteArray.mk #[47]) _ h32) (.cons (len_ob (f := eS) (l := v_r71)) .nil)))) (G_path_Split_L1_ok hF (.b 0 :: .s (cR (cR (cR (cR (cR (bodyOf Tryd.f5)))))) :: []) n v_s2 v_r71 n 0 ([] : List ByteArray) _ h48 ?_)
      cases v_o89 with
      | x0 v_z90 v_z91 =>
        try dsimp only at h
        obtain rfl := Option.some.inj h
        exact pend_sound TTok mix 2 (hs := []) (by kernel_rfl) (by kernel_rfl) (by kernel_rfl) .nil
      | x1 v_z92 =>
        try dsimp only at h
        obtain ⟨v_y93, h49, h⟩ := bind_some h
        obtain rfl := Option.some.inj h
        exact pend_sound TTok mix 4 (hs := [.l (.d (.v (.int .u8 v_y93)))]) (by kernel_rfl) (by kernel_rfl) (by kernel_rfl) (.cons (getS_ob h49) .nil)
theorem enters_fn {P : Program} {f : FuncId} {fn : Func} (h1 : P.funcs[f]? = some fn) (h2 : (fn.name == "runtime.NumGoroutine") = false) (h3 : fn.body.isNone = false) : ∀ args w, (callFunc f args).run P w = .ok (.enter f args) w := by
  cases hb : fn.body with
  | none => rw [hb] at h3; cases h3
  | some c => exact Go.Proofs.enters_of h1 h2 hb
theorem RE_strs (ow : Nat → Bool) (w : World) : ∀ l : List ByteArray, RE ow w 1 (l.map eS) (l.map Value.string)
  | [] => by simp [RE]
  | s :: l => by
    simp only [List.map_cons, RE]
    exact ⟨.string s, l.map Value.string, rfl, rfl, (fun v hv => by simp [Value.cells] at hv; subst hv; rfl), (by simp [eS, R, Value.oneCell']), RE_strs ow w l⟩
theorem row_dataS {ow : Nat → Bool} {w w' : World} {l : List ByteArray} {ty : Nat} {v : Value} (hfr : ∀ b, w.heap.size ≤ b → ow b = false) (hr : w'.ownsRow w.heap.size ty 1 v l.length (l.map Value.string)) : R ow w' (eL eS l) v := by
  simp only [eL, R]
  obtain ⟨h1, h2⟩ := hr
  rcases h2 with ⟨h2, h3⟩ | ⟨g, cap, cur, h2, h3, h4, h5, h6, h7, h8⟩
  · exact ⟨none, 0, by rw [List.length_map, h3]; exact h2, by rw [List.length_map, h3]; exact Nat.le_refl _, by simp [maxLen], .inl (by rw [List.eq_nil_of_length_eq_zero h3]; rfl)⟩
  · refine ⟨_, cap, by rw [List.length_map]; exact h2, by rw [List.length_map]; exact h5, h6, .inr ⟨g, 0, 1, l.map Value.string, rfl, (Array.getElem?_eq_some_iff.1 h4).1, hfr g h3, fun j u hj => ?_, RE_strs ow w' l⟩⟩
    rw [← h8, List.getElem?_take] at hj
    split at hj
    · unfold World.cell?
      simp only [h4]
      simpa using hj
    · cases hj
def G_strings_FieldsFunc (n : Nat) (s : ByteArray) (f : Int → Option Bool) : Option (List ByteArray) := if s.size ≤ 4294967296 then some (Lib.goFieldsP (fun k => (f (k : Int)).getD false) s) else none
theorem G_strings_FieldsFunc_ok (n : Nat) (s : ByteArray) (f : Int → Option Bool) (f_g : FuncId) (f_c : List PV) (f_h : (∀ (x0 : Int) (r : Bool), f x0 = some r → Ret Tryd.prog f_g ([eI .i32 x0] ++ f_c) (eB r)) ∧ f_c = [] ∧ ∀ x0, (f x0).isSome = true) (r : List ByteArray) (h : G_strings_FieldsFunc n s f = some r) : Ret Tryd.prog 19 [eS s, .clo f_g f_c] (eL eS r) := by
  unfold G_strings_FieldsFunc at h
  obtain ⟨fh, rfl, ft⟩ := f_h
  split at h
  · rename_i q
    obtain rfl := Option.some.inj h
    obtain ⟨fn0, hf1, hf2, hf3⟩ := (fh 0 _ (Option.some_get (ft 0)).symm).1
    refine ⟨⟨Tryd.f19, by kernel_rfl, by kernel_rfl, by kernel_rfl⟩, fun ow w vs hfr hv => ?_⟩
    simp only [RT, R, eS, RL] at hv
    obtain ⟨_, _, rfl, ⟨rfl, _⟩, _, _, rfl, ⟨cs, rfl, rfl⟩, rfl⟩ := hv
    refine (Tryd.strings_FieldsFunc_grows f_g #[] (enters_fn hf1 hf2 hf3) (fun k => (f (k : Int)).getD false) s w q ?_).mono ?_
    · intro W x hx hb
      obtain ⟨y, hy⟩ := Option.isSome_iff_exists.1 (ft x)
      obtain ⟨_, hc⟩ := fh x y hy
      refine (hc ow W [.int .i32 x] (fun b hb' => hfr b (Nat.le_trans hb.size hb')) ?_).mono ?_
      · simp only [List.append_nil, RT, R, eI]; exact ⟨_, _, rfl, ⟨rfl, rfl⟩, rfl⟩
      · rintro e w' ⟨v, rfl, hb', hr⟩
        simp only [R, eB] at hr
        obtain ⟨rfl, _⟩ := hr
        simp only [hy, Option.getD_some]; exact ⟨trivial, hb'⟩
    · rintro e w' ⟨A, rfl, hA, ho, hb⟩
      exact ⟨_, rfl, hb, row_dataS hfr ho⟩
  · cases h
/- ringhall/ringref5.SplitOf$1 -/
def G_ringref5_SplitOf_1 (n : Nat) (v_r106 : Int) : Option (Bool) :=
  some (v_r106 == 47)
theorem G_ringref5_SplitOf_1_ok (n : Nat) (v_r106 : Int) (r : Bool) (h : G_ringref5_SplitOf_1 n v_r106 = some r) : Ret Tryd.prog 20 [(eI .i32) v_r106] (eB r) := by
  refine ret_run (n := 5) (fn := Tryd.f20) (c := bodyOf Tryd.f20) (by kernel_rfl) (by kernel_rfl) (by kernel_rfl) (by kernel_rfl) ?_
  have hF : KC 5 (FinR Tryd.prog Tryd.f20 (eB r)) := FinR.kc' (by kernel_rfl)
  unfold G_ringref5_SplitOf_1 at h
  obtain rfl := Option.some.inj h
  exact pend_sound TTok mix 5 (hs := []) (by kernel_rfl) (by kernel_rfl) (by kernel_rfl) .nil
inductive G_ringref5_SplitOf_L1_R where
  | x0 (v_x122 : Bool) (v_x123 : Int)
  | x1 
def G_ringref5_SplitOf_L1_ex : G_ringref5_SplitOf_L1_R → Ex
  | .x0 _ _ => .ret
  | .x1  => .exit 0
def G_ringref5_SplitOf_L1_st (v_s101 : ByteArray) (v_r107 : ((List ByteArray))) : G_ringref5_SplitOf_L1_R → PS
  | .x0 v_x122 v_x123 => ⟨[dd, dd, .d (.v (.bool v_x122)), .d (vnil), .d (.v (.int .i64 v_x123)), dd, dd, dd, dd, dd, dd, dd, dd, dd, dd, dd, dd, dd, dd, dd, dd, dd, dd, dd, dd, dd, dd, dd, dd, dd], []⟩
  | .x1  => ⟨[.d (.v (.string v_s101)), dd, dd, dd, dd, .d (.sl (v_r107.map eS)), dd, dd, dd, dd, dd, dd, dd, dd, dd, dd, dd, dd, dd, dd, dd, dd, dd, dd, dd, dd, dd, dd, dd, dd], []⟩
def G_ringref5_SplitOf_L1_hd (v_s101 : ByteArray) (v_r107 : ((List ByteArray))) (v_x119 : Int) : PS := ⟨[.d (.v (.string v_s101)), dd, dd, dd, dd, .d (.sl (v_r107.map eS)), dd, dd, dd, dd, dd, dd, dd, dd, dd, dd, .d (.sl (v_r107.map eS)), .d (.v (.int .i64 (v_r107.length : Int))), .d (.v (.int .i64 v_x119)), dd, dd, dd, dd, dd, dd, dd, dd, dd, dd, dd], []⟩
def G_ringref5_SplitOf_L1 (n : Nat) (v_s101 : ByteArray) (v_r107 : ((List ByteArray))) : Nat → Int → Option G_ringref5_SplitOf_L1_R
  | 0, _ => none
  | k + 1, v_x119 =>
    if v_x119 < (v_r107.length : Int) then
     (getI v_r107 v_x119).bind fun (v_y121 : ByteArray) =>
     if (v_y121.size : Int) > 14 then
      some (.x0 false 3)
     else
      G_ringref5_SplitOf_L1 n v_s101 v_r107 k (wi .i64 (v_x119 + 1))
    else
     some (.x1 )
theorem G_ringref5_SplitOf_L1_ok {Fi : Ex → PS → Prop} (hF : KC 30 Fi) (ks : List Fr) (n : Nat) (v_s101 : ByteArray) (v_r107 : ((List ByteArray)))  : ∀ (k : Nat) (v_x119 : Int) (o : G_ringref5_SplitOf_L1_R), G_ringref5_SplitOf_L1 n v_s101 v_r107 k v_x119 = some o → RunE Tryd.prog 30 Fi ks (G_ringref5_SplitOf_L1_ex o) (G_ringref5_SplitOf_L1_st v_s101 v_r107 o) → RunE Tryd.prog 30 Fi (.l k (cP (cB (cR (cL (cR (cR (cR (cR (bodyOf Tryd.f6))))))))) :: ks) .normal (G_ringref5_SplitOf_L1_hd v_s101 v_r107 v_x119)
  | 0, v_x119, o, h, q => by rw [G_ringref5_SplitOf_L1] at h; cases h
  | k + 1, v_x119, o, h, q => by
    rw [G_ringref5_SplitOf_L1] at h
    by_cases h56 : v_x119 < (v_r107.length : Int)
    · rw [if_pos h56] at h
      obtain ⟨v_y121, h60, h⟩ := bind_some h
      by_cases h62 : (v_y121.size : Int) > 14
      · rw [if_pos h62] at h
        cases h
        exact pkk_sound TTok mix hF 19 (hs := [.t true, .y (eS v_y121), .c, .t true]) (ts := []) (s := []) (l := [2, 3, 4]) (by kernel_rfl) (by kernel_rfl) (.cons (dt h56) (.cons (getI_ob (f := eS) h60) (.cons (dt h62) .nil))) q
      · rw [if_neg h62] at h
        exact pkk_sound TTok mix hF 16 (hs := [.t true, .y (eS v_y121), .c, .t false]) (ts := []) (s := []) (l := [0, 5, 16, 17, 18]) (by kernel_rfl) (by kernel_rfl) (.cons (dt h56) (.cons (getI_ob (f := eS) h60) (.cons (df h62) .nil))) (G_ringref5_SplitOf_L1_ok hF ks n v_s101 v_r107 k (wi .i64 (v_x119 + 1)) _ h q)
    · rw [if_neg h56] at h
      cases h
      exact pkk_sound TTok mix hF 8 (hs := [.t false]) (ts := []) (s := []) (l := [0, 5]) (by kernel_rfl) (by kernel_rfl) (.cons (df h56) .nil) q
/- ringhall/ringref5.SplitOf -/
def G_ringref5_SplitOf (n : Nat) (v_s101 : ByteArray) : Option (Bool × (List ByteArray) × Int) :=
  if (v_s101.size : Int) > 64 then
   some (false, ([] : (List ByteArray)), 2)
  else
   if (v_s101.size : Int) = 0 then
    some (false, ([] : (List ByteArray)), 3)
   else
    (G_strings_FieldsFunc n v_s101 (fun (y0 : Int) => G_ringref5_SplitOf_1 n y0)).bind fun (v_r107 : ((List ByteArray))) =>
    (G_ringref5_SplitOf_L1 n v_s101 v_r107 n 0).bind fun v_o124 => match v_o124 with
    | .x0 v_z125 v_z126 =>
      some (v_z125, ([] : (List ByteArray)), v_z126)
    | .x1  =>
      (getS v_s101 0).bind fun (v_y127 : Int) =>
      some ((v_y127 == 47), v_r107, 0)
theorem G_ringref5_SplitOf_ok (n : Nat) (v_s101 : ByteArray) (r : Bool × (List ByteArray) × Int) (h : G_ringref5_SplitOf n v_s101 = some r) : Ret Tryd.prog 6 [eS v_s101] (.tup [eB r.1, (eL eS) r.2.1, (eI .i64) r.2.2]) := by
  refine ret_run (n := 30) (fn := Tryd.f6) (c := bodyOf Tryd.f6) (by kernel_rfl) (by kernel_rfl) (by kernel_rfl) (by kernel_rfl) ?_
  have hF : KC 30 (FinR Tryd.prog Tryd.f6 (.tup [eB r.1, (eL eS) r.2.1, (eI .i64) r.2.2])) := FinR.kc' (by kernel_rfl)
  unfold G_ringref5_SplitOf at h
  by_cases h52 : (v_s101.size : Int) > 64
  · rw [if_pos h52] at h
    obtain rfl := Option.some.inj h
    exact pend_sound TTok mix 10 (hs := [.t true]) (by kernel_rfl) (by kernel_rfl) (by kernel_rfl) (.cons (dt h52) .nil)
  · rw [if_neg h52] at h
    by_cases h54 : (v_s101.size : Int) = 0
    · rw [if_pos h54] at h
      obtain rfl := Option.some.inj h
      exact pend_sound TTok mix 15 (hs := [.t false, .t true]) (by kernel_rfl) (by kernel_rfl) (by kernel_rfl) (.cons (df h52) (.cons (bt h54) .nil))
    · rw [if_neg h54] at h
      obtain ⟨v_r107, h55, h⟩ := bind_some h
      obtain ⟨v_o124, h63, h⟩ := bind_some h
      refine pkk_sound TTok mix hF 19 (hs := [.t false, .t false, .r ((eL eS) v_r107), .u (.d (.v (.int .i64 (v_r107.length : Int)))), .n n]) (ts := []) (s := []) (l := [0, 5, 16, 17, 18]) (by kernel_rfl) (by kernel_rfl) (.cons (df h52) (.cons (bf h54) (.cons (G_strings_FieldsFunc_ok n v_s101 (fun (y0 : Int) => G_ringref5_SplitOf_1 n y0) 20 [] ⟨(fun y0 r h => G_ringref5_SplitOf_1_ok n y0 r h), rfl, fun _ => rfl⟩ _ h55) (.cons (len_ob (f := eS) (l := v_r107)) .nil)))) (G_ringref5_SplitOf_L1_ok hF (.b 0 :: .s (cR (cR (cR (cR (cR (bodyOf Tryd.f6)))))) :: []) n v_s101 v_r107 n 0 _ h63 ?_)
      cases v_o124 with
      | x0 v_z125 v_z126 =>
        try dsimp only at h
        obtain rfl := Option.some.inj h
        exact pend_sound TTok mix 2 (hs := []) (by kernel_rfl) (by kernel_rfl) (by kernel_rfl) .nil
      | x1  =>
        try dsimp only at h
        obtain ⟨v_y127, h64, h⟩ := bind_some h
        obtain rfl := Option.some.inj h
        exact pend_sound TTok mix 4 (hs := [.l (.d (.v (.int .u8 v_y127)))]) (by kernel_rfl) (by kernel_rfl) (by kernel_rfl) (.cons (getS_ob h64) .nil)
inductive G_slices_Equal_string_string_L1_R where
  | x0 (v_x151 : Bool)
  | x1 
def G_slices_Equal_string_string_L1_ex : G_slices_Equal_string_string_L1_R → Ex
  | .x0 _ => .ret
  | .x1  => .exit 0
def G_slices_Equal_string_string_L1_st (v_s141 : (List ByteArray)) (v_s142 : (List ByteArray)) : G_slices_Equal_string_string_L1_R → PS
  | .x0 v_x151 => ⟨[dd, dd, dd, dd, .d (.v (.bool v_x151)), dd, dd, dd, dd, dd, dd, dd, dd, dd, dd, dd, dd, dd, dd, dd, dd, dd, dd, dd, dd, dd], []⟩
  | .x1  => ⟨[dd, dd, dd, dd, dd, dd, dd, dd, dd, dd, dd, dd, dd, dd, dd, dd, dd, dd, dd, dd, dd, dd, dd, dd, dd, dd], []⟩
def G_slices_Equal_string_string_L1_hd (v_s141 : (List ByteArray)) (v_s142 : (List ByteArray)) (v_x146 : Int) : PS := ⟨[.d (.sl (v_s141.map eS)), .d (.sl (v_s142.map eS)), dd, dd, dd, dd, dd, dd, dd, dd, dd, dd, .d (.v (.int .i64 (v_s141.length : Int))), .d (.v (.int .i64 v_x146)), dd, dd, dd, dd, dd, dd, dd, dd, dd, dd, dd, dd], []⟩
def G_slices_Equal_string_string_L1 (n : Nat) (v_s141 : (List ByteArray)) (v_s142 : (List ByteArray)) : Nat → Int → Option G_slices_Equal_string_string_L1_R
  | 0, _ => none
  | k + 1, v_x146 =>
    if v_x146 < (v_s141.length : Int) then
     (getI v_s141 v_x146).bind fun (v_y149 : ByteArray) =>
     (getI v_s142 v_x146).bind fun (v_y150 : ByteArray) =>
     if (!(v_y149.toList == v_y150.toList)) = true then
      some (.x0 false)
     else
      G_slices_Equal_string_string_L1 n v_s141 v_s142 k (wi .i64 (v_x146 + 1))
    else
     some (.x1 )
theorem G_slices_Equal_string_string_L1_ok {Fi : Ex → PS → Prop} (hF : KC 26 Fi) (ks : List Fr) (n : Nat) (v_s141 : (List ByteArray)) (v_s142 : (List ByteArray))  : ∀ (k : Nat) (v_x146 : Int) (o : G_slices_Equal_string_string_L1_R), G_slices_Equal_string_string_L1 n v_s141 v_s142 k v_x146 = some o → RunE Tryd.prog 26 Fi ks (G_slices_Equal_string_string_L1_ex o) (G_slices_Equal_string_string_L1_st v_s141 v_s142 o) → RunE Tryd.prog 26 Fi (.l k (cP (cB (cR (cL (cR (cR (bodyOf Tryd.f7))))))) :: ks) .normal (G_slices_Equal_string_string_L1_hd v_s141 v_s142 v_x146)
  | 0, v_x146, o, h, q => by rw [G_slices_Equal_string_string_L1] at h; cases h
  | k + 1, v_x146, o, h, q => by
    rw [G_slices_Equal_string_string_L1] at h
    by_cases h69 : v_x146 < (v_s141.length : Int)
    · rw [if_pos h69] at h
      obtain ⟨v_y149, h73, h⟩ := bind_some h
      obtain ⟨v_y150, h74, h⟩ := bind_some h
      by_cases h75 : (!(v_y149.toList == v_y150.toList)) = true
      · rw [if_pos h75] at h
        cases h
        exact pkk_sound TTok mix hF 19 (hs := [.t true, .y (eS v_y149), .c, .y (eS v_y150), .c, .t true]) (ts := []) (s := []) (l := [4]) (by kernel_rfl) (by kernel_rfl) (.cons (dt h69) (.cons (getI_ob (f := eS) h73) (.cons (getI_ob (f := eS) h74) (.cons h75 .nil)))) q
      · rw [if_neg h75] at h
        exact pkk_sound TTok mix hF 16 (hs := [.t true, .y (eS v_y149), .c, .y (eS v_y150), .c, .t false]) (ts := []) (s := []) (l := [0, 1, 12, 13]) (by kernel_rfl) (by kernel_rfl) (.cons (dt h69) (.cons (getI_ob (f := eS) h73) (.cons (getI_ob (f := eS) h74) (.cons (vf h75) .nil)))) (G_slices_Equal_string_string_L1_ok hF ks n v_s141 v_s142 k (wi .i64 (v_x146 + 1)) _ h q)
    · rw [if_neg h69] at h
      cases h
      exact pkk_sound TTok mix hF 8 (hs := [.t false]) (ts := []) (s := []) (l := []) (by kernel_rfl) (by kernel_rfl) (.cons (df h69) .nil) q
/- slices.Equal[[]string,string] -/
def G_slices_Equal_string_string (n : Nat) (v_s141 : (List ByteArray)) (v_s142 : (List ByteArray)) : Option (Bool) :=
  if (v_s141.length : Int) = (v_s142.length : Int) then
   (G_slices_Equal_string_string_L1 n v_s141 v_s142 n 0).bind fun v_o152 => match v_o152 with
   | .x0 v_z153 =>
     some v_z153
   | .x1  =>
     some true
  else
   some false
theorem G_slices_Equal_string_string_ok (n : Nat) (v_s141 : (List ByteArray)) (v_s142 : (List ByteArray)) (r : Bool) (h : G_slices_Equal_string_string n v_s141 v_s142 = some r) : Ret Tryd.prog 7 [(eL eS) v_s141, (eL eS) v_s142] (eB r) := by
  refine ret_run (n := 26) (fn := Tryd.f7) (c := bodyOf Tryd.f7) (by kernel_rfl) (by kernel_rfl) (by kernel_rfl) (by kernel_rfl) ?_
  have hF : KC 26 (FinR Tryd.prog Tryd.f7 (eB r)) := FinR.kc' (by kernel_rfl)
  unfold G_slices_Equal_string_string at h
  by_cases h68 : (v_s141.length : Int) = (v_s142.length : Int)
  · rw [if_pos h68] at h
    obtain ⟨v_o152, h76, h⟩ := bind_some h
    refine pkk_sound TTok mix hF 12 (hs := [.u (.d (.v (.int .i64 (v_s141.length : Int)))), .u (.d (.v (.int .i64 (v_s142.length : Int)))), .t false, .u (.d (.v (.int .i64 (v_s141.length : Int)))), .n n]) (ts := []) (s := []) (l := [0, 1, 12, 13]) (by kernel_rfl) (by kernel_rfl) (.cons (len_ob (f := eS) (l := v_s141)) (.cons (len_ob (f := eS) (l := v_s142)) (.cons (nf h68) (.cons (len_ob (f := eS) (l := v_s141)) .nil)))) (G_slices_Equal_string_string_L1_ok hF (.b 0 :: .s (cR (cR (cR (bodyOf Tryd.f7)))) :: []) n v_s141 v_s142 n 0 _ h76 ?_)
    cases v_o152 with
    | x0 v_z153 =>
      try dsimp only at h
      obtain rfl := Option.some.inj h
      exact pend_sound TTok mix 2 (hs := []) (by kernel_rfl) (by kernel_rfl) (by kernel_rfl) .nil
    | x1  =>
      try dsimp only at h
      obtain rfl := Option.some.inj h
      exact pend_sound TTok mix 4 (hs := []) (by kernel_rfl) (by kernel_rfl) (by kernel_rfl) .nil
  · rw [if_neg h68] at h
    obtain rfl := Option.some.inj h
    exact pend_sound TTok mix 10 (hs := [.u (.d (.v (.int .i64 (v_s141.length : Int)))), .u (.d (.v (.int .i64 (v_s142.length : Int)))), .t true]) (by kernel_rfl) (by kernel_rfl) (by kernel_rfl) (.cons (len_ob (f := eS) (l := v_s141)) (.cons (len_ob (f := eS) (l := v_s142)) (.cons (nt h68) .nil)))
inductive G_ringlaw5_PathSplits_C1_R where
  | x0 (v_x156 : Bool)
def G_ringlaw5_PathSplits_C1_ex : G_ringlaw5_PathSplits_C1_R → Ex
  | .x0 _ => .normal
def G_ringlaw5_PathSplits_C1_st (v_r94 : (Bool × (List ByteArray) × Int)) (v_r128 : (Bool × (List ByteArray) × Int)) : G_ringlaw5_PathSplits_C1_R → PS
  | .x0 v_x156 => ⟨[dd, dd, .d (.v (.bool v_x156)), dd, dd, dd, dd, dd, dd, dd, dd, dd, dd, dd, dd, dd, dd, dd, dd, dd, dd, dd, dd, dd, dd, dd, dd, dd, dd, dd, dd, dd, dd, dd], []⟩
def G_ringlaw5_PathSplits_C1_hd (v_r94 : (Bool × (List ByteArray) × Int)) (v_r128 : (Bool × (List ByteArray) × Int))  : PS := ⟨[dd, dd, dd, .d (.v (.bool v_r94.1)), .d (.sl (v_r94.2.1.map eS)), .d (.v (.int .i64 v_r94.2.2)), .d (.v (.bool v_r128.1)), .d (.sl (v_r128.2.1.map eS)), .d (.v (.int .i64 v_r128.2.2)), dd, dd, dd, dd, dd, dd, dd, dd, dd, dd, dd, dd, dd, dd, dd, dd, dd, dd, dd, dd, dd, dd, dd, dd, dd], []⟩
def G_ringlaw5_PathSplits_C1 (n : Nat) (v_r94 : (Bool × (List ByteArray) × Int)) (v_r128 : (Bool × (List ByteArray) × Int)) : Option G_ringlaw5_PathSplits_C1_R :=
  if v_r94.2.2 = v_r128.2.2 then
   if (eqRes .eql (v_r94.1 == v_r128.1)) = true then
    (G_slices_Equal_string_string n v_r94.2.1 v_r128.2.1).bind fun (v_r155 : (Bool)) =>
    some (.x0 v_r155)
   else
    some (.x0 false)
  else
   some (.x0 false)
theorem G_ringlaw5_PathSplits_C1_ok {Fi : Ex → PS → Prop} (hF : KC 34 Fi) (ks : List Fr) (n : Nat) (v_r94 : (Bool × (List ByteArray) × Int)) (v_r128 : (Bool × (List ByteArray) × Int))  (o : G_ringlaw5_PathSplits_C1_R) (h : G_ringlaw5_PathSplits_C1 n v_r94 v_r128 = some o) (q : RunE Tryd.prog 34 Fi ks (G_ringlaw5_PathSplits_C1_ex o) (G_ringlaw5_PathSplits_C1_st v_r94 v_r128 o)) : RunE Tryd.prog 34 Fi (.s (cL (cR (cR (cR (bodyOf Tryd.f3))))) :: ks) .normal (G_ringlaw5_PathSplits_C1_hd v_r94 v_r128) := by
  unfold G_ringlaw5_PathSplits_C1 at h
  by_cases h78 : v_r94.2.2 = v_r128.2.2
  · rw [if_pos h78] at h
    by_cases h79 : (eqRes .eql (v_r94.1 == v_r128.1)) = true
    · rw [if_pos h79] at h
      obtain ⟨v_r155, h80, h⟩ := bind_some h
      cases h
      exact pkk_sound TTok mix hF 1 (hs := [.t true, .c, .c, .t true, .c, .c, .r (eB v_r155)]) (ts := []) (s := []) (l := [2]) (by kernel_rfl) (by kernel_rfl) (.cons (bt h78) (.cons h79 (.cons (G_slices_Equal_string_string_ok n v_r94.2.1 v_r128.2.1 _ h80) .nil))) q
    · rw [if_neg h79] at h
      cases h
      exact pkk_sound TTok mix hF 1 (hs := [.t true, .c, .c, .t false, .c, .c]) (ts := []) (s := []) (l := [2]) (by kernel_rfl) (by kernel_rfl) (.cons (bt h78) (.cons (vf h79) .nil)) q
  · rw [if_neg h78] at h
    cases h
    exact pkk_sound TTok mix hF 1 (hs := [.t false, .c, .c, .c, .c, .c]) (ts := []) (s := []) (l := [2]) (by kernel_rfl) (by kernel_rfl) (.cons (bf h78) .nil) q
/- ringhall/ringlaw5.PathSplits -/
def G_ringlaw5_PathSplits (n : Nat) (v_s1 : ByteArray) : Option (Bool) :=
  (G_path_Split n v_s1).bind fun (v_r94 : (Bool × (List ByteArray) × Int)) =>
  (G_ringref5_SplitOf n v_s1).bind fun (v_r128 : (Bool × (List ByteArray) × Int)) =>
  (G_ringlaw5_PathSplits_C1 n v_r94 v_r128).bind fun v_o159 => match v_o159 with
  | .x0 v_z160 =>
    some v_z160
theorem G_ringlaw5_PathSplits_ok (n : Nat) (v_s1 : ByteArray) (r : Bool) (h : G_ringlaw5_PathSplits n v_s1 = some r) : Ret Tryd.prog 3 [eS v_s1] (eB r) := by
  refine ret_run (n := 34) (fn := Tryd.f3) (c := bodyOf Tryd.f3) (by kernel_rfl) (by kernel_rfl) (by kernel_rfl) (by kernel_rfl) ?_
  have hF : KC 34 (FinR Tryd.prog Tryd.f3 (eB r)) := FinR.kc' (by kernel_rfl)
  unfold G_ringlaw5_PathSplits at h
  obtain ⟨v_r94, h50, h⟩ := bind_some h
  obtain ⟨v_r128, h65, h⟩ := bind_some h
  obtain ⟨v_o159, h81, h⟩ := bind_some h
  refine pkk_sound TTok mix hF 7 (hs := [.r (.tup [eB v_r94.1, (eL eS) v_r94.2.1, (eI .i64) v_r94.2.2]), .r (.tup [eB v_r128.1, (eL eS) v_r128.2.1, (eI .i64) v_r128.2.2])]) (ts := []) (s := []) (l := [3, 4, 5, 6, 7, 8]) (by kernel_rfl) (by kernel_rfl) (.cons (G_path_Split_ok n v_s1 _ h50) (.cons (G_ringref5_SplitOf_ok n v_s1 _ h65) .nil)) (G_ringlaw5_PathSplits_C1_ok hF (.s (cR (cR (cR (cR (bodyOf Tryd.f3))))) :: []) n v_r94 v_r128 _ h81 ?_)
  cases v_o159 with
  | x0 v_z160 =>
    try dsimp only at h
    obtain rfl := Option.some.inj h
    exact pend_sound TTok mix 1 (hs := []) (by kernel_rfl) (by kernel_rfl) (by kernel_rfl) .nil
theorem PathSplits_walk (H : ∀ (a0 : ByteArray), (fun a => ByteArray.size a ≤ 140737488351232) a0 → ∃ n, G_ringlaw5_PathSplits n a0 = some true) (w : World) (v0 : Value) (h0 : rep.Arg w .str v0) : Calls Tryd.prog 3 #[v0] w (help.Ret (.bool true) w) := by
  obtain ⟨a0, o0, r0⟩ := arg_one br_str (by rfl) h0
  obtain ⟨n, hn⟩ := H a0 o0
  exact walk_of (G_ringlaw5_PathSplits_ok n a0 true hn) (RT_cons r0 RT_nil)
/- FRAME PathSplits; ringhall/ringlaw5.PathSplits; .str; .string ⟨#[]⟩ -/
end Go.Proofs.YtkeikccopkjgiaaDoor.pv
