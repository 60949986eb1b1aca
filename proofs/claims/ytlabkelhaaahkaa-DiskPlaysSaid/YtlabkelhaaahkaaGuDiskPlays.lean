/- What the functions compute, as functions over plain data, with their contracts: written by gen.py. -/
import Derived.Test.YtlabkelhaaahkaaProg
import Derived.Test.YtlabkelhaaahkaaQr
import Derived.Test.YtlabkelhaaahkaaShelf
import Derived.Test.YtlabkelhaaahkaaTd
import Derived.Test.YtlabkelhaaahkaaSh
import Derived.Test.YtlabkelhaaahkaaSi
set_option maxRecDepth 100000
set_option linter.all false
namespace Go.Proofs.Ytlabkelhaaahkaa.pv
open Go.RowKit
def TT : List TI := [
⟨1, 0, .oth, []⟩,
⟨1, 8, .oth, [.nf]⟩,
⟨1, 8, .int .i64, [.i .i64]⟩,
⟨1, 8, .int .i64, [.i .i64]⟩,
⟨1, 1, .bool, [.b]⟩,
⟨1, 1, .int .u8, [.i .u8]⟩,
⟨1, 1, .int .u8, [.i .u8]⟩,
⟨4, 24, .st [(0, 2), (1, 3), (2, 4), (3, 6)], [.i .i64, .i .i64, .b, .i .u8]⟩,
⟨4, 24, .st [(0, 2), (1, 3), (2, 4), (3, 6)], [.i .i64, .i .i64, .b, .i .u8]⟩,
⟨1, 16, .str, [.s]⟩,
⟨1, 16, .str, [.s]⟩,
⟨1, 16, .str, [.s]⟩,
⟨1, 8, .int .u64, [.i .u64]⟩,
⟨2, 24, .st [(0, 9), (1, 12)], [.s, .i .u64]⟩,
⟨2, 24, .st [(0, 9), (1, 12)], [.s, .i .u64]⟩,
⟨1, 8, .ptr 81, [.np]⟩,
⟨1, 8, .ptr 84, [.np]⟩,
⟨1, 8, .ptr 91, [.np]⟩,
⟨1, 8, .st [(0, 17)], [.np]⟩,
⟨1, 8, .st [(0, 17)], [.np]⟩,
⟨1, 16, .oth, [.ni]⟩,
⟨1, 4, .int .i32, [.i .i32]⟩,
⟨1, 24, .sl 33, [.sl]⟩,
⟨1, 8, .ptr 51, [.np]⟩,
⟨1, 8, .int .i64, [.i .i64]⟩,
⟨1, 0, .oth, []⟩,
⟨1, 8, .oth, [.nf]⟩,
⟨1, 8, .oth, [.nf]⟩,
⟨1, 8, .ptr 41, [.np]⟩,
⟨1, 8, .oth, [.nf]⟩,
⟨1, 24, .sl 5, [.sl]⟩,
⟨1, 24, .sl 4, [.sl]⟩,
⟨4, 64, .st [(0, 3), (1, 3), (2, 30), (3, 31)], [.i .i64, .i .i64, .sl, .sl]⟩,
⟨4, 64, .st [(0, 3), (1, 3), (2, 30), (3, 31)], [.i .i64, .i .i64, .sl, .sl]⟩,
⟨1, 8, .oth, [.nf]⟩,
⟨1, 8, .oth, [.nf]⟩,
⟨1, 8, .oth, [.nf]⟩,
⟨1, 8, .oth, [.nf]⟩,
⟨1, 8, .oth, [.nf]⟩,
⟨1, 24, .sl 56, [.sl]⟩,
⟨4, 48, .st [(0, 3), (1, 3), (2, 3), (3, 39)], [.i .i64, .i .i64, .i .i64, .sl]⟩,
⟨4, 48, .st [(0, 3), (1, 3), (2, 3), (3, 39)], [.i .i64, .i .i64, .i .i64, .sl]⟩,
⟨1, 8, .oth, [.nf]⟩,
⟨1, 0, .oth, []⟩,
⟨1, 8, .oth, [.nf]⟩,
⟨1, 8, .oth, [.nf]⟩,
⟨1, 8, .oth, [.nf]⟩,
⟨1, 8, .oth, [.nf]⟩,
⟨1, 8, .oth, [.nf]⟩,
⟨1, 24, .sl 54, [.sl]⟩,
⟨4, 80, .st [(0, 30), (1, 30), (2, 49), (3, 3)], [.sl, .sl, .sl, .i .i64]⟩,
⟨4, 80, .st [(0, 30), (1, 30), (2, 49), (3, 3)], [.sl, .sl, .sl, .i .i64]⟩,
⟨1, 8, .oth, [.nf]⟩,
⟨2, 32, .st [(0, 3), (1, 30)], [.i .i64, .sl]⟩,
⟨2, 32, .st [(0, 3), (1, 30)], [.i .i64, .sl]⟩,
⟨2, 24, .st [(0, 3), (1, 9)], [.i .i64, .s]⟩,
⟨2, 24, .st [(0, 3), (1, 9)], [.i .i64, .s]⟩,
⟨1, 8, .oth, [.nf]⟩,
⟨1, 8, .oth, [.nf]⟩,
⟨1, 8, .int .u64, [.i .u64]⟩,
⟨1, 0, .oth, []⟩,
⟨1, 8, .oth, [.nf]⟩,
⟨1, 8, .oth, [.nf]⟩,
⟨1, 8, .ptr 65, [.np]⟩,
⟨2, 32, .st [(0, 63), (1, 30)], [.np, .sl]⟩,
⟨2, 32, .st [(0, 63), (1, 30)], [.np, .sl]⟩,
⟨1, 16, .oth, [.ni]⟩,
⟨1, 16, .oth, [.ni]⟩,
⟨1, 0, .oth, []⟩,
⟨1, 8, .oth, [.nf]⟩,
⟨1, 4, .int .u32, [.i .u32]⟩,
⟨1, 0, .oth, []⟩,
⟨1, 8, .oth, [.nf]⟩,
⟨1, 8, .int .u64, [.i .u64]⟩,
⟨1, 0, .oth, []⟩,
⟨1, 8, .oth, [.nf]⟩,
⟨1, 8, .ptr 5, [.np]⟩,
⟨1, 8, .oth, [.np]⟩,
⟨1, 8, .oth, [.nf]⟩,
⟨1, 8, .oth, [.nf]⟩,
⟨4, 40, .st [(0, 17), (1, 17), (2, 17), (3, 9)], [.np, .np, .np, .s]⟩,
⟨4, 40, .st [(0, 17), (1, 17), (2, 17), (3, 9)], [.np, .np, .np, .s]⟩,
⟨0, 0, .arr 0 16, []⟩,
⟨0, 0, .st [(0, 82)], []⟩,
⟨0, 0, .st [(0, 82)], []⟩,
⟨1, 1, .int .u8, [.i .u8]⟩,
⟨1, 1, .int .u8, [.i .u8]⟩,
⟨1, 8, .oth, [.nf]⟩,
⟨1, 4, .int .i32, [.i .i32]⟩,
⟨1, 4, .int .i32, [.i .i32]⟩,
⟨11, 48, .st [(0, 12), (1, 12), (2, 70), (3, 85), (4, 5), (5, 5), (6, 86), (7, 87), (8, 76), (9, 88), (10, 89)], [.i .u64, .i .u64, .i .u32, .i .u8, .i .u8, .i .u8, .i .u8, .nf, .np, .i .i32, .i .i32]⟩,
⟨11, 48, .st [(0, 12), (1, 12), (2, 70), (3, 85), (4, 5), (5, 5), (6, 86), (7, 87), (8, 76), (9, 88), (10, 89)], [.i .u64, .i .u64, .i .u32, .i .u8, .i .u8, .i .u8, .i .u8, .nf, .np, .i .i32, .i .i32]⟩]
theorem TTok : TOk Try.prog TT := by unfold TOk; kernel_rfl
theorem mix : Try.prog.follows .mixedOrders = true := by kernel_rfl
structure S_ringlaw3_Act where
  fKind : Int
  fN : Int
  fData : (List Int)
  fKept : (List Bool)
def eS_ringlaw3_Act (x : S_ringlaw3_Act) : PV := .agg [.v (.int .i64 x.fKind), .v (.int .i64 x.fN), .sl (x.fData.map (eI .u8)), .sl (x.fKept.map eB)]
structure S_disk_write where
  fn : Int
  fdata : (List Int)
def eS_disk_write (x : S_disk_write) : PV := .agg [.v (.int .i64 x.fn), .sl (x.fdata.map (eI .u8))]
structure S_disk_Disk where
  fsafe : (List Int)
  fnow : (List Int)
  fwait : (List S_disk_write)
  ffuse : Int
def eS_disk_Disk (x : S_disk_Disk) : PV := .agg [.sl (x.fsafe.map (eI .u8)), .sl (x.fnow.map (eI .u8)), .sl (x.fwait.map eS_disk_write), .v (.int .i64 x.ffuse)]
structure S_ringref3_Put where
  fN : Int
  fData : ByteArray
def eS_ringref3_Put (x : S_ringref3_Put) : PV := .agg [.v (.int .i64 x.fN), .v (.string x.fData)]
structure S_ringref3_Disk where
  fSectors : Int
  fMark : Int
  fFuse : Int
  fAll : (List S_ringref3_Put)
def eS_ringref3_Disk (x : S_ringref3_Disk) : PV := .agg [.v (.int .i64 x.fSectors), .v (.int .i64 x.fMark), .v (.int .i64 x.fFuse), .sl (x.fAll.map eS_ringref3_Put)]

/- ringhall/disk.New -/
def G_disk_New_h (n : Nat) (v_sectors3 : Int) : Option ((Option S_disk_Disk) × Int) :=
  if v_sectors3 < 16 then
   some (none, 1)
  else
   if v_sectors3 > 256 then
    some (none, 1)
   else
    (mkL 1 0 (wi .i64 (v_sectors3 * 64))).bind fun (v_m4 : (List Int)) =>
    (mkL 1 0 (wi .i64 (v_sectors3 * 64))).bind fun (v_m5 : (List Int)) =>
    some ((some (S_disk_Disk.mk v_m4 v_m5 ([] : List S_disk_write) (-1))), 0)
theorem G_disk_New_h_ok (n : Nat) (v_sectors3 : Int) (r : (Option S_disk_Disk) × Int) (h : G_disk_New_h n v_sectors3 = some r) : RetH Try.prog 4 [.d ((eI .i64) v_sectors3)] [] (.tup [(match r.1 with | none => .d (.v (.pointer none)) | some x => .ref 0 0), .d ((eI .i64) r.2)]) (match r.1 with | none => [] | some x => [.box [.srf 1, .srf 2, .srf 3, .d (.v (.int .i64 x.ffuse))], .row 5 1 (x.fsafe.map (eI .u8)), .row 5 1 (x.fnow.map (eI .u8)), .row 54 2 (x.fwait.map eS_disk_write)]) := by
  refine retH_run (n := 19) (fn := Try.f4) (c := bodyOf Try.f4) (by kernel_rfl) (by kernel_rfl) (by kernel_rfl) (by kernel_rfl) ?_
  have hF : KC 19 (FinH Try.prog Try.f4 [] (.tup [(match r.1 with | none => .d (.v (.pointer none)) | some x => .ref 0 0), .d ((eI .i64) r.2)]) (match r.1 with | none => [] | some x => [.box [.srf 1, .srf 2, .srf 3, .d (.v (.int .i64 x.ffuse))], .row 5 1 (x.fsafe.map (eI .u8)), .row 5 1 (x.fnow.map (eI .u8)), .row 54 2 (x.fwait.map eS_disk_write)])) := FinH.kc' (by kernel_rfl)
  unfold G_disk_New_h at h
  by_cases h1 : v_sectors3 < 16
  · rw [if_pos h1] at h
    obtain rfl := Option.some.inj h
    exact pendH_sound TTok mix 10 (hs := [.t true, .c, .c]) [] (by kernel_rfl) (by kernel_rfl) (by kernel_rfl) (.cons (dt h1) .nil)
  · rw [if_neg h1] at h
    by_cases h2 : v_sectors3 > 256
    · rw [if_pos h2] at h
      obtain rfl := Option.some.inj h
      exact pendH_sound TTok mix 10 (hs := [.t false, .c, .t true]) [] (by kernel_rfl) (by kernel_rfl) (by kernel_rfl) (.cons (df h1) (.cons (dt h2) .nil))
    · rw [if_neg h2] at h
      obtain ⟨v_m4, h3, h⟩ := bind_some h
      obtain ⟨v_m5, h4, h⟩ := bind_some h
      obtain rfl := Option.some.inj h
      exact pendH_sound TTok mix 13 (hs := [.t false, .c, .t false, .w (v_m4.map (eI .u8)), .w (v_m5.map (eI .u8)), .dl 1, .tb 80 2 54 2]) [80, 60, 70, 95] (by kernel_rfl) (by kernel_rfl) (by kernel_rfl) (.cons (df h1) (.cons (df h2) (.cons (mkL_ob (f := (eI .u8)) (p := .v (.int .u8 0)) h3 rfl).1 (.cons (mkL_ob (f := (eI .u8)) (p := .v (.int .u8 0)) h3 rfl).2.1 (.cons (mkL_ob (f := (eI .u8)) (p := .v (.int .u8 0)) h3 rfl).2.2.1 (.cons (mkL_ob (f := (eI .u8)) (p := .v (.int .u8 0)) h3 rfl).2.2.2.1 (.cons (mkL_ob (f := (eI .u8)) (p := .v (.int .u8 0)) h3 rfl).2.2.2.2 (.cons (mkL_ob (f := (eI .u8)) (p := .v (.int .u8 0)) h4 rfl).1 (.cons (mkL_ob (f := (eI .u8)) (p := .v (.int .u8 0)) h4 rfl).2.1 (.cons (mkL_ob (f := (eI .u8)) (p := .v (.int .u8 0)) h4 rfl).2.2.1 (.cons (mkL_ob (f := (eI .u8)) (p := .v (.int .u8 0)) h4 rfl).2.2.2.1 (.cons (mkL_ob (f := (eI .u8)) (p := .v (.int .u8 0)) h4 rfl).2.2.2.2 .nil))))))))))))
inductive G_ringlaw3_light_L1_R where
  | x0 (v_x12 : Bool)
  | x1 
def G_ringlaw3_light_L1_ex : G_ringlaw3_light_L1_R → Ex
  | .x0 _ => .ret
  | .x1  => .exit 0
def G_ringlaw3_light_L1_st (v_l7 : (List S_ringlaw3_Act)) : G_ringlaw3_light_L1_R → PS
  | .x0 v_x12 => ⟨[dd, dd, .d (.v (.bool v_x12)), dd, dd, dd, dd, dd, dd, dd, dd, dd, dd, dd, dd, dd, dd, dd, dd, dd, dd, dd, dd, dd, dd], []⟩
  | .x1  => ⟨[.d (.sl (v_l7.map eS_ringlaw3_Act)), dd, dd, dd, dd, dd, dd, dd, dd, dd, dd, dd, dd, dd, dd, dd, dd, dd, dd, dd, dd, dd, dd, dd, dd], []⟩
def G_ringlaw3_light_L1_hd (v_l7 : (List S_ringlaw3_Act)) (v_x8 : Int) : PS := ⟨[.d (.sl (v_l7.map eS_ringlaw3_Act)), dd, dd, dd, dd, .d (.sl (v_l7.map eS_ringlaw3_Act)), .d (.v (.int .i64 (v_l7.length : Int))), .d (.v (.int .i64 v_x8)), dd, dd, dd, dd, dd, dd, dd, dd, dd, dd, dd, dd, dd, dd, dd, dd, dd], []⟩
def G_ringlaw3_light_L1 (n : Nat) (v_l7 : (List S_ringlaw3_Act)) : Nat → Int → Option G_ringlaw3_light_L1_R
  | 0, _ => none
  | k + 1, v_x8 =>
    if v_x8 < (v_l7.length : Int) then
     (getI v_l7 v_x8).bind fun (v_y11 : S_ringlaw3_Act) =>
     if (v_y11.fData.length : Int) > 200 then
      some (.x0 false)
     else
      if (v_y11.fKept.length : Int) > 200 then
       some (.x0 false)
      else
       G_ringlaw3_light_L1 n v_l7 k (wi .i64 (v_x8 + 1))
    else
     some (.x1 )
theorem G_ringlaw3_light_L1_ok {Fi : Ex → PS → Prop} (hF : KC 25 Fi) (ks : List Fr) (n : Nat) (v_l7 : (List S_ringlaw3_Act))  : ∀ (k : Nat) (v_x8 : Int) (o : G_ringlaw3_light_L1_R), G_ringlaw3_light_L1 n v_l7 k v_x8 = some o → RunE Try.prog 25 Fi ks (G_ringlaw3_light_L1_ex o) (G_ringlaw3_light_L1_st v_l7 o) → RunE Try.prog 25 Fi (.l k (cP (cB (cR (cL (cR (bodyOf Try.f5)))))) :: ks) .normal (G_ringlaw3_light_L1_hd v_l7 v_x8)
  | 0, v_x8, o, h, q => by rw [G_ringlaw3_light_L1] at h; cases h
  | k + 1, v_x8, o, h, q => by
    rw [G_ringlaw3_light_L1] at h
    by_cases h19 : v_x8 < (v_l7.length : Int)
    · rw [if_pos h19] at h
      obtain ⟨v_y11, h24, h⟩ := bind_some h
      by_cases h26 : (v_y11.fData.length : Int) > 200
      · rw [if_pos h26] at h
        cases h
        exact pkk_sound TTok mix hF 19 (hs := [.t true, .y (eS_ringlaw3_Act v_y11), .c, .c, .u (.d (.v (.int .i64 (v_y11.fData.length : Int)))), .t true, .c, .c, .c, .c]) (ts := []) (s := []) (l := [2]) (by kernel_rfl) (by kernel_rfl) (.cons (dt h19) (.cons (getI_ob (f := eS_ringlaw3_Act) h24) (.cons (show 0 + 4 ≤ 4 by decide) (.cons (len_ob (f := (eI .u8)) (l := v_y11.fData)) (.cons (dt h26) .nil))))) q
      · rw [if_neg h26] at h
        by_cases h27 : (v_y11.fKept.length : Int) > 200
        · rw [if_pos h27] at h
          cases h
          exact pkk_sound TTok mix hF 19 (hs := [.t true, .y (eS_ringlaw3_Act v_y11), .c, .c, .u (.d (.v (.int .i64 (v_y11.fData.length : Int)))), .t false, .c, .c, .c, .u (.d (.v (.int .i64 (v_y11.fKept.length : Int)))), .c, .t true]) (ts := []) (s := []) (l := [2]) (by kernel_rfl) (by kernel_rfl) (.cons (dt h19) (.cons (getI_ob (f := eS_ringlaw3_Act) h24) (.cons (show 0 + 4 ≤ 4 by decide) (.cons (len_ob (f := (eI .u8)) (l := v_y11.fData)) (.cons (df h26) (.cons (len_ob (f := eB) (l := v_y11.fKept)) (.cons (dt h27) .nil))))))) q
        · rw [if_neg h27] at h
          exact pkk_sound TTok mix hF 16 (hs := [.t true, .y (eS_ringlaw3_Act v_y11), .c, .c, .u (.d (.v (.int .i64 (v_y11.fData.length : Int)))), .t false, .c, .c, .c, .u (.d (.v (.int .i64 (v_y11.fKept.length : Int)))), .c, .t false]) (ts := []) (s := []) (l := [0, 5, 6, 7]) (by kernel_rfl) (by kernel_rfl) (.cons (dt h19) (.cons (getI_ob (f := eS_ringlaw3_Act) h24) (.cons (show 0 + 4 ≤ 4 by decide) (.cons (len_ob (f := (eI .u8)) (l := v_y11.fData)) (.cons (df h26) (.cons (len_ob (f := eB) (l := v_y11.fKept)) (.cons (df h27) .nil))))))) (G_ringlaw3_light_L1_ok hF ks n v_l7 k (wi .i64 (v_x8 + 1)) _ h q)
    · rw [if_neg h19] at h
      cases h
      exact pkk_sound TTok mix hF 8 (hs := [.t false]) (ts := []) (s := []) (l := [0]) (by kernel_rfl) (by kernel_rfl) (.cons (df h19) .nil) q
/- ringhall/ringlaw3.light -/
def G_ringlaw3_light (n : Nat) (v_l7 : (List S_ringlaw3_Act)) : Option (Bool) :=
  (G_ringlaw3_light_L1 n v_l7 n 0).bind fun v_o14 => match v_o14 with
  | .x0 v_z15 =>
    some v_z15
  | .x1  =>
    some (decide ((v_l7.length : Int) ≤ 60))
theorem G_ringlaw3_light_ok (n : Nat) (v_l7 : (List S_ringlaw3_Act)) (r : Bool) (h : G_ringlaw3_light n v_l7 = some r) : Ret Try.prog 5 [(eL eS_ringlaw3_Act) v_l7] (eB r) := by
  refine ret_run (n := 25) (fn := Try.f5) (c := bodyOf Try.f5) (by kernel_rfl) (by kernel_rfl) (by kernel_rfl) (by kernel_rfl) ?_
  have hF : KC 25 (FinR Try.prog Try.f5 (eB r)) := FinR.kc' (by kernel_rfl)
  unfold G_ringlaw3_light at h
  obtain ⟨v_o14, h28, h⟩ := bind_some h
  refine pkk_sound TTok mix hF 7 (hs := [.u (.d (.v (.int .i64 (v_l7.length : Int)))), .n n]) (ts := []) (s := []) (l := [0, 5, 6, 7]) (by kernel_rfl) (by kernel_rfl) (.cons (len_ob (f := eS_ringlaw3_Act) (l := v_l7)) .nil) (G_ringlaw3_light_L1_ok hF (.b 0 :: .s (cR (cR (bodyOf Try.f5))) :: []) n v_l7 n 0 _ h28 ?_)
  cases v_o14 with
  | x0 v_z15 =>
    try dsimp only at h
    obtain rfl := Option.some.inj h
    exact pend_sound TTok mix 2 (hs := []) (by kernel_rfl) (by kernel_rfl) (by kernel_rfl) .nil
  | x1  =>
    try dsimp only at h
    obtain rfl := Option.some.inj h
    exact pend_sound TTok mix 4 (hs := [.u (.d (.v (.int .i64 (v_l7.length : Int))))]) (by kernel_rfl) (by kernel_rfl) (by kernel_rfl) (.cons (len_ob (f := eS_ringlaw3_Act) (l := v_l7)) .nil)
/- ringhall/ringref3.NewDisk -/
def G_ringref3_NewDisk_h (n : Nat) (v_n17 : Int) : Option (S_ringref3_Disk) :=
  some (S_ringref3_Disk.mk v_n17 0 (-1) ([] : List S_ringref3_Put))
theorem G_ringref3_NewDisk_h_ok (n : Nat) (v_n17 : Int) (r : S_ringref3_Disk) (h : G_ringref3_NewDisk_h n v_n17 = some r) : RetH Try.prog 6 [.d ((eI .i64) v_n17)] [] (.ref 0 0) [.box [.d (.v (.int .i64 r.fSectors)), .d (.v (.int .i64 r.fMark)), .d (.v (.int .i64 r.fFuse)), .srf 1], .cu (rowF 56 2 (r.fAll.map eS_ringref3_Put)) []] := by
  refine retH_run (n := 6) (fn := Try.f6) (c := bodyOf Try.f6) (by kernel_rfl) (by kernel_rfl) (by kernel_rfl) (by kernel_rfl) ?_
  have hF : KC 6 (FinH Try.prog Try.f6 [] (.ref 0 0) [.box [.d (.v (.int .i64 r.fSectors)), .d (.v (.int .i64 r.fMark)), .d (.v (.int .i64 r.fFuse)), .srf 1], .cu (rowF 56 2 (r.fAll.map eS_ringref3_Put)) []]) := FinH.kc' (by kernel_rfl)
  unfold G_ringref3_NewDisk_h at h
  obtain rfl := Option.some.inj h
  exact pendH_sound TTok mix 7 (hs := [.dl 5, .tb 15 3 56 2, .sx [25] (toF 25 56 2 (([] : List S_ringref3_Put).map eS_ringref3_Put))]) [15, 25] (by kernel_rfl) (by kernel_rfl) (by kernel_rfl) (.cons (row_toF (l := 25) (e := 56) (s := 2) (xs := (([] : List S_ringref3_Put).map eS_ringref3_Put))) .nil)
/- (*ringhall/disk.Disk).Size -/
def G_disk_Disk_Size_h (n : Nat) (v_d29 : S_disk_Disk) : Option (Int × S_disk_Disk) :=
  some ((quoI .i64 (v_d29.fnow.length : Int) 64), v_d29)
theorem G_disk_Disk_Size_h_ok (n : Nat) (v_d29 : S_disk_Disk) (r : Int × S_disk_Disk) (h : G_disk_Disk_Size_h n v_d29 = some r) : RetH Try.prog 19 [.ref 0 0] [.box [.srf 1, .srf 2, .srf 3, .d (.v (.int .i64 v_d29.ffuse))], .row 5 1 (v_d29.fsafe.map (eI .u8)), .row 5 1 (v_d29.fnow.map (eI .u8)), .row 54 2 (v_d29.fwait.map eS_disk_write)] (.d ((eI .i64) r.1)) [.box [.srf 4, .srf 5, .srf 6, .d (.v (.int .i64 r.2.ffuse))], .none, .none, .none, .row 5 1 (r.2.fsafe.map (eI .u8)), .row 5 1 (r.2.fnow.map (eI .u8)), .row 54 2 (r.2.fwait.map eS_disk_write)] := by
  refine retH_run (n := 9) (fn := Try.f19) (c := bodyOf Try.f19) (by kernel_rfl) (by kernel_rfl) (by kernel_rfl) (by kernel_rfl) ?_
  have hF : KC 9 (FinH Try.prog Try.f19 [.box [.srf 1, .srf 2, .srf 3, .d (.v (.int .i64 v_d29.ffuse))], .row 5 1 (v_d29.fsafe.map (eI .u8)), .row 5 1 (v_d29.fnow.map (eI .u8)), .row 54 2 (v_d29.fwait.map eS_disk_write)] (.d ((eI .i64) r.1)) [.box [.srf 4, .srf 5, .srf 6, .d (.v (.int .i64 r.2.ffuse))], .none, .none, .none, .row 5 1 (r.2.fsafe.map (eI .u8)), .row 5 1 (r.2.fnow.map (eI .u8)), .row 54 2 (r.2.fwait.map eS_disk_write)]) := FinH.kc' (by kernel_rfl)
  unfold G_disk_Disk_Size_h at h
  obtain rfl := Option.some.inj h
  exact pendH_sound TTok mix 8 (hs := [.c, .u (.d (.v (.int .i64 (v_d29.fnow.length : Int)))), .dl 1, .mv 1, .mv 2, .mv 3]) [0, 1, 2, 3, 48, 49, 50] (by kernel_rfl) (by kernel_rfl) (by kernel_rfl) (.cons (len_ob (f := (eI .u8)) (l := v_d29.fnow)) (.cons (show (64 : Int) ≠ 0 by decide) .nil))
/- (*ringhall/disk.Disk).goes -/
def G_disk_Disk_goes_h (n : Nat) (v_d52 : S_disk_Disk) : Option (Bool × S_disk_Disk) :=
  if v_d52.ffuse = 0 then
   some (false, v_d52)
  else
   if v_d52.ffuse > 0 then
    some (true, (S_disk_Disk.mk v_d52.fsafe v_d52.fnow v_d52.fwait (wi .i64 (v_d52.ffuse - 1))))
   else
    some (true, v_d52)
theorem G_disk_Disk_goes_h_ok (n : Nat) (v_d52 : S_disk_Disk) (r : Bool × S_disk_Disk) (h : G_disk_Disk_goes_h n v_d52 = some r) : RetH Try.prog 22 [.ref 0 0] [.box [.srf 1, .srf 2, .srf 3, .d (.v (.int .i64 v_d52.ffuse))], .row 5 1 (v_d52.fsafe.map (eI .u8)), .row 5 1 (v_d52.fnow.map (eI .u8)), .row 54 2 (v_d52.fwait.map eS_disk_write)] (.d (eB r.1)) [.box [.srf 4, .srf 5, .srf 6, .d (.v (.int .i64 r.2.ffuse))], .none, .none, .none, .row 5 1 (r.2.fsafe.map (eI .u8)), .row 5 1 (r.2.fnow.map (eI .u8)), .row 54 2 (r.2.fwait.map eS_disk_write)] := by
  refine retH_run (n := 20) (fn := Try.f22) (c := bodyOf Try.f22) (by kernel_rfl) (by kernel_rfl) (by kernel_rfl) (by kernel_rfl) ?_
  have hF : KC 20 (FinH Try.prog Try.f22 [.box [.srf 1, .srf 2, .srf 3, .d (.v (.int .i64 v_d52.ffuse))], .row 5 1 (v_d52.fsafe.map (eI .u8)), .row 5 1 (v_d52.fnow.map (eI .u8)), .row 54 2 (v_d52.fwait.map eS_disk_write)] (.d (eB r.1)) [.box [.srf 4, .srf 5, .srf 6, .d (.v (.int .i64 r.2.ffuse))], .none, .none, .none, .row 5 1 (r.2.fsafe.map (eI .u8)), .row 5 1 (r.2.fnow.map (eI .u8)), .row 54 2 (r.2.fwait.map eS_disk_write)]) := FinH.kc' (by kernel_rfl)
  unfold G_disk_Disk_goes_h at h
  by_cases h44 : v_d52.ffuse = 0
  · rw [if_pos h44] at h
    obtain rfl := Option.some.inj h
    exact pendH_sound TTok mix 13 (hs := [.c, .t true, .dl 4, .mv 1, .mv 2, .mv 3]) [0, 1, 2, 3, 43, 44, 45] (by kernel_rfl) (by kernel_rfl) (by kernel_rfl) (.cons (bt h44) .nil)
  · rw [if_neg h44] at h
    by_cases h46 : v_d52.ffuse > 0
    · rw [if_pos h46] at h
      obtain rfl := Option.some.inj h
      exact pendH_sound TTok mix 18 (hs := [.c, .t false, .c, .t true, .c, .c, .dl 3, .mv 1, .mv 2, .mv 3]) [0, 1, 2, 3, 108, 109, 110] (by kernel_rfl) (by kernel_rfl) (by kernel_rfl) (.cons (bf h44) (.cons (dt h46) (.cons (show 3 + 1 ≤ 4 by decide) .nil)))
    · rw [if_neg h46] at h
      obtain rfl := Option.some.inj h
      exact pendH_sound TTok mix 18 (hs := [.c, .t false, .c, .t false, .dl 4, .mv 1, .mv 2, .mv 3]) [0, 1, 2, 3, 68, 69, 70] (by kernel_rfl) (by kernel_rfl) (by kernel_rfl) (.cons (bf h44) (.cons (df h46) .nil))
/- slices.Clone[[]byte,byte] -/
def G_slices_Clone_byte_byte_A (n : Nat) (v_c54 : Nat) : Option ((List Int)) :=
  some ([] : List Int)
theorem G_slices_Clone_byte_byte_A_ok (n : Nat) (v_c54 : Nat) (r : (List Int)) (h : G_slices_Clone_byte_byte_A n v_c54 = some r) : RetH Try.prog 23 [.d (.v (.slice none 0 v_c54))] [] (.srf 0) [.row 5 1 (r.map (eI .u8))] := by
  refine retH_run (n := 8) (fn := Try.f23) (c := bodyOf Try.f23) (by kernel_rfl) (by kernel_rfl) (by kernel_rfl) (by kernel_rfl) ?_
  have hF : KC 8 (FinH Try.prog Try.f23 [] (.srf 0) [.row 5 1 (r.map (eI .u8))]) := FinH.kc' (by kernel_rfl)
  unfold G_slices_Clone_byte_byte_A at h
  obtain rfl := Option.some.inj h
  exact pendH_sound TTok mix 11 (hs := [.c, .dl 4, .th 2 5 1]) [20] (by kernel_rfl) (by kernel_rfl) (by kernel_rfl) .nil
/- slices.Clone[[]byte,byte] -/
def G_slices_Clone_byte_byte_B (n : Nat) (v_a55 : Addr) (v_c56 : Nat) : Option ((List Int)) :=
  (app 1 ([] : List Int) ([] : (List Int))).bind fun (v_a57 : (List Int)) =>
  some v_a57
theorem G_slices_Clone_byte_byte_B_ok (n : Nat) (v_a55 : Addr) (v_c56 : Nat) (r : (List Int)) (h : G_slices_Clone_byte_byte_B n v_a55 v_c56 = some r) : RetH Try.prog 23 [.d (.v (.slice (some v_a55) 0 v_c56))] [] (.srf 0) [.row 5 1 (r.map (eI .u8))] := by
  refine retH_run (n := 8) (fn := Try.f23) (c := bodyOf Try.f23) (by kernel_rfl) (by kernel_rfl) (by kernel_rfl) (by kernel_rfl) ?_
  have hF : KC 8 (FinH Try.prog Try.f23 [] (.srf 0) [.row 5 1 (r.map (eI .u8))]) := FinH.kc' (by kernel_rfl)
  unfold G_slices_Clone_byte_byte_B at h
  obtain ⟨v_a57, h49, h⟩ := bind_some h
  obtain rfl := Option.some.inj h
  exact pendH_sound TTok mix 10 (hs := [.c, .w (([] : List Int).map (eI .u8)), .w (v_a57.map (eI .u8))]) [25] (by kernel_rfl) (by kernel_rfl) (by kernel_rfl) (.cons (Eq.refl (([] : List Int).map (eI .u8))) (.cons (app_ob (f := (eI .u8)) (s := 1) h49 (fun _ => rfl)).1 (.cons (app_ob (f := (eI .u8)) (s := 1) h49 (fun _ => rfl)).2.1 (.cons (app_ob (f := (eI .u8)) (s := 1) h49 (fun _ => rfl)).2.2.1 (.cons (app_ob (f := (eI .u8)) (s := 1) h49 (fun _ => rfl)).2.2.2 .nil)))))
/- slices.Clone[[]byte,byte] -/
def G_slices_Clone_byte_byte_C (n : Nat) (v_y58 : Int) (v_ys59 : (List Int)) : Option ((List Int)) :=
  (app 1 ([] : List Int) (v_y58 :: v_ys59)).bind fun (v_a60 : (List Int)) =>
  some v_a60
theorem G_slices_Clone_byte_byte_C_ok (n : Nat) (v_y58 : Int) (v_ys59 : (List Int)) (r : (List Int)) (h : G_slices_Clone_byte_byte_C n v_y58 v_ys59 = some r) : RetH Try.prog 23 [.d (.sl ((eI .u8) v_y58 :: v_ys59.map (eI .u8)))] [] (.srf 0) [.row 5 1 (r.map (eI .u8))] := by
  refine retH_run (n := 8) (fn := Try.f23) (c := bodyOf Try.f23) (by kernel_rfl) (by kernel_rfl) (by kernel_rfl) (by kernel_rfl) ?_
  have hF : KC 8 (FinH Try.prog Try.f23 [] (.srf 0) [.row 5 1 (r.map (eI .u8))]) := FinH.kc' (by kernel_rfl)
  unfold G_slices_Clone_byte_byte_C at h
  obtain ⟨v_a60, h50, h⟩ := bind_some h
  obtain rfl := Option.some.inj h
  exact pendH_sound TTok mix 10 (hs := [.c, .w (([] : List Int).map (eI .u8)), .w (v_a60.map (eI .u8))]) [25] (by kernel_rfl) (by kernel_rfl) (by kernel_rfl) (.cons (Eq.refl (([] : List Int).map (eI .u8))) (.cons (app_ob (f := (eI .u8)) (s := 1) h50 (fun _ => rfl)).1 (.cons (app_ob (f := (eI .u8)) (s := 1) h50 (fun _ => rfl)).2.1 (.cons (app_ob (f := (eI .u8)) (s := 1) h50 (fun _ => rfl)).2.2.1 (.cons (app_ob (f := (eI .u8)) (s := 1) h50 (fun _ => rfl)).2.2.2 .nil)))))
def G_slices_Clone_byte_byte (n : Nat) (xs : (List Int)) : Option (List Int) := app 1 [] xs
theorem G_slices_Clone_byte_byte_ok (n : Nat) (xs : (List Int)) (r : (List Int)) (h : G_slices_Clone_byte_byte n xs = some r) : RetH Try.prog 23 [.d (.sl (xs.map (eI .u8)))] [] (.srf 0) [.row 5 1 (r.map (eI .u8))] := by
  unfold G_slices_Clone_byte_byte at h
  have e : app 1 ([] : (List Int)) [] = some [] := by simp [app]
  cases xs with
  | nil =>
    rw [e] at h; obtain rfl := Option.some.inj h
    exact clone_nil (fun c => G_slices_Clone_byte_byte_A_ok n c _ (by unfold G_slices_Clone_byte_byte_A; rfl)) (fun a c => G_slices_Clone_byte_byte_B_ok n a c _ (by unfold G_slices_Clone_byte_byte_B; rw [e]; rfl))
  | cons y ys => exact G_slices_Clone_byte_byte_C_ok n y ys _ (by unfold G_slices_Clone_byte_byte_C; rw [h]; rfl)
theorem G_slices_Clone_byte_byte_okD (n : Nat) (xs : (List Int)) (r : (List Int)) (h : G_slices_Clone_byte_byte n xs = some r) : Ret Try.prog 23 [.sl (xs.map (eI .u8))] (eL (eI .u8) r) := Ret.of_H (args := [.sl (xs.map (eI .u8))]) (G_slices_Clone_byte_byte_ok n xs r h)
inductive G_disk_Disk_Write_h_C1_R where
  | x0 (v_x32 : Bool) (v_w33 : (List Int)) (v_w34 : (List Int)) (v_w35 : (List S_disk_write))
  | x1 (v_x37 : Bool) (v_b38 : Int) (v_w39 : (List Int)) (v_w40 : (List Int)) (v_w41 : (List S_disk_write))
def G_disk_Disk_Write_h_C1_ex : G_disk_Disk_Write_h_C1_R → Ex
  | .x0 _ _ _ _ => .normal
  | .x1 _ _ _ _ _ => .normal
def G_disk_Disk_Write_h_C1_st (v_n27 : Int) (v_data28 : (List Int)) (v_d26 : S_disk_Disk) : G_disk_Disk_Write_h_C1_R → PS
  | .x0 v_x32 v_w33 v_w34 v_w35 => ⟨[.ref 4 0, .d (.v (.int .i64 v_n27)), .d (.sl (v_data28.map (eI .u8))), dd, dd, dd, dd, dd, dd, dd, dd, dd, dd, dd, dd, dd, dd, dd, dd, .d (.v (.bool v_x32)), dd, dd, dd, dd, dd, dd, dd, dd, dd, dd, dd, dd, dd, dd, dd, dd, dd, dd, dd, dd, dd, dd, dd, dd], [.gh 0 (.ref 4 0), .gh 1 (.srf 5), .gh 2 (.srf 6), .gh 3 (.srf 7), .box [.srf 5, .srf 6, .srf 7, .d (.v (.int .i64 v_d26.ffuse))], .row 5 1 (v_w33.map (eI .u8)), .row 5 1 (v_w34.map (eI .u8)), .row 54 2 (v_w35.map eS_disk_write)]⟩
  | .x1 v_x37 v_b38 v_w39 v_w40 v_w41 => ⟨[.ref 4 0, .d (.v (.int .i64 v_n27)), .d (.sl (v_data28.map (eI .u8))), dd, dd, dd, dd, dd, dd, dd, dd, dd, dd, dd, dd, dd, dd, dd, dd, .d (.v (.bool v_x37)), dd, dd, dd, dd, dd, dd, dd, dd, dd, dd, dd, dd, dd, dd, dd, dd, dd, dd, dd, dd, dd, dd, dd, dd], [.gh 0 (.ref 4 0), .gh 1 (.srf 8), .gh 2 (.srf 9), .gh 3 (.srf 10), .box [.srf 5, .srf 6, .srf 7, .d (.v (.int .i64 v_b38))], .row 5 1 (v_w39.map (eI .u8)), .row 5 1 (v_w40.map (eI .u8)), .row 54 2 (v_w41.map eS_disk_write), .none, .none, .none]⟩
def G_disk_Disk_Write_h_C1_hd (v_n27 : Int) (v_data28 : (List Int)) (v_d26 : S_disk_Disk)  : PS := ⟨[.ref 4 0, .d (.v (.int .i64 v_n27)), .d (.sl (v_data28.map (eI .u8))), dd, dd, dd, dd, dd, dd, dd, dd, dd, dd, dd, dd, dd, dd, dd, dd, dd, dd, dd, dd, dd, dd, dd, dd, dd, dd, dd, dd, dd, dd, dd, dd, dd, dd, dd, dd, dd, dd, dd, dd, dd], [.gh 0 (.ref 4 0), .gh 1 (.srf 5), .gh 2 (.srf 6), .gh 3 (.srf 7), .box [.srf 5, .srf 6, .srf 7, .d (.v (.int .i64 v_d26.ffuse))], .row 5 1 (v_d26.fsafe.map (eI .u8)), .row 5 1 (v_d26.fnow.map (eI .u8)), .row 54 2 (v_d26.fwait.map eS_disk_write)]⟩
def G_disk_Disk_Write_h_C1 (n : Nat) (v_n27 : Int) (v_data28 : (List Int)) (v_d26 : S_disk_Disk) : Option G_disk_Disk_Write_h_C1_R :=
  if v_n27 < 0 then
   some (.x0 true v_d26.fsafe v_d26.fnow v_d26.fwait)
  else
   (G_disk_Disk_Size_h n v_d26).bind fun (v_r36 : (Int × S_disk_Disk)) =>
   if v_n27 ≥ v_r36.1 then
    some (.x1 true v_r36.2.ffuse v_r36.2.fsafe v_r36.2.fnow v_r36.2.fwait)
   else
    some (.x1 ((v_data28.length : Int) != 64) v_r36.2.ffuse v_r36.2.fsafe v_r36.2.fnow v_r36.2.fwait)
theorem G_disk_Disk_Write_h_C1_ok {Fi : Ex → PS → Prop} (hF : KC 44 Fi) (ks : List Fr) (n : Nat) (v_n27 : Int) (v_data28 : (List Int)) (v_d26 : S_disk_Disk)  (o : G_disk_Disk_Write_h_C1_R) (h : G_disk_Disk_Write_h_C1 n v_n27 v_data28 v_d26 = some o) (q : RunE Try.prog 44 Fi ks (G_disk_Disk_Write_h_C1_ex o) (G_disk_Disk_Write_h_C1_st v_n27 v_data28 v_d26 o)) : RunE Try.prog 44 Fi (.s (cL (cL (cR (bodyOf Try.f7)))) :: ks) .normal (G_disk_Disk_Write_h_C1_hd v_n27 v_data28 v_d26) := by
  unfold G_disk_Disk_Write_h_C1 at h
  by_cases h39 : v_n27 < 0
  · rw [if_pos h39] at h
    cases h
    exact pkk_sound TTok mix hF 1 (hs := [.t true, .c, .c, .c, .c, .c, .c]) (ts := []) (s := [0, 1, 2, 3, 4, 5, 6, 7]) (l := [0, 1, 2, 19]) (by kernel_rfl) (by kernel_rfl) (.cons (dt h39) .nil) q
  · rw [if_neg h39] at h
    obtain ⟨v_r36, h40, h⟩ := bind_some h
    by_cases h41 : v_n27 ≥ v_r36.1
    · rw [if_pos h41] at h
      cases h
      exact pkk_sound TTok mix hF 1 (hs := [.t false, .c, .c, .h [4, 5, 6, 7] [] [.box [.srf 4, .srf 5, .srf 6, .d (.v (.int .i64 v_r36.2.ffuse))], .none, .none, .none, .row 5 1 (v_r36.2.fsafe.map (eI .u8)), .row 5 1 (v_r36.2.fnow.map (eI .u8)), .row 54 2 (v_r36.2.fwait.map eS_disk_write)] (.d (.v (.int .i64 v_r36.1))), .c, .t true, .c, .c]) (ts := []) (s := [0, 1, 2, 3, 4, 33, 34, 35, 5, 6, 7]) (l := [0, 1, 2, 19]) (by kernel_rfl) (by kernel_rfl) (.cons (df h39) (.cons (G_disk_Disk_Size_h_ok n v_d26 _ h40) (.cons (dt h41) .nil))) q
    · rw [if_neg h41] at h
      cases h
      exact pkk_sound TTok mix hF 1 (hs := [.t false, .c, .c, .h [4, 5, 6, 7] [] [.box [.srf 4, .srf 5, .srf 6, .d (.v (.int .i64 v_r36.2.ffuse))], .none, .none, .none, .row 5 1 (v_r36.2.fsafe.map (eI .u8)), .row 5 1 (v_r36.2.fnow.map (eI .u8)), .row 54 2 (v_r36.2.fwait.map eS_disk_write)] (.d (.v (.int .i64 v_r36.1))), .c, .t false, .c, .u (.d (.v (.int .i64 (v_data28.length : Int)))), .c]) (ts := []) (s := [0, 1, 2, 3, 4, 33, 34, 35, 5, 6, 7]) (l := [0, 1, 2, 19]) (by kernel_rfl) (by kernel_rfl) (.cons (df h39) (.cons (G_disk_Disk_Size_h_ok n v_d26 _ h40) (.cons (df h41) (.cons (len_ob (f := (eI .u8)) (l := v_data28)) .nil)))) q
/- (*ringhall/disk.Disk).Write -/
def G_disk_Disk_Write_h (n : Nat) (v_d26 : S_disk_Disk) (v_n27 : Int) (v_data28 : (List Int)) : Option (Int × S_disk_Disk) :=
  (G_disk_Disk_Write_h_C1 n v_n27 v_data28 v_d26).bind fun v_o47 => match v_o47 with
  | .x0 v_z48 v_z49 v_z50 v_z51 =>
    if v_z48 = true then
     some (1, (S_disk_Disk.mk v_z49 v_z50 v_z51 v_d26.ffuse))
    else
     (G_disk_Disk_goes_h n (S_disk_Disk.mk v_z49 v_z50 v_z51 v_d26.ffuse)).bind fun (v_r53 : (Bool × S_disk_Disk)) =>
     if v_r53.1 = true then
      (G_slices_Clone_byte_byte n v_data28).bind fun (v_r63 : ((List Int))) =>
      (app 32 v_r53.2.fwait ([(S_disk_write.mk v_n27 v_r63)])).bind fun (v_a64 : (List S_disk_write)) =>
      if ((0 : Int) ≤ (wi .i64 (v_n27 * 64)) ∧ (wi .i64 (v_n27 * 64)) ≤ (v_r53.2.fnow.length : Int)) then
       if v_r53.2.fnow.length ≤ v_r53.2.fnow.length then
        some (0, (S_disk_Disk.mk v_r53.2.fsafe (cpyR v_r53.2.fnow ((wi .i64 (v_n27 * 64)).toNat) v_r53.2.fnow.length v_data28) v_a64 v_r53.2.ffuse))
       else none
      else none
     else
      some (0, v_r53.2)
  | .x1 v_z65 v_z66 v_z67 v_z68 v_z69 =>
    if v_z65 = true then
     some (1, (S_disk_Disk.mk v_z67 v_z68 v_z69 v_z66))
    else
     (G_disk_Disk_goes_h n (S_disk_Disk.mk v_z67 v_z68 v_z69 v_z66)).bind fun (v_r70 : (Bool × S_disk_Disk)) =>
     if v_r70.1 = true then
      (G_slices_Clone_byte_byte n v_data28).bind fun (v_r73 : ((List Int))) =>
      (app 32 v_r70.2.fwait ([(S_disk_write.mk v_n27 v_r73)])).bind fun (v_a74 : (List S_disk_write)) =>
      if ((0 : Int) ≤ (wi .i64 (v_n27 * 64)) ∧ (wi .i64 (v_n27 * 64)) ≤ (v_r70.2.fnow.length : Int)) then
       if v_r70.2.fnow.length ≤ v_r70.2.fnow.length then
        some (0, (S_disk_Disk.mk v_r70.2.fsafe (cpyR v_r70.2.fnow ((wi .i64 (v_n27 * 64)).toNat) v_r70.2.fnow.length v_data28) v_a74 v_r70.2.ffuse))
       else none
      else none
     else
      some (0, v_r70.2)
theorem G_disk_Disk_Write_h_ok (n : Nat) (v_d26 : S_disk_Disk) (v_n27 : Int) (v_data28 : (List Int)) (r : Int × S_disk_Disk) (h : G_disk_Disk_Write_h n v_d26 v_n27 v_data28 = some r) : RetH Try.prog 7 [.ref 0 0, .d ((eI .i64) v_n27), .d ((eL (eI .u8)) v_data28)] [.box [.srf 1, .srf 2, .srf 3, .d (.v (.int .i64 v_d26.ffuse))], .row 5 1 (v_d26.fsafe.map (eI .u8)), .row 5 1 (v_d26.fnow.map (eI .u8)), .row 54 2 (v_d26.fwait.map eS_disk_write)] (.d ((eI .i64) r.1)) [.box [.srf 4, .srf 5, .srf 6, .d (.v (.int .i64 r.2.ffuse))], .none, .none, .none, .row 5 1 (r.2.fsafe.map (eI .u8)), .row 5 1 (r.2.fnow.map (eI .u8)), .row 54 2 (r.2.fwait.map eS_disk_write)] := by
  refine retH_run (n := 44) (fn := Try.f7) (c := bodyOf Try.f7) (by kernel_rfl) (by kernel_rfl) (by kernel_rfl) (by kernel_rfl) ?_
  have hF : KC 44 (FinH Try.prog Try.f7 [.box [.srf 1, .srf 2, .srf 3, .d (.v (.int .i64 v_d26.ffuse))], .row 5 1 (v_d26.fsafe.map (eI .u8)), .row 5 1 (v_d26.fnow.map (eI .u8)), .row 54 2 (v_d26.fwait.map eS_disk_write)] (.d ((eI .i64) r.1)) [.box [.srf 4, .srf 5, .srf 6, .d (.v (.int .i64 r.2.ffuse))], .none, .none, .none, .row 5 1 (r.2.fsafe.map (eI .u8)), .row 5 1 (r.2.fnow.map (eI .u8)), .row 54 2 (r.2.fwait.map eS_disk_write)]) := FinH.kc' (by kernel_rfl)
  unfold G_disk_Disk_Write_h at h
  obtain ⟨v_o47, h42, h⟩ := bind_some h
  refine pkk_sound TTok mix hF 4 (hs := []) (ts := []) (s := [4, 5, 6, 7, 0, 1, 2, 3]) (l := [0, 1, 2]) (by kernel_rfl) (by kernel_rfl) .nil (G_disk_Disk_Write_h_C1_ok hF (.s (cR (cL (cR (bodyOf Try.f7)))) :: .s (cR (cR (bodyOf Try.f7))) :: []) n v_n27 v_data28 v_d26 _ h42 ?_)
  cases v_o47 with
  | x0 v_z48 v_z49 v_z50 v_z51 =>
    try dsimp only at h
    by_cases h43 : v_z48 = true
    · rw [if_pos h43] at h
      obtain rfl := Option.some.inj h
      exact pendH_sound TTok mix 8 (hs := [.t true, .dl 4, .mv 5, .mv 6, .mv 7]) [4, 5, 6, 7, 13, 14, 15] (by kernel_rfl) (by kernel_rfl) (by kernel_rfl) (.cons h43 .nil)
    · rw [if_neg h43] at h
      obtain ⟨v_r53, h47, h⟩ := bind_some h
      by_cases h55 : v_r53.1 = true
      · rw [if_pos h55] at h
        obtain ⟨v_r63, h56, h⟩ := bind_some h
        obtain ⟨v_a64, h57, h⟩ := bind_some h
        by_cases h58 : ((0 : Int) ≤ (wi .i64 (v_n27 * 64)) ∧ (wi .i64 (v_n27 * 64)) ≤ (v_r53.2.fnow.length : Int))
        · rw [if_pos h58] at h
          by_cases h59 : v_r53.2.fnow.length ≤ v_r53.2.fnow.length
          · rw [if_pos h59] at h
            obtain rfl := Option.some.inj h
            exact pendH_sound TTok mix 12 (hs := [.t false, .h [4, 5, 6, 7] [] [.box [.srf 4, .srf 5, .srf 6, .d (.v (.int .i64 v_r53.2.ffuse))], .none, .none, .none, .row 5 1 (v_r53.2.fsafe.map (eI .u8)), .row 5 1 (v_r53.2.fnow.map (eI .u8)), .row 54 2 (v_r53.2.fwait.map eS_disk_write)] (.d (.v (.bool v_r53.1))), .t true, .c, .r ((eL (eI .u8)) v_r63), .bd, .w (v_a64.map eS_disk_write), .c, .c, .e 118 [14] (.ssl 14 ((wi .i64 (v_n27 * 64)).toNat) v_r53.2.fnow.length 1) [], .e 128 [14] (.d (.v (.int .i64 ((Nat.min v_data28.length (v_r53.2.fnow.length - (wi .i64 (v_n27 * 64)).toNat) : Nat) : Int)))) [(14, .row 5 1 ((cpyR v_r53.2.fnow ((wi .i64 (v_n27 * 64)).toNat) v_r53.2.fnow.length v_data28).map (eI .u8)))]]) [4, 5, 6, 7, 13, 14, 68] (by kernel_rfl) (by kernel_rfl) (by kernel_rfl) (.cons (vf h43) (.cons (G_disk_Disk_goes_h_ok n (S_disk_Disk.mk v_z49 v_z50 v_z51 v_d26.ffuse) _ h47) (.cons h55 (.cons (G_slices_Clone_byte_byte_okD n v_data28 _ h56) (.cons (app_ob (f := eS_disk_write) (s := 2) h57 (fun _ => rfl)).1 (.cons (app_ob (f := eS_disk_write) (s := 2) h57 (fun _ => rfl)).2.1 (.cons (app_ob (f := eS_disk_write) (s := 2) h57 (fun _ => rfl)).2.2.1 (.cons (app_ob (f := eS_disk_write) (s := 2) h57 (fun _ => rfl)).2.2.2 (.cons (show 2 + 1 ≤ 4 by decide) (.cons (xs10 (P := Try.prog) (T := TT) (f := (eI .u8)) (t := 30) (e := 5) (s := 1) (l := 14) (L := v_r53.2.fnow) (x := (.tmp 38)) (lo := (.tmp 40)) (a := (wi .i64 (v_n27 * 64))) (ka := .i64) (by kernel_rfl) h58) (.cons (xcpD (P := Try.prog) (T := TT) (f := (eI .u8)) (t := 30) (t' := 30) (e := 5) (s := 1) (l := 14) (x := (.tmp 41)) (y := (.tmp 42)) (ti := ⟨1, 1, .int .u8, [.i .u8]⟩) (L := v_r53.2.fnow) (Y := v_data28) (i := (wi .i64 (v_n27 * 64)).toNat) (j := v_r53.2.fnow.length) (by kernel_rfl) (by kernel_rfl) h59 (fun _ => rfl)) .nil)))))))))))
          · rw [if_neg h59] at h; cases h
        · rw [if_neg h58] at h; cases h
      · rw [if_neg h55] at h
        obtain rfl := Option.some.inj h
        exact pendH_sound TTok mix 10 (hs := [.t false, .h [4, 5, 6, 7] [] [.box [.srf 4, .srf 5, .srf 6, .d (.v (.int .i64 v_r53.2.ffuse))], .none, .none, .none, .row 5 1 (v_r53.2.fsafe.map (eI .u8)), .row 5 1 (v_r53.2.fnow.map (eI .u8)), .row 54 2 (v_r53.2.fwait.map eS_disk_write)] (.d (.v (.bool v_r53.1))), .t false]) [4, 5, 6, 7, 13, 14, 15] (by kernel_rfl) (by kernel_rfl) (by kernel_rfl) (.cons (vf h43) (.cons (G_disk_Disk_goes_h_ok n (S_disk_Disk.mk v_z49 v_z50 v_z51 v_d26.ffuse) _ h47) (.cons (vf h55) .nil)))
  | x1 v_z65 v_z66 v_z67 v_z68 v_z69 =>
    try dsimp only at h
    by_cases h60 : v_z65 = true
    · rw [if_pos h60] at h
      obtain rfl := Option.some.inj h
      exact pendH_sound TTok mix 5 (hs := [.t true]) [4, 8, 9, 10, 5, 6, 7] (by kernel_rfl) (by kernel_rfl) (by kernel_rfl) (.cons h60 .nil)
    · rw [if_neg h60] at h
      obtain ⟨v_r70, h61, h⟩ := bind_some h
      by_cases h67 : v_r70.1 = true
      · rw [if_pos h67] at h
        obtain ⟨v_r73, h68, h⟩ := bind_some h
        obtain ⟨v_a74, h69, h⟩ := bind_some h
        by_cases h70 : ((0 : Int) ≤ (wi .i64 (v_n27 * 64)) ∧ (wi .i64 (v_n27 * 64)) ≤ (v_r70.2.fnow.length : Int))
        · rw [if_pos h70] at h
          by_cases h71 : v_r70.2.fnow.length ≤ v_r70.2.fnow.length
          · rw [if_pos h71] at h
            obtain rfl := Option.some.inj h
            exact pendH_sound TTok mix 12 (hs := [.t false, .h [4, 5, 6, 7] [] [.box [.srf 4, .srf 5, .srf 6, .d (.v (.int .i64 v_r70.2.ffuse))], .none, .none, .none, .row 5 1 (v_r70.2.fsafe.map (eI .u8)), .row 5 1 (v_r70.2.fnow.map (eI .u8)), .row 54 2 (v_r70.2.fwait.map eS_disk_write)] (.d (.v (.bool v_r70.1))), .t true, .c, .r ((eL (eI .u8)) v_r73), .bd, .w (v_a74.map eS_disk_write), .c, .c, .e 121 [17] (.ssl 17 ((wi .i64 (v_n27 * 64)).toNat) v_r70.2.fnow.length 1) [], .e 131 [17] (.d (.v (.int .i64 ((Nat.min v_data28.length (v_r70.2.fnow.length - (wi .i64 (v_n27 * 64)).toNat) : Nat) : Int)))) [(17, .row 5 1 ((cpyR v_r70.2.fnow ((wi .i64 (v_n27 * 64)).toNat) v_r70.2.fnow.length v_data28).map (eI .u8)))]]) [4, 8, 9, 10, 16, 17, 71] (by kernel_rfl) (by kernel_rfl) (by kernel_rfl) (.cons (vf h60) (.cons (G_disk_Disk_goes_h_ok n (S_disk_Disk.mk v_z67 v_z68 v_z69 v_z66) _ h61) (.cons h67 (.cons (G_slices_Clone_byte_byte_okD n v_data28 _ h68) (.cons (app_ob (f := eS_disk_write) (s := 2) h69 (fun _ => rfl)).1 (.cons (app_ob (f := eS_disk_write) (s := 2) h69 (fun _ => rfl)).2.1 (.cons (app_ob (f := eS_disk_write) (s := 2) h69 (fun _ => rfl)).2.2.1 (.cons (app_ob (f := eS_disk_write) (s := 2) h69 (fun _ => rfl)).2.2.2 (.cons (show 2 + 1 ≤ 4 by decide) (.cons (xs10 (P := Try.prog) (T := TT) (f := (eI .u8)) (t := 30) (e := 5) (s := 1) (l := 17) (L := v_r70.2.fnow) (x := (.tmp 38)) (lo := (.tmp 40)) (a := (wi .i64 (v_n27 * 64))) (ka := .i64) (by kernel_rfl) h70) (.cons (xcpD (P := Try.prog) (T := TT) (f := (eI .u8)) (t := 30) (t' := 30) (e := 5) (s := 1) (l := 17) (x := (.tmp 41)) (y := (.tmp 42)) (ti := ⟨1, 1, .int .u8, [.i .u8]⟩) (L := v_r70.2.fnow) (Y := v_data28) (i := (wi .i64 (v_n27 * 64)).toNat) (j := v_r70.2.fnow.length) (by kernel_rfl) (by kernel_rfl) h71 (fun _ => rfl)) .nil)))))))))))
          · rw [if_neg h71] at h; cases h
        · rw [if_neg h70] at h; cases h
      · rw [if_neg h67] at h
        obtain rfl := Option.some.inj h
        exact pendH_sound TTok mix 10 (hs := [.t false, .h [4, 5, 6, 7] [] [.box [.srf 4, .srf 5, .srf 6, .d (.v (.int .i64 v_r70.2.ffuse))], .none, .none, .none, .row 5 1 (v_r70.2.fsafe.map (eI .u8)), .row 5 1 (v_r70.2.fnow.map (eI .u8)), .row 54 2 (v_r70.2.fwait.map eS_disk_write)] (.d (.v (.bool v_r70.1))), .t false]) [4, 8, 9, 10, 16, 17, 18] (by kernel_rfl) (by kernel_rfl) (by kernel_rfl) (.cons (vf h60) (.cons (G_disk_Disk_goes_h_ok n (S_disk_Disk.mk v_z67 v_z68 v_z69 v_z66) _ h61) (.cons (vf h67) .nil)))
/- (*ringhall/ringref3.Disk).goes -/
def G_ringref3_Disk_goes_h (n : Nat) (v_d89 : S_ringref3_Disk) : Option (Bool × S_ringref3_Disk) :=
  if v_d89.fFuse > 0 then
   some (true, (S_ringref3_Disk.mk v_d89.fSectors v_d89.fMark (wi .i64 (v_d89.fFuse - 1)) v_d89.fAll))
  else
   some ((decide (v_d89.fFuse < 0)), v_d89)
theorem G_ringref3_Disk_goes_h_ok (n : Nat) (v_d89 : S_ringref3_Disk) (r : Bool × S_ringref3_Disk) (h : G_ringref3_Disk_goes_h n v_d89 = some r) : RetH Try.prog 24 [.ref 0 0] [.box [.d (.v (.int .i64 v_d89.fSectors)), .d (.v (.int .i64 v_d89.fMark)), .d (.v (.int .i64 v_d89.fFuse)), .srf 1], .cu (rowF 56 2 (v_d89.fAll.map eS_ringref3_Put)) []] (.d (eB r.1)) [.box [.d (.v (.int .i64 r.2.fSectors)), .d (.v (.int .i64 r.2.fMark)), .d (.v (.int .i64 r.2.fFuse)), .srf 2], .none, .cu (rowF 56 2 (r.2.fAll.map eS_ringref3_Put)) []] := by
  refine retH_run (n := 20) (fn := Try.f24) (c := bodyOf Try.f24) (by kernel_rfl) (by kernel_rfl) (by kernel_rfl) (by kernel_rfl) ?_
  have hF : KC 20 (FinH Try.prog Try.f24 [.box [.d (.v (.int .i64 v_d89.fSectors)), .d (.v (.int .i64 v_d89.fMark)), .d (.v (.int .i64 v_d89.fFuse)), .srf 1], .cu (rowF 56 2 (v_d89.fAll.map eS_ringref3_Put)) []] (.d (eB r.1)) [.box [.d (.v (.int .i64 r.2.fSectors)), .d (.v (.int .i64 r.2.fMark)), .d (.v (.int .i64 r.2.fFuse)), .srf 2], .none, .cu (rowF 56 2 (r.2.fAll.map eS_ringref3_Put)) []]) := FinH.kc' (by kernel_rfl)
  unfold G_ringref3_Disk_goes_h at h
  by_cases h80 : v_d89.fFuse > 0
  · rw [if_pos h80] at h
    obtain rfl := Option.some.inj h
    exact pendH_sound TTok mix 13 (hs := [.c, .t true, .c, .c, .dl 4, .sx [1] (fmvS 1 56 2 (v_d89.fAll.map eS_ringref3_Put))]) [0, 1, 79] (by kernel_rfl) (by kernel_rfl) (by kernel_rfl) (.cons (dt h80) (.cons (show 2 + 1 ≤ 4 by decide) (.cons (fmv (l := 1) (e := 56) (s := 2) (xs := (v_d89.fAll.map eS_ringref3_Put))) .nil)))
  · rw [if_neg h80] at h
    obtain rfl := Option.some.inj h
    exact pendH_sound TTok mix 11 (hs := [.c, .t false, .c, .dl 1, .sx [1] (fmvS 1 56 2 (v_d89.fAll.map eS_ringref3_Put))]) [0, 1, 64] (by kernel_rfl) (by kernel_rfl) (by kernel_rfl) (.cons (df h80) (.cons (fmv (l := 1) (e := 56) (s := 2) (xs := (v_d89.fAll.map eS_ringref3_Put))) .nil))
inductive G_ringref3_Disk_Write_h_C1_R where
  | x0 (v_x80 : Bool) (v_w81 : (List S_ringref3_Put))
def G_ringref3_Disk_Write_h_C1_ex : G_ringref3_Disk_Write_h_C1_R → Ex
  | .x0 _ _ => .normal
def G_ringref3_Disk_Write_h_C1_st (v_n77 : Int) (v_s78 : ByteArray) (v_d76 : S_ringref3_Disk) : G_ringref3_Disk_Write_h_C1_R → PS
  | .x0 v_x80 v_w81 => ⟨[.ref 2 0, .d (.v (.int .i64 v_n77)), .d (.v (.string v_s78)), dd, dd, dd, dd, dd, dd, dd, dd, dd, dd, dd, dd, dd, dd, dd, dd, dd, dd, .d (.v (.bool v_x80)), dd, dd, dd, dd, dd, dd, dd, dd, dd, dd, dd, dd, dd, dd], [.gh 0 (.ref 2 0), .gh 1 (.srf 3), .box [.d (.v (.int .i64 v_d76.fSectors)), .d (.v (.int .i64 v_d76.fMark)), .d (.v (.int .i64 v_d76.fFuse)), .srf 3], .cu (rowF 56 2 (v_w81.map eS_ringref3_Put)) []]⟩
def G_ringref3_Disk_Write_h_C1_hd (v_n77 : Int) (v_s78 : ByteArray) (v_d76 : S_ringref3_Disk)  : PS := ⟨[.ref 2 0, .d (.v (.int .i64 v_n77)), .d (.v (.string v_s78)), dd, dd, dd, dd, dd, dd, dd, dd, dd, dd, dd, dd, dd, dd, dd, dd, dd, dd, dd, dd, dd, dd, dd, dd, dd, dd, dd, dd, dd, dd, dd, dd, dd], [.gh 0 (.ref 2 0), .gh 1 (.srf 3), .box [.d (.v (.int .i64 v_d76.fSectors)), .d (.v (.int .i64 v_d76.fMark)), .d (.v (.int .i64 v_d76.fFuse)), .srf 3], .cu (rowF 56 2 (v_d76.fAll.map eS_ringref3_Put)) []]⟩
def G_ringref3_Disk_Write_h_C1 (n : Nat) (v_n77 : Int) (v_s78 : ByteArray) (v_d76 : S_ringref3_Disk) : Option G_ringref3_Disk_Write_h_C1_R :=
  if v_n77 < 0 then
   some (.x0 true v_d76.fAll)
  else
   if v_n77 ≥ v_d76.fSectors then
    some (.x0 true v_d76.fAll)
   else
    some (.x0 ((v_s78.size : Int) != 64) v_d76.fAll)
theorem G_ringref3_Disk_Write_h_C1_ok {Fi : Ex → PS → Prop} (hF : KC 36 Fi) (ks : List Fr) (n : Nat) (v_n77 : Int) (v_s78 : ByteArray) (v_d76 : S_ringref3_Disk)  (o : G_ringref3_Disk_Write_h_C1_R) (h : G_ringref3_Disk_Write_h_C1 n v_n77 v_s78 v_d76 = some o) (q : RunE Try.prog 36 Fi ks (G_ringref3_Disk_Write_h_C1_ex o) (G_ringref3_Disk_Write_h_C1_st v_n77 v_s78 v_d76 o)) : RunE Try.prog 36 Fi (.s (cL (cL (cR (bodyOf Try.f8)))) :: ks) .normal (G_ringref3_Disk_Write_h_C1_hd v_n77 v_s78 v_d76) := by
  unfold G_ringref3_Disk_Write_h_C1 at h
  by_cases h75 : v_n77 < 0
  · rw [if_pos h75] at h
    cases h
    exact pkk_sound TTok mix hF 1 (hs := [.t true, .c, .c, .c, .c, .c, .c, .c, .c]) (ts := []) (s := [0, 1, 2, 3]) (l := [0, 1, 2, 21]) (by kernel_rfl) (by kernel_rfl) (.cons (dt h75) .nil) q
  · rw [if_neg h75] at h
    by_cases h76 : v_n77 ≥ v_d76.fSectors
    · rw [if_pos h76] at h
      cases h
      exact pkk_sound TTok mix hF 1 (hs := [.t false, .c, .c, .c, .c, .c, .c, .t true, .c, .c]) (ts := []) (s := [0, 1, 2, 3]) (l := [0, 1, 2, 21]) (by kernel_rfl) (by kernel_rfl) (.cons (df h75) (.cons (dt h76) .nil)) q
    · rw [if_neg h76] at h
      cases h
      exact pkk_sound TTok mix hF 1 (hs := [.t false, .c, .c, .c, .c, .c, .c, .t false, .c, .c]) (ts := []) (s := [0, 1, 2, 3]) (l := [0, 1, 2, 21]) (by kernel_rfl) (by kernel_rfl) (.cons (df h75) (.cons (df h76) .nil)) q
/- (*ringhall/ringref3.Disk).Write -/
def G_ringref3_Disk_Write_h (n : Nat) (v_d76 : S_ringref3_Disk) (v_n77 : Int) (v_s78 : ByteArray) : Option (Int × S_ringref3_Disk) :=
  (G_ringref3_Disk_Write_h_C1 n v_n77 v_s78 v_d76).bind fun v_o86 => match v_o86 with
  | .x0 v_z87 v_z88 =>
    if v_z87 = true then
     some (1, (S_ringref3_Disk.mk v_d76.fSectors v_d76.fMark v_d76.fFuse v_z88))
    else
     (G_ringref3_Disk_goes_h n (S_ringref3_Disk.mk v_d76.fSectors v_d76.fMark v_d76.fFuse v_z88)).bind fun (v_r90 : (Bool × S_ringref3_Disk)) =>
     if v_r90.1 = true then
      (app 24 v_r90.2.fAll ([(S_ringref3_Put.mk v_n77 v_s78)])).bind fun (v_a92 : (List S_ringref3_Put)) =>
      some (0, (S_ringref3_Disk.mk v_r90.2.fSectors v_r90.2.fMark v_r90.2.fFuse v_a92))
     else
      some (0, v_r90.2)
theorem G_ringref3_Disk_Write_h_ok (n : Nat) (v_d76 : S_ringref3_Disk) (v_n77 : Int) (v_s78 : ByteArray) (r : Int × S_ringref3_Disk) (h : G_ringref3_Disk_Write_h n v_d76 v_n77 v_s78 = some r) : RetH Try.prog 8 [.ref 0 0, .d ((eI .i64) v_n77), .d (eS v_s78)] [.box [.d (.v (.int .i64 v_d76.fSectors)), .d (.v (.int .i64 v_d76.fMark)), .d (.v (.int .i64 v_d76.fFuse)), .srf 1], .cu (rowF 56 2 (v_d76.fAll.map eS_ringref3_Put)) []] (.d ((eI .i64) r.1)) [.box [.d (.v (.int .i64 r.2.fSectors)), .d (.v (.int .i64 r.2.fMark)), .d (.v (.int .i64 r.2.fFuse)), .srf 2], .none, .cu (rowF 56 2 (r.2.fAll.map eS_ringref3_Put)) []] := by
  refine retH_run (n := 36) (fn := Try.f8) (c := bodyOf Try.f8) (by kernel_rfl) (by kernel_rfl) (by kernel_rfl) (by kernel_rfl) ?_
  have hF : KC 36 (FinH Try.prog Try.f8 [.box [.d (.v (.int .i64 v_d76.fSectors)), .d (.v (.int .i64 v_d76.fMark)), .d (.v (.int .i64 v_d76.fFuse)), .srf 1], .cu (rowF 56 2 (v_d76.fAll.map eS_ringref3_Put)) []] (.d ((eI .i64) r.1)) [.box [.d (.v (.int .i64 r.2.fSectors)), .d (.v (.int .i64 r.2.fMark)), .d (.v (.int .i64 r.2.fFuse)), .srf 2], .none, .cu (rowF 56 2 (r.2.fAll.map eS_ringref3_Put)) []]) := FinH.kc' (by kernel_rfl)
  unfold G_ringref3_Disk_Write_h at h
  obtain ⟨v_o86, h77, h⟩ := bind_some h
  refine pkk_sound TTok mix hF 4 (hs := []) (ts := []) (s := [2, 3, 0, 1]) (l := [0, 1, 2]) (by kernel_rfl) (by kernel_rfl) .nil (G_ringref3_Disk_Write_h_C1_ok hF (.s (cR (cL (cR (bodyOf Try.f8)))) :: .s (cR (cR (bodyOf Try.f8))) :: []) n v_n77 v_s78 v_d76 _ h77 ?_)
  cases v_o86 with
  | x0 v_z87 v_z88 =>
    try dsimp only at h
    by_cases h78 : v_z87 = true
    · rw [if_pos h78] at h
      obtain rfl := Option.some.inj h
      exact pendH_sound TTok mix 6 (hs := [.t true, .dl 4, .sx [3] (fmvS 3 56 2 (v_z88.map eS_ringref3_Put))]) [2, 3, 9] (by kernel_rfl) (by kernel_rfl) (by kernel_rfl) (.cons h78 (.cons (fmv (l := 3) (e := 56) (s := 2) (xs := (v_z88.map eS_ringref3_Put))) .nil))
    · rw [if_neg h78] at h
      obtain ⟨v_r90, h81, h⟩ := bind_some h
      by_cases h84 : v_r90.1 = true
      · rw [if_pos h84] at h
        obtain ⟨v_a92, h85, h⟩ := bind_some h
        obtain rfl := Option.some.inj h
        exact pendH_sound TTok mix 11 (hs := [.t false, .h [2, 3] [] [.box [.d (.v (.int .i64 v_r90.2.fSectors)), .d (.v (.int .i64 v_r90.2.fMark)), .d (.v (.int .i64 v_r90.2.fFuse)), .srf 2], .none, .cu (rowF 56 2 (v_r90.2.fAll.map eS_ringref3_Put)) []] (.d (.v (.bool v_r90.1))), .t true, .c, .bd, .e 59 [9, 59] (.srf 59) [(9, .none), (59, .row 56 2 (v_a92.map eS_ringref3_Put))], .c, .dl 3, .sx [59] (toF 59 56 2 (v_a92.map eS_ringref3_Put))]) [2, 3, 59] (by kernel_rfl) (by kernel_rfl) (by kernel_rfl) (.cons (vf h78) (.cons (G_ringref3_Disk_goes_h_ok n (S_ringref3_Disk.mk v_d76.fSectors v_d76.fMark v_d76.fFuse v_z88) _ h81) (.cons h84 (.cons (fapp (P := Try.prog) (T := TT) (t := 39) (e := 56) (s := 2) (nl := 59) (ti := ⟨2, 24, .st [(0, 3), (1, 9)], [.i .i64, .s]⟩) (zs := (v_a92.map eS_ringref3_Put)) (x := (.tmp 28)) (y := (.tmp 32)) (l := 9) (xs := (v_r90.2.fAll.map eS_ringref3_Put)) (ys := (([(S_ringref3_Put.mk v_n77 v_s78)]).map eS_ringref3_Put)) (app_ob (f := eS_ringref3_Put) (s := 2) h85 (fun _ => rfl)).2.2.2 (by kernel_rfl) (by kernel_rfl) (by kernel_rfl) (by decide) (app_ob (f := eS_ringref3_Put) (s := 2) h85 (fun _ => rfl)).1 (by simp) (app_ob (f := eS_ringref3_Put) (s := 2) h85 (fun _ => rfl)).2.1 (app_ob (f := eS_ringref3_Put) (s := 2) h85 (fun _ => rfl)).2.2.1 (by decide)) (.cons (show 3 + 1 ≤ 4 by decide) (.cons (row_toF (l := 59) (e := 56) (s := 2) (xs := (v_a92.map eS_ringref3_Put))) .nil))))))
      · rw [if_neg h84] at h
        obtain rfl := Option.some.inj h
        exact pendH_sound TTok mix 10 (hs := [.t false, .h [2, 3] [] [.box [.d (.v (.int .i64 v_r90.2.fSectors)), .d (.v (.int .i64 v_r90.2.fMark)), .d (.v (.int .i64 v_r90.2.fFuse)), .srf 2], .none, .cu (rowF 56 2 (v_r90.2.fAll.map eS_ringref3_Put)) []] (.d (.v (.bool v_r90.1))), .t false]) [2, 3, 9] (by kernel_rfl) (by kernel_rfl) (by kernel_rfl) (.cons (vf h78) (.cons (G_ringref3_Disk_goes_h_ok n (S_ringref3_Disk.mk v_d76.fSectors v_d76.fMark v_d76.fFuse v_z88) _ h81) (.cons (vf h84) .nil)))
/- (*ringhall/disk.Disk).Flush -/
def G_disk_Disk_Flush_h (n : Nat) (v_d94 : S_disk_Disk) : Option (S_disk_Disk) :=
  (G_disk_Disk_goes_h n v_d94).bind fun (v_r95 : (Bool × S_disk_Disk)) =>
  if v_r95.1 = true then
   some (S_disk_Disk.mk (cpyR v_r95.2.fsafe 0 v_r95.2.fsafe.length v_r95.2.fnow) v_r95.2.fnow ([] : List S_disk_write) v_r95.2.ffuse)
  else
   some v_r95.2
theorem G_disk_Disk_Flush_h_ok (n : Nat) (v_d94 : S_disk_Disk) (r : S_disk_Disk) (h : G_disk_Disk_Flush_h n v_d94 = some r) : RetH Try.prog 9 [.ref 0 0] [.box [.srf 1, .srf 2, .srf 3, .d (.v (.int .i64 v_d94.ffuse))], .row 5 1 (v_d94.fsafe.map (eI .u8)), .row 5 1 (v_d94.fnow.map (eI .u8)), .row 54 2 (v_d94.fwait.map eS_disk_write)] (.tup []) [.box [.srf 4, .srf 5, .srf 6, .d (.v (.int .i64 r.ffuse))], .none, .none, .none, .row 5 1 (r.fsafe.map (eI .u8)), .row 5 1 (r.fnow.map (eI .u8)), .row 54 2 (r.fwait.map eS_disk_write)] := by
  refine retH_run (n := 16) (fn := Try.f9) (c := bodyOf Try.f9) (by kernel_rfl) (by kernel_rfl) (by kernel_rfl) (by kernel_rfl) ?_
  have hF : KC 16 (FinH Try.prog Try.f9 [.box [.srf 1, .srf 2, .srf 3, .d (.v (.int .i64 v_d94.ffuse))], .row 5 1 (v_d94.fsafe.map (eI .u8)), .row 5 1 (v_d94.fnow.map (eI .u8)), .row 54 2 (v_d94.fwait.map eS_disk_write)] (.tup []) [.box [.srf 4, .srf 5, .srf 6, .d (.v (.int .i64 r.ffuse))], .none, .none, .none, .row 5 1 (r.fsafe.map (eI .u8)), .row 5 1 (r.fnow.map (eI .u8)), .row 54 2 (r.fwait.map eS_disk_write)]) := FinH.kc' (by kernel_rfl)
  unfold G_disk_Disk_Flush_h at h
  obtain ⟨v_r95, h89, h⟩ := bind_some h
  by_cases h90 : v_r95.1 = true
  · rw [if_pos h90] at h
    obtain rfl := Option.some.inj h
    exact pendH_sound TTok mix 7 (hs := [.h [0, 1, 2, 3] [] [.box [.srf 4, .srf 5, .srf 6, .d (.v (.int .i64 v_r95.2.ffuse))], .none, .none, .none, .row 5 1 (v_r95.2.fsafe.map (eI .u8)), .row 5 1 (v_r95.2.fnow.map (eI .u8)), .row 54 2 (v_r95.2.fwait.map eS_disk_write)] (.d (.v (.bool v_r95.1))), .t true, .c, .c, .e 58 [13, 14] (.d (.v (.int .i64 ((Nat.min v_r95.2.fnow.length (v_r95.2.fsafe.length - 0) : Nat) : Int)))) [(13, .row 5 1 ((cpyR v_r95.2.fsafe 0 v_r95.2.fsafe.length v_r95.2.fnow).map (eI .u8)))], .c, .tb 0 2 54 2]) [0, 1, 2, 3, 13, 14, 83] (by kernel_rfl) (by kernel_rfl) (by kernel_rfl) (.cons (G_disk_Disk_goes_h_ok n v_d94 _ h89) (.cons h90 (.cons (xcpR0 (P := Try.prog) (T := TT) (f := (eI .u8)) (t := 30) (t' := 30) (e := 5) (s := 1) (l := 13) (x := (.tmp 7)) (y := (.tmp 11)) (ti := ⟨1, 1, .int .u8, [.i .u8]⟩) (L := v_r95.2.fsafe) (Y := v_r95.2.fnow) (l' := 14) (by kernel_rfl) (by kernel_rfl) (fun _ => rfl)) (.cons (show 2 + 1 ≤ 4 by decide) .nil))))
  · rw [if_neg h90] at h
    obtain rfl := Option.some.inj h
    exact pendH_sound TTok mix 4 (hs := [.h [0, 1, 2, 3] [] [.box [.srf 4, .srf 5, .srf 6, .d (.v (.int .i64 v_r95.2.ffuse))], .none, .none, .none, .row 5 1 (v_r95.2.fsafe.map (eI .u8)), .row 5 1 (v_r95.2.fnow.map (eI .u8)), .row 54 2 (v_r95.2.fwait.map eS_disk_write)] (.d (.v (.bool v_r95.1))), .t false]) [0, 1, 2, 3, 13, 14, 15] (by kernel_rfl) (by kernel_rfl) (by kernel_rfl) (.cons (G_disk_Disk_goes_h_ok n v_d94 _ h89) (.cons (vf h90) .nil))
/- (*ringhall/ringref3.Disk).Flush -/
def G_ringref3_Disk_Flush_h (n : Nat) (v_d97 : S_ringref3_Disk) : Option (S_ringref3_Disk) :=
  (G_ringref3_Disk_goes_h n v_d97).bind fun (v_r98 : (Bool × S_ringref3_Disk)) =>
  if v_r98.1 = true then
   some (S_ringref3_Disk.mk v_r98.2.fSectors (v_r98.2.fAll.length : Int) v_r98.2.fFuse v_r98.2.fAll)
  else
   some v_r98.2
theorem G_ringref3_Disk_Flush_h_ok (n : Nat) (v_d97 : S_ringref3_Disk) (r : S_ringref3_Disk) (h : G_ringref3_Disk_Flush_h n v_d97 = some r) : RetH Try.prog 10 [.ref 0 0] [.box [.d (.v (.int .i64 v_d97.fSectors)), .d (.v (.int .i64 v_d97.fMark)), .d (.v (.int .i64 v_d97.fFuse)), .srf 1], .cu (rowF 56 2 (v_d97.fAll.map eS_ringref3_Put)) []] (.tup []) [.box [.d (.v (.int .i64 r.fSectors)), .d (.v (.int .i64 r.fMark)), .d (.v (.int .i64 r.fFuse)), .srf 2], .none, .cu (rowF 56 2 (r.fAll.map eS_ringref3_Put)) []] := by
  refine retH_run (n := 12) (fn := Try.f10) (c := bodyOf Try.f10) (by kernel_rfl) (by kernel_rfl) (by kernel_rfl) (by kernel_rfl) ?_
  have hF : KC 12 (FinH Try.prog Try.f10 [.box [.d (.v (.int .i64 v_d97.fSectors)), .d (.v (.int .i64 v_d97.fMark)), .d (.v (.int .i64 v_d97.fFuse)), .srf 1], .cu (rowF 56 2 (v_d97.fAll.map eS_ringref3_Put)) []] (.tup []) [.box [.d (.v (.int .i64 r.fSectors)), .d (.v (.int .i64 r.fMark)), .d (.v (.int .i64 r.fFuse)), .srf 2], .none, .cu (rowF 56 2 (r.fAll.map eS_ringref3_Put)) []]) := FinH.kc' (by kernel_rfl)
  unfold G_ringref3_Disk_Flush_h at h
  obtain ⟨v_r98, h92, h⟩ := bind_some h
  by_cases h93 : v_r98.1 = true
  · rw [if_pos h93] at h
    obtain rfl := Option.some.inj h
    exact pendH_sound TTok mix 4 (hs := [.h [0, 1] [] [.box [.d (.v (.int .i64 v_r98.2.fSectors)), .d (.v (.int .i64 v_r98.2.fMark)), .d (.v (.int .i64 v_r98.2.fFuse)), .srf 2], .none, .cu (rowF 56 2 (v_r98.2.fAll.map eS_ringref3_Put)) []] (.d (.v (.bool v_r98.1))), .t true, .c, .e 39 [9] (.d (.v (.int .i64 (v_r98.2.fAll.length : Int)))) [], .c]) [0, 1, 9] (by kernel_rfl) (by kernel_rfl) (by kernel_rfl) (.cons (G_ringref3_Disk_goes_h_ok n v_d97 _ h92) (.cons h93 (.cons (lmap' (flen (P := Try.prog) (T := TT) (t := 39) (l := 9) (e := 56) (s := 2) (xs := (v_r98.2.fAll.map eS_ringref3_Put)) (x := (.tmp 8)) (by kernel_rfl))) (.cons (show 1 + 1 ≤ 4 by decide) .nil))))
  · rw [if_neg h93] at h
    obtain rfl := Option.some.inj h
    exact pendH_sound TTok mix 4 (hs := [.h [0, 1] [] [.box [.d (.v (.int .i64 v_r98.2.fSectors)), .d (.v (.int .i64 v_r98.2.fMark)), .d (.v (.int .i64 v_r98.2.fFuse)), .srf 2], .none, .cu (rowF 56 2 (v_r98.2.fAll.map eS_ringref3_Put)) []] (.d (.v (.bool v_r98.1))), .t false]) [0, 1, 9] (by kernel_rfl) (by kernel_rfl) (by kernel_rfl) (.cons (G_ringref3_Disk_goes_h_ok n v_d97 _ h92) (.cons (vf h93) .nil))
inductive G_disk_Disk_Crash_h_C1_R where
  | x0 (v_w114 : (List Int)) (v_w115 : (List Int)) (v_w116 : (List S_disk_write))
def G_disk_Disk_Crash_h_C1_ex : G_disk_Disk_Crash_h_C1_R → Ex
  | .x0 _ _ _ => .normal
def G_disk_Disk_Crash_h_C1_st (v_kept101 : (List Bool)) (v_d100 : S_disk_Disk) (v_x102 : Int) (v_w103 : (List Int)) (v_w104 : (List Int)) (v_w105 : (List S_disk_write)) : G_disk_Disk_Crash_h_C1_R → PS
  | .x0 v_w114 v_w115 v_w116 => ⟨[.ref 4 0, .d (.sl (v_kept101.map eB)), dd, dd, dd, dd, dd, dd, dd, .srf 7, .d (.v (.int .i64 (v_d100.fwait.length : Int))), .d (.v (.int .i64 v_x102)), dd, dd, dd, dd, dd, dd, dd, dd, dd, dd, dd, dd, dd, dd, dd, dd, dd, dd, dd, dd, dd, dd, dd, dd, dd, dd, dd, dd, dd, dd, dd, dd, dd, dd, dd, dd, dd, dd, dd, dd, dd], [.gh 0 (.ref 4 0), .gh 1 (.srf 5), .gh 2 (.srf 6), .gh 3 (.srf 7), .box [.srf 5, .srf 6, .srf 7, .d (.v (.int .i64 v_d100.ffuse))], .row 5 1 (v_w114.map (eI .u8)), .row 5 1 (v_w115.map (eI .u8)), .row 54 2 (v_w116.map eS_disk_write)]⟩
def G_disk_Disk_Crash_h_C1_hd (v_kept101 : (List Bool)) (v_d100 : S_disk_Disk) (v_x102 : Int) (v_w103 : (List Int)) (v_w104 : (List Int)) (v_w105 : (List S_disk_write))  : PS := ⟨[.ref 4 0, .d (.sl (v_kept101.map eB)), dd, dd, dd, dd, dd, dd, dd, .srf 7, .d (.v (.int .i64 (v_d100.fwait.length : Int))), .d (.v (.int .i64 v_x102)), dd, dd, dd, dd, dd, dd, dd, dd, dd, dd, dd, dd, dd, dd, dd, dd, dd, dd, dd, dd, dd, dd, dd, dd, dd, dd, dd, dd, dd, dd, dd, dd, dd, dd, dd, dd, dd, dd, dd, dd, dd], [.gh 0 (.ref 4 0), .gh 1 (.srf 5), .gh 2 (.srf 6), .gh 3 (.srf 7), .box [.srf 5, .srf 6, .srf 7, .d (.v (.int .i64 v_d100.ffuse))], .row 5 1 (v_w103.map (eI .u8)), .row 5 1 (v_w104.map (eI .u8)), .row 54 2 (v_w105.map eS_disk_write)]⟩
def G_disk_Disk_Crash_h_C1 (n : Nat) (v_kept101 : (List Bool)) (v_d100 : S_disk_Disk) (v_x102 : Int) (v_w103 : (List Int)) (v_w104 : (List Int)) (v_w105 : (List S_disk_write)) : Option G_disk_Disk_Crash_h_C1_R :=
  if 0 ≤ v_x102 ∧ (v_x102).toNat < v_w105.length then
   (v_w105[(v_x102).toNat]?).bind fun (v_y111 : S_disk_write) =>
   if v_x102 < (v_kept101.length : Int) then
    (getI v_kept101 v_x102).bind fun (v_y113 : Bool) =>
    if v_y113 = true then
     if ((0 : Int) ≤ (wi .i64 (v_y111.fn * 64)) ∧ (wi .i64 (v_y111.fn * 64)) ≤ (v_w103.length : Int)) then
      if v_w103.length ≤ v_w103.length then
       some (.x0 (cpyR v_w103 ((wi .i64 (v_y111.fn * 64)).toNat) v_w103.length v_y111.fdata) v_w104 v_w105)
      else none
     else none
    else
     some (.x0 v_w103 v_w104 v_w105)
   else
    some (.x0 v_w103 v_w104 v_w105)
  else none
theorem G_disk_Disk_Crash_h_C1_ok {Fi : Ex → PS → Prop} (hF : KC 53 Fi) (ks : List Fr) (n : Nat) (v_kept101 : (List Bool)) (v_d100 : S_disk_Disk) (v_x102 : Int) (v_w103 : (List Int)) (v_w104 : (List Int)) (v_w105 : (List S_disk_write))  (o : G_disk_Disk_Crash_h_C1_R) (h : G_disk_Disk_Crash_h_C1 n v_kept101 v_d100 v_x102 v_w103 v_w104 v_w105 = some o) (q : RunE Try.prog 53 Fi ks (G_disk_Disk_Crash_h_C1_ex o) (G_disk_Disk_Crash_h_C1_st v_kept101 v_d100 v_x102 v_w103 v_w104 v_w105 o)) : RunE Try.prog 53 Fi (.s (cL (cR (cR (cP (cB (cR (cL (bodyOf Try.f11)))))))) :: ks) .normal (G_disk_Disk_Crash_h_C1_hd v_kept101 v_d100 v_x102 v_w103 v_w104 v_w105) := by
  unfold G_disk_Disk_Crash_h_C1 at h
  by_cases h109 : 0 ≤ v_x102 ∧ (v_x102).toNat < v_w105.length
  · rw [if_pos h109] at h
    obtain ⟨v_y111, h110, h⟩ := bind_some h
    by_cases h113 : v_x102 < (v_kept101.length : Int)
    · rw [if_pos h113] at h
      obtain ⟨v_y113, h114, h⟩ := bind_some h
      by_cases h118 : v_y113 = true
      · rw [if_pos h118] at h
        by_cases h119 : ((0 : Int) ≤ (wi .i64 (v_y111.fn * 64)) ∧ (wi .i64 (v_y111.fn * 64)) ≤ (v_w103.length : Int))
        · rw [if_pos h119] at h
          by_cases h120 : v_w103.length ≤ v_w103.length
          · rw [if_pos h120] at h
            cases h
            exact pkk_sound TTok mix hF 8 (hs := [.y (eS_disk_write v_y111), .c, .u (.d (.v (.int .i64 (v_kept101.length : Int)))), .t true, .c, .c, .y (eB v_y113), .c, .c, .t true, .c, .c, .e 123 [5] (.ssl 5 ((wi .i64 (v_y111.fn * 64)).toNat) v_w103.length 1) [], .c, .e 138 [5] (.d (.v (.int .i64 ((Nat.min v_y111.fdata.length (v_w103.length - (wi .i64 (v_y111.fn * 64)).toNat) : Nat) : Int)))) [(5, .row 5 1 ((cpyR v_w103 ((wi .i64 (v_y111.fn * 64)).toNat) v_w103.length v_y111.fdata).map (eI .u8)))]]) (ts := []) (s := [0, 1, 2, 3, 4, 5, 6, 7]) (l := [0, 1, 9, 10, 11]) (by kernel_rfl) (by kernel_rfl) (.cons (idx_ob (f := eS_disk_write) h109) (.cons (get_ob (f := eS_disk_write) h110) (.cons (show 0 + 2 ≤ 2 by decide) (.cons (len_ob (f := eB) (l := v_kept101)) (.cons (dt h113) (.cons (getI_ob (f := eB) h114) (.cons h118 (.cons (xs10 (P := Try.prog) (T := TT) (f := (eI .u8)) (t := 30) (e := 5) (s := 1) (l := 5) (L := v_w103) (x := (.tmp 29)) (lo := (.tmp 32)) (a := (wi .i64 (v_y111.fn * 64))) (ka := .i64) (by kernel_rfl) h119) (.cons (xcpD (P := Try.prog) (T := TT) (f := (eI .u8)) (t := 30) (t' := 30) (e := 5) (s := 1) (l := 5) (x := (.tmp 33)) (y := (.tmp 35)) (ti := ⟨1, 1, .int .u8, [.i .u8]⟩) (L := v_w103) (Y := v_y111.fdata) (i := (wi .i64 (v_y111.fn * 64)).toNat) (j := v_w103.length) (by kernel_rfl) (by kernel_rfl) h120 (fun _ => rfl)) .nil))))))))) q
          · rw [if_neg h120] at h; cases h
        · rw [if_neg h119] at h; cases h
      · rw [if_neg h118] at h
        cases h
        exact pkk_sound TTok mix hF 8 (hs := [.y (eS_disk_write v_y111), .c, .u (.d (.v (.int .i64 (v_kept101.length : Int)))), .t true, .c, .c, .y (eB v_y113), .c, .c, .t false]) (ts := []) (s := [0, 1, 2, 3, 4, 5, 6, 7]) (l := [0, 1, 9, 10, 11]) (by kernel_rfl) (by kernel_rfl) (.cons (idx_ob (f := eS_disk_write) h109) (.cons (get_ob (f := eS_disk_write) h110) (.cons (show 0 + 2 ≤ 2 by decide) (.cons (len_ob (f := eB) (l := v_kept101)) (.cons (dt h113) (.cons (getI_ob (f := eB) h114) (.cons (vf h118) .nil))))))) q
    · rw [if_neg h113] at h
      cases h
      exact pkk_sound TTok mix hF 8 (hs := [.y (eS_disk_write v_y111), .c, .u (.d (.v (.int .i64 (v_kept101.length : Int)))), .t false, .c, .c, .c, .c]) (ts := []) (s := [0, 1, 2, 3, 4, 5, 6, 7]) (l := [0, 1, 9, 10, 11]) (by kernel_rfl) (by kernel_rfl) (.cons (idx_ob (f := eS_disk_write) h109) (.cons (get_ob (f := eS_disk_write) h110) (.cons (show 0 + 2 ≤ 2 by decide) (.cons (len_ob (f := eB) (l := v_kept101)) (.cons (df h113) .nil))))) q
  · rw [if_neg h109] at h; cases h
inductive G_disk_Disk_Crash_h_L2_R where
  | x0 (v_w127 : (List Int)) (v_w128 : (List Int)) (v_w129 : (List S_disk_write))
def G_disk_Disk_Crash_h_L2_ex : G_disk_Disk_Crash_h_L2_R → Ex
  | .x0 _ _ _ => .exit 0
def G_disk_Disk_Crash_h_L2_st (v_kept101 : (List Bool)) (v_d100 : S_disk_Disk) : G_disk_Disk_Crash_h_L2_R → PS
  | .x0 v_w127 v_w128 v_w129 => ⟨[.ref 4 0, dd, dd, dd, dd, dd, dd, dd, dd, dd, dd, dd, dd, dd, dd, dd, dd, dd, dd, dd, dd, dd, dd, dd, dd, dd, dd, dd, dd, dd, dd, dd, dd, dd, dd, dd, dd, dd, dd, dd, dd, dd, dd, dd, dd, dd, dd, dd, dd, dd, dd, dd, dd], [.gh 0 (.ref 4 0), .gh 1 (.srf 5), .gh 2 (.srf 6), .gh 3 (.srf 7), .box [.srf 5, .srf 6, .srf 7, .d (.v (.int .i64 v_d100.ffuse))], .row 5 1 (v_w127.map (eI .u8)), .row 5 1 (v_w128.map (eI .u8)), .row 54 2 (v_w129.map eS_disk_write)]⟩
def G_disk_Disk_Crash_h_L2_hd (v_kept101 : (List Bool)) (v_d100 : S_disk_Disk) (v_x102 : Int) (v_w103 : (List Int)) (v_w104 : (List Int)) (v_w105 : (List S_disk_write)) : PS := ⟨[.ref 4 0, .d (.sl (v_kept101.map eB)), dd, dd, dd, dd, dd, dd, dd, .srf 7, .d (.v (.int .i64 (v_d100.fwait.length : Int))), .d (.v (.int .i64 v_x102)), dd, dd, dd, dd, dd, dd, dd, dd, dd, dd, dd, dd, dd, dd, dd, dd, dd, dd, dd, dd, dd, dd, dd, dd, dd, dd, dd, dd, dd, dd, dd, dd, dd, dd, dd, dd, dd, dd, dd, dd, dd], [.gh 0 (.ref 4 0), .gh 1 (.srf 5), .gh 2 (.srf 6), .gh 3 (.srf 7), .box [.srf 5, .srf 6, .srf 7, .d (.v (.int .i64 v_d100.ffuse))], .row 5 1 (v_w103.map (eI .u8)), .row 5 1 (v_w104.map (eI .u8)), .row 54 2 (v_w105.map eS_disk_write)]⟩
def G_disk_Disk_Crash_h_L2 (n : Nat) (v_kept101 : (List Bool)) (v_d100 : S_disk_Disk) : Nat → Int → (List Int) → (List Int) → (List S_disk_write) → Option G_disk_Disk_Crash_h_L2_R
  | 0, _, _, _, _ => none
  | k + 1, v_x102, v_w103, v_w104, v_w105 =>
    if v_x102 < (v_d100.fwait.length : Int) then
     (G_disk_Disk_Crash_h_C1 n v_kept101 v_d100 v_x102 v_w103 v_w104 v_w105).bind fun v_o123 => match v_o123 with
     | .x0 v_z124 v_z125 v_z126 =>
       G_disk_Disk_Crash_h_L2 n v_kept101 v_d100 k (wi .i64 (v_x102 + 1)) v_z124 v_z125 v_z126
    else
     some (.x0 v_w103 v_w104 v_w105)
theorem G_disk_Disk_Crash_h_L2_ok {Fi : Ex → PS → Prop} (hF : KC 53 Fi) (ks : List Fr) (n : Nat) (v_kept101 : (List Bool)) (v_d100 : S_disk_Disk)  : ∀ (k : Nat) (v_x102 : Int) (v_w103 : (List Int)) (v_w104 : (List Int)) (v_w105 : (List S_disk_write)) (o : G_disk_Disk_Crash_h_L2_R), G_disk_Disk_Crash_h_L2 n v_kept101 v_d100 k v_x102 v_w103 v_w104 v_w105 = some o → RunE Try.prog 53 Fi ks (G_disk_Disk_Crash_h_L2_ex o) (G_disk_Disk_Crash_h_L2_st v_kept101 v_d100 o) → RunE Try.prog 53 Fi (.l k (cP (cB (cR (cL (bodyOf Try.f11))))) :: ks) .normal (G_disk_Disk_Crash_h_L2_hd v_kept101 v_d100 v_x102 v_w103 v_w104 v_w105)
  | 0, v_x102, v_w103, v_w104, v_w105, o, h, q => by rw [G_disk_Disk_Crash_h_L2] at h; cases h
  | k + 1, v_x102, v_w103, v_w104, v_w105, o, h, q => by
    rw [G_disk_Disk_Crash_h_L2] at h
    by_cases h96 : v_x102 < (v_d100.fwait.length : Int)
    · rw [if_pos h96] at h
      obtain ⟨v_o123, h121, h⟩ := bind_some h
      refine pkk_sound TTok mix hF 7 (hs := [.t true]) (ts := []) (s := [0, 1, 2, 3, 4, 5, 6, 7]) (l := [0, 1, 9, 10, 11]) (by kernel_rfl) (by kernel_rfl) (.cons (dt h96) .nil) (G_disk_Disk_Crash_h_C1_ok hF (.s (cR (cR (cR (cP (cB (cR (cL (bodyOf Try.f11)))))))) :: .l k (cP (cB (cR (cL (bodyOf Try.f11))))) :: ks) n v_kept101 v_d100 v_x102 v_w103 v_w104 v_w105 _ h121 ?_)
      cases v_o123 with
      | x0 v_z124 v_z125 v_z126 =>
        try dsimp only at h
        exact pkk_sound TTok mix hF 1 (hs := []) (ts := []) (s := [0, 1, 2, 3, 4, 5, 6, 7]) (l := [0, 1, 9, 10, 11]) (by kernel_rfl) (by kernel_rfl) .nil (G_disk_Disk_Crash_h_L2_ok hF ks n v_kept101 v_d100 k (wi .i64 (v_x102 + 1)) v_z124 v_z125 v_z126 _ h q)
    · rw [if_neg h96] at h
      cases h
      exact pkk_sound TTok mix hF 8 (hs := [.t false]) (ts := []) (s := [0, 1, 2, 3, 4, 5, 6, 7]) (l := [0]) (by kernel_rfl) (by kernel_rfl) (.cons (df h96) .nil) q
/- (*ringhall/disk.Disk).Crash -/
def G_disk_Disk_Crash_h (n : Nat) (v_d100 : S_disk_Disk) (v_kept101 : (List Bool)) : Option (S_disk_Disk) :=
  (G_disk_Disk_Crash_h_L2 n v_kept101 v_d100 n 0 v_d100.fsafe v_d100.fnow v_d100.fwait).bind fun v_o130 => match v_o130 with
  | .x0 v_z131 v_z132 v_z133 =>
    some (S_disk_Disk.mk v_z131 (cpyR v_z132 0 v_z132.length v_z131) ([] : List S_disk_write) (-1))
theorem G_disk_Disk_Crash_h_ok (n : Nat) (v_d100 : S_disk_Disk) (v_kept101 : (List Bool)) (r : S_disk_Disk) (h : G_disk_Disk_Crash_h n v_d100 v_kept101 = some r) : RetH Try.prog 11 [.ref 0 0, .d ((eL eB) v_kept101)] [.box [.srf 1, .srf 2, .srf 3, .d (.v (.int .i64 v_d100.ffuse))], .row 5 1 (v_d100.fsafe.map (eI .u8)), .row 5 1 (v_d100.fnow.map (eI .u8)), .row 54 2 (v_d100.fwait.map eS_disk_write)] (.tup []) [.box [.srf 4, .srf 5, .srf 6, .d (.v (.int .i64 r.ffuse))], .none, .none, .none, .row 5 1 (r.fsafe.map (eI .u8)), .row 5 1 (r.fnow.map (eI .u8)), .row 54 2 (r.fwait.map eS_disk_write)] := by
  refine retH_run (n := 53) (fn := Try.f11) (c := bodyOf Try.f11) (by kernel_rfl) (by kernel_rfl) (by kernel_rfl) (by kernel_rfl) ?_
  have hF : KC 53 (FinH Try.prog Try.f11 [.box [.srf 1, .srf 2, .srf 3, .d (.v (.int .i64 v_d100.ffuse))], .row 5 1 (v_d100.fsafe.map (eI .u8)), .row 5 1 (v_d100.fnow.map (eI .u8)), .row 54 2 (v_d100.fwait.map eS_disk_write)] (.tup []) [.box [.srf 4, .srf 5, .srf 6, .d (.v (.int .i64 r.ffuse))], .none, .none, .none, .row 5 1 (r.fsafe.map (eI .u8)), .row 5 1 (r.fnow.map (eI .u8)), .row 54 2 (r.fwait.map eS_disk_write)]) := FinH.kc' (by kernel_rfl)
  unfold G_disk_Disk_Crash_h at h
  obtain ⟨v_o130, h122, h⟩ := bind_some h
  refine pkk_sound TTok mix hF 5 (hs := [.c, .u (.d (.v (.int .i64 (v_d100.fwait.length : Int)))), .n n]) (ts := []) (s := [4, 5, 6, 7, 0, 1, 2, 3]) (l := [0, 1, 9, 10, 11]) (by kernel_rfl) (by kernel_rfl) (.cons (len_ob (f := eS_disk_write) (l := v_d100.fwait)) .nil) (G_disk_Disk_Crash_h_L2_ok hF (.b 0 :: .s (cR (bodyOf Try.f11)) :: []) n v_kept101 v_d100 n 0 v_d100.fsafe v_d100.fnow v_d100.fwait _ h122 ?_)
  cases v_o130 with
  | x0 v_z131 v_z132 v_z133 =>
    try dsimp only at h
    obtain rfl := Option.some.inj h
    exact pendH_sound TTok mix 8 (hs := [.c, .c, .e 48 [6, 5] (.d (.v (.int .i64 ((Nat.min v_z131.length (v_z132.length - 0) : Nat) : Int)))) [(6, .row 5 1 ((cpyR v_z132 0 v_z132.length v_z131).map (eI .u8)))], .c, .c, .mv 5, .mv 6, .tb 4 2 54 2, .fz 7]) [4, 5, 6, 7, 93, 94, 95] (by kernel_rfl) (by kernel_rfl) (by kernel_rfl) (.cons (xcpR0 (P := Try.prog) (T := TT) (f := (eI .u8)) (t := 30) (t' := 30) (e := 5) (s := 1) (l := 6) (x := (.tmp 41)) (y := (.tmp 45)) (ti := ⟨1, 1, .int .u8, [.i .u8]⟩) (L := v_z132) (Y := v_z131) (l' := 5) (by kernel_rfl) (by kernel_rfl) (fun _ => rfl)) (.cons (show 2 + 1 ≤ 4 by decide) (.cons (show 3 + 1 ≤ 4 by decide) .nil)))
inductive G_ringref3_Disk_Crash_h_C1_R where
  | x0 (v_w151 : (List S_ringref3_Put))
def G_ringref3_Disk_Crash_h_C1_ex : G_ringref3_Disk_Crash_h_C1_R → Ex
  | .x0 _ => .normal
def G_ringref3_Disk_Crash_h_C1_st (v_kept136 : (List Bool)) (v_d135 : S_ringref3_Disk) (v_x137 : Int) (v_w138 : (List S_ringref3_Put)) : G_ringref3_Disk_Crash_h_C1_R → PS
  | .x0 v_w151 => ⟨[.ref 2 0, .d (.sl (v_kept136.map eB)), dd, dd, dd, dd, dd, dd, dd, dd, dd, dd, dd, dd, dd, dd, dd, dd, dd, dd, dd, dd, dd, dd, dd, dd, dd, dd, dd, dd, dd, dd, .ssl 4 v_d135.fMark.toNat v_d135.fAll.length 2, .d (.v (.int .i64 ((v_d135.fAll.length - v_d135.fMark.toNat : Nat) : Int))), .d (.v (.int .i64 v_x137)), dd, dd, dd, dd, dd, dd, dd, dd, dd, dd, dd, dd, dd, dd, dd, dd, dd, dd, dd, dd, dd, dd, dd, dd, dd, dd, dd, dd, dd, dd, dd, dd, dd, dd, dd, dd], [.gh 0 (.ref 2 0), .gh 1 (.srf 4), .box [.d (.v (.int .i64 v_d135.fSectors)), .d (.v (.int .i64 v_d135.fMark)), .d (.v (.int .i64 v_d135.fFuse)), .srf 3], .cu (splC 56 2 (v_d135.fAll.map eS_ringref3_Put) (v_w151.map eS_ringref3_Put)) [.srf 4], .none]⟩
def G_ringref3_Disk_Crash_h_C1_hd (v_kept136 : (List Bool)) (v_d135 : S_ringref3_Disk) (v_x137 : Int) (v_w138 : (List S_ringref3_Put))  : PS := ⟨[.ref 2 0, .d (.sl (v_kept136.map eB)), dd, dd, dd, dd, dd, dd, dd, dd, dd, dd, dd, dd, dd, dd, dd, dd, dd, dd, dd, dd, dd, dd, dd, dd, dd, dd, dd, dd, dd, dd, .ssl 4 v_d135.fMark.toNat v_d135.fAll.length 2, .d (.v (.int .i64 ((v_d135.fAll.length - v_d135.fMark.toNat : Nat) : Int))), .d (.v (.int .i64 v_x137)), dd, dd, dd, dd, dd, dd, dd, dd, dd, dd, dd, dd, dd, dd, dd, dd, dd, dd, dd, dd, dd, dd, dd, dd, dd, dd, dd, dd, dd, dd, dd, dd, dd, dd, dd, dd], [.gh 0 (.ref 2 0), .gh 1 (.srf 4), .box [.d (.v (.int .i64 v_d135.fSectors)), .d (.v (.int .i64 v_d135.fMark)), .d (.v (.int .i64 v_d135.fFuse)), .srf 3], .cu (splC 56 2 (v_d135.fAll.map eS_ringref3_Put) (v_w138.map eS_ringref3_Put)) [.srf 4], .none]⟩
def G_ringref3_Disk_Crash_h_C1 (n : Nat) (v_kept136 : (List Bool)) (v_d135 : S_ringref3_Disk) (v_x137 : Int) (v_w138 : (List S_ringref3_Put)) : Option G_ringref3_Disk_Crash_h_C1_R :=
  if 0 ≤ v_x137 ∧ v_x137 < ((v_d135.fAll.length - v_d135.fMark.toNat : Nat) : Int) ∧ v_d135.fAll.length ≤ v_d135.fAll.length then
   (v_d135.fAll[(v_d135.fMark.toNat + (v_x137).toNat)]?).bind fun (v_y146 : S_ringref3_Put) =>
   if v_x137 < (v_kept136.length : Int) then
    (getI v_kept136 v_x137).bind fun (v_y148 : Bool) =>
    if v_y148 = true then
     (app 24 v_w138 ([v_y146])).bind fun (v_a150 : (List S_ringref3_Put)) =>
     some (.x0 v_a150)
    else
     some (.x0 v_w138)
   else
    some (.x0 v_w138)
  else none
theorem G_ringref3_Disk_Crash_h_C1_ok {Fi : Ex → PS → Prop} (hF : KC 71 Fi) (ks : List Fr) (n : Nat) (v_kept136 : (List Bool)) (v_d135 : S_ringref3_Disk) (v_x137 : Int) (v_w138 : (List S_ringref3_Put))  (o : G_ringref3_Disk_Crash_h_C1_R) (h : G_ringref3_Disk_Crash_h_C1 n v_kept136 v_d135 v_x137 v_w138 = some o) (q : RunE Try.prog 71 Fi ks (G_ringref3_Disk_Crash_h_C1_ex o) (G_ringref3_Disk_Crash_h_C1_st v_kept136 v_d135 v_x137 v_w138 o)) : RunE Try.prog 71 Fi (.s (cL (cR (cR (cP (cB (cR (cL (cR (cR (bodyOf Try.f12)))))))))) :: ks) .normal (G_ringref3_Disk_Crash_h_C1_hd v_kept136 v_d135 v_x137 v_w138) := by
  unfold G_ringref3_Disk_Crash_h_C1 at h
  by_cases h137 : 0 ≤ v_x137 ∧ v_x137 < ((v_d135.fAll.length - v_d135.fMark.toNat : Nat) : Int) ∧ v_d135.fAll.length ≤ v_d135.fAll.length
  · rw [if_pos h137] at h
    obtain ⟨v_y146, h138, h⟩ := bind_some h
    by_cases h141 : v_x137 < (v_kept136.length : Int)
    · rw [if_pos h141] at h
      obtain ⟨v_y148, h142, h⟩ := bind_some h
      by_cases h145 : v_y148 = true
      · rw [if_pos h145] at h
        obtain ⟨v_a150, h146, h⟩ := bind_some h
        cases h
        exact pkk_sound TTok mix hF 8 (hs := [.e 10 [3] (.ept 4 2 (v_d135.fMark.toNat + (v_x137).toNat) 0) [], .e 15 [3] (.d (.agg [.v (.int .i64 v_y146.fN), .v (.string v_y146.fData)])) [], .c, .u (.d (.v (.int .i64 (v_kept136.length : Int)))), .t true, .c, .c, .y (eB v_y148), .c, .c, .t true, .c, .c, .bd, .e 120 [3, 120] (.srf 120) [(3, .none), (120, .cu (splC 56 2 (v_d135.fAll.map eS_ringref3_Put) (v_a150.map eS_ringref3_Put)) [.srf 4])], .c]) (ts := []) (s := [0, 1, 2, 120, 4]) (l := [0, 1, 32, 33, 34]) (by kernel_rfl) (by kernel_rfl) (.cons (sidx (P := Try.prog) (T := TT) (t := 39) (A := 3) (l := 4) (e := 56) (s := 2) (i0 := v_d135.fMark.toNat) (N := v_d135.fAll.length) (xs := (v_d135.fAll.map eS_ringref3_Put)) (ys := (v_w138.map eS_ringref3_Put)) (x := (.tmp 32)) (i := (.tmp 34)) (ik := .i64) (j := v_x137) (by kernel_rfl) h137.1 h137.2.1 (by rw [List.length_map]; exact h137.2.2)) (.cons (sload (P := Try.prog) (T := TT) (t := 56) (A := 3) (l := 4) (e := 56) (s := 2) (i := (v_d135.fMark.toNat + (v_x137).toNat)) (xs := (v_d135.fAll.map eS_ringref3_Put)) (ys := (v_w138.map eS_ringref3_Put)) (y := (eS_ringref3_Put v_y146)) (x := (.tmp 37)) (by kernel_rfl) (by kernel_rfl) (get_ob (f := eS_ringref3_Put) h138) rfl rfl) (.cons (show 0 + 2 ≤ 2 by decide) (.cons (len_ob (f := eB) (l := v_kept136)) (.cons (dt h141) (.cons (getI_ob (f := eB) h142) (.cons h145 (.cons (sapp (P := Try.prog) (T := TT) (t := 39) (e := 56) (s := 2) (nl := 120) (ti := ⟨2, 24, .st [(0, 3), (1, 9)], [.i .i64, .s]⟩) (zs := (v_a150.map eS_ringref3_Put)) (x := (.tmp 53)) (y := (.tmp 55)) (A := 3) (l := 4) (xs := (v_d135.fAll.map eS_ringref3_Put)) (ys := (v_w138.map eS_ringref3_Put)) (us := (([v_y146]).map eS_ringref3_Put)) (app_ob (f := eS_ringref3_Put) (s := 2) h146 (fun _ => rfl)).2.2.2 (by kernel_rfl) (by kernel_rfl) (by kernel_rfl) (by decide) (app_ob (f := eS_ringref3_Put) (s := 2) h146 (fun _ => rfl)).1 (by simp) (app_ob (f := eS_ringref3_Put) (s := 2) h146 (fun _ => rfl)).2.1 (app_ob (f := eS_ringref3_Put) (s := 2) h146 (fun _ => rfl)).2.2.1 (by decide)) (.cons (show 3 + 1 ≤ 4 by decide) .nil))))))))) q
      · rw [if_neg h145] at h
        cases h
        exact pkk_sound TTok mix hF 8 (hs := [.e 10 [3] (.ept 4 2 (v_d135.fMark.toNat + (v_x137).toNat) 0) [], .e 15 [3] (.d (.agg [.v (.int .i64 v_y146.fN), .v (.string v_y146.fData)])) [], .c, .u (.d (.v (.int .i64 (v_kept136.length : Int)))), .t true, .c, .c, .y (eB v_y148), .c, .c, .t false]) (ts := []) (s := [0, 1, 2, 3, 4]) (l := [0, 1, 32, 33, 34]) (by kernel_rfl) (by kernel_rfl) (.cons (sidx (P := Try.prog) (T := TT) (t := 39) (A := 3) (l := 4) (e := 56) (s := 2) (i0 := v_d135.fMark.toNat) (N := v_d135.fAll.length) (xs := (v_d135.fAll.map eS_ringref3_Put)) (ys := (v_w138.map eS_ringref3_Put)) (x := (.tmp 32)) (i := (.tmp 34)) (ik := .i64) (j := v_x137) (by kernel_rfl) h137.1 h137.2.1 (by rw [List.length_map]; exact h137.2.2)) (.cons (sload (P := Try.prog) (T := TT) (t := 56) (A := 3) (l := 4) (e := 56) (s := 2) (i := (v_d135.fMark.toNat + (v_x137).toNat)) (xs := (v_d135.fAll.map eS_ringref3_Put)) (ys := (v_w138.map eS_ringref3_Put)) (y := (eS_ringref3_Put v_y146)) (x := (.tmp 37)) (by kernel_rfl) (by kernel_rfl) (get_ob (f := eS_ringref3_Put) h138) rfl rfl) (.cons (show 0 + 2 ≤ 2 by decide) (.cons (len_ob (f := eB) (l := v_kept136)) (.cons (dt h141) (.cons (getI_ob (f := eB) h142) (.cons (vf h145) .nil))))))) q
    · rw [if_neg h141] at h
      cases h
      exact pkk_sound TTok mix hF 8 (hs := [.e 10 [3] (.ept 4 2 (v_d135.fMark.toNat + (v_x137).toNat) 0) [], .e 15 [3] (.d (.agg [.v (.int .i64 v_y146.fN), .v (.string v_y146.fData)])) [], .c, .u (.d (.v (.int .i64 (v_kept136.length : Int)))), .t false, .c, .c, .c, .c]) (ts := []) (s := [0, 1, 2, 3, 4]) (l := [0, 1, 32, 33, 34]) (by kernel_rfl) (by kernel_rfl) (.cons (sidx (P := Try.prog) (T := TT) (t := 39) (A := 3) (l := 4) (e := 56) (s := 2) (i0 := v_d135.fMark.toNat) (N := v_d135.fAll.length) (xs := (v_d135.fAll.map eS_ringref3_Put)) (ys := (v_w138.map eS_ringref3_Put)) (x := (.tmp 32)) (i := (.tmp 34)) (ik := .i64) (j := v_x137) (by kernel_rfl) h137.1 h137.2.1 (by rw [List.length_map]; exact h137.2.2)) (.cons (sload (P := Try.prog) (T := TT) (t := 56) (A := 3) (l := 4) (e := 56) (s := 2) (i := (v_d135.fMark.toNat + (v_x137).toNat)) (xs := (v_d135.fAll.map eS_ringref3_Put)) (ys := (v_w138.map eS_ringref3_Put)) (y := (eS_ringref3_Put v_y146)) (x := (.tmp 37)) (by kernel_rfl) (by kernel_rfl) (get_ob (f := eS_ringref3_Put) h138) rfl rfl) (.cons (show 0 + 2 ≤ 2 by decide) (.cons (len_ob (f := eB) (l := v_kept136)) (.cons (df h141) .nil))))) q
  · rw [if_neg h137] at h; cases h
inductive G_ringref3_Disk_Crash_h_L2_R where
  | x0 (v_w156 : (List S_ringref3_Put))
def G_ringref3_Disk_Crash_h_L2_ex : G_ringref3_Disk_Crash_h_L2_R → Ex
  | .x0 _ => .exit 0
def G_ringref3_Disk_Crash_h_L2_st (v_kept136 : (List Bool)) (v_d135 : S_ringref3_Disk) : G_ringref3_Disk_Crash_h_L2_R → PS
  | .x0 v_w156 => ⟨[.ref 2 0, dd, dd, dd, dd, dd, dd, dd, dd, dd, dd, dd, dd, dd, dd, dd, dd, dd, dd, dd, dd, dd, dd, dd, dd, dd, dd, dd, dd, dd, dd, dd, dd, dd, dd, dd, dd, dd, dd, dd, dd, dd, dd, dd, dd, dd, dd, dd, dd, dd, dd, dd, dd, dd, dd, dd, dd, dd, dd, dd, dd, dd, dd, dd, dd, dd, dd, dd, dd, dd, dd], [.gh 0 (.ref 2 0), .gh 1 (.srf 4), .box [.d (.v (.int .i64 v_d135.fSectors)), .d (.v (.int .i64 v_d135.fMark)), .d (.v (.int .i64 v_d135.fFuse)), .srf 3], .cu (splC 56 2 (v_d135.fAll.map eS_ringref3_Put) (v_w156.map eS_ringref3_Put)) [.srf 4], .none]⟩
def G_ringref3_Disk_Crash_h_L2_hd (v_kept136 : (List Bool)) (v_d135 : S_ringref3_Disk) (v_x137 : Int) (v_w138 : (List S_ringref3_Put)) : PS := ⟨[.ref 2 0, .d (.sl (v_kept136.map eB)), dd, dd, dd, dd, dd, dd, dd, dd, dd, dd, dd, dd, dd, dd, dd, dd, dd, dd, dd, dd, dd, dd, dd, dd, dd, dd, dd, dd, dd, dd, .ssl 4 v_d135.fMark.toNat v_d135.fAll.length 2, .d (.v (.int .i64 ((v_d135.fAll.length - v_d135.fMark.toNat : Nat) : Int))), .d (.v (.int .i64 v_x137)), dd, dd, dd, dd, dd, dd, dd, dd, dd, dd, dd, dd, dd, dd, dd, dd, dd, dd, dd, dd, dd, dd, dd, dd, dd, dd, dd, dd, dd, dd, dd, dd, dd, dd, dd, dd], [.gh 0 (.ref 2 0), .gh 1 (.srf 4), .box [.d (.v (.int .i64 v_d135.fSectors)), .d (.v (.int .i64 v_d135.fMark)), .d (.v (.int .i64 v_d135.fFuse)), .srf 3], .cu (splC 56 2 (v_d135.fAll.map eS_ringref3_Put) (v_w138.map eS_ringref3_Put)) [.srf 4], .none]⟩
def G_ringref3_Disk_Crash_h_L2 (n : Nat) (v_kept136 : (List Bool)) (v_d135 : S_ringref3_Disk) : Nat → Int → (List S_ringref3_Put) → Option G_ringref3_Disk_Crash_h_L2_R
  | 0, _, _ => none
  | k + 1, v_x137, v_w138 =>
    if v_x137 < ((v_d135.fAll.length - v_d135.fMark.toNat : Nat) : Int) then
     (G_ringref3_Disk_Crash_h_C1 n v_kept136 v_d135 v_x137 v_w138).bind fun v_o154 => match v_o154 with
     | .x0 v_z155 =>
       G_ringref3_Disk_Crash_h_L2 n v_kept136 v_d135 k (wi .i64 (v_x137 + 1)) v_z155
    else
     some (.x0 v_w138)
theorem G_ringref3_Disk_Crash_h_L2_ok {Fi : Ex → PS → Prop} (hF : KC 71 Fi) (ks : List Fr) (n : Nat) (v_kept136 : (List Bool)) (v_d135 : S_ringref3_Disk)  : ∀ (k : Nat) (v_x137 : Int) (v_w138 : (List S_ringref3_Put)) (o : G_ringref3_Disk_Crash_h_L2_R), G_ringref3_Disk_Crash_h_L2 n v_kept136 v_d135 k v_x137 v_w138 = some o → RunE Try.prog 71 Fi ks (G_ringref3_Disk_Crash_h_L2_ex o) (G_ringref3_Disk_Crash_h_L2_st v_kept136 v_d135 o) → RunE Try.prog 71 Fi (.l k (cP (cB (cR (cL (cR (cR (bodyOf Try.f12))))))) :: ks) .normal (G_ringref3_Disk_Crash_h_L2_hd v_kept136 v_d135 v_x137 v_w138)
  | 0, v_x137, v_w138, o, h, q => by rw [G_ringref3_Disk_Crash_h_L2] at h; cases h
  | k + 1, v_x137, v_w138, o, h, q => by
    rw [G_ringref3_Disk_Crash_h_L2] at h
    by_cases h126 : v_x137 < ((v_d135.fAll.length - v_d135.fMark.toNat : Nat) : Int)
    · rw [if_pos h126] at h
      obtain ⟨v_o154, h147, h⟩ := bind_some h
      refine pkk_sound TTok mix hF 7 (hs := [.t true]) (ts := []) (s := [0, 1, 2, 3, 4]) (l := [0, 1, 32, 33, 34]) (by kernel_rfl) (by kernel_rfl) (.cons (dt h126) .nil) (G_ringref3_Disk_Crash_h_C1_ok hF (.s (cR (cR (cR (cP (cB (cR (cL (cR (cR (bodyOf Try.f12)))))))))) :: .l k (cP (cB (cR (cL (cR (cR (bodyOf Try.f12))))))) :: ks) n v_kept136 v_d135 v_x137 v_w138 _ h147 ?_)
      cases v_o154 with
      | x0 v_z155 =>
        try dsimp only at h
        exact pkk_sound TTok mix hF 1 (hs := []) (ts := []) (s := [0, 1, 2, 3, 4]) (l := [0, 1, 32, 33, 34]) (by kernel_rfl) (by kernel_rfl) .nil (G_ringref3_Disk_Crash_h_L2_ok hF ks n v_kept136 v_d135 k (wi .i64 (v_x137 + 1)) v_z155 _ h q)
    · rw [if_neg h126] at h
      cases h
      exact pkk_sound TTok mix hF 8 (hs := [.t false]) (ts := []) (s := [0, 1, 2, 3, 4]) (l := [0]) (by kernel_rfl) (by kernel_rfl) (.cons (df h126) .nil) q
/- (*ringhall/ringref3.Disk).Crash -/
def G_ringref3_Disk_Crash_h (n : Nat) (v_d135 : S_ringref3_Disk) (v_kept136 : (List Bool)) : Option (S_ringref3_Disk) :=
  if 0 ≤ v_d135.fMark ∧ v_d135.fMark ≤ (v_d135.fAll.length : Int) then
   if 0 ≤ v_d135.fMark ∧ v_d135.fMark ≤ (v_d135.fAll.length : Int) then
    (G_ringref3_Disk_Crash_h_L2 n v_kept136 v_d135 n 0 (v_d135.fAll.take v_d135.fMark.toNat)).bind fun v_o157 => match v_o157 with
    | .x0 v_z158 =>
      some (S_ringref3_Disk.mk v_d135.fSectors (v_z158.length : Int) (-1) v_z158)
   else none
  else none
theorem G_ringref3_Disk_Crash_h_ok (n : Nat) (v_d135 : S_ringref3_Disk) (v_kept136 : (List Bool)) (r : S_ringref3_Disk) (h : G_ringref3_Disk_Crash_h n v_d135 v_kept136 = some r) : RetH Try.prog 12 [.ref 0 0, .d ((eL eB) v_kept136)] [.box [.d (.v (.int .i64 v_d135.fSectors)), .d (.v (.int .i64 v_d135.fMark)), .d (.v (.int .i64 v_d135.fFuse)), .srf 1], .cu (rowF 56 2 (v_d135.fAll.map eS_ringref3_Put)) []] (.tup []) [.box [.d (.v (.int .i64 r.fSectors)), .d (.v (.int .i64 r.fMark)), .d (.v (.int .i64 r.fFuse)), .srf 2], .none, .cu (rowF 56 2 (r.fAll.map eS_ringref3_Put)) []] := by
  refine retH_run (n := 71) (fn := Try.f12) (c := bodyOf Try.f12) (by kernel_rfl) (by kernel_rfl) (by kernel_rfl) (by kernel_rfl) ?_
  have hF : KC 71 (FinH Try.prog Try.f12 [.box [.d (.v (.int .i64 v_d135.fSectors)), .d (.v (.int .i64 v_d135.fMark)), .d (.v (.int .i64 v_d135.fFuse)), .srf 1], .cu (rowF 56 2 (v_d135.fAll.map eS_ringref3_Put)) []] (.tup []) [.box [.d (.v (.int .i64 r.fSectors)), .d (.v (.int .i64 r.fMark)), .d (.v (.int .i64 r.fFuse)), .srf 2], .none, .cu (rowF 56 2 (r.fAll.map eS_ringref3_Put)) []]) := FinH.kc' (by kernel_rfl)
  unfold G_ringref3_Disk_Crash_h at h
  by_cases h124 : 0 ≤ v_d135.fMark ∧ v_d135.fMark ≤ (v_d135.fAll.length : Int)
  · rw [if_pos h124] at h
    by_cases h125 : 0 ≤ v_d135.fMark ∧ v_d135.fMark ≤ (v_d135.fAll.length : Int)
    · rw [if_pos h125] at h
      obtain ⟨v_o157, h148, h⟩ := bind_some h
      refine pkk_sound TTok mix hF 9 (hs := [.c, .c, .e 44 [1] (.ssl 1 v_d135.fMark.toNat v_d135.fAll.length 2) [], .c, .c, .c, .e 119 [1, 119] (.srf 119) [(1, .none), (119, .cu (splC 56 2 (v_d135.fAll.map eS_ringref3_Put) ((v_d135.fAll.take v_d135.fMark.toNat).map eS_ringref3_Put)) [.srf 1])], .c, .e 144 [] (.d (.v (.int .i64 ((v_d135.fAll.length - v_d135.fMark.toNat : Nat) : Int)))) [], .n n]) (ts := []) (s := [2, 3, 0, 119, 1]) (l := [0, 1, 32, 33, 34]) (by kernel_rfl) (by kernel_rfl) (.cons (lmap (fsl10 (P := Try.prog) (T := TT) (t := 39) (e := 56) (s := 2) (l := 1) (xs := (v_d135.fAll.map eS_ringref3_Put)) (x := (.tmp 10)) (lo := (.tmp 14)) (ka := .i64) (i := v_d135.fMark) (by kernel_rfl) (by rw [List.length_map]; exact h124))) (.cons (fclip (P := Try.prog) (T := TT) (t := 39) (e := 56) (s := 2) (l := 1) (xs := (v_d135.fAll.map eS_ringref3_Put)) (x := (.tmp 20)) (nl := 119) (ys := ((v_d135.fAll.take v_d135.fMark.toNat).map eS_ringref3_Put)) (hi := (.tmp 24)) (mx := (.tmp 28)) (kb := .i64) (kc := .i64) (i := v_d135.fMark) (by kernel_rfl) (by rw [List.length_map]; exact h125) (by rw [List.map_take]) (by decide)) (.cons (show 3 + 1 ≤ 4 by decide) (.cons (xlen (P := Try.prog) (T := TT) (t := 39) (e := 56) (s := 2) (l := 1) (i := v_d135.fMark.toNat) (j := v_d135.fAll.length) (x := (.tmp 32)) (by kernel_rfl)) .nil)))) (G_ringref3_Disk_Crash_h_L2_ok hF (.b 0 :: .s (cR (cR (cR (bodyOf Try.f12)))) :: []) n v_kept136 v_d135 n 0 (v_d135.fAll.take v_d135.fMark.toNat) _ h148 ?_)
      cases v_o157 with
      | x0 v_z158 =>
        try dsimp only at h
        obtain rfl := Option.some.inj h
        exact pendH_sound TTok mix 3 (hs := [.c, .e 35 [3] (.d (.v (.int .i64 (v_z158.length : Int)))) [], .c, .c, .sx [3] (toF 3 56 2 (v_z158.map eS_ringref3_Put))]) [2, 4, 3] (by kernel_rfl) (by kernel_rfl) (by kernel_rfl) (.cons (lmap' (slen (P := Try.prog) (T := TT) (t := 39) (A := 3) (l := 4) (e := 56) (s := 2) (xs := (v_d135.fAll.map eS_ringref3_Put)) (ys := (v_z158.map eS_ringref3_Put)) (x := (.tmp 65)) (by kernel_rfl))) (.cons (show 1 + 1 ≤ 4 by decide) (.cons (show 2 + 1 ≤ 4 by decide) (.cons (spl_toF (l := 3) (L := 4) (e := 56) (s := 2) (xs := (v_d135.fAll.map eS_ringref3_Put)) (ys := (v_z158.map eS_ringref3_Put))) .nil))))
    · rw [if_neg h125] at h; cases h
  · rw [if_neg h124] at h; cases h
/- (*ringhall/disk.Disk).Fuse -/
def G_disk_Disk_Fuse_h (n : Nat) (v_d160 : S_disk_Disk) (v_n161 : Int) : Option (S_disk_Disk) :=
  if v_d160.ffuse = 0 then
   some v_d160
  else
   some (S_disk_Disk.mk v_d160.fsafe v_d160.fnow v_d160.fwait (maxI (-1) v_n161))
theorem G_disk_Disk_Fuse_h_ok (n : Nat) (v_d160 : S_disk_Disk) (v_n161 : Int) (r : S_disk_Disk) (h : G_disk_Disk_Fuse_h n v_d160 v_n161 = some r) : RetH Try.prog 13 [.ref 0 0, .d ((eI .i64) v_n161)] [.box [.srf 1, .srf 2, .srf 3, .d (.v (.int .i64 v_d160.ffuse))], .row 5 1 (v_d160.fsafe.map (eI .u8)), .row 5 1 (v_d160.fnow.map (eI .u8)), .row 54 2 (v_d160.fwait.map eS_disk_write)] (.tup []) [.box [.srf 4, .srf 5, .srf 6, .d (.v (.int .i64 r.ffuse))], .none, .none, .none, .row 5 1 (r.fsafe.map (eI .u8)), .row 5 1 (r.fnow.map (eI .u8)), .row 54 2 (r.fwait.map eS_disk_write)] := by
  refine retH_run (n := 14) (fn := Try.f13) (c := bodyOf Try.f13) (by kernel_rfl) (by kernel_rfl) (by kernel_rfl) (by kernel_rfl) ?_
  have hF : KC 14 (FinH Try.prog Try.f13 [.box [.srf 1, .srf 2, .srf 3, .d (.v (.int .i64 v_d160.ffuse))], .row 5 1 (v_d160.fsafe.map (eI .u8)), .row 5 1 (v_d160.fnow.map (eI .u8)), .row 54 2 (v_d160.fwait.map eS_disk_write)] (.tup []) [.box [.srf 4, .srf 5, .srf 6, .d (.v (.int .i64 r.ffuse))], .none, .none, .none, .row 5 1 (r.fsafe.map (eI .u8)), .row 5 1 (r.fnow.map (eI .u8)), .row 54 2 (r.fwait.map eS_disk_write)]) := FinH.kc' (by kernel_rfl)
  unfold G_disk_Disk_Fuse_h at h
  by_cases h151 : v_d160.ffuse = 0
  · rw [if_pos h151] at h
    obtain rfl := Option.some.inj h
    exact pendH_sound TTok mix 7 (hs := [.c, .t false, .dl 1, .mv 1, .mv 2, .mv 3]) [0, 1, 2, 3, 33, 34, 35] (by kernel_rfl) (by kernel_rfl) (by kernel_rfl) (.cons (nf h151) .nil)
  · rw [if_neg h151] at h
    obtain rfl := Option.some.inj h
    exact pendH_sound TTok mix 7 (hs := [.c, .t true, .c, .mv 1, .mv 2, .mv 3]) [0, 1, 2, 3, 63, 64, 65] (by kernel_rfl) (by kernel_rfl) (by kernel_rfl) (.cons (nt h151) (.cons (show 3 + 1 ≤ 4 by decide) .nil))
/- (*ringhall/ringref3.Disk).Fused -/
def G_ringref3_Disk_Fused_h (n : Nat) (v_d163 : S_ringref3_Disk) (v_n164 : Int) : Option (S_ringref3_Disk) :=
  if v_d163.fFuse = 0 then
   some v_d163
  else
   some (S_ringref3_Disk.mk v_d163.fSectors v_d163.fMark (maxI (-1) v_n164) v_d163.fAll)
theorem G_ringref3_Disk_Fused_h_ok (n : Nat) (v_d163 : S_ringref3_Disk) (v_n164 : Int) (r : S_ringref3_Disk) (h : G_ringref3_Disk_Fused_h n v_d163 v_n164 = some r) : RetH Try.prog 14 [.ref 0 0, .d ((eI .i64) v_n164)] [.box [.d (.v (.int .i64 v_d163.fSectors)), .d (.v (.int .i64 v_d163.fMark)), .d (.v (.int .i64 v_d163.fFuse)), .srf 1], .cu (rowF 56 2 (v_d163.fAll.map eS_ringref3_Put)) []] (.tup []) [.box [.d (.v (.int .i64 r.fSectors)), .d (.v (.int .i64 r.fMark)), .d (.v (.int .i64 r.fFuse)), .srf 2], .none, .cu (rowF 56 2 (r.fAll.map eS_ringref3_Put)) []] := by
  refine retH_run (n := 14) (fn := Try.f14) (c := bodyOf Try.f14) (by kernel_rfl) (by kernel_rfl) (by kernel_rfl) (by kernel_rfl) ?_
  have hF : KC 14 (FinH Try.prog Try.f14 [.box [.d (.v (.int .i64 v_d163.fSectors)), .d (.v (.int .i64 v_d163.fMark)), .d (.v (.int .i64 v_d163.fFuse)), .srf 1], .cu (rowF 56 2 (v_d163.fAll.map eS_ringref3_Put)) []] (.tup []) [.box [.d (.v (.int .i64 r.fSectors)), .d (.v (.int .i64 r.fMark)), .d (.v (.int .i64 r.fFuse)), .srf 2], .none, .cu (rowF 56 2 (r.fAll.map eS_ringref3_Put)) []]) := FinH.kc' (by kernel_rfl)
  unfold G_ringref3_Disk_Fused_h at h
  by_cases h153 : v_d163.fFuse = 0
  · rw [if_pos h153] at h
    obtain rfl := Option.some.inj h
    exact pendH_sound TTok mix 5 (hs := [.c, .t false, .dl 1, .sx [1] (fmvS 1 56 2 (v_d163.fAll.map eS_ringref3_Put))]) [0, 1, 29] (by kernel_rfl) (by kernel_rfl) (by kernel_rfl) (.cons (nf h153) (.cons (fmv (l := 1) (e := 56) (s := 2) (xs := (v_d163.fAll.map eS_ringref3_Put))) .nil))
  · rw [if_neg h153] at h
    obtain rfl := Option.some.inj h
    exact pendH_sound TTok mix 5 (hs := [.c, .t true, .c, .sx [1] (fmvS 1 56 2 (v_d163.fAll.map eS_ringref3_Put))]) [0, 1, 59] (by kernel_rfl) (by kernel_rfl) (by kernel_rfl) (.cons (nt h153) (.cons (show 2 + 1 ≤ 4 by decide) (.cons (fmv (l := 1) (e := 56) (s := 2) (xs := (v_d163.fAll.map eS_ringref3_Put))) .nil)))
/- (*ringhall/disk.Disk).Waiting -/
def G_disk_Disk_Waiting_h (n : Nat) (v_d318 : S_disk_Disk) : Option (Int × S_disk_Disk) :=
  some ((v_d318.fwait.length : Int), v_d318)
theorem G_disk_Disk_Waiting_h_ok (n : Nat) (v_d318 : S_disk_Disk) (r : Int × S_disk_Disk) (h : G_disk_Disk_Waiting_h n v_d318 = some r) : RetH Try.prog 15 [.ref 0 0] [.box [.srf 1, .srf 2, .srf 3, .d (.v (.int .i64 v_d318.ffuse))], .row 5 1 (v_d318.fsafe.map (eI .u8)), .row 5 1 (v_d318.fnow.map (eI .u8)), .row 54 2 (v_d318.fwait.map eS_disk_write)] (.d ((eI .i64) r.1)) [.box [.srf 4, .srf 5, .srf 6, .d (.v (.int .i64 r.2.ffuse))], .none, .none, .none, .row 5 1 (r.2.fsafe.map (eI .u8)), .row 5 1 (r.2.fnow.map (eI .u8)), .row 54 2 (r.2.fwait.map eS_disk_write)] := by
  refine retH_run (n := 8) (fn := Try.f15) (c := bodyOf Try.f15) (by kernel_rfl) (by kernel_rfl) (by kernel_rfl) (by kernel_rfl) ?_
  have hF : KC 8 (FinH Try.prog Try.f15 [.box [.srf 1, .srf 2, .srf 3, .d (.v (.int .i64 v_d318.ffuse))], .row 5 1 (v_d318.fsafe.map (eI .u8)), .row 5 1 (v_d318.fnow.map (eI .u8)), .row 54 2 (v_d318.fwait.map eS_disk_write)] (.d ((eI .i64) r.1)) [.box [.srf 4, .srf 5, .srf 6, .d (.v (.int .i64 r.2.ffuse))], .none, .none, .none, .row 5 1 (r.2.fsafe.map (eI .u8)), .row 5 1 (r.2.fnow.map (eI .u8)), .row 54 2 (r.2.fwait.map eS_disk_write)]) := FinH.kc' (by kernel_rfl)
  unfold G_disk_Disk_Waiting_h at h
  obtain rfl := Option.some.inj h
  exact pendH_sound TTok mix 8 (hs := [.c, .u (.d (.v (.int .i64 (v_d318.fwait.length : Int)))), .dl 1, .mv 1, .mv 2, .mv 3]) [0, 1, 2, 3, 43, 44, 45] (by kernel_rfl) (by kernel_rfl) (by kernel_rfl) (.cons (len_ob (f := eS_disk_write) (l := v_d318.fwait)) .nil)
/- (*ringhall/disk.Disk).Dead -/
def G_disk_Disk_Dead_h (n : Nat) (v_d320 : S_disk_Disk) : Option (Bool × S_disk_Disk) :=
  some ((v_d320.ffuse == 0), v_d320)
theorem G_disk_Disk_Dead_h_ok (n : Nat) (v_d320 : S_disk_Disk) (r : Bool × S_disk_Disk) (h : G_disk_Disk_Dead_h n v_d320 = some r) : RetH Try.prog 16 [.ref 0 0] [.box [.srf 1, .srf 2, .srf 3, .d (.v (.int .i64 v_d320.ffuse))], .row 5 1 (v_d320.fsafe.map (eI .u8)), .row 5 1 (v_d320.fnow.map (eI .u8)), .row 54 2 (v_d320.fwait.map eS_disk_write)] (.d (eB r.1)) [.box [.srf 4, .srf 5, .srf 6, .d (.v (.int .i64 r.2.ffuse))], .none, .none, .none, .row 5 1 (r.2.fsafe.map (eI .u8)), .row 5 1 (r.2.fnow.map (eI .u8)), .row 54 2 (r.2.fwait.map eS_disk_write)] := by
  refine retH_run (n := 8) (fn := Try.f16) (c := bodyOf Try.f16) (by kernel_rfl) (by kernel_rfl) (by kernel_rfl) (by kernel_rfl) ?_
  have hF : KC 8 (FinH Try.prog Try.f16 [.box [.srf 1, .srf 2, .srf 3, .d (.v (.int .i64 v_d320.ffuse))], .row 5 1 (v_d320.fsafe.map (eI .u8)), .row 5 1 (v_d320.fnow.map (eI .u8)), .row 54 2 (v_d320.fwait.map eS_disk_write)] (.d (eB r.1)) [.box [.srf 4, .srf 5, .srf 6, .d (.v (.int .i64 r.2.ffuse))], .none, .none, .none, .row 5 1 (r.2.fsafe.map (eI .u8)), .row 5 1 (r.2.fnow.map (eI .u8)), .row 54 2 (r.2.fwait.map eS_disk_write)]) := FinH.kc' (by kernel_rfl)
  unfold G_disk_Disk_Dead_h at h
  obtain rfl := Option.some.inj h
  exact pendH_sound TTok mix 8 (hs := [.c, .dl 1, .mv 1, .mv 2, .mv 3]) [0, 1, 2, 3, 43, 44, 45] (by kernel_rfl) (by kernel_rfl) (by kernel_rfl) .nil
/- (*ringhall/disk.Disk).Read -/
def G_disk_Disk_Read_h (n : Nat) (v_d344 : S_disk_Disk) (v_n345 : Int) : Option ((List Int) × Int × S_disk_Disk) :=
  if v_n345 < 0 then
   some (([] : (List Int)), 1, v_d344)
  else
   (G_disk_Disk_Size_h n v_d344).bind fun (v_r347 : (Int × S_disk_Disk)) =>
   if v_n345 ≥ v_r347.1 then
    some (([] : (List Int)), 1, v_r347.2)
   else
    if ((0 : Int) ≤ (wi .i64 (v_n345 * 64)) ∧ (wi .i64 (v_n345 * 64)) ≤ (wi .i64 ((wi .i64 (v_n345 + 1)) * 64)) ∧ (wi .i64 ((wi .i64 (v_n345 + 1)) * 64)) ≤ (v_r347.2.fnow.length : Int)) then
     if (wi .i64 (v_n345 * 64)).toNat ≤ (wi .i64 ((wi .i64 (v_n345 + 1)) * 64)).toNat ∧ (wi .i64 ((wi .i64 (v_n345 + 1)) * 64)).toNat ≤ v_r347.2.fnow.length then
      (G_slices_Clone_byte_byte n ((v_r347.2.fnow.take ((wi .i64 ((wi .i64 (v_n345 + 1)) * 64)).toNat)).drop ((wi .i64 (v_n345 * 64)).toNat))).bind fun (v_r348 : (List Int)) =>
      some (v_r348, 0, v_r347.2)
     else none
    else none
theorem G_disk_Disk_Read_h_ok (n : Nat) (v_d344 : S_disk_Disk) (v_n345 : Int) (r : (List Int) × Int × S_disk_Disk) (h : G_disk_Disk_Read_h n v_d344 v_n345 = some r) : RetH Try.prog 17 [.ref 0 0, .d ((eI .i64) v_n345)] [.box [.srf 1, .srf 2, .srf 3, .d (.v (.int .i64 v_d344.ffuse))], .row 5 1 (v_d344.fsafe.map (eI .u8)), .row 5 1 (v_d344.fnow.map (eI .u8)), .row 54 2 (v_d344.fwait.map eS_disk_write)] (.tup [.d ((eL (eI .u8)) r.1), .d ((eI .i64) r.2.1)]) [.box [.srf 4, .srf 5, .srf 6, .d (.v (.int .i64 r.2.2.ffuse))], .none, .none, .none, .row 5 1 (r.2.2.fsafe.map (eI .u8)), .row 5 1 (r.2.2.fnow.map (eI .u8)), .row 54 2 (r.2.2.fwait.map eS_disk_write)] := by
  refine retH_run (n := 25) (fn := Try.f17) (c := bodyOf Try.f17) (by kernel_rfl) (by kernel_rfl) (by kernel_rfl) (by kernel_rfl) ?_
  have hF : KC 25 (FinH Try.prog Try.f17 [.box [.srf 1, .srf 2, .srf 3, .d (.v (.int .i64 v_d344.ffuse))], .row 5 1 (v_d344.fsafe.map (eI .u8)), .row 5 1 (v_d344.fnow.map (eI .u8)), .row 54 2 (v_d344.fwait.map eS_disk_write)] (.tup [.d ((eL (eI .u8)) r.1), .d ((eI .i64) r.2.1)]) [.box [.srf 4, .srf 5, .srf 6, .d (.v (.int .i64 r.2.2.ffuse))], .none, .none, .none, .row 5 1 (r.2.2.fsafe.map (eI .u8)), .row 5 1 (r.2.2.fnow.map (eI .u8)), .row 54 2 (r.2.2.fwait.map eS_disk_write)]) := FinH.kc' (by kernel_rfl)
  unfold G_disk_Disk_Read_h at h
  by_cases h207 : v_n345 < 0
  · rw [if_pos h207] at h
    obtain rfl := Option.some.inj h
    exact pendH_sound TTok mix 13 (hs := [.t true, .c, .c, .c, .c, .dl 4, .mv 1, .mv 2, .mv 3]) [0, 1, 2, 3, 68, 69, 70] (by kernel_rfl) (by kernel_rfl) (by kernel_rfl) (.cons (dt h207) .nil)
  · rw [if_neg h207] at h
    obtain ⟨v_r347, h208, h⟩ := bind_some h
    by_cases h209 : v_n345 ≥ v_r347.1
    · rw [if_pos h209] at h
      obtain rfl := Option.some.inj h
      exact pendH_sound TTok mix 10 (hs := [.t false, .c, .c, .h [0, 1, 2, 3] [] [.box [.srf 4, .srf 5, .srf 6, .d (.v (.int .i64 v_r347.2.ffuse))], .none, .none, .none, .row 5 1 (v_r347.2.fsafe.map (eI .u8)), .row 5 1 (v_r347.2.fnow.map (eI .u8)), .row 54 2 (v_r347.2.fwait.map eS_disk_write)] (.d (.v (.int .i64 v_r347.1))), .c, .t true]) [0, 1, 2, 3, 43, 44, 45] (by kernel_rfl) (by kernel_rfl) (by kernel_rfl) (.cons (df h207) (.cons (G_disk_Disk_Size_h_ok n v_d344 _ h208) (.cons (dt h209) .nil)))
    · rw [if_neg h209] at h
      by_cases h210 : ((0 : Int) ≤ (wi .i64 (v_n345 * 64)) ∧ (wi .i64 (v_n345 * 64)) ≤ (wi .i64 ((wi .i64 (v_n345 + 1)) * 64)) ∧ (wi .i64 ((wi .i64 (v_n345 + 1)) * 64)) ≤ (v_r347.2.fnow.length : Int))
      · rw [if_pos h210] at h
        by_cases h211 : (wi .i64 (v_n345 * 64)).toNat ≤ (wi .i64 ((wi .i64 (v_n345 + 1)) * 64)).toNat ∧ (wi .i64 ((wi .i64 (v_n345 + 1)) * 64)).toNat ≤ v_r347.2.fnow.length
        · rw [if_pos h211] at h
          obtain ⟨v_r348, h212, h⟩ := bind_some h
          obtain rfl := Option.some.inj h
          exact pendH_sound TTok mix 11 (hs := [.t false, .c, .c, .h [0, 1, 2, 3] [] [.box [.srf 4, .srf 5, .srf 6, .d (.v (.int .i64 v_r347.2.ffuse))], .none, .none, .none, .row 5 1 (v_r347.2.fsafe.map (eI .u8)), .row 5 1 (v_r347.2.fnow.map (eI .u8)), .row 54 2 (v_r347.2.fwait.map eS_disk_write)] (.d (.v (.int .i64 v_r347.1))), .c, .t false, .c, .e 103 [44] (.ssl 44 ((wi .i64 (v_n345 * 64)).toNat) ((wi .i64 ((wi .i64 (v_n345 + 1)) * 64)).toNat) 1) [], .e 108 [44, 108] (.srf 108) [(108, .row 5 1 (v_r348.map (eI .u8)))], .dl 1, .fz 108]) [0, 1, 2, 3, 43, 44, 45] (by kernel_rfl) (by kernel_rfl) (by kernel_rfl) (.cons (df h207) (.cons (G_disk_Disk_Size_h_ok n v_d344 _ h208) (.cons (df h209) (.cons (xs11 (P := Try.prog) (T := TT) (f := (eI .u8)) (t := 30) (e := 5) (s := 1) (l := 44) (L := v_r347.2.fnow) (x := (.tmp 17)) (lo := (.tmp 19)) (hi := (.tmp 22)) (a := (wi .i64 (v_n345 * 64))) (ka := .i64) (b := (wi .i64 ((wi .i64 (v_n345 + 1)) * 64))) (kb := .i64) (by kernel_rfl) h210) (.cons (cpart (P := Try.prog) (T := TT) (f := .func 23) (args := #[(.tmp 23)]) (tys := #[30]) (g := 23) (l := 44) (e := 5) (s := 1) (i := (wi .i64 (v_n345 * 64)).toNat) (j := (wi .i64 ((wi .i64 (v_n345 + 1)) * 64)).toNat) (nl := 108) (xs := (v_r347.2.fnow.map (eI .u8))) (ys := (((v_r347.2.fnow.take ((wi .i64 ((wi .i64 (v_n345 + 1)) * 64)).toNat)).drop ((wi .i64 (v_n345 * 64)).toNat)).map (eI .u8))) (by simp only [List.map_drop, List.map_take]) (by rw [List.length_map]; exact h211) (G_slices_Clone_byte_byte_ok n _ _ h212) (flat_map _ (fun _ => rfl))) .nil)))))
        · rw [if_neg h211] at h; cases h
      · rw [if_neg h210] at h; cases h
def G_strings_Repeat (n : Nat) (s : ByteArray) (c : Int) : Option ByteArray := if 0 ≤ c ∧ c ≤ 9223372036854775807 ∧ s.size * c.toNat ≤ 140737488355328 then some ⟨(Lib.repeatL s.data.toList c.toNat).toArray⟩ else none
theorem G_strings_Repeat_ok (n : Nat) (s : ByteArray) (c : Int) (r : ByteArray) (h : G_strings_Repeat n s c = some r) : Ret Try.prog 27 [eS s, eI .i64 c] (eS r) := by
  unfold G_strings_Repeat at h
  split at h
  · rename_i q
    obtain ⟨q1, q2, q3⟩ := q
    obtain rfl := Option.some.inj h
    obtain ⟨c, rfl⟩ := Int.eq_ofNat_of_zero_le q1
    refine ⟨⟨Try.f27, by kernel_rfl, by kernel_rfl, by kernel_rfl⟩, fun ow w vs _ hv => ?_⟩
    simp only [RT, R, eS, eI] at hv
    obtain ⟨_, _, rfl, ⟨rfl, _⟩, _, _, rfl, ⟨rfl, _⟩, rfl⟩ := hv
    refine (Try.strings_Repeat s c w (by omega) (by simpa using q3)).mono ?_
    rintro e w' ⟨rfl, hb⟩
    exact ⟨_, rfl, hb, rfl, rfl⟩
  · cases h
inductive G_ringref3_last_L1_R where
  | x0 (v_x362 : ByteArray)
  | x1 
def G_ringref3_last_L1_ex : G_ringref3_last_L1_R → Ex
  | .x0 _ => .ret
  | .x1  => .exit 0
def G_ringref3_last_L1_st (v_l352 : (List S_ringref3_Put)) (v_n353 : Int) : G_ringref3_last_L1_R → PS
  | .x0 v_x362 => ⟨[dd, dd, dd, dd, .d (.v (.string v_x362)), dd, dd, dd, dd, dd, dd, dd, dd, dd, dd, dd, dd, dd, dd, dd, dd, dd, dd, dd, dd, dd], []⟩
  | .x1  => ⟨[dd, dd, dd, dd, dd, dd, dd, dd, dd, dd, dd, dd, dd, dd, dd, dd, dd, dd, dd, dd, dd, dd, dd, dd, dd, dd], []⟩
def G_ringref3_last_L1_hd (v_l352 : (List S_ringref3_Put)) (v_n353 : Int) (v_i354 : Int) : PS := ⟨[.d (.sl (v_l352.map eS_ringref3_Put)), .d (.v (.int .i64 v_n353)), dd, dd, dd, .d (.v (.int .i64 v_i354)), dd, dd, dd, dd, dd, dd, dd, dd, dd, dd, dd, dd, dd, dd, dd, dd, dd, dd, dd, dd], []⟩
def G_ringref3_last_L1 (n : Nat) (v_l352 : (List S_ringref3_Put)) (v_n353 : Int) : Nat → Int → Option G_ringref3_last_L1_R
  | 0, _ => none
  | k + 1, v_i354 =>
    if v_i354 ≥ 0 then
     (getI v_l352 v_i354).bind fun (v_y359 : S_ringref3_Put) =>
     if v_y359.fN = v_n353 then
      (getI v_l352 v_i354).bind fun (v_y361 : S_ringref3_Put) =>
      some (.x0 v_y361.fData)
     else
      G_ringref3_last_L1 n v_l352 v_n353 k (wi .i64 (v_i354 - 1))
    else
     some (.x1 )
theorem G_ringref3_last_L1_ok {Fi : Ex → PS → Prop} (hF : KC 26 Fi) (ks : List Fr) (n : Nat) (v_l352 : (List S_ringref3_Put)) (v_n353 : Int)  : ∀ (k : Nat) (v_i354 : Int) (o : G_ringref3_last_L1_R), G_ringref3_last_L1 n v_l352 v_n353 k v_i354 = some o → RunE Try.prog 26 Fi ks (G_ringref3_last_L1_ex o) (G_ringref3_last_L1_st v_l352 v_n353 o) → RunE Try.prog 26 Fi (.l k (cP (cB (cR (cL (cR (bodyOf Try.f25)))))) :: ks) .normal (G_ringref3_last_L1_hd v_l352 v_n353 v_i354)
  | 0, v_i354, o, h, q => by rw [G_ringref3_last_L1] at h; cases h
  | k + 1, v_i354, o, h, q => by
    rw [G_ringref3_last_L1] at h
    by_cases h224 : v_i354 ≥ 0
    · rw [if_pos h224] at h
      obtain ⟨v_y359, h230, h⟩ := bind_some h
      by_cases h233 : v_y359.fN = v_n353
      · rw [if_pos h233] at h
        obtain ⟨v_y361, h234, h⟩ := bind_some h
        cases h
        exact pkk_sound TTok mix hF 17 (hs := [.t true, .y (eS_ringref3_Put v_y359), .c, .t true, .y (eS_ringref3_Put v_y361), .c]) (ts := []) (s := []) (l := [4]) (by kernel_rfl) (by kernel_rfl) (.cons (dt h224) (.cons (getI_ob (f := eS_ringref3_Put) h230) (.cons (bt h233) (.cons (getI_ob (f := eS_ringref3_Put) h234) .nil)))) q
      · rw [if_neg h233] at h
        exact pkk_sound TTok mix hF 14 (hs := [.t true, .y (eS_ringref3_Put v_y359), .c, .t false]) (ts := []) (s := []) (l := [0, 1, 5]) (by kernel_rfl) (by kernel_rfl) (.cons (dt h224) (.cons (getI_ob (f := eS_ringref3_Put) h230) (.cons (bf h233) .nil))) (G_ringref3_last_L1_ok hF ks n v_l352 v_n353 k (wi .i64 (v_i354 - 1)) _ h q)
    · rw [if_neg h224] at h
      cases h
      exact pkk_sound TTok mix hF 8 (hs := [.t false]) (ts := []) (s := []) (l := []) (by kernel_rfl) (by kernel_rfl) (.cons (df h224) .nil) q
/- ringhall/ringref3.last -/
def G_ringref3_last (n : Nat) (v_l352 : (List S_ringref3_Put)) (v_n353 : Int) : Option (ByteArray) :=
  (G_ringref3_last_L1 n v_l352 v_n353 n (wi .i64 ((v_l352.length : Int) - 1))).bind fun v_o363 => match v_o363 with
  | .x0 v_z364 =>
    some v_z364
  | .x1  =>
    (G_strings_Repeat n (ByteArray.mk #[0]) 64).bind fun (v_r365 : (ByteArray)) =>
    some v_r365
theorem G_ringref3_last_ok (n : Nat) (v_l352 : (List S_ringref3_Put)) (v_n353 : Int) (r : ByteArray) (h : G_ringref3_last n v_l352 v_n353 = some r) : Ret Try.prog 25 [(eL eS_ringref3_Put) v_l352, (eI .i64) v_n353] (eS r) := by
  refine ret_run (n := 26) (fn := Try.f25) (c := bodyOf Try.f25) (by kernel_rfl) (by kernel_rfl) (by kernel_rfl) (by kernel_rfl) ?_
  have hF : KC 26 (FinR Try.prog Try.f25 (eS r)) := FinR.kc' (by kernel_rfl)
  unfold G_ringref3_last at h
  obtain ⟨v_o363, h235, h⟩ := bind_some h
  refine pkk_sound TTok mix hF 7 (hs := [.u (.d (.v (.int .i64 (v_l352.length : Int)))), .n n]) (ts := []) (s := []) (l := [0, 1, 5]) (by kernel_rfl) (by kernel_rfl) (.cons (len_ob (f := eS_ringref3_Put) (l := v_l352)) .nil) (G_ringref3_last_L1_ok hF (.b 0 :: .s (cR (cR (bodyOf Try.f25))) :: []) n v_l352 v_n353 n (wi .i64 ((v_l352.length : Int) - 1)) _ h235 ?_)
  cases v_o363 with
  | x0 v_z364 =>
    try dsimp only at h
    obtain rfl := Option.some.inj h
    exact pend_sound TTok mix 2 (hs := []) (by kernel_rfl) (by kernel_rfl) (by kernel_rfl) .nil
  | x1  =>
    try dsimp only at h
    obtain ⟨v_r365, h236, h⟩ := bind_some h
    obtain rfl := Option.some.inj h
    exact pend_sound TTok mix 4 (hs := [.r (eS v_r365)]) (by kernel_rfl) (by kernel_rfl) (by kernel_rfl) (.cons (G_strings_Repeat_ok n (ByteArray.mk #[0]) 64 _ h236) .nil)
/- (*ringhall/ringref3.Disk).Read -/
def G_ringref3_Disk_Read_h (n : Nat) (v_d350 : S_ringref3_Disk) (v_n351 : Int) : Option (ByteArray × S_ringref3_Disk) :=
  (G_ringref3_last n v_d350.fAll v_n351).bind fun (v_r366 : (ByteArray)) =>
  some (v_r366, v_d350)
theorem G_ringref3_Disk_Read_h_ok (n : Nat) (v_d350 : S_ringref3_Disk) (v_n351 : Int) (r : ByteArray × S_ringref3_Disk) (h : G_ringref3_Disk_Read_h n v_d350 v_n351 = some r) : RetH Try.prog 18 [.ref 0 0, .d ((eI .i64) v_n351)] [.box [.d (.v (.int .i64 v_d350.fSectors)), .d (.v (.int .i64 v_d350.fMark)), .d (.v (.int .i64 v_d350.fFuse)), .srf 1], .cu (rowF 56 2 (v_d350.fAll.map eS_ringref3_Put)) []] (.d (eS r.1)) [.box [.d (.v (.int .i64 r.2.fSectors)), .d (.v (.int .i64 r.2.fMark)), .d (.v (.int .i64 r.2.fFuse)), .srf 2], .none, .cu (rowF 56 2 (r.2.fAll.map eS_ringref3_Put)) []] := by
  refine retH_run (n := 11) (fn := Try.f18) (c := bodyOf Try.f18) (by kernel_rfl) (by kernel_rfl) (by kernel_rfl) (by kernel_rfl) ?_
  have hF : KC 11 (FinH Try.prog Try.f18 [.box [.d (.v (.int .i64 v_d350.fSectors)), .d (.v (.int .i64 v_d350.fMark)), .d (.v (.int .i64 v_d350.fFuse)), .srf 1], .cu (rowF 56 2 (v_d350.fAll.map eS_ringref3_Put)) []] (.d (eS r.1)) [.box [.d (.v (.int .i64 r.2.fSectors)), .d (.v (.int .i64 r.2.fMark)), .d (.v (.int .i64 r.2.fFuse)), .srf 2], .none, .cu (rowF 56 2 (r.2.fAll.map eS_ringref3_Put)) []]) := FinH.kc' (by kernel_rfl)
  unfold G_ringref3_Disk_Read_h at h
  obtain ⟨v_r366, h237, h⟩ := bind_some h
  obtain rfl := Option.some.inj h
  exact pendH_sound TTok mix 6 (hs := [.c, .c, .r (eS v_r366), .dl 1, .sx [1] (fmvS 1 56 2 (v_d350.fAll.map eS_ringref3_Put))]) [0, 1, 44] (by kernel_rfl) (by kernel_rfl) (by kernel_rfl) (.cons (G_ringref3_last_ok n v_d350.fAll v_n351 _ h237) (.cons (fmv (l := 1) (e := 56) (s := 2) (xs := (v_d350.fAll.map eS_ringref3_Put))) .nil))
/- (*ringhall/disk.Disk).Image -/
def G_disk_Disk_Image_h (n : Nat) (v_d1245 : S_disk_Disk) : Option ((List Int) × S_disk_Disk) :=
  (G_slices_Clone_byte_byte n v_d1245.fsafe).bind fun (v_r1246 : (List Int)) =>
  some (v_r1246, v_d1245)
theorem G_disk_Disk_Image_h_ok (n : Nat) (v_d1245 : S_disk_Disk) (r : (List Int) × S_disk_Disk) (h : G_disk_Disk_Image_h n v_d1245 = some r) : RetH Try.prog 20 [.ref 0 0] [.box [.srf 1, .srf 2, .srf 3, .d (.v (.int .i64 v_d1245.ffuse))], .row 5 1 (v_d1245.fsafe.map (eI .u8)), .row 5 1 (v_d1245.fnow.map (eI .u8)), .row 54 2 (v_d1245.fwait.map eS_disk_write)] (.d ((eL (eI .u8)) r.1)) [.box [.srf 4, .srf 5, .srf 6, .d (.v (.int .i64 r.2.ffuse))], .none, .none, .none, .row 5 1 (r.2.fsafe.map (eI .u8)), .row 5 1 (r.2.fnow.map (eI .u8)), .row 54 2 (r.2.fwait.map eS_disk_write)] := by
  refine retH_run (n := 8) (fn := Try.f20) (c := bodyOf Try.f20) (by kernel_rfl) (by kernel_rfl) (by kernel_rfl) (by kernel_rfl) ?_
  have hF : KC 8 (FinH Try.prog Try.f20 [.box [.srf 1, .srf 2, .srf 3, .d (.v (.int .i64 v_d1245.ffuse))], .row 5 1 (v_d1245.fsafe.map (eI .u8)), .row 5 1 (v_d1245.fnow.map (eI .u8)), .row 54 2 (v_d1245.fwait.map eS_disk_write)] (.d ((eL (eI .u8)) r.1)) [.box [.srf 4, .srf 5, .srf 6, .d (.v (.int .i64 r.2.ffuse))], .none, .none, .none, .row 5 1 (r.2.fsafe.map (eI .u8)), .row 5 1 (r.2.fnow.map (eI .u8)), .row 54 2 (r.2.fwait.map eS_disk_write)]) := FinH.kc' (by kernel_rfl)
  unfold G_disk_Disk_Image_h at h
  obtain ⟨v_r1246, h641, h⟩ := bind_some h
  obtain rfl := Option.some.inj h
  exact pendH_sound TTok mix 9 (hs := [.c, .e 33 [1, 33] (.srf 33) [(33, .row 5 1 (v_r1246.map (eI .u8)))], .dl 1, .fz 33, .mv 1, .mv 2, .mv 3]) [0, 1, 2, 3, 43, 44, 45] (by kernel_rfl) (by kernel_rfl) (by kernel_rfl) (.cons (cwhole (P := Try.prog) (T := TT) (f := .func 23) (args := #[(.tmp 6)]) (tys := #[30]) (g := 23) (l := 1) (e := 5) (s := 1) (nl := 33) (xs := (v_d1245.fsafe.map (eI .u8))) (G_slices_Clone_byte_byte_ok n _ _ h641) (flat_map _ (fun _ => rfl))) .nil)
/- (*ringhall/ringref3.Disk).Safe -/
def G_ringref3_Disk_Safe_h (n : Nat) (v_d1253 : S_ringref3_Disk) (v_n1254 : Int) : Option (ByteArray × S_ringref3_Disk) :=
  if 0 ≤ v_d1253.fMark ∧ v_d1253.fMark ≤ (v_d1253.fAll.length : Int) then
   if 0 ≤ v_d1253.fMark.toNat ∧ v_d1253.fMark.toNat ≤ v_d1253.fAll.length then
    (G_ringref3_last n ((v_d1253.fAll.take v_d1253.fMark.toNat).drop 0) v_n1254).bind fun (v_r1255 : (ByteArray)) =>
    some (v_r1255, v_d1253)
   else none
  else none
theorem G_ringref3_Disk_Safe_h_ok (n : Nat) (v_d1253 : S_ringref3_Disk) (v_n1254 : Int) (r : ByteArray × S_ringref3_Disk) (h : G_ringref3_Disk_Safe_h n v_d1253 v_n1254 = some r) : RetH Try.prog 26 [.ref 0 0, .d ((eI .i64) v_n1254)] [.box [.d (.v (.int .i64 v_d1253.fSectors)), .d (.v (.int .i64 v_d1253.fMark)), .d (.v (.int .i64 v_d1253.fFuse)), .srf 1], .cu (rowF 56 2 (v_d1253.fAll.map eS_ringref3_Put)) []] (.d (eS r.1)) [.box [.d (.v (.int .i64 r.2.fSectors)), .d (.v (.int .i64 r.2.fMark)), .d (.v (.int .i64 r.2.fFuse)), .srf 2], .none, .cu (rowF 56 2 (r.2.fAll.map eS_ringref3_Put)) []] := by
  refine retH_run (n := 16) (fn := Try.f26) (c := bodyOf Try.f26) (by kernel_rfl) (by kernel_rfl) (by kernel_rfl) (by kernel_rfl) ?_
  have hF : KC 16 (FinH Try.prog Try.f26 [.box [.d (.v (.int .i64 v_d1253.fSectors)), .d (.v (.int .i64 v_d1253.fMark)), .d (.v (.int .i64 v_d1253.fFuse)), .srf 1], .cu (rowF 56 2 (v_d1253.fAll.map eS_ringref3_Put)) []] (.d (eS r.1)) [.box [.d (.v (.int .i64 r.2.fSectors)), .d (.v (.int .i64 r.2.fMark)), .d (.v (.int .i64 r.2.fFuse)), .srf 2], .none, .cu (rowF 56 2 (r.2.fAll.map eS_ringref3_Put)) []]) := FinH.kc' (by kernel_rfl)
  unfold G_ringref3_Disk_Safe_h at h
  by_cases h644 : 0 ≤ v_d1253.fMark ∧ v_d1253.fMark ≤ (v_d1253.fAll.length : Int)
  · rw [if_pos h644] at h
    by_cases h645 : 0 ≤ v_d1253.fMark.toNat ∧ v_d1253.fMark.toNat ≤ v_d1253.fAll.length
    · rw [if_pos h645] at h
      obtain ⟨v_r1255, h646, h⟩ := bind_some h
      obtain rfl := Option.some.inj h
      exact pendH_sound TTok mix 6 (hs := [.c, .c, .e 49 [1] (.ssl 1 0 v_d1253.fMark.toNat 2) [], .e 59 [1] (.d (.v (.string v_r1255))) [], .dl 1, .sx [1] (fmvS 1 56 2 (v_d1253.fAll.map eS_ringref3_Put))]) [0, 1, 69] (by kernel_rfl) (by kernel_rfl) (by kernel_rfl) (.cons (fsl01 (P := Try.prog) (T := TT) (t := 39) (e := 56) (s := 2) (l := 1) (xs := (v_d1253.fAll.map eS_ringref3_Put)) (x := (.tmp 8)) (hi := (.tmp 12)) (ka := .i64) (i := v_d1253.fMark) (by kernel_rfl) (by rw [List.length_map]; exact h644)) (.cons (pcall (P := Try.prog) (T := TT) (f := .func 25) (args := #[(.tmp 13), (.tmp 14)]) (tys := #[39, 3]) (g := 25) (l := 1) (e := 56) (s := 2) (i := 0) (j := v_d1253.fMark.toNat) (xs := (v_d1253.fAll.map eS_ringref3_Put)) (ys := (((v_d1253.fAll.take v_d1253.fMark.toNat).drop 0).map eS_ringref3_Put)) (ps := [.v (.int .i64 v_n1254)]) (by simp only [List.map_drop, List.map_take]) (by rw [List.length_map]; exact h645) (G_ringref3_last_ok n ((v_d1253.fAll.take v_d1253.fMark.toNat).drop 0) v_n1254 _ h646) (by rfl)) (.cons (fmv (l := 1) (e := 56) (s := 2) (xs := (v_d1253.fAll.map eS_ringref3_Put))) .nil)))
    · rw [if_neg h645] at h; cases h
  · rw [if_neg h644] at h; cases h
inductive G_ringref3_Disk_Image_h_L1_R where
  | x0 (v_s1279 : ByteArray) (v_b1280 : Int) (v_b1281 : Int) (v_b1282 : Int) (v_w1283 : (List S_ringref3_Put))
def G_ringref3_Disk_Image_h_L1_ex : G_ringref3_Disk_Image_h_L1_R → Ex
  | .x0 _ _ _ _ _ => .exit 0
def G_ringref3_Disk_Image_h_L1_st (v_d1248 : S_ringref3_Disk) : G_ringref3_Disk_Image_h_L1_R → PS
  | .x0 v_s1279 v_b1280 v_b1281 v_b1282 v_w1283 => ⟨[dd, dd, dd, .d (.v (.string v_s1279)), dd, dd, dd, dd, dd, dd, dd, dd, dd, dd, dd, dd, dd, dd, dd], [.gh 0 (.ref 2 0), .gh 1 (.srf 4), .box [.d (.v (.int .i64 v_b1280)), .d (.v (.int .i64 v_b1281)), .d (.v (.int .i64 v_b1282)), .srf 3], .cu (rowF 56 2 (v_w1283.map eS_ringref3_Put)) [], .none]⟩
def G_ringref3_Disk_Image_h_L1_hd (v_d1248 : S_ringref3_Disk) (v_s1268 : ByteArray) (v_x1269 : Int) (v_b1270 : Int) (v_b1271 : Int) (v_b1272 : Int) (v_w1273 : (List S_ringref3_Put)) : PS := ⟨[.ref 2 0, dd, dd, .d (.v (.string v_s1268)), dd, dd, dd, dd, .d (.v (.int .i64 v_d1248.fSectors)), .d (.v (.int .i64 v_x1269)), dd, dd, dd, dd, dd, dd, dd, dd, dd], [.gh 0 (.ref 2 0), .gh 1 (.srf 4), .box [.d (.v (.int .i64 v_b1270)), .d (.v (.int .i64 v_b1271)), .d (.v (.int .i64 v_b1272)), .srf 3], .cu (rowF 56 2 (v_w1273.map eS_ringref3_Put)) [], .none]⟩
def G_ringref3_Disk_Image_h_L1 (n : Nat) (v_d1248 : S_ringref3_Disk) : Nat → ByteArray → Int → Int → Int → Int → (List S_ringref3_Put) → Option G_ringref3_Disk_Image_h_L1_R
  | 0, _, _, _, _, _, _ => none
  | k + 1, v_s1268, v_x1269, v_b1270, v_b1271, v_b1272, v_w1273 =>
    if v_x1269 < v_d1248.fSectors then
     (G_ringref3_Disk_Safe_h n (S_ringref3_Disk.mk v_b1270 v_b1271 v_b1272 v_w1273) v_x1269).bind fun (v_r1277 : (ByteArray × S_ringref3_Disk)) =>
     (catS v_s1268 v_r1277.1).bind fun (v_s1278 : ByteArray) =>
     G_ringref3_Disk_Image_h_L1 n v_d1248 k v_s1278 (wi .i64 (v_x1269 + 1)) v_r1277.2.fSectors v_r1277.2.fMark v_r1277.2.fFuse v_r1277.2.fAll
    else
     some (.x0 v_s1268 v_b1270 v_b1271 v_b1272 v_w1273)
theorem G_ringref3_Disk_Image_h_L1_ok {Fi : Ex → PS → Prop} (hF : KC 19 Fi) (ks : List Fr) (n : Nat) (v_d1248 : S_ringref3_Disk)  : ∀ (k : Nat) (v_s1268 : ByteArray) (v_x1269 : Int) (v_b1270 : Int) (v_b1271 : Int) (v_b1272 : Int) (v_w1273 : (List S_ringref3_Put)) (o : G_ringref3_Disk_Image_h_L1_R), G_ringref3_Disk_Image_h_L1 n v_d1248 k v_s1268 v_x1269 v_b1270 v_b1271 v_b1272 v_w1273 = some o → RunE Try.prog 19 Fi ks (G_ringref3_Disk_Image_h_L1_ex o) (G_ringref3_Disk_Image_h_L1_st v_d1248 o) → RunE Try.prog 19 Fi (.l k (cP (cB (cR (cL (cR (cR (bodyOf Try.f21))))))) :: ks) .normal (G_ringref3_Disk_Image_h_L1_hd v_d1248 v_s1268 v_x1269 v_b1270 v_b1271 v_b1272 v_w1273)
  | 0, v_s1268, v_x1269, v_b1270, v_b1271, v_b1272, v_w1273, o, h, q => by rw [G_ringref3_Disk_Image_h_L1] at h; cases h
  | k + 1, v_s1268, v_x1269, v_b1270, v_b1271, v_b1272, v_w1273, o, h, q => by
    rw [G_ringref3_Disk_Image_h_L1] at h
    by_cases h656 : v_x1269 < v_d1248.fSectors
    · rw [if_pos h656] at h
      obtain ⟨v_r1277, h659, h⟩ := bind_some h
      obtain ⟨v_s1278, h660, h⟩ := bind_some h
      exact pkk_sound TTok mix hF 13 (hs := [.t true, .h [2, 3] [] [.box [.d (.v (.int .i64 v_r1277.2.fSectors)), .d (.v (.int .i64 v_r1277.2.fMark)), .d (.v (.int .i64 v_r1277.2.fFuse)), .srf 2], .none, .cu (rowF 56 2 (v_r1277.2.fAll.map eS_ringref3_Put)) []] (.d (.v (.string v_r1277.1))), .e 40 [] (.d (.v (.string v_s1278))) []]) (ts := []) (s := [0, 1, 2, 35, 4]) (l := [0, 3, 8, 9]) (by kernel_rfl) (by kernel_rfl) (.cons (dt h656) (.cons (G_ringref3_Disk_Safe_h_ok n (S_ringref3_Disk.mk v_b1270 v_b1271 v_b1272 v_w1273) v_x1269 _ h659) (.cons (xcatS (P := Try.prog) (T := TT) (t := 9) (ty' := 9) (x := (.tmp 12)) (y := (.tmp 15)) (p := v_s1268) (q := v_r1277.1) (r := v_s1278) h660) .nil))) (G_ringref3_Disk_Image_h_L1_ok hF ks n v_d1248 k v_s1278 (wi .i64 (v_x1269 + 1)) v_r1277.2.fSectors v_r1277.2.fMark v_r1277.2.fFuse v_r1277.2.fAll _ h q)
    · rw [if_neg h656] at h
      cases h
      exact pkk_sound TTok mix hF 8 (hs := [.t false]) (ts := []) (s := [0, 1, 2, 3, 4]) (l := [3]) (by kernel_rfl) (by kernel_rfl) (.cons (df h656) .nil) q
/- (*ringhall/ringref3.Disk).Image -/
def G_ringref3_Disk_Image_h (n : Nat) (v_d1248 : S_ringref3_Disk) : Option (ByteArray × S_ringref3_Disk) :=
  (G_ringref3_Disk_Image_h_L1 n v_d1248 n (ByteArray.mk #[]) 0 v_d1248.fSectors v_d1248.fMark v_d1248.fFuse v_d1248.fAll).bind fun v_o1284 => match v_o1284 with
  | .x0 v_z1285 v_z1286 v_z1287 v_z1288 v_z1289 =>
    some (v_z1285, (S_ringref3_Disk.mk v_z1286 v_z1287 v_z1288 v_z1289))
theorem G_ringref3_Disk_Image_h_ok (n : Nat) (v_d1248 : S_ringref3_Disk) (r : ByteArray × S_ringref3_Disk) (h : G_ringref3_Disk_Image_h n v_d1248 = some r) : RetH Try.prog 21 [.ref 0 0] [.box [.d (.v (.int .i64 v_d1248.fSectors)), .d (.v (.int .i64 v_d1248.fMark)), .d (.v (.int .i64 v_d1248.fFuse)), .srf 1], .cu (rowF 56 2 (v_d1248.fAll.map eS_ringref3_Put)) []] (.d (eS r.1)) [.box [.d (.v (.int .i64 r.2.fSectors)), .d (.v (.int .i64 r.2.fMark)), .d (.v (.int .i64 r.2.fFuse)), .srf 2], .none, .cu (rowF 56 2 (r.2.fAll.map eS_ringref3_Put)) []] := by
  refine retH_run (n := 19) (fn := Try.f21) (c := bodyOf Try.f21) (by kernel_rfl) (by kernel_rfl) (by kernel_rfl) (by kernel_rfl) ?_
  have hF : KC 19 (FinH Try.prog Try.f21 [.box [.d (.v (.int .i64 v_d1248.fSectors)), .d (.v (.int .i64 v_d1248.fMark)), .d (.v (.int .i64 v_d1248.fFuse)), .srf 1], .cu (rowF 56 2 (v_d1248.fAll.map eS_ringref3_Put)) []] (.d (eS r.1)) [.box [.d (.v (.int .i64 r.2.fSectors)), .d (.v (.int .i64 r.2.fMark)), .d (.v (.int .i64 r.2.fFuse)), .srf 2], .none, .cu (rowF 56 2 (r.2.fAll.map eS_ringref3_Put)) []]) := FinH.kc' (by kernel_rfl)
  unfold G_ringref3_Disk_Image_h at h
  obtain ⟨v_o1284, h661, h⟩ := bind_some h
  refine pkk_sound TTok mix hF 10 (hs := [.c, .dl 1, .sx [1] (fmvS 1 56 2 (v_d1248.fAll.map eS_ringref3_Put)), .n n]) (ts := []) (s := [2, 3, 0, 39, 1]) (l := [0, 3, 8, 9]) (by kernel_rfl) (by kernel_rfl) (.cons (fmv (l := 1) (e := 56) (s := 2) (xs := (v_d1248.fAll.map eS_ringref3_Put))) .nil) (G_ringref3_Disk_Image_h_L1_ok hF (.b 0 :: .s (cR (cR (cR (bodyOf Try.f21)))) :: []) n v_d1248 n (ByteArray.mk #[]) 0 v_d1248.fSectors v_d1248.fMark v_d1248.fFuse v_d1248.fAll _ h661 ?_)
  cases v_o1284 with
  | x0 v_z1285 v_z1286 v_z1287 v_z1288 v_z1289 =>
    try dsimp only at h
    obtain rfl := Option.some.inj h
    exact pendH_sound TTok mix 4 (hs := []) [2, 4, 3] (by kernel_rfl) (by kernel_rfl) (by kernel_rfl) .nil
inductive G_ringlaw3_DiskPlays_C6_R where
  | x0 (v_x1011 : Bool)
  | x1 (v_b1012 : Int) (v_w1013 : (List Int)) (v_w1014 : (List Int)) (v_w1015 : (List S_disk_write)) (v_b1016 : Int) (v_b1017 : Int) (v_b1018 : Int) (v_w1019 : (List S_ringref3_Put))
  | x2 (v_w1050 : (List Int)) (v_w1051 : (List Int)) (v_w1052 : (List S_disk_write)) (v_w1053 : (List S_ringref3_Put))
def G_ringlaw3_DiskPlays_C6_ex : G_ringlaw3_DiskPlays_C6_R → Ex
  | .x0 _ => .ret
  | .x1 _ _ _ _ _ _ _ _ => .normal
  | .x2 _ _ _ _ => .normal
def G_ringlaw3_DiskPlays_C6_st (v_sectors1 : Int) (v_l2 : (List S_ringlaw3_Act)) (v_x696 : Int) (v_y930 : S_ringlaw3_Act) (v_b697 : Int) (v_w698 : (List Int)) (v_w699 : (List Int)) (v_w700 : (List S_disk_write)) (v_b701 : Int) (v_b702 : Int) (v_b703 : Int) (v_w704 : (List S_ringref3_Put)) : G_ringlaw3_DiskPlays_C6_R → PS
  | .x0 v_x1011 => ⟨[dd, dd, dd, dd, .d (.v (.bool v_x1011)), dd, dd, dd, dd, dd, dd, dd, dd, dd, dd, dd, dd, dd, dd, dd, dd, dd, dd, dd, dd, dd, dd, dd, dd, dd, dd, dd, dd, dd, dd, dd, dd, dd, dd, dd, dd, dd, dd, dd, dd, dd, dd, dd, dd, dd, dd, dd, dd, dd, dd, dd, dd, dd, dd, dd, dd, dd, dd, dd, dd, dd, dd, dd, dd, dd, dd, dd, dd, dd, dd, dd, dd, dd, dd, dd, dd, dd, dd, dd, dd, dd, dd, dd, dd, dd, dd, dd, dd, dd, dd, dd, dd, dd, dd, dd, dd, dd, dd, dd, dd, dd, dd, dd, dd, dd, dd, dd, dd, dd, dd, dd, dd, dd, dd, dd, dd, dd, dd, dd, dd, dd, dd, dd, dd, dd, dd, dd, dd, dd, dd, dd, dd, dd, dd, dd, dd, dd, dd, dd, dd, dd, dd, dd, dd, dd, dd, dd, dd, dd, dd, dd, dd, dd, dd, dd], []⟩
  | .x1 v_b1012 v_w1013 v_w1014 v_w1015 v_b1016 v_b1017 v_b1018 v_w1019 => ⟨[.d (.v (.int .i64 v_sectors1)), dd, dd, dd, dd, .ref 0 0, dd, .ref 4 0, dd, .ref 6 0, dd, dd, dd, dd, dd, dd, dd, dd, dd, dd, dd, dd, dd, dd, dd, dd, dd, dd, dd, dd, dd, dd, dd, dd, dd, dd, dd, dd, dd, dd, .d (.sl (v_l2.map eS_ringlaw3_Act)), .d (.v (.int .i64 (v_l2.length : Int))), .d (.v (.int .i64 v_x696)), dd, dd, dd, dd, dd, dd, dd, dd, dd, dd, dd, dd, dd, dd, dd, dd, dd, dd, dd, dd, dd, dd, dd, dd, dd, dd, dd, dd, dd, dd, dd, dd, dd, dd, dd, dd, dd, dd, dd, dd, dd, dd, dd, dd, dd, dd, dd, dd, dd, dd, dd, dd, dd, dd, dd, dd, dd, dd, dd, dd, dd, dd, dd, dd, dd, dd, dd, dd, dd, dd, dd, dd, dd, dd, dd, dd, dd, dd, dd, dd, dd, dd, dd, dd, dd, dd, dd, dd, dd, dd, dd, dd, dd, dd, dd, dd, dd, dd, dd, dd, dd, dd, dd, dd, dd, dd, dd, dd, dd, dd, dd, dd, dd, dd, dd, dd, dd], [.box [.srf 1, .srf 2, .srf 3, .d (.v (.int .i64 v_b1012))], .row 5 1 (v_w1013.map (eI .u8)), .row 5 1 (v_w1014.map (eI .u8)), .row 54 2 (v_w1015.map eS_disk_write), .box [.d (.v (.int .i64 v_b1016)), .d (.v (.int .i64 v_b1017)), .d (.v (.int .i64 v_b1018)), .srf 5], .cu (rowF 56 2 (v_w1019.map eS_ringref3_Put)) [], .box [.d (.v (.int .i64 v_y930.fKind)), .d (.v (.int .i64 v_y930.fN)), .d (.sl (v_y930.fData.map (eI .u8))), .d (.sl (v_y930.fKept.map eB))]]⟩
  | .x2 v_w1050 v_w1051 v_w1052 v_w1053 => ⟨[.d (.v (.int .i64 v_sectors1)), dd, dd, dd, dd, .ref 0 0, dd, .ref 4 0, dd, .ref 6 0, dd, dd, dd, dd, dd, dd, dd, dd, dd, dd, dd, dd, dd, dd, dd, dd, dd, dd, dd, dd, dd, dd, dd, dd, dd, dd, dd, dd, dd, dd, .d (.sl (v_l2.map eS_ringlaw3_Act)), .d (.v (.int .i64 (v_l2.length : Int))), .d (.v (.int .i64 v_x696)), dd, dd, dd, dd, dd, dd, dd, dd, dd, dd, dd, dd, dd, dd, dd, dd, dd, dd, dd, dd, dd, dd, dd, dd, dd, dd, dd, dd, dd, dd, dd, dd, dd, dd, dd, dd, dd, dd, dd, dd, dd, dd, dd, dd, dd, dd, dd, dd, dd, dd, dd, dd, dd, dd, dd, dd, dd, dd, dd, dd, dd, dd, dd, dd, dd, dd, dd, dd, dd, dd, dd, dd, dd, dd, dd, dd, dd, dd, dd, dd, dd, dd, dd, dd, dd, dd, dd, dd, dd, dd, dd, dd, dd, dd, dd, dd, dd, dd, dd, dd, dd, dd, dd, dd, dd, dd, dd, dd, dd, dd, dd, dd, dd, dd, dd, dd, dd], [.box [.srf 1, .srf 2, .srf 3, .d (.v (.int .i64 v_b697))], .row 5 1 (v_w1050.map (eI .u8)), .row 5 1 (v_w1051.map (eI .u8)), .row 54 2 (v_w1052.map eS_disk_write), .box [.d (.v (.int .i64 v_b701)), .d (.v (.int .i64 v_b702)), .d (.v (.int .i64 v_b703)), .srf 5], .cu (rowF 56 2 (v_w1053.map eS_ringref3_Put)) [], .box [.d (.v (.int .i64 v_y930.fKind)), .d (.v (.int .i64 v_y930.fN)), .d (.sl (v_y930.fData.map (eI .u8))), .d (.sl (v_y930.fKept.map eB))]]⟩
def G_ringlaw3_DiskPlays_C6_hd (v_sectors1 : Int) (v_l2 : (List S_ringlaw3_Act)) (v_x696 : Int) (v_y930 : S_ringlaw3_Act) (v_b697 : Int) (v_w698 : (List Int)) (v_w699 : (List Int)) (v_w700 : (List S_disk_write)) (v_b701 : Int) (v_b702 : Int) (v_b703 : Int) (v_w704 : (List S_ringref3_Put))  : PS := ⟨[.d (.v (.int .i64 v_sectors1)), dd, dd, dd, dd, .ref 0 0, dd, .ref 4 0, dd, .ref 6 0, dd, dd, dd, dd, dd, dd, dd, dd, dd, dd, dd, dd, dd, dd, dd, dd, dd, dd, dd, dd, dd, dd, dd, dd, dd, dd, dd, dd, dd, dd, .d (.sl (v_l2.map eS_ringlaw3_Act)), .d (.v (.int .i64 (v_l2.length : Int))), .d (.v (.int .i64 v_x696)), dd, dd, dd, dd, .d (.v (.int .i64 v_y930.fKind)), .d (.v (.bool (v_y930.fKind == 0))), dd, dd, dd, dd, dd, dd, dd, dd, dd, dd, dd, dd, dd, dd, dd, dd, dd, dd, dd, dd, dd, dd, dd, dd, dd, dd, dd, dd, dd, dd, dd, dd, dd, dd, dd, dd, dd, dd, dd, dd, dd, dd, dd, dd, dd, dd, dd, dd, dd, dd, dd, dd, dd, dd, dd, dd, dd, dd, dd, dd, dd, dd, dd, dd, dd, dd, dd, dd, dd, dd, dd, dd, dd, dd, dd, dd, dd, dd, dd, dd, dd, dd, dd, dd, dd, dd, dd, dd, dd, dd, dd, dd, dd, dd, dd, dd, dd, dd, dd, dd, dd, dd, dd, dd, dd, dd, dd, dd, dd, dd, dd], [.box [.srf 1, .srf 2, .srf 3, .d (.v (.int .i64 v_b697))], .row 5 1 (v_w698.map (eI .u8)), .row 5 1 (v_w699.map (eI .u8)), .row 54 2 (v_w700.map eS_disk_write), .box [.d (.v (.int .i64 v_b701)), .d (.v (.int .i64 v_b702)), .d (.v (.int .i64 v_b703)), .srf 5], .cu (rowF 56 2 (v_w704.map eS_ringref3_Put)) [], .box [.d (.v (.int .i64 v_y930.fKind)), .d (.v (.int .i64 v_y930.fN)), .d (.sl (v_y930.fData.map (eI .u8))), .d (.sl (v_y930.fKept.map eB))]]⟩
def G_ringlaw3_DiskPlays_C6 (n : Nat) (v_sectors1 : Int) (v_l2 : (List S_ringlaw3_Act)) (v_x696 : Int) (v_y930 : S_ringlaw3_Act) (v_b697 : Int) (v_w698 : (List Int)) (v_w699 : (List Int)) (v_w700 : (List S_disk_write)) (v_b701 : Int) (v_b702 : Int) (v_b703 : Int) (v_w704 : (List S_ringref3_Put)) : Option G_ringlaw3_DiskPlays_C6_R :=
  if v_y930.fKind = 0 then
   (G_disk_Disk_Write_h n (S_disk_Disk.mk v_w698 v_w699 v_w700 v_b697) v_y930.fN v_y930.fData).bind fun (v_r1009 : (Int × S_disk_Disk)) =>
   (G_ringref3_Disk_Write_h n (S_ringref3_Disk.mk v_b701 v_b702 v_b703 v_w704) v_y930.fN (b2s v_y930.fData)).bind fun (v_r1010 : (Int × S_ringref3_Disk)) =>
   if v_r1009.1 = v_r1010.1 then
    some (.x1 v_r1009.2.ffuse v_r1009.2.fsafe v_r1009.2.fnow v_r1009.2.fwait v_r1010.2.fSectors v_r1010.2.fMark v_r1010.2.fFuse v_r1010.2.fAll)
   else
    some (.x0 false)
  else
   if v_y930.fKind = 1 then
    (G_disk_Disk_Flush_h n (S_disk_Disk.mk v_w698 v_w699 v_w700 v_b697)).bind fun (v_r1020 : (S_disk_Disk)) =>
    (G_ringref3_Disk_Flush_h n (S_ringref3_Disk.mk v_b701 v_b702 v_b703 v_w704)).bind fun (v_r1021 : (S_ringref3_Disk)) =>
    some (.x1 v_r1020.ffuse v_r1020.fsafe v_r1020.fnow v_r1020.fwait v_r1021.fSectors v_r1021.fMark v_r1021.fFuse v_r1021.fAll)
   else
    if v_y930.fKind = 2 then
     (G_disk_Disk_Crash_h n (S_disk_Disk.mk v_w698 v_w699 v_w700 v_b697) v_y930.fKept).bind fun (v_r1030 : (S_disk_Disk)) =>
     (G_ringref3_Disk_Crash_h n (S_ringref3_Disk.mk v_b701 v_b702 v_b703 v_w704) v_y930.fKept).bind fun (v_r1031 : (S_ringref3_Disk)) =>
     some (.x1 v_r1030.ffuse v_r1030.fsafe v_r1030.fnow v_r1030.fwait v_r1031.fSectors v_r1031.fMark v_r1031.fFuse v_r1031.fAll)
    else
     if v_y930.fKind = 3 then
      (G_disk_Disk_Fuse_h n (S_disk_Disk.mk v_w698 v_w699 v_w700 v_b697) v_y930.fN).bind fun (v_r1040 : (S_disk_Disk)) =>
      (G_ringref3_Disk_Fused_h n (S_ringref3_Disk.mk v_b701 v_b702 v_b703 v_w704) v_y930.fN).bind fun (v_r1041 : (S_ringref3_Disk)) =>
      some (.x1 v_r1040.ffuse v_r1040.fsafe v_r1040.fnow v_r1040.fwait v_r1041.fSectors v_r1041.fMark v_r1041.fFuse v_r1041.fAll)
     else
      some (.x2 v_w698 v_w699 v_w700 v_w704)
theorem G_ringlaw3_DiskPlays_C6_ok {Fi : Ex → PS → Prop} (hF : KC 160 Fi) (ks : List Fr) (n : Nat) (v_sectors1 : Int) (v_l2 : (List S_ringlaw3_Act)) (v_x696 : Int) (v_y930 : S_ringlaw3_Act) (v_b697 : Int) (v_w698 : (List Int)) (v_w699 : (List Int)) (v_w700 : (List S_disk_write)) (v_b701 : Int) (v_b702 : Int) (v_b703 : Int) (v_w704 : (List S_ringref3_Put))  (o : G_ringlaw3_DiskPlays_C6_R) (h : G_ringlaw3_DiskPlays_C6 n v_sectors1 v_l2 v_x696 v_y930 v_b697 v_w698 v_w699 v_w700 v_b701 v_b702 v_b703 v_w704 = some o) (q : RunE Try.prog 160 Fi ks (G_ringlaw3_DiskPlays_C6_ex o) (G_ringlaw3_DiskPlays_C6_st v_sectors1 v_l2 v_x696 v_y930 v_b697 v_w698 v_w699 v_w700 v_b701 v_b702 v_b703 v_w704 o)) : RunE Try.prog 160 Fi (.s (cR (cB (cR (cL (cR (cB (cL (cR (cR (cP (cB (cR (cL (cR (cR (cR (cR (cR (cR (bodyOf Try.f3)))))))))))))))))))) :: ks) .normal (G_ringlaw3_DiskPlays_C6_hd v_sectors1 v_l2 v_x696 v_y930 v_b697 v_w698 v_w699 v_w700 v_b701 v_b702 v_b703 v_w704) := by
  unfold G_ringlaw3_DiskPlays_C6 at h
  by_cases h560 : v_y930.fKind = 0
  · rw [if_pos h560] at h
    obtain ⟨v_r1009, h561, h⟩ := bind_some h
    obtain ⟨v_r1010, h562, h⟩ := bind_some h
    by_cases h563 : v_r1009.1 = v_r1010.1
    · rw [if_pos h563] at h
      cases h
      exact pkk_sound TTok mix hF 5 (hs := [.t true, .c, .c, .h [0, 1, 2, 3] [] [.box [.srf 4, .srf 5, .srf 6, .d (.v (.int .i64 v_r1009.2.ffuse))], .none, .none, .none, .row 5 1 (v_r1009.2.fsafe.map (eI .u8)), .row 5 1 (v_r1009.2.fnow.map (eI .u8)), .row 54 2 (v_r1009.2.fwait.map eS_disk_write)] (.d (.v (.int .i64 v_r1009.1))), .c, .c, .e 62 [] (.d (.v (.string (b2s v_y930.fData)))) [], .h [4, 5] [] [.box [.d (.v (.int .i64 v_r1010.2.fSectors)), .d (.v (.int .i64 v_r1010.2.fMark)), .d (.v (.int .i64 v_r1010.2.fFuse)), .srf 2], .none, .cu (rowF 56 2 (v_r1010.2.fAll.map eS_ringref3_Put)) []] (.d (.v (.int .i64 v_r1010.1))), .t false]) (ts := []) (s := [0, 32, 33, 34, 4, 67, 6]) (l := [0, 5, 7, 9, 40, 41, 42]) (by kernel_rfl) (by kernel_rfl) (.cons (bt h560) (.cons (G_disk_Disk_Write_h_ok n (S_disk_Disk.mk v_w698 v_w699 v_w700 v_b697) v_y930.fN v_y930.fData _ h561) (.cons (xb2sD (L := v_y930.fData) (P := Try.prog) (T := TT) (src := 30) (dst := 9) (e := 5) (s := 1) (x := (.tmp 60)) (by kernel_rfl) (by kernel_rfl) (by kernel_rfl)) (.cons (G_ringref3_Disk_Write_h_ok n (S_ringref3_Disk.mk v_b701 v_b702 v_b703 v_w704) v_y930.fN (b2s v_y930.fData) _ h562) (.cons (nf h563) .nil))))) q
    · rw [if_neg h563] at h
      cases h
      exact pkk_sound TTok mix hF 7 (hs := [.t true, .c, .c, .h [0, 1, 2, 3] [] [.box [.srf 4, .srf 5, .srf 6, .d (.v (.int .i64 v_r1009.2.ffuse))], .none, .none, .none, .row 5 1 (v_r1009.2.fsafe.map (eI .u8)), .row 5 1 (v_r1009.2.fnow.map (eI .u8)), .row 54 2 (v_r1009.2.fwait.map eS_disk_write)] (.d (.v (.int .i64 v_r1009.1))), .c, .c, .e 62 [] (.d (.v (.string (b2s v_y930.fData)))) [], .h [4, 5] [] [.box [.d (.v (.int .i64 v_r1010.2.fSectors)), .d (.v (.int .i64 v_r1010.2.fMark)), .d (.v (.int .i64 v_r1010.2.fFuse)), .srf 2], .none, .cu (rowF 56 2 (v_r1010.2.fAll.map eS_ringref3_Put)) []] (.d (.v (.int .i64 v_r1010.1))), .t true]) (ts := []) (s := []) (l := [4]) (by kernel_rfl) (by kernel_rfl) (.cons (bt h560) (.cons (G_disk_Disk_Write_h_ok n (S_disk_Disk.mk v_w698 v_w699 v_w700 v_b697) v_y930.fN v_y930.fData _ h561) (.cons (xb2sD (L := v_y930.fData) (P := Try.prog) (T := TT) (src := 30) (dst := 9) (e := 5) (s := 1) (x := (.tmp 60)) (by kernel_rfl) (by kernel_rfl) (by kernel_rfl)) (.cons (G_ringref3_Disk_Write_h_ok n (S_ringref3_Disk.mk v_b701 v_b702 v_b703 v_w704) v_y930.fN (b2s v_y930.fData) _ h562) (.cons (nt h563) .nil))))) q
  · rw [if_neg h560] at h
    by_cases h564 : v_y930.fKind = 1
    · rw [if_pos h564] at h
      obtain ⟨v_r1020, h565, h⟩ := bind_some h
      obtain ⟨v_r1021, h566, h⟩ := bind_some h
      cases h
      exact pkk_sound TTok mix hF 7 (hs := [.t false, .t true, .h [0, 1, 2, 3] [] [.box [.srf 4, .srf 5, .srf 6, .d (.v (.int .i64 v_r1020.ffuse))], .none, .none, .none, .row 5 1 (v_r1020.fsafe.map (eI .u8)), .row 5 1 (v_r1020.fnow.map (eI .u8)), .row 54 2 (v_r1020.fwait.map eS_disk_write)] (.tup []), .h [4, 5] [] [.box [.d (.v (.int .i64 v_r1021.fSectors)), .d (.v (.int .i64 v_r1021.fMark)), .d (.v (.int .i64 v_r1021.fFuse)), .srf 2], .none, .cu (rowF 56 2 (v_r1021.fAll.map eS_ringref3_Put)) []] (.tup [])]) (ts := []) (s := [0, 22, 23, 24, 4, 32, 6]) (l := [0, 5, 7, 9, 40, 41, 42]) (by kernel_rfl) (by kernel_rfl) (.cons (bf h560) (.cons (bt h564) (.cons (G_disk_Disk_Flush_h_ok n (S_disk_Disk.mk v_w698 v_w699 v_w700 v_b697) _ h565) (.cons (G_ringref3_Disk_Flush_h_ok n (S_ringref3_Disk.mk v_b701 v_b702 v_b703 v_w704) _ h566) .nil)))) q
    · rw [if_neg h564] at h
      by_cases h567 : v_y930.fKind = 2
      · rw [if_pos h567] at h
        obtain ⟨v_r1030, h568, h⟩ := bind_some h
        obtain ⟨v_r1031, h569, h⟩ := bind_some h
        cases h
        exact pkk_sound TTok mix hF 10 (hs := [.t false, .t false, .t true, .c, .h [0, 1, 2, 3] [] [.box [.srf 4, .srf 5, .srf 6, .d (.v (.int .i64 v_r1030.ffuse))], .none, .none, .none, .row 5 1 (v_r1030.fsafe.map (eI .u8)), .row 5 1 (v_r1030.fnow.map (eI .u8)), .row 54 2 (v_r1030.fwait.map eS_disk_write)] (.tup []), .c, .h [4, 5] [] [.box [.d (.v (.int .i64 v_r1031.fSectors)), .d (.v (.int .i64 v_r1031.fMark)), .d (.v (.int .i64 v_r1031.fFuse)), .srf 2], .none, .cu (rowF 56 2 (v_r1031.fAll.map eS_ringref3_Put)) []] (.tup [])]) (ts := []) (s := [0, 42, 43, 44, 4, 62, 6]) (l := [0, 5, 7, 9, 40, 41, 42]) (by kernel_rfl) (by kernel_rfl) (.cons (bf h560) (.cons (bf h564) (.cons (bt h567) (.cons (G_disk_Disk_Crash_h_ok n (S_disk_Disk.mk v_w698 v_w699 v_w700 v_b697) v_y930.fKept _ h568) (.cons (G_ringref3_Disk_Crash_h_ok n (S_ringref3_Disk.mk v_b701 v_b702 v_b703 v_w704) v_y930.fKept _ h569) .nil))))) q
      · rw [if_neg h567] at h
        by_cases h570 : v_y930.fKind = 3
        · rw [if_pos h570] at h
          obtain ⟨v_r1040, h571, h⟩ := bind_some h
          obtain ⟨v_r1041, h572, h⟩ := bind_some h
          cases h
          exact pkk_sound TTok mix hF 13 (hs := [.t false, .t false, .t false, .t true, .c, .h [0, 1, 2, 3] [] [.box [.srf 4, .srf 5, .srf 6, .d (.v (.int .i64 v_r1040.ffuse))], .none, .none, .none, .row 5 1 (v_r1040.fsafe.map (eI .u8)), .row 5 1 (v_r1040.fnow.map (eI .u8)), .row 54 2 (v_r1040.fwait.map eS_disk_write)] (.tup []), .c, .h [4, 5] [] [.box [.d (.v (.int .i64 v_r1041.fSectors)), .d (.v (.int .i64 v_r1041.fMark)), .d (.v (.int .i64 v_r1041.fFuse)), .srf 2], .none, .cu (rowF 56 2 (v_r1041.fAll.map eS_ringref3_Put)) []] (.tup [])]) (ts := []) (s := [0, 52, 53, 54, 4, 72, 6]) (l := [0, 5, 7, 9, 40, 41, 42]) (by kernel_rfl) (by kernel_rfl) (.cons (bf h560) (.cons (bf h564) (.cons (bf h567) (.cons (bt h570) (.cons (G_disk_Disk_Fuse_h_ok n (S_disk_Disk.mk v_w698 v_w699 v_w700 v_b697) v_y930.fN _ h571) (.cons (G_ringref3_Disk_Fused_h_ok n (S_ringref3_Disk.mk v_b701 v_b702 v_b703 v_w704) v_y930.fN _ h572) .nil)))))) q
        · rw [if_neg h570] at h
          cases h
          exact pkk_sound TTok mix hF 11 (hs := [.t false, .t false, .t false, .t false]) (ts := []) (s := [0, 1, 2, 3, 4, 5, 6]) (l := [0, 5, 7, 9, 40, 41, 42]) (by kernel_rfl) (by kernel_rfl) (.cons (bf h560) (.cons (bf h564) (.cons (bf h567) (.cons (bf h570) .nil)))) q
inductive G_ringlaw3_DiskPlays_C7_R where
  | x0 (v_x1056 : Bool)
  | x1 (v_b1065 : Int) (v_w1066 : (List Int)) (v_w1067 : (List Int)) (v_w1068 : (List S_disk_write)) (v_b1069 : Int) (v_b1070 : Int) (v_b1071 : Int) (v_w1072 : (List S_ringref3_Put))
  | x2 (v_w1077 : (List Int)) (v_w1078 : (List Int)) (v_w1079 : (List S_disk_write)) (v_w1080 : (List S_ringref3_Put))
def G_ringlaw3_DiskPlays_C7_ex : G_ringlaw3_DiskPlays_C7_R → Ex
  | .x0 _ => .ret
  | .x1 _ _ _ _ _ _ _ _ => .normal
  | .x2 _ _ _ _ => .normal
def G_ringlaw3_DiskPlays_C7_st (v_sectors1 : Int) (v_l2 : (List S_ringlaw3_Act)) (v_x696 : Int) (v_y930 : S_ringlaw3_Act) (v_b697 : Int) (v_w698 : (List Int)) (v_w699 : (List Int)) (v_w700 : (List S_disk_write)) (v_b701 : Int) (v_b702 : Int) (v_b703 : Int) (v_w704 : (List S_ringref3_Put)) : G_ringlaw3_DiskPlays_C7_R → PS
  | .x0 v_x1056 => ⟨[dd, dd, dd, dd, .d (.v (.bool v_x1056)), dd, dd, dd, dd, dd, dd, dd, dd, dd, dd, dd, dd, dd, dd, dd, dd, dd, dd, dd, dd, dd, dd, dd, dd, dd, dd, dd, dd, dd, dd, dd, dd, dd, dd, dd, dd, dd, dd, dd, dd, dd, dd, dd, dd, dd, dd, dd, dd, dd, dd, dd, dd, dd, dd, dd, dd, dd, dd, dd, dd, dd, dd, dd, dd, dd, dd, dd, dd, dd, dd, dd, dd, dd, dd, dd, dd, dd, dd, dd, dd, dd, dd, dd, dd, dd, dd, dd, dd, dd, dd, dd, dd, dd, dd, dd, dd, dd, dd, dd, dd, dd, dd, dd, dd, dd, dd, dd, dd, dd, dd, dd, dd, dd, dd, dd, dd, dd, dd, dd, dd, dd, dd, dd, dd, dd, dd, dd, dd, dd, dd, dd, dd, dd, dd, dd, dd, dd, dd, dd, dd, dd, dd, dd, dd, dd, dd, dd, dd, dd, dd, dd, dd, dd, dd, dd], []⟩
  | .x1 v_b1065 v_w1066 v_w1067 v_w1068 v_b1069 v_b1070 v_b1071 v_w1072 => ⟨[.d (.v (.int .i64 v_sectors1)), dd, dd, dd, dd, .ref 0 0, dd, .ref 4 0, dd, .ref 6 0, dd, dd, dd, dd, dd, dd, dd, dd, dd, dd, dd, dd, dd, dd, dd, dd, dd, dd, dd, dd, dd, dd, dd, dd, dd, dd, dd, dd, dd, dd, .d (.sl (v_l2.map eS_ringlaw3_Act)), .d (.v (.int .i64 (v_l2.length : Int))), .d (.v (.int .i64 v_x696)), dd, dd, dd, dd, dd, dd, dd, dd, dd, dd, dd, dd, dd, dd, dd, dd, dd, dd, dd, dd, dd, dd, dd, dd, dd, dd, dd, dd, dd, dd, dd, dd, dd, dd, dd, dd, dd, dd, dd, dd, dd, dd, dd, dd, dd, dd, dd, dd, dd, dd, dd, dd, dd, dd, dd, dd, dd, dd, dd, dd, dd, dd, dd, dd, dd, dd, dd, dd, dd, dd, dd, dd, dd, dd, dd, dd, dd, dd, dd, dd, dd, dd, dd, dd, dd, dd, dd, dd, dd, dd, dd, dd, dd, dd, dd, dd, dd, dd, dd, dd, dd, dd, dd, dd, dd, dd, dd, dd, dd, dd, dd, dd, dd, dd, dd, dd, dd], [.box [.srf 1, .srf 2, .srf 3, .d (.v (.int .i64 v_b1065))], .row 5 1 (v_w1066.map (eI .u8)), .row 5 1 (v_w1067.map (eI .u8)), .row 54 2 (v_w1068.map eS_disk_write), .box [.d (.v (.int .i64 v_b1069)), .d (.v (.int .i64 v_b1070)), .d (.v (.int .i64 v_b1071)), .srf 5], .cu (rowF 56 2 (v_w1072.map eS_ringref3_Put)) [], .box [.d (.v (.int .i64 v_y930.fKind)), .d (.v (.int .i64 v_y930.fN)), .d (.sl (v_y930.fData.map (eI .u8))), .d (.sl (v_y930.fKept.map eB))]]⟩
  | .x2 v_w1077 v_w1078 v_w1079 v_w1080 => ⟨[.d (.v (.int .i64 v_sectors1)), dd, dd, dd, dd, .ref 0 0, dd, .ref 4 0, dd, .ref 6 0, dd, dd, dd, dd, dd, dd, dd, dd, dd, dd, dd, dd, dd, dd, dd, dd, dd, dd, dd, dd, dd, dd, dd, dd, dd, dd, dd, dd, dd, dd, .d (.sl (v_l2.map eS_ringlaw3_Act)), .d (.v (.int .i64 (v_l2.length : Int))), .d (.v (.int .i64 v_x696)), dd, dd, dd, dd, dd, dd, dd, dd, dd, dd, dd, dd, dd, dd, dd, dd, dd, dd, dd, dd, dd, dd, dd, dd, dd, dd, dd, dd, dd, dd, dd, dd, dd, dd, dd, dd, dd, dd, dd, dd, dd, dd, dd, dd, dd, dd, dd, dd, dd, dd, dd, dd, dd, dd, dd, dd, dd, dd, dd, dd, dd, dd, dd, dd, dd, dd, dd, dd, dd, dd, dd, dd, dd, dd, dd, dd, dd, dd, dd, dd, dd, dd, dd, dd, dd, dd, dd, dd, dd, dd, dd, dd, dd, dd, dd, dd, dd, dd, dd, dd, dd, dd, dd, dd, dd, dd, dd, dd, dd, dd, dd, dd, dd, dd, dd, dd, dd], [.box [.srf 1, .srf 2, .srf 3, .d (.v (.int .i64 v_b697))], .row 5 1 (v_w1077.map (eI .u8)), .row 5 1 (v_w1078.map (eI .u8)), .row 54 2 (v_w1079.map eS_disk_write), .box [.d (.v (.int .i64 v_b701)), .d (.v (.int .i64 v_b702)), .d (.v (.int .i64 v_b703)), .srf 5], .cu (rowF 56 2 (v_w1080.map eS_ringref3_Put)) [], .box [.d (.v (.int .i64 v_y930.fKind)), .d (.v (.int .i64 v_y930.fN)), .d (.sl (v_y930.fData.map (eI .u8))), .d (.sl (v_y930.fKept.map eB))]]⟩
def G_ringlaw3_DiskPlays_C7_hd (v_sectors1 : Int) (v_l2 : (List S_ringlaw3_Act)) (v_x696 : Int) (v_y930 : S_ringlaw3_Act) (v_b697 : Int) (v_w698 : (List Int)) (v_w699 : (List Int)) (v_w700 : (List S_disk_write)) (v_b701 : Int) (v_b702 : Int) (v_b703 : Int) (v_w704 : (List S_ringref3_Put))  : PS := ⟨[.d (.v (.int .i64 v_sectors1)), dd, dd, dd, dd, .ref 0 0, dd, .ref 4 0, dd, .ref 6 0, dd, dd, dd, dd, dd, dd, dd, dd, dd, dd, dd, dd, dd, dd, dd, dd, dd, dd, dd, dd, dd, dd, dd, dd, dd, dd, dd, dd, dd, dd, .d (.sl (v_l2.map eS_ringlaw3_Act)), .d (.v (.int .i64 (v_l2.length : Int))), .d (.v (.int .i64 v_x696)), dd, dd, dd, dd, .d (.v (.int .i64 v_y930.fKind)), dd, dd, dd, dd, dd, dd, dd, dd, dd, dd, dd, dd, dd, dd, dd, dd, dd, dd, dd, dd, dd, dd, dd, dd, dd, dd, dd, dd, dd, dd, dd, dd, dd, dd, dd, dd, dd, dd, dd, dd, dd, dd, dd, dd, dd, dd, dd, dd, dd, dd, dd, dd, dd, dd, dd, dd, dd, dd, dd, dd, dd, dd, dd, dd, dd, dd, dd, dd, dd, dd, dd, dd, dd, dd, dd, dd, dd, dd, dd, dd, dd, dd, dd, dd, dd, dd, dd, dd, dd, dd, dd, dd, dd, dd, dd, dd, dd, dd, dd, dd, dd, dd, dd, dd, dd, dd, dd, dd, dd, dd, dd, dd], [.box [.srf 1, .srf 2, .srf 3, .d (.v (.int .i64 v_b697))], .row 5 1 (v_w698.map (eI .u8)), .row 5 1 (v_w699.map (eI .u8)), .row 54 2 (v_w700.map eS_disk_write), .box [.d (.v (.int .i64 v_b701)), .d (.v (.int .i64 v_b702)), .d (.v (.int .i64 v_b703)), .srf 5], .cu (rowF 56 2 (v_w704.map eS_ringref3_Put)) [], .box [.d (.v (.int .i64 v_y930.fKind)), .d (.v (.int .i64 v_y930.fN)), .d (.sl (v_y930.fData.map (eI .u8))), .d (.sl (v_y930.fKept.map eB))]]⟩
def G_ringlaw3_DiskPlays_C7 (n : Nat) (v_sectors1 : Int) (v_l2 : (List S_ringlaw3_Act)) (v_x696 : Int) (v_y930 : S_ringlaw3_Act) (v_b697 : Int) (v_w698 : (List Int)) (v_w699 : (List Int)) (v_w700 : (List S_disk_write)) (v_b701 : Int) (v_b702 : Int) (v_b703 : Int) (v_w704 : (List S_ringref3_Put)) : Option G_ringlaw3_DiskPlays_C7_R :=
  (G_ringlaw3_DiskPlays_C6 n v_sectors1 v_l2 v_x696 v_y930 v_b697 v_w698 v_w699 v_w700 v_b701 v_b702 v_b703 v_w704).bind fun v_o1054 => match v_o1054 with
  | .x0 v_z1055 =>
    some (.x0 v_z1055)
  | .x1 v_z1057 v_z1058 v_z1059 v_z1060 v_z1061 v_z1062 v_z1063 v_z1064 =>
    some (.x1 v_z1057 v_z1058 v_z1059 v_z1060 v_z1061 v_z1062 v_z1063 v_z1064)
  | .x2 v_z1073 v_z1074 v_z1075 v_z1076 =>
    some (.x2 v_z1073 v_z1074 v_z1075 v_z1076)
theorem G_ringlaw3_DiskPlays_C7_ok {Fi : Ex → PS → Prop} (hF : KC 160 Fi) (ks : List Fr) (n : Nat) (v_sectors1 : Int) (v_l2 : (List S_ringlaw3_Act)) (v_x696 : Int) (v_y930 : S_ringlaw3_Act) (v_b697 : Int) (v_w698 : (List Int)) (v_w699 : (List Int)) (v_w700 : (List S_disk_write)) (v_b701 : Int) (v_b702 : Int) (v_b703 : Int) (v_w704 : (List S_ringref3_Put))  (o : G_ringlaw3_DiskPlays_C7_R) (h : G_ringlaw3_DiskPlays_C7 n v_sectors1 v_l2 v_x696 v_y930 v_b697 v_w698 v_w699 v_w700 v_b701 v_b702 v_b703 v_w704 = some o) (q : RunE Try.prog 160 Fi ks (G_ringlaw3_DiskPlays_C7_ex o) (G_ringlaw3_DiskPlays_C7_st v_sectors1 v_l2 v_x696 v_y930 v_b697 v_w698 v_w699 v_w700 v_b701 v_b702 v_b703 v_w704 o)) : RunE Try.prog 160 Fi (.s (cR (cL (cR (cB (cL (cR (cR (cP (cB (cR (cL (cR (cR (cR (cR (cR (cR (bodyOf Try.f3)))))))))))))))))) :: ks) .normal (G_ringlaw3_DiskPlays_C7_hd v_sectors1 v_l2 v_x696 v_y930 v_b697 v_w698 v_w699 v_w700 v_b701 v_b702 v_b703 v_w704) := by
  unfold G_ringlaw3_DiskPlays_C7 at h
  obtain ⟨v_o1054, h573, h⟩ := bind_some h
  refine pkk_sound TTok mix hF 3 (hs := []) (ts := []) (s := [0, 1, 2, 3, 4, 5, 6]) (l := [0, 5, 7, 9, 40, 41, 42, 47, 48]) (by kernel_rfl) (by kernel_rfl) .nil (G_ringlaw3_DiskPlays_C6_ok hF (.b 2 :: ks) n v_sectors1 v_l2 v_x696 v_y930 v_b697 v_w698 v_w699 v_w700 v_b701 v_b702 v_b703 v_w704 _ h573 ?_)
  cases v_o1054 with
  | x0 v_z1055 =>
    try dsimp only at h
    cases h
    exact pkk_sound TTok mix hF 1 (hs := []) (ts := []) (s := []) (l := [4]) (by kernel_rfl) (by kernel_rfl) .nil q
  | x1 v_z1057 v_z1058 v_z1059 v_z1060 v_z1061 v_z1062 v_z1063 v_z1064 =>
    try dsimp only at h
    cases h
    exact pkk_sound TTok mix hF 1 (hs := []) (ts := []) (s := [0, 1, 2, 3, 4, 5, 6]) (l := [0, 5, 7, 9, 40, 41, 42]) (by kernel_rfl) (by kernel_rfl) .nil q
  | x2 v_z1073 v_z1074 v_z1075 v_z1076 =>
    try dsimp only at h
    cases h
    exact pkk_sound TTok mix hF 1 (hs := []) (ts := []) (s := [0, 1, 2, 3, 4, 5, 6]) (l := [0, 5, 7, 9, 40, 41, 42]) (by kernel_rfl) (by kernel_rfl) .nil q
inductive G_ringlaw3_DiskPlays_C8_R where
  | x0 (v_x1096 : Bool) (v_b1097 : Int) (v_w1098 : (List Int)) (v_w1099 : (List Int)) (v_w1100 : (List S_disk_write)) (v_w1101 : (List S_ringref3_Put))
def G_ringlaw3_DiskPlays_C8_ex : G_ringlaw3_DiskPlays_C8_R → Ex
  | .x0 _ _ _ _ _ _ => .normal
def G_ringlaw3_DiskPlays_C8_st (v_sectors1 : Int) (v_l2 : (List S_ringlaw3_Act)) (v_x696 : Int) (v_z1084 : Int) (v_z1085 : (List Int)) (v_z1086 : (List Int)) (v_z1087 : (List S_disk_write)) (v_z1088 : Int) (v_z1089 : Int) (v_z1090 : Int) (v_z1091 : (List S_ringref3_Put)) (v_y930 : S_ringlaw3_Act) : G_ringlaw3_DiskPlays_C8_R → PS
  | .x0 v_x1096 v_b1097 v_w1098 v_w1099 v_w1100 v_w1101 => ⟨[.d (.v (.int .i64 v_sectors1)), dd, dd, dd, dd, .ref 0 0, dd, .ref 4 0, dd, .ref 6 0, dd, dd, dd, dd, dd, dd, dd, dd, dd, dd, dd, dd, dd, dd, dd, dd, dd, dd, dd, dd, dd, dd, dd, dd, dd, dd, dd, dd, dd, dd, .d (.sl (v_l2.map eS_ringlaw3_Act)), .d (.v (.int .i64 (v_l2.length : Int))), .d (.v (.int .i64 v_x696)), dd, dd, dd, dd, dd, dd, dd, dd, dd, dd, dd, dd, dd, dd, dd, dd, dd, dd, dd, dd, dd, dd, dd, dd, dd, dd, dd, dd, dd, dd, dd, dd, dd, dd, dd, dd, dd, dd, dd, dd, dd, dd, dd, dd, dd, dd, dd, dd, dd, dd, dd, dd, dd, dd, dd, dd, dd, dd, dd, dd, dd, dd, dd, dd, dd, dd, dd, dd, dd, .d (.v (.bool v_x1096)), dd, dd, dd, dd, dd, dd, dd, dd, dd, dd, dd, dd, dd, dd, dd, dd, dd, dd, dd, dd, dd, dd, dd, dd, dd, dd, dd, dd, dd, dd, dd, dd, dd, dd, dd, dd, dd, dd, dd, dd, dd, dd, dd, dd, dd, dd, dd], [.box [.srf 1, .srf 2, .srf 3, .d (.v (.int .i64 v_b1097))], .row 5 1 (v_w1098.map (eI .u8)), .row 5 1 (v_w1099.map (eI .u8)), .row 54 2 (v_w1100.map eS_disk_write), .box [.d (.v (.int .i64 v_z1088)), .d (.v (.int .i64 v_z1089)), .d (.v (.int .i64 v_z1090)), .srf 5], .cu (rowF 56 2 (v_w1101.map eS_ringref3_Put)) [], .box [.d (.v (.int .i64 v_y930.fKind)), .d (.v (.int .i64 v_y930.fN)), .d (.sl (v_y930.fData.map (eI .u8))), .d (.sl (v_y930.fKept.map eB))]]⟩
def G_ringlaw3_DiskPlays_C8_hd (v_sectors1 : Int) (v_l2 : (List S_ringlaw3_Act)) (v_x696 : Int) (v_z1084 : Int) (v_z1085 : (List Int)) (v_z1086 : (List Int)) (v_z1087 : (List S_disk_write)) (v_z1088 : Int) (v_z1089 : Int) (v_z1090 : Int) (v_z1091 : (List S_ringref3_Put)) (v_y930 : S_ringlaw3_Act)  : PS := ⟨[.d (.v (.int .i64 v_sectors1)), dd, dd, dd, dd, .ref 0 0, dd, .ref 4 0, dd, .ref 6 0, dd, dd, dd, dd, dd, dd, dd, dd, dd, dd, dd, dd, dd, dd, dd, dd, dd, dd, dd, dd, dd, dd, dd, dd, dd, dd, dd, dd, dd, dd, .d (.sl (v_l2.map eS_ringlaw3_Act)), .d (.v (.int .i64 (v_l2.length : Int))), .d (.v (.int .i64 v_x696)), dd, dd, dd, dd, dd, dd, dd, dd, dd, dd, dd, dd, dd, dd, dd, dd, dd, dd, dd, dd, dd, dd, dd, dd, dd, dd, dd, dd, dd, dd, dd, dd, dd, dd, dd, dd, dd, dd, dd, dd, dd, dd, dd, dd, dd, dd, dd, dd, dd, dd, dd, dd, dd, dd, dd, dd, dd, dd, dd, dd, dd, dd, dd, dd, dd, dd, dd, dd, dd, dd, dd, dd, dd, dd, dd, dd, dd, dd, dd, dd, dd, dd, dd, dd, dd, dd, dd, dd, dd, dd, dd, dd, dd, dd, dd, dd, dd, dd, dd, dd, dd, dd, dd, dd, dd, dd, dd, dd, dd, dd, dd, dd, dd, dd, dd, dd, dd], [.box [.srf 1, .srf 2, .srf 3, .d (.v (.int .i64 v_z1084))], .row 5 1 (v_z1085.map (eI .u8)), .row 5 1 (v_z1086.map (eI .u8)), .row 54 2 (v_z1087.map eS_disk_write), .box [.d (.v (.int .i64 v_z1088)), .d (.v (.int .i64 v_z1089)), .d (.v (.int .i64 v_z1090)), .srf 5], .cu (rowF 56 2 (v_z1091.map eS_ringref3_Put)) [], .box [.d (.v (.int .i64 v_y930.fKind)), .d (.v (.int .i64 v_y930.fN)), .d (.sl (v_y930.fData.map (eI .u8))), .d (.sl (v_y930.fKept.map eB))]]⟩
def G_ringlaw3_DiskPlays_C8 (n : Nat) (v_sectors1 : Int) (v_l2 : (List S_ringlaw3_Act)) (v_x696 : Int) (v_z1084 : Int) (v_z1085 : (List Int)) (v_z1086 : (List Int)) (v_z1087 : (List S_disk_write)) (v_z1088 : Int) (v_z1089 : Int) (v_z1090 : Int) (v_z1091 : (List S_ringref3_Put)) (v_y930 : S_ringlaw3_Act) : Option G_ringlaw3_DiskPlays_C8_R :=
  (G_disk_Disk_Waiting_h n (S_disk_Disk.mk v_z1085 v_z1086 v_z1087 v_z1084)).bind fun (v_r1095 : (Int × S_disk_Disk)) =>
  if v_r1095.1 = (wi .i64 ((v_z1091.length : Int) - v_z1089)) then
   (G_disk_Disk_Dead_h n v_r1095.2).bind fun (v_r1102 : (Bool × S_disk_Disk)) =>
   some (.x0 (eqRes .neq (v_r1102.1 == (v_z1090 == 0))) v_r1102.2.ffuse v_r1102.2.fsafe v_r1102.2.fnow v_r1102.2.fwait v_z1091)
  else
   some (.x0 true v_r1095.2.ffuse v_r1095.2.fsafe v_r1095.2.fnow v_r1095.2.fwait v_z1091)
theorem G_ringlaw3_DiskPlays_C8_ok {Fi : Ex → PS → Prop} (hF : KC 160 Fi) (ks : List Fr) (n : Nat) (v_sectors1 : Int) (v_l2 : (List S_ringlaw3_Act)) (v_x696 : Int) (v_z1084 : Int) (v_z1085 : (List Int)) (v_z1086 : (List Int)) (v_z1087 : (List S_disk_write)) (v_z1088 : Int) (v_z1089 : Int) (v_z1090 : Int) (v_z1091 : (List S_ringref3_Put)) (v_y930 : S_ringlaw3_Act)  (o : G_ringlaw3_DiskPlays_C8_R) (h : G_ringlaw3_DiskPlays_C8 n v_sectors1 v_l2 v_x696 v_z1084 v_z1085 v_z1086 v_z1087 v_z1088 v_z1089 v_z1090 v_z1091 v_y930 = some o) (q : RunE Try.prog 160 Fi ks (G_ringlaw3_DiskPlays_C8_ex o) (G_ringlaw3_DiskPlays_C8_st v_sectors1 v_l2 v_x696 v_z1084 v_z1085 v_z1086 v_z1087 v_z1088 v_z1089 v_z1090 v_z1091 v_y930 o)) : RunE Try.prog 160 Fi (.s (cL (cL (cR (cR (cB (cL (cR (cR (cP (cB (cR (cL (cR (cR (cR (cR (cR (cR (bodyOf Try.f3))))))))))))))))))) :: ks) .normal (G_ringlaw3_DiskPlays_C8_hd v_sectors1 v_l2 v_x696 v_z1084 v_z1085 v_z1086 v_z1087 v_z1088 v_z1089 v_z1090 v_z1091 v_y930) := by
  unfold G_ringlaw3_DiskPlays_C8 at h
  obtain ⟨v_r1095, h578, h⟩ := bind_some h
  by_cases h579 : v_r1095.1 = (wi .i64 ((v_z1091.length : Int) - v_z1089))
  · rw [if_pos h579] at h
    obtain ⟨v_r1102, h580, h⟩ := bind_some h
    cases h
    exact pkk_sound TTok mix hF 1 (hs := [.h [0, 1, 2, 3] [] [.box [.srf 4, .srf 5, .srf 6, .d (.v (.int .i64 v_r1095.2.ffuse))], .none, .none, .none, .row 5 1 (v_r1095.2.fsafe.map (eI .u8)), .row 5 1 (v_r1095.2.fnow.map (eI .u8)), .row 54 2 (v_r1095.2.fwait.map eS_disk_write)] (.d (.v (.int .i64 v_r1095.1))), .c, .e 37 [5] (.d (.v (.int .i64 (v_z1091.length : Int)))) [], .c, .t false, .c, .h [0, 12, 13, 14] [] [.box [.srf 4, .srf 5, .srf 6, .d (.v (.int .i64 v_r1102.2.ffuse))], .none, .none, .none, .row 5 1 (v_r1102.2.fsafe.map (eI .u8)), .row 5 1 (v_r1102.2.fnow.map (eI .u8)), .row 54 2 (v_r1102.2.fwait.map eS_disk_write)] (.d (.v (.bool v_r1102.1))), .c, .c, .c, .c, .c, .c, .c]) (ts := []) (s := [0, 82, 83, 84, 4, 5, 6]) (l := [0, 5, 7, 9, 40, 41, 42, 112]) (by kernel_rfl) (by kernel_rfl) (.cons (G_disk_Disk_Waiting_h_ok n (S_disk_Disk.mk v_z1085 v_z1086 v_z1087 v_z1084) _ h578) (.cons (lmap' (flen (P := Try.prog) (T := TT) (t := 39) (l := 5) (e := 56) (s := 2) (xs := (v_z1091.map eS_ringref3_Put)) (x := (.tmp 95)) (by kernel_rfl))) (.cons (nf h579) (.cons (G_disk_Disk_Dead_h_ok n v_r1095.2 _ h580) .nil)))) q
  · rw [if_neg h579] at h
    cases h
    exact pkk_sound TTok mix hF 1 (hs := [.h [0, 1, 2, 3] [] [.box [.srf 4, .srf 5, .srf 6, .d (.v (.int .i64 v_r1095.2.ffuse))], .none, .none, .none, .row 5 1 (v_r1095.2.fsafe.map (eI .u8)), .row 5 1 (v_r1095.2.fnow.map (eI .u8)), .row 54 2 (v_r1095.2.fwait.map eS_disk_write)] (.d (.v (.int .i64 v_r1095.1))), .c, .e 37 [5] (.d (.v (.int .i64 (v_z1091.length : Int)))) [], .c, .t true, .c, .c, .c, .c, .c, .c, .c]) (ts := []) (s := [0, 12, 13, 14, 4, 5, 6]) (l := [0, 5, 7, 9, 40, 41, 42, 112]) (by kernel_rfl) (by kernel_rfl) (.cons (G_disk_Disk_Waiting_h_ok n (S_disk_Disk.mk v_z1085 v_z1086 v_z1087 v_z1084) _ h578) (.cons (lmap' (flen (P := Try.prog) (T := TT) (t := 39) (l := 5) (e := 56) (s := 2) (xs := (v_z1091.map eS_ringref3_Put)) (x := (.tmp 95)) (by kernel_rfl))) (.cons (nt h579) .nil))) q
inductive G_ringlaw3_DiskPlays_C9_R where
  | x0 (v_x1160 : Bool) (v_b1161 : Int) (v_w1162 : (List Int)) (v_w1163 : (List Int)) (v_w1164 : (List S_disk_write)) (v_w1165 : (List S_ringref3_Put))
def G_ringlaw3_DiskPlays_C9_ex : G_ringlaw3_DiskPlays_C9_R → Ex
  | .x0 _ _ _ _ _ _ => .normal
def G_ringlaw3_DiskPlays_C9_st (v_sectors1 : Int) (v_l2 : (List S_ringlaw3_Act)) (v_x696 : Int) (v_b697 : Int) (v_z1152 : (List Int)) (v_z1153 : (List Int)) (v_z1154 : (List S_disk_write)) (v_b701 : Int) (v_b702 : Int) (v_b703 : Int) (v_z1155 : (List S_ringref3_Put)) (v_y930 : S_ringlaw3_Act) : G_ringlaw3_DiskPlays_C9_R → PS
  | .x0 v_x1160 v_b1161 v_w1162 v_w1163 v_w1164 v_w1165 => ⟨[.d (.v (.int .i64 v_sectors1)), dd, dd, dd, dd, .ref 0 0, dd, .ref 4 0, dd, .ref 6 0, dd, dd, dd, dd, dd, dd, dd, dd, dd, dd, dd, dd, dd, dd, dd, dd, dd, dd, dd, dd, dd, dd, dd, dd, dd, dd, dd, dd, dd, dd, .d (.sl (v_l2.map eS_ringlaw3_Act)), .d (.v (.int .i64 (v_l2.length : Int))), .d (.v (.int .i64 v_x696)), dd, dd, dd, dd, dd, dd, dd, dd, dd, dd, dd, dd, dd, dd, dd, dd, dd, dd, dd, dd, dd, dd, dd, dd, dd, dd, dd, dd, dd, dd, dd, dd, dd, dd, dd, dd, dd, dd, dd, dd, dd, dd, dd, dd, dd, dd, dd, dd, dd, dd, dd, dd, dd, dd, dd, dd, dd, dd, dd, dd, dd, dd, dd, dd, dd, dd, dd, dd, dd, .d (.v (.bool v_x1160)), dd, dd, dd, dd, dd, dd, dd, dd, dd, dd, dd, dd, dd, dd, dd, dd, dd, dd, dd, dd, dd, dd, dd, dd, dd, dd, dd, dd, dd, dd, dd, dd, dd, dd, dd, dd, dd, dd, dd, dd, dd, dd, dd, dd, dd, dd, dd], [.box [.srf 1, .srf 2, .srf 3, .d (.v (.int .i64 v_b1161))], .row 5 1 (v_w1162.map (eI .u8)), .row 5 1 (v_w1163.map (eI .u8)), .row 54 2 (v_w1164.map eS_disk_write), .box [.d (.v (.int .i64 v_b701)), .d (.v (.int .i64 v_b702)), .d (.v (.int .i64 v_b703)), .srf 5], .cu (rowF 56 2 (v_w1165.map eS_ringref3_Put)) [], .box [.d (.v (.int .i64 v_y930.fKind)), .d (.v (.int .i64 v_y930.fN)), .d (.sl (v_y930.fData.map (eI .u8))), .d (.sl (v_y930.fKept.map eB))]]⟩
def G_ringlaw3_DiskPlays_C9_hd (v_sectors1 : Int) (v_l2 : (List S_ringlaw3_Act)) (v_x696 : Int) (v_b697 : Int) (v_z1152 : (List Int)) (v_z1153 : (List Int)) (v_z1154 : (List S_disk_write)) (v_b701 : Int) (v_b702 : Int) (v_b703 : Int) (v_z1155 : (List S_ringref3_Put)) (v_y930 : S_ringlaw3_Act)  : PS := ⟨[.d (.v (.int .i64 v_sectors1)), dd, dd, dd, dd, .ref 0 0, dd, .ref 4 0, dd, .ref 6 0, dd, dd, dd, dd, dd, dd, dd, dd, dd, dd, dd, dd, dd, dd, dd, dd, dd, dd, dd, dd, dd, dd, dd, dd, dd, dd, dd, dd, dd, dd, .d (.sl (v_l2.map eS_ringlaw3_Act)), .d (.v (.int .i64 (v_l2.length : Int))), .d (.v (.int .i64 v_x696)), dd, dd, dd, dd, dd, dd, dd, dd, dd, dd, dd, dd, dd, dd, dd, dd, dd, dd, dd, dd, dd, dd, dd, dd, dd, dd, dd, dd, dd, dd, dd, dd, dd, dd, dd, dd, dd, dd, dd, dd, dd, dd, dd, dd, dd, dd, dd, dd, dd, dd, dd, dd, dd, dd, dd, dd, dd, dd, dd, dd, dd, dd, dd, dd, dd, dd, dd, dd, dd, dd, dd, dd, dd, dd, dd, dd, dd, dd, dd, dd, dd, dd, dd, dd, dd, dd, dd, dd, dd, dd, dd, dd, dd, dd, dd, dd, dd, dd, dd, dd, dd, dd, dd, dd, dd, dd, dd, dd, dd, dd, dd, dd, dd, dd, dd, dd, dd], [.box [.srf 1, .srf 2, .srf 3, .d (.v (.int .i64 v_b697))], .row 5 1 (v_z1152.map (eI .u8)), .row 5 1 (v_z1153.map (eI .u8)), .row 54 2 (v_z1154.map eS_disk_write), .box [.d (.v (.int .i64 v_b701)), .d (.v (.int .i64 v_b702)), .d (.v (.int .i64 v_b703)), .srf 5], .cu (rowF 56 2 (v_z1155.map eS_ringref3_Put)) [], .box [.d (.v (.int .i64 v_y930.fKind)), .d (.v (.int .i64 v_y930.fN)), .d (.sl (v_y930.fData.map (eI .u8))), .d (.sl (v_y930.fKept.map eB))]]⟩
def G_ringlaw3_DiskPlays_C9 (n : Nat) (v_sectors1 : Int) (v_l2 : (List S_ringlaw3_Act)) (v_x696 : Int) (v_b697 : Int) (v_z1152 : (List Int)) (v_z1153 : (List Int)) (v_z1154 : (List S_disk_write)) (v_b701 : Int) (v_b702 : Int) (v_b703 : Int) (v_z1155 : (List S_ringref3_Put)) (v_y930 : S_ringlaw3_Act) : Option G_ringlaw3_DiskPlays_C9_R :=
  (G_disk_Disk_Waiting_h n (S_disk_Disk.mk v_z1152 v_z1153 v_z1154 v_b697)).bind fun (v_r1159 : (Int × S_disk_Disk)) =>
  if v_r1159.1 = (wi .i64 ((v_z1155.length : Int) - v_b702)) then
   (G_disk_Disk_Dead_h n v_r1159.2).bind fun (v_r1166 : (Bool × S_disk_Disk)) =>
   some (.x0 (eqRes .neq (v_r1166.1 == (v_b703 == 0))) v_r1166.2.ffuse v_r1166.2.fsafe v_r1166.2.fnow v_r1166.2.fwait v_z1155)
  else
   some (.x0 true v_r1159.2.ffuse v_r1159.2.fsafe v_r1159.2.fnow v_r1159.2.fwait v_z1155)
theorem G_ringlaw3_DiskPlays_C9_ok {Fi : Ex → PS → Prop} (hF : KC 160 Fi) (ks : List Fr) (n : Nat) (v_sectors1 : Int) (v_l2 : (List S_ringlaw3_Act)) (v_x696 : Int) (v_b697 : Int) (v_z1152 : (List Int)) (v_z1153 : (List Int)) (v_z1154 : (List S_disk_write)) (v_b701 : Int) (v_b702 : Int) (v_b703 : Int) (v_z1155 : (List S_ringref3_Put)) (v_y930 : S_ringlaw3_Act)  (o : G_ringlaw3_DiskPlays_C9_R) (h : G_ringlaw3_DiskPlays_C9 n v_sectors1 v_l2 v_x696 v_b697 v_z1152 v_z1153 v_z1154 v_b701 v_b702 v_b703 v_z1155 v_y930 = some o) (q : RunE Try.prog 160 Fi ks (G_ringlaw3_DiskPlays_C9_ex o) (G_ringlaw3_DiskPlays_C9_st v_sectors1 v_l2 v_x696 v_b697 v_z1152 v_z1153 v_z1154 v_b701 v_b702 v_b703 v_z1155 v_y930 o)) : RunE Try.prog 160 Fi (.s (cL (cL (cR (cR (cB (cL (cR (cR (cP (cB (cR (cL (cR (cR (cR (cR (cR (cR (bodyOf Try.f3))))))))))))))))))) :: ks) .normal (G_ringlaw3_DiskPlays_C9_hd v_sectors1 v_l2 v_x696 v_b697 v_z1152 v_z1153 v_z1154 v_b701 v_b702 v_b703 v_z1155 v_y930) := by
  unfold G_ringlaw3_DiskPlays_C9 at h
  obtain ⟨v_r1159, h609, h⟩ := bind_some h
  by_cases h610 : v_r1159.1 = (wi .i64 ((v_z1155.length : Int) - v_b702))
  · rw [if_pos h610] at h
    obtain ⟨v_r1166, h611, h⟩ := bind_some h
    cases h
    exact pkk_sound TTok mix hF 1 (hs := [.h [0, 1, 2, 3] [] [.box [.srf 4, .srf 5, .srf 6, .d (.v (.int .i64 v_r1159.2.ffuse))], .none, .none, .none, .row 5 1 (v_r1159.2.fsafe.map (eI .u8)), .row 5 1 (v_r1159.2.fnow.map (eI .u8)), .row 54 2 (v_r1159.2.fwait.map eS_disk_write)] (.d (.v (.int .i64 v_r1159.1))), .c, .e 37 [5] (.d (.v (.int .i64 (v_z1155.length : Int)))) [], .c, .t false, .c, .h [0, 12, 13, 14] [] [.box [.srf 4, .srf 5, .srf 6, .d (.v (.int .i64 v_r1166.2.ffuse))], .none, .none, .none, .row 5 1 (v_r1166.2.fsafe.map (eI .u8)), .row 5 1 (v_r1166.2.fnow.map (eI .u8)), .row 54 2 (v_r1166.2.fwait.map eS_disk_write)] (.d (.v (.bool v_r1166.1))), .c, .c, .c, .c, .c, .c, .c]) (ts := []) (s := [0, 82, 83, 84, 4, 5, 6]) (l := [0, 5, 7, 9, 40, 41, 42, 112]) (by kernel_rfl) (by kernel_rfl) (.cons (G_disk_Disk_Waiting_h_ok n (S_disk_Disk.mk v_z1152 v_z1153 v_z1154 v_b697) _ h609) (.cons (lmap' (flen (P := Try.prog) (T := TT) (t := 39) (l := 5) (e := 56) (s := 2) (xs := (v_z1155.map eS_ringref3_Put)) (x := (.tmp 95)) (by kernel_rfl))) (.cons (nf h610) (.cons (G_disk_Disk_Dead_h_ok n v_r1159.2 _ h611) .nil)))) q
  · rw [if_neg h610] at h
    cases h
    exact pkk_sound TTok mix hF 1 (hs := [.h [0, 1, 2, 3] [] [.box [.srf 4, .srf 5, .srf 6, .d (.v (.int .i64 v_r1159.2.ffuse))], .none, .none, .none, .row 5 1 (v_r1159.2.fsafe.map (eI .u8)), .row 5 1 (v_r1159.2.fnow.map (eI .u8)), .row 54 2 (v_r1159.2.fwait.map eS_disk_write)] (.d (.v (.int .i64 v_r1159.1))), .c, .e 37 [5] (.d (.v (.int .i64 (v_z1155.length : Int)))) [], .c, .t true, .c, .c, .c, .c, .c, .c, .c]) (ts := []) (s := [0, 12, 13, 14, 4, 5, 6]) (l := [0, 5, 7, 9, 40, 41, 42, 112]) (by kernel_rfl) (by kernel_rfl) (.cons (G_disk_Disk_Waiting_h_ok n (S_disk_Disk.mk v_z1152 v_z1153 v_z1154 v_b697) _ h609) (.cons (lmap' (flen (P := Try.prog) (T := TT) (t := 39) (l := 5) (e := 56) (s := 2) (xs := (v_z1155.map eS_ringref3_Put)) (x := (.tmp 95)) (by kernel_rfl))) (.cons (nt h610) .nil))) q
inductive G_ringlaw3_DiskPlays_C10_R where
  | x0 (v_x1083 : Bool)
  | x1 (v_b1120 : Int) (v_w1121 : (List Int)) (v_w1122 : (List Int)) (v_w1123 : (List S_disk_write)) (v_b1124 : Int) (v_b1125 : Int) (v_b1126 : Int) (v_w1127 : (List S_ringref3_Put))
  | x2 (v_b1184 : Int) (v_w1185 : (List Int)) (v_w1186 : (List Int)) (v_w1187 : (List S_disk_write)) (v_w1188 : (List S_ringref3_Put))
def G_ringlaw3_DiskPlays_C10_ex : G_ringlaw3_DiskPlays_C10_R → Ex
  | .x0 _ => .ret
  | .x1 _ _ _ _ _ _ _ _ => .normal
  | .x2 _ _ _ _ _ => .normal
def G_ringlaw3_DiskPlays_C10_st (v_sectors1 : Int) (v_l2 : (List S_ringlaw3_Act)) (v_x696 : Int) (v_b697 : Int) (v_w698 : (List Int)) (v_w699 : (List Int)) (v_w700 : (List S_disk_write)) (v_b701 : Int) (v_b702 : Int) (v_b703 : Int) (v_w704 : (List S_ringref3_Put)) : G_ringlaw3_DiskPlays_C10_R → PS
  | .x0 v_x1083 => ⟨[dd, dd, dd, dd, .d (.v (.bool v_x1083)), dd, dd, dd, dd, dd, dd, dd, dd, dd, dd, dd, dd, dd, dd, dd, dd, dd, dd, dd, dd, dd, dd, dd, dd, dd, dd, dd, dd, dd, dd, dd, dd, dd, dd, dd, dd, dd, dd, dd, dd, dd, dd, dd, dd, dd, dd, dd, dd, dd, dd, dd, dd, dd, dd, dd, dd, dd, dd, dd, dd, dd, dd, dd, dd, dd, dd, dd, dd, dd, dd, dd, dd, dd, dd, dd, dd, dd, dd, dd, dd, dd, dd, dd, dd, dd, dd, dd, dd, dd, dd, dd, dd, dd, dd, dd, dd, dd, dd, dd, dd, dd, dd, dd, dd, dd, dd, dd, dd, dd, dd, dd, dd, dd, dd, dd, dd, dd, dd, dd, dd, dd, dd, dd, dd, dd, dd, dd, dd, dd, dd, dd, dd, dd, dd, dd, dd, dd, dd, dd, dd, dd, dd, dd, dd, dd, dd, dd, dd, dd, dd, dd, dd, dd, dd, dd], []⟩
  | .x1 v_b1120 v_w1121 v_w1122 v_w1123 v_b1124 v_b1125 v_b1126 v_w1127 => ⟨[.d (.v (.int .i64 v_sectors1)), dd, dd, dd, dd, .ref 0 0, dd, .ref 4 0, dd, dd, dd, dd, dd, dd, dd, dd, dd, dd, dd, dd, dd, dd, dd, dd, dd, dd, dd, dd, dd, dd, dd, dd, dd, dd, dd, dd, dd, dd, dd, dd, .d (.sl (v_l2.map eS_ringlaw3_Act)), .d (.v (.int .i64 (v_l2.length : Int))), .d (.v (.int .i64 v_x696)), dd, dd, dd, dd, dd, dd, dd, dd, dd, dd, dd, dd, dd, dd, dd, dd, dd, dd, dd, dd, dd, dd, dd, dd, dd, dd, dd, dd, dd, dd, dd, dd, dd, dd, dd, dd, dd, dd, dd, dd, dd, dd, dd, dd, dd, dd, dd, dd, dd, dd, dd, dd, dd, dd, dd, dd, dd, dd, dd, dd, dd, dd, dd, dd, dd, dd, dd, dd, dd, dd, dd, dd, dd, dd, dd, dd, dd, dd, dd, dd, dd, dd, dd, dd, dd, dd, dd, dd, dd, dd, dd, dd, dd, dd, dd, dd, dd, dd, dd, dd, dd, dd, dd, dd, dd, dd, dd, dd, dd, dd, dd, dd, dd, dd, dd, dd, dd], [.box [.srf 1, .srf 2, .srf 3, .d (.v (.int .i64 v_b1120))], .row 5 1 (v_w1121.map (eI .u8)), .row 5 1 (v_w1122.map (eI .u8)), .row 54 2 (v_w1123.map eS_disk_write), .box [.d (.v (.int .i64 v_b1124)), .d (.v (.int .i64 v_b1125)), .d (.v (.int .i64 v_b1126)), .srf 5], .cu (rowF 56 2 (v_w1127.map eS_ringref3_Put)) []]⟩
  | .x2 v_b1184 v_w1185 v_w1186 v_w1187 v_w1188 => ⟨[.d (.v (.int .i64 v_sectors1)), dd, dd, dd, dd, .ref 0 0, dd, .ref 4 0, dd, dd, dd, dd, dd, dd, dd, dd, dd, dd, dd, dd, dd, dd, dd, dd, dd, dd, dd, dd, dd, dd, dd, dd, dd, dd, dd, dd, dd, dd, dd, dd, .d (.sl (v_l2.map eS_ringlaw3_Act)), .d (.v (.int .i64 (v_l2.length : Int))), .d (.v (.int .i64 v_x696)), dd, dd, dd, dd, dd, dd, dd, dd, dd, dd, dd, dd, dd, dd, dd, dd, dd, dd, dd, dd, dd, dd, dd, dd, dd, dd, dd, dd, dd, dd, dd, dd, dd, dd, dd, dd, dd, dd, dd, dd, dd, dd, dd, dd, dd, dd, dd, dd, dd, dd, dd, dd, dd, dd, dd, dd, dd, dd, dd, dd, dd, dd, dd, dd, dd, dd, dd, dd, dd, dd, dd, dd, dd, dd, dd, dd, dd, dd, dd, dd, dd, dd, dd, dd, dd, dd, dd, dd, dd, dd, dd, dd, dd, dd, dd, dd, dd, dd, dd, dd, dd, dd, dd, dd, dd, dd, dd, dd, dd, dd, dd, dd, dd, dd, dd, dd, dd], [.box [.srf 1, .srf 2, .srf 3, .d (.v (.int .i64 v_b1184))], .row 5 1 (v_w1185.map (eI .u8)), .row 5 1 (v_w1186.map (eI .u8)), .row 54 2 (v_w1187.map eS_disk_write), .box [.d (.v (.int .i64 v_b701)), .d (.v (.int .i64 v_b702)), .d (.v (.int .i64 v_b703)), .srf 5], .cu (rowF 56 2 (v_w1188.map eS_ringref3_Put)) []]⟩
def G_ringlaw3_DiskPlays_C10_hd (v_sectors1 : Int) (v_l2 : (List S_ringlaw3_Act)) (v_x696 : Int) (v_b697 : Int) (v_w698 : (List Int)) (v_w699 : (List Int)) (v_w700 : (List S_disk_write)) (v_b701 : Int) (v_b702 : Int) (v_b703 : Int) (v_w704 : (List S_ringref3_Put))  : PS := ⟨[.d (.v (.int .i64 v_sectors1)), dd, dd, dd, dd, .ref 0 0, dd, .ref 4 0, dd, dd, dd, dd, dd, dd, dd, dd, dd, dd, dd, dd, dd, dd, dd, dd, dd, dd, dd, dd, dd, dd, dd, dd, dd, dd, dd, dd, dd, dd, dd, dd, .d (.sl (v_l2.map eS_ringlaw3_Act)), .d (.v (.int .i64 (v_l2.length : Int))), .d (.v (.int .i64 v_x696)), dd, dd, dd, dd, dd, dd, dd, dd, dd, dd, dd, dd, dd, dd, dd, dd, dd, dd, dd, dd, dd, dd, dd, dd, dd, dd, dd, dd, dd, dd, dd, dd, dd, dd, dd, dd, dd, dd, dd, dd, dd, dd, dd, dd, dd, dd, dd, dd, dd, dd, dd, dd, dd, dd, dd, dd, dd, dd, dd, dd, dd, dd, dd, dd, dd, dd, dd, dd, dd, dd, dd, dd, dd, dd, dd, dd, dd, dd, dd, dd, dd, dd, dd, dd, dd, dd, dd, dd, dd, dd, dd, dd, dd, dd, dd, dd, dd, dd, dd, dd, dd, dd, dd, dd, dd, dd, dd, dd, dd, dd, dd, dd, dd, dd, dd, dd, dd], [.box [.srf 1, .srf 2, .srf 3, .d (.v (.int .i64 v_b697))], .row 5 1 (v_w698.map (eI .u8)), .row 5 1 (v_w699.map (eI .u8)), .row 54 2 (v_w700.map eS_disk_write), .box [.d (.v (.int .i64 v_b701)), .d (.v (.int .i64 v_b702)), .d (.v (.int .i64 v_b703)), .srf 5], .cu (rowF 56 2 (v_w704.map eS_ringref3_Put)) []]⟩
def G_ringlaw3_DiskPlays_C10 (n : Nat) (v_sectors1 : Int) (v_l2 : (List S_ringlaw3_Act)) (v_x696 : Int) (v_b697 : Int) (v_w698 : (List Int)) (v_w699 : (List Int)) (v_w700 : (List S_disk_write)) (v_b701 : Int) (v_b702 : Int) (v_b703 : Int) (v_w704 : (List S_ringref3_Put)) : Option G_ringlaw3_DiskPlays_C10_R :=
  (getI v_l2 v_x696).bind fun (v_y930 : S_ringlaw3_Act) =>
  (G_ringlaw3_DiskPlays_C7 n v_sectors1 v_l2 v_x696 v_y930 v_b697 v_w698 v_w699 v_w700 v_b701 v_b702 v_b703 v_w704).bind fun v_o1081 => match v_o1081 with
  | .x0 v_z1082 =>
    some (.x0 v_z1082)
  | .x1 v_z1084 v_z1085 v_z1086 v_z1087 v_z1088 v_z1089 v_z1090 v_z1091 =>
    (G_ringlaw3_DiskPlays_C8 n v_sectors1 v_l2 v_x696 v_z1084 v_z1085 v_z1086 v_z1087 v_z1088 v_z1089 v_z1090 v_z1091 v_y930).bind fun v_o1109 => match v_o1109 with
    | .x0 v_z1110 v_z1111 v_z1112 v_z1113 v_z1114 v_z1115 =>
      if v_z1110 = true then
       some (.x0 false)
      else
       (G_disk_Disk_Read_h n (S_disk_Disk.mk v_z1112 v_z1113 v_z1114 v_z1111) v_y930.fN).bind fun (v_r1117 : ((List Int) × Int × S_disk_Disk)) =>
       if v_y930.fN < 0 then
        if v_r1117.2.1 = 1 then
         if (v_r1117.1.length : Int) = 0 then
          some (.x1 v_r1117.2.2.ffuse v_r1117.2.2.fsafe v_r1117.2.2.fnow v_r1117.2.2.fwait v_z1088 v_z1089 v_z1090 v_z1115)
         else
          some (.x0 false)
        else
         some (.x0 false)
       else
        if v_y930.fN ≥ v_sectors1 then
         if v_r1117.2.1 = 1 then
          if (v_r1117.1.length : Int) = 0 then
           some (.x1 v_r1117.2.2.ffuse v_r1117.2.2.fsafe v_r1117.2.2.fnow v_r1117.2.2.fwait v_z1088 v_z1089 v_z1090 v_z1115)
          else
           some (.x0 false)
         else
          some (.x0 false)
        else
         if v_r1117.2.1 = 0 then
          (G_ringref3_Disk_Read_h n (S_ringref3_Disk.mk v_z1088 v_z1089 v_z1090 v_z1115) v_y930.fN).bind fun (v_r1142 : (ByteArray × S_ringref3_Disk)) =>
          if (!((b2s v_r1117.1).toList == v_r1142.1.toList)) = true then
           some (.x0 false)
          else
           some (.x1 v_r1117.2.2.ffuse v_r1117.2.2.fsafe v_r1117.2.2.fnow v_r1117.2.2.fwait v_r1142.2.fSectors v_r1142.2.fMark v_r1142.2.fFuse v_r1142.2.fAll)
         else
          some (.x0 false)
  | .x2 v_z1152 v_z1153 v_z1154 v_z1155 =>
    (G_ringlaw3_DiskPlays_C9 n v_sectors1 v_l2 v_x696 v_b697 v_z1152 v_z1153 v_z1154 v_b701 v_b702 v_b703 v_z1155 v_y930).bind fun v_o1173 => match v_o1173 with
    | .x0 v_z1174 v_z1175 v_z1176 v_z1177 v_z1178 v_z1179 =>
      if v_z1174 = true then
       some (.x0 false)
      else
       (G_disk_Disk_Read_h n (S_disk_Disk.mk v_z1176 v_z1177 v_z1178 v_z1175) v_y930.fN).bind fun (v_r1181 : ((List Int) × Int × S_disk_Disk)) =>
       if v_y930.fN < 0 then
        if v_r1181.2.1 = 1 then
         if (v_r1181.1.length : Int) = 0 then
          some (.x2 v_r1181.2.2.ffuse v_r1181.2.2.fsafe v_r1181.2.2.fnow v_r1181.2.2.fwait v_z1179)
         else
          some (.x0 false)
        else
         some (.x0 false)
       else
        if v_y930.fN ≥ v_sectors1 then
         if v_r1181.2.1 = 1 then
          if (v_r1181.1.length : Int) = 0 then
           some (.x2 v_r1181.2.2.ffuse v_r1181.2.2.fsafe v_r1181.2.2.fnow v_r1181.2.2.fwait v_z1179)
          else
           some (.x0 false)
         else
          some (.x0 false)
        else
         if v_r1181.2.1 = 0 then
          (G_ringref3_Disk_Read_h n (S_ringref3_Disk.mk v_b701 v_b702 v_b703 v_z1179) v_y930.fN).bind fun (v_r1200 : (ByteArray × S_ringref3_Disk)) =>
          if (!((b2s v_r1181.1).toList == v_r1200.1.toList)) = true then
           some (.x0 false)
          else
           some (.x1 v_r1181.2.2.ffuse v_r1181.2.2.fsafe v_r1181.2.2.fnow v_r1181.2.2.fwait v_r1200.2.fSectors v_r1200.2.fMark v_r1200.2.fFuse v_r1200.2.fAll)
         else
          some (.x0 false)
theorem G_ringlaw3_DiskPlays_C10_ok {Fi : Ex → PS → Prop} (hF : KC 160 Fi) (ks : List Fr) (n : Nat) (v_sectors1 : Int) (v_l2 : (List S_ringlaw3_Act)) (v_x696 : Int) (v_b697 : Int) (v_w698 : (List Int)) (v_w699 : (List Int)) (v_w700 : (List S_disk_write)) (v_b701 : Int) (v_b702 : Int) (v_b703 : Int) (v_w704 : (List S_ringref3_Put))  (o : G_ringlaw3_DiskPlays_C10_R) (h : G_ringlaw3_DiskPlays_C10 n v_sectors1 v_l2 v_x696 v_b697 v_w698 v_w699 v_w700 v_b701 v_b702 v_b703 v_w704 = some o) (q : RunE Try.prog 160 Fi ks (G_ringlaw3_DiskPlays_C10_ex o) (G_ringlaw3_DiskPlays_C10_st v_sectors1 v_l2 v_x696 v_b697 v_w698 v_w699 v_w700 v_b701 v_b702 v_b703 v_w704 o)) : RunE Try.prog 160 Fi (.s (cL (cR (cR (cP (cB (cR (cL (cR (cR (cR (cR (cR (cR (bodyOf Try.f3)))))))))))))) :: ks) .normal (G_ringlaw3_DiskPlays_C10_hd v_sectors1 v_l2 v_x696 v_b697 v_w698 v_w699 v_w700 v_b701 v_b702 v_b703 v_w704) := by
  unfold G_ringlaw3_DiskPlays_C10 at h
  obtain ⟨v_y930, h519, h⟩ := bind_some h
  obtain ⟨v_o1081, h574, h⟩ := bind_some h
  refine pkk_sound TTok mix hF 6 (hs := [.y (eS_ringlaw3_Act v_y930), .c, .c]) (ts := []) (s := [0, 1, 2, 3, 4, 5, 16]) (l := [0, 5, 7, 9, 40, 41, 42, 47]) (by kernel_rfl) (by kernel_rfl) (.cons (getI_ob (f := eS_ringlaw3_Act) h519) (.cons (show 0 + 4 ≤ 4 by decide) .nil)) (G_ringlaw3_DiskPlays_C7_ok hF (.s (cR (cR (cB (cL (cR (cR (cP (cB (cR (cL (cR (cR (cR (cR (cR (cR (bodyOf Try.f3))))))))))))))))) :: .b 1 :: ks) n v_sectors1 v_l2 v_x696 v_y930 v_b697 v_w698 v_w699 v_w700 v_b701 v_b702 v_b703 v_w704 _ h574 ?_)
  cases v_o1081 with
  | x0 v_z1082 =>
    try dsimp only at h
    cases h
    exact pkk_sound TTok mix hF 2 (hs := []) (ts := []) (s := []) (l := [4]) (by kernel_rfl) (by kernel_rfl) .nil q
  | x1 v_z1084 v_z1085 v_z1086 v_z1087 v_z1088 v_z1089 v_z1090 v_z1091 =>
    try dsimp only at h
    obtain ⟨v_o1109, h581, h⟩ := bind_some h
    refine pkk_sound TTok mix hF 2 (hs := []) (ts := []) (s := [0, 1, 2, 3, 4, 5, 6]) (l := [0, 5, 7, 9, 40, 41, 42]) (by kernel_rfl) (by kernel_rfl) .nil (G_ringlaw3_DiskPlays_C8_ok hF (.s (cR (cL (cR (cR (cB (cL (cR (cR (cP (cB (cR (cL (cR (cR (cR (cR (cR (cR (bodyOf Try.f3))))))))))))))))))) :: .s (cR (cR (cR (cB (cL (cR (cR (cP (cB (cR (cL (cR (cR (cR (cR (cR (cR (bodyOf Try.f3)))))))))))))))))) :: .b 1 :: ks) n v_sectors1 v_l2 v_x696 v_z1084 v_z1085 v_z1086 v_z1087 v_z1088 v_z1089 v_z1090 v_z1091 v_y930 _ h581 ?_)
    cases v_o1109 with
    | x0 v_z1110 v_z1111 v_z1112 v_z1113 v_z1114 v_z1115 =>
      try dsimp only at h
      by_cases h582 : v_z1110 = true
      · rw [if_pos h582] at h
        cases h
        exact pkk_sound TTok mix hF 6 (hs := [.t true]) (ts := []) (s := []) (l := [4]) (by kernel_rfl) (by kernel_rfl) (.cons h582 .nil) q
      · rw [if_neg h582] at h
        obtain ⟨v_r1117, h583, h⟩ := bind_some h
        by_cases h585 : v_y930.fN < 0
        · rw [if_pos h585] at h
          by_cases h588 : v_r1117.2.1 = 1
          · rw [if_pos h588] at h
            by_cases h589 : (v_r1117.1.length : Int) = 0
            · rw [if_pos h589] at h
              cases h
              exact pkk_sound TTok mix hF 12 (hs := [.t false, .c, .h [0, 1, 2, 3] [] [.box [.srf 4, .srf 5, .srf 6, .d (.v (.int .i64 v_r1117.2.2.ffuse))], .none, .none, .none, .row 5 1 (v_r1117.2.2.fsafe.map (eI .u8)), .row 5 1 (v_r1117.2.2.fnow.map (eI .u8)), .row 54 2 (v_r1117.2.2.fwait.map eS_disk_write)] (.tup [.d (.sl (v_r1117.1.map (eI .u8))), .d (.v (.int .i64 v_r1117.2.1))]), .c, .t true, .c, .c, .c, .c, .t false, .c, .u (.d (.v (.int .i64 (v_r1117.1.length : Int)))), .c, .t false]) (ts := []) (s := [0, 22, 23, 24, 4, 5]) (l := [0, 5, 7, 40, 41, 42]) (by kernel_rfl) (by kernel_rfl) (.cons (vf h582) (.cons (G_disk_Disk_Read_h_ok n (S_disk_Disk.mk v_z1112 v_z1113 v_z1114 v_z1111) v_y930.fN _ h583) (.cons (dt h585) (.cons (nf h588) (.cons (len_ob (f := (eI .u8)) (l := v_r1117.1)) (.cons (nf h589) .nil)))))) q
            · rw [if_neg h589] at h
              cases h
              exact pkk_sound TTok mix hF 14 (hs := [.t false, .c, .h [0, 1, 2, 3] [] [.box [.srf 4, .srf 5, .srf 6, .d (.v (.int .i64 v_r1117.2.2.ffuse))], .none, .none, .none, .row 5 1 (v_r1117.2.2.fsafe.map (eI .u8)), .row 5 1 (v_r1117.2.2.fnow.map (eI .u8)), .row 54 2 (v_r1117.2.2.fwait.map eS_disk_write)] (.tup [.d (.sl (v_r1117.1.map (eI .u8))), .d (.v (.int .i64 v_r1117.2.1))]), .c, .t true, .c, .c, .c, .c, .t false, .c, .u (.d (.v (.int .i64 (v_r1117.1.length : Int)))), .c, .t true]) (ts := []) (s := []) (l := [4]) (by kernel_rfl) (by kernel_rfl) (.cons (vf h582) (.cons (G_disk_Disk_Read_h_ok n (S_disk_Disk.mk v_z1112 v_z1113 v_z1114 v_z1111) v_y930.fN _ h583) (.cons (dt h585) (.cons (nf h588) (.cons (len_ob (f := (eI .u8)) (l := v_r1117.1)) (.cons (nt h589) .nil)))))) q
          · rw [if_neg h588] at h
            cases h
            exact pkk_sound TTok mix hF 14 (hs := [.t false, .c, .h [0, 1, 2, 3] [] [.box [.srf 4, .srf 5, .srf 6, .d (.v (.int .i64 v_r1117.2.2.ffuse))], .none, .none, .none, .row 5 1 (v_r1117.2.2.fsafe.map (eI .u8)), .row 5 1 (v_r1117.2.2.fnow.map (eI .u8)), .row 54 2 (v_r1117.2.2.fwait.map eS_disk_write)] (.tup [.d (.sl (v_r1117.1.map (eI .u8))), .d (.v (.int .i64 v_r1117.2.1))]), .c, .t true, .c, .c, .c, .c, .t true, .c, .c, .c]) (ts := []) (s := []) (l := [4]) (by kernel_rfl) (by kernel_rfl) (.cons (vf h582) (.cons (G_disk_Disk_Read_h_ok n (S_disk_Disk.mk v_z1112 v_z1113 v_z1114 v_z1111) v_y930.fN _ h583) (.cons (dt h585) (.cons (nt h588) .nil)))) q
        · rw [if_neg h585] at h
          by_cases h598 : v_y930.fN ≥ v_sectors1
          · rw [if_pos h598] at h
            by_cases h599 : v_r1117.2.1 = 1
            · rw [if_pos h599] at h
              by_cases h600 : (v_r1117.1.length : Int) = 0
              · rw [if_pos h600] at h
                cases h
                exact pkk_sound TTok mix hF 12 (hs := [.t false, .c, .h [0, 1, 2, 3] [] [.box [.srf 4, .srf 5, .srf 6, .d (.v (.int .i64 v_r1117.2.2.ffuse))], .none, .none, .none, .row 5 1 (v_r1117.2.2.fsafe.map (eI .u8)), .row 5 1 (v_r1117.2.2.fnow.map (eI .u8)), .row 54 2 (v_r1117.2.2.fwait.map eS_disk_write)] (.tup [.d (.sl (v_r1117.1.map (eI .u8))), .d (.v (.int .i64 v_r1117.2.1))]), .c, .t false, .c, .c, .c, .c, .t true, .t false, .c, .u (.d (.v (.int .i64 (v_r1117.1.length : Int)))), .c, .t false]) (ts := []) (s := [0, 22, 23, 24, 4, 5]) (l := [0, 5, 7, 40, 41, 42]) (by kernel_rfl) (by kernel_rfl) (.cons (vf h582) (.cons (G_disk_Disk_Read_h_ok n (S_disk_Disk.mk v_z1112 v_z1113 v_z1114 v_z1111) v_y930.fN _ h583) (.cons (df h585) (.cons (dt h598) (.cons (nf h599) (.cons (len_ob (f := (eI .u8)) (l := v_r1117.1)) (.cons (nf h600) .nil))))))) q
              · rw [if_neg h600] at h
                cases h
                exact pkk_sound TTok mix hF 14 (hs := [.t false, .c, .h [0, 1, 2, 3] [] [.box [.srf 4, .srf 5, .srf 6, .d (.v (.int .i64 v_r1117.2.2.ffuse))], .none, .none, .none, .row 5 1 (v_r1117.2.2.fsafe.map (eI .u8)), .row 5 1 (v_r1117.2.2.fnow.map (eI .u8)), .row 54 2 (v_r1117.2.2.fwait.map eS_disk_write)] (.tup [.d (.sl (v_r1117.1.map (eI .u8))), .d (.v (.int .i64 v_r1117.2.1))]), .c, .t false, .c, .c, .c, .c, .t true, .t false, .c, .u (.d (.v (.int .i64 (v_r1117.1.length : Int)))), .c, .t true]) (ts := []) (s := []) (l := [4]) (by kernel_rfl) (by kernel_rfl) (.cons (vf h582) (.cons (G_disk_Disk_Read_h_ok n (S_disk_Disk.mk v_z1112 v_z1113 v_z1114 v_z1111) v_y930.fN _ h583) (.cons (df h585) (.cons (dt h598) (.cons (nf h599) (.cons (len_ob (f := (eI .u8)) (l := v_r1117.1)) (.cons (nt h600) .nil))))))) q
            · rw [if_neg h599] at h
              cases h
              exact pkk_sound TTok mix hF 14 (hs := [.t false, .c, .h [0, 1, 2, 3] [] [.box [.srf 4, .srf 5, .srf 6, .d (.v (.int .i64 v_r1117.2.2.ffuse))], .none, .none, .none, .row 5 1 (v_r1117.2.2.fsafe.map (eI .u8)), .row 5 1 (v_r1117.2.2.fnow.map (eI .u8)), .row 54 2 (v_r1117.2.2.fwait.map eS_disk_write)] (.tup [.d (.sl (v_r1117.1.map (eI .u8))), .d (.v (.int .i64 v_r1117.2.1))]), .c, .t false, .c, .c, .c, .c, .t true, .t true, .c, .c, .c]) (ts := []) (s := []) (l := [4]) (by kernel_rfl) (by kernel_rfl) (.cons (vf h582) (.cons (G_disk_Disk_Read_h_ok n (S_disk_Disk.mk v_z1112 v_z1113 v_z1114 v_z1111) v_y930.fN _ h583) (.cons (df h585) (.cons (dt h598) (.cons (nt h599) .nil))))) q
          · rw [if_neg h598] at h
            by_cases h603 : v_r1117.2.1 = 0
            · rw [if_pos h603] at h
              obtain ⟨v_r1142, h604, h⟩ := bind_some h
              by_cases h605 : (!((b2s v_r1117.1).toList == v_r1142.1.toList)) = true
              · rw [if_pos h605] at h
                cases h
                exact pkk_sound TTok mix hF 14 (hs := [.t false, .c, .h [0, 1, 2, 3] [] [.box [.srf 4, .srf 5, .srf 6, .d (.v (.int .i64 v_r1117.2.2.ffuse))], .none, .none, .none, .row 5 1 (v_r1117.2.2.fsafe.map (eI .u8)), .row 5 1 (v_r1117.2.2.fnow.map (eI .u8)), .row 54 2 (v_r1117.2.2.fwait.map eS_disk_write)] (.tup [.d (.sl (v_r1117.1.map (eI .u8))), .d (.v (.int .i64 v_r1117.2.1))]), .c, .t false, .c, .c, .c, .c, .t false, .t false, .c, .e 117 [] (.d (.v (.string (b2s v_r1117.1)))) [], .c, .c, .c, .c, .c, .h [4, 5] [] [.box [.d (.v (.int .i64 v_r1142.2.fSectors)), .d (.v (.int .i64 v_r1142.2.fMark)), .d (.v (.int .i64 v_r1142.2.fFuse)), .srf 2], .none, .cu (rowF 56 2 (v_r1142.2.fAll.map eS_ringref3_Put)) []] (.d (.v (.string v_r1142.1))), .c, .t true]) (ts := []) (s := []) (l := [4]) (by kernel_rfl) (by kernel_rfl) (.cons (vf h582) (.cons (G_disk_Disk_Read_h_ok n (S_disk_Disk.mk v_z1112 v_z1113 v_z1114 v_z1111) v_y930.fN _ h583) (.cons (df h585) (.cons (df h598) (.cons (nf h603) (.cons (xb2sD (L := v_r1117.1) (P := Try.prog) (T := TT) (src := 30) (dst := 9) (e := 5) (s := 1) (x := (.tmp 139)) (by kernel_rfl) (by kernel_rfl) (by kernel_rfl)) (.cons (G_ringref3_Disk_Read_h_ok n (S_ringref3_Disk.mk v_z1088 v_z1089 v_z1090 v_z1115) v_y930.fN _ h604) (.cons h605 .nil)))))))) q
              · rw [if_neg h605] at h
                cases h
                exact pkk_sound TTok mix hF 12 (hs := [.t false, .c, .h [0, 1, 2, 3] [] [.box [.srf 4, .srf 5, .srf 6, .d (.v (.int .i64 v_r1117.2.2.ffuse))], .none, .none, .none, .row 5 1 (v_r1117.2.2.fsafe.map (eI .u8)), .row 5 1 (v_r1117.2.2.fnow.map (eI .u8)), .row 54 2 (v_r1117.2.2.fwait.map eS_disk_write)] (.tup [.d (.sl (v_r1117.1.map (eI .u8))), .d (.v (.int .i64 v_r1117.2.1))]), .c, .t false, .c, .c, .c, .c, .t false, .t false, .c, .e 117 [] (.d (.v (.string (b2s v_r1117.1)))) [], .c, .c, .c, .c, .c, .h [4, 5] [] [.box [.d (.v (.int .i64 v_r1142.2.fSectors)), .d (.v (.int .i64 v_r1142.2.fMark)), .d (.v (.int .i64 v_r1142.2.fFuse)), .srf 2], .none, .cu (rowF 56 2 (v_r1142.2.fAll.map eS_ringref3_Put)) []] (.d (.v (.string v_r1142.1))), .c, .t false]) (ts := []) (s := [0, 22, 23, 24, 4, 137]) (l := [0, 5, 7, 40, 41, 42]) (by kernel_rfl) (by kernel_rfl) (.cons (vf h582) (.cons (G_disk_Disk_Read_h_ok n (S_disk_Disk.mk v_z1112 v_z1113 v_z1114 v_z1111) v_y930.fN _ h583) (.cons (df h585) (.cons (df h598) (.cons (nf h603) (.cons (xb2sD (L := v_r1117.1) (P := Try.prog) (T := TT) (src := 30) (dst := 9) (e := 5) (s := 1) (x := (.tmp 139)) (by kernel_rfl) (by kernel_rfl) (by kernel_rfl)) (.cons (G_ringref3_Disk_Read_h_ok n (S_ringref3_Disk.mk v_z1088 v_z1089 v_z1090 v_z1115) v_y930.fN _ h604) (.cons (vf h605) .nil)))))))) q
            · rw [if_neg h603] at h
              cases h
              exact pkk_sound TTok mix hF 14 (hs := [.t false, .c, .h [0, 1, 2, 3] [] [.box [.srf 4, .srf 5, .srf 6, .d (.v (.int .i64 v_r1117.2.2.ffuse))], .none, .none, .none, .row 5 1 (v_r1117.2.2.fsafe.map (eI .u8)), .row 5 1 (v_r1117.2.2.fnow.map (eI .u8)), .row 54 2 (v_r1117.2.2.fwait.map eS_disk_write)] (.tup [.d (.sl (v_r1117.1.map (eI .u8))), .d (.v (.int .i64 v_r1117.2.1))]), .c, .t false, .c, .c, .c, .c, .t false, .t true, .c, .c, .c, .c, .c, .c, .c]) (ts := []) (s := []) (l := [4]) (by kernel_rfl) (by kernel_rfl) (.cons (vf h582) (.cons (G_disk_Disk_Read_h_ok n (S_disk_Disk.mk v_z1112 v_z1113 v_z1114 v_z1111) v_y930.fN _ h583) (.cons (df h585) (.cons (df h598) (.cons (nt h603) .nil))))) q
  | x2 v_z1152 v_z1153 v_z1154 v_z1155 =>
    try dsimp only at h
    obtain ⟨v_o1173, h612, h⟩ := bind_some h
    refine pkk_sound TTok mix hF 2 (hs := []) (ts := []) (s := [0, 1, 2, 3, 4, 5, 6]) (l := [0, 5, 7, 9, 40, 41, 42]) (by kernel_rfl) (by kernel_rfl) .nil (G_ringlaw3_DiskPlays_C9_ok hF (.s (cR (cL (cR (cR (cB (cL (cR (cR (cP (cB (cR (cL (cR (cR (cR (cR (cR (cR (bodyOf Try.f3))))))))))))))))))) :: .s (cR (cR (cR (cB (cL (cR (cR (cP (cB (cR (cL (cR (cR (cR (cR (cR (cR (bodyOf Try.f3)))))))))))))))))) :: .b 1 :: ks) n v_sectors1 v_l2 v_x696 v_b697 v_z1152 v_z1153 v_z1154 v_b701 v_b702 v_b703 v_z1155 v_y930 _ h612 ?_)
    cases v_o1173 with
    | x0 v_z1174 v_z1175 v_z1176 v_z1177 v_z1178 v_z1179 =>
      try dsimp only at h
      by_cases h613 : v_z1174 = true
      · rw [if_pos h613] at h
        cases h
        exact pkk_sound TTok mix hF 6 (hs := [.t true]) (ts := []) (s := []) (l := [4]) (by kernel_rfl) (by kernel_rfl) (.cons h613 .nil) q
      · rw [if_neg h613] at h
        obtain ⟨v_r1181, h614, h⟩ := bind_some h
        by_cases h616 : v_y930.fN < 0
        · rw [if_pos h616] at h
          by_cases h619 : v_r1181.2.1 = 1
          · rw [if_pos h619] at h
            by_cases h620 : (v_r1181.1.length : Int) = 0
            · rw [if_pos h620] at h
              cases h
              exact pkk_sound TTok mix hF 12 (hs := [.t false, .c, .h [0, 1, 2, 3] [] [.box [.srf 4, .srf 5, .srf 6, .d (.v (.int .i64 v_r1181.2.2.ffuse))], .none, .none, .none, .row 5 1 (v_r1181.2.2.fsafe.map (eI .u8)), .row 5 1 (v_r1181.2.2.fnow.map (eI .u8)), .row 54 2 (v_r1181.2.2.fwait.map eS_disk_write)] (.tup [.d (.sl (v_r1181.1.map (eI .u8))), .d (.v (.int .i64 v_r1181.2.1))]), .c, .t true, .c, .c, .c, .c, .t false, .c, .u (.d (.v (.int .i64 (v_r1181.1.length : Int)))), .c, .t false]) (ts := []) (s := [0, 22, 23, 24, 4, 5]) (l := [0, 5, 7, 40, 41, 42]) (by kernel_rfl) (by kernel_rfl) (.cons (vf h613) (.cons (G_disk_Disk_Read_h_ok n (S_disk_Disk.mk v_z1176 v_z1177 v_z1178 v_z1175) v_y930.fN _ h614) (.cons (dt h616) (.cons (nf h619) (.cons (len_ob (f := (eI .u8)) (l := v_r1181.1)) (.cons (nf h620) .nil)))))) q
            · rw [if_neg h620] at h
              cases h
              exact pkk_sound TTok mix hF 14 (hs := [.t false, .c, .h [0, 1, 2, 3] [] [.box [.srf 4, .srf 5, .srf 6, .d (.v (.int .i64 v_r1181.2.2.ffuse))], .none, .none, .none, .row 5 1 (v_r1181.2.2.fsafe.map (eI .u8)), .row 5 1 (v_r1181.2.2.fnow.map (eI .u8)), .row 54 2 (v_r1181.2.2.fwait.map eS_disk_write)] (.tup [.d (.sl (v_r1181.1.map (eI .u8))), .d (.v (.int .i64 v_r1181.2.1))]), .c, .t true, .c, .c, .c, .c, .t false, .c, .u (.d (.v (.int .i64 (v_r1181.1.length : Int)))), .c, .t true]) (ts := []) (s := []) (l := [4]) (by kernel_rfl) (by kernel_rfl) (.cons (vf h613) (.cons (G_disk_Disk_Read_h_ok n (S_disk_Disk.mk v_z1176 v_z1177 v_z1178 v_z1175) v_y930.fN _ h614) (.cons (dt h616) (.cons (nf h619) (.cons (len_ob (f := (eI .u8)) (l := v_r1181.1)) (.cons (nt h620) .nil)))))) q
          · rw [if_neg h619] at h
            cases h
            exact pkk_sound TTok mix hF 14 (hs := [.t false, .c, .h [0, 1, 2, 3] [] [.box [.srf 4, .srf 5, .srf 6, .d (.v (.int .i64 v_r1181.2.2.ffuse))], .none, .none, .none, .row 5 1 (v_r1181.2.2.fsafe.map (eI .u8)), .row 5 1 (v_r1181.2.2.fnow.map (eI .u8)), .row 54 2 (v_r1181.2.2.fwait.map eS_disk_write)] (.tup [.d (.sl (v_r1181.1.map (eI .u8))), .d (.v (.int .i64 v_r1181.2.1))]), .c, .t true, .c, .c, .c, .c, .t true, .c, .c, .c]) (ts := []) (s := []) (l := [4]) (by kernel_rfl) (by kernel_rfl) (.cons (vf h613) (.cons (G_disk_Disk_Read_h_ok n (S_disk_Disk.mk v_z1176 v_z1177 v_z1178 v_z1175) v_y930.fN _ h614) (.cons (dt h616) (.cons (nt h619) .nil)))) q
        · rw [if_neg h616] at h
          by_cases h629 : v_y930.fN ≥ v_sectors1
          · rw [if_pos h629] at h
            by_cases h630 : v_r1181.2.1 = 1
            · rw [if_pos h630] at h
              by_cases h631 : (v_r1181.1.length : Int) = 0
              · rw [if_pos h631] at h
                cases h
                exact pkk_sound TTok mix hF 12 (hs := [.t false, .c, .h [0, 1, 2, 3] [] [.box [.srf 4, .srf 5, .srf 6, .d (.v (.int .i64 v_r1181.2.2.ffuse))], .none, .none, .none, .row 5 1 (v_r1181.2.2.fsafe.map (eI .u8)), .row 5 1 (v_r1181.2.2.fnow.map (eI .u8)), .row 54 2 (v_r1181.2.2.fwait.map eS_disk_write)] (.tup [.d (.sl (v_r1181.1.map (eI .u8))), .d (.v (.int .i64 v_r1181.2.1))]), .c, .t false, .c, .c, .c, .c, .t true, .t false, .c, .u (.d (.v (.int .i64 (v_r1181.1.length : Int)))), .c, .t false]) (ts := []) (s := [0, 22, 23, 24, 4, 5]) (l := [0, 5, 7, 40, 41, 42]) (by kernel_rfl) (by kernel_rfl) (.cons (vf h613) (.cons (G_disk_Disk_Read_h_ok n (S_disk_Disk.mk v_z1176 v_z1177 v_z1178 v_z1175) v_y930.fN _ h614) (.cons (df h616) (.cons (dt h629) (.cons (nf h630) (.cons (len_ob (f := (eI .u8)) (l := v_r1181.1)) (.cons (nf h631) .nil))))))) q
              · rw [if_neg h631] at h
                cases h
                exact pkk_sound TTok mix hF 14 (hs := [.t false, .c, .h [0, 1, 2, 3] [] [.box [.srf 4, .srf 5, .srf 6, .d (.v (.int .i64 v_r1181.2.2.ffuse))], .none, .none, .none, .row 5 1 (v_r1181.2.2.fsafe.map (eI .u8)), .row 5 1 (v_r1181.2.2.fnow.map (eI .u8)), .row 54 2 (v_r1181.2.2.fwait.map eS_disk_write)] (.tup [.d (.sl (v_r1181.1.map (eI .u8))), .d (.v (.int .i64 v_r1181.2.1))]), .c, .t false, .c, .c, .c, .c, .t true, .t false, .c, .u (.d (.v (.int .i64 (v_r1181.1.length : Int)))), .c, .t true]) (ts := []) (s := []) (l := [4]) (by kernel_rfl) (by kernel_rfl) (.cons (vf h613) (.cons (G_disk_Disk_Read_h_ok n (S_disk_Disk.mk v_z1176 v_z1177 v_z1178 v_z1175) v_y930.fN _ h614) (.cons (df h616) (.cons (dt h629) (.cons (nf h630) (.cons (len_ob (f := (eI .u8)) (l := v_r1181.1)) (.cons (nt h631) .nil))))))) q
            · rw [if_neg h630] at h
              cases h
              exact pkk_sound TTok mix hF 14 (hs := [.t false, .c, .h [0, 1, 2, 3] [] [.box [.srf 4, .srf 5, .srf 6, .d (.v (.int .i64 v_r1181.2.2.ffuse))], .none, .none, .none, .row 5 1 (v_r1181.2.2.fsafe.map (eI .u8)), .row 5 1 (v_r1181.2.2.fnow.map (eI .u8)), .row 54 2 (v_r1181.2.2.fwait.map eS_disk_write)] (.tup [.d (.sl (v_r1181.1.map (eI .u8))), .d (.v (.int .i64 v_r1181.2.1))]), .c, .t false, .c, .c, .c, .c, .t true, .t true, .c, .c, .c]) (ts := []) (s := []) (l := [4]) (by kernel_rfl) (by kernel_rfl) (.cons (vf h613) (.cons (G_disk_Disk_Read_h_ok n (S_disk_Disk.mk v_z1176 v_z1177 v_z1178 v_z1175) v_y930.fN _ h614) (.cons (df h616) (.cons (dt h629) (.cons (nt h630) .nil))))) q
          · rw [if_neg h629] at h
            by_cases h634 : v_r1181.2.1 = 0
            · rw [if_pos h634] at h
              obtain ⟨v_r1200, h635, h⟩ := bind_some h
              by_cases h636 : (!((b2s v_r1181.1).toList == v_r1200.1.toList)) = true
              · rw [if_pos h636] at h
                cases h
                exact pkk_sound TTok mix hF 14 (hs := [.t false, .c, .h [0, 1, 2, 3] [] [.box [.srf 4, .srf 5, .srf 6, .d (.v (.int .i64 v_r1181.2.2.ffuse))], .none, .none, .none, .row 5 1 (v_r1181.2.2.fsafe.map (eI .u8)), .row 5 1 (v_r1181.2.2.fnow.map (eI .u8)), .row 54 2 (v_r1181.2.2.fwait.map eS_disk_write)] (.tup [.d (.sl (v_r1181.1.map (eI .u8))), .d (.v (.int .i64 v_r1181.2.1))]), .c, .t false, .c, .c, .c, .c, .t false, .t false, .c, .e 117 [] (.d (.v (.string (b2s v_r1181.1)))) [], .c, .c, .c, .c, .c, .h [4, 5] [] [.box [.d (.v (.int .i64 v_r1200.2.fSectors)), .d (.v (.int .i64 v_r1200.2.fMark)), .d (.v (.int .i64 v_r1200.2.fFuse)), .srf 2], .none, .cu (rowF 56 2 (v_r1200.2.fAll.map eS_ringref3_Put)) []] (.d (.v (.string v_r1200.1))), .c, .t true]) (ts := []) (s := []) (l := [4]) (by kernel_rfl) (by kernel_rfl) (.cons (vf h613) (.cons (G_disk_Disk_Read_h_ok n (S_disk_Disk.mk v_z1176 v_z1177 v_z1178 v_z1175) v_y930.fN _ h614) (.cons (df h616) (.cons (df h629) (.cons (nf h634) (.cons (xb2sD (L := v_r1181.1) (P := Try.prog) (T := TT) (src := 30) (dst := 9) (e := 5) (s := 1) (x := (.tmp 139)) (by kernel_rfl) (by kernel_rfl) (by kernel_rfl)) (.cons (G_ringref3_Disk_Read_h_ok n (S_ringref3_Disk.mk v_b701 v_b702 v_b703 v_z1179) v_y930.fN _ h635) (.cons h636 .nil)))))))) q
              · rw [if_neg h636] at h
                cases h
                exact pkk_sound TTok mix hF 12 (hs := [.t false, .c, .h [0, 1, 2, 3] [] [.box [.srf 4, .srf 5, .srf 6, .d (.v (.int .i64 v_r1181.2.2.ffuse))], .none, .none, .none, .row 5 1 (v_r1181.2.2.fsafe.map (eI .u8)), .row 5 1 (v_r1181.2.2.fnow.map (eI .u8)), .row 54 2 (v_r1181.2.2.fwait.map eS_disk_write)] (.tup [.d (.sl (v_r1181.1.map (eI .u8))), .d (.v (.int .i64 v_r1181.2.1))]), .c, .t false, .c, .c, .c, .c, .t false, .t false, .c, .e 117 [] (.d (.v (.string (b2s v_r1181.1)))) [], .c, .c, .c, .c, .c, .h [4, 5] [] [.box [.d (.v (.int .i64 v_r1200.2.fSectors)), .d (.v (.int .i64 v_r1200.2.fMark)), .d (.v (.int .i64 v_r1200.2.fFuse)), .srf 2], .none, .cu (rowF 56 2 (v_r1200.2.fAll.map eS_ringref3_Put)) []] (.d (.v (.string v_r1200.1))), .c, .t false]) (ts := []) (s := [0, 22, 23, 24, 4, 137]) (l := [0, 5, 7, 40, 41, 42]) (by kernel_rfl) (by kernel_rfl) (.cons (vf h613) (.cons (G_disk_Disk_Read_h_ok n (S_disk_Disk.mk v_z1176 v_z1177 v_z1178 v_z1175) v_y930.fN _ h614) (.cons (df h616) (.cons (df h629) (.cons (nf h634) (.cons (xb2sD (L := v_r1181.1) (P := Try.prog) (T := TT) (src := 30) (dst := 9) (e := 5) (s := 1) (x := (.tmp 139)) (by kernel_rfl) (by kernel_rfl) (by kernel_rfl)) (.cons (G_ringref3_Disk_Read_h_ok n (S_ringref3_Disk.mk v_b701 v_b702 v_b703 v_z1179) v_y930.fN _ h635) (.cons (vf h636) .nil)))))))) q
            · rw [if_neg h634] at h
              cases h
              exact pkk_sound TTok mix hF 14 (hs := [.t false, .c, .h [0, 1, 2, 3] [] [.box [.srf 4, .srf 5, .srf 6, .d (.v (.int .i64 v_r1181.2.2.ffuse))], .none, .none, .none, .row 5 1 (v_r1181.2.2.fsafe.map (eI .u8)), .row 5 1 (v_r1181.2.2.fnow.map (eI .u8)), .row 54 2 (v_r1181.2.2.fwait.map eS_disk_write)] (.tup [.d (.sl (v_r1181.1.map (eI .u8))), .d (.v (.int .i64 v_r1181.2.1))]), .c, .t false, .c, .c, .c, .c, .t false, .t true, .c, .c, .c, .c, .c, .c, .c]) (ts := []) (s := []) (l := [4]) (by kernel_rfl) (by kernel_rfl) (.cons (vf h613) (.cons (G_disk_Disk_Read_h_ok n (S_disk_Disk.mk v_z1176 v_z1177 v_z1178 v_z1175) v_y930.fN _ h614) (.cons (df h616) (.cons (df h629) (.cons (nt h634) .nil))))) q
inductive G_ringlaw3_DiskPlays_L11_R where
  | x0 (v_x1212 : Bool)
  | x1 (v_b1226 : Int) (v_w1227 : (List Int)) (v_w1228 : (List Int)) (v_w1229 : (List S_disk_write)) (v_b1230 : Int) (v_b1231 : Int) (v_b1232 : Int) (v_w1233 : (List S_ringref3_Put))
def G_ringlaw3_DiskPlays_L11_ex : G_ringlaw3_DiskPlays_L11_R → Ex
  | .x0 _ => .ret
  | .x1 _ _ _ _ _ _ _ _ => .exit 0
def G_ringlaw3_DiskPlays_L11_st (v_sectors1 : Int) (v_l2 : (List S_ringlaw3_Act)) : G_ringlaw3_DiskPlays_L11_R → PS
  | .x0 v_x1212 => ⟨[dd, dd, dd, dd, .d (.v (.bool v_x1212)), dd, dd, dd, dd, dd, dd, dd, dd, dd, dd, dd, dd, dd, dd, dd, dd, dd, dd, dd, dd, dd, dd, dd, dd, dd, dd, dd, dd, dd, dd, dd, dd, dd, dd, dd, dd, dd, dd, dd, dd, dd, dd, dd, dd, dd, dd, dd, dd, dd, dd, dd, dd, dd, dd, dd, dd, dd, dd, dd, dd, dd, dd, dd, dd, dd, dd, dd, dd, dd, dd, dd, dd, dd, dd, dd, dd, dd, dd, dd, dd, dd, dd, dd, dd, dd, dd, dd, dd, dd, dd, dd, dd, dd, dd, dd, dd, dd, dd, dd, dd, dd, dd, dd, dd, dd, dd, dd, dd, dd, dd, dd, dd, dd, dd, dd, dd, dd, dd, dd, dd, dd, dd, dd, dd, dd, dd, dd, dd, dd, dd, dd, dd, dd, dd, dd, dd, dd, dd, dd, dd, dd, dd, dd, dd, dd, dd, dd, dd, dd, dd, dd, dd, dd, dd, dd], []⟩
  | .x1 v_b1226 v_w1227 v_w1228 v_w1229 v_b1230 v_b1231 v_b1232 v_w1233 => ⟨[.d (.v (.int .i64 v_sectors1)), dd, dd, dd, dd, .ref 0 0, dd, .ref 4 0, dd, dd, dd, dd, dd, dd, dd, dd, dd, dd, dd, dd, dd, dd, dd, dd, dd, dd, dd, dd, dd, dd, dd, dd, dd, dd, dd, dd, dd, dd, dd, dd, dd, dd, dd, dd, dd, dd, dd, dd, dd, dd, dd, dd, dd, dd, dd, dd, dd, dd, dd, dd, dd, dd, dd, dd, dd, dd, dd, dd, dd, dd, dd, dd, dd, dd, dd, dd, dd, dd, dd, dd, dd, dd, dd, dd, dd, dd, dd, dd, dd, dd, dd, dd, dd, dd, dd, dd, dd, dd, dd, dd, dd, dd, dd, dd, dd, dd, dd, dd, dd, dd, dd, dd, dd, dd, dd, dd, dd, dd, dd, dd, dd, dd, dd, dd, dd, dd, dd, dd, dd, dd, dd, dd, dd, dd, dd, dd, dd, dd, dd, dd, dd, dd, dd, dd, dd, dd, dd, dd, dd, dd, dd, dd, dd, dd, dd, dd, dd, dd, dd, dd], [.box [.srf 1, .srf 2, .srf 3, .d (.v (.int .i64 v_b1226))], .row 5 1 (v_w1227.map (eI .u8)), .row 5 1 (v_w1228.map (eI .u8)), .row 54 2 (v_w1229.map eS_disk_write), .box [.d (.v (.int .i64 v_b1230)), .d (.v (.int .i64 v_b1231)), .d (.v (.int .i64 v_b1232)), .srf 5], .cu (rowF 56 2 (v_w1233.map eS_ringref3_Put)) []]⟩
def G_ringlaw3_DiskPlays_L11_hd (v_sectors1 : Int) (v_l2 : (List S_ringlaw3_Act)) (v_x696 : Int) (v_b697 : Int) (v_w698 : (List Int)) (v_w699 : (List Int)) (v_w700 : (List S_disk_write)) (v_b701 : Int) (v_b702 : Int) (v_b703 : Int) (v_w704 : (List S_ringref3_Put)) : PS := ⟨[.d (.v (.int .i64 v_sectors1)), dd, dd, dd, dd, .ref 0 0, dd, .ref 4 0, dd, dd, dd, dd, dd, dd, dd, dd, dd, dd, dd, dd, dd, dd, dd, dd, dd, dd, dd, dd, dd, dd, dd, dd, dd, dd, dd, dd, dd, dd, dd, dd, .d (.sl (v_l2.map eS_ringlaw3_Act)), .d (.v (.int .i64 (v_l2.length : Int))), .d (.v (.int .i64 v_x696)), dd, dd, dd, dd, dd, dd, dd, dd, dd, dd, dd, dd, dd, dd, dd, dd, dd, dd, dd, dd, dd, dd, dd, dd, dd, dd, dd, dd, dd, dd, dd, dd, dd, dd, dd, dd, dd, dd, dd, dd, dd, dd, dd, dd, dd, dd, dd, dd, dd, dd, dd, dd, dd, dd, dd, dd, dd, dd, dd, dd, dd, dd, dd, dd, dd, dd, dd, dd, dd, dd, dd, dd, dd, dd, dd, dd, dd, dd, dd, dd, dd, dd, dd, dd, dd, dd, dd, dd, dd, dd, dd, dd, dd, dd, dd, dd, dd, dd, dd, dd, dd, dd, dd, dd, dd, dd, dd, dd, dd, dd, dd, dd, dd, dd, dd, dd, dd], [.box [.srf 1, .srf 2, .srf 3, .d (.v (.int .i64 v_b697))], .row 5 1 (v_w698.map (eI .u8)), .row 5 1 (v_w699.map (eI .u8)), .row 54 2 (v_w700.map eS_disk_write), .box [.d (.v (.int .i64 v_b701)), .d (.v (.int .i64 v_b702)), .d (.v (.int .i64 v_b703)), .srf 5], .cu (rowF 56 2 (v_w704.map eS_ringref3_Put)) []]⟩
def G_ringlaw3_DiskPlays_L11 (n : Nat) (v_sectors1 : Int) (v_l2 : (List S_ringlaw3_Act)) : Nat → Int → Int → (List Int) → (List Int) → (List S_disk_write) → Int → Int → Int → (List S_ringref3_Put) → Option G_ringlaw3_DiskPlays_L11_R
  | 0, _, _, _, _, _, _, _, _, _ => none
  | k + 1, v_x696, v_b697, v_w698, v_w699, v_w700, v_b701, v_b702, v_b703, v_w704 =>
    if v_x696 < (v_l2.length : Int) then
     (G_ringlaw3_DiskPlays_C10 n v_sectors1 v_l2 v_x696 v_b697 v_w698 v_w699 v_w700 v_b701 v_b702 v_b703 v_w704).bind fun v_o1210 => match v_o1210 with
     | .x0 v_z1211 =>
       some (.x0 v_z1211)
     | .x1 v_z1213 v_z1214 v_z1215 v_z1216 v_z1217 v_z1218 v_z1219 v_z1220 =>
       G_ringlaw3_DiskPlays_L11 n v_sectors1 v_l2 k (wi .i64 (v_x696 + 1)) v_z1213 v_z1214 v_z1215 v_z1216 v_z1217 v_z1218 v_z1219 v_z1220
     | .x2 v_z1221 v_z1222 v_z1223 v_z1224 v_z1225 =>
       G_ringlaw3_DiskPlays_L11 n v_sectors1 v_l2 k (wi .i64 (v_x696 + 1)) v_z1221 v_z1222 v_z1223 v_z1224 v_b701 v_b702 v_b703 v_z1225
    else
     some (.x1 v_b697 v_w698 v_w699 v_w700 v_b701 v_b702 v_b703 v_w704)
theorem G_ringlaw3_DiskPlays_L11_ok {Fi : Ex → PS → Prop} (hF : KC 160 Fi) (ks : List Fr) (n : Nat) (v_sectors1 : Int) (v_l2 : (List S_ringlaw3_Act))  : ∀ (k : Nat) (v_x696 : Int) (v_b697 : Int) (v_w698 : (List Int)) (v_w699 : (List Int)) (v_w700 : (List S_disk_write)) (v_b701 : Int) (v_b702 : Int) (v_b703 : Int) (v_w704 : (List S_ringref3_Put)) (o : G_ringlaw3_DiskPlays_L11_R), G_ringlaw3_DiskPlays_L11 n v_sectors1 v_l2 k v_x696 v_b697 v_w698 v_w699 v_w700 v_b701 v_b702 v_b703 v_w704 = some o → RunE Try.prog 160 Fi ks (G_ringlaw3_DiskPlays_L11_ex o) (G_ringlaw3_DiskPlays_L11_st v_sectors1 v_l2 o) → RunE Try.prog 160 Fi (.l k (cP (cB (cR (cL (cR (cR (cR (cR (cR (cR (bodyOf Try.f3))))))))))) :: ks) .normal (G_ringlaw3_DiskPlays_L11_hd v_sectors1 v_l2 v_x696 v_b697 v_w698 v_w699 v_w700 v_b701 v_b702 v_b703 v_w704)
  | 0, v_x696, v_b697, v_w698, v_w699, v_w700, v_b701, v_b702, v_b703, v_w704, o, h, q => by rw [G_ringlaw3_DiskPlays_L11] at h; cases h
  | k + 1, v_x696, v_b697, v_w698, v_w699, v_w700, v_b701, v_b702, v_b703, v_w704, o, h, q => by
    rw [G_ringlaw3_DiskPlays_L11] at h
    by_cases h400 : v_x696 < (v_l2.length : Int)
    · rw [if_pos h400] at h
      obtain ⟨v_o1210, h637, h⟩ := bind_some h
      refine pkk_sound TTok mix hF 7 (hs := [.t true]) (ts := []) (s := [0, 1, 2, 3, 4, 5]) (l := [0, 5, 7, 40, 41, 42]) (by kernel_rfl) (by kernel_rfl) (.cons (dt h400) .nil) (G_ringlaw3_DiskPlays_C10_ok hF (.s (cR (cR (cR (cP (cB (cR (cL (cR (cR (cR (cR (cR (cR (bodyOf Try.f3)))))))))))))) :: .l k (cP (cB (cR (cL (cR (cR (cR (cR (cR (cR (bodyOf Try.f3))))))))))) :: ks) n v_sectors1 v_l2 v_x696 v_b697 v_w698 v_w699 v_w700 v_b701 v_b702 v_b703 v_w704 _ h637 ?_)
      cases v_o1210 with
      | x0 v_z1211 =>
        try dsimp only at h
        cases h
        exact pkk_sound TTok mix hF 2 (hs := []) (ts := []) (s := []) (l := [4]) (by kernel_rfl) (by kernel_rfl) .nil q
      | x1 v_z1213 v_z1214 v_z1215 v_z1216 v_z1217 v_z1218 v_z1219 v_z1220 =>
        try dsimp only at h
        exact pkk_sound TTok mix hF 1 (hs := []) (ts := []) (s := [0, 1, 2, 3, 4, 5]) (l := [0, 5, 7, 40, 41, 42]) (by kernel_rfl) (by kernel_rfl) .nil (G_ringlaw3_DiskPlays_L11_ok hF ks n v_sectors1 v_l2 k (wi .i64 (v_x696 + 1)) v_z1213 v_z1214 v_z1215 v_z1216 v_z1217 v_z1218 v_z1219 v_z1220 _ h q)
      | x2 v_z1221 v_z1222 v_z1223 v_z1224 v_z1225 =>
        try dsimp only at h
        exact pkk_sound TTok mix hF 1 (hs := []) (ts := []) (s := [0, 1, 2, 3, 4, 5]) (l := [0, 5, 7, 40, 41, 42]) (by kernel_rfl) (by kernel_rfl) .nil (G_ringlaw3_DiskPlays_L11_ok hF ks n v_sectors1 v_l2 k (wi .i64 (v_x696 + 1)) v_z1221 v_z1222 v_z1223 v_z1224 v_b701 v_b702 v_b703 v_z1225 _ h q)
    · rw [if_neg h400] at h
      cases h
      exact pkk_sound TTok mix hF 8 (hs := [.t false]) (ts := []) (s := [0, 1, 2, 3, 4, 5]) (l := [0, 5, 7]) (by kernel_rfl) (by kernel_rfl) (.cons (df h400) .nil) q
/- ringhall/ringlaw3.DiskPlays -/
def G_ringlaw3_DiskPlays (n : Nat) (v_sectors1 : Int) (v_l2 : (List S_ringlaw3_Act)) : Option (Bool) :=
  (G_disk_New_h n v_sectors1).bind fun (v_r6 : (Option S_disk_Disk) × Int) => match v_r6 with
  | (none, v_r6_1) =>
    if v_sectors1 < 16 then
     if v_r6_1 = 1 then
      some true
     else
      some false
    else
     if v_sectors1 > 256 then
      if v_r6_1 = 1 then
       some true
      else
       some false
     else
      if v_r6_1 = 0 then
       some false
      else
       some false
  | (some v_r6_0, v_r6_1) =>
    if v_sectors1 < 16 then
     if v_r6_1 = 1 then
      some false
     else
      some false
    else
     if v_sectors1 > 256 then
      if v_r6_1 = 1 then
       some false
      else
       some false
     else
      if v_r6_1 = 0 then
       (G_ringlaw3_light n v_l2).bind fun (v_r16 : (Bool)) =>
       if v_r16 = true then
        (G_ringref3_NewDisk_h n v_sectors1).bind fun (v_r18 : (S_ringref3_Disk)) =>
        (G_ringlaw3_DiskPlays_L11 n v_sectors1 v_l2 n 0 v_r6_0.ffuse v_r6_0.fsafe v_r6_0.fnow v_r6_0.fwait v_r18.fSectors v_r18.fMark v_r18.fFuse v_r18.fAll).bind fun v_o1234 => match v_o1234 with
        | .x0 v_z1235 =>
          some v_z1235
        | .x1 v_z1236 v_z1237 v_z1238 v_z1239 v_z1240 v_z1241 v_z1242 v_z1243 =>
          (G_disk_Disk_Size_h n (S_disk_Disk.mk v_z1237 v_z1238 v_z1239 v_z1236)).bind fun (v_r1291 : (Int × S_disk_Disk)) =>
          if v_r1291.1 = v_sectors1 then
           (G_disk_Disk_Image_h n v_r1291.2).bind fun (v_r1292 : ((List Int) × S_disk_Disk)) =>
           (G_ringref3_Disk_Image_h n (S_ringref3_Disk.mk v_z1240 v_z1241 v_z1242 v_z1243)).bind fun (v_r1293 : (ByteArray × S_ringref3_Disk)) =>
           some ((b2s v_r1292.1).toList == v_r1293.1.toList)
          else
           some false
       else
        some true
      else
       some false
theorem G_ringlaw3_DiskPlays_ok (n : Nat) (v_sectors1 : Int) (v_l2 : (List S_ringlaw3_Act)) (r : Bool) (h : G_ringlaw3_DiskPlays n v_sectors1 v_l2 = some r) : Ret Try.prog 3 [(eI .i64) v_sectors1, (eL eS_ringlaw3_Act) v_l2] (eB r) := by
  refine ret_run (n := 160) (fn := Try.f3) (c := bodyOf Try.f3) (by kernel_rfl) (by kernel_rfl) (by kernel_rfl) (by kernel_rfl) ?_
  have hF : KC 160 (FinR Try.prog Try.f3 (eB r)) := FinR.kc' (by kernel_rfl)
  unfold G_ringlaw3_DiskPlays at h
  obtain ⟨v_r6, h5, h⟩ := bind_some h
  match v_r6, h5, h with
  | (none, v_r6_1), h5, h =>
    try dsimp only at h
    by_cases h6 : v_sectors1 < 16
    · rw [if_pos h6] at h
      by_cases h7 : v_r6_1 = 1
      · rw [if_pos h7] at h
        obtain rfl := Option.some.inj h
        exact pend_sound TTok mix 12 (hs := [.h [] [] [] (.tup [.d (.v (.pointer none)), .d (.v (.int .i64 v_r6_1))]), .t true, .c, .c, .t true, .c, .e 90 [] (.d (.v (.bool true))) []]) (by kernel_rfl) (by kernel_rfl) (by kernel_rfl) (.cons (G_disk_New_h_ok n v_sectors1 _ h5) (.cons (dt h6) (.cons (bt h7) (.cons (xnilN (P := Try.prog) (T := TT) (op := .eql) (t := 23) (e := 51) (ty' := 23) (x := (.tmp 26)) (y := (.const (.pointer none))) rfl (by kernel_rfl)) .nil))))
      · rw [if_neg h7] at h
        obtain rfl := Option.some.inj h
        exact pend_sound TTok mix 12 (hs := [.h [] [] [] (.tup [.d (.v (.pointer none)), .d (.v (.int .i64 v_r6_1))]), .t true, .c, .c, .t false, .c]) (by kernel_rfl) (by kernel_rfl) (by kernel_rfl) (.cons (G_disk_New_h_ok n v_sectors1 _ h5) (.cons (dt h6) (.cons (bf h7) .nil)))
    · rw [if_neg h6] at h
      by_cases h8 : v_sectors1 > 256
      · rw [if_pos h8] at h
        by_cases h9 : v_r6_1 = 1
        · rw [if_pos h9] at h
          obtain rfl := Option.some.inj h
          exact pend_sound TTok mix 12 (hs := [.h [] [] [] (.tup [.d (.v (.pointer none)), .d (.v (.int .i64 v_r6_1))]), .t false, .c, .t true, .t true, .c, .e 90 [] (.d (.v (.bool true))) []]) (by kernel_rfl) (by kernel_rfl) (by kernel_rfl) (.cons (G_disk_New_h_ok n v_sectors1 _ h5) (.cons (df h6) (.cons (dt h8) (.cons (bt h9) (.cons (xnilN (P := Try.prog) (T := TT) (op := .eql) (t := 23) (e := 51) (ty' := 23) (x := (.tmp 26)) (y := (.const (.pointer none))) rfl (by kernel_rfl)) .nil)))))
        · rw [if_neg h9] at h
          obtain rfl := Option.some.inj h
          exact pend_sound TTok mix 12 (hs := [.h [] [] [] (.tup [.d (.v (.pointer none)), .d (.v (.int .i64 v_r6_1))]), .t false, .c, .t true, .t false, .c]) (by kernel_rfl) (by kernel_rfl) (by kernel_rfl) (.cons (G_disk_New_h_ok n v_sectors1 _ h5) (.cons (df h6) (.cons (dt h8) (.cons (bf h9) .nil))))
      · rw [if_neg h8] at h
        by_cases h10 : v_r6_1 = 0
        · rw [if_pos h10] at h
          obtain rfl := Option.some.inj h
          exact pend_sound TTok mix 17 (hs := [.h [] [] [] (.tup [.d (.v (.pointer none)), .d (.v (.int .i64 v_r6_1))]), .t false, .c, .t false, .t false, .c, .e 90 [] (.d (.v (.bool true))) [], .c]) (by kernel_rfl) (by kernel_rfl) (by kernel_rfl) (.cons (G_disk_New_h_ok n v_sectors1 _ h5) (.cons (df h6) (.cons (df h8) (.cons (nf h10) (.cons (xnilN (P := Try.prog) (T := TT) (op := .eql) (t := 23) (e := 51) (ty' := 23) (x := (.tmp 32)) (y := (.const (.pointer none))) rfl (by kernel_rfl)) .nil)))))
        · rw [if_neg h10] at h
          obtain rfl := Option.some.inj h
          exact pend_sound TTok mix 17 (hs := [.h [] [] [] (.tup [.d (.v (.pointer none)), .d (.v (.int .i64 v_r6_1))]), .t false, .c, .t false, .t true, .c, .c]) (by kernel_rfl) (by kernel_rfl) (by kernel_rfl) (.cons (G_disk_New_h_ok n v_sectors1 _ h5) (.cons (df h6) (.cons (df h8) (.cons (nt h10) .nil))))
  | (some v_r6_0, v_r6_1), h5, h =>
    try dsimp only at h
    by_cases h11 : v_sectors1 < 16
    · rw [if_pos h11] at h
      by_cases h13 : v_r6_1 = 1
      · rw [if_pos h13] at h
        obtain rfl := Option.some.inj h
        exact pend_sound TTok mix 12 (hs := [.h [] [] [.box [.srf 1, .srf 2, .srf 3, .d (.v (.int .i64 v_r6_0.ffuse))], .row 5 1 (v_r6_0.fsafe.map (eI .u8)), .row 5 1 (v_r6_0.fnow.map (eI .u8)), .row 54 2 (v_r6_0.fwait.map eS_disk_write)] (.tup [.ref 0 0, .d (.v (.int .i64 v_r6_1))]), .t true, .c, .c, .t true, .c, .e 90 [] (.d (.v (.bool false))) []]) (by kernel_rfl) (by kernel_rfl) (by kernel_rfl) (.cons (G_disk_New_h_ok n v_sectors1 _ h5) (.cons (dt h11) (.cons (bt h13) (.cons (xnilP (P := Try.prog) (T := TT) (op := .eql) (t := 23) (e := 51) (ty' := 23) (x := (.tmp 26)) (y := (.const (.pointer none))) (l := 10) (off := 0) rfl (by kernel_rfl)) .nil))))
      · rw [if_neg h13] at h
        obtain rfl := Option.some.inj h
        exact pend_sound TTok mix 12 (hs := [.h [] [] [.box [.srf 1, .srf 2, .srf 3, .d (.v (.int .i64 v_r6_0.ffuse))], .row 5 1 (v_r6_0.fsafe.map (eI .u8)), .row 5 1 (v_r6_0.fnow.map (eI .u8)), .row 54 2 (v_r6_0.fwait.map eS_disk_write)] (.tup [.ref 0 0, .d (.v (.int .i64 v_r6_1))]), .t true, .c, .c, .t false, .c]) (by kernel_rfl) (by kernel_rfl) (by kernel_rfl) (.cons (G_disk_New_h_ok n v_sectors1 _ h5) (.cons (dt h11) (.cons (bf h13) .nil)))
    · rw [if_neg h11] at h
      by_cases h16 : v_sectors1 > 256
      · rw [if_pos h16] at h
        by_cases h17 : v_r6_1 = 1
        · rw [if_pos h17] at h
          obtain rfl := Option.some.inj h
          exact pend_sound TTok mix 12 (hs := [.h [] [] [.box [.srf 1, .srf 2, .srf 3, .d (.v (.int .i64 v_r6_0.ffuse))], .row 5 1 (v_r6_0.fsafe.map (eI .u8)), .row 5 1 (v_r6_0.fnow.map (eI .u8)), .row 54 2 (v_r6_0.fwait.map eS_disk_write)] (.tup [.ref 0 0, .d (.v (.int .i64 v_r6_1))]), .t false, .c, .t true, .t true, .c, .e 90 [] (.d (.v (.bool false))) []]) (by kernel_rfl) (by kernel_rfl) (by kernel_rfl) (.cons (G_disk_New_h_ok n v_sectors1 _ h5) (.cons (df h11) (.cons (dt h16) (.cons (bt h17) (.cons (xnilP (P := Try.prog) (T := TT) (op := .eql) (t := 23) (e := 51) (ty' := 23) (x := (.tmp 26)) (y := (.const (.pointer none))) (l := 10) (off := 0) rfl (by kernel_rfl)) .nil)))))
        · rw [if_neg h17] at h
          obtain rfl := Option.some.inj h
          exact pend_sound TTok mix 12 (hs := [.h [] [] [.box [.srf 1, .srf 2, .srf 3, .d (.v (.int .i64 v_r6_0.ffuse))], .row 5 1 (v_r6_0.fsafe.map (eI .u8)), .row 5 1 (v_r6_0.fnow.map (eI .u8)), .row 54 2 (v_r6_0.fwait.map eS_disk_write)] (.tup [.ref 0 0, .d (.v (.int .i64 v_r6_1))]), .t false, .c, .t true, .t false, .c]) (by kernel_rfl) (by kernel_rfl) (by kernel_rfl) (.cons (G_disk_New_h_ok n v_sectors1 _ h5) (.cons (df h11) (.cons (dt h16) (.cons (bf h17) .nil))))
      · rw [if_neg h16] at h
        by_cases h18 : v_r6_1 = 0
        · rw [if_pos h18] at h
          obtain ⟨v_r16, h29, h⟩ := bind_some h
          by_cases h30 : v_r16 = true
          · rw [if_pos h30] at h
            obtain ⟨v_r18, h31, h⟩ := bind_some h
            obtain ⟨v_o1234, h638, h⟩ := bind_some h
            refine pkk_sound TTok mix hF 26 (hs := [.h [] [] [.box [.srf 1, .srf 2, .srf 3, .d (.v (.int .i64 v_r6_0.ffuse))], .row 5 1 (v_r6_0.fsafe.map (eI .u8)), .row 5 1 (v_r6_0.fnow.map (eI .u8)), .row 54 2 (v_r6_0.fwait.map eS_disk_write)] (.tup [.ref 0 0, .d (.v (.int .i64 v_r6_1))]), .t false, .c, .t false, .t false, .c, .e 90 [] (.d (.v (.bool false))) [], .c, .r (eB v_r16), .t false, .h [] [] [.box [.d (.v (.int .i64 v_r18.fSectors)), .d (.v (.int .i64 v_r18.fMark)), .d (.v (.int .i64 v_r18.fFuse)), .srf 1], .cu (rowF 56 2 (v_r18.fAll.map eS_ringref3_Put)) []] (.ref 0 0), .u (.d (.v (.int .i64 (v_l2.length : Int)))), .n n]) (ts := []) (s := [10, 11, 12, 13, 120, 121]) (l := [0, 5, 7, 40, 41, 42]) (by kernel_rfl) (by kernel_rfl) (.cons (G_disk_New_h_ok n v_sectors1 _ h5) (.cons (df h11) (.cons (df h16) (.cons (nf h18) (.cons (xnilP (P := Try.prog) (T := TT) (op := .eql) (t := 23) (e := 51) (ty' := 23) (x := (.tmp 32)) (y := (.const (.pointer none))) (l := 10) (off := 0) rfl (by kernel_rfl)) (.cons (G_ringlaw3_light_ok n v_l2 _ h29) (.cons (bnf h30) (.cons (G_ringref3_NewDisk_h_ok n v_sectors1 _ h31) (.cons (len_ob (f := eS_ringlaw3_Act) (l := v_l2)) .nil))))))))) (G_ringlaw3_DiskPlays_L11_ok hF (.b 0 :: .s (cR (cR (cR (cR (cR (cR (cR (bodyOf Try.f3)))))))) :: []) n v_sectors1 v_l2 n 0 v_r6_0.ffuse v_r6_0.fsafe v_r6_0.fnow v_r6_0.fwait v_r18.fSectors v_r18.fMark v_r18.fFuse v_r18.fAll _ h638 ?_)
            cases v_o1234 with
            | x0 v_z1235 =>
              try dsimp only at h
              obtain rfl := Option.some.inj h
              exact pend_sound TTok mix 2 (hs := []) (by kernel_rfl) (by kernel_rfl) (by kernel_rfl) .nil
            | x1 v_z1236 v_z1237 v_z1238 v_z1239 v_z1240 v_z1241 v_z1242 v_z1243 =>
              try dsimp only at h
              obtain ⟨v_r1291, h663, h⟩ := bind_some h
              by_cases h664 : v_r1291.1 = v_sectors1
              · rw [if_pos h664] at h
                obtain ⟨v_r1292, h665, h⟩ := bind_some h
                obtain ⟨v_r1293, h666, h⟩ := bind_some h
                obtain rfl := Option.some.inj h
                exact pend_sound TTok mix 4 (hs := [.h [0, 1, 2, 3] [] [.box [.srf 4, .srf 5, .srf 6, .d (.v (.int .i64 v_r1291.2.ffuse))], .none, .none, .none, .row 5 1 (v_r1291.2.fsafe.map (eI .u8)), .row 5 1 (v_r1291.2.fnow.map (eI .u8)), .row 54 2 (v_r1291.2.fwait.map eS_disk_write)] (.d (.v (.int .i64 v_r1291.1))), .t true, .c, .h [0, 11, 12, 13] [] [.box [.srf 4, .srf 5, .srf 6, .d (.v (.int .i64 v_r1292.2.ffuse))], .none, .none, .none, .row 5 1 (v_r1292.2.fsafe.map (eI .u8)), .row 5 1 (v_r1292.2.fnow.map (eI .u8)), .row 54 2 (v_r1292.2.fwait.map eS_disk_write)] (.d (.sl (v_r1292.1.map (eI .u8)))), .c, .e 41 [] (.d (.v (.string (b2s v_r1292.1)))) [], .c, .c, .h [4, 5] [] [.box [.d (.v (.int .i64 v_r1293.2.fSectors)), .d (.v (.int .i64 v_r1293.2.fMark)), .d (.v (.int .i64 v_r1293.2.fFuse)), .srf 2], .none, .cu (rowF 56 2 (v_r1293.2.fAll.map eS_ringref3_Put)) []] (.d (.v (.string v_r1293.1))), .c]) (by kernel_rfl) (by kernel_rfl) (by kernel_rfl) (.cons (G_disk_Disk_Size_h_ok n (S_disk_Disk.mk v_z1237 v_z1238 v_z1239 v_z1236) _ h663) (.cons (bt h664) (.cons (G_disk_Disk_Image_h_ok n v_r1291.2 _ h665) (.cons (xb2sD (L := v_r1292.1) (P := Try.prog) (T := TT) (src := 30) (dst := 9) (e := 5) (s := 1) (x := (.tmp 154)) (by kernel_rfl) (by kernel_rfl) (by kernel_rfl)) (.cons (G_ringref3_Disk_Image_h_ok n (S_ringref3_Disk.mk v_z1240 v_z1241 v_z1242 v_z1243) _ h666) .nil)))))
              · rw [if_neg h664] at h
                obtain rfl := Option.some.inj h
                exact pend_sound TTok mix 4 (hs := [.h [0, 1, 2, 3] [] [.box [.srf 4, .srf 5, .srf 6, .d (.v (.int .i64 v_r1291.2.ffuse))], .none, .none, .none, .row 5 1 (v_r1291.2.fsafe.map (eI .u8)), .row 5 1 (v_r1291.2.fnow.map (eI .u8)), .row 54 2 (v_r1291.2.fwait.map eS_disk_write)] (.d (.v (.int .i64 v_r1291.1))), .t false, .c, .c, .c, .c, .c]) (by kernel_rfl) (by kernel_rfl) (by kernel_rfl) (.cons (G_disk_Disk_Size_h_ok n (S_disk_Disk.mk v_z1237 v_z1238 v_z1239 v_z1236) _ h663) (.cons (bf h664) .nil))
          · rw [if_neg h30] at h
            obtain rfl := Option.some.inj h
            exact pend_sound TTok mix 22 (hs := [.h [] [] [.box [.srf 1, .srf 2, .srf 3, .d (.v (.int .i64 v_r6_0.ffuse))], .row 5 1 (v_r6_0.fsafe.map (eI .u8)), .row 5 1 (v_r6_0.fnow.map (eI .u8)), .row 54 2 (v_r6_0.fwait.map eS_disk_write)] (.tup [.ref 0 0, .d (.v (.int .i64 v_r6_1))]), .t false, .c, .t false, .t false, .c, .e 90 [] (.d (.v (.bool false))) [], .c, .r (eB v_r16), .t true]) (by kernel_rfl) (by kernel_rfl) (by kernel_rfl) (.cons (G_disk_New_h_ok n v_sectors1 _ h5) (.cons (df h11) (.cons (df h16) (.cons (nf h18) (.cons (xnilP (P := Try.prog) (T := TT) (op := .eql) (t := 23) (e := 51) (ty' := 23) (x := (.tmp 32)) (y := (.const (.pointer none))) (l := 10) (off := 0) rfl (by kernel_rfl)) (.cons (G_ringlaw3_light_ok n v_l2 _ h29) (.cons (bnt (vf h30)) .nil)))))))
        · rw [if_neg h18] at h
          obtain rfl := Option.some.inj h
          exact pend_sound TTok mix 17 (hs := [.h [] [] [.box [.srf 1, .srf 2, .srf 3, .d (.v (.int .i64 v_r6_0.ffuse))], .row 5 1 (v_r6_0.fsafe.map (eI .u8)), .row 5 1 (v_r6_0.fnow.map (eI .u8)), .row 54 2 (v_r6_0.fwait.map eS_disk_write)] (.tup [.ref 0 0, .d (.v (.int .i64 v_r6_1))]), .t false, .c, .t false, .t true, .c, .c]) (by kernel_rfl) (by kernel_rfl) (by kernel_rfl) (.cons (G_disk_New_h_ok n v_sectors1 _ h5) (.cons (df h11) (.cons (df h16) (.cons (nt h18) .nil))))
def okS_ringlaw3_Act (x : S_ringlaw3_Act) : Prop := (fun a => (Lit.int .i64 a).wf = true) x.fKind ∧ (fun a => (Lit.int .i64 a).wf = true) x.fN ∧ (okL 1 (fun a => (Lit.int .u8 a).wf = true)) x.fData ∧ (okL 1 (fun _ => True)) x.fKept ∧ True
theorem brS_ringlaw3_Act : Br (.pair (.int .i64) (.pair (.int .i64) (.pair (.slice 1 (.int .u8)) (.pair (.slice 1 .bool) .unit)))) (fun x : S_ringlaw3_Act => [.v (.int .i64 x.fKind), .v (.int .i64 x.fN), .sl (x.fData.map (eI .u8)), .sl (x.fKept.map eB)]) okS_ringlaw3_Act := br_map (br_pair (br_int .i64) (br_pair (br_int .i64) (br_pair (br_slice (f := (eI .u8)) (ok := (fun a => (Lit.int .u8 a).wf = true)) (br_int .u8) (fun _ => rfl) (by decide)) (br_pair (br_slice (f := eB) (ok := (fun _ => True)) br_bool (fun _ => rfl) (by decide)) br_unit)))) (fun p => S_ringlaw3_Act.mk p.1 p.2.1 p.2.2.1 p.2.2.2.1) (fun p h => ⟨rfl, h⟩)
theorem DiskPlays_walk (H : ∀ (a0 : Int) (a1 : (List S_ringlaw3_Act)), (fun a => (Lit.int .i64 a).wf = true) a0 → (okL 64 okS_ringlaw3_Act) a1 → ∃ n, G_ringlaw3_DiskPlays n a0 a1 = some true) (w : World) (v0 : Value) (v1 : Value) (h0 : rep.Arg w (.int .i64) v0) (h1 : rep.Arg w (.slice 64 (.pair (.int .i64) (.pair (.int .i64) (.pair (.slice 1 (.int .u8)) (.pair (.slice 1 .bool) .unit))))) v1) : Calls Try.prog 3 #[v0, v1] w (help.Ret (.bool true) w) := by
  obtain ⟨a0, o0, r0⟩ := arg_one (br_int .i64) (by rfl) h0
  obtain ⟨a1, o1, r1⟩ := arg_one (br_slice (f := eS_ringlaw3_Act) (ok := okS_ringlaw3_Act) brS_ringlaw3_Act (fun _ => rfl) (by decide)) (by rfl) h1
  obtain ⟨n, hn⟩ := H a0 a1 o0 o1
  exact walk_of (G_ringlaw3_DiskPlays_ok n a0 a1 true hn) (RT_cons r0 (RT_cons r1 RT_nil))
/- FRAME DiskPlays; ringhall/ringlaw3.DiskPlays; (.int .i64) | (.slice 64 (.pair (.int .i64) (.pair (.int .i64) (.pair (.slice 1 (.int .u8)) (.pair (.slice 1 .bool) .unit))))); .int .i64 0 | .slice none 0 0 -/
end Go.Proofs.Ytlabkelhaaahkaa.pv
