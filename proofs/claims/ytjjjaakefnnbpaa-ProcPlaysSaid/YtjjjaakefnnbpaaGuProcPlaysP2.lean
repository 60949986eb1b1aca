/- What the functions compute (part 2): written by gen.py. -/
import Derived.Test.YtjjjaakefnnbpaaGuProcPlaysP1
set_option maxRecDepth 100000
set_option linter.all false
namespace Go.Proofs.Ytjjjaakefnnbpaa.pv
open Go.RowKit
theorem G_slices_partitionCmpFunc_ringref5_Proc_h_L2_ok {Fi : Ex → PS → Prop} (hF : KC 178 Fi) (ks : List Fr) (n : Nat) (v_a535 : Int) (v_cmp538 : (S_ringref5_Proc → S_ringref5_Proc → Option (Int))) (v_z556 : Int) (v_cmp538_g : FuncId) (v_cmp538_c : (List PV)) (v_cmp538_h : ∀ (x0 : S_ringref5_Proc) (x1 : S_ringref5_Proc) (r : Int), v_cmp538 x0 x1 = some r → Ret Try.prog v_cmp538_g ([eS_ringref5_Proc x0, eS_ringref5_Proc x1] ++ v_cmp538_c) ((eI .i64) r)) : ∀ (k : Nat) (v_j558 : Int) (v_w559 : (List S_ringref5_Proc)) (o : G_slices_partitionCmpFunc_ringref5_Proc_h_L2_R), G_slices_partitionCmpFunc_ringref5_Proc_h_L2 n v_a535 v_cmp538 v_z556 k v_j558 v_w559 = some o → RunE Try.prog 178 Fi ks (G_slices_partitionCmpFunc_ringref5_Proc_h_L2_ex o) (G_slices_partitionCmpFunc_ringref5_Proc_h_L2_st v_a535 v_cmp538 v_z556 v_cmp538_g v_cmp538_c o) → RunE Try.prog 178 Fi (.l k (cP (cB (cL (cR (cR (cR (cR (bodyOf Try.f226)))))))) :: ks) .normal (G_slices_partitionCmpFunc_ringref5_Proc_h_L2_hd v_a535 v_cmp538 v_z556 v_cmp538_g v_cmp538_c v_j558 v_w559)
  | 0, v_j558, v_w559, o, h, q => by rw [G_slices_partitionCmpFunc_ringref5_Proc_h_L2] at h; cases h
  | k + 1, v_j558, v_w559, o, h, q => by
    rw [G_slices_partitionCmpFunc_ringref5_Proc_h_L2] at h
    by_cases h609 : v_z556 ≤ v_j558
    · rw [if_pos h609] at h
      by_cases h610 : 0 ≤ v_j558 ∧ (v_j558).toNat < v_w559.length
      · rw [if_pos h610] at h
        obtain ⟨v_y563, h611, h⟩ := bind_some h
        by_cases h612 : 0 ≤ v_a535 ∧ (v_a535).toNat < v_w559.length
        · rw [if_pos h612] at h
          obtain ⟨v_y564, h613, h⟩ := bind_some h
          obtain ⟨v_r565, h614, h⟩ := bind_some h
          by_cases h615 : v_r565 < 0
          · rw [if_pos h615] at h
            cases h
            exact pkk_sound TTok mix hF 8 (hs := [.t true, .c, .c, .c, .c, .y (eS_ringref5_Proc v_y563), .c, .c, .c, .c, .y (eS_ringref5_Proc v_y564), .c, .r ((eI .i64) v_r565), .c, .c, .t false]) (ts := []) (s := [0, 1]) (l := [0, 1, 4, 12, 13]) (by kernel_rfl) (by kernel_rfl) (.cons (dt h609) (.cons (idx_ob (f := eS_ringref5_Proc) h610) (.cons (get_ob (f := eS_ringref5_Proc) h611) (.cons (idx_ob (f := eS_ringref5_Proc) h612) (.cons (get_ob (f := eS_ringref5_Proc) h613) (.cons (v_cmp538_h v_y563 v_y564 _ h614) (.cons (bnf (dt h615)) .nil))))))) q
          · rw [if_neg h615] at h
            exact pkk_sound TTok mix hF 9 (hs := [.t true, .c, .c, .c, .c, .y (eS_ringref5_Proc v_y563), .c, .c, .c, .c, .y (eS_ringref5_Proc v_y564), .c, .r ((eI .i64) v_r565), .c, .c, .t true]) (ts := []) (s := [0, 1]) (l := [0, 1, 4, 12, 13]) (by kernel_rfl) (by kernel_rfl) (.cons (dt h609) (.cons (idx_ob (f := eS_ringref5_Proc) h610) (.cons (get_ob (f := eS_ringref5_Proc) h611) (.cons (idx_ob (f := eS_ringref5_Proc) h612) (.cons (get_ob (f := eS_ringref5_Proc) h613) (.cons (v_cmp538_h v_y563 v_y564 _ h614) (.cons (bnt (df h615)) .nil))))))) (G_slices_partitionCmpFunc_ringref5_Proc_h_L2_ok hF ks n v_a535 v_cmp538 v_z556 v_cmp538_g v_cmp538_c v_cmp538_h k (wi .i64 (v_j558 - 1)) v_w559 _ h q)
        · rw [if_neg h612] at h; cases h
      · rw [if_neg h610] at h; cases h
    · rw [if_neg h609] at h
      cases h
      exact pkk_sound TTok mix hF 8 (hs := [.t false, .c, .c, .c, .c, .c, .c, .c, .c, .c, .c, .c, .c]) (ts := []) (s := [0, 1]) (l := [0, 1, 4, 12, 13]) (by kernel_rfl) (by kernel_rfl) (.cons (df h609) .nil) q
inductive G_slices_partitionCmpFunc_ringref5_Proc_h_L3_R where
  | x0 (v_i596 : Int) (v_w597 : (List S_ringref5_Proc))
def G_slices_partitionCmpFunc_ringref5_Proc_h_L3_ex : G_slices_partitionCmpFunc_ringref5_Proc_h_L3_R → Ex
  | .x0 _ _ => .exit 6
def G_slices_partitionCmpFunc_ringref5_Proc_h_L3_st (v_a535 : Int) (v_cmp538 : (S_ringref5_Proc → S_ringref5_Proc → Option (Int))) (v_j586 : Int) (v_cmp538_g : FuncId) (v_cmp538_c : (List PV)) : G_slices_partitionCmpFunc_ringref5_Proc_h_L3_R → PS
  | .x0 v_i596 v_w597 => ⟨[.srf 1, .d (.v (.int .i64 v_a535)), dd, dd, .d (.clo v_cmp538_g v_cmp538_c), dd, dd, dd, dd, dd, dd, dd, .d (.v (.int .i64 v_i596)), .d (.v (.int .i64 v_j586)), dd, dd, dd, dd, dd, dd, dd, dd, dd, dd, dd, dd, dd, dd, dd, dd, dd, dd, dd, dd, dd, dd, dd, dd, dd, dd, dd, dd, dd, dd, dd, dd, dd, dd, dd, dd, dd, dd, dd, dd, dd, dd, dd, dd, dd, dd, dd, dd, dd, dd, dd, dd, dd, dd, dd, dd, dd, dd, dd, dd, dd, dd, dd, dd, dd, dd, dd, dd, dd, dd, dd, dd, dd, dd, dd, dd, dd, dd, dd, dd, dd, dd, dd, dd, dd, dd, dd, dd, dd, dd, dd, dd, dd, dd, dd, dd, dd, dd, dd, dd, dd, dd, dd, dd, dd, dd, dd, dd, dd, dd, dd, dd, dd, dd, dd, dd, dd, dd, dd, dd, dd, dd, dd, dd, dd, dd, dd, dd, dd, dd, dd, dd, dd, dd, dd, dd, dd, dd, dd, dd, dd, dd, dd, dd, dd, dd, dd, dd, dd, dd, dd, dd, dd, dd, dd, dd, dd, dd, dd, dd, dd, dd, dd, dd], [.gh 0 (.srf 1), .row 180 5 (v_w597.map eS_ringref5_Proc)]⟩
def G_slices_partitionCmpFunc_ringref5_Proc_h_L3_hd (v_a535 : Int) (v_cmp538 : (S_ringref5_Proc → S_ringref5_Proc → Option (Int))) (v_j586 : Int) (v_cmp538_g : FuncId) (v_cmp538_c : (List PV)) (v_i588 : Int) (v_w589 : (List S_ringref5_Proc)) : PS := ⟨[.srf 1, .d (.v (.int .i64 v_a535)), dd, dd, .d (.clo v_cmp538_g v_cmp538_c), dd, dd, dd, dd, dd, dd, dd, .d (.v (.int .i64 v_i588)), .d (.v (.int .i64 v_j586)), dd, dd, dd, dd, dd, dd, dd, dd, dd, dd, dd, dd, dd, dd, dd, dd, dd, dd, dd, dd, dd, dd, dd, dd, dd, dd, dd, dd, dd, dd, dd, dd, dd, dd, dd, dd, dd, dd, dd, dd, dd, dd, dd, dd, dd, dd, dd, dd, dd, dd, dd, dd, dd, dd, dd, dd, dd, dd, dd, dd, dd, dd, dd, dd, dd, dd, dd, dd, dd, dd, dd, dd, dd, dd, dd, dd, dd, dd, dd, dd, dd, dd, dd, dd, dd, dd, dd, dd, dd, dd, dd, dd, dd, dd, dd, dd, dd, dd, dd, dd, dd, dd, dd, dd, dd, dd, dd, dd, dd, dd, dd, dd, dd, dd, dd, dd, dd, dd, dd, dd, dd, dd, dd, dd, dd, dd, dd, dd, dd, dd, dd, dd, dd, dd, dd, dd, dd, dd, dd, dd, dd, dd, dd, dd, dd, dd, dd, dd, dd, dd, dd, dd, dd, dd, dd, dd, dd, dd, dd, dd, dd, dd, dd, dd], [.gh 0 (.srf 1), .row 180 5 (v_w589.map eS_ringref5_Proc)]⟩
def G_slices_partitionCmpFunc_ringref5_Proc_h_L3 (n : Nat) (v_a535 : Int) (v_cmp538 : (S_ringref5_Proc → S_ringref5_Proc → Option (Int))) (v_j586 : Int) : Nat → Int → (List S_ringref5_Proc) → Option G_slices_partitionCmpFunc_ringref5_Proc_h_L3_R
  | 0, _, _ => none
  | k + 1, v_i588, v_w589 =>
    if v_i588 ≤ v_j586 then
     if 0 ≤ v_i588 ∧ (v_i588).toNat < v_w589.length then
      (v_w589[(v_i588).toNat]?).bind fun (v_y593 : S_ringref5_Proc) =>
      if 0 ≤ v_a535 ∧ (v_a535).toNat < v_w589.length then
       (v_w589[(v_a535).toNat]?).bind fun (v_y594 : S_ringref5_Proc) =>
       (v_cmp538 v_y593 v_y594).bind fun (v_r595 : (Int)) =>
       if v_r595 < 0 then
        G_slices_partitionCmpFunc_ringref5_Proc_h_L3 n v_a535 v_cmp538 v_j586 k (wi .i64 (v_i588 + 1)) v_w589
       else
        some (.x0 v_i588 v_w589)
      else none
     else none
    else
     some (.x0 v_i588 v_w589)
theorem G_slices_partitionCmpFunc_ringref5_Proc_h_L3_ok {Fi : Ex → PS → Prop} (hF : KC 178 Fi) (ks : List Fr) (n : Nat) (v_a535 : Int) (v_cmp538 : (S_ringref5_Proc → S_ringref5_Proc → Option (Int))) (v_j586 : Int) (v_cmp538_g : FuncId) (v_cmp538_c : (List PV)) (v_cmp538_h : ∀ (x0 : S_ringref5_Proc) (x1 : S_ringref5_Proc) (r : Int), v_cmp538 x0 x1 = some r → Ret Try.prog v_cmp538_g ([eS_ringref5_Proc x0, eS_ringref5_Proc x1] ++ v_cmp538_c) ((eI .i64) r)) : ∀ (k : Nat) (v_i588 : Int) (v_w589 : (List S_ringref5_Proc)) (o : G_slices_partitionCmpFunc_ringref5_Proc_h_L3_R), G_slices_partitionCmpFunc_ringref5_Proc_h_L3 n v_a535 v_cmp538 v_j586 k v_i588 v_w589 = some o → RunE Try.prog 178 Fi ks (G_slices_partitionCmpFunc_ringref5_Proc_h_L3_ex o) (G_slices_partitionCmpFunc_ringref5_Proc_h_L3_st v_a535 v_cmp538 v_j586 v_cmp538_g v_cmp538_c o) → RunE Try.prog 178 Fi (.l k (cP (cB (cL (cB (cP (cB (cL (cR (cR (cR (cR (cR (cR (cR (cR (cR (bodyOf Try.f226))))))))))))))))) :: ks) .normal (G_slices_partitionCmpFunc_ringref5_Proc_h_L3_hd v_a535 v_cmp538 v_j586 v_cmp538_g v_cmp538_c v_i588 v_w589)
  | 0, v_i588, v_w589, o, h, q => by rw [G_slices_partitionCmpFunc_ringref5_Proc_h_L3] at h; cases h
  | k + 1, v_i588, v_w589, o, h, q => by
    rw [G_slices_partitionCmpFunc_ringref5_Proc_h_L3] at h
    by_cases h649 : v_i588 ≤ v_j586
    · rw [if_pos h649] at h
      by_cases h650 : 0 ≤ v_i588 ∧ (v_i588).toNat < v_w589.length
      · rw [if_pos h650] at h
        obtain ⟨v_y593, h651, h⟩ := bind_some h
        by_cases h652 : 0 ≤ v_a535 ∧ (v_a535).toNat < v_w589.length
        · rw [if_pos h652] at h
          obtain ⟨v_y594, h653, h⟩ := bind_some h
          obtain ⟨v_r595, h654, h⟩ := bind_some h
          by_cases h655 : v_r595 < 0
          · rw [if_pos h655] at h
            exact pkk_sound TTok mix hF 9 (hs := [.t true, .c, .c, .c, .c, .y (eS_ringref5_Proc v_y593), .c, .c, .c, .c, .y (eS_ringref5_Proc v_y594), .c, .r ((eI .i64) v_r595), .c, .t true]) (ts := []) (s := [0, 1]) (l := [0, 1, 4, 12, 13]) (by kernel_rfl) (by kernel_rfl) (.cons (dt h649) (.cons (idx_ob (f := eS_ringref5_Proc) h650) (.cons (get_ob (f := eS_ringref5_Proc) h651) (.cons (idx_ob (f := eS_ringref5_Proc) h652) (.cons (get_ob (f := eS_ringref5_Proc) h653) (.cons (v_cmp538_h v_y593 v_y594 _ h654) (.cons (dt h655) .nil))))))) (G_slices_partitionCmpFunc_ringref5_Proc_h_L3_ok hF ks n v_a535 v_cmp538 v_j586 v_cmp538_g v_cmp538_c v_cmp538_h k (wi .i64 (v_i588 + 1)) v_w589 _ h q)
          · rw [if_neg h655] at h
            cases h
            exact pkk_sound TTok mix hF 8 (hs := [.t true, .c, .c, .c, .c, .y (eS_ringref5_Proc v_y593), .c, .c, .c, .c, .y (eS_ringref5_Proc v_y594), .c, .r ((eI .i64) v_r595), .c, .t false]) (ts := []) (s := [0, 1]) (l := [0, 1, 4, 12, 13]) (by kernel_rfl) (by kernel_rfl) (.cons (dt h649) (.cons (idx_ob (f := eS_ringref5_Proc) h650) (.cons (get_ob (f := eS_ringref5_Proc) h651) (.cons (idx_ob (f := eS_ringref5_Proc) h652) (.cons (get_ob (f := eS_ringref5_Proc) h653) (.cons (v_cmp538_h v_y593 v_y594 _ h654) (.cons (df h655) .nil))))))) q
        · rw [if_neg h652] at h; cases h
      · rw [if_neg h650] at h; cases h
    · rw [if_neg h649] at h
      cases h
      exact pkk_sound TTok mix hF 8 (hs := [.t false, .c, .c, .c, .c, .c, .c, .c, .c, .c, .c, .c]) (ts := []) (s := [0, 1]) (l := [0, 1, 4, 12, 13]) (by kernel_rfl) (by kernel_rfl) (.cons (df h649) .nil) q
inductive G_slices_partitionCmpFunc_ringref5_Proc_h_L4_R where
  | x0 (v_j611 : Int) (v_w612 : (List S_ringref5_Proc))
def G_slices_partitionCmpFunc_ringref5_Proc_h_L4_ex : G_slices_partitionCmpFunc_ringref5_Proc_h_L4_R → Ex
  | .x0 _ _ => .exit 8
def G_slices_partitionCmpFunc_ringref5_Proc_h_L4_st (v_a535 : Int) (v_cmp538 : (S_ringref5_Proc → S_ringref5_Proc → Option (Int))) (v_z601 : Int) (v_cmp538_g : FuncId) (v_cmp538_c : (List PV)) : G_slices_partitionCmpFunc_ringref5_Proc_h_L4_R → PS
  | .x0 v_j611 v_w612 => ⟨[.srf 1, .d (.v (.int .i64 v_a535)), dd, dd, .d (.clo v_cmp538_g v_cmp538_c), dd, dd, dd, dd, dd, dd, dd, .d (.v (.int .i64 v_z601)), .d (.v (.int .i64 v_j611)), dd, dd, dd, dd, dd, dd, dd, dd, dd, dd, dd, dd, dd, dd, dd, dd, dd, dd, dd, dd, dd, dd, dd, dd, dd, dd, dd, dd, dd, dd, dd, dd, dd, dd, dd, dd, dd, dd, dd, dd, dd, dd, dd, dd, dd, dd, dd, dd, dd, dd, dd, dd, dd, dd, dd, dd, dd, dd, dd, dd, dd, dd, dd, dd, dd, dd, dd, dd, dd, dd, dd, dd, dd, dd, dd, dd, dd, dd, dd, dd, dd, dd, dd, dd, dd, dd, dd, dd, dd, dd, dd, dd, dd, dd, dd, dd, dd, dd, dd, dd, dd, dd, dd, dd, dd, dd, dd, dd, dd, dd, dd, dd, dd, dd, dd, dd, dd, dd, dd, dd, dd, dd, dd, dd, dd, dd, dd, dd, dd, dd, dd, dd, dd, dd, dd, dd, dd, dd, dd, dd, dd, dd, dd, dd, dd, dd, dd, dd, dd, dd, dd, dd, dd, dd, dd, dd, dd, dd, dd, dd, dd, dd, dd, dd], [.gh 0 (.srf 1), .row 180 5 (v_w612.map eS_ringref5_Proc)]⟩
def G_slices_partitionCmpFunc_ringref5_Proc_h_L4_hd (v_a535 : Int) (v_cmp538 : (S_ringref5_Proc → S_ringref5_Proc → Option (Int))) (v_z601 : Int) (v_cmp538_g : FuncId) (v_cmp538_c : (List PV)) (v_j603 : Int) (v_w604 : (List S_ringref5_Proc)) : PS := ⟨[.srf 1, .d (.v (.int .i64 v_a535)), dd, dd, .d (.clo v_cmp538_g v_cmp538_c), dd, dd, dd, dd, dd, dd, dd, .d (.v (.int .i64 v_z601)), .d (.v (.int .i64 v_j603)), dd, dd, dd, dd, dd, dd, dd, dd, dd, dd, dd, dd, dd, dd, dd, dd, dd, dd, dd, dd, dd, dd, dd, dd, dd, dd, dd, dd, dd, dd, dd, dd, dd, dd, dd, dd, dd, dd, dd, dd, dd, dd, dd, dd, dd, dd, dd, dd, dd, dd, dd, dd, dd, dd, dd, dd, dd, dd, dd, dd, dd, dd, dd, dd, dd, dd, dd, dd, dd, dd, dd, dd, dd, dd, dd, dd, dd, dd, dd, dd, dd, dd, dd, dd, dd, dd, dd, dd, dd, dd, dd, dd, dd, dd, dd, dd, dd, dd, dd, dd, dd, dd, dd, dd, dd, dd, dd, dd, dd, dd, dd, dd, dd, dd, dd, dd, dd, dd, dd, dd, dd, dd, dd, dd, dd, dd, dd, dd, dd, dd, dd, dd, dd, dd, dd, dd, dd, dd, dd, dd, dd, dd, dd, dd, dd, dd, dd, dd, dd, dd, dd, dd, dd, dd, dd, dd, dd, dd, dd, dd, dd, dd, dd, dd], [.gh 0 (.srf 1), .row 180 5 (v_w604.map eS_ringref5_Proc)]⟩
def G_slices_partitionCmpFunc_ringref5_Proc_h_L4 (n : Nat) (v_a535 : Int) (v_cmp538 : (S_ringref5_Proc → S_ringref5_Proc → Option (Int))) (v_z601 : Int) : Nat → Int → (List S_ringref5_Proc) → Option G_slices_partitionCmpFunc_ringref5_Proc_h_L4_R
  | 0, _, _ => none
  | k + 1, v_j603, v_w604 =>
    if v_z601 ≤ v_j603 then
     if 0 ≤ v_j603 ∧ (v_j603).toNat < v_w604.length then
      (v_w604[(v_j603).toNat]?).bind fun (v_y608 : S_ringref5_Proc) =>
      if 0 ≤ v_a535 ∧ (v_a535).toNat < v_w604.length then
       (v_w604[(v_a535).toNat]?).bind fun (v_y609 : S_ringref5_Proc) =>
       (v_cmp538 v_y608 v_y609).bind fun (v_r610 : (Int)) =>
       if v_r610 < 0 then
        some (.x0 v_j603 v_w604)
       else
        G_slices_partitionCmpFunc_ringref5_Proc_h_L4 n v_a535 v_cmp538 v_z601 k (wi .i64 (v_j603 - 1)) v_w604
      else none
     else none
    else
     some (.x0 v_j603 v_w604)
theorem G_slices_partitionCmpFunc_ringref5_Proc_h_L4_ok {Fi : Ex → PS → Prop} (hF : KC 178 Fi) (ks : List Fr) (n : Nat) (v_a535 : Int) (v_cmp538 : (S_ringref5_Proc → S_ringref5_Proc → Option (Int))) (v_z601 : Int) (v_cmp538_g : FuncId) (v_cmp538_c : (List PV)) (v_cmp538_h : ∀ (x0 : S_ringref5_Proc) (x1 : S_ringref5_Proc) (r : Int), v_cmp538 x0 x1 = some r → Ret Try.prog v_cmp538_g ([eS_ringref5_Proc x0, eS_ringref5_Proc x1] ++ v_cmp538_c) ((eI .i64) r)) : ∀ (k : Nat) (v_j603 : Int) (v_w604 : (List S_ringref5_Proc)) (o : G_slices_partitionCmpFunc_ringref5_Proc_h_L4_R), G_slices_partitionCmpFunc_ringref5_Proc_h_L4 n v_a535 v_cmp538 v_z601 k v_j603 v_w604 = some o → RunE Try.prog 178 Fi ks (G_slices_partitionCmpFunc_ringref5_Proc_h_L4_ex o) (G_slices_partitionCmpFunc_ringref5_Proc_h_L4_st v_a535 v_cmp538 v_z601 v_cmp538_g v_cmp538_c o) → RunE Try.prog 178 Fi (.l k (cP (cB (cL (cR (cB (cP (cB (cL (cR (cR (cR (cR (cR (cR (cR (cR (cR (bodyOf Try.f226)))))))))))))))))) :: ks) .normal (G_slices_partitionCmpFunc_ringref5_Proc_h_L4_hd v_a535 v_cmp538 v_z601 v_cmp538_g v_cmp538_c v_j603 v_w604)
  | 0, v_j603, v_w604, o, h, q => by rw [G_slices_partitionCmpFunc_ringref5_Proc_h_L4] at h; cases h
  | k + 1, v_j603, v_w604, o, h, q => by
    rw [G_slices_partitionCmpFunc_ringref5_Proc_h_L4] at h
    by_cases h663 : v_z601 ≤ v_j603
    · rw [if_pos h663] at h
      by_cases h664 : 0 ≤ v_j603 ∧ (v_j603).toNat < v_w604.length
      · rw [if_pos h664] at h
        obtain ⟨v_y608, h665, h⟩ := bind_some h
        by_cases h666 : 0 ≤ v_a535 ∧ (v_a535).toNat < v_w604.length
        · rw [if_pos h666] at h
          obtain ⟨v_y609, h667, h⟩ := bind_some h
          obtain ⟨v_r610, h668, h⟩ := bind_some h
          by_cases h669 : v_r610 < 0
          · rw [if_pos h669] at h
            cases h
            exact pkk_sound TTok mix hF 8 (hs := [.t true, .c, .c, .c, .c, .y (eS_ringref5_Proc v_y608), .c, .c, .c, .c, .y (eS_ringref5_Proc v_y609), .c, .r ((eI .i64) v_r610), .c, .c, .t false]) (ts := []) (s := [0, 1]) (l := [0, 1, 4, 12, 13]) (by kernel_rfl) (by kernel_rfl) (.cons (dt h663) (.cons (idx_ob (f := eS_ringref5_Proc) h664) (.cons (get_ob (f := eS_ringref5_Proc) h665) (.cons (idx_ob (f := eS_ringref5_Proc) h666) (.cons (get_ob (f := eS_ringref5_Proc) h667) (.cons (v_cmp538_h v_y608 v_y609 _ h668) (.cons (bnf (dt h669)) .nil))))))) q
          · rw [if_neg h669] at h
            exact pkk_sound TTok mix hF 9 (hs := [.t true, .c, .c, .c, .c, .y (eS_ringref5_Proc v_y608), .c, .c, .c, .c, .y (eS_ringref5_Proc v_y609), .c, .r ((eI .i64) v_r610), .c, .c, .t true]) (ts := []) (s := [0, 1]) (l := [0, 1, 4, 12, 13]) (by kernel_rfl) (by kernel_rfl) (.cons (dt h663) (.cons (idx_ob (f := eS_ringref5_Proc) h664) (.cons (get_ob (f := eS_ringref5_Proc) h665) (.cons (idx_ob (f := eS_ringref5_Proc) h666) (.cons (get_ob (f := eS_ringref5_Proc) h667) (.cons (v_cmp538_h v_y608 v_y609 _ h668) (.cons (bnt (df h669)) .nil))))))) (G_slices_partitionCmpFunc_ringref5_Proc_h_L4_ok hF ks n v_a535 v_cmp538 v_z601 v_cmp538_g v_cmp538_c v_cmp538_h k (wi .i64 (v_j603 - 1)) v_w604 _ h q)
        · rw [if_neg h666] at h; cases h
      · rw [if_neg h664] at h; cases h
    · rw [if_neg h663] at h
      cases h
      exact pkk_sound TTok mix hF 8 (hs := [.t false, .c, .c, .c, .c, .c, .c, .c, .c, .c, .c, .c, .c]) (ts := []) (s := [0, 1]) (l := [0, 1, 4, 12, 13]) (by kernel_rfl) (by kernel_rfl) (.cons (df h663) .nil) q
inductive G_slices_partitionCmpFunc_ringref5_Proc_h_L5_R where
  | x0 (v_j618 : Int) (v_w619 : (List S_ringref5_Proc))
def G_slices_partitionCmpFunc_ringref5_Proc_h_L5_ex : G_slices_partitionCmpFunc_ringref5_Proc_h_L5_R → Ex
  | .x0 _ _ => .exit 4
def G_slices_partitionCmpFunc_ringref5_Proc_h_L5_st (v_a535 : Int) (v_cmp538 : (S_ringref5_Proc → S_ringref5_Proc → Option (Int))) (v_cmp538_g : FuncId) (v_cmp538_c : (List PV)) : G_slices_partitionCmpFunc_ringref5_Proc_h_L5_R → PS
  | .x0 v_j618 v_w619 => ⟨[.srf 1, .d (.v (.int .i64 v_a535)), dd, dd, dd, dd, dd, dd, dd, dd, dd, dd, dd, .d (.v (.int .i64 v_j618)), dd, dd, dd, dd, dd, dd, dd, dd, dd, dd, dd, dd, dd, dd, dd, dd, dd, dd, dd, dd, dd, dd, dd, dd, dd, dd, dd, dd, dd, dd, dd, dd, dd, dd, dd, dd, dd, dd, dd, dd, dd, dd, dd, dd, dd, dd, dd, dd, dd, dd, dd, dd, dd, dd, dd, dd, dd, dd, dd, dd, dd, dd, dd, dd, dd, dd, dd, dd, dd, dd, dd, dd, dd, dd, dd, dd, dd, dd, dd, dd, dd, dd, dd, dd, dd, dd, dd, dd, dd, dd, dd, dd, dd, dd, dd, dd, dd, dd, dd, dd, dd, dd, dd, dd, dd, dd, dd, dd, dd, dd, dd, dd, dd, dd, dd, dd, dd, dd, dd, dd, dd, dd, dd, dd, dd, dd, dd, dd, dd, dd, dd, dd, dd, dd, dd, dd, dd, dd, dd, dd, dd, dd, dd, dd, dd, dd, dd, dd, dd, dd, dd, dd, dd, dd, dd, dd, dd, dd, dd, dd, dd, dd, dd, dd], [.gh 0 (.srf 1), .row 180 5 (v_w619.map eS_ringref5_Proc)]⟩
def G_slices_partitionCmpFunc_ringref5_Proc_h_L5_hd (v_a535 : Int) (v_cmp538 : (S_ringref5_Proc → S_ringref5_Proc → Option (Int))) (v_cmp538_g : FuncId) (v_cmp538_c : (List PV)) (v_i585 : Int) (v_j586 : Int) (v_w587 : (List S_ringref5_Proc)) : PS := ⟨[.srf 1, .d (.v (.int .i64 v_a535)), dd, dd, .d (.clo v_cmp538_g v_cmp538_c), dd, dd, dd, dd, dd, dd, dd, .d (.v (.int .i64 v_i585)), .d (.v (.int .i64 v_j586)), dd, dd, dd, dd, dd, dd, dd, dd, dd, dd, dd, dd, dd, dd, dd, dd, dd, dd, dd, dd, dd, dd, dd, dd, dd, dd, dd, dd, dd, dd, dd, dd, dd, dd, dd, dd, dd, dd, dd, dd, dd, dd, dd, dd, dd, dd, dd, dd, dd, dd, dd, dd, dd, dd, dd, dd, dd, dd, dd, dd, dd, dd, dd, dd, dd, dd, dd, dd, dd, dd, dd, dd, dd, dd, dd, dd, dd, dd, dd, dd, dd, dd, dd, dd, dd, dd, dd, dd, dd, dd, dd, dd, dd, dd, dd, dd, dd, dd, dd, dd, dd, dd, dd, dd, dd, dd, dd, dd, dd, dd, dd, dd, dd, dd, dd, dd, dd, dd, dd, dd, dd, dd, dd, dd, dd, dd, dd, dd, dd, dd, dd, dd, dd, dd, dd, dd, dd, dd, dd, dd, dd, dd, dd, dd, dd, dd, dd, dd, dd, dd, dd, dd, dd, dd, dd, dd, dd, dd, dd, dd, dd, dd, dd, dd], [.gh 0 (.srf 1), .row 180 5 (v_w587.map eS_ringref5_Proc)]⟩
def G_slices_partitionCmpFunc_ringref5_Proc_h_L5 (n : Nat) (v_a535 : Int) (v_cmp538 : (S_ringref5_Proc → S_ringref5_Proc → Option (Int))) : Nat → Int → Int → (List S_ringref5_Proc) → Option G_slices_partitionCmpFunc_ringref5_Proc_h_L5_R
  | 0, _, _, _ => none
  | k + 1, v_i585, v_j586, v_w587 =>
    (G_slices_partitionCmpFunc_ringref5_Proc_h_L3 n v_a535 v_cmp538 v_j586 n v_i585 v_w587).bind fun v_o600 => match v_o600 with
    | .x0 v_z601 v_z602 =>
      (G_slices_partitionCmpFunc_ringref5_Proc_h_L4 n v_a535 v_cmp538 v_z601 n v_j586 v_z602).bind fun v_o615 => match v_o615 with
      | .x0 v_z616 v_z617 =>
        if v_z601 > v_z616 then
         some (.x0 v_z616 v_z617)
        else
         if 0 ≤ v_z616 ∧ (v_z616).toNat < v_z617.length then
          (v_z617[(v_z616).toNat]?).bind fun (v_y620 : S_ringref5_Proc) =>
          if 0 ≤ v_z601 ∧ (v_z601).toNat < v_z617.length then
           (v_z617[(v_z601).toNat]?).bind fun (v_y621 : S_ringref5_Proc) =>
           if 0 ≤ v_z601 ∧ (v_z601).toNat < v_z617.length then
            (v_z617[(v_z601).toNat]?).bind fun (v_y622 : S_ringref5_Proc) =>
            if 0 ≤ v_z616 ∧ (v_z616).toNat < (v_z617.set (v_z601).toNat v_y620).length then
             ((v_z617.set (v_z601).toNat v_y620)[(v_z616).toNat]?).bind fun (v_y623 : S_ringref5_Proc) =>
             G_slices_partitionCmpFunc_ringref5_Proc_h_L5 n v_a535 v_cmp538 k (wi .i64 (v_z601 + 1)) (wi .i64 (v_z616 - 1)) ((v_z617.set (v_z601).toNat v_y620).set (v_z616).toNat v_y621)
            else none
           else none
          else none
         else none
theorem G_slices_partitionCmpFunc_ringref5_Proc_h_L5_ok {Fi : Ex → PS → Prop} (hF : KC 178 Fi) (ks : List Fr) (n : Nat) (v_a535 : Int) (v_cmp538 : (S_ringref5_Proc → S_ringref5_Proc → Option (Int))) (v_cmp538_g : FuncId) (v_cmp538_c : (List PV)) (v_cmp538_h : ∀ (x0 : S_ringref5_Proc) (x1 : S_ringref5_Proc) (r : Int), v_cmp538 x0 x1 = some r → Ret Try.prog v_cmp538_g ([eS_ringref5_Proc x0, eS_ringref5_Proc x1] ++ v_cmp538_c) ((eI .i64) r)) : ∀ (k : Nat) (v_i585 : Int) (v_j586 : Int) (v_w587 : (List S_ringref5_Proc)) (o : G_slices_partitionCmpFunc_ringref5_Proc_h_L5_R), G_slices_partitionCmpFunc_ringref5_Proc_h_L5 n v_a535 v_cmp538 k v_i585 v_j586 v_w587 = some o → RunE Try.prog 178 Fi ks (G_slices_partitionCmpFunc_ringref5_Proc_h_L5_ex o) (G_slices_partitionCmpFunc_ringref5_Proc_h_L5_st v_a535 v_cmp538 v_cmp538_g v_cmp538_c o) → RunE Try.prog 178 Fi (.l k (cP (cB (cL (cR (cR (cR (cR (cR (cR (cR (cR (cR (bodyOf Try.f226))))))))))))) :: ks) .normal (G_slices_partitionCmpFunc_ringref5_Proc_h_L5_hd v_a535 v_cmp538 v_cmp538_g v_cmp538_c v_i585 v_j586 v_w587)
  | 0, v_i585, v_j586, v_w587, o, h, q => by rw [G_slices_partitionCmpFunc_ringref5_Proc_h_L5] at h; cases h
  | k + 1, v_i585, v_j586, v_w587, o, h, q => by
    rw [G_slices_partitionCmpFunc_ringref5_Proc_h_L5] at h
    obtain ⟨v_o600, h656, h⟩ := bind_some h
    refine pkk_sound TTok mix hF 5 (hs := [.n n]) (ts := []) (s := [0, 1]) (l := [0, 1, 4, 12, 13]) (by kernel_rfl) (by kernel_rfl) .nil (G_slices_partitionCmpFunc_ringref5_Proc_h_L3_ok hF (.b 6 :: .s (cR (cB (cP (cB (cL (cR (cR (cR (cR (cR (cR (cR (cR (cR (bodyOf Try.f226))))))))))))))) :: .b 5 :: .l k (cP (cB (cL (cR (cR (cR (cR (cR (cR (cR (cR (cR (bodyOf Try.f226))))))))))))) :: ks) n v_a535 v_cmp538 v_j586 v_cmp538_g v_cmp538_c v_cmp538_h n v_i585 v_w587 _ h656 ?_)
    cases v_o600 with
    | x0 v_z601 v_z602 =>
      try dsimp only at h
      obtain ⟨v_o615, h670, h⟩ := bind_some h
      refine pkk_sound TTok mix hF 4 (hs := [.n n]) (ts := []) (s := [0, 1]) (l := [0, 1, 4, 12, 13]) (by kernel_rfl) (by kernel_rfl) .nil (G_slices_partitionCmpFunc_ringref5_Proc_h_L4_ok hF (.b 8 :: .s (cR (cR (cB (cP (cB (cL (cR (cR (cR (cR (cR (cR (cR (cR (cR (bodyOf Try.f226)))))))))))))))) :: .b 5 :: .l k (cP (cB (cL (cR (cR (cR (cR (cR (cR (cR (cR (cR (bodyOf Try.f226))))))))))))) :: ks) n v_a535 v_cmp538 v_z601 v_cmp538_g v_cmp538_c v_cmp538_h n v_j586 v_z602 _ h670 ?_)
      cases v_o615 with
      | x0 v_z616 v_z617 =>
        try dsimp only at h
        by_cases h671 : v_z601 > v_z616
        · rw [if_pos h671] at h
          cases h
          exact pkk_sound TTok mix hF 9 (hs := [.t true]) (ts := []) (s := [0, 1]) (l := [0, 1, 13]) (by kernel_rfl) (by kernel_rfl) (.cons (dt h671) .nil) q
        · rw [if_neg h671] at h
          by_cases h672 : 0 ≤ v_z616 ∧ (v_z616).toNat < v_z617.length
          · rw [if_pos h672] at h
            obtain ⟨v_y620, h673, h⟩ := bind_some h
            by_cases h674 : 0 ≤ v_z601 ∧ (v_z601).toNat < v_z617.length
            · rw [if_pos h674] at h
              obtain ⟨v_y621, h675, h⟩ := bind_some h
              by_cases h676 : 0 ≤ v_z601 ∧ (v_z601).toNat < v_z617.length
              · rw [if_pos h676] at h
                obtain ⟨v_y622, h677, h⟩ := bind_some h
                by_cases h678 : 0 ≤ v_z616 ∧ (v_z616).toNat < (v_z617.set (v_z601).toNat v_y620).length
                · rw [if_pos h678] at h
                  obtain ⟨v_y623, h679, h⟩ := bind_some h
                  exact pkk_sound TTok mix hF 12 (hs := [.t false, .y (eS_ringref5_Proc v_y620), .y (eS_ringref5_Proc v_y621), .w ((v_z617.set (v_z601).toNat v_y620).map eS_ringref5_Proc), .y (eS_ringref5_Proc v_y622), .w (((v_z617.set (v_z601).toNat v_y620).set (v_z616).toNat v_y621).map eS_ringref5_Proc), .y (eS_ringref5_Proc v_y623)]) (ts := []) (s := [0, 1]) (l := [0, 1, 4, 12, 13]) (by kernel_rfl) (by kernel_rfl) (.cons (df h671) (.cons (idx_ob (f := eS_ringref5_Proc) h672) (.cons (get_ob (f := eS_ringref5_Proc) h673) (.cons (idx_ob (f := eS_ringref5_Proc) h674) (.cons (get_ob (f := eS_ringref5_Proc) h675) (.cons (idx_ob (f := eS_ringref5_Proc) h676) (.cons (get_ob (f := eS_ringref5_Proc) h677) (.cons (Eq.refl (pcells (.agg [.v (.int .i64 v_y620.fId), .v (.int .i64 v_y620.fUp), .v (.int .i64 v_y620.fGroup), .v (.int .i64 v_y620.fStatus), .v (.bool v_y620.fEnded)]))) (.cons (set_ob (f := eS_ringref5_Proc) (l := v_z617) (k := (v_z601).toNat) (z := v_y620) (p := .agg [.v (.int .i64 v_y620.fId), .v (.int .i64 v_y620.fUp), .v (.int .i64 v_y620.fGroup), .v (.int .i64 v_y620.fStatus), .v (.bool v_y620.fEnded)]) rfl) (.cons (idx_ob (f := eS_ringref5_Proc) h678) (.cons (get_ob (f := eS_ringref5_Proc) h679) (.cons (Eq.refl (pcells (.agg [.v (.int .i64 v_y621.fId), .v (.int .i64 v_y621.fUp), .v (.int .i64 v_y621.fGroup), .v (.int .i64 v_y621.fStatus), .v (.bool v_y621.fEnded)]))) (.cons (set_ob (f := eS_ringref5_Proc) (l := (v_z617.set (v_z601).toNat v_y620)) (k := (v_z616).toNat) (z := v_y621) (p := .agg [.v (.int .i64 v_y621.fId), .v (.int .i64 v_y621.fUp), .v (.int .i64 v_y621.fGroup), .v (.int .i64 v_y621.fStatus), .v (.bool v_y621.fEnded)]) rfl) .nil))))))))))))) (G_slices_partitionCmpFunc_ringref5_Proc_h_L5_ok hF ks n v_a535 v_cmp538 v_cmp538_g v_cmp538_c v_cmp538_h k (wi .i64 (v_z601 + 1)) (wi .i64 (v_z616 - 1)) ((v_z617.set (v_z601).toNat v_y620).set (v_z616).toNat v_y621) _ h q)
                · rw [if_neg h678] at h; cases h
              · rw [if_neg h676] at h; cases h
            · rw [if_neg h674] at h; cases h
          · rw [if_neg h672] at h; cases h
/- slices.partitionCmpFunc[ringhall/ringref5.Proc] -/
def G_slices_partitionCmpFunc_ringref5_Proc_h (n : Nat) (v_data534 : (List S_ringref5_Proc)) (v_a535 : Int) (v_b536 : Int) (v_pivot537 : Int) (v_cmp538 : (S_ringref5_Proc → S_ringref5_Proc → Option (Int))) : Option (Int × Bool × (List S_ringref5_Proc)) :=
  if 0 ≤ v_pivot537 ∧ (v_pivot537).toNat < v_data534.length then
   (v_data534[(v_pivot537).toNat]?).bind fun (v_y539 : S_ringref5_Proc) =>
   if 0 ≤ v_a535 ∧ (v_a535).toNat < v_data534.length then
    (v_data534[(v_a535).toNat]?).bind fun (v_y540 : S_ringref5_Proc) =>
    if 0 ≤ v_a535 ∧ (v_a535).toNat < v_data534.length then
     (v_data534[(v_a535).toNat]?).bind fun (v_y541 : S_ringref5_Proc) =>
     if 0 ≤ v_pivot537 ∧ (v_pivot537).toNat < (v_data534.set (v_a535).toNat v_y539).length then
      ((v_data534.set (v_a535).toNat v_y539)[(v_pivot537).toNat]?).bind fun (v_y542 : S_ringref5_Proc) =>
      (G_slices_partitionCmpFunc_ringref5_Proc_h_L1 n v_a535 v_cmp538 v_b536 n (wi .i64 (v_a535 + 1)) ((v_data534.set (v_a535).toNat v_y539).set (v_pivot537).toNat v_y540)).bind fun v_o555 => match v_o555 with
      | .x0 v_z556 v_z557 =>
        (G_slices_partitionCmpFunc_ringref5_Proc_h_L2 n v_a535 v_cmp538 v_z556 n (wi .i64 (v_b536 - 1)) v_z557).bind fun v_o570 => match v_o570 with
        | .x0 v_z571 v_z572 =>
          if v_z556 > v_z571 then
           if 0 ≤ v_a535 ∧ (v_a535).toNat < v_z572.length then
            (v_z572[(v_a535).toNat]?).bind fun (v_y577 : S_ringref5_Proc) =>
            if 0 ≤ v_z571 ∧ (v_z571).toNat < v_z572.length then
             (v_z572[(v_z571).toNat]?).bind fun (v_y578 : S_ringref5_Proc) =>
             if 0 ≤ v_z571 ∧ (v_z571).toNat < v_z572.length then
              (v_z572[(v_z571).toNat]?).bind fun (v_y579 : S_ringref5_Proc) =>
              if 0 ≤ v_a535 ∧ (v_a535).toNat < (v_z572.set (v_z571).toNat v_y577).length then
               ((v_z572.set (v_z571).toNat v_y577)[(v_a535).toNat]?).bind fun (v_y580 : S_ringref5_Proc) =>
               some (v_z571, true, ((v_z572.set (v_z571).toNat v_y577).set (v_a535).toNat v_y578))
              else none
             else none
            else none
           else none
          else
           if 0 ≤ v_z571 ∧ (v_z571).toNat < v_z572.length then
            (v_z572[(v_z571).toNat]?).bind fun (v_y581 : S_ringref5_Proc) =>
            if 0 ≤ v_z556 ∧ (v_z556).toNat < v_z572.length then
             (v_z572[(v_z556).toNat]?).bind fun (v_y582 : S_ringref5_Proc) =>
             if 0 ≤ v_z556 ∧ (v_z556).toNat < v_z572.length then
              (v_z572[(v_z556).toNat]?).bind fun (v_y583 : S_ringref5_Proc) =>
              if 0 ≤ v_z571 ∧ (v_z571).toNat < (v_z572.set (v_z556).toNat v_y581).length then
               ((v_z572.set (v_z556).toNat v_y581)[(v_z571).toNat]?).bind fun (v_y584 : S_ringref5_Proc) =>
               (G_slices_partitionCmpFunc_ringref5_Proc_h_L5 n v_a535 v_cmp538 n (wi .i64 (v_z556 + 1)) (wi .i64 (v_z571 - 1)) ((v_z572.set (v_z556).toNat v_y581).set (v_z571).toNat v_y582)).bind fun v_o624 => match v_o624 with
               | .x0 v_z625 v_z626 =>
                 if 0 ≤ v_a535 ∧ (v_a535).toNat < v_z626.length then
                  (v_z626[(v_a535).toNat]?).bind fun (v_y627 : S_ringref5_Proc) =>
                  if 0 ≤ v_z625 ∧ (v_z625).toNat < v_z626.length then
                   (v_z626[(v_z625).toNat]?).bind fun (v_y628 : S_ringref5_Proc) =>
                   if 0 ≤ v_z625 ∧ (v_z625).toNat < v_z626.length then
                    (v_z626[(v_z625).toNat]?).bind fun (v_y629 : S_ringref5_Proc) =>
                    if 0 ≤ v_a535 ∧ (v_a535).toNat < (v_z626.set (v_z625).toNat v_y627).length then
                     ((v_z626.set (v_z625).toNat v_y627)[(v_a535).toNat]?).bind fun (v_y630 : S_ringref5_Proc) =>
                     some (v_z625, false, ((v_z626.set (v_z625).toNat v_y627).set (v_a535).toNat v_y628))
                    else none
                   else none
                  else none
                 else none
              else none
             else none
            else none
           else none
     else none
    else none
   else none
  else none
theorem G_slices_partitionCmpFunc_ringref5_Proc_h_ok (n : Nat) (v_data534 : (List S_ringref5_Proc)) (v_a535 : Int) (v_b536 : Int) (v_pivot537 : Int) (v_cmp538 : (S_ringref5_Proc → S_ringref5_Proc → Option (Int))) (v_cmp538_g : FuncId) (v_cmp538_c : List PV) (v_cmp538_h : ∀ (x0 : S_ringref5_Proc) (x1 : S_ringref5_Proc) (r : Int), v_cmp538 x0 x1 = some r → Ret Try.prog v_cmp538_g ([eS_ringref5_Proc x0, eS_ringref5_Proc x1] ++ v_cmp538_c) ((eI .i64) r)) (r : Int × Bool × (List S_ringref5_Proc)) (h : G_slices_partitionCmpFunc_ringref5_Proc_h n v_data534 v_a535 v_b536 v_pivot537 v_cmp538 = some r) : RetH Try.prog 226 [.srf 0, .d ((eI .i64) v_a535), .d ((eI .i64) v_b536), .d ((eI .i64) v_pivot537), .d ((.clo v_cmp538_g v_cmp538_c))] [.row 180 5 (v_data534.map eS_ringref5_Proc)] (.tup [.d ((eI .i64) r.1), .d (eB r.2.1)]) [.row 180 5 (r.2.2.map eS_ringref5_Proc)] := by
  refine retH_run (n := 178) (fn := Try.f226) (c := bodyOf Try.f226) (by kernel_rfl) (by kernel_rfl) (by kernel_rfl) (by kernel_rfl) ?_
  have hF : KC 178 (FinH Try.prog Try.f226 [.row 180 5 (v_data534.map eS_ringref5_Proc)] (.tup [.d ((eI .i64) r.1), .d (eB r.2.1)]) [.row 180 5 (r.2.2.map eS_ringref5_Proc)]) := FinH.kc' (by kernel_rfl)
  unfold G_slices_partitionCmpFunc_ringref5_Proc_h at h
  by_cases h581 : 0 ≤ v_pivot537 ∧ (v_pivot537).toNat < v_data534.length
  · rw [if_pos h581] at h
    obtain ⟨v_y539, h582, h⟩ := bind_some h
    by_cases h583 : 0 ≤ v_a535 ∧ (v_a535).toNat < v_data534.length
    · rw [if_pos h583] at h
      obtain ⟨v_y540, h584, h⟩ := bind_some h
      by_cases h585 : 0 ≤ v_a535 ∧ (v_a535).toNat < v_data534.length
      · rw [if_pos h585] at h
        obtain ⟨v_y541, h586, h⟩ := bind_some h
        by_cases h587 : 0 ≤ v_pivot537 ∧ (v_pivot537).toNat < (v_data534.set (v_a535).toNat v_y539).length
        · rw [if_pos h587] at h
          obtain ⟨v_y542, h588, h⟩ := bind_some h
          obtain ⟨v_o555, h602, h⟩ := bind_some h
          refine pkk_sound TTok mix hF 9 (hs := [.y (eS_ringref5_Proc v_y539), .y (eS_ringref5_Proc v_y540), .w ((v_data534.set (v_a535).toNat v_y539).map eS_ringref5_Proc), .y (eS_ringref5_Proc v_y541), .w (((v_data534.set (v_a535).toNat v_y539).set (v_pivot537).toNat v_y540).map eS_ringref5_Proc), .y (eS_ringref5_Proc v_y542), .n n]) (ts := []) (s := [1, 0]) (l := [0, 1, 4, 12, 13]) (by kernel_rfl) (by kernel_rfl) (.cons (idx_ob (f := eS_ringref5_Proc) h581) (.cons (get_ob (f := eS_ringref5_Proc) h582) (.cons (idx_ob (f := eS_ringref5_Proc) h583) (.cons (get_ob (f := eS_ringref5_Proc) h584) (.cons (idx_ob (f := eS_ringref5_Proc) h585) (.cons (get_ob (f := eS_ringref5_Proc) h586) (.cons (Eq.refl (pcells (.agg [.v (.int .i64 v_y539.fId), .v (.int .i64 v_y539.fUp), .v (.int .i64 v_y539.fGroup), .v (.int .i64 v_y539.fStatus), .v (.bool v_y539.fEnded)]))) (.cons (set_ob (f := eS_ringref5_Proc) (l := v_data534) (k := (v_a535).toNat) (z := v_y539) (p := .agg [.v (.int .i64 v_y539.fId), .v (.int .i64 v_y539.fUp), .v (.int .i64 v_y539.fGroup), .v (.int .i64 v_y539.fStatus), .v (.bool v_y539.fEnded)]) rfl) (.cons (idx_ob (f := eS_ringref5_Proc) h587) (.cons (get_ob (f := eS_ringref5_Proc) h588) (.cons (Eq.refl (pcells (.agg [.v (.int .i64 v_y540.fId), .v (.int .i64 v_y540.fUp), .v (.int .i64 v_y540.fGroup), .v (.int .i64 v_y540.fStatus), .v (.bool v_y540.fEnded)]))) (.cons (set_ob (f := eS_ringref5_Proc) (l := (v_data534.set (v_a535).toNat v_y539)) (k := (v_pivot537).toNat) (z := v_y540) (p := .agg [.v (.int .i64 v_y540.fId), .v (.int .i64 v_y540.fUp), .v (.int .i64 v_y540.fGroup), .v (.int .i64 v_y540.fStatus), .v (.bool v_y540.fEnded)]) rfl) .nil)))))))))))) (G_slices_partitionCmpFunc_ringref5_Proc_h_L1_ok hF (.b 0 :: .s (cR (cR (cR (cR (bodyOf Try.f226))))) :: []) n v_a535 v_cmp538 v_b536 v_cmp538_g v_cmp538_c v_cmp538_h n (wi .i64 (v_a535 + 1)) ((v_data534.set (v_a535).toNat v_y539).set (v_pivot537).toNat v_y540) _ h602 ?_)
          cases v_o555 with
          | x0 v_z556 v_z557 =>
            try dsimp only at h
            obtain ⟨v_o570, h616, h⟩ := bind_some h
            refine pkk_sound TTok mix hF 4 (hs := [.n n]) (ts := []) (s := [0, 1]) (l := [0, 1, 4, 12, 13]) (by kernel_rfl) (by kernel_rfl) .nil (G_slices_partitionCmpFunc_ringref5_Proc_h_L2_ok hF (.b 2 :: .s (cR (cR (cR (cR (cR (bodyOf Try.f226)))))) :: []) n v_a535 v_cmp538 v_z556 v_cmp538_g v_cmp538_c v_cmp538_h n (wi .i64 (v_b536 - 1)) v_z557 _ h616 ?_)
            cases v_o570 with
            | x0 v_z571 v_z572 =>
              try dsimp only at h
              by_cases h626 : v_z556 > v_z571
              · rw [if_pos h626] at h
                by_cases h627 : 0 ≤ v_a535 ∧ (v_a535).toNat < v_z572.length
                · rw [if_pos h627] at h
                  obtain ⟨v_y577, h628, h⟩ := bind_some h
                  by_cases h629 : 0 ≤ v_z571 ∧ (v_z571).toNat < v_z572.length
                  · rw [if_pos h629] at h
                    obtain ⟨v_y578, h630, h⟩ := bind_some h
                    by_cases h631 : 0 ≤ v_z571 ∧ (v_z571).toNat < v_z572.length
                    · rw [if_pos h631] at h
                      obtain ⟨v_y579, h632, h⟩ := bind_some h
                      by_cases h633 : 0 ≤ v_a535 ∧ (v_a535).toNat < (v_z572.set (v_z571).toNat v_y577).length
                      · rw [if_pos h633] at h
                        obtain ⟨v_y580, h634, h⟩ := bind_some h
                        obtain rfl := Option.some.inj h
                        exact pendH_sound TTok mix 11 (hs := [.t true, .y (eS_ringref5_Proc v_y577), .y (eS_ringref5_Proc v_y578), .w ((v_z572.set (v_z571).toNat v_y577).map eS_ringref5_Proc), .y (eS_ringref5_Proc v_y579), .w (((v_z572.set (v_z571).toNat v_y577).set (v_a535).toNat v_y578).map eS_ringref5_Proc), .y (eS_ringref5_Proc v_y580)]) [1] (by kernel_rfl) (by kernel_rfl) (by kernel_rfl) (.cons (dt h626) (.cons (idx_ob (f := eS_ringref5_Proc) h627) (.cons (get_ob (f := eS_ringref5_Proc) h628) (.cons (idx_ob (f := eS_ringref5_Proc) h629) (.cons (get_ob (f := eS_ringref5_Proc) h630) (.cons (idx_ob (f := eS_ringref5_Proc) h631) (.cons (get_ob (f := eS_ringref5_Proc) h632) (.cons (Eq.refl (pcells (.agg [.v (.int .i64 v_y577.fId), .v (.int .i64 v_y577.fUp), .v (.int .i64 v_y577.fGroup), .v (.int .i64 v_y577.fStatus), .v (.bool v_y577.fEnded)]))) (.cons (set_ob (f := eS_ringref5_Proc) (l := v_z572) (k := (v_z571).toNat) (z := v_y577) (p := .agg [.v (.int .i64 v_y577.fId), .v (.int .i64 v_y577.fUp), .v (.int .i64 v_y577.fGroup), .v (.int .i64 v_y577.fStatus), .v (.bool v_y577.fEnded)]) rfl) (.cons (idx_ob (f := eS_ringref5_Proc) h633) (.cons (get_ob (f := eS_ringref5_Proc) h634) (.cons (Eq.refl (pcells (.agg [.v (.int .i64 v_y578.fId), .v (.int .i64 v_y578.fUp), .v (.int .i64 v_y578.fGroup), .v (.int .i64 v_y578.fStatus), .v (.bool v_y578.fEnded)]))) (.cons (set_ob (f := eS_ringref5_Proc) (l := (v_z572.set (v_z571).toNat v_y577)) (k := (v_a535).toNat) (z := v_y578) (p := .agg [.v (.int .i64 v_y578.fId), .v (.int .i64 v_y578.fUp), .v (.int .i64 v_y578.fGroup), .v (.int .i64 v_y578.fStatus), .v (.bool v_y578.fEnded)]) rfl) .nil)))))))))))))
                      · rw [if_neg h633] at h; cases h
                    · rw [if_neg h631] at h; cases h
                  · rw [if_neg h629] at h; cases h
                · rw [if_neg h627] at h; cases h
              · rw [if_neg h626] at h
                by_cases h635 : 0 ≤ v_z571 ∧ (v_z571).toNat < v_z572.length
                · rw [if_pos h635] at h
                  obtain ⟨v_y581, h636, h⟩ := bind_some h
                  by_cases h637 : 0 ≤ v_z556 ∧ (v_z556).toNat < v_z572.length
                  · rw [if_pos h637] at h
                    obtain ⟨v_y582, h638, h⟩ := bind_some h
                    by_cases h639 : 0 ≤ v_z556 ∧ (v_z556).toNat < v_z572.length
                    · rw [if_pos h639] at h
                      obtain ⟨v_y583, h640, h⟩ := bind_some h
                      by_cases h641 : 0 ≤ v_z571 ∧ (v_z571).toNat < (v_z572.set (v_z556).toNat v_y581).length
                      · rw [if_pos h641] at h
                        obtain ⟨v_y584, h642, h⟩ := bind_some h
                        obtain ⟨v_o624, h680, h⟩ := bind_some h
                        refine pkk_sound TTok mix hF 15 (hs := [.t false, .y (eS_ringref5_Proc v_y581), .y (eS_ringref5_Proc v_y582), .w ((v_z572.set (v_z556).toNat v_y581).map eS_ringref5_Proc), .y (eS_ringref5_Proc v_y583), .w (((v_z572.set (v_z556).toNat v_y581).set (v_z571).toNat v_y582).map eS_ringref5_Proc), .y (eS_ringref5_Proc v_y584), .n n]) (ts := []) (s := [0, 1]) (l := [0, 1, 4, 12, 13]) (by kernel_rfl) (by kernel_rfl) (.cons (df h626) (.cons (idx_ob (f := eS_ringref5_Proc) h635) (.cons (get_ob (f := eS_ringref5_Proc) h636) (.cons (idx_ob (f := eS_ringref5_Proc) h637) (.cons (get_ob (f := eS_ringref5_Proc) h638) (.cons (idx_ob (f := eS_ringref5_Proc) h639) (.cons (get_ob (f := eS_ringref5_Proc) h640) (.cons (Eq.refl (pcells (.agg [.v (.int .i64 v_y581.fId), .v (.int .i64 v_y581.fUp), .v (.int .i64 v_y581.fGroup), .v (.int .i64 v_y581.fStatus), .v (.bool v_y581.fEnded)]))) (.cons (set_ob (f := eS_ringref5_Proc) (l := v_z572) (k := (v_z556).toNat) (z := v_y581) (p := .agg [.v (.int .i64 v_y581.fId), .v (.int .i64 v_y581.fUp), .v (.int .i64 v_y581.fGroup), .v (.int .i64 v_y581.fStatus), .v (.bool v_y581.fEnded)]) rfl) (.cons (idx_ob (f := eS_ringref5_Proc) h641) (.cons (get_ob (f := eS_ringref5_Proc) h642) (.cons (Eq.refl (pcells (.agg [.v (.int .i64 v_y582.fId), .v (.int .i64 v_y582.fUp), .v (.int .i64 v_y582.fGroup), .v (.int .i64 v_y582.fStatus), .v (.bool v_y582.fEnded)]))) (.cons (set_ob (f := eS_ringref5_Proc) (l := (v_z572.set (v_z556).toNat v_y581)) (k := (v_z571).toNat) (z := v_y582) (p := .agg [.v (.int .i64 v_y582.fId), .v (.int .i64 v_y582.fUp), .v (.int .i64 v_y582.fGroup), .v (.int .i64 v_y582.fStatus), .v (.bool v_y582.fEnded)]) rfl) .nil))))))))))))) (G_slices_partitionCmpFunc_ringref5_Proc_h_L5_ok hF (.b 4 :: .s (cR (cR (cR (cR (cR (cR (cR (cR (cR (cR (bodyOf Try.f226))))))))))) :: []) n v_a535 v_cmp538 v_cmp538_g v_cmp538_c v_cmp538_h n (wi .i64 (v_z556 + 1)) (wi .i64 (v_z571 - 1)) ((v_z572.set (v_z556).toNat v_y581).set (v_z571).toNat v_y582) _ h680 ?_)
                        cases v_o624 with
                        | x0 v_z625 v_z626 =>
                          try dsimp only at h
                          by_cases h681 : 0 ≤ v_a535 ∧ (v_a535).toNat < v_z626.length
                          · rw [if_pos h681] at h
                            obtain ⟨v_y627, h682, h⟩ := bind_some h
                            by_cases h683 : 0 ≤ v_z625 ∧ (v_z625).toNat < v_z626.length
                            · rw [if_pos h683] at h
                              obtain ⟨v_y628, h684, h⟩ := bind_some h
                              by_cases h685 : 0 ≤ v_z625 ∧ (v_z625).toNat < v_z626.length
                              · rw [if_pos h685] at h
                                obtain ⟨v_y629, h686, h⟩ := bind_some h
                                by_cases h687 : 0 ≤ v_a535 ∧ (v_a535).toNat < (v_z626.set (v_z625).toNat v_y627).length
                                · rw [if_pos h687] at h
                                  obtain ⟨v_y630, h688, h⟩ := bind_some h
                                  obtain rfl := Option.some.inj h
                                  exact pendH_sound TTok mix 6 (hs := [.y (eS_ringref5_Proc v_y627), .y (eS_ringref5_Proc v_y628), .w ((v_z626.set (v_z625).toNat v_y627).map eS_ringref5_Proc), .y (eS_ringref5_Proc v_y629), .w (((v_z626.set (v_z625).toNat v_y627).set (v_a535).toNat v_y628).map eS_ringref5_Proc), .y (eS_ringref5_Proc v_y630)]) [1] (by kernel_rfl) (by kernel_rfl) (by kernel_rfl) (.cons (idx_ob (f := eS_ringref5_Proc) h681) (.cons (get_ob (f := eS_ringref5_Proc) h682) (.cons (idx_ob (f := eS_ringref5_Proc) h683) (.cons (get_ob (f := eS_ringref5_Proc) h684) (.cons (idx_ob (f := eS_ringref5_Proc) h685) (.cons (get_ob (f := eS_ringref5_Proc) h686) (.cons (Eq.refl (pcells (.agg [.v (.int .i64 v_y627.fId), .v (.int .i64 v_y627.fUp), .v (.int .i64 v_y627.fGroup), .v (.int .i64 v_y627.fStatus), .v (.bool v_y627.fEnded)]))) (.cons (set_ob (f := eS_ringref5_Proc) (l := v_z626) (k := (v_z625).toNat) (z := v_y627) (p := .agg [.v (.int .i64 v_y627.fId), .v (.int .i64 v_y627.fUp), .v (.int .i64 v_y627.fGroup), .v (.int .i64 v_y627.fStatus), .v (.bool v_y627.fEnded)]) rfl) (.cons (idx_ob (f := eS_ringref5_Proc) h687) (.cons (get_ob (f := eS_ringref5_Proc) h688) (.cons (Eq.refl (pcells (.agg [.v (.int .i64 v_y628.fId), .v (.int .i64 v_y628.fUp), .v (.int .i64 v_y628.fGroup), .v (.int .i64 v_y628.fStatus), .v (.bool v_y628.fEnded)]))) (.cons (set_ob (f := eS_ringref5_Proc) (l := (v_z626.set (v_z625).toNat v_y627)) (k := (v_a535).toNat) (z := v_y628) (p := .agg [.v (.int .i64 v_y628.fId), .v (.int .i64 v_y628.fUp), .v (.int .i64 v_y628.fGroup), .v (.int .i64 v_y628.fStatus), .v (.bool v_y628.fEnded)]) rfl) .nil))))))))))))
                                · rw [if_neg h687] at h; cases h
                              · rw [if_neg h685] at h; cases h
                            · rw [if_neg h683] at h; cases h
                          · rw [if_neg h681] at h; cases h
                      · rw [if_neg h641] at h; cases h
                    · rw [if_neg h639] at h; cases h
                  · rw [if_neg h637] at h; cases h
                · rw [if_neg h635] at h; cases h
        · rw [if_neg h587] at h; cases h
      · rw [if_neg h585] at h; cases h
    · rw [if_neg h583] at h; cases h
  · rw [if_neg h581] at h; cases h
inductive G_slices_pdqsortCmpFunc_ringref5_Proc_h_C1_R where
  | x0 (v_limit685 : Int) (v_w686 : (List S_ringref5_Proc))
def G_slices_pdqsortCmpFunc_ringref5_Proc_h_C1_ex : G_slices_pdqsortCmpFunc_ringref5_Proc_h_C1_R → Ex
  | .x0 _ _ => .normal
def G_slices_pdqsortCmpFunc_ringref5_Proc_h_C1_st (v_a95 : Int) (v_b96 : Int) (v_limit97 : Int) (v_cmp94 : (S_ringref5_Proc → S_ringref5_Proc → Option (Int))) (v_wasBalanced98 : Bool) (v_wasPartitioned99 : Bool) (v_w100 : (List S_ringref5_Proc)) (v_cmp94_g : FuncId) (v_cmp94_c : (List PV)) : G_slices_pdqsortCmpFunc_ringref5_Proc_h_C1_R → PS
  | .x0 v_limit685 v_w686 => ⟨[.srf 1, .d (.v (.int .i64 v_a95)), .d (.v (.int .i64 v_b96)), .d (.v (.int .i64 v_limit685)), .d (.clo v_cmp94_g v_cmp94_c), dd, dd, dd, dd, dd, .d (.v (.bool v_wasBalanced98)), .d (.v (.bool v_wasPartitioned99)), .d (.v (.int .i64 (wi .i64 (v_b96 - v_a95)))), dd, dd, dd, dd, dd, dd, dd, dd, dd, dd, dd, dd, dd, dd, dd, dd, dd, dd, dd, dd, dd, dd, dd, dd, dd, dd, dd, dd, dd, dd, dd, dd, dd, dd, dd, dd, dd, dd, dd, dd, dd, dd, dd, dd, dd, dd, dd, dd, dd, dd, dd, dd, dd, dd, dd, dd, dd, dd, dd, dd, dd, dd, dd, dd, dd, dd, dd, dd, dd, dd, dd, dd, dd, dd, dd, dd, dd, dd, dd, dd, dd, dd, dd, dd, dd, dd, dd, dd, dd, dd, dd, dd, dd, dd, dd, dd, dd, dd, dd, dd, dd, dd, dd, dd, dd, dd, dd, dd, dd, dd, dd, dd, dd, dd, dd, dd, dd, dd, dd, dd, dd, dd, dd, dd, dd, dd, dd, dd, dd, dd, dd, dd, dd, dd, dd], [.gh 0 (.srf 1), .row 180 5 (v_w686.map eS_ringref5_Proc)]⟩
def G_slices_pdqsortCmpFunc_ringref5_Proc_h_C1_hd (v_a95 : Int) (v_b96 : Int) (v_limit97 : Int) (v_cmp94 : (S_ringref5_Proc → S_ringref5_Proc → Option (Int))) (v_wasBalanced98 : Bool) (v_wasPartitioned99 : Bool) (v_w100 : (List S_ringref5_Proc)) (v_cmp94_g : FuncId) (v_cmp94_c : (List PV))  : PS := ⟨[.srf 1, .d (.v (.int .i64 v_a95)), .d (.v (.int .i64 v_b96)), .d (.v (.int .i64 v_limit97)), .d (.clo v_cmp94_g v_cmp94_c), dd, dd, dd, dd, dd, .d (.v (.bool v_wasBalanced98)), .d (.v (.bool v_wasPartitioned99)), .d (.v (.int .i64 (wi .i64 (v_b96 - v_a95)))), dd, dd, dd, dd, dd, dd, dd, dd, dd, dd, dd, dd, dd, dd, dd, dd, dd, dd, dd, dd, dd, dd, dd, dd, dd, dd, .d (.v (.bool (!v_wasBalanced98))), dd, dd, dd, dd, dd, dd, dd, dd, dd, dd, dd, dd, dd, dd, dd, dd, dd, dd, dd, dd, dd, dd, dd, dd, dd, dd, dd, dd, dd, dd, dd, dd, dd, dd, dd, dd, dd, dd, dd, dd, dd, dd, dd, dd, dd, dd, dd, dd, dd, dd, dd, dd, dd, dd, dd, dd, dd, dd, dd, dd, dd, dd, dd, dd, dd, dd, dd, dd, dd, dd, dd, dd, dd, dd, dd, dd, dd, dd, dd, dd, dd, dd, dd, dd, dd, dd, dd, dd, dd, dd, dd, dd, dd, dd, dd, dd, dd, dd, dd, dd, dd, dd, dd, dd, dd, dd, dd, dd], [.gh 0 (.srf 1), .row 180 5 (v_w100.map eS_ringref5_Proc)]⟩
def G_slices_pdqsortCmpFunc_ringref5_Proc_h_C1 (n : Nat) (v_a95 : Int) (v_b96 : Int) (v_limit97 : Int) (v_cmp94 : (S_ringref5_Proc → S_ringref5_Proc → Option (Int))) (v_wasBalanced98 : Bool) (v_wasPartitioned99 : Bool) (v_w100 : (List S_ringref5_Proc)) : Option G_slices_pdqsortCmpFunc_ringref5_Proc_h_C1_R :=
  if v_wasBalanced98 = true then
   some (.x0 v_limit97 v_w100)
  else
   (G_slices_breakPatternsCmpFunc_ringref5_Proc_h n v_w100 v_a95 v_b96 v_cmp94).bind fun (v_r684 : ((List S_ringref5_Proc))) =>
   some (.x0 (wi .i64 (v_limit97 - 1)) v_r684)
theorem G_slices_pdqsortCmpFunc_ringref5_Proc_h_C1_ok {Fi : Ex → PS → Prop} (hF : KC 148 Fi) (ks : List Fr) (n : Nat) (v_a95 : Int) (v_b96 : Int) (v_limit97 : Int) (v_cmp94 : (S_ringref5_Proc → S_ringref5_Proc → Option (Int))) (v_wasBalanced98 : Bool) (v_wasPartitioned99 : Bool) (v_w100 : (List S_ringref5_Proc)) (v_cmp94_g : FuncId) (v_cmp94_c : (List PV)) (v_cmp94_h : ∀ (x0 : S_ringref5_Proc) (x1 : S_ringref5_Proc) (r : Int), v_cmp94 x0 x1 = some r → Ret Try.prog v_cmp94_g ([eS_ringref5_Proc x0, eS_ringref5_Proc x1] ++ v_cmp94_c) ((eI .i64) r)) (o : G_slices_pdqsortCmpFunc_ringref5_Proc_h_C1_R) (h : G_slices_pdqsortCmpFunc_ringref5_Proc_h_C1 n v_a95 v_b96 v_limit97 v_cmp94 v_wasBalanced98 v_wasPartitioned99 v_w100 = some o) (q : RunE Try.prog 148 Fi ks (G_slices_pdqsortCmpFunc_ringref5_Proc_h_C1_ex o) (G_slices_pdqsortCmpFunc_ringref5_Proc_h_C1_st v_a95 v_b96 v_limit97 v_cmp94 v_wasBalanced98 v_wasPartitioned99 v_w100 v_cmp94_g v_cmp94_c o)) : RunE Try.prog 148 Fi (.s (cR (cL (cR (cR (cR (cB (cP (cB (cR (cR (bodyOf Try.f197))))))))))) :: ks) .normal (G_slices_pdqsortCmpFunc_ringref5_Proc_h_C1_hd v_a95 v_b96 v_limit97 v_cmp94 v_wasBalanced98 v_wasPartitioned99 v_w100 v_cmp94_g v_cmp94_c) := by
  unfold G_slices_pdqsortCmpFunc_ringref5_Proc_h_C1 at h
  by_cases h757 : v_wasBalanced98 = true
  · rw [if_pos h757] at h
    cases h
    exact pkk_sound TTok mix hF 2 (hs := [.t false]) (ts := []) (s := [0, 1]) (l := [0, 1, 2, 3, 4, 10, 11, 12]) (by kernel_rfl) (by kernel_rfl) (.cons (bnf h757) .nil) q
  · rw [if_neg h757] at h
    obtain ⟨v_r684, h758, h⟩ := bind_some h
    cases h
    exact pkk_sound TTok mix hF 4 (hs := [.t true, .h [1] [] [.row 180 5 (v_r684.map eS_ringref5_Proc)] (.tup [])]) (ts := []) (s := [0, 1]) (l := [0, 1, 2, 3, 4, 10, 11, 12]) (by kernel_rfl) (by kernel_rfl) (.cons (bnt (vf h757)) (.cons (G_slices_breakPatternsCmpFunc_ringref5_Proc_h_ok n v_w100 v_a95 v_b96 v_cmp94 v_cmp94_g v_cmp94_c v_cmp94_h _ h758) .nil)) q
inductive G_slices_pdqsortCmpFunc_ringref5_Proc_h_C2_R where
  | x0 (v_pivot695 : Int) (v_hint696 : Int) (v_w697 : (List S_ringref5_Proc))
def G_slices_pdqsortCmpFunc_ringref5_Proc_h_C2_ex : G_slices_pdqsortCmpFunc_ringref5_Proc_h_C2_R → Ex
  | .x0 _ _ _ => .normal
def G_slices_pdqsortCmpFunc_ringref5_Proc_h_C2_st (v_a95 : Int) (v_b96 : Int) (v_z690 : Int) (v_cmp94 : (S_ringref5_Proc → S_ringref5_Proc → Option (Int))) (v_wasBalanced98 : Bool) (v_wasPartitioned99 : Bool) (v_r692 : (Int × Int)) (v_z691 : (List S_ringref5_Proc)) (v_cmp94_g : FuncId) (v_cmp94_c : (List PV)) : G_slices_pdqsortCmpFunc_ringref5_Proc_h_C2_R → PS
  | .x0 v_pivot695 v_hint696 v_w697 => ⟨[.srf 1, .d (.v (.int .i64 v_a95)), .d (.v (.int .i64 v_b96)), .d (.v (.int .i64 v_z690)), .d (.clo v_cmp94_g v_cmp94_c), dd, dd, dd, dd, dd, .d (.v (.bool v_wasBalanced98)), .d (.v (.bool v_wasPartitioned99)), .d (.v (.int .i64 (wi .i64 (v_b96 - v_a95)))), .d (.v (.int .i64 v_pivot695)), .d (.v (.int .i64 v_hint696)), dd, dd, dd, dd, dd, dd, dd, dd, dd, dd, dd, dd, dd, dd, dd, dd, dd, dd, dd, dd, dd, dd, dd, dd, dd, dd, dd, dd, dd, dd, dd, dd, dd, dd, dd, dd, dd, dd, dd, dd, dd, dd, dd, dd, dd, dd, dd, dd, dd, dd, dd, dd, dd, dd, dd, dd, dd, dd, dd, dd, dd, dd, dd, dd, dd, dd, dd, dd, dd, dd, dd, dd, dd, dd, dd, dd, dd, dd, dd, dd, dd, dd, dd, dd, dd, dd, dd, dd, dd, dd, dd, dd, dd, dd, dd, dd, dd, dd, dd, dd, dd, dd, dd, dd, dd, dd, dd, dd, dd, dd, dd, dd, dd, dd, dd, dd, dd, dd, dd, dd, dd, dd, dd, dd, dd, dd, dd, dd, dd, dd, dd, dd, dd], [.gh 0 (.srf 1), .row 180 5 (v_w697.map eS_ringref5_Proc)]⟩
def G_slices_pdqsortCmpFunc_ringref5_Proc_h_C2_hd (v_a95 : Int) (v_b96 : Int) (v_z690 : Int) (v_cmp94 : (S_ringref5_Proc → S_ringref5_Proc → Option (Int))) (v_wasBalanced98 : Bool) (v_wasPartitioned99 : Bool) (v_r692 : (Int × Int)) (v_z691 : (List S_ringref5_Proc)) (v_cmp94_g : FuncId) (v_cmp94_c : (List PV))  : PS := ⟨[.srf 1, .d (.v (.int .i64 v_a95)), .d (.v (.int .i64 v_b96)), .d (.v (.int .i64 v_z690)), .d (.clo v_cmp94_g v_cmp94_c), dd, dd, dd, dd, dd, .d (.v (.bool v_wasBalanced98)), .d (.v (.bool v_wasPartitioned99)), .d (.v (.int .i64 (wi .i64 (v_b96 - v_a95)))), .d (.v (.int .i64 v_r692.1)), .d (.v (.int .i64 v_r692.2)), dd, dd, dd, dd, dd, dd, dd, dd, dd, dd, dd, dd, dd, dd, dd, dd, dd, dd, dd, dd, dd, dd, dd, dd, dd, dd, dd, dd, dd, dd, dd, dd, dd, dd, dd, dd, dd, dd, dd, dd, dd, .d (.v (.bool (v_r692.2 == 2))), dd, dd, dd, dd, dd, dd, dd, dd, dd, dd, dd, dd, dd, dd, dd, dd, dd, dd, dd, dd, dd, dd, dd, dd, dd, dd, dd, dd, dd, dd, dd, dd, dd, dd, dd, dd, dd, dd, dd, dd, dd, dd, dd, dd, dd, dd, dd, dd, dd, dd, dd, dd, dd, dd, dd, dd, dd, dd, dd, dd, dd, dd, dd, dd, dd, dd, dd, dd, dd, dd, dd, dd, dd, dd, dd, dd, dd, dd, dd, dd, dd, dd, dd, dd, dd, dd, dd, dd, dd, dd, dd], [.gh 0 (.srf 1), .row 180 5 (v_z691.map eS_ringref5_Proc)]⟩
def G_slices_pdqsortCmpFunc_ringref5_Proc_h_C2 (n : Nat) (v_a95 : Int) (v_b96 : Int) (v_z690 : Int) (v_cmp94 : (S_ringref5_Proc → S_ringref5_Proc → Option (Int))) (v_wasBalanced98 : Bool) (v_wasPartitioned99 : Bool) (v_r692 : (Int × Int)) (v_z691 : (List S_ringref5_Proc)) : Option G_slices_pdqsortCmpFunc_ringref5_Proc_h_C2_R :=
  if v_r692.2 = 2 then
   (G_slices_reverseRangeCmpFunc_ringref5_Proc_h n v_z691 v_a95 v_b96 v_cmp94).bind fun (v_r694 : ((List S_ringref5_Proc))) =>
   some (.x0 (wi .i64 ((wi .i64 (v_b96 - 1)) - (wi .i64 (v_r692.1 - v_a95)))) 1 v_r694)
  else
   some (.x0 v_r692.1 v_r692.2 v_z691)
theorem G_slices_pdqsortCmpFunc_ringref5_Proc_h_C2_ok {Fi : Ex → PS → Prop} (hF : KC 148 Fi) (ks : List Fr) (n : Nat) (v_a95 : Int) (v_b96 : Int) (v_z690 : Int) (v_cmp94 : (S_ringref5_Proc → S_ringref5_Proc → Option (Int))) (v_wasBalanced98 : Bool) (v_wasPartitioned99 : Bool) (v_r692 : (Int × Int)) (v_z691 : (List S_ringref5_Proc)) (v_cmp94_g : FuncId) (v_cmp94_c : (List PV)) (v_cmp94_h : ∀ (x0 : S_ringref5_Proc) (x1 : S_ringref5_Proc) (r : Int), v_cmp94 x0 x1 = some r → Ret Try.prog v_cmp94_g ([eS_ringref5_Proc x0, eS_ringref5_Proc x1] ++ v_cmp94_c) ((eI .i64) r)) (o : G_slices_pdqsortCmpFunc_ringref5_Proc_h_C2_R) (h : G_slices_pdqsortCmpFunc_ringref5_Proc_h_C2 n v_a95 v_b96 v_z690 v_cmp94 v_wasBalanced98 v_wasPartitioned99 v_r692 v_z691 = some o) (q : RunE Try.prog 148 Fi ks (G_slices_pdqsortCmpFunc_ringref5_Proc_h_C2_ex o) (G_slices_pdqsortCmpFunc_ringref5_Proc_h_C2_st v_a95 v_b96 v_z690 v_cmp94 v_wasBalanced98 v_wasPartitioned99 v_r692 v_z691 v_cmp94_g v_cmp94_c o)) : RunE Try.prog 148 Fi (.s (cR (cL (cR (cR (cR (cR (cR (cB (cP (cB (cR (cR (bodyOf Try.f197))))))))))))) :: ks) .normal (G_slices_pdqsortCmpFunc_ringref5_Proc_h_C2_hd v_a95 v_b96 v_z690 v_cmp94 v_wasBalanced98 v_wasPartitioned99 v_r692 v_z691 v_cmp94_g v_cmp94_c) := by
  unfold G_slices_pdqsortCmpFunc_ringref5_Proc_h_C2 at h
  by_cases h763 : v_r692.2 = 2
  · rw [if_pos h763] at h
    obtain ⟨v_r694, h764, h⟩ := bind_some h
    cases h
    exact pkk_sound TTok mix hF 6 (hs := [.t true, .h [1] [] [.row 180 5 (v_r694.map eS_ringref5_Proc)] (.tup [])]) (ts := []) (s := [0, 1]) (l := [0, 1, 2, 3, 4, 10, 11, 12, 13, 14]) (by kernel_rfl) (by kernel_rfl) (.cons (bt h763) (.cons (G_slices_reverseRangeCmpFunc_ringref5_Proc_h_ok n v_z691 v_a95 v_b96 v_cmp94 v_cmp94_g v_cmp94_c v_cmp94_h _ h764) .nil)) q
  · rw [if_neg h763] at h
    cases h
    exact pkk_sound TTok mix hF 2 (hs := [.t false]) (ts := []) (s := [0, 1]) (l := [0, 1, 2, 3, 4, 10, 11, 12, 13, 14]) (by kernel_rfl) (by kernel_rfl) (.cons (bf h763) .nil) q
inductive G_slices_pdqsortCmpFunc_ringref5_Proc_h_C3_R where
  | x0 (v_w707 : (List S_ringref5_Proc))
  | x1 (v_w708 : (List S_ringref5_Proc))
def G_slices_pdqsortCmpFunc_ringref5_Proc_h_C3_ex : G_slices_pdqsortCmpFunc_ringref5_Proc_h_C3_R → Ex
  | .x0 _ => .ret
  | .x1 _ => .normal
def G_slices_pdqsortCmpFunc_ringref5_Proc_h_C3_st (v_a95 : Int) (v_b96 : Int) (v_z690 : Int) (v_cmp94 : (S_ringref5_Proc → S_ringref5_Proc → Option (Int))) (v_wasBalanced98 : Bool) (v_wasPartitioned99 : Bool) (v_z702 : Int) (v_z703 : Int) (v_z704 : (List S_ringref5_Proc)) (v_cmp94_g : FuncId) (v_cmp94_c : (List PV)) : G_slices_pdqsortCmpFunc_ringref5_Proc_h_C3_R → PS
  | .x0 v_w707 => ⟨[dd, dd, dd, dd, dd, dd, dd, dd, dd, dd, dd, dd, dd, dd, dd, dd, dd, dd, dd, dd, dd, dd, dd, dd, dd, dd, dd, dd, dd, dd, dd, dd, dd, dd, dd, dd, dd, dd, dd, dd, dd, dd, dd, dd, dd, dd, dd, dd, dd, dd, dd, dd, dd, dd, dd, dd, dd, dd, dd, dd, dd, dd, dd, dd, dd, dd, dd, dd, dd, dd, dd, dd, dd, dd, dd, dd, dd, dd, dd, dd, dd, dd, dd, dd, dd, dd, dd, dd, dd, dd, dd, dd, dd, dd, dd, dd, dd, dd, dd, dd, dd, dd, dd, dd, dd, dd, dd, dd, dd, dd, dd, dd, dd, dd, dd, dd, dd, dd, dd, dd, dd, dd, dd, dd, dd, dd, dd, dd, dd, dd, dd, dd, dd, dd, dd, dd, dd, dd, dd, dd, dd, dd, dd, dd, dd, dd, dd, dd], [.gh 0 (.srf 1), .row 180 5 (v_w707.map eS_ringref5_Proc)]⟩
  | .x1 v_w708 => ⟨[.srf 1, .d (.v (.int .i64 v_a95)), .d (.v (.int .i64 v_b96)), .d (.v (.int .i64 v_z690)), .d (.clo v_cmp94_g v_cmp94_c), dd, dd, dd, dd, dd, .d (.v (.bool v_wasBalanced98)), .d (.v (.bool v_wasPartitioned99)), .d (.v (.int .i64 (wi .i64 (v_b96 - v_a95)))), .d (.v (.int .i64 v_z702)), dd, dd, dd, dd, dd, dd, dd, dd, dd, dd, dd, dd, dd, dd, dd, dd, dd, dd, dd, dd, dd, dd, dd, dd, dd, dd, dd, dd, dd, dd, dd, dd, dd, dd, dd, dd, dd, dd, dd, dd, dd, dd, dd, dd, dd, dd, dd, dd, dd, dd, dd, dd, dd, dd, dd, dd, dd, dd, dd, dd, dd, dd, dd, dd, dd, dd, dd, dd, dd, dd, dd, dd, dd, dd, dd, dd, dd, dd, dd, dd, dd, dd, dd, dd, dd, dd, dd, dd, dd, dd, dd, dd, dd, dd, dd, dd, dd, dd, dd, dd, dd, dd, dd, dd, dd, dd, dd, dd, dd, dd, dd, dd, dd, dd, dd, dd, dd, dd, dd, dd, dd, dd, dd, dd, dd, dd, dd, dd, dd, dd, dd, dd, dd, dd], [.gh 0 (.srf 1), .row 180 5 (v_w708.map eS_ringref5_Proc)]⟩
def G_slices_pdqsortCmpFunc_ringref5_Proc_h_C3_hd (v_a95 : Int) (v_b96 : Int) (v_z690 : Int) (v_cmp94 : (S_ringref5_Proc → S_ringref5_Proc → Option (Int))) (v_wasBalanced98 : Bool) (v_wasPartitioned99 : Bool) (v_z702 : Int) (v_z703 : Int) (v_z704 : (List S_ringref5_Proc)) (v_cmp94_g : FuncId) (v_cmp94_c : (List PV))  : PS := ⟨[.srf 1, .d (.v (.int .i64 v_a95)), .d (.v (.int .i64 v_b96)), .d (.v (.int .i64 v_z690)), .d (.clo v_cmp94_g v_cmp94_c), dd, dd, dd, dd, dd, .d (.v (.bool v_wasBalanced98)), .d (.v (.bool v_wasPartitioned99)), .d (.v (.int .i64 (wi .i64 (v_b96 - v_a95)))), .d (.v (.int .i64 v_z702)), dd, dd, dd, dd, dd, dd, dd, dd, dd, dd, dd, dd, dd, dd, dd, dd, dd, dd, dd, dd, dd, dd, dd, dd, dd, dd, dd, dd, dd, dd, dd, dd, dd, dd, dd, dd, dd, dd, dd, dd, dd, dd, dd, dd, dd, dd, dd, dd, dd, dd, dd, dd, dd, dd, dd, dd, dd, dd, dd, dd, dd, .d (.v (.bool (v_z703 == 1))), dd, dd, dd, dd, dd, dd, dd, dd, dd, dd, dd, dd, dd, dd, dd, dd, dd, dd, dd, dd, dd, dd, dd, dd, dd, dd, dd, dd, dd, dd, dd, dd, dd, dd, dd, dd, dd, dd, dd, dd, dd, dd, dd, dd, dd, dd, dd, dd, dd, dd, dd, dd, dd, dd, dd, dd, dd, dd, dd, dd, dd, dd, dd, dd, dd, dd, dd, dd, dd, dd, dd, dd], [.gh 0 (.srf 1), .row 180 5 (v_z704.map eS_ringref5_Proc)]⟩
def G_slices_pdqsortCmpFunc_ringref5_Proc_h_C3 (n : Nat) (v_a95 : Int) (v_b96 : Int) (v_z690 : Int) (v_cmp94 : (S_ringref5_Proc → S_ringref5_Proc → Option (Int))) (v_wasBalanced98 : Bool) (v_wasPartitioned99 : Bool) (v_z702 : Int) (v_z703 : Int) (v_z704 : (List S_ringref5_Proc)) : Option G_slices_pdqsortCmpFunc_ringref5_Proc_h_C3_R :=
  if v_z703 = 1 then
   (G_slices_partialInsertionSortCmpFunc_ringref5_Proc_h n v_z704 v_a95 v_b96 v_cmp94).bind fun (v_r706 : (Bool × (List S_ringref5_Proc))) =>
   if v_r706.1 = true then
    some (.x0 v_r706.2)
   else
    some (.x1 v_r706.2)
  else
   some (.x1 v_z704)
theorem G_slices_pdqsortCmpFunc_ringref5_Proc_h_C3_ok {Fi : Ex → PS → Prop} (hF : KC 148 Fi) (ks : List Fr) (n : Nat) (v_a95 : Int) (v_b96 : Int) (v_z690 : Int) (v_cmp94 : (S_ringref5_Proc → S_ringref5_Proc → Option (Int))) (v_wasBalanced98 : Bool) (v_wasPartitioned99 : Bool) (v_z702 : Int) (v_z703 : Int) (v_z704 : (List S_ringref5_Proc)) (v_cmp94_g : FuncId) (v_cmp94_c : (List PV)) (v_cmp94_h : ∀ (x0 : S_ringref5_Proc) (x1 : S_ringref5_Proc) (r : Int), v_cmp94 x0 x1 = some r → Ret Try.prog v_cmp94_g ([eS_ringref5_Proc x0, eS_ringref5_Proc x1] ++ v_cmp94_c) ((eI .i64) r)) (o : G_slices_pdqsortCmpFunc_ringref5_Proc_h_C3_R) (h : G_slices_pdqsortCmpFunc_ringref5_Proc_h_C3 n v_a95 v_b96 v_z690 v_cmp94 v_wasBalanced98 v_wasPartitioned99 v_z702 v_z703 v_z704 = some o) (q : RunE Try.prog 148 Fi ks (G_slices_pdqsortCmpFunc_ringref5_Proc_h_C3_ex o) (G_slices_pdqsortCmpFunc_ringref5_Proc_h_C3_st v_a95 v_b96 v_z690 v_cmp94 v_wasBalanced98 v_wasPartitioned99 v_z702 v_z703 v_z704 v_cmp94_g v_cmp94_c o)) : RunE Try.prog 148 Fi (.s (cR (cL (cR (cR (cR (cR (cR (cR (cB (cP (cB (cR (cR (bodyOf Try.f197)))))))))))))) :: ks) .normal (G_slices_pdqsortCmpFunc_ringref5_Proc_h_C3_hd v_a95 v_b96 v_z690 v_cmp94 v_wasBalanced98 v_wasPartitioned99 v_z702 v_z703 v_z704 v_cmp94_g v_cmp94_c) := by
  unfold G_slices_pdqsortCmpFunc_ringref5_Proc_h_C3 at h
  by_cases h771 : v_z703 = 1
  · rw [if_pos h771] at h
    obtain ⟨v_r706, h772, h⟩ := bind_some h
    by_cases h773 : v_r706.1 = true
    · rw [if_pos h773] at h
      cases h
      exact pkk_sound TTok mix hF 5 (hs := [.t true, .h [1] [] [.row 180 5 (v_r706.2.map eS_ringref5_Proc)] (.d (.v (.bool v_r706.1))), .t true]) (ts := []) (s := [0, 1]) (l := []) (by kernel_rfl) (by kernel_rfl) (.cons (bt h771) (.cons (G_slices_partialInsertionSortCmpFunc_ringref5_Proc_h_ok n v_z704 v_a95 v_b96 v_cmp94 v_cmp94_g v_cmp94_c v_cmp94_h _ h772) (.cons h773 .nil))) q
    · rw [if_neg h773] at h
      cases h
      exact pkk_sound TTok mix hF 5 (hs := [.t true, .h [1] [] [.row 180 5 (v_r706.2.map eS_ringref5_Proc)] (.d (.v (.bool v_r706.1))), .t false]) (ts := []) (s := [0, 1]) (l := [0, 1, 2, 3, 4, 10, 11, 12, 13]) (by kernel_rfl) (by kernel_rfl) (.cons (bt h771) (.cons (G_slices_partialInsertionSortCmpFunc_ringref5_Proc_h_ok n v_z704 v_a95 v_b96 v_cmp94 v_cmp94_g v_cmp94_c v_cmp94_h _ h772) (.cons (vf h773) .nil))) q
  · rw [if_neg h771] at h
    cases h
    exact pkk_sound TTok mix hF 2 (hs := [.t false]) (ts := []) (s := [0, 1]) (l := [0, 1, 2, 3, 4, 10, 11, 12, 13]) (by kernel_rfl) (by kernel_rfl) (.cons (bf h771) .nil) q
inductive G_slices_pdqsortCmpFunc_ringref5_Proc_h_C4_R where
  | x0 (v_x720 : Bool) (v_w721 : (List S_ringref5_Proc))
def G_slices_pdqsortCmpFunc_ringref5_Proc_h_C4_ex : G_slices_pdqsortCmpFunc_ringref5_Proc_h_C4_R → Ex
  | .x0 _ _ => .normal
def G_slices_pdqsortCmpFunc_ringref5_Proc_h_C4_st (v_a95 : Int) (v_b96 : Int) (v_z690 : Int) (v_cmp94 : (S_ringref5_Proc → S_ringref5_Proc → Option (Int))) (v_wasBalanced98 : Bool) (v_wasPartitioned99 : Bool) (v_z702 : Int) (v_z713 : (List S_ringref5_Proc)) (v_cmp94_g : FuncId) (v_cmp94_c : (List PV)) : G_slices_pdqsortCmpFunc_ringref5_Proc_h_C4_R → PS
  | .x0 v_x720 v_w721 => ⟨[.srf 1, .d (.v (.int .i64 v_a95)), .d (.v (.int .i64 v_b96)), .d (.v (.int .i64 v_z690)), .d (.clo v_cmp94_g v_cmp94_c), dd, dd, dd, dd, dd, .d (.v (.bool v_wasBalanced98)), .d (.v (.bool v_wasPartitioned99)), .d (.v (.int .i64 (wi .i64 (v_b96 - v_a95)))), .d (.v (.int .i64 v_z702)), dd, dd, dd, dd, dd, dd, dd, dd, dd, dd, dd, dd, dd, dd, dd, dd, dd, dd, dd, dd, dd, dd, dd, dd, dd, dd, dd, dd, dd, dd, dd, dd, dd, dd, dd, dd, dd, dd, dd, dd, dd, dd, dd, dd, dd, dd, dd, dd, dd, dd, dd, dd, dd, dd, dd, dd, dd, dd, dd, dd, dd, dd, dd, dd, dd, dd, dd, dd, dd, dd, dd, dd, dd, dd, dd, dd, dd, dd, dd, dd, dd, dd, dd, .d (.v (.bool v_x720)), dd, dd, dd, dd, dd, dd, dd, dd, dd, dd, dd, dd, dd, dd, dd, dd, dd, dd, dd, dd, dd, dd, dd, dd, dd, dd, dd, dd, dd, dd, dd, dd, dd, dd, dd, dd, dd, dd, dd, dd, dd, dd, dd, dd, dd, dd, dd, dd, dd, dd], [.gh 0 (.srf 1), .row 180 5 (v_w721.map eS_ringref5_Proc)]⟩
def G_slices_pdqsortCmpFunc_ringref5_Proc_h_C4_hd (v_a95 : Int) (v_b96 : Int) (v_z690 : Int) (v_cmp94 : (S_ringref5_Proc → S_ringref5_Proc → Option (Int))) (v_wasBalanced98 : Bool) (v_wasPartitioned99 : Bool) (v_z702 : Int) (v_z713 : (List S_ringref5_Proc)) (v_cmp94_g : FuncId) (v_cmp94_c : (List PV))  : PS := ⟨[.srf 1, .d (.v (.int .i64 v_a95)), .d (.v (.int .i64 v_b96)), .d (.v (.int .i64 v_z690)), .d (.clo v_cmp94_g v_cmp94_c), dd, dd, dd, dd, dd, .d (.v (.bool v_wasBalanced98)), .d (.v (.bool v_wasPartitioned99)), .d (.v (.int .i64 (wi .i64 (v_b96 - v_a95)))), .d (.v (.int .i64 v_z702)), dd, dd, dd, dd, dd, dd, dd, dd, dd, dd, dd, dd, dd, dd, dd, dd, dd, dd, dd, dd, dd, dd, dd, dd, dd, dd, dd, dd, dd, dd, dd, dd, dd, dd, dd, dd, dd, dd, dd, dd, dd, dd, dd, dd, dd, dd, dd, dd, dd, dd, dd, dd, dd, dd, dd, dd, dd, dd, dd, dd, dd, dd, dd, dd, dd, dd, dd, dd, dd, dd, dd, dd, dd, dd, dd, dd, dd, dd, dd, dd, dd, dd, dd, dd, dd, dd, dd, dd, dd, dd, dd, dd, dd, dd, dd, dd, dd, dd, dd, dd, dd, dd, dd, dd, dd, dd, dd, dd, dd, dd, dd, dd, dd, dd, dd, dd, dd, dd, dd, dd, dd, dd, dd, dd, dd, dd, dd, dd, dd, dd, dd, dd, dd, dd], [.gh 0 (.srf 1), .row 180 5 (v_z713.map eS_ringref5_Proc)]⟩
def G_slices_pdqsortCmpFunc_ringref5_Proc_h_C4 (n : Nat) (v_a95 : Int) (v_b96 : Int) (v_z690 : Int) (v_cmp94 : (S_ringref5_Proc → S_ringref5_Proc → Option (Int))) (v_wasBalanced98 : Bool) (v_wasPartitioned99 : Bool) (v_z702 : Int) (v_z713 : (List S_ringref5_Proc)) : Option G_slices_pdqsortCmpFunc_ringref5_Proc_h_C4_R :=
  if v_a95 > 0 then
   if 0 ≤ (wi .i64 (v_a95 - 1)) ∧ ((wi .i64 (v_a95 - 1))).toNat < v_z713.length then
    (v_z713[((wi .i64 (v_a95 - 1))).toNat]?).bind fun (v_y717 : S_ringref5_Proc) =>
    if 0 ≤ v_z702 ∧ (v_z702).toNat < v_z713.length then
     (v_z713[(v_z702).toNat]?).bind fun (v_y718 : S_ringref5_Proc) =>
     (v_cmp94 v_y717 v_y718).bind fun (v_r719 : (Int)) =>
     some (.x0 (!(decide (v_r719 < 0))) v_z713)
    else none
   else none
  else
   some (.x0 false v_z713)
theorem G_slices_pdqsortCmpFunc_ringref5_Proc_h_C4_ok {Fi : Ex → PS → Prop} (hF : KC 148 Fi) (ks : List Fr) (n : Nat) (v_a95 : Int) (v_b96 : Int) (v_z690 : Int) (v_cmp94 : (S_ringref5_Proc → S_ringref5_Proc → Option (Int))) (v_wasBalanced98 : Bool) (v_wasPartitioned99 : Bool) (v_z702 : Int) (v_z713 : (List S_ringref5_Proc)) (v_cmp94_g : FuncId) (v_cmp94_c : (List PV)) (v_cmp94_h : ∀ (x0 : S_ringref5_Proc) (x1 : S_ringref5_Proc) (r : Int), v_cmp94 x0 x1 = some r → Ret Try.prog v_cmp94_g ([eS_ringref5_Proc x0, eS_ringref5_Proc x1] ++ v_cmp94_c) ((eI .i64) r)) (o : G_slices_pdqsortCmpFunc_ringref5_Proc_h_C4_R) (h : G_slices_pdqsortCmpFunc_ringref5_Proc_h_C4 n v_a95 v_b96 v_z690 v_cmp94 v_wasBalanced98 v_wasPartitioned99 v_z702 v_z713 = some o) (q : RunE Try.prog 148 Fi ks (G_slices_pdqsortCmpFunc_ringref5_Proc_h_C4_ex o) (G_slices_pdqsortCmpFunc_ringref5_Proc_h_C4_st v_a95 v_b96 v_z690 v_cmp94 v_wasBalanced98 v_wasPartitioned99 v_z702 v_z713 v_cmp94_g v_cmp94_c o)) : RunE Try.prog 148 Fi (.s (cL (cL (cR (cR (cR (cR (cR (cR (cR (cB (cP (cB (cR (cR (bodyOf Try.f197))))))))))))))) :: ks) .normal (G_slices_pdqsortCmpFunc_ringref5_Proc_h_C4_hd v_a95 v_b96 v_z690 v_cmp94 v_wasBalanced98 v_wasPartitioned99 v_z702 v_z713 v_cmp94_g v_cmp94_c) := by
  unfold G_slices_pdqsortCmpFunc_ringref5_Proc_h_C4 at h
  by_cases h781 : v_a95 > 0
  · rw [if_pos h781] at h
    by_cases h782 : 0 ≤ (wi .i64 (v_a95 - 1)) ∧ ((wi .i64 (v_a95 - 1))).toNat < v_z713.length
    · rw [if_pos h782] at h
      obtain ⟨v_y717, h783, h⟩ := bind_some h
      by_cases h784 : 0 ≤ v_z702 ∧ (v_z702).toNat < v_z713.length
      · rw [if_pos h784] at h
        obtain ⟨v_y718, h785, h⟩ := bind_some h
        obtain ⟨v_r719, h786, h⟩ := bind_some h
        cases h
        exact pkk_sound TTok mix hF 1 (hs := [.t true, .c, .c, .c, .c, .c, .y (eS_ringref5_Proc v_y717), .c, .c, .c, .c, .y (eS_ringref5_Proc v_y718), .c, .r ((eI .i64) v_r719), .c, .c]) (ts := []) (s := [0, 1]) (l := [0, 1, 2, 3, 4, 10, 11, 12, 13, 97]) (by kernel_rfl) (by kernel_rfl) (.cons (dt h781) (.cons (idx_ob (f := eS_ringref5_Proc) h782) (.cons (get_ob (f := eS_ringref5_Proc) h783) (.cons (idx_ob (f := eS_ringref5_Proc) h784) (.cons (get_ob (f := eS_ringref5_Proc) h785) (.cons (v_cmp94_h v_y717 v_y718 _ h786) .nil)))))) q
      · rw [if_neg h784] at h; cases h
    · rw [if_neg h782] at h; cases h
  · rw [if_neg h781] at h
    cases h
    exact pkk_sound TTok mix hF 1 (hs := [.t false, .c, .c, .c, .c, .c, .c, .c, .c, .c, .c, .c, .c]) (ts := []) (s := [0, 1]) (l := [0, 1, 2, 3, 4, 10, 11, 12, 13, 97]) (by kernel_rfl) (by kernel_rfl) (.cons (df h781) .nil) q
inductive G_slices_pdqsortCmpFunc_ringref5_Proc_h_C5_R where
  | x0 (v_x758 : Bool) (v_w759 : (List S_ringref5_Proc))
def G_slices_pdqsortCmpFunc_ringref5_Proc_h_C5_ex : G_slices_pdqsortCmpFunc_ringref5_Proc_h_C5_R → Ex
  | .x0 _ _ => .normal
def G_slices_pdqsortCmpFunc_ringref5_Proc_h_C5_st (v_a95 : Int) (v_b96 : Int) (v_z690 : Int) (v_cmp94 : (S_ringref5_Proc → S_ringref5_Proc → Option (Int))) (v_wasBalanced98 : Bool) (v_wasPartitioned99 : Bool) (v_z702 : Int) (v_z704 : (List S_ringref5_Proc)) (v_cmp94_g : FuncId) (v_cmp94_c : (List PV)) : G_slices_pdqsortCmpFunc_ringref5_Proc_h_C5_R → PS
  | .x0 v_x758 v_w759 => ⟨[.srf 1, .d (.v (.int .i64 v_a95)), .d (.v (.int .i64 v_b96)), .d (.v (.int .i64 v_z690)), .d (.clo v_cmp94_g v_cmp94_c), dd, dd, dd, dd, dd, .d (.v (.bool v_wasBalanced98)), .d (.v (.bool v_wasPartitioned99)), .d (.v (.int .i64 (wi .i64 (v_b96 - v_a95)))), .d (.v (.int .i64 v_z702)), dd, dd, dd, dd, dd, dd, dd, dd, dd, dd, dd, dd, dd, dd, dd, dd, dd, dd, dd, dd, dd, dd, dd, dd, dd, dd, dd, dd, dd, dd, dd, dd, dd, dd, dd, dd, dd, dd, dd, dd, dd, dd, dd, dd, dd, dd, dd, dd, dd, dd, dd, dd, dd, dd, dd, dd, dd, dd, dd, dd, dd, dd, dd, dd, dd, dd, dd, dd, dd, dd, dd, dd, dd, dd, dd, dd, dd, dd, dd, dd, dd, dd, dd, .d (.v (.bool v_x758)), dd, dd, dd, dd, dd, dd, dd, dd, dd, dd, dd, dd, dd, dd, dd, dd, dd, dd, dd, dd, dd, dd, dd, dd, dd, dd, dd, dd, dd, dd, dd, dd, dd, dd, dd, dd, dd, dd, dd, dd, dd, dd, dd, dd, dd, dd, dd, dd, dd, dd], [.gh 0 (.srf 1), .row 180 5 (v_w759.map eS_ringref5_Proc)]⟩
def G_slices_pdqsortCmpFunc_ringref5_Proc_h_C5_hd (v_a95 : Int) (v_b96 : Int) (v_z690 : Int) (v_cmp94 : (S_ringref5_Proc → S_ringref5_Proc → Option (Int))) (v_wasBalanced98 : Bool) (v_wasPartitioned99 : Bool) (v_z702 : Int) (v_z704 : (List S_ringref5_Proc)) (v_cmp94_g : FuncId) (v_cmp94_c : (List PV))  : PS := ⟨[.srf 1, .d (.v (.int .i64 v_a95)), .d (.v (.int .i64 v_b96)), .d (.v (.int .i64 v_z690)), .d (.clo v_cmp94_g v_cmp94_c), dd, dd, dd, dd, dd, .d (.v (.bool v_wasBalanced98)), .d (.v (.bool v_wasPartitioned99)), .d (.v (.int .i64 (wi .i64 (v_b96 - v_a95)))), .d (.v (.int .i64 v_z702)), dd, dd, dd, dd, dd, dd, dd, dd, dd, dd, dd, dd, dd, dd, dd, dd, dd, dd, dd, dd, dd, dd, dd, dd, dd, dd, dd, dd, dd, dd, dd, dd, dd, dd, dd, dd, dd, dd, dd, dd, dd, dd, dd, dd, dd, dd, dd, dd, dd, dd, dd, dd, dd, dd, dd, dd, dd, dd, dd, dd, dd, dd, dd, dd, dd, dd, dd, dd, dd, dd, dd, dd, dd, dd, dd, dd, dd, dd, dd, dd, dd, dd, dd, dd, dd, dd, dd, dd, dd, dd, dd, dd, dd, dd, dd, dd, dd, dd, dd, dd, dd, dd, dd, dd, dd, dd, dd, dd, dd, dd, dd, dd, dd, dd, dd, dd, dd, dd, dd, dd, dd, dd, dd, dd, dd, dd, dd, dd, dd, dd, dd, dd, dd, dd], [.gh 0 (.srf 1), .row 180 5 (v_z704.map eS_ringref5_Proc)]⟩
def G_slices_pdqsortCmpFunc_ringref5_Proc_h_C5 (n : Nat) (v_a95 : Int) (v_b96 : Int) (v_z690 : Int) (v_cmp94 : (S_ringref5_Proc → S_ringref5_Proc → Option (Int))) (v_wasBalanced98 : Bool) (v_wasPartitioned99 : Bool) (v_z702 : Int) (v_z704 : (List S_ringref5_Proc)) : Option G_slices_pdqsortCmpFunc_ringref5_Proc_h_C5_R :=
  if v_a95 > 0 then
   if 0 ≤ (wi .i64 (v_a95 - 1)) ∧ ((wi .i64 (v_a95 - 1))).toNat < v_z704.length then
    (v_z704[((wi .i64 (v_a95 - 1))).toNat]?).bind fun (v_y755 : S_ringref5_Proc) =>
    if 0 ≤ v_z702 ∧ (v_z702).toNat < v_z704.length then
     (v_z704[(v_z702).toNat]?).bind fun (v_y756 : S_ringref5_Proc) =>
     (v_cmp94 v_y755 v_y756).bind fun (v_r757 : (Int)) =>
     some (.x0 (!(decide (v_r757 < 0))) v_z704)
    else none
   else none
  else
   some (.x0 false v_z704)
theorem G_slices_pdqsortCmpFunc_ringref5_Proc_h_C5_ok {Fi : Ex → PS → Prop} (hF : KC 148 Fi) (ks : List Fr) (n : Nat) (v_a95 : Int) (v_b96 : Int) (v_z690 : Int) (v_cmp94 : (S_ringref5_Proc → S_ringref5_Proc → Option (Int))) (v_wasBalanced98 : Bool) (v_wasPartitioned99 : Bool) (v_z702 : Int) (v_z704 : (List S_ringref5_Proc)) (v_cmp94_g : FuncId) (v_cmp94_c : (List PV)) (v_cmp94_h : ∀ (x0 : S_ringref5_Proc) (x1 : S_ringref5_Proc) (r : Int), v_cmp94 x0 x1 = some r → Ret Try.prog v_cmp94_g ([eS_ringref5_Proc x0, eS_ringref5_Proc x1] ++ v_cmp94_c) ((eI .i64) r)) (o : G_slices_pdqsortCmpFunc_ringref5_Proc_h_C5_R) (h : G_slices_pdqsortCmpFunc_ringref5_Proc_h_C5 n v_a95 v_b96 v_z690 v_cmp94 v_wasBalanced98 v_wasPartitioned99 v_z702 v_z704 = some o) (q : RunE Try.prog 148 Fi ks (G_slices_pdqsortCmpFunc_ringref5_Proc_h_C5_ex o) (G_slices_pdqsortCmpFunc_ringref5_Proc_h_C5_st v_a95 v_b96 v_z690 v_cmp94 v_wasBalanced98 v_wasPartitioned99 v_z702 v_z704 v_cmp94_g v_cmp94_c o)) : RunE Try.prog 148 Fi (.s (cL (cL (cR (cR (cR (cR (cR (cR (cR (cB (cP (cB (cR (cR (bodyOf Try.f197))))))))))))))) :: ks) .normal (G_slices_pdqsortCmpFunc_ringref5_Proc_h_C5_hd v_a95 v_b96 v_z690 v_cmp94 v_wasBalanced98 v_wasPartitioned99 v_z702 v_z704 v_cmp94_g v_cmp94_c) := by
  unfold G_slices_pdqsortCmpFunc_ringref5_Proc_h_C5 at h
  by_cases h806 : v_a95 > 0
  · rw [if_pos h806] at h
    by_cases h807 : 0 ≤ (wi .i64 (v_a95 - 1)) ∧ ((wi .i64 (v_a95 - 1))).toNat < v_z704.length
    · rw [if_pos h807] at h
      obtain ⟨v_y755, h808, h⟩ := bind_some h
      by_cases h809 : 0 ≤ v_z702 ∧ (v_z702).toNat < v_z704.length
      · rw [if_pos h809] at h
        obtain ⟨v_y756, h810, h⟩ := bind_some h
        obtain ⟨v_r757, h811, h⟩ := bind_some h
        cases h
        exact pkk_sound TTok mix hF 1 (hs := [.t true, .c, .c, .c, .c, .c, .y (eS_ringref5_Proc v_y755), .c, .c, .c, .c, .y (eS_ringref5_Proc v_y756), .c, .r ((eI .i64) v_r757), .c, .c]) (ts := []) (s := [0, 1]) (l := [0, 1, 2, 3, 4, 10, 11, 12, 13, 97]) (by kernel_rfl) (by kernel_rfl) (.cons (dt h806) (.cons (idx_ob (f := eS_ringref5_Proc) h807) (.cons (get_ob (f := eS_ringref5_Proc) h808) (.cons (idx_ob (f := eS_ringref5_Proc) h809) (.cons (get_ob (f := eS_ringref5_Proc) h810) (.cons (v_cmp94_h v_y755 v_y756 _ h811) .nil)))))) q
      · rw [if_neg h809] at h; cases h
    · rw [if_neg h807] at h; cases h
  · rw [if_neg h806] at h
    cases h
    exact pkk_sound TTok mix hF 1 (hs := [.t false, .c, .c, .c, .c, .c, .c, .c, .c, .c, .c, .c, .c]) (ts := []) (s := [0, 1]) (l := [0, 1, 2, 3, 4, 10, 11, 12, 13, 97]) (by kernel_rfl) (by kernel_rfl) (.cons (df h806) .nil) q
inductive G_slices_pdqsortCmpFunc_ringref5_Proc_h_C6_R where
  | x0 (v_x796 : Bool) (v_w797 : (List S_ringref5_Proc))
def G_slices_pdqsortCmpFunc_ringref5_Proc_h_C6_ex : G_slices_pdqsortCmpFunc_ringref5_Proc_h_C6_R → Ex
  | .x0 _ _ => .normal
def G_slices_pdqsortCmpFunc_ringref5_Proc_h_C6_st (v_a95 : Int) (v_b96 : Int) (v_z690 : Int) (v_cmp94 : (S_ringref5_Proc → S_ringref5_Proc → Option (Int))) (v_wasBalanced98 : Bool) (v_wasPartitioned99 : Bool) (v_z702 : Int) (v_z704 : (List S_ringref5_Proc)) (v_cmp94_g : FuncId) (v_cmp94_c : (List PV)) : G_slices_pdqsortCmpFunc_ringref5_Proc_h_C6_R → PS
  | .x0 v_x796 v_w797 => ⟨[.srf 1, .d (.v (.int .i64 v_a95)), .d (.v (.int .i64 v_b96)), .d (.v (.int .i64 v_z690)), .d (.clo v_cmp94_g v_cmp94_c), dd, dd, dd, dd, dd, .d (.v (.bool v_wasBalanced98)), .d (.v (.bool v_wasPartitioned99)), .d (.v (.int .i64 (wi .i64 (v_b96 - v_a95)))), .d (.v (.int .i64 v_z702)), dd, dd, dd, dd, dd, dd, dd, dd, dd, dd, dd, dd, dd, dd, dd, dd, dd, dd, dd, dd, dd, dd, dd, dd, dd, dd, dd, dd, dd, dd, dd, dd, dd, dd, dd, dd, dd, dd, dd, dd, dd, dd, dd, dd, dd, dd, dd, dd, dd, dd, dd, dd, dd, dd, dd, dd, dd, dd, dd, dd, dd, dd, dd, dd, dd, dd, dd, dd, dd, dd, dd, dd, dd, dd, dd, dd, dd, dd, dd, dd, dd, dd, dd, .d (.v (.bool v_x796)), dd, dd, dd, dd, dd, dd, dd, dd, dd, dd, dd, dd, dd, dd, dd, dd, dd, dd, dd, dd, dd, dd, dd, dd, dd, dd, dd, dd, dd, dd, dd, dd, dd, dd, dd, dd, dd, dd, dd, dd, dd, dd, dd, dd, dd, dd, dd, dd, dd, dd], [.gh 0 (.srf 1), .row 180 5 (v_w797.map eS_ringref5_Proc)]⟩
def G_slices_pdqsortCmpFunc_ringref5_Proc_h_C6_hd (v_a95 : Int) (v_b96 : Int) (v_z690 : Int) (v_cmp94 : (S_ringref5_Proc → S_ringref5_Proc → Option (Int))) (v_wasBalanced98 : Bool) (v_wasPartitioned99 : Bool) (v_z702 : Int) (v_z704 : (List S_ringref5_Proc)) (v_cmp94_g : FuncId) (v_cmp94_c : (List PV))  : PS := ⟨[.srf 1, .d (.v (.int .i64 v_a95)), .d (.v (.int .i64 v_b96)), .d (.v (.int .i64 v_z690)), .d (.clo v_cmp94_g v_cmp94_c), dd, dd, dd, dd, dd, .d (.v (.bool v_wasBalanced98)), .d (.v (.bool v_wasPartitioned99)), .d (.v (.int .i64 (wi .i64 (v_b96 - v_a95)))), .d (.v (.int .i64 v_z702)), dd, dd, dd, dd, dd, dd, dd, dd, dd, dd, dd, dd, dd, dd, dd, dd, dd, dd, dd, dd, dd, dd, dd, dd, dd, dd, dd, dd, dd, dd, dd, dd, dd, dd, dd, dd, dd, dd, dd, dd, dd, dd, dd, dd, dd, dd, dd, dd, dd, dd, dd, dd, dd, dd, dd, dd, dd, dd, dd, dd, dd, dd, dd, dd, dd, dd, dd, dd, dd, dd, dd, dd, dd, dd, dd, dd, dd, dd, dd, dd, dd, dd, dd, dd, dd, dd, dd, dd, dd, dd, dd, dd, dd, dd, dd, dd, dd, dd, dd, dd, dd, dd, dd, dd, dd, dd, dd, dd, dd, dd, dd, dd, dd, dd, dd, dd, dd, dd, dd, dd, dd, dd, dd, dd, dd, dd, dd, dd, dd, dd, dd, dd, dd, dd], [.gh 0 (.srf 1), .row 180 5 (v_z704.map eS_ringref5_Proc)]⟩
def G_slices_pdqsortCmpFunc_ringref5_Proc_h_C6 (n : Nat) (v_a95 : Int) (v_b96 : Int) (v_z690 : Int) (v_cmp94 : (S_ringref5_Proc → S_ringref5_Proc → Option (Int))) (v_wasBalanced98 : Bool) (v_wasPartitioned99 : Bool) (v_z702 : Int) (v_z704 : (List S_ringref5_Proc)) : Option G_slices_pdqsortCmpFunc_ringref5_Proc_h_C6_R :=
  if v_a95 > 0 then
   if 0 ≤ (wi .i64 (v_a95 - 1)) ∧ ((wi .i64 (v_a95 - 1))).toNat < v_z704.length then
    (v_z704[((wi .i64 (v_a95 - 1))).toNat]?).bind fun (v_y793 : S_ringref5_Proc) =>
    if 0 ≤ v_z702 ∧ (v_z702).toNat < v_z704.length then
     (v_z704[(v_z702).toNat]?).bind fun (v_y794 : S_ringref5_Proc) =>
     (v_cmp94 v_y793 v_y794).bind fun (v_r795 : (Int)) =>
     some (.x0 (!(decide (v_r795 < 0))) v_z704)
    else none
   else none
  else
   some (.x0 false v_z704)
theorem G_slices_pdqsortCmpFunc_ringref5_Proc_h_C6_ok {Fi : Ex → PS → Prop} (hF : KC 148 Fi) (ks : List Fr) (n : Nat) (v_a95 : Int) (v_b96 : Int) (v_z690 : Int) (v_cmp94 : (S_ringref5_Proc → S_ringref5_Proc → Option (Int))) (v_wasBalanced98 : Bool) (v_wasPartitioned99 : Bool) (v_z702 : Int) (v_z704 : (List S_ringref5_Proc)) (v_cmp94_g : FuncId) (v_cmp94_c : (List PV)) (v_cmp94_h : ∀ (x0 : S_ringref5_Proc) (x1 : S_ringref5_Proc) (r : Int), v_cmp94 x0 x1 = some r → Ret Try.prog v_cmp94_g ([eS_ringref5_Proc x0, eS_ringref5_Proc x1] ++ v_cmp94_c) ((eI .i64) r)) (o : G_slices_pdqsortCmpFunc_ringref5_Proc_h_C6_R) (h : G_slices_pdqsortCmpFunc_ringref5_Proc_h_C6 n v_a95 v_b96 v_z690 v_cmp94 v_wasBalanced98 v_wasPartitioned99 v_z702 v_z704 = some o) (q : RunE Try.prog 148 Fi ks (G_slices_pdqsortCmpFunc_ringref5_Proc_h_C6_ex o) (G_slices_pdqsortCmpFunc_ringref5_Proc_h_C6_st v_a95 v_b96 v_z690 v_cmp94 v_wasBalanced98 v_wasPartitioned99 v_z702 v_z704 v_cmp94_g v_cmp94_c o)) : RunE Try.prog 148 Fi (.s (cL (cL (cR (cR (cR (cR (cR (cR (cR (cB (cP (cB (cR (cR (bodyOf Try.f197))))))))))))))) :: ks) .normal (G_slices_pdqsortCmpFunc_ringref5_Proc_h_C6_hd v_a95 v_b96 v_z690 v_cmp94 v_wasBalanced98 v_wasPartitioned99 v_z702 v_z704 v_cmp94_g v_cmp94_c) := by
  unfold G_slices_pdqsortCmpFunc_ringref5_Proc_h_C6 at h
  by_cases h831 : v_a95 > 0
  · rw [if_pos h831] at h
    by_cases h832 : 0 ≤ (wi .i64 (v_a95 - 1)) ∧ ((wi .i64 (v_a95 - 1))).toNat < v_z704.length
    · rw [if_pos h832] at h
      obtain ⟨v_y793, h833, h⟩ := bind_some h
      by_cases h834 : 0 ≤ v_z702 ∧ (v_z702).toNat < v_z704.length
      · rw [if_pos h834] at h
        obtain ⟨v_y794, h835, h⟩ := bind_some h
        obtain ⟨v_r795, h836, h⟩ := bind_some h
        cases h
        exact pkk_sound TTok mix hF 1 (hs := [.t true, .c, .c, .c, .c, .c, .y (eS_ringref5_Proc v_y793), .c, .c, .c, .c, .y (eS_ringref5_Proc v_y794), .c, .r ((eI .i64) v_r795), .c, .c]) (ts := []) (s := [0, 1]) (l := [0, 1, 2, 3, 4, 10, 11, 12, 13, 97]) (by kernel_rfl) (by kernel_rfl) (.cons (dt h831) (.cons (idx_ob (f := eS_ringref5_Proc) h832) (.cons (get_ob (f := eS_ringref5_Proc) h833) (.cons (idx_ob (f := eS_ringref5_Proc) h834) (.cons (get_ob (f := eS_ringref5_Proc) h835) (.cons (v_cmp94_h v_y793 v_y794 _ h836) .nil)))))) q
      · rw [if_neg h834] at h; cases h
    · rw [if_neg h832] at h; cases h
  · rw [if_neg h831] at h
    cases h
    exact pkk_sound TTok mix hF 1 (hs := [.t false, .c, .c, .c, .c, .c, .c, .c, .c, .c, .c, .c, .c]) (ts := []) (s := [0, 1]) (l := [0, 1, 2, 3, 4, 10, 11, 12, 13, 97]) (by kernel_rfl) (by kernel_rfl) (.cons (df h831) .nil) q
inductive G_slices_pdqsortCmpFunc_ringref5_Proc_h_C7_R where
  | x0 (v_w679 : (List S_ringref5_Proc))
  | x1 (v_a729 : Int) (v_b730 : Int) (v_limit731 : Int) (v_wasBalanced732 : Bool) (v_wasPartitioned733 : Bool) (v_w734 : (List S_ringref5_Proc))
def G_slices_pdqsortCmpFunc_ringref5_Proc_h_C7_ex : G_slices_pdqsortCmpFunc_ringref5_Proc_h_C7_R → Ex
  | .x0 _ => .ret
  | .x1 _ _ _ _ _ _ => .normal
def G_slices_pdqsortCmpFunc_ringref5_Proc_h_C7_st (v_a95 : Int) (v_b96 : Int) (v_limit97 : Int) (v_cmp94 : (S_ringref5_Proc → S_ringref5_Proc → Option (Int))) (v_wasBalanced98 : Bool) (v_wasPartitioned99 : Bool) (v_w100 : (List S_ringref5_Proc)) (v_rec632 : ((List S_ringref5_Proc) → Int → Int → Int → Option ((List S_ringref5_Proc)))) (v_cmp94_g : FuncId) (v_cmp94_c : (List PV)) : G_slices_pdqsortCmpFunc_ringref5_Proc_h_C7_R → PS
  | .x0 v_w679 => ⟨[dd, dd, dd, dd, dd, dd, dd, dd, dd, dd, dd, dd, dd, dd, dd, dd, dd, dd, dd, dd, dd, dd, dd, dd, dd, dd, dd, dd, dd, dd, dd, dd, dd, dd, dd, dd, dd, dd, dd, dd, dd, dd, dd, dd, dd, dd, dd, dd, dd, dd, dd, dd, dd, dd, dd, dd, dd, dd, dd, dd, dd, dd, dd, dd, dd, dd, dd, dd, dd, dd, dd, dd, dd, dd, dd, dd, dd, dd, dd, dd, dd, dd, dd, dd, dd, dd, dd, dd, dd, dd, dd, dd, dd, dd, dd, dd, dd, dd, dd, dd, dd, dd, dd, dd, dd, dd, dd, dd, dd, dd, dd, dd, dd, dd, dd, dd, dd, dd, dd, dd, dd, dd, dd, dd, dd, dd, dd, dd, dd, dd, dd, dd, dd, dd, dd, dd, dd, dd, dd, dd, dd, dd, dd, dd, dd, dd, dd, dd], [.gh 0 (.srf 1), .row 180 5 (v_w679.map eS_ringref5_Proc)]⟩
  | .x1 v_a729 v_b730 v_limit731 v_wasBalanced732 v_wasPartitioned733 v_w734 => ⟨[.srf 1, .d (.v (.int .i64 v_a729)), .d (.v (.int .i64 v_b730)), .d (.v (.int .i64 v_limit731)), .d (.clo v_cmp94_g v_cmp94_c), dd, dd, dd, dd, dd, .d (.v (.bool v_wasBalanced732)), .d (.v (.bool v_wasPartitioned733)), dd, dd, dd, dd, dd, dd, dd, dd, dd, dd, dd, dd, dd, dd, dd, dd, dd, dd, dd, dd, dd, dd, dd, dd, dd, dd, dd, dd, dd, dd, dd, dd, dd, dd, dd, dd, dd, dd, dd, dd, dd, dd, dd, dd, dd, dd, dd, dd, dd, dd, dd, dd, dd, dd, dd, dd, dd, dd, dd, dd, dd, dd, dd, dd, dd, dd, dd, dd, dd, dd, dd, dd, dd, dd, dd, dd, dd, dd, dd, dd, dd, dd, dd, dd, dd, dd, dd, dd, dd, dd, dd, dd, dd, dd, dd, dd, dd, dd, dd, dd, dd, dd, dd, dd, dd, dd, dd, dd, dd, dd, dd, dd, dd, dd, dd, dd, dd, dd, dd, dd, dd, dd, dd, dd, dd, dd, dd, dd, dd, dd, dd, dd, dd, dd, dd, dd], [.gh 0 (.srf 1), .row 180 5 (v_w734.map eS_ringref5_Proc)]⟩
def G_slices_pdqsortCmpFunc_ringref5_Proc_h_C7_hd (v_a95 : Int) (v_b96 : Int) (v_limit97 : Int) (v_cmp94 : (S_ringref5_Proc → S_ringref5_Proc → Option (Int))) (v_wasBalanced98 : Bool) (v_wasPartitioned99 : Bool) (v_w100 : (List S_ringref5_Proc)) (v_rec632 : ((List S_ringref5_Proc) → Int → Int → Int → Option ((List S_ringref5_Proc)))) (v_cmp94_g : FuncId) (v_cmp94_c : (List PV))  : PS := ⟨[.srf 1, .d (.v (.int .i64 v_a95)), .d (.v (.int .i64 v_b96)), .d (.v (.int .i64 v_limit97)), .d (.clo v_cmp94_g v_cmp94_c), dd, dd, dd, dd, dd, .d (.v (.bool v_wasBalanced98)), .d (.v (.bool v_wasPartitioned99)), dd, dd, dd, dd, dd, dd, dd, dd, dd, dd, dd, dd, dd, dd, dd, dd, dd, dd, dd, dd, dd, dd, dd, dd, dd, dd, dd, dd, dd, dd, dd, dd, dd, dd, dd, dd, dd, dd, dd, dd, dd, dd, dd, dd, dd, dd, dd, dd, dd, dd, dd, dd, dd, dd, dd, dd, dd, dd, dd, dd, dd, dd, dd, dd, dd, dd, dd, dd, dd, dd, dd, dd, dd, dd, dd, dd, dd, dd, dd, dd, dd, dd, dd, dd, dd, dd, dd, dd, dd, dd, dd, dd, dd, dd, dd, dd, dd, dd, dd, dd, dd, dd, dd, dd, dd, dd, dd, dd, dd, dd, dd, dd, dd, dd, dd, dd, dd, dd, dd, dd, dd, dd, dd, dd, dd, dd, dd, dd, dd, dd, dd, dd, dd, dd, dd, dd], [.gh 0 (.srf 1), .row 180 5 (v_w100.map eS_ringref5_Proc)]⟩
def G_slices_pdqsortCmpFunc_ringref5_Proc_h_C7 (n : Nat) (v_a95 : Int) (v_b96 : Int) (v_limit97 : Int) (v_cmp94 : (S_ringref5_Proc → S_ringref5_Proc → Option (Int))) (v_wasBalanced98 : Bool) (v_wasPartitioned99 : Bool) (v_w100 : (List S_ringref5_Proc)) (v_rec632 : ((List S_ringref5_Proc) → Int → Int → Int → Option ((List S_ringref5_Proc)))) : Option G_slices_pdqsortCmpFunc_ringref5_Proc_h_C7_R :=
  if (wi .i64 (v_b96 - v_a95)) ≤ 12 then
   (G_slices_insertionSortCmpFunc_ringref5_Proc_h n v_w100 v_a95 v_b96 v_cmp94).bind fun (v_r678 : ((List S_ringref5_Proc))) =>
   some (.x0 v_r678)
  else
   if v_limit97 = 0 then
    (G_slices_heapSortCmpFunc_ringref5_Proc_h n v_w100 v_a95 v_b96 v_cmp94).bind fun (v_r681 : ((List S_ringref5_Proc))) =>
    some (.x0 v_r681)
   else
    (G_slices_pdqsortCmpFunc_ringref5_Proc_h_C1 n v_a95 v_b96 v_limit97 v_cmp94 v_wasBalanced98 v_wasPartitioned99 v_w100).bind fun v_o689 => match v_o689 with
    | .x0 v_z690 v_z691 =>
      (G_slices_choosePivotCmpFunc_ringref5_Proc n v_z691 v_a95 v_b96 v_cmp94).bind fun (v_r692 : (Int × Int)) =>
      (G_slices_pdqsortCmpFunc_ringref5_Proc_h_C2 n v_a95 v_b96 v_z690 v_cmp94 v_wasBalanced98 v_wasPartitioned99 v_r692 v_z691).bind fun v_o701 => match v_o701 with
      | .x0 v_z702 v_z703 v_z704 =>
        if v_wasBalanced98 = true then
         if v_wasPartitioned99 = true then
          (G_slices_pdqsortCmpFunc_ringref5_Proc_h_C3 n v_a95 v_b96 v_z690 v_cmp94 v_wasBalanced98 v_wasPartitioned99 v_z702 v_z703 v_z704).bind fun v_o710 => match v_o710 with
          | .x0 v_z711 =>
            some (.x0 v_z711)
          | .x1 v_z713 =>
            (G_slices_pdqsortCmpFunc_ringref5_Proc_h_C4 n v_a95 v_b96 v_z690 v_cmp94 v_wasBalanced98 v_wasPartitioned99 v_z702 v_z713).bind fun v_o724 => match v_o724 with
            | .x0 v_z725 v_z726 =>
              if v_z725 = true then
               (G_slices_partitionEqualCmpFunc_ringref5_Proc_h n v_z726 v_a95 v_b96 v_z702 v_cmp94).bind fun (v_r728 : (Int × (List S_ringref5_Proc))) =>
               some (.x1 v_r728.1 v_b96 v_z690 v_wasBalanced98 v_wasPartitioned99 v_r728.2)
              else
               (G_slices_partitionCmpFunc_ringref5_Proc_h n v_z726 v_a95 v_b96 v_z702 v_cmp94).bind fun (v_r735 : (Int × Bool × (List S_ringref5_Proc))) =>
               if (wi .i64 (v_r735.1 - v_a95)) < (wi .i64 (v_b96 - v_r735.1)) then
                (v_rec632 v_r735.2.2 v_a95 v_r735.1 v_z690).bind fun (v_r738 : ((List S_ringref5_Proc))) =>
                some (.x1 (wi .i64 (v_r735.1 + 1)) v_b96 v_z690 (decide ((wi .i64 (v_r735.1 - v_a95)) ≥ (quoI .i64 (wi .i64 (v_b96 - v_a95)) 8))) v_r735.2.1 v_r738)
               else
                (v_rec632 v_r735.2.2 (wi .i64 (v_r735.1 + 1)) v_b96 v_z690).bind fun (v_r745 : ((List S_ringref5_Proc))) =>
                some (.x1 v_a95 v_r735.1 v_z690 (decide ((wi .i64 (v_b96 - v_r735.1)) ≥ (quoI .i64 (wi .i64 (v_b96 - v_a95)) 8))) v_r735.2.1 v_r745)
         else
          (G_slices_pdqsortCmpFunc_ringref5_Proc_h_C5 n v_a95 v_b96 v_z690 v_cmp94 v_wasBalanced98 v_wasPartitioned99 v_z702 v_z704).bind fun v_o762 => match v_o762 with
          | .x0 v_z763 v_z764 =>
            if v_z763 = true then
             (G_slices_partitionEqualCmpFunc_ringref5_Proc_h n v_z764 v_a95 v_b96 v_z702 v_cmp94).bind fun (v_r766 : (Int × (List S_ringref5_Proc))) =>
             some (.x1 v_r766.1 v_b96 v_z690 v_wasBalanced98 v_wasPartitioned99 v_r766.2)
            else
             (G_slices_partitionCmpFunc_ringref5_Proc_h n v_z764 v_a95 v_b96 v_z702 v_cmp94).bind fun (v_r773 : (Int × Bool × (List S_ringref5_Proc))) =>
             if (wi .i64 (v_r773.1 - v_a95)) < (wi .i64 (v_b96 - v_r773.1)) then
              (v_rec632 v_r773.2.2 v_a95 v_r773.1 v_z690).bind fun (v_r776 : ((List S_ringref5_Proc))) =>
              some (.x1 (wi .i64 (v_r773.1 + 1)) v_b96 v_z690 (decide ((wi .i64 (v_r773.1 - v_a95)) ≥ (quoI .i64 (wi .i64 (v_b96 - v_a95)) 8))) v_r773.2.1 v_r776)
             else
              (v_rec632 v_r773.2.2 (wi .i64 (v_r773.1 + 1)) v_b96 v_z690).bind fun (v_r783 : ((List S_ringref5_Proc))) =>
              some (.x1 v_a95 v_r773.1 v_z690 (decide ((wi .i64 (v_b96 - v_r773.1)) ≥ (quoI .i64 (wi .i64 (v_b96 - v_a95)) 8))) v_r773.2.1 v_r783)
        else
         (G_slices_pdqsortCmpFunc_ringref5_Proc_h_C6 n v_a95 v_b96 v_z690 v_cmp94 v_wasBalanced98 v_wasPartitioned99 v_z702 v_z704).bind fun v_o800 => match v_o800 with
         | .x0 v_z801 v_z802 =>
           if v_z801 = true then
            (G_slices_partitionEqualCmpFunc_ringref5_Proc_h n v_z802 v_a95 v_b96 v_z702 v_cmp94).bind fun (v_r804 : (Int × (List S_ringref5_Proc))) =>
            some (.x1 v_r804.1 v_b96 v_z690 v_wasBalanced98 v_wasPartitioned99 v_r804.2)
           else
            (G_slices_partitionCmpFunc_ringref5_Proc_h n v_z802 v_a95 v_b96 v_z702 v_cmp94).bind fun (v_r811 : (Int × Bool × (List S_ringref5_Proc))) =>
            if (wi .i64 (v_r811.1 - v_a95)) < (wi .i64 (v_b96 - v_r811.1)) then
             (v_rec632 v_r811.2.2 v_a95 v_r811.1 v_z690).bind fun (v_r814 : ((List S_ringref5_Proc))) =>
             some (.x1 (wi .i64 (v_r811.1 + 1)) v_b96 v_z690 (decide ((wi .i64 (v_r811.1 - v_a95)) ≥ (quoI .i64 (wi .i64 (v_b96 - v_a95)) 8))) v_r811.2.1 v_r814)
            else
             (v_rec632 v_r811.2.2 (wi .i64 (v_r811.1 + 1)) v_b96 v_z690).bind fun (v_r821 : ((List S_ringref5_Proc))) =>
             some (.x1 v_a95 v_r811.1 v_z690 (decide ((wi .i64 (v_b96 - v_r811.1)) ≥ (quoI .i64 (wi .i64 (v_b96 - v_a95)) 8))) v_r811.2.1 v_r821)
theorem G_slices_pdqsortCmpFunc_ringref5_Proc_h_C7_ok {Fi : Ex → PS → Prop} (hF : KC 148 Fi) (ks : List Fr) (n : Nat) (v_a95 : Int) (v_b96 : Int) (v_limit97 : Int) (v_cmp94 : (S_ringref5_Proc → S_ringref5_Proc → Option (Int))) (v_wasBalanced98 : Bool) (v_wasPartitioned99 : Bool) (v_w100 : (List S_ringref5_Proc)) (v_rec632 : ((List S_ringref5_Proc) → Int → Int → Int → Option ((List S_ringref5_Proc)))) (v_cmp94_g : FuncId) (v_cmp94_c : (List PV)) (v_cmp94_h : ∀ (x0 : S_ringref5_Proc) (x1 : S_ringref5_Proc) (r : Int), v_cmp94 x0 x1 = some r → Ret Try.prog v_cmp94_g ([eS_ringref5_Proc x0, eS_ringref5_Proc x1] ++ v_cmp94_c) ((eI .i64) r)) (v_rec632_h : ∀ (x0 : (List S_ringref5_Proc)) (x1 : Int) (x2 : Int) (x3 : Int) (r : (List S_ringref5_Proc)), v_rec632 x0 x1 x2 x3 = some r → RetH Try.prog 197 [.srf 0, .d ((eI .i64) x1), .d ((eI .i64) x2), .d ((eI .i64) x3), .d ((.clo v_cmp94_g v_cmp94_c))] [.row 180 5 (x0.map eS_ringref5_Proc)] (.tup []) [.row 180 5 (r.map eS_ringref5_Proc)]) (o : G_slices_pdqsortCmpFunc_ringref5_Proc_h_C7_R) (h : G_slices_pdqsortCmpFunc_ringref5_Proc_h_C7 n v_a95 v_b96 v_limit97 v_cmp94 v_wasBalanced98 v_wasPartitioned99 v_w100 v_rec632 = some o) (q : RunE Try.prog 148 Fi ks (G_slices_pdqsortCmpFunc_ringref5_Proc_h_C7_ex o) (G_slices_pdqsortCmpFunc_ringref5_Proc_h_C7_st v_a95 v_b96 v_limit97 v_cmp94 v_wasBalanced98 v_wasPartitioned99 v_w100 v_rec632 v_cmp94_g v_cmp94_c o)) : RunE Try.prog 148 Fi (.s (cP (cB (cR (cR (bodyOf Try.f197))))) :: ks) .normal (G_slices_pdqsortCmpFunc_ringref5_Proc_h_C7_hd v_a95 v_b96 v_limit97 v_cmp94 v_wasBalanced98 v_wasPartitioned99 v_w100 v_rec632 v_cmp94_g v_cmp94_c) := by
  unfold G_slices_pdqsortCmpFunc_ringref5_Proc_h_C7 at h
  by_cases h749 : (wi .i64 (v_b96 - v_a95)) ≤ 12
  · rw [if_pos h749] at h
    obtain ⟨v_r678, h750, h⟩ := bind_some h
    cases h
    exact pkk_sound TTok mix hF 12 (hs := [.t true, .h [1] [] [.row 180 5 (v_r678.map eS_ringref5_Proc)] (.tup [])]) (ts := []) (s := [0, 1]) (l := []) (by kernel_rfl) (by kernel_rfl) (.cons (dt h749) (.cons (G_slices_insertionSortCmpFunc_ringref5_Proc_h_ok n v_w100 v_a95 v_b96 v_cmp94 v_cmp94_g v_cmp94_c v_cmp94_h _ h750) .nil)) q
  · rw [if_neg h749] at h
    by_cases h753 : v_limit97 = 0
    · rw [if_pos h753] at h
      obtain ⟨v_r681, h754, h⟩ := bind_some h
      cases h
      exact pkk_sound TTok mix hF 17 (hs := [.t false, .t true, .h [1] [] [.row 180 5 (v_r681.map eS_ringref5_Proc)] (.tup [])]) (ts := []) (s := [0, 1]) (l := []) (by kernel_rfl) (by kernel_rfl) (.cons (df h749) (.cons (bt h753) (.cons (G_slices_heapSortCmpFunc_ringref5_Proc_h_ok n v_w100 v_a95 v_b96 v_cmp94 v_cmp94_g v_cmp94_c v_cmp94_h _ h754) .nil))) q
    · rw [if_neg h753] at h
      obtain ⟨v_o689, h759, h⟩ := bind_some h
      refine pkk_sound TTok mix hF 16 (hs := [.t false, .t false]) (ts := []) (s := [0, 1]) (l := [0, 1, 2, 3, 4, 10, 11, 12, 39]) (by kernel_rfl) (by kernel_rfl) (.cons (df h749) (.cons (bf h753) .nil)) (G_slices_pdqsortCmpFunc_ringref5_Proc_h_C1_ok hF (.s (cR (cR (cR (cR (cB (cP (cB (cR (cR (bodyOf Try.f197)))))))))) :: .b 1 :: ks) n v_a95 v_b96 v_limit97 v_cmp94 v_wasBalanced98 v_wasPartitioned99 v_w100 v_cmp94_g v_cmp94_c v_cmp94_h _ h759 ?_)
      cases v_o689 with
      | x0 v_z690 v_z691 =>
        try dsimp only at h
        obtain ⟨v_r692, h760, h⟩ := bind_some h
        obtain ⟨v_o701, h765, h⟩ := bind_some h
        refine pkk_sound TTok mix hF 5 (hs := [.c, .r (.tup [(eI .i64) v_r692.1, (eI .i64) v_r692.2])]) (ts := []) (s := [0, 1]) (l := [0, 1, 2, 3, 4, 10, 11, 12, 13, 14, 56]) (by kernel_rfl) (by kernel_rfl) (.cons (G_slices_choosePivotCmpFunc_ringref5_Proc_ok n v_z691 v_a95 v_b96 v_cmp94 v_cmp94_g v_cmp94_c v_cmp94_h _ h760) .nil) (G_slices_pdqsortCmpFunc_ringref5_Proc_h_C2_ok hF (.s (cR (cR (cR (cR (cR (cR (cB (cP (cB (cR (cR (bodyOf Try.f197)))))))))))) :: .b 1 :: ks) n v_a95 v_b96 v_z690 v_cmp94 v_wasBalanced98 v_wasPartitioned99 v_r692 v_z691 v_cmp94_g v_cmp94_c v_cmp94_h _ h765 ?_)
        cases v_o701 with
        | x0 v_z702 v_z703 v_z704 =>
          try dsimp only at h
          by_cases h766 : v_wasBalanced98 = true
          · rw [if_pos h766] at h
            by_cases h767 : v_wasPartitioned99 = true
            · rw [if_pos h767] at h
              obtain ⟨v_o710, h774, h⟩ := bind_some h
              refine pkk_sound TTok mix hF 3 (hs := [.t true, .t true, .c]) (ts := []) (s := [0, 1]) (l := [0, 1, 2, 3, 4, 10, 11, 12, 13, 75]) (by kernel_rfl) (by kernel_rfl) (.cons h766 (.cons h767 .nil)) (G_slices_pdqsortCmpFunc_ringref5_Proc_h_C3_ok hF (.s (cR (cR (cR (cR (cR (cR (cR (cB (cP (cB (cR (cR (bodyOf Try.f197))))))))))))) :: .b 1 :: ks) n v_a95 v_b96 v_z690 v_cmp94 v_wasBalanced98 v_wasPartitioned99 v_z702 v_z703 v_z704 v_cmp94_g v_cmp94_c v_cmp94_h _ h774 ?_)
              cases v_o710 with
              | x0 v_z711 =>
                try dsimp only at h
                cases h
                exact pkk_sound TTok mix hF 2 (hs := []) (ts := []) (s := [0, 1]) (l := []) (by kernel_rfl) (by kernel_rfl) .nil q
              | x1 v_z713 =>
                try dsimp only at h
                obtain ⟨v_o724, h787, h⟩ := bind_some h
                refine pkk_sound TTok mix hF 2 (hs := []) (ts := []) (s := [0, 1]) (l := [0, 1, 2, 3, 4, 10, 11, 12, 13]) (by kernel_rfl) (by kernel_rfl) .nil (G_slices_pdqsortCmpFunc_ringref5_Proc_h_C4_ok hF (.s (cR (cL (cR (cR (cR (cR (cR (cR (cR (cB (cP (cB (cR (cR (bodyOf Try.f197))))))))))))))) :: .s (cR (cR (cR (cR (cR (cR (cR (cR (cB (cP (cB (cR (cR (bodyOf Try.f197)))))))))))))) :: .b 1 :: ks) n v_a95 v_b96 v_z690 v_cmp94 v_wasBalanced98 v_wasPartitioned99 v_z702 v_z713 v_cmp94_g v_cmp94_c v_cmp94_h _ h787 ?_)
                cases v_o724 with
                | x0 v_z725 v_z726 =>
                  try dsimp only at h
                  by_cases h790 : v_z725 = true
                  · rw [if_pos h790] at h
                    obtain ⟨v_r728, h791, h⟩ := bind_some h
                    cases h
                    exact pkk_sound TTok mix hF 8 (hs := [.t true, .h [1] [] [.row 180 5 (v_r728.2.map eS_ringref5_Proc)] (.d (.v (.int .i64 v_r728.1)))]) (ts := []) (s := [0, 1]) (l := [0, 1, 2, 3, 4, 10, 11]) (by kernel_rfl) (by kernel_rfl) (.cons h790 (.cons (G_slices_partitionEqualCmpFunc_ringref5_Proc_h_ok n v_z726 v_a95 v_b96 v_z702 v_cmp94 v_cmp94_g v_cmp94_c v_cmp94_h _ h791) .nil)) q
                  · rw [if_neg h790] at h
                    obtain ⟨v_r735, h792, h⟩ := bind_some h
                    by_cases h797 : (wi .i64 (v_r735.1 - v_a95)) < (wi .i64 (v_b96 - v_r735.1))
                    · rw [if_pos h797] at h
                      obtain ⟨v_r738, h798, h⟩ := bind_some h
                      cases h
                      exact pkk_sound TTok mix hF 19 (hs := [.t false, .h [1] [] [.row 180 5 (v_r735.2.2.map eS_ringref5_Proc)] (.tup [.d (.v (.int .i64 v_r735.1)), .d (.v (.bool v_r735.2.1))]), .t true, .h [1] [] [.row 180 5 (v_r738.map eS_ringref5_Proc)] (.tup [])]) (ts := []) (s := [0, 1]) (l := [0, 1, 2, 3, 4, 10, 11]) (by kernel_rfl) (by kernel_rfl) (.cons (vf h790) (.cons (G_slices_partitionCmpFunc_ringref5_Proc_h_ok n v_z726 v_a95 v_b96 v_z702 v_cmp94 v_cmp94_g v_cmp94_c v_cmp94_h _ h792) (.cons (show (8 : Int) ≠ 0 by decide) (.cons (dt h797) (.cons (v_rec632_h v_r735.2.2 v_a95 v_r735.1 v_z690 _ h798) .nil))))) q
                    · rw [if_neg h797] at h
                      obtain ⟨v_r745, h799, h⟩ := bind_some h
                      cases h
                      exact pkk_sound TTok mix hF 19 (hs := [.t false, .h [1] [] [.row 180 5 (v_r735.2.2.map eS_ringref5_Proc)] (.tup [.d (.v (.int .i64 v_r735.1)), .d (.v (.bool v_r735.2.1))]), .t false, .h [1] [] [.row 180 5 (v_r745.map eS_ringref5_Proc)] (.tup [])]) (ts := []) (s := [0, 1]) (l := [0, 1, 2, 3, 4, 10, 11]) (by kernel_rfl) (by kernel_rfl) (.cons (vf h790) (.cons (G_slices_partitionCmpFunc_ringref5_Proc_h_ok n v_z726 v_a95 v_b96 v_z702 v_cmp94 v_cmp94_g v_cmp94_c v_cmp94_h _ h792) (.cons (show (8 : Int) ≠ 0 by decide) (.cons (df h797) (.cons (v_rec632_h v_r735.2.2 (wi .i64 (v_r735.1 + 1)) v_b96 v_z690 _ h799) .nil))))) q
            · rw [if_neg h767] at h
              obtain ⟨v_o762, h812, h⟩ := bind_some h
              refine pkk_sound TTok mix hF 7 (hs := [.t true, .t false, .c, .c]) (ts := []) (s := [0, 1]) (l := [0, 1, 2, 3, 4, 10, 11, 12, 13]) (by kernel_rfl) (by kernel_rfl) (.cons h766 (.cons (vf h767) .nil)) (G_slices_pdqsortCmpFunc_ringref5_Proc_h_C5_ok hF (.s (cR (cL (cR (cR (cR (cR (cR (cR (cR (cB (cP (cB (cR (cR (bodyOf Try.f197))))))))))))))) :: .s (cR (cR (cR (cR (cR (cR (cR (cR (cB (cP (cB (cR (cR (bodyOf Try.f197)))))))))))))) :: .b 1 :: ks) n v_a95 v_b96 v_z690 v_cmp94 v_wasBalanced98 v_wasPartitioned99 v_z702 v_z704 v_cmp94_g v_cmp94_c v_cmp94_h _ h812 ?_)
              cases v_o762 with
              | x0 v_z763 v_z764 =>
                try dsimp only at h
                by_cases h815 : v_z763 = true
                · rw [if_pos h815] at h
                  obtain ⟨v_r766, h816, h⟩ := bind_some h
                  cases h
                  exact pkk_sound TTok mix hF 8 (hs := [.t true, .h [1] [] [.row 180 5 (v_r766.2.map eS_ringref5_Proc)] (.d (.v (.int .i64 v_r766.1)))]) (ts := []) (s := [0, 1]) (l := [0, 1, 2, 3, 4, 10, 11]) (by kernel_rfl) (by kernel_rfl) (.cons h815 (.cons (G_slices_partitionEqualCmpFunc_ringref5_Proc_h_ok n v_z764 v_a95 v_b96 v_z702 v_cmp94 v_cmp94_g v_cmp94_c v_cmp94_h _ h816) .nil)) q
                · rw [if_neg h815] at h
                  obtain ⟨v_r773, h817, h⟩ := bind_some h
                  by_cases h822 : (wi .i64 (v_r773.1 - v_a95)) < (wi .i64 (v_b96 - v_r773.1))
                  · rw [if_pos h822] at h
                    obtain ⟨v_r776, h823, h⟩ := bind_some h
                    cases h
                    exact pkk_sound TTok mix hF 19 (hs := [.t false, .h [1] [] [.row 180 5 (v_r773.2.2.map eS_ringref5_Proc)] (.tup [.d (.v (.int .i64 v_r773.1)), .d (.v (.bool v_r773.2.1))]), .t true, .h [1] [] [.row 180 5 (v_r776.map eS_ringref5_Proc)] (.tup [])]) (ts := []) (s := [0, 1]) (l := [0, 1, 2, 3, 4, 10, 11]) (by kernel_rfl) (by kernel_rfl) (.cons (vf h815) (.cons (G_slices_partitionCmpFunc_ringref5_Proc_h_ok n v_z764 v_a95 v_b96 v_z702 v_cmp94 v_cmp94_g v_cmp94_c v_cmp94_h _ h817) (.cons (show (8 : Int) ≠ 0 by decide) (.cons (dt h822) (.cons (v_rec632_h v_r773.2.2 v_a95 v_r773.1 v_z690 _ h823) .nil))))) q
                  · rw [if_neg h822] at h
                    obtain ⟨v_r783, h824, h⟩ := bind_some h
                    cases h
                    exact pkk_sound TTok mix hF 19 (hs := [.t false, .h [1] [] [.row 180 5 (v_r773.2.2.map eS_ringref5_Proc)] (.tup [.d (.v (.int .i64 v_r773.1)), .d (.v (.bool v_r773.2.1))]), .t false, .h [1] [] [.row 180 5 (v_r783.map eS_ringref5_Proc)] (.tup [])]) (ts := []) (s := [0, 1]) (l := [0, 1, 2, 3, 4, 10, 11]) (by kernel_rfl) (by kernel_rfl) (.cons (vf h815) (.cons (G_slices_partitionCmpFunc_ringref5_Proc_h_ok n v_z764 v_a95 v_b96 v_z702 v_cmp94 v_cmp94_g v_cmp94_c v_cmp94_h _ h817) (.cons (show (8 : Int) ≠ 0 by decide) (.cons (df h822) (.cons (v_rec632_h v_r773.2.2 (wi .i64 (v_r773.1 + 1)) v_b96 v_z690 _ h824) .nil))))) q
          · rw [if_neg h766] at h
            obtain ⟨v_o800, h837, h⟩ := bind_some h
            refine pkk_sound TTok mix hF 7 (hs := [.t false, .c, .c, .c]) (ts := []) (s := [0, 1]) (l := [0, 1, 2, 3, 4, 10, 11, 12, 13]) (by kernel_rfl) (by kernel_rfl) (.cons (vf h766) .nil) (G_slices_pdqsortCmpFunc_ringref5_Proc_h_C6_ok hF (.s (cR (cL (cR (cR (cR (cR (cR (cR (cR (cB (cP (cB (cR (cR (bodyOf Try.f197))))))))))))))) :: .s (cR (cR (cR (cR (cR (cR (cR (cR (cB (cP (cB (cR (cR (bodyOf Try.f197)))))))))))))) :: .b 1 :: ks) n v_a95 v_b96 v_z690 v_cmp94 v_wasBalanced98 v_wasPartitioned99 v_z702 v_z704 v_cmp94_g v_cmp94_c v_cmp94_h _ h837 ?_)
            cases v_o800 with
            | x0 v_z801 v_z802 =>
              try dsimp only at h
              by_cases h840 : v_z801 = true
              · rw [if_pos h840] at h
                obtain ⟨v_r804, h841, h⟩ := bind_some h
                cases h
                exact pkk_sound TTok mix hF 8 (hs := [.t true, .h [1] [] [.row 180 5 (v_r804.2.map eS_ringref5_Proc)] (.d (.v (.int .i64 v_r804.1)))]) (ts := []) (s := [0, 1]) (l := [0, 1, 2, 3, 4, 10, 11]) (by kernel_rfl) (by kernel_rfl) (.cons h840 (.cons (G_slices_partitionEqualCmpFunc_ringref5_Proc_h_ok n v_z802 v_a95 v_b96 v_z702 v_cmp94 v_cmp94_g v_cmp94_c v_cmp94_h _ h841) .nil)) q
              · rw [if_neg h840] at h
                obtain ⟨v_r811, h842, h⟩ := bind_some h
                by_cases h847 : (wi .i64 (v_r811.1 - v_a95)) < (wi .i64 (v_b96 - v_r811.1))
                · rw [if_pos h847] at h
                  obtain ⟨v_r814, h848, h⟩ := bind_some h
                  cases h
                  exact pkk_sound TTok mix hF 19 (hs := [.t false, .h [1] [] [.row 180 5 (v_r811.2.2.map eS_ringref5_Proc)] (.tup [.d (.v (.int .i64 v_r811.1)), .d (.v (.bool v_r811.2.1))]), .t true, .h [1] [] [.row 180 5 (v_r814.map eS_ringref5_Proc)] (.tup [])]) (ts := []) (s := [0, 1]) (l := [0, 1, 2, 3, 4, 10, 11]) (by kernel_rfl) (by kernel_rfl) (.cons (vf h840) (.cons (G_slices_partitionCmpFunc_ringref5_Proc_h_ok n v_z802 v_a95 v_b96 v_z702 v_cmp94 v_cmp94_g v_cmp94_c v_cmp94_h _ h842) (.cons (show (8 : Int) ≠ 0 by decide) (.cons (dt h847) (.cons (v_rec632_h v_r811.2.2 v_a95 v_r811.1 v_z690 _ h848) .nil))))) q
                · rw [if_neg h847] at h
                  obtain ⟨v_r821, h849, h⟩ := bind_some h
                  cases h
                  exact pkk_sound TTok mix hF 19 (hs := [.t false, .h [1] [] [.row 180 5 (v_r811.2.2.map eS_ringref5_Proc)] (.tup [.d (.v (.int .i64 v_r811.1)), .d (.v (.bool v_r811.2.1))]), .t false, .h [1] [] [.row 180 5 (v_r821.map eS_ringref5_Proc)] (.tup [])]) (ts := []) (s := [0, 1]) (l := [0, 1, 2, 3, 4, 10, 11]) (by kernel_rfl) (by kernel_rfl) (.cons (vf h840) (.cons (G_slices_partitionCmpFunc_ringref5_Proc_h_ok n v_z802 v_a95 v_b96 v_z702 v_cmp94 v_cmp94_g v_cmp94_c v_cmp94_h _ h842) (.cons (show (8 : Int) ≠ 0 by decide) (.cons (df h847) (.cons (v_rec632_h v_r811.2.2 (wi .i64 (v_r811.1 + 1)) v_b96 v_z690 _ h849) .nil))))) q
inductive G_slices_pdqsortCmpFunc_ringref5_Proc_h_L8_R where
  | x0 (v_w830 : (List S_ringref5_Proc))
def G_slices_pdqsortCmpFunc_ringref5_Proc_h_L8_ex : G_slices_pdqsortCmpFunc_ringref5_Proc_h_L8_R → Ex
  | .x0 _ => .ret
def G_slices_pdqsortCmpFunc_ringref5_Proc_h_L8_st (v_cmp94 : (S_ringref5_Proc → S_ringref5_Proc → Option (Int))) (v_rec632 : ((List S_ringref5_Proc) → Int → Int → Int → Option ((List S_ringref5_Proc)))) (v_cmp94_g : FuncId) (v_cmp94_c : (List PV)) : G_slices_pdqsortCmpFunc_ringref5_Proc_h_L8_R → PS
  | .x0 v_w830 => ⟨[dd, dd, dd, dd, dd, dd, dd, dd, dd, dd, dd, dd, dd, dd, dd, dd, dd, dd, dd, dd, dd, dd, dd, dd, dd, dd, dd, dd, dd, dd, dd, dd, dd, dd, dd, dd, dd, dd, dd, dd, dd, dd, dd, dd, dd, dd, dd, dd, dd, dd, dd, dd, dd, dd, dd, dd, dd, dd, dd, dd, dd, dd, dd, dd, dd, dd, dd, dd, dd, dd, dd, dd, dd, dd, dd, dd, dd, dd, dd, dd, dd, dd, dd, dd, dd, dd, dd, dd, dd, dd, dd, dd, dd, dd, dd, dd, dd, dd, dd, dd, dd, dd, dd, dd, dd, dd, dd, dd, dd, dd, dd, dd, dd, dd, dd, dd, dd, dd, dd, dd, dd, dd, dd, dd, dd, dd, dd, dd, dd, dd, dd, dd, dd, dd, dd, dd, dd, dd, dd, dd, dd, dd, dd, dd, dd, dd, dd, dd], [.gh 0 (.srf 1), .row 180 5 (v_w830.map eS_ringref5_Proc)]⟩
def G_slices_pdqsortCmpFunc_ringref5_Proc_h_L8_hd (v_cmp94 : (S_ringref5_Proc → S_ringref5_Proc → Option (Int))) (v_rec632 : ((List S_ringref5_Proc) → Int → Int → Int → Option ((List S_ringref5_Proc)))) (v_cmp94_g : FuncId) (v_cmp94_c : (List PV)) (v_a95 : Int) (v_b96 : Int) (v_limit97 : Int) (v_wasBalanced98 : Bool) (v_wasPartitioned99 : Bool) (v_w100 : (List S_ringref5_Proc)) : PS := ⟨[.srf 1, .d (.v (.int .i64 v_a95)), .d (.v (.int .i64 v_b96)), .d (.v (.int .i64 v_limit97)), .d (.clo v_cmp94_g v_cmp94_c), dd, dd, dd, dd, dd, .d (.v (.bool v_wasBalanced98)), .d (.v (.bool v_wasPartitioned99)), dd, dd, dd, dd, dd, dd, dd, dd, dd, dd, dd, dd, dd, dd, dd, dd, dd, dd, dd, dd, dd, dd, dd, dd, dd, dd, dd, dd, dd, dd, dd, dd, dd, dd, dd, dd, dd, dd, dd, dd, dd, dd, dd, dd, dd, dd, dd, dd, dd, dd, dd, dd, dd, dd, dd, dd, dd, dd, dd, dd, dd, dd, dd, dd, dd, dd, dd, dd, dd, dd, dd, dd, dd, dd, dd, dd, dd, dd, dd, dd, dd, dd, dd, dd, dd, dd, dd, dd, dd, dd, dd, dd, dd, dd, dd, dd, dd, dd, dd, dd, dd, dd, dd, dd, dd, dd, dd, dd, dd, dd, dd, dd, dd, dd, dd, dd, dd, dd, dd, dd, dd, dd, dd, dd, dd, dd, dd, dd, dd, dd, dd, dd, dd, dd, dd, dd], [.gh 0 (.srf 1), .row 180 5 (v_w100.map eS_ringref5_Proc)]⟩
def G_slices_pdqsortCmpFunc_ringref5_Proc_h_L8 (n : Nat) (v_cmp94 : (S_ringref5_Proc → S_ringref5_Proc → Option (Int))) (v_rec632 : ((List S_ringref5_Proc) → Int → Int → Int → Option ((List S_ringref5_Proc)))) : Nat → Int → Int → Int → Bool → Bool → (List S_ringref5_Proc) → Option G_slices_pdqsortCmpFunc_ringref5_Proc_h_L8_R
  | 0, _, _, _, _, _, _ => none
  | k + 1, v_a95, v_b96, v_limit97, v_wasBalanced98, v_wasPartitioned99, v_w100 =>
    (G_slices_pdqsortCmpFunc_ringref5_Proc_h_C7 n v_a95 v_b96 v_limit97 v_cmp94 v_wasBalanced98 v_wasPartitioned99 v_w100 v_rec632).bind fun v_o828 => match v_o828 with
    | .x0 v_z829 =>
      some (.x0 v_z829)
    | .x1 v_z831 v_z832 v_z833 v_z834 v_z835 v_z836 =>
      G_slices_pdqsortCmpFunc_ringref5_Proc_h_L8 n v_cmp94 v_rec632 k v_z831 v_z832 v_z833 v_z834 v_z835 v_z836
theorem G_slices_pdqsortCmpFunc_ringref5_Proc_h_L8_ok {Fi : Ex → PS → Prop} (hF : KC 148 Fi) (ks : List Fr) (n : Nat) (v_cmp94 : (S_ringref5_Proc → S_ringref5_Proc → Option (Int))) (v_rec632 : ((List S_ringref5_Proc) → Int → Int → Int → Option ((List S_ringref5_Proc)))) (v_cmp94_g : FuncId) (v_cmp94_c : (List PV)) (v_cmp94_h : ∀ (x0 : S_ringref5_Proc) (x1 : S_ringref5_Proc) (r : Int), v_cmp94 x0 x1 = some r → Ret Try.prog v_cmp94_g ([eS_ringref5_Proc x0, eS_ringref5_Proc x1] ++ v_cmp94_c) ((eI .i64) r)) (v_rec632_h : ∀ (x0 : (List S_ringref5_Proc)) (x1 : Int) (x2 : Int) (x3 : Int) (r : (List S_ringref5_Proc)), v_rec632 x0 x1 x2 x3 = some r → RetH Try.prog 197 [.srf 0, .d ((eI .i64) x1), .d ((eI .i64) x2), .d ((eI .i64) x3), .d ((.clo v_cmp94_g v_cmp94_c))] [.row 180 5 (x0.map eS_ringref5_Proc)] (.tup []) [.row 180 5 (r.map eS_ringref5_Proc)]) : ∀ (k : Nat) (v_a95 : Int) (v_b96 : Int) (v_limit97 : Int) (v_wasBalanced98 : Bool) (v_wasPartitioned99 : Bool) (v_w100 : (List S_ringref5_Proc)) (o : G_slices_pdqsortCmpFunc_ringref5_Proc_h_L8_R), G_slices_pdqsortCmpFunc_ringref5_Proc_h_L8 n v_cmp94 v_rec632 k v_a95 v_b96 v_limit97 v_wasBalanced98 v_wasPartitioned99 v_w100 = some o → RunE Try.prog 148 Fi ks (G_slices_pdqsortCmpFunc_ringref5_Proc_h_L8_ex o) (G_slices_pdqsortCmpFunc_ringref5_Proc_h_L8_st v_cmp94 v_rec632 v_cmp94_g v_cmp94_c o) → RunE Try.prog 148 Fi (.l k (cP (cB (cR (cR (bodyOf Try.f197))))) :: ks) .normal (G_slices_pdqsortCmpFunc_ringref5_Proc_h_L8_hd v_cmp94 v_rec632 v_cmp94_g v_cmp94_c v_a95 v_b96 v_limit97 v_wasBalanced98 v_wasPartitioned99 v_w100)
  | 0, v_a95, v_b96, v_limit97, v_wasBalanced98, v_wasPartitioned99, v_w100, o, h, q => by rw [G_slices_pdqsortCmpFunc_ringref5_Proc_h_L8] at h; cases h
  | k + 1, v_a95, v_b96, v_limit97, v_wasBalanced98, v_wasPartitioned99, v_w100, o, h, q => by
    rw [G_slices_pdqsortCmpFunc_ringref5_Proc_h_L8] at h
    obtain ⟨v_o828, h850, h⟩ := bind_some h
    refine pkk_sound TTok mix hF 1 (hs := []) (ts := []) (s := [0, 1]) (l := [0, 1, 2, 3, 4, 10, 11]) (by kernel_rfl) (by kernel_rfl) .nil (G_slices_pdqsortCmpFunc_ringref5_Proc_h_C7_ok hF (.l k (cP (cB (cR (cR (bodyOf Try.f197))))) :: ks) n v_a95 v_b96 v_limit97 v_cmp94 v_wasBalanced98 v_wasPartitioned99 v_w100 v_rec632 v_cmp94_g v_cmp94_c v_cmp94_h v_rec632_h _ h850 ?_)
    cases v_o828 with
    | x0 v_z829 =>
      try dsimp only at h
      cases h
      exact pkk_sound TTok mix hF 1 (hs := []) (ts := []) (s := [0, 1]) (l := []) (by kernel_rfl) (by kernel_rfl) .nil q
    | x1 v_z831 v_z832 v_z833 v_z834 v_z835 v_z836 =>
      try dsimp only at h
      exact pkk_sound TTok mix hF 0 (hs := []) (ts := []) (s := [0, 1]) (l := [0, 1, 2, 3, 4, 10, 11]) (by kernel_rfl) (by kernel_rfl) .nil (G_slices_pdqsortCmpFunc_ringref5_Proc_h_L8_ok hF ks n v_cmp94 v_rec632 v_cmp94_g v_cmp94_c v_cmp94_h v_rec632_h k v_z831 v_z832 v_z833 v_z834 v_z835 v_z836 _ h q)
/- slices.pdqsortCmpFunc[ringhall/ringref5.Proc] -/
def G_slices_pdqsortCmpFunc_ringref5_Proc_h : Nat → (List S_ringref5_Proc) → Int → Int → Int → (S_ringref5_Proc → S_ringref5_Proc → Option (Int)) → Option ((List S_ringref5_Proc))
  | 0, _, _, _, _, _ => none
  | n + 1, v_data90, v_a91, v_b92, v_limit93, v_cmp94 =>
  (G_slices_pdqsortCmpFunc_ringref5_Proc_h_L8 n v_cmp94 (fun x0 x1 x2 x3 => G_slices_pdqsortCmpFunc_ringref5_Proc_h n x0 x1 x2 x3 v_cmp94) n v_a91 v_b92 v_limit93 true true v_data90).bind fun v_o837 => match v_o837 with
  | .x0 v_z838 =>
    some v_z838
theorem G_slices_pdqsortCmpFunc_ringref5_Proc_h_ok : ∀ (n : Nat) (v_data90 : (List S_ringref5_Proc)) (v_a91 : Int) (v_b92 : Int) (v_limit93 : Int) (v_cmp94 : (S_ringref5_Proc → S_ringref5_Proc → Option (Int))) (v_cmp94_g : FuncId) (v_cmp94_c : List PV) (v_cmp94_h : ∀ (x0 : S_ringref5_Proc) (x1 : S_ringref5_Proc) (r : Int), v_cmp94 x0 x1 = some r → Ret Try.prog v_cmp94_g ([eS_ringref5_Proc x0, eS_ringref5_Proc x1] ++ v_cmp94_c) ((eI .i64) r)) (r : (List S_ringref5_Proc)) (h : G_slices_pdqsortCmpFunc_ringref5_Proc_h n v_data90 v_a91 v_b92 v_limit93 v_cmp94 = some r), RetH Try.prog 197 [.srf 0, .d ((eI .i64) v_a91), .d ((eI .i64) v_b92), .d ((eI .i64) v_limit93), .d ((.clo v_cmp94_g v_cmp94_c))] [.row 180 5 (v_data90.map eS_ringref5_Proc)] (.tup []) [.row 180 5 (r.map eS_ringref5_Proc)]
  | 0, v_data90, v_a91, v_b92, v_limit93, v_cmp94, v_cmp94_g, v_cmp94_c, v_cmp94_h, r, h => by rw [G_slices_pdqsortCmpFunc_ringref5_Proc_h] at h; cases h
  | n + 1, v_data90, v_a91, v_b92, v_limit93, v_cmp94, v_cmp94_g, v_cmp94_c, v_cmp94_h, r, h => by
    refine retH_run (n := 148) (fn := Try.f197) (c := bodyOf Try.f197) (by kernel_rfl) (by kernel_rfl) (by kernel_rfl) (by kernel_rfl) ?_
    have hF : KC 148 (FinH Try.prog Try.f197 [.row 180 5 (v_data90.map eS_ringref5_Proc)] (.tup []) [.row 180 5 (r.map eS_ringref5_Proc)]) := FinH.kc' (by kernel_rfl)
    rw [G_slices_pdqsortCmpFunc_ringref5_Proc_h] at h
    obtain ⟨v_o837, h851, h⟩ := bind_some h
    refine pkk_sound TTok mix hF 6 (hs := [.n n]) (ts := []) (s := [1, 0]) (l := [0, 1, 2, 3, 4, 10, 11]) (by kernel_rfl) (by kernel_rfl) .nil (G_slices_pdqsortCmpFunc_ringref5_Proc_h_L8_ok hF (.b 0 :: []) n v_cmp94 (fun x0 x1 x2 x3 => G_slices_pdqsortCmpFunc_ringref5_Proc_h n x0 x1 x2 x3 v_cmp94) v_cmp94_g v_cmp94_c v_cmp94_h (fun x0 x1 x2 x3 r h => G_slices_pdqsortCmpFunc_ringref5_Proc_h_ok n x0 x1 x2 x3 v_cmp94 v_cmp94_g v_cmp94_c v_cmp94_h r h) n v_a91 v_b92 v_limit93 true true v_data90 _ h851 ?_)
    cases v_o837 with
    | x0 v_z838 =>
      try dsimp only at h
      obtain rfl := Option.some.inj h
      exact pendH_sound TTok mix 1 (hs := []) [1] (by kernel_rfl) (by kernel_rfl) (by kernel_rfl) .nil
/- slices.SortFunc[ringhall/ringref5.Procs,ringhall/ringref5.Proc] -/
def G_slices_SortFunc_ringref5_Procs_ringref5_Proc_h (n : Nat) (v_x76 : (List S_ringref5_Proc)) (v_cmp77 : (S_ringref5_Proc → S_ringref5_Proc → Option (Int))) : Option ((List S_ringref5_Proc)) :=
  (G_math_bits_Len n (wi .u64 (v_x76.length : Int))).bind fun (v_r89 : (Int)) =>
  (G_slices_pdqsortCmpFunc_ringref5_Proc_h n v_x76 0 (v_x76.length : Int) v_r89 v_cmp77).bind fun (v_r839 : ((List S_ringref5_Proc))) =>
  some v_r839
theorem G_slices_SortFunc_ringref5_Procs_ringref5_Proc_h_ok (n : Nat) (v_x76 : (List S_ringref5_Proc)) (v_cmp77 : (S_ringref5_Proc → S_ringref5_Proc → Option (Int))) (v_cmp77_g : FuncId) (v_cmp77_c : List PV) (v_cmp77_h : ∀ (x0 : S_ringref5_Proc) (x1 : S_ringref5_Proc) (r : Int), v_cmp77 x0 x1 = some r → Ret Try.prog v_cmp77_g ([eS_ringref5_Proc x0, eS_ringref5_Proc x1] ++ v_cmp77_c) ((eI .i64) r)) (r : (List S_ringref5_Proc)) (h : G_slices_SortFunc_ringref5_Procs_ringref5_Proc_h n v_x76 v_cmp77 = some r) : RetH Try.prog 149 [.srf 0, .d ((.clo v_cmp77_g v_cmp77_c))] [.row 180 5 (v_x76.map eS_ringref5_Proc)] (.tup []) [.row 180 5 (r.map eS_ringref5_Proc)] := by
  refine retH_run (n := 14) (fn := Try.f149) (c := bodyOf Try.f149) (by kernel_rfl) (by kernel_rfl) (by kernel_rfl) (by kernel_rfl) ?_
  have hF : KC 14 (FinH Try.prog Try.f149 [.row 180 5 (v_x76.map eS_ringref5_Proc)] (.tup []) [.row 180 5 (r.map eS_ringref5_Proc)]) := FinH.kc' (by kernel_rfl)
  unfold G_slices_SortFunc_ringref5_Procs_ringref5_Proc_h at h
  obtain ⟨v_r89, h111, h⟩ := bind_some h
  obtain ⟨v_r839, h852, h⟩ := bind_some h
  obtain rfl := Option.some.inj h
  exact pendH_sound TTok mix 3 (hs := [.u (.d (.v (.int .i64 (v_x76.length : Int)))), .r ((eI .i64) v_r89), .h [0] [] [.row 180 5 (v_r839.map eS_ringref5_Proc)] (.tup [])]) [0] (by kernel_rfl) (by kernel_rfl) (by kernel_rfl) (.cons (len_ob (f := eS_ringref5_Proc) (l := v_x76)) (.cons (G_math_bits_Len_ok n (wi .u64 (v_x76.length : Int)) _ h111) (.cons (G_slices_pdqsortCmpFunc_ringref5_Proc_h_ok n v_x76 0 (v_x76.length : Int) v_r89 v_cmp77 v_cmp77_g v_cmp77_c v_cmp77_h _ h852) .nil)))
inductive G_ringref5_Procs_Forked_h_L1_R where
  | x0 (v_x857 : Int) (v_w858 : (List S_ringref5_Proc))
  | x1 (v_w859 : (List S_ringref5_Proc))
def G_ringref5_Procs_Forked_h_L1_ex : G_ringref5_Procs_Forked_h_L1_R → Ex
  | .x0 _ _ => .ret
  | .x1 _ => .exit 0
def G_ringref5_Procs_Forked_h_L1_st (v_p59 : Int) : G_ringref5_Procs_Forked_h_L1_R → PS
  | .x0 v_x857 v_w858 => ⟨[dd, dd, dd, dd, .srf 2, .d (.v (.int .i64 v_x857)), dd, dd, dd, dd, dd, dd, dd, dd, dd, dd, dd, dd, dd, dd, dd, dd, dd, dd, dd, dd, dd, dd, dd, dd, dd, dd, dd, dd, dd], [.gh 0 (.srf 1), .none, .row 180 5 (v_w858.map eS_ringref5_Proc)]⟩
  | .x1 v_w859 => ⟨[.srf 1, dd, dd, dd, dd, dd, dd, dd, dd, dd, dd, dd, dd, dd, dd, dd, dd, dd, dd, dd, dd, dd, dd, dd, dd, dd, dd, dd, dd, dd, dd, dd, dd, dd, dd], [.gh 0 (.srf 1), .row 180 5 (v_w859.map eS_ringref5_Proc)]⟩
def G_ringref5_Procs_Forked_h_L1_hd (v_p59 : Int) (v_n60 : Int) (v_w61 : (List S_ringref5_Proc)) : PS := ⟨[.srf 1, .d (.v (.int .i64 v_p59)), dd, dd, dd, dd, .d (.v (.int .i64 v_n60)), dd, dd, dd, dd, dd, dd, dd, dd, dd, dd, dd, dd, dd, dd, dd, dd, dd, dd, dd, dd, dd, dd, dd, dd, dd, dd, dd, dd], [.gh 0 (.srf 1), .row 180 5 (v_w61.map eS_ringref5_Proc)]⟩
def G_ringref5_Procs_Forked_h_L1 (n : Nat) (v_p59 : Int) : Nat → Int → (List S_ringref5_Proc) → Option G_ringref5_Procs_Forked_h_L1_R
  | 0, _, _ => none
  | k + 1, v_n60, v_w61 =>
    if v_n60 ≤ 16 then
     (G_ringref5_Procs_Find n v_w61 v_n60).bind fun (v_r846 : (Int)) =>
     if v_r846 < 0 then
      (G_slices_Clone_ringref5_Procs_ringref5_Proc n v_w61).bind fun (v_r852 : ((List S_ringref5_Proc))) =>
      (G_ringref5_Procs_Find n v_w61 v_p59).bind fun (v_r853 : (Int)) =>
      (getI v_w61 v_r853).bind fun (v_y854 : S_ringref5_Proc) =>
      (app 40 v_r852 ([(S_ringref5_Proc.mk v_n60 v_p59 v_y854.fGroup 0 false)])).bind fun (v_a855 : (List S_ringref5_Proc)) =>
      (G_slices_SortFunc_ringref5_Procs_ringref5_Proc_h n v_a855 (fun (y0 : S_ringref5_Proc) (y1 : S_ringref5_Proc) => G_ringref5_Procs_Forked_1 n y0 y1)).bind fun (v_r856 : ((List S_ringref5_Proc))) =>
      some (.x0 v_n60 v_r856)
     else
      G_ringref5_Procs_Forked_h_L1 n v_p59 k (wi .i64 (v_n60 + 1)) v_w61
    else
     some (.x1 v_w61)
theorem G_ringref5_Procs_Forked_h_L1_ok {Fi : Ex → PS → Prop} (hF : KC 35 Fi) (ks : List Fr) (n : Nat) (v_p59 : Int)  : ∀ (k : Nat) (v_n60 : Int) (v_w61 : (List S_ringref5_Proc)) (o : G_ringref5_Procs_Forked_h_L1_R), G_ringref5_Procs_Forked_h_L1 n v_p59 k v_n60 v_w61 = some o → RunE Try.prog 35 Fi ks (G_ringref5_Procs_Forked_h_L1_ex o) (G_ringref5_Procs_Forked_h_L1_st v_p59 o) → RunE Try.prog 35 Fi (.l k (cP (cB (cR (cL (cR (bodyOf Try.f104)))))) :: ks) .normal (G_ringref5_Procs_Forked_h_L1_hd v_p59 v_n60 v_w61)
  | 0, v_n60, v_w61, o, h, q => by rw [G_ringref5_Procs_Forked_h_L1] at h; cases h
  | k + 1, v_n60, v_w61, o, h, q => by
    rw [G_ringref5_Procs_Forked_h_L1] at h
    by_cases h65 : v_n60 ≤ 16
    · rw [if_pos h65] at h
      obtain ⟨v_r846, h860, h⟩ := bind_some h
      by_cases h867 : v_r846 < 0
      · rw [if_pos h867] at h
        obtain ⟨v_r852, h868, h⟩ := bind_some h
        obtain ⟨v_r853, h869, h⟩ := bind_some h
        obtain ⟨v_y854, h870, h⟩ := bind_some h
        obtain ⟨v_a855, h871, h⟩ := bind_some h
        obtain ⟨v_r856, h872, h⟩ := bind_some h
        cases h
        exact pkk_sound TTok mix hF 22 (hs := [.t true, .c, .r ((eI .i64) v_r846), .t true, .dl 1, .fz 1, .h [] [] [.row 180 5 (v_r852.map eS_ringref5_Proc)] (.srf 0), .r ((eI .i64) v_r853), .y (eS_ringref5_Proc v_y854), .c, .bd, .w (v_a855.map eS_ringref5_Proc), .h [59] [] [.row 180 5 (v_r856.map eS_ringref5_Proc)] (.tup [])]) (ts := []) (s := [0, 1, 59]) (l := [4, 5]) (by kernel_rfl) (by kernel_rfl) (.cons (dt h65) (.cons (G_ringref5_Procs_Find_ok n v_w61 v_n60 _ h860) (.cons (dt h867) (.cons (G_slices_Clone_ringref5_Procs_ringref5_Proc_ok n v_w61 _ h868) (.cons (G_ringref5_Procs_Find_ok n v_w61 v_p59 _ h869) (.cons (getI_ob (f := eS_ringref5_Proc) h870) (.cons (app_ob (f := eS_ringref5_Proc) (s := 5) h871 (fun _ => rfl)).1 (.cons (app_ob (f := eS_ringref5_Proc) (s := 5) h871 (fun _ => rfl)).2.1 (.cons (app_ob (f := eS_ringref5_Proc) (s := 5) h871 (fun _ => rfl)).2.2.1 (.cons (app_ob (f := eS_ringref5_Proc) (s := 5) h871 (fun _ => rfl)).2.2.2 (.cons (G_slices_SortFunc_ringref5_Procs_ringref5_Proc_h_ok n v_a855 (fun (y0 : S_ringref5_Proc) (y1 : S_ringref5_Proc) => G_ringref5_Procs_Forked_1 n y0 y1) 150 [] (fun y0 y1 r h => G_ringref5_Procs_Forked_1_ok n y0 y1 r h) _ h872) .nil))))))))))) q
      · rw [if_neg h867] at h
        exact pkk_sound TTok mix hF 14 (hs := [.t true, .c, .r ((eI .i64) v_r846), .t false]) (ts := []) (s := [0, 1]) (l := [0, 1, 6]) (by kernel_rfl) (by kernel_rfl) (.cons (dt h65) (.cons (G_ringref5_Procs_Find_ok n v_w61 v_n60 _ h860) (.cons (df h867) .nil))) (G_ringref5_Procs_Forked_h_L1_ok hF ks n v_p59 k (wi .i64 (v_n60 + 1)) v_w61 _ h q)
    · rw [if_neg h65] at h
      cases h
      exact pkk_sound TTok mix hF 8 (hs := [.t false]) (ts := []) (s := [0, 1]) (l := [0]) (by kernel_rfl) (by kernel_rfl) (.cons (df h65) .nil) q
/- (ringhall/ringref5.Procs).Forked -/
def G_ringref5_Procs_Forked_h (n : Nat) (v_l58 : (List S_ringref5_Proc)) (v_p59 : Int) : Option ((List S_ringref5_Proc) × Int) :=
  (G_ringref5_Procs_Forked_h_L1 n v_p59 n 1 v_l58).bind fun v_o860 => match v_o860 with
  | .x0 v_z861 v_z862 =>
    some (v_z862, v_z861)
  | .x1 v_z863 =>
    some (v_z863, 0)
theorem G_ringref5_Procs_Forked_h_ok (n : Nat) (v_l58 : (List S_ringref5_Proc)) (v_p59 : Int) (r : (List S_ringref5_Proc) × Int) (h : G_ringref5_Procs_Forked_h n v_l58 v_p59 = some r) : RetH Try.prog 104 [.srf 0, .d ((eI .i64) v_p59)] [.row 180 5 (v_l58.map eS_ringref5_Proc)] (.tup [.srf 1, .d ((eI .i64) r.2)]) [.none, .row 180 5 (r.1.map eS_ringref5_Proc)] := by
  refine retH_run (n := 35) (fn := Try.f104) (c := bodyOf Try.f104) (by kernel_rfl) (by kernel_rfl) (by kernel_rfl) (by kernel_rfl) ?_
  have hF : KC 35 (FinH Try.prog Try.f104 [.row 180 5 (v_l58.map eS_ringref5_Proc)] (.tup [.srf 1, .d ((eI .i64) r.2)]) [.none, .row 180 5 (r.1.map eS_ringref5_Proc)]) := FinH.kc' (by kernel_rfl)
  unfold G_ringref5_Procs_Forked_h at h
  obtain ⟨v_o860, h873, h⟩ := bind_some h
  refine pkk_sound TTok mix hF 7 (hs := [.n n]) (ts := []) (s := [1, 0]) (l := [0, 1, 6]) (by kernel_rfl) (by kernel_rfl) .nil (G_ringref5_Procs_Forked_h_L1_ok hF (.b 0 :: .s (cR (cR (bodyOf Try.f104))) :: []) n v_p59 n 1 v_l58 _ h873 ?_)
  cases v_o860 with
  | x0 v_z861 v_z862 =>
    try dsimp only at h
    obtain rfl := Option.some.inj h
    exact pendH_sound TTok mix 2 (hs := []) [1, 2] (by kernel_rfl) (by kernel_rfl) (by kernel_rfl) .nil
  | x1 v_z863 =>
    try dsimp only at h
    obtain rfl := Option.some.inj h
    exact pendH_sound TTok mix 5 (hs := [.dl 4, .mv 1]) [1, 11] (by kernel_rfl) (by kernel_rfl) (by kernel_rfl) .nil
inductive G_proc_Table_Exit_h_C2_R where
  | x0 (v_b913 : S_proc_Table)
  | x1 
def G_proc_Table_Exit_h_C2_ex : G_proc_Table_Exit_h_C2_R → Ex
  | .x0 _ => .normal
  | .x1  => .normal
def G_proc_Table_Exit_h_C2_st (v_p880 : Int) (v_status881 : Int) (v_x899 : Int) (v_b900 : S_proc_Table) : G_proc_Table_Exit_h_C2_R → PS
  | .x0 v_b913 => ⟨[.ref 1 0, .d (.v (.int .i64 v_p880)), .d (.v (.int .i64 v_status881)), dd, dd, dd, dd, dd, dd, dd, dd, dd, dd, dd, dd, dd, dd, dd, .d (.v (.int .i64 v_x899)), dd, dd, dd, dd, dd, dd, dd, dd, dd, dd, dd, dd, dd, dd, dd, dd, dd, dd, dd, dd, dd, dd, dd, dd, dd, dd, dd, dd, dd, dd, dd, dd, dd, dd, dd, dd, dd, dd, dd, dd, dd, dd, dd, dd, dd, dd, dd, dd, dd], [.gh 0 (.ref 1 0), .box ((cS_proc_Table v_b913).map FV.d)]⟩
  | .x1  => ⟨[.ref 1 0, .d (.v (.int .i64 v_p880)), .d (.v (.int .i64 v_status881)), dd, dd, dd, dd, dd, dd, dd, dd, dd, dd, dd, dd, dd, dd, dd, .d (.v (.int .i64 v_x899)), dd, dd, dd, dd, dd, dd, dd, dd, dd, dd, dd, dd, dd, dd, dd, dd, dd, dd, dd, dd, dd, dd, dd, dd, dd, dd, dd, dd, dd, dd, dd, dd, dd, dd, dd, dd, dd, dd, dd, dd, dd, dd, dd, dd, dd, dd, dd, dd, dd], [.gh 0 (.ref 1 0), .box ((cS_proc_Table v_b900).map FV.d)]⟩
def G_proc_Table_Exit_h_C2_hd (v_p880 : Int) (v_status881 : Int) (v_x899 : Int) (v_b900 : S_proc_Table)  : PS := ⟨[.ref 1 0, .d (.v (.int .i64 v_p880)), .d (.v (.int .i64 v_status881)), dd, dd, dd, dd, dd, dd, dd, dd, dd, dd, dd, dd, dd, dd, dd, .d (.v (.int .i64 v_x899)), dd, dd, dd, dd, dd, dd, dd, dd, dd, dd, dd, dd, dd, dd, dd, dd, dd, dd, dd, dd, dd, dd, dd, dd, dd, dd, dd, dd, dd, dd, dd, dd, dd, dd, dd, dd, dd, dd, dd, dd, dd, dd, dd, dd, dd, dd, dd, dd, dd], [.gh 0 (.ref 1 0), .box ((cS_proc_Table v_b900).map FV.d)]⟩
def G_proc_Table_Exit_h_C2 (n : Nat) (v_p880 : Int) (v_status881 : Int) (v_x899 : Int) (v_b900 : S_proc_Table) : Option G_proc_Table_Exit_h_C2_R :=
  if 0 ≤ v_x899 ∧ v_x899 < (17 : Int) then
   (getA v_b900.fl v_x899).bind fun (v_y909 : S_proc_entry) =>
   if v_y909.fstate = 0 then
    some (.x1 )
   else
    if 0 ≤ v_x899 ∧ v_x899 < (17 : Int) then
     (getA v_b900.fl v_x899).bind fun (v_y910 : S_proc_entry) =>
     if v_y910.fparent = v_p880 then
      if 0 ≤ v_x899 ∧ v_x899 < (17 : Int) then
       (getA v_b900.fl v_x899).bind fun (v_y912 : S_proc_entry) =>
       some (.x0 (S_proc_Table.mk (setA v_b900.fl v_x899 (S_proc_entry.mk v_y912.fstate 1 v_y912.fgroup v_y912.fstatus))))
      else none
     else
      some (.x1 )
    else none
  else none
theorem G_proc_Table_Exit_h_C2_ok {Fi : Ex → PS → Prop} (hF : KC 68 Fi) (ks : List Fr) (n : Nat) (v_p880 : Int) (v_status881 : Int) (v_x899 : Int) (v_b900 : S_proc_Table)  (o : G_proc_Table_Exit_h_C2_R) (h : G_proc_Table_Exit_h_C2 n v_p880 v_status881 v_x899 v_b900 = some o) (q : RunE Try.prog 68 Fi ks (G_proc_Table_Exit_h_C2_ex o) (G_proc_Table_Exit_h_C2_st v_p880 v_status881 v_x899 v_b900 o)) : RunE Try.prog 68 Fi (.s (cL (cR (cR (cP (cB (cR (cL (cR (cR (cR (bodyOf Try.f105))))))))))) :: ks) .normal (G_proc_Table_Exit_h_C2_hd v_p880 v_status881 v_x899 v_b900) := by
  unfold G_proc_Table_Exit_h_C2 at h
  by_cases h942 : 0 ≤ v_x899 ∧ v_x899 < (17 : Int)
  · rw [if_pos h942] at h
    obtain ⟨v_y909, h943, h⟩ := bind_some h
    by_cases h944 : v_y909.fstate = 0
    · rw [if_pos h944] at h
      cases h
      exact pkk_sound TTok mix hF 8 (hs := [.l (.d (.v (.int .i64 v_y909.fstate))), .t false, .c, .c, .c, .c, .c, .c, .c, .c, .c]) (ts := []) (s := [0, 1]) (l := [0, 1, 2, 18]) (by kernel_rfl) (by kernel_rfl) (.cons h942 (.cons (arr_cell (γ := FV) (sz := 4) (g := (fun x => [.d (.v (.int .i64 x.fstate)), .d (.v (.int .i64 x.fparent)), .d (.v (.int .i64 x.fgroup)), .d (.v (.int .i64 x.fstatus))])) (pre := []) (post := []) (o := 0) (fun _ => rfl) h943 rfl) (.cons (nf h944) .nil))) q
    · rw [if_neg h944] at h
      by_cases h945 : 0 ≤ v_x899 ∧ v_x899 < (17 : Int)
      · rw [if_pos h945] at h
        obtain ⟨v_y910, h946, h⟩ := bind_some h
        by_cases h950 : v_y910.fparent = v_p880
        · rw [if_pos h950] at h
          by_cases h951 : 0 ≤ v_x899 ∧ v_x899 < (17 : Int)
          · rw [if_pos h951] at h
            obtain ⟨v_y912, h952, h⟩ := bind_some h
            cases h
            exact pkk_sound TTok mix hF 8 (hs := [.l (.d (.v (.int .i64 v_y909.fstate))), .t true, .c, .c, .c, .c, .c, .c, .l (.d (.v (.int .i64 v_y910.fparent))), .c, .c, .t true, .x ((cS_proc_Table (S_proc_Table.mk (setA v_b900.fl v_x899 (S_proc_entry.mk v_y912.fstate 1 v_y912.fgroup v_y912.fstatus)))).map FV.d), .c]) (ts := []) (s := [0, 1]) (l := [0, 1, 2, 18]) (by kernel_rfl) (by kernel_rfl) (.cons h942 (.cons (arr_cell (γ := FV) (sz := 4) (g := (fun x => [.d (.v (.int .i64 x.fstate)), .d (.v (.int .i64 x.fparent)), .d (.v (.int .i64 x.fgroup)), .d (.v (.int .i64 x.fstatus))])) (pre := []) (post := []) (o := 0) (fun _ => rfl) h943 rfl) (.cons (nt h944) (.cons h945 (.cons (arr_cell (γ := FV) (sz := 4) (g := (fun x => [.d (.v (.int .i64 x.fstate)), .d (.v (.int .i64 x.fparent)), .d (.v (.int .i64 x.fgroup)), .d (.v (.int .i64 x.fstatus))])) (pre := []) (post := []) (o := 1) (fun _ => rfl) h946 rfl) (.cons (bt h950) (.cons h951 (.cons (arr_store (γ := FV) (sz := 4) (g := (fun x => [.d (.v (.int .i64 x.fstate)), .d (.v (.int .i64 x.fparent)), .d (.v (.int .i64 x.fgroup)), .d (.v (.int .i64 x.fstatus))])) (pre := []) (post := []) (o := 1) (y := (S_proc_entry.mk v_y912.fstate 1 v_y912.fgroup v_y912.fstatus)) (zs := [.d (.v (.int .i64 1))]) (fun _ => rfl) h952 rfl (Nat.le_of_ble_eq_true rfl)).1 (.cons (arr_store (γ := FV) (sz := 4) (g := (fun x => [.d (.v (.int .i64 x.fstate)), .d (.v (.int .i64 x.fparent)), .d (.v (.int .i64 x.fgroup)), .d (.v (.int .i64 x.fstatus))])) (pre := []) (post := []) (o := 1) (y := (S_proc_entry.mk v_y912.fstate 1 v_y912.fgroup v_y912.fstatus)) (zs := [.d (.v (.int .i64 1))]) (fun _ => rfl) h952 rfl (Nat.le_of_ble_eq_true rfl)).2 .nil))))))))) q
          · rw [if_neg h951] at h; cases h
        · rw [if_neg h950] at h
          cases h
          exact pkk_sound TTok mix hF 8 (hs := [.l (.d (.v (.int .i64 v_y909.fstate))), .t true, .c, .c, .c, .c, .c, .c, .l (.d (.v (.int .i64 v_y910.fparent))), .c, .c, .t false]) (ts := []) (s := [0, 1]) (l := [0, 1, 2, 18]) (by kernel_rfl) (by kernel_rfl) (.cons h942 (.cons (arr_cell (γ := FV) (sz := 4) (g := (fun x => [.d (.v (.int .i64 x.fstate)), .d (.v (.int .i64 x.fparent)), .d (.v (.int .i64 x.fgroup)), .d (.v (.int .i64 x.fstatus))])) (pre := []) (post := []) (o := 0) (fun _ => rfl) h943 rfl) (.cons (nt h944) (.cons h945 (.cons (arr_cell (γ := FV) (sz := 4) (g := (fun x => [.d (.v (.int .i64 x.fstate)), .d (.v (.int .i64 x.fparent)), .d (.v (.int .i64 x.fgroup)), .d (.v (.int .i64 x.fstatus))])) (pre := []) (post := []) (o := 1) (fun _ => rfl) h946 rfl) (.cons (bf h950) .nil)))))) q
      · rw [if_neg h945] at h; cases h
  · rw [if_neg h942] at h; cases h
inductive G_proc_Table_Exit_h_L3_R where
  | x0 (v_b916 : S_proc_Table)
def G_proc_Table_Exit_h_L3_ex : G_proc_Table_Exit_h_L3_R → Ex
  | .x0 _ => .exit 0
def G_proc_Table_Exit_h_L3_st (v_p880 : Int) (v_status881 : Int) : G_proc_Table_Exit_h_L3_R → PS
  | .x0 v_b916 => ⟨[.ref 1 0, .d (.v (.int .i64 v_p880)), .d (.v (.int .i64 v_status881)), dd, dd, dd, dd, dd, dd, dd, dd, dd, dd, dd, dd, dd, dd, dd, dd, dd, dd, dd, dd, dd, dd, dd, dd, dd, dd, dd, dd, dd, dd, dd, dd, dd, dd, dd, dd, dd, dd, dd, dd, dd, dd, dd, dd, dd, dd, dd, dd, dd, dd, dd, dd, dd, dd, dd, dd, dd, dd, dd, dd, dd, dd, dd, dd, dd], [.gh 0 (.ref 1 0), .box ((cS_proc_Table v_b916).map FV.d)]⟩
def G_proc_Table_Exit_h_L3_hd (v_p880 : Int) (v_status881 : Int) (v_x899 : Int) (v_b900 : S_proc_Table) : PS := ⟨[.ref 1 0, .d (.v (.int .i64 v_p880)), .d (.v (.int .i64 v_status881)), dd, dd, dd, dd, dd, dd, dd, dd, dd, dd, dd, dd, dd, dd, dd, .d (.v (.int .i64 v_x899)), dd, dd, dd, dd, dd, dd, dd, dd, dd, dd, dd, dd, dd, dd, dd, dd, dd, dd, dd, dd, dd, dd, dd, dd, dd, dd, dd, dd, dd, dd, dd, dd, dd, dd, dd, dd, dd, dd, dd, dd, dd, dd, dd, dd, dd, dd, dd, dd, dd], [.gh 0 (.ref 1 0), .box ((cS_proc_Table v_b900).map FV.d)]⟩
def G_proc_Table_Exit_h_L3 (n : Nat) (v_p880 : Int) (v_status881 : Int) : Nat → Int → S_proc_Table → Option G_proc_Table_Exit_h_L3_R
  | 0, _, _ => none
  | k + 1, v_x899, v_b900 =>
    if v_x899 < 17 then
     (G_proc_Table_Exit_h_C2 n v_p880 v_status881 v_x899 v_b900).bind fun v_o914 => match v_o914 with
     | .x0 v_z915 =>
       G_proc_Table_Exit_h_L3 n v_p880 v_status881 k (wi .i64 (v_x899 + 1)) v_z915
     | .x1  =>
       G_proc_Table_Exit_h_L3 n v_p880 v_status881 k (wi .i64 (v_x899 + 1)) v_b900
    else
     some (.x0 v_b900)
theorem G_proc_Table_Exit_h_L3_ok {Fi : Ex → PS → Prop} (hF : KC 68 Fi) (ks : List Fr) (n : Nat) (v_p880 : Int) (v_status881 : Int)  : ∀ (k : Nat) (v_x899 : Int) (v_b900 : S_proc_Table) (o : G_proc_Table_Exit_h_L3_R), G_proc_Table_Exit_h_L3 n v_p880 v_status881 k v_x899 v_b900 = some o → RunE Try.prog 68 Fi ks (G_proc_Table_Exit_h_L3_ex o) (G_proc_Table_Exit_h_L3_st v_p880 v_status881 o) → RunE Try.prog 68 Fi (.l k (cP (cB (cR (cL (cR (cR (cR (bodyOf Try.f105)))))))) :: ks) .normal (G_proc_Table_Exit_h_L3_hd v_p880 v_status881 v_x899 v_b900)
  | 0, v_x899, v_b900, o, h, q => by rw [G_proc_Table_Exit_h_L3] at h; cases h
  | k + 1, v_x899, v_b900, o, h, q => by
    rw [G_proc_Table_Exit_h_L3] at h
    by_cases h920 : v_x899 < 17
    · rw [if_pos h920] at h
      obtain ⟨v_o914, h953, h⟩ := bind_some h
      refine pkk_sound TTok mix hF 7 (hs := [.t true]) (ts := []) (s := [0, 1]) (l := [0, 1, 2, 18]) (by kernel_rfl) (by kernel_rfl) (.cons (dt h920) .nil) (G_proc_Table_Exit_h_C2_ok hF (.s (cR (cR (cR (cP (cB (cR (cL (cR (cR (cR (bodyOf Try.f105))))))))))) :: .l k (cP (cB (cR (cL (cR (cR (cR (bodyOf Try.f105)))))))) :: ks) n v_p880 v_status881 v_x899 v_b900 _ h953 ?_)
      cases v_o914 with
      | x0 v_z915 =>
        try dsimp only at h
        exact pkk_sound TTok mix hF 1 (hs := []) (ts := []) (s := [0, 1]) (l := [0, 1, 2, 18]) (by kernel_rfl) (by kernel_rfl) .nil (G_proc_Table_Exit_h_L3_ok hF ks n v_p880 v_status881 k (wi .i64 (v_x899 + 1)) v_z915 _ h q)
      | x1  =>
        try dsimp only at h
        exact pkk_sound TTok mix hF 1 (hs := []) (ts := []) (s := [0, 1]) (l := [0, 1, 2, 18]) (by kernel_rfl) (by kernel_rfl) .nil (G_proc_Table_Exit_h_L3_ok hF ks n v_p880 v_status881 k (wi .i64 (v_x899 + 1)) v_b900 _ h q)
    · rw [if_neg h920] at h
      cases h
      exact pkk_sound TTok mix hF 8 (hs := [.t false]) (ts := []) (s := [0, 1]) (l := [0, 1, 2]) (by kernel_rfl) (by kernel_rfl) (.cons (df h920) .nil) q
/- (*ringhall/proc.Table).Exit -/
def G_proc_Table_Exit_h (n : Nat) (v_t879 : S_proc_Table) (v_p880 : Int) (v_status881 : Int) : Option (Int × Int × S_proc_Table) :=
  (G_proc_Table_living_h n v_t879 v_p880).bind fun (v_r882 : (Int × S_proc_Table)) =>
  if v_r882.1 = 0 then
   if v_p880 = 1 then
    some (0, 7, v_r882.2)
   else
    (G_proc_Table_Exit_h_L3 n v_p880 v_status881 n 0 v_r882.2).bind fun v_o917 => match v_o917 with
    | .x0 v_z918 =>
      if 0 ≤ v_p880 ∧ v_p880 < (17 : Int) then
       (getA v_z918.fl v_p880).bind fun (v_y919 : S_proc_entry) =>
       if 0 ≤ v_p880 ∧ v_p880 < (17 : Int) then
        (getA (setA v_z918.fl v_p880 (S_proc_entry.mk 2 v_y919.fparent v_y919.fgroup v_y919.fstatus)) v_p880).bind fun (v_y920 : S_proc_entry) =>
        if 0 ≤ v_p880 ∧ v_p880 < (17 : Int) then
         (getA (setA (setA v_z918.fl v_p880 (S_proc_entry.mk 2 v_y919.fparent v_y919.fgroup v_y919.fstatus)) v_p880 (S_proc_entry.mk v_y920.fstate v_y920.fparent v_y920.fgroup (bits .and .i64 v_status881 255))) v_p880).bind fun (v_y921 : S_proc_entry) =>
         some (v_y921.fparent, 0, (S_proc_Table.mk (setA (setA v_z918.fl v_p880 (S_proc_entry.mk 2 v_y919.fparent v_y919.fgroup v_y919.fstatus)) v_p880 (S_proc_entry.mk v_y920.fstate v_y920.fparent v_y920.fgroup (bits .and .i64 v_status881 255)))))
        else none
       else none
      else none
  else
   some (0, v_r882.1, v_r882.2)
theorem G_proc_Table_Exit_h_ok (n : Nat) (v_t879 : S_proc_Table) (v_p880 : Int) (v_status881 : Int) (r : Int × Int × S_proc_Table) (h : G_proc_Table_Exit_h n v_t879 v_p880 v_status881 = some r) : RetH Try.prog 105 [.ref 0 0, .d ((eI .i64) v_p880), .d ((eI .i64) v_status881)] [.box ((cS_proc_Table v_t879).map FV.d)] (.tup [.d ((eI .i64) r.1), .d ((eI .i64) r.2.1)]) [.box ((cS_proc_Table r.2.2).map FV.d)] := by
  refine retH_run (n := 68) (fn := Try.f105) (c := bodyOf Try.f105) (by kernel_rfl) (by kernel_rfl) (by kernel_rfl) (by kernel_rfl) ?_
  have hF : KC 68 (FinH Try.prog Try.f105 [.box ((cS_proc_Table v_t879).map FV.d)] (.tup [.d ((eI .i64) r.1), .d ((eI .i64) r.2.1)]) [.box ((cS_proc_Table r.2.2).map FV.d)]) := FinH.kc' (by kernel_rfl)
  unfold G_proc_Table_Exit_h at h
  obtain ⟨v_r882, h882, h⟩ := bind_some h
  by_cases h884 : v_r882.1 = 0
  · rw [if_pos h884] at h
    by_cases h885 : v_p880 = 1
    · rw [if_pos h885] at h
      obtain rfl := Option.some.inj h
      exact pendH_sound TTok mix 17 (hs := [.h [0] [] [.box ((cS_proc_Table v_r882.2).map FV.d)] (.d (.v (.int .i64 v_r882.1))), .t false, .t true]) [0] (by kernel_rfl) (by kernel_rfl) (by kernel_rfl) (.cons (G_proc_Table_living_h_ok n v_t879 v_p880 _ h882) (.cons (nf h884) (.cons (bt h885) .nil)))
    · rw [if_neg h885] at h
      obtain ⟨v_o917, h954, h⟩ := bind_some h
      refine pkk_sound TTok mix hF 19 (hs := [.h [0] [] [.box ((cS_proc_Table v_r882.2).map FV.d)] (.d (.v (.int .i64 v_r882.1))), .t false, .t false, .n n]) (ts := []) (s := [1, 0]) (l := [0, 1, 2, 18]) (by kernel_rfl) (by kernel_rfl) (.cons (G_proc_Table_living_h_ok n v_t879 v_p880 _ h882) (.cons (nf h884) (.cons (bf h885) .nil))) (G_proc_Table_Exit_h_L3_ok hF (.b 0 :: .s (cR (cR (cR (cR (bodyOf Try.f105))))) :: []) n v_p880 v_status881 n 0 v_r882.2 _ h954 ?_)
      cases v_o917 with
      | x0 v_z918 =>
        try dsimp only at h
        by_cases h955 : 0 ≤ v_p880 ∧ v_p880 < (17 : Int)
        · rw [if_pos h955] at h
          obtain ⟨v_y919, h956, h⟩ := bind_some h
          by_cases h957 : 0 ≤ v_p880 ∧ v_p880 < (17 : Int)
          · rw [if_pos h957] at h
            obtain ⟨v_y920, h958, h⟩ := bind_some h
            by_cases h959 : 0 ≤ v_p880 ∧ v_p880 < (17 : Int)
            · rw [if_pos h959] at h
              obtain ⟨v_y921, h960, h⟩ := bind_some h
              obtain rfl := Option.some.inj h
              exact pendH_sound TTok mix 6 (hs := [.x ((cS_proc_Table (S_proc_Table.mk (setA v_z918.fl v_p880 (S_proc_entry.mk 2 v_y919.fparent v_y919.fgroup v_y919.fstatus)))).map FV.d), .c, .x ((cS_proc_Table (S_proc_Table.mk (setA (setA v_z918.fl v_p880 (S_proc_entry.mk 2 v_y919.fparent v_y919.fgroup v_y919.fstatus)) v_p880 (S_proc_entry.mk v_y920.fstate v_y920.fparent v_y920.fgroup (bits .and .i64 v_status881 255))))).map FV.d), .c, .l (.d (.v (.int .i64 v_y921.fparent)))]) [1] (by kernel_rfl) (by kernel_rfl) (by kernel_rfl) (.cons h955 (.cons (arr_store (γ := FV) (sz := 4) (g := (fun x => [.d (.v (.int .i64 x.fstate)), .d (.v (.int .i64 x.fparent)), .d (.v (.int .i64 x.fgroup)), .d (.v (.int .i64 x.fstatus))])) (pre := []) (post := []) (o := 0) (y := (S_proc_entry.mk 2 v_y919.fparent v_y919.fgroup v_y919.fstatus)) (zs := [.d (.v (.int .i64 2))]) (fun _ => rfl) h956 rfl (Nat.le_of_ble_eq_true rfl)).1 (.cons (arr_store (γ := FV) (sz := 4) (g := (fun x => [.d (.v (.int .i64 x.fstate)), .d (.v (.int .i64 x.fparent)), .d (.v (.int .i64 x.fgroup)), .d (.v (.int .i64 x.fstatus))])) (pre := []) (post := []) (o := 0) (y := (S_proc_entry.mk 2 v_y919.fparent v_y919.fgroup v_y919.fstatus)) (zs := [.d (.v (.int .i64 2))]) (fun _ => rfl) h956 rfl (Nat.le_of_ble_eq_true rfl)).2 (.cons h957 (.cons (arr_store (γ := FV) (sz := 4) (g := (fun x => [.d (.v (.int .i64 x.fstate)), .d (.v (.int .i64 x.fparent)), .d (.v (.int .i64 x.fgroup)), .d (.v (.int .i64 x.fstatus))])) (pre := []) (post := []) (o := 3) (y := (S_proc_entry.mk v_y920.fstate v_y920.fparent v_y920.fgroup (bits .and .i64 v_status881 255))) (zs := [.d (.v (.int .i64 (bits .and .i64 v_status881 255)))]) (fun _ => rfl) h958 rfl (Nat.le_of_ble_eq_true rfl)).1 (.cons (arr_store (γ := FV) (sz := 4) (g := (fun x => [.d (.v (.int .i64 x.fstate)), .d (.v (.int .i64 x.fparent)), .d (.v (.int .i64 x.fgroup)), .d (.v (.int .i64 x.fstatus))])) (pre := []) (post := []) (o := 3) (y := (S_proc_entry.mk v_y920.fstate v_y920.fparent v_y920.fgroup (bits .and .i64 v_status881 255))) (zs := [.d (.v (.int .i64 (bits .and .i64 v_status881 255)))]) (fun _ => rfl) h958 rfl (Nat.le_of_ble_eq_true rfl)).2 (.cons h959 (.cons (arr_cell (γ := FV) (sz := 4) (g := (fun x => [.d (.v (.int .i64 x.fstate)), .d (.v (.int .i64 x.fparent)), .d (.v (.int .i64 x.fgroup)), .d (.v (.int .i64 x.fstatus))])) (pre := []) (post := []) (o := 1) (fun _ => rfl) h960 rfl) .nil))))))))
            · rw [if_neg h959] at h; cases h
          · rw [if_neg h957] at h; cases h
        · rw [if_neg h955] at h; cases h
  · rw [if_neg h884] at h
    obtain rfl := Option.some.inj h
    exact pendH_sound TTok mix 12 (hs := [.h [0] [] [.box ((cS_proc_Table v_r882.2).map FV.d)] (.d (.v (.int .i64 v_r882.1))), .t true]) [0] (by kernel_rfl) (by kernel_rfl) (by kernel_rfl) (.cons (G_proc_Table_living_h_ok n v_t879 v_p880 _ h882) (.cons (nt h884) .nil))
inductive G_ringref5_Procs_Exited_h_L1_R where
  | x0 (v_w935 : (List S_ringref5_Proc))
def G_ringref5_Procs_Exited_h_L1_ex : G_ringref5_Procs_Exited_h_L1_R → Ex
  | .x0 _ => .exit 0
def G_ringref5_Procs_Exited_h_L1_st (v_p924 : Int) (v_status925 : Int) (v_r926 : ((List S_ringref5_Proc))) : G_ringref5_Procs_Exited_h_L1_R → PS
  | .x0 v_w935 => ⟨[dd, .d (.v (.int .i64 v_p924)), .d (.v (.int .i64 v_status925)), dd, dd, dd, dd, dd, .srf 0, dd, dd, dd, dd, dd, dd, dd, dd, dd, dd, dd, dd, dd, dd, dd, dd, dd, dd, dd, dd, dd, dd, dd, dd, dd, dd, dd, dd, dd, dd, dd, dd, dd, dd, dd, dd, dd, dd, dd, dd], [.row 180 5 (v_w935.map eS_ringref5_Proc)]⟩
def G_ringref5_Procs_Exited_h_L1_hd (v_p924 : Int) (v_status925 : Int) (v_r926 : ((List S_ringref5_Proc))) (v_x927 : Int) (v_w928 : (List S_ringref5_Proc)) : PS := ⟨[dd, .d (.v (.int .i64 v_p924)), .d (.v (.int .i64 v_status925)), dd, dd, dd, dd, dd, .srf 0, dd, dd, dd, dd, dd, .d (.v (.int .i64 (v_r926.length : Int))), .d (.v (.int .i64 v_x927)), dd, dd, dd, dd, dd, dd, dd, dd, dd, dd, dd, dd, dd, dd, dd, dd, dd, dd, dd, dd, dd, dd, dd, dd, dd, dd, dd, dd, dd, dd, dd, dd, dd], [.row 180 5 (v_w928.map eS_ringref5_Proc)]⟩
def G_ringref5_Procs_Exited_h_L1 (n : Nat) (v_p924 : Int) (v_status925 : Int) (v_r926 : ((List S_ringref5_Proc))) : Nat → Int → (List S_ringref5_Proc) → Option G_ringref5_Procs_Exited_h_L1_R
  | 0, _, _ => none
  | k + 1, v_x927, v_w928 =>
    if v_x927 < (v_r926.length : Int) then
     if 0 ≤ v_x927 ∧ (v_x927).toNat < v_w928.length then
      (v_w928[(v_x927).toNat]?).bind fun (v_y932 : S_ringref5_Proc) =>
      if v_y932.fUp = v_p924 then
       if 0 ≤ v_x927 ∧ (v_x927).toNat < v_w928.length then
        (v_w928[(v_x927).toNat]?).bind fun (v_y934 : S_ringref5_Proc) =>
        G_ringref5_Procs_Exited_h_L1 n v_p924 v_status925 v_r926 k (wi .i64 (v_x927 + 1)) (v_w928.set (v_x927).toNat (S_ringref5_Proc.mk v_y934.fId 1 v_y934.fGroup v_y934.fStatus v_y934.fEnded))
       else none
      else
       G_ringref5_Procs_Exited_h_L1 n v_p924 v_status925 v_r926 k (wi .i64 (v_x927 + 1)) v_w928
     else none
    else
     some (.x0 v_w928)
theorem G_ringref5_Procs_Exited_h_L1_ok {Fi : Ex → PS → Prop} (hF : KC 49 Fi) (ks : List Fr) (n : Nat) (v_p924 : Int) (v_status925 : Int) (v_r926 : ((List S_ringref5_Proc)))  : ∀ (k : Nat) (v_x927 : Int) (v_w928 : (List S_ringref5_Proc)) (o : G_ringref5_Procs_Exited_h_L1_R), G_ringref5_Procs_Exited_h_L1 n v_p924 v_status925 v_r926 k v_x927 v_w928 = some o → RunE Try.prog 49 Fi ks (G_ringref5_Procs_Exited_h_L1_ex o) (G_ringref5_Procs_Exited_h_L1_st v_p924 v_status925 v_r926 o) → RunE Try.prog 49 Fi (.l k (cP (cB (cR (cL (cR (cR (bodyOf Try.f106))))))) :: ks) .normal (G_ringref5_Procs_Exited_h_L1_hd v_p924 v_status925 v_r926 v_x927 v_w928)
  | 0, v_x927, v_w928, o, h, q => by rw [G_ringref5_Procs_Exited_h_L1] at h; cases h
  | k + 1, v_x927, v_w928, o, h, q => by
    rw [G_ringref5_Procs_Exited_h_L1] at h
    by_cases h966 : v_x927 < (v_r926.length : Int)
    · rw [if_pos h966] at h
      by_cases h975 : 0 ≤ v_x927 ∧ (v_x927).toNat < v_w928.length
      · rw [if_pos h975] at h
        obtain ⟨v_y932, h976, h⟩ := bind_some h
        by_cases h980 : v_y932.fUp = v_p924
        · rw [if_pos h980] at h
          by_cases h981 : 0 ≤ v_x927 ∧ (v_x927).toNat < v_w928.length
          · rw [if_pos h981] at h
            obtain ⟨v_y934, h982, h⟩ := bind_some h
            exact pkk_sound TTok mix hF 16 (hs := [.t true, .y (eS_ringref5_Proc v_y932), .t true, .w ((v_w928.set (v_x927).toNat (S_ringref5_Proc.mk v_y934.fId 1 v_y934.fGroup v_y934.fStatus v_y934.fEnded)).map eS_ringref5_Proc), .y (eS_ringref5_Proc v_y934)]) (ts := []) (s := [0]) (l := [1, 2, 8, 14, 15]) (by kernel_rfl) (by kernel_rfl) (.cons (dt h966) (.cons (idx_ob (f := eS_ringref5_Proc) h975) (.cons (get_ob (f := eS_ringref5_Proc) h976) (.cons (bt h980) (.cons (idx_ob (f := eS_ringref5_Proc) h981) (.cons (get_ob (f := eS_ringref5_Proc) h982) (.cons (Eq.refl (pcells (.agg [.v (.int .i64 v_y934.fId), .v (.int .i64 1), .v (.int .i64 v_y934.fGroup), .v (.int .i64 v_y934.fStatus), .v (.bool v_y934.fEnded)]))) (.cons (set_ob (f := eS_ringref5_Proc) (l := v_w928) (k := (v_x927).toNat) (z := (S_ringref5_Proc.mk v_y934.fId 1 v_y934.fGroup v_y934.fStatus v_y934.fEnded)) (p := .agg [.v (.int .i64 v_y934.fId), .v (.int .i64 1), .v (.int .i64 v_y934.fGroup), .v (.int .i64 v_y934.fStatus), .v (.bool v_y934.fEnded)]) rfl) .nil)))))))) (G_ringref5_Procs_Exited_h_L1_ok hF ks n v_p924 v_status925 v_r926 k (wi .i64 (v_x927 + 1)) (v_w928.set (v_x927).toNat (S_ringref5_Proc.mk v_y934.fId 1 v_y934.fGroup v_y934.fStatus v_y934.fEnded)) _ h q)
          · rw [if_neg h981] at h; cases h
        · rw [if_neg h980] at h
          exact pkk_sound TTok mix hF 16 (hs := [.t true, .y (eS_ringref5_Proc v_y932), .t false]) (ts := []) (s := [0]) (l := [1, 2, 8, 14, 15]) (by kernel_rfl) (by kernel_rfl) (.cons (dt h966) (.cons (idx_ob (f := eS_ringref5_Proc) h975) (.cons (get_ob (f := eS_ringref5_Proc) h976) (.cons (bf h980) .nil)))) (G_ringref5_Procs_Exited_h_L1_ok hF ks n v_p924 v_status925 v_r926 k (wi .i64 (v_x927 + 1)) v_w928 _ h q)
      · rw [if_neg h975] at h; cases h
    · rw [if_neg h966] at h
      cases h
      exact pkk_sound TTok mix hF 8 (hs := [.t false]) (ts := []) (s := [0]) (l := [1, 2, 8]) (by kernel_rfl) (by kernel_rfl) (.cons (df h966) .nil) q
/- (ringhall/ringref5.Procs).Exited -/
def G_ringref5_Procs_Exited_h (n : Nat) (v_l923 : (List S_ringref5_Proc)) (v_p924 : Int) (v_status925 : Int) : Option ((List S_ringref5_Proc) × Int) :=
  (G_slices_Clone_ringref5_Procs_ringref5_Proc n v_l923).bind fun (v_r926 : ((List S_ringref5_Proc))) =>
  (G_ringref5_Procs_Exited_h_L1 n v_p924 v_status925 v_r926 n 0 v_r926).bind fun v_o936 => match v_o936 with
  | .x0 v_z937 =>
    (G_ringref5_Procs_Find n v_z937 v_p924).bind fun (v_r938 : (Int)) =>
    (G_ringref5_Rest n v_status925 256).bind fun (v_r939 : (Int)) =>
    if 0 ≤ v_r938 ∧ (v_r938).toNat < v_z937.length then
     (v_z937[(v_r938).toNat]?).bind fun (v_y940 : S_ringref5_Proc) =>
     if 0 ≤ v_r938 ∧ (v_r938).toNat < (v_z937.set (v_r938).toNat (S_ringref5_Proc.mk v_y940.fId v_y940.fUp v_y940.fGroup v_y940.fStatus true)).length then
      ((v_z937.set (v_r938).toNat (S_ringref5_Proc.mk v_y940.fId v_y940.fUp v_y940.fGroup v_y940.fStatus true))[(v_r938).toNat]?).bind fun (v_y941 : S_ringref5_Proc) =>
      if 0 ≤ v_r938 ∧ (v_r938).toNat < ((v_z937.set (v_r938).toNat (S_ringref5_Proc.mk v_y940.fId v_y940.fUp v_y940.fGroup v_y940.fStatus true)).set (v_r938).toNat (S_ringref5_Proc.mk v_y941.fId v_y941.fUp v_y941.fGroup v_r939 v_y941.fEnded)).length then
       (((v_z937.set (v_r938).toNat (S_ringref5_Proc.mk v_y940.fId v_y940.fUp v_y940.fGroup v_y940.fStatus true)).set (v_r938).toNat (S_ringref5_Proc.mk v_y941.fId v_y941.fUp v_y941.fGroup v_r939 v_y941.fEnded))[(v_r938).toNat]?).bind fun (v_y942 : S_ringref5_Proc) =>
       some (((v_z937.set (v_r938).toNat (S_ringref5_Proc.mk v_y940.fId v_y940.fUp v_y940.fGroup v_y940.fStatus true)).set (v_r938).toNat (S_ringref5_Proc.mk v_y941.fId v_y941.fUp v_y941.fGroup v_r939 v_y941.fEnded)), v_y942.fUp)
      else none
     else none
    else none
theorem G_ringref5_Procs_Exited_h_ok (n : Nat) (v_l923 : (List S_ringref5_Proc)) (v_p924 : Int) (v_status925 : Int) (r : (List S_ringref5_Proc) × Int) (h : G_ringref5_Procs_Exited_h n v_l923 v_p924 v_status925 = some r) : RetH Try.prog 106 [.d ((eL eS_ringref5_Proc) v_l923), .d ((eI .i64) v_p924), .d ((eI .i64) v_status925)] [] (.tup [.srf 0, .d ((eI .i64) r.2)]) [.row 180 5 (r.1.map eS_ringref5_Proc)] := by
  refine retH_run (n := 49) (fn := Try.f106) (c := bodyOf Try.f106) (by kernel_rfl) (by kernel_rfl) (by kernel_rfl) (by kernel_rfl) ?_
  have hF : KC 49 (FinH Try.prog Try.f106 [] (.tup [.srf 0, .d ((eI .i64) r.2)]) [.row 180 5 (r.1.map eS_ringref5_Proc)]) := FinH.kc' (by kernel_rfl)
  unfold G_ringref5_Procs_Exited_h at h
  obtain ⟨v_r926, h965, h⟩ := bind_some h
  obtain ⟨v_o936, h983, h⟩ := bind_some h
  refine pkk_sound TTok mix hF 9 (hs := [.h [] [] [.row 180 5 (v_r926.map eS_ringref5_Proc)] (.srf 0), .u (.d (.v (.int .i64 (v_r926.length : Int)))), .n n]) (ts := []) (s := [9]) (l := [1, 2, 8, 14, 15]) (by kernel_rfl) (by kernel_rfl) (.cons (G_slices_Clone_ringref5_Procs_ringref5_Proc_ok n v_l923 _ h965) (.cons (len_ob (f := eS_ringref5_Proc) (l := v_r926)) .nil)) (G_ringref5_Procs_Exited_h_L1_ok hF (.b 0 :: .s (cR (cR (cR (bodyOf Try.f106)))) :: []) n v_p924 v_status925 v_r926 n 0 v_r926 _ h983 ?_)
  cases v_o936 with
  | x0 v_z937 =>
    try dsimp only at h
    obtain ⟨v_r938, h984, h⟩ := bind_some h
    obtain ⟨v_r939, h985, h⟩ := bind_some h
    by_cases h986 : 0 ≤ v_r938 ∧ (v_r938).toNat < v_z937.length
    · rw [if_pos h986] at h
      obtain ⟨v_y940, h987, h⟩ := bind_some h
      by_cases h988 : 0 ≤ v_r938 ∧ (v_r938).toNat < (v_z937.set (v_r938).toNat (S_ringref5_Proc.mk v_y940.fId v_y940.fUp v_y940.fGroup v_y940.fStatus true)).length
      · rw [if_pos h988] at h
        obtain ⟨v_y941, h989, h⟩ := bind_some h
        by_cases h990 : 0 ≤ v_r938 ∧ (v_r938).toNat < ((v_z937.set (v_r938).toNat (S_ringref5_Proc.mk v_y940.fId v_y940.fUp v_y940.fGroup v_y940.fStatus true)).set (v_r938).toNat (S_ringref5_Proc.mk v_y941.fId v_y941.fUp v_y941.fGroup v_r939 v_y941.fEnded)).length
        · rw [if_pos h990] at h
          obtain ⟨v_y942, h991, h⟩ := bind_some h
          obtain rfl := Option.some.inj h
          exact pendH_sound TTok mix 8 (hs := [.c, .r ((eI .i64) v_r938), .r ((eI .i64) v_r939), .w ((v_z937.set (v_r938).toNat (S_ringref5_Proc.mk v_y940.fId v_y940.fUp v_y940.fGroup v_y940.fStatus true)).map eS_ringref5_Proc), .y (eS_ringref5_Proc v_y940), .w (((v_z937.set (v_r938).toNat (S_ringref5_Proc.mk v_y940.fId v_y940.fUp v_y940.fGroup v_y940.fStatus true)).set (v_r938).toNat (S_ringref5_Proc.mk v_y941.fId v_y941.fUp v_y941.fGroup v_r939 v_y941.fEnded)).map eS_ringref5_Proc), .y (eS_ringref5_Proc v_y941), .y (eS_ringref5_Proc v_y942)]) [0] (by kernel_rfl) (by kernel_rfl) (by kernel_rfl) (.cons (G_ringref5_Procs_Find_ok n v_z937 v_p924 _ h984) (.cons (G_ringref5_Rest_ok n v_status925 256 _ h985) (.cons (idx_ob (f := eS_ringref5_Proc) h986) (.cons (get_ob (f := eS_ringref5_Proc) h987) (.cons (Eq.refl (pcells (.agg [.v (.int .i64 v_y940.fId), .v (.int .i64 v_y940.fUp), .v (.int .i64 v_y940.fGroup), .v (.int .i64 v_y940.fStatus), .v (.bool true)]))) (.cons (set_ob (f := eS_ringref5_Proc) (l := v_z937) (k := (v_r938).toNat) (z := (S_ringref5_Proc.mk v_y940.fId v_y940.fUp v_y940.fGroup v_y940.fStatus true)) (p := .agg [.v (.int .i64 v_y940.fId), .v (.int .i64 v_y940.fUp), .v (.int .i64 v_y940.fGroup), .v (.int .i64 v_y940.fStatus), .v (.bool true)]) rfl) (.cons (idx_ob (f := eS_ringref5_Proc) h988) (.cons (get_ob (f := eS_ringref5_Proc) h989) (.cons (Eq.refl (pcells (.agg [.v (.int .i64 v_y941.fId), .v (.int .i64 v_y941.fUp), .v (.int .i64 v_y941.fGroup), .v (.int .i64 v_r939), .v (.bool v_y941.fEnded)]))) (.cons (set_ob (f := eS_ringref5_Proc) (l := (v_z937.set (v_r938).toNat (S_ringref5_Proc.mk v_y940.fId v_y940.fUp v_y940.fGroup v_y940.fStatus true))) (k := (v_r938).toNat) (z := (S_ringref5_Proc.mk v_y941.fId v_y941.fUp v_y941.fGroup v_r939 v_y941.fEnded)) (p := .agg [.v (.int .i64 v_y941.fId), .v (.int .i64 v_y941.fUp), .v (.int .i64 v_y941.fGroup), .v (.int .i64 v_r939), .v (.bool v_y941.fEnded)]) rfl) (.cons (idx_ob (f := eS_ringref5_Proc) h990) (.cons (get_ob (f := eS_ringref5_Proc) h991) .nil))))))))))))
        · rw [if_neg h990] at h; cases h
      · rw [if_neg h988] at h; cases h
    · rw [if_neg h986] at h; cases h
inductive G_proc_Table_Wait_h_C1_R where
  | x0 (v_x981 : Bool)
def G_proc_Table_Wait_h_C1_ex : G_proc_Table_Wait_h_C1_R → Ex
  | .x0 _ => .normal
def G_proc_Table_Wait_h_C1_st (v_p961 : Int) (v_some963 : Bool) (v_x964 : Int) (v_r962 : (Int × S_proc_Table)) : G_proc_Table_Wait_h_C1_R → PS
  | .x0 v_x981 => ⟨[.ref 1 0, .d (.v (.int .i64 v_p961)), dd, dd, dd, dd, dd, dd, .d (.v (.bool v_some963)), .d (.v (.int .i64 v_x964)), dd, dd, dd, dd, dd, dd, dd, .d (.v (.int .i64 v_x964)), dd, dd, dd, dd, dd, dd, dd, dd, dd, dd, dd, dd, dd, dd, dd, dd, dd, dd, dd, dd, .d (.v (.bool v_x981)), dd, dd, dd, dd, dd, dd, dd, dd, dd, dd, dd, dd, dd, dd, dd, dd, dd, dd, dd, dd, dd, dd, dd, dd, dd], [.gh 0 (.ref 1 0), .box ((cS_proc_Table v_r962.2).map FV.d)]⟩
def G_proc_Table_Wait_h_C1_hd (v_p961 : Int) (v_some963 : Bool) (v_x964 : Int) (v_r962 : (Int × S_proc_Table))  : PS := ⟨[.ref 1 0, .d (.v (.int .i64 v_p961)), dd, dd, dd, dd, dd, dd, .d (.v (.bool v_some963)), .d (.v (.int .i64 v_x964)), dd, dd, dd, dd, dd, dd, dd, .d (.v (.int .i64 v_x964)), dd, dd, dd, dd, dd, dd, dd, dd, dd, dd, dd, dd, dd, dd, dd, dd, dd, dd, dd, dd, dd, dd, dd, dd, dd, dd, dd, dd, dd, dd, dd, dd, dd, dd, dd, dd, dd, dd, dd, dd, dd, dd, dd, dd, dd, dd], [.gh 0 (.ref 1 0), .box ((cS_proc_Table v_r962.2).map FV.d)]⟩
def G_proc_Table_Wait_h_C1 (n : Nat) (v_p961 : Int) (v_some963 : Bool) (v_x964 : Int) (v_r962 : (Int × S_proc_Table)) : Option G_proc_Table_Wait_h_C1_R :=
  if 0 ≤ v_x964 ∧ v_x964 < (17 : Int) then
   (getA v_r962.2.fl v_x964).bind fun (v_y980 : S_proc_entry) =>
   if v_y980.fstate = 0 then
    some (.x0 true)
   else
    if 0 ≤ v_x964 ∧ v_x964 < (17 : Int) then
     (getA v_r962.2.fl v_x964).bind fun (v_y982 : S_proc_entry) =>
     some (.x0 (v_y982.fparent != v_p961))
    else none
  else none
theorem G_proc_Table_Wait_h_C1_ok {Fi : Ex → PS → Prop} (hF : KC 64 Fi) (ks : List Fr) (n : Nat) (v_p961 : Int) (v_some963 : Bool) (v_x964 : Int) (v_r962 : (Int × S_proc_Table))  (o : G_proc_Table_Wait_h_C1_R) (h : G_proc_Table_Wait_h_C1 n v_p961 v_some963 v_x964 v_r962 = some o) (q : RunE Try.prog 64 Fi ks (G_proc_Table_Wait_h_C1_ex o) (G_proc_Table_Wait_h_C1_st v_p961 v_some963 v_x964 v_r962 o)) : RunE Try.prog 64 Fi (.s (cL (cL (cR (cB (cL (cR (cR (cP (cB (cR (cL (cR (cR (cR (bodyOf Try.f107))))))))))))))) :: ks) .normal (G_proc_Table_Wait_h_C1_hd v_p961 v_some963 v_x964 v_r962) := by
  unfold G_proc_Table_Wait_h_C1 at h
  by_cases h1037 : 0 ≤ v_x964 ∧ v_x964 < (17 : Int)
  · rw [if_pos h1037] at h
    obtain ⟨v_y980, h1038, h⟩ := bind_some h
    by_cases h1039 : v_y980.fstate = 0
    · rw [if_pos h1039] at h
      cases h
      exact pkk_sound TTok mix hF 1 (hs := [.l (.d (.v (.int .i64 v_y980.fstate))), .t true, .c, .c, .c, .c, .c, .c, .c, .c]) (ts := []) (s := [0, 1]) (l := [0, 1, 8, 9, 17, 38]) (by kernel_rfl) (by kernel_rfl) (.cons h1037 (.cons (arr_cell (γ := FV) (sz := 4) (g := (fun x => [.d (.v (.int .i64 x.fstate)), .d (.v (.int .i64 x.fparent)), .d (.v (.int .i64 x.fgroup)), .d (.v (.int .i64 x.fstatus))])) (pre := []) (post := []) (o := 0) (fun _ => rfl) h1038 rfl) (.cons (bt h1039) .nil))) q
    · rw [if_neg h1039] at h
      by_cases h1040 : 0 ≤ v_x964 ∧ v_x964 < (17 : Int)
      · rw [if_pos h1040] at h
        obtain ⟨v_y982, h1041, h⟩ := bind_some h
        cases h
        exact pkk_sound TTok mix hF 1 (hs := [.l (.d (.v (.int .i64 v_y980.fstate))), .t false, .c, .c, .c, .c, .c, .c, .l (.d (.v (.int .i64 v_y982.fparent))), .c, .c]) (ts := []) (s := [0, 1]) (l := [0, 1, 8, 9, 17, 38]) (by kernel_rfl) (by kernel_rfl) (.cons h1037 (.cons (arr_cell (γ := FV) (sz := 4) (g := (fun x => [.d (.v (.int .i64 x.fstate)), .d (.v (.int .i64 x.fparent)), .d (.v (.int .i64 x.fgroup)), .d (.v (.int .i64 x.fstatus))])) (pre := []) (post := []) (o := 0) (fun _ => rfl) h1038 rfl) (.cons (bf h1039) (.cons h1040 (.cons (arr_cell (γ := FV) (sz := 4) (g := (fun x => [.d (.v (.int .i64 x.fstate)), .d (.v (.int .i64 x.fparent)), .d (.v (.int .i64 x.fgroup)), .d (.v (.int .i64 x.fstatus))])) (pre := []) (post := []) (o := 1) (fun _ => rfl) h1041 rfl) .nil))))) q
      · rw [if_neg h1040] at h; cases h
  · rw [if_neg h1037] at h; cases h
inductive G_proc_Table_Wait_h_L2_R where
  | x0 (v_x991 : Int) (v_x992 : Int) (v_x993 : Int) (v_b994 : S_proc_Table)
  | x1 (v_some995 : Bool)
def G_proc_Table_Wait_h_L2_ex : G_proc_Table_Wait_h_L2_R → Ex
  | .x0 _ _ _ _ => .ret
  | .x1 _ => .exit 0
def G_proc_Table_Wait_h_L2_st (v_p961 : Int) (v_r962 : (Int × S_proc_Table)) : G_proc_Table_Wait_h_L2_R → PS
  | .x0 v_x991 v_x992 v_x993 v_b994 => ⟨[dd, dd, dd, dd, .d (.v (.int .i64 v_x991)), .d (.v (.int .i64 v_x992)), .d (.v (.int .i64 v_x993)), dd, dd, dd, dd, dd, dd, dd, dd, dd, dd, dd, dd, dd, dd, dd, dd, dd, dd, dd, dd, dd, dd, dd, dd, dd, dd, dd, dd, dd, dd, dd, dd, dd, dd, dd, dd, dd, dd, dd, dd, dd, dd, dd, dd, dd, dd, dd, dd, dd, dd, dd, dd, dd, dd, dd, dd, dd], [.gh 0 (.ref 1 0), .box ((cS_proc_Table v_b994).map FV.d)]⟩
  | .x1 v_some995 => ⟨[dd, dd, dd, dd, dd, dd, dd, dd, .d (.v (.bool v_some995)), dd, dd, dd, dd, dd, dd, dd, dd, dd, dd, dd, dd, dd, dd, dd, dd, dd, dd, dd, dd, dd, dd, dd, dd, dd, dd, dd, dd, dd, dd, dd, dd, dd, dd, dd, dd, dd, dd, dd, dd, dd, dd, dd, dd, dd, dd, dd, dd, dd, dd, dd, dd, dd, dd, dd], [.gh 0 (.ref 1 0), .box ((cS_proc_Table v_r962.2).map FV.d)]⟩
def G_proc_Table_Wait_h_L2_hd (v_p961 : Int) (v_r962 : (Int × S_proc_Table)) (v_some963 : Bool) (v_x964 : Int) : PS := ⟨[.ref 1 0, .d (.v (.int .i64 v_p961)), dd, dd, dd, dd, dd, dd, .d (.v (.bool v_some963)), dd, dd, dd, dd, dd, dd, dd, dd, .d (.v (.int .i64 v_x964)), dd, dd, dd, dd, dd, dd, dd, dd, dd, dd, dd, dd, dd, dd, dd, dd, dd, dd, dd, dd, dd, dd, dd, dd, dd, dd, dd, dd, dd, dd, dd, dd, dd, dd, dd, dd, dd, dd, dd, dd, dd, dd, dd, dd, dd, dd], [.gh 0 (.ref 1 0), .box ((cS_proc_Table v_r962.2).map FV.d)]⟩
def G_proc_Table_Wait_h_L2 (n : Nat) (v_p961 : Int) (v_r962 : (Int × S_proc_Table)) : Nat → Bool → Int → Option G_proc_Table_Wait_h_L2_R
  | 0, _, _ => none
  | k + 1, v_some963, v_x964 =>
    if v_x964 < 17 then
     (G_proc_Table_Wait_h_C1 n v_p961 v_some963 v_x964 v_r962).bind fun v_o984 => match v_o984 with
     | .x0 v_z985 =>
       if v_z985 = true then
        G_proc_Table_Wait_h_L2 n v_p961 v_r962 k v_some963 (wi .i64 (v_x964 + 1))
       else
        if 0 ≤ v_x964 ∧ v_x964 < (17 : Int) then
         (getA v_r962.2.fl v_x964).bind fun (v_y986 : S_proc_entry) =>
         if v_y986.fstate = 2 then
          if 0 ≤ v_x964 ∧ v_x964 < (17 : Int) then
           (getA v_r962.2.fl v_x964).bind fun (v_y989 : S_proc_entry) =>
           if 0 ≤ v_x964 ∧ v_x964 < (17 : Int) then
            (getA v_r962.2.fl v_x964).bind fun (v_y990 : S_proc_entry) =>
            some (.x0 v_x964 v_y989.fstatus 0 (S_proc_Table.mk (setA v_r962.2.fl v_x964 (S_proc_entry.mk 0 0 0 0))))
           else none
          else none
         else
          G_proc_Table_Wait_h_L2 n v_p961 v_r962 k true (wi .i64 (v_x964 + 1))
        else none
    else
     some (.x1 v_some963)
theorem G_proc_Table_Wait_h_L2_ok {Fi : Ex → PS → Prop} (hF : KC 64 Fi) (ks : List Fr) (n : Nat) (v_p961 : Int) (v_r962 : (Int × S_proc_Table))  : ∀ (k : Nat) (v_some963 : Bool) (v_x964 : Int) (o : G_proc_Table_Wait_h_L2_R), G_proc_Table_Wait_h_L2 n v_p961 v_r962 k v_some963 v_x964 = some o → RunE Try.prog 64 Fi ks (G_proc_Table_Wait_h_L2_ex o) (G_proc_Table_Wait_h_L2_st v_p961 v_r962 o) → RunE Try.prog 64 Fi (.l k (cP (cB (cR (cL (cR (cR (cR (bodyOf Try.f107)))))))) :: ks) .normal (G_proc_Table_Wait_h_L2_hd v_p961 v_r962 v_some963 v_x964)
  | 0, v_some963, v_x964, o, h, q => by rw [G_proc_Table_Wait_h_L2] at h; cases h
  | k + 1, v_some963, v_x964, o, h, q => by
    rw [G_proc_Table_Wait_h_L2] at h
    by_cases h1007 : v_x964 < 17
    · rw [if_pos h1007] at h
      obtain ⟨v_o984, h1042, h⟩ := bind_some h
      refine pkk_sound TTok mix hF 12 (hs := [.t true]) (ts := []) (s := [0, 1]) (l := [0, 1, 8, 9, 17]) (by kernel_rfl) (by kernel_rfl) (.cons (dt h1007) .nil) (G_proc_Table_Wait_h_C1_ok hF (.s (cR (cL (cR (cB (cL (cR (cR (cP (cB (cR (cL (cR (cR (cR (bodyOf Try.f107))))))))))))))) :: .s (cR (cR (cB (cL (cR (cR (cP (cB (cR (cL (cR (cR (cR (bodyOf Try.f107)))))))))))))) :: .b 1 :: .s (cR (cR (cR (cP (cB (cR (cL (cR (cR (cR (bodyOf Try.f107))))))))))) :: .l k (cP (cB (cR (cL (cR (cR (cR (bodyOf Try.f107)))))))) :: ks) n v_p961 v_some963 v_x964 v_r962 _ h1042 ?_)
      cases v_o984 with
      | x0 v_z985 =>
        try dsimp only at h
        by_cases h1043 : v_z985 = true
        · rw [if_pos h1043] at h
          exact pkk_sound TTok mix hF 5 (hs := [.t true]) (ts := []) (s := [0, 1]) (l := [0, 1, 8, 17]) (by kernel_rfl) (by kernel_rfl) (.cons h1043 .nil) (G_proc_Table_Wait_h_L2_ok hF ks n v_p961 v_r962 k v_some963 (wi .i64 (v_x964 + 1)) _ h q)
        · rw [if_neg h1043] at h
          by_cases h1044 : 0 ≤ v_x964 ∧ v_x964 < (17 : Int)
          · rw [if_pos h1044] at h
            obtain ⟨v_y986, h1045, h⟩ := bind_some h
            by_cases h1051 : v_y986.fstate = 2
            · rw [if_pos h1051] at h
              by_cases h1052 : 0 ≤ v_x964 ∧ v_x964 < (17 : Int)
              · rw [if_pos h1052] at h
                obtain ⟨v_y989, h1053, h⟩ := bind_some h
                by_cases h1054 : 0 ≤ v_x964 ∧ v_x964 < (17 : Int)
                · rw [if_pos h1054] at h
                  obtain ⟨v_y990, h1055, h⟩ := bind_some h
                  cases h
                  exact pkk_sound TTok mix hF 17 (hs := [.t false, .l (.d (.v (.int .i64 v_y986.fstate))), .t true, .l (.d (.v (.int .i64 v_y989.fstatus))), .x ((cS_proc_Table (S_proc_Table.mk (setA v_r962.2.fl v_x964 (S_proc_entry.mk 0 0 0 0)))).map FV.d), .c]) (ts := []) (s := [0, 1]) (l := [4, 5, 6]) (by kernel_rfl) (by kernel_rfl) (.cons (vf h1043) (.cons h1044 (.cons (arr_cell (γ := FV) (sz := 4) (g := (fun x => [.d (.v (.int .i64 x.fstate)), .d (.v (.int .i64 x.fparent)), .d (.v (.int .i64 x.fgroup)), .d (.v (.int .i64 x.fstatus))])) (pre := []) (post := []) (o := 0) (fun _ => rfl) h1045 rfl) (.cons (bt h1051) (.cons h1052 (.cons (arr_cell (γ := FV) (sz := 4) (g := (fun x => [.d (.v (.int .i64 x.fstate)), .d (.v (.int .i64 x.fparent)), .d (.v (.int .i64 x.fgroup)), .d (.v (.int .i64 x.fstatus))])) (pre := []) (post := []) (o := 3) (fun _ => rfl) h1053 rfl) (.cons h1054 (.cons (arr_store (γ := FV) (sz := 4) (g := (fun x => [.d (.v (.int .i64 x.fstate)), .d (.v (.int .i64 x.fparent)), .d (.v (.int .i64 x.fgroup)), .d (.v (.int .i64 x.fstatus))])) (pre := []) (post := []) (o := 0) (y := (S_proc_entry.mk 0 0 0 0)) (zs := [.d (.v (.int .i64 0)), .d (.v (.int .i64 0)), .d (.v (.int .i64 0)), .d (.v (.int .i64 0))]) (fun _ => rfl) h1055 rfl (Nat.le_of_ble_eq_true rfl)).1 (.cons (arr_store (γ := FV) (sz := 4) (g := (fun x => [.d (.v (.int .i64 x.fstate)), .d (.v (.int .i64 x.fparent)), .d (.v (.int .i64 x.fgroup)), .d (.v (.int .i64 x.fstatus))])) (pre := []) (post := []) (o := 0) (y := (S_proc_entry.mk 0 0 0 0)) (zs := [.d (.v (.int .i64 0)), .d (.v (.int .i64 0)), .d (.v (.int .i64 0)), .d (.v (.int .i64 0))]) (fun _ => rfl) h1055 rfl (Nat.le_of_ble_eq_true rfl)).2 .nil))))))))) q
                · rw [if_neg h1054] at h; cases h
              · rw [if_neg h1052] at h; cases h
            · rw [if_neg h1051] at h
              exact pkk_sound TTok mix hF 10 (hs := [.t false, .l (.d (.v (.int .i64 v_y986.fstate))), .t false]) (ts := []) (s := [0, 1]) (l := [0, 1, 8, 17]) (by kernel_rfl) (by kernel_rfl) (.cons (vf h1043) (.cons h1044 (.cons (arr_cell (γ := FV) (sz := 4) (g := (fun x => [.d (.v (.int .i64 x.fstate)), .d (.v (.int .i64 x.fparent)), .d (.v (.int .i64 x.fgroup)), .d (.v (.int .i64 x.fstatus))])) (pre := []) (post := []) (o := 0) (fun _ => rfl) h1045 rfl) (.cons (bf h1051) .nil)))) (G_proc_Table_Wait_h_L2_ok hF ks n v_p961 v_r962 k true (wi .i64 (v_x964 + 1)) _ h q)
          · rw [if_neg h1044] at h; cases h
    · rw [if_neg h1007] at h
      cases h
      exact pkk_sound TTok mix hF 8 (hs := [.t false]) (ts := []) (s := [0, 1]) (l := [8]) (by kernel_rfl) (by kernel_rfl) (.cons (df h1007) .nil) q
/- (*ringhall/proc.Table).Wait -/
def G_proc_Table_Wait_h (n : Nat) (v_t960 : S_proc_Table) (v_p961 : Int) : Option (Int × Int × Int × S_proc_Table) :=
  (G_proc_Table_living_h n v_t960 v_p961).bind fun (v_r962 : (Int × S_proc_Table)) =>
  if v_r962.1 = 0 then
   (G_proc_Table_Wait_h_L2 n v_p961 v_r962 n false 0).bind fun v_o996 => match v_o996 with
   | .x0 v_z997 v_z998 v_z999 v_z1000 =>
     some (v_z997, v_z998, v_z999, v_z1000)
   | .x1 v_z1001 =>
     if v_z1001 = true then
      some (0, 0, 9, v_r962.2)
     else
      some (0, 0, 4, v_r962.2)
  else
   some (0, 0, v_r962.1, v_r962.2)
theorem G_proc_Table_Wait_h_ok (n : Nat) (v_t960 : S_proc_Table) (v_p961 : Int) (r : Int × Int × Int × S_proc_Table) (h : G_proc_Table_Wait_h n v_t960 v_p961 = some r) : RetH Try.prog 107 [.ref 0 0, .d ((eI .i64) v_p961)] [.box ((cS_proc_Table v_t960).map FV.d)] (.tup [.d ((eI .i64) r.1), .d ((eI .i64) r.2.1), .d ((eI .i64) r.2.2.1)]) [.box ((cS_proc_Table r.2.2.2).map FV.d)] := by
  refine retH_run (n := 64) (fn := Try.f107) (c := bodyOf Try.f107) (by kernel_rfl) (by kernel_rfl) (by kernel_rfl) (by kernel_rfl) ?_
  have hF : KC 64 (FinH Try.prog Try.f107 [.box ((cS_proc_Table v_t960).map FV.d)] (.tup [.d ((eI .i64) r.1), .d ((eI .i64) r.2.1), .d ((eI .i64) r.2.2.1)]) [.box ((cS_proc_Table r.2.2.2).map FV.d)]) := FinH.kc' (by kernel_rfl)
  unfold G_proc_Table_Wait_h at h
  obtain ⟨v_r962, h1004, h⟩ := bind_some h
  by_cases h1006 : v_r962.1 = 0
  · rw [if_pos h1006] at h
    obtain ⟨v_o996, h1056, h⟩ := bind_some h
    refine pkk_sound TTok mix hF 16 (hs := [.h [0] [] [.box ((cS_proc_Table v_r962.2).map FV.d)] (.d (.v (.int .i64 v_r962.1))), .t false, .n n]) (ts := []) (s := [1, 0]) (l := [0, 1, 8, 17]) (by kernel_rfl) (by kernel_rfl) (.cons (G_proc_Table_living_h_ok n v_t960 v_p961 _ h1004) (.cons (nf h1006) .nil)) (G_proc_Table_Wait_h_L2_ok hF (.b 0 :: .s (cR (cR (cR (cR (bodyOf Try.f107))))) :: []) n v_p961 v_r962 n false 0 _ h1056 ?_)
    cases v_o996 with
    | x0 v_z997 v_z998 v_z999 v_z1000 =>
      try dsimp only at h
      obtain rfl := Option.some.inj h
      exact pendH_sound TTok mix 2 (hs := []) [1] (by kernel_rfl) (by kernel_rfl) (by kernel_rfl) .nil
    | x1 v_z1001 =>
      try dsimp only at h
      by_cases h1058 : v_z1001 = true
      · rw [if_pos h1058] at h
        obtain rfl := Option.some.inj h
        exact pendH_sound TTok mix 9 (hs := [.t true]) [1] (by kernel_rfl) (by kernel_rfl) (by kernel_rfl) (.cons h1058 .nil)
      · rw [if_neg h1058] at h
        obtain rfl := Option.some.inj h
        exact pendH_sound TTok mix 9 (hs := [.t false]) [1] (by kernel_rfl) (by kernel_rfl) (by kernel_rfl) (.cons (vf h1058) .nil)
  · rw [if_neg h1006] at h
    obtain rfl := Option.some.inj h
    exact pendH_sound TTok mix 12 (hs := [.h [0] [] [.box ((cS_proc_Table v_r962.2).map FV.d)] (.d (.v (.int .i64 v_r962.1))), .t true]) [0] (by kernel_rfl) (by kernel_rfl) (by kernel_rfl) (.cons (G_proc_Table_living_h_ok n v_t960 v_p961 _ h1004) (.cons (nt h1006) .nil))
/- slices.Delete[ringhall/ringref5.Procs,ringhall/ringref5.Proc] -/
def G_slices_Delete_ringref5_Procs_ringref5_Proc_h (n : Nat) (v_s1010 : (List S_ringref5_Proc)) (v_i1011 : Int) (v_j1012 : Int) : Option ((List S_ringref5_Proc)) :=
  if (0 ≤ v_i1011 ∧ v_i1011 ≤ v_j1012 ∧ v_j1012 ≤ (v_s1010.length : Int) ∧ (v_s1010.length : Int) ≤ (v_s1010.length : Int)) then
   if v_i1011 = v_j1012 then
    some v_s1010
   else
    if (0 ≤ v_i1011 ∧ v_i1011 ≤ (v_s1010.length : Int)) then
     if (0 ≤ v_j1012 ∧ v_j1012 ≤ (v_s1010.length : Int)) then
      if v_i1011.toNat ≤ v_j1012.toNat ∧ v_j1012.toNat ≤ v_s1010.length ∧ v_s1010.length ≤ v_s1010.length then
       if (0 ≤ (((v_i1011.toNat + (v_s1010.length - v_j1012.toNat)) : Nat) : Int) ∧ (((v_i1011.toNat + (v_s1010.length - v_j1012.toNat)) : Nat) : Int) ≤ (v_s1010.length : Int) ∧ (v_s1010.length : Int) ≤ ((delR v_s1010 v_i1011.toNat v_j1012.toNat v_s1010.length).length : Int)) then
        if ((v_i1011.toNat + (v_s1010.length - v_j1012.toNat)) : Nat) ≤ v_s1010.length ∧ v_s1010.length ≤ (delR v_s1010 v_i1011.toNat v_j1012.toNat v_s1010.length).length then
         if (v_i1011.toNat + (v_s1010.length - v_j1012.toNat)) ≤ (clrR (delR v_s1010 v_i1011.toNat v_j1012.toNat v_s1010.length) ((v_i1011.toNat + (v_s1010.length - v_j1012.toNat)) : Nat) v_s1010.length (S_ringref5_Proc.mk 0 0 0 0 false)).length then
          some ((clrR (delR v_s1010 v_i1011.toNat v_j1012.toNat v_s1010.length) ((v_i1011.toNat + (v_s1010.length - v_j1012.toNat)) : Nat) v_s1010.length (S_ringref5_Proc.mk 0 0 0 0 false)).take (v_i1011.toNat + (v_s1010.length - v_j1012.toNat)))
         else none
        else none
       else none
      else none
     else none
    else none
  else none
theorem G_slices_Delete_ringref5_Procs_ringref5_Proc_h_ok (n : Nat) (v_s1010 : (List S_ringref5_Proc)) (v_i1011 : Int) (v_j1012 : Int) (r : (List S_ringref5_Proc)) (h : G_slices_Delete_ringref5_Procs_ringref5_Proc_h n v_s1010 v_i1011 v_j1012 = some r) : RetH Try.prog 151 [.srf 0, .d ((eI .i64) v_i1011), .d ((eI .i64) v_j1012)] [.row 180 5 (v_s1010.map eS_ringref5_Proc)] (.srf 1) [.none, .row 180 5 (r.map eS_ringref5_Proc)] := by
  refine retH_run (n := 33) (fn := Try.f151) (c := bodyOf Try.f151) (by kernel_rfl) (by kernel_rfl) (by kernel_rfl) (by kernel_rfl) ?_
  have hF : KC 33 (FinH Try.prog Try.f151 [.row 180 5 (v_s1010.map eS_ringref5_Proc)] (.srf 1) [.none, .row 180 5 (r.map eS_ringref5_Proc)]) := FinH.kc' (by kernel_rfl)
  unfold G_slices_Delete_ringref5_Procs_ringref5_Proc_h at h
  by_cases h1067 : (0 ≤ v_i1011 ∧ v_i1011 ≤ v_j1012 ∧ v_j1012 ≤ (v_s1010.length : Int) ∧ (v_s1010.length : Int) ≤ (v_s1010.length : Int))
  · rw [if_pos h1067] at h
    by_cases h1068 : v_i1011 = v_j1012
    · rw [if_pos h1068] at h
      obtain rfl := Option.some.inj h
      exact pendH_sound TTok mix 13 (hs := [.u (.d (.v (.int .i64 (v_s1010.length : Int)))), .e 20 [0] (dd) [], .t true, .dl 4, .mv 0]) [0, 38] (by kernel_rfl) (by kernel_rfl) (by kernel_rfl) (.cons (len_ob (f := eS_ringref5_Proc) (l := v_s1010)) (.cons (xs111 (P := Try.prog) (T := TT) (f := eS_ringref5_Proc) (t := 163) (e := 180) (s := 5) (l := 0) (L := v_s1010) (x := (.tmp 8)) (lo := (.tmp 9)) (hi := (.tmp 10)) (mx := (.tmp 12)) (a := v_i1011) (ka := .i64) (b := v_j1012) (kb := .i64) (c := (v_s1010.length : Int)) (kc := .i64) (by kernel_rfl) h1067) (.cons (bt h1068) .nil)))
    · rw [if_neg h1068] at h
      by_cases h1069 : (0 ≤ v_i1011 ∧ v_i1011 ≤ (v_s1010.length : Int))
      · rw [if_pos h1069] at h
        by_cases h1070 : (0 ≤ v_j1012 ∧ v_j1012 ≤ (v_s1010.length : Int))
        · rw [if_pos h1070] at h
          by_cases h1071 : v_i1011.toNat ≤ v_j1012.toNat ∧ v_j1012.toNat ≤ v_s1010.length ∧ v_s1010.length ≤ v_s1010.length
          · rw [if_pos h1071] at h
            by_cases h1072 : (0 ≤ (((v_i1011.toNat + (v_s1010.length - v_j1012.toNat)) : Nat) : Int) ∧ (((v_i1011.toNat + (v_s1010.length - v_j1012.toNat)) : Nat) : Int) ≤ (v_s1010.length : Int) ∧ (v_s1010.length : Int) ≤ ((delR v_s1010 v_i1011.toNat v_j1012.toNat v_s1010.length).length : Int))
            · rw [if_pos h1072] at h
              by_cases h1073 : ((v_i1011.toNat + (v_s1010.length - v_j1012.toNat)) : Nat) ≤ v_s1010.length ∧ v_s1010.length ≤ (delR v_s1010 v_i1011.toNat v_j1012.toNat v_s1010.length).length
              · rw [if_pos h1073] at h
                by_cases h1074 : (v_i1011.toNat + (v_s1010.length - v_j1012.toNat)) ≤ (clrR (delR v_s1010 v_i1011.toNat v_j1012.toNat v_s1010.length) ((v_i1011.toNat + (v_s1010.length - v_j1012.toNat)) : Nat) v_s1010.length (S_ringref5_Proc.mk 0 0 0 0 false)).length
                · rw [if_pos h1074] at h
                  obtain rfl := Option.some.inj h
                  exact pendH_sound TTok mix 18 (hs := [.u (.d (.v (.int .i64 (v_s1010.length : Int)))), .e 20 [0] (dd) [], .t false, .u (.d (.v (.int .i64 (v_s1010.length : Int)))), .e 47 [0] (.ssl 0 0 v_i1011.toNat 5) [], .e 56 [0] (.ssl 0 v_j1012.toNat v_s1010.length 5) [], .e 59 [0] (.ssl 0 0 (v_i1011.toNat + (v_s1010.length - v_j1012.toNat)) 5) [(0, .row 180 5 ((delR v_s1010 v_i1011.toNat v_j1012.toNat v_s1010.length).map eS_ringref5_Proc))], .e 71 [] (.d (.v (.int .i64 (((v_i1011.toNat + (v_s1010.length - v_j1012.toNat)) : Nat) : Int)))) [], .e 77 [0] (.ssl 0 ((v_i1011.toNat + (v_s1010.length - v_j1012.toNat)) : Nat) v_s1010.length 5) [], .e 80 [0] (dd) [(0, .row 180 5 ((clrR (delR v_s1010 v_i1011.toNat v_j1012.toNat v_s1010.length) ((v_i1011.toNat + (v_s1010.length - v_j1012.toNat)) : Nat) v_s1010.length (S_ringref5_Proc.mk 0 0 0 0 false)).map eS_ringref5_Proc))], .e 83 [0, 83] (.srf 83) [(0, .none), (83, .row 180 5 (((clrR (delR v_s1010 v_i1011.toNat v_j1012.toNat v_s1010.length) ((v_i1011.toNat + (v_s1010.length - v_j1012.toNat)) : Nat) v_s1010.length (S_ringref5_Proc.mk 0 0 0 0 false)).take (v_i1011.toNat + (v_s1010.length - v_j1012.toNat))).map eS_ringref5_Proc))]]) [0, 83] (by kernel_rfl) (by kernel_rfl) (by kernel_rfl) (.cons (len_ob (f := eS_ringref5_Proc) (l := v_s1010)) (.cons (xs111 (P := Try.prog) (T := TT) (f := eS_ringref5_Proc) (t := 163) (e := 180) (s := 5) (l := 0) (L := v_s1010) (x := (.tmp 8)) (lo := (.tmp 9)) (hi := (.tmp 10)) (mx := (.tmp 12)) (a := v_i1011) (ka := .i64) (b := v_j1012) (kb := .i64) (c := (v_s1010.length : Int)) (kc := .i64) (by kernel_rfl) h1067) (.cons (bf h1068) (.cons (len_ob (f := eS_ringref5_Proc) (l := v_s1010)) (.cons (xs01 (P := Try.prog) (T := TT) (f := eS_ringref5_Proc) (t := 163) (e := 180) (s := 5) (l := 0) (L := v_s1010) (x := (.tmp 20)) (hi := (.tmp 21)) (b := v_i1011) (kb := .i64) (by kernel_rfl) h1069) (.cons (xs10 (P := Try.prog) (T := TT) (f := eS_ringref5_Proc) (t := 163) (e := 180) (s := 5) (l := 0) (L := v_s1010) (x := (.tmp 23)) (lo := (.tmp 24)) (a := v_j1012) (ka := .i64) (by kernel_rfl) h1070) (.cons (xapp (ti := ⟨5, 40, .st [(0, 3), (1, 3), (2, 3), (3, 3), (4, 4)], [.i .i64, .i .i64, .i .i64, .i .i64, .b]⟩) (P := Try.prog) (T := TT) (f := eS_ringref5_Proc) (t := 163) (e := 180) (s := 5) (l := 0) (i := v_i1011.toNat) (j := v_j1012.toNat) (q := v_s1010.length) (L := v_s1010) (x := (.tmp 22)) (y := (.tmp 25)) (by kernel_rfl) (by kernel_rfl) h1071) (.cons (xlen (P := Try.prog) (T := TT) (t := 163) (e := 180) (s := 5) (l := 0) (i := 0) (j := (v_i1011.toNat + (v_s1010.length - v_j1012.toNat))) (x := (.tmp 28)) (by kernel_rfl)) (.cons (xt11 (P := Try.prog) (T := TT) (f := eS_ringref5_Proc) (t := 163) (e := 180) (s := 5) (l := 0) (L := (delR v_s1010 v_i1011.toNat v_j1012.toNat v_s1010.length)) (x := (.tmp 27)) (lo := (.tmp 29)) (hi := (.tmp 30)) (a := (((v_i1011.toNat + (v_s1010.length - v_j1012.toNat)) : Nat) : Int)) (ka := .i64) (b := (v_s1010.length : Int)) (kb := .i64) (i := (v_i1011.toNat + (v_s1010.length - v_j1012.toNat))) (by kernel_rfl) h1072) (.cons (xclr (ti := ⟨5, 40, .st [(0, 3), (1, 3), (2, 3), (3, 3), (4, 4)], [.i .i64, .i .i64, .i .i64, .i .i64, .b]⟩) (P := Try.prog) (T := TT) (f := eS_ringref5_Proc) (t := 163) (e := 180) (s := 5) (l := 0) (i := ((v_i1011.toNat + (v_s1010.length - v_j1012.toNat)) : Nat)) (j := v_s1010.length) (z := (S_ringref5_Proc.mk 0 0 0 0 false)) (L := (delR v_s1010 v_i1011.toNat v_j1012.toNat v_s1010.length)) (x := (.tmp 31)) (p := .agg [.v (.int .i64 0), .v (.int .i64 0), .v (.int .i64 0), .v (.int .i64 0), .v (.bool false)]) (by kernel_rfl) (by kernel_rfl) (by kernel_rfl) (by kernel_rfl) (by decide) rfl h1073) (.cons (xmv (P := Try.prog) (T := TT) (f := eS_ringref5_Proc) (e := 180) (s := 5) (l := 0) (nl := 83) (L := (clrR (delR v_s1010 v_i1011.toNat v_j1012.toNat v_s1010.length) ((v_i1011.toNat + (v_s1010.length - v_j1012.toNat)) : Nat) v_s1010.length (S_ringref5_Proc.mk 0 0 0 0 false))) (i := (v_i1011.toNat + (v_s1010.length - v_j1012.toNat))) (x := (.tmp 0)) h1074) .nil)))))))))))
                · rw [if_neg h1074] at h; cases h
              · rw [if_neg h1073] at h; cases h
            · rw [if_neg h1072] at h; cases h
          · rw [if_neg h1071] at h; cases h
        · rw [if_neg h1070] at h; cases h
      · rw [if_neg h1069] at h; cases h
  · rw [if_neg h1067] at h; cases h
inductive G_ringref5_Procs_Waited_h_L1_R where
  | x0 (v_x1021 : Int) (v_x1022 : Int) (v_x1023 : Int) (v_w1024 : (List S_ringref5_Proc))
  | x1 (v_e1025 : Int) (v_w1026 : (List S_ringref5_Proc))
def G_ringref5_Procs_Waited_h_L1_ex : G_ringref5_Procs_Waited_h_L1_R → Ex
  | .x0 _ _ _ _ => .ret
  | .x1 _ _ => .exit 0
def G_ringref5_Procs_Waited_h_L1_st (v_p1004 : Int) (v_l1003 : (List S_ringref5_Proc)) : G_ringref5_Procs_Waited_h_L1_R → PS
  | .x0 v_x1021 v_x1022 v_x1023 v_w1024 => ⟨[dd, dd, dd, dd, .srf 2, .d (.v (.int .i64 v_x1021)), .d (.v (.int .i64 v_x1022)), .d (.v (.int .i64 v_x1023)), dd, dd, dd, dd, dd, dd, dd, dd, dd, dd, dd, dd, dd, dd, dd, dd, dd, dd, dd, dd, dd, dd, dd, dd, dd, dd, dd, dd, dd], [.gh 0 (.srf 1), .none, .row 180 5 (v_w1024.map eS_ringref5_Proc)]⟩
  | .x1 v_e1025 v_w1026 => ⟨[.srf 1, dd, dd, dd, dd, dd, dd, dd, .d (.v (.int .i64 v_e1025)), dd, dd, dd, dd, dd, dd, dd, dd, dd, dd, dd, dd, dd, dd, dd, dd, dd, dd, dd, dd, dd, dd, dd, dd, dd, dd, dd, dd], [.gh 0 (.srf 1), .row 180 5 (v_w1026.map eS_ringref5_Proc)]⟩
def G_ringref5_Procs_Waited_h_L1_hd (v_p1004 : Int) (v_l1003 : (List S_ringref5_Proc)) (v_e1005 : Int) (v_x1006 : Int) (v_w1007 : (List S_ringref5_Proc)) : PS := ⟨[.srf 1, .d (.v (.int .i64 v_p1004)), dd, dd, dd, dd, dd, dd, .d (.v (.int .i64 v_e1005)), dd, dd, .srf 1, .d (.v (.int .i64 (v_l1003.length : Int))), .d (.v (.int .i64 v_x1006)), dd, dd, dd, dd, dd, dd, dd, dd, dd, dd, dd, dd, dd, dd, dd, dd, dd, dd, dd, dd, dd, dd, dd], [.gh 0 (.srf 1), .row 180 5 (v_w1007.map eS_ringref5_Proc)]⟩
def G_ringref5_Procs_Waited_h_L1 (n : Nat) (v_p1004 : Int) (v_l1003 : (List S_ringref5_Proc)) : Nat → Int → Int → (List S_ringref5_Proc) → Option G_ringref5_Procs_Waited_h_L1_R
  | 0, _, _, _ => none
  | k + 1, v_e1005, v_x1006, v_w1007 =>
    if v_x1006 < (v_l1003.length : Int) then
     if 0 ≤ v_x1006 ∧ (v_x1006).toNat < v_w1007.length then
      (v_w1007[(v_x1006).toNat]?).bind fun (v_y1016 : S_ringref5_Proc) =>
      if v_y1016.fUp = v_p1004 then
       if v_y1016.fEnded = true then
        (G_slices_Clone_ringref5_Procs_ringref5_Proc n v_w1007).bind fun (v_r1019 : ((List S_ringref5_Proc))) =>
        (G_slices_Delete_ringref5_Procs_ringref5_Proc_h n v_r1019 v_x1006 (wi .i64 (v_x1006 + 1))).bind fun (v_r1020 : ((List S_ringref5_Proc))) =>
        some (.x0 v_y1016.fId v_y1016.fStatus 0 v_r1020)
       else
        G_ringref5_Procs_Waited_h_L1 n v_p1004 v_l1003 k 9 (wi .i64 (v_x1006 + 1)) v_w1007
      else
       G_ringref5_Procs_Waited_h_L1 n v_p1004 v_l1003 k v_e1005 (wi .i64 (v_x1006 + 1)) v_w1007
     else none
    else
     some (.x1 v_e1005 v_w1007)
theorem G_ringref5_Procs_Waited_h_L1_ok {Fi : Ex → PS → Prop} (hF : KC 37 Fi) (ks : List Fr) (n : Nat) (v_p1004 : Int) (v_l1003 : (List S_ringref5_Proc))  : ∀ (k : Nat) (v_e1005 : Int) (v_x1006 : Int) (v_w1007 : (List S_ringref5_Proc)) (o : G_ringref5_Procs_Waited_h_L1_R), G_ringref5_Procs_Waited_h_L1 n v_p1004 v_l1003 k v_e1005 v_x1006 v_w1007 = some o → RunE Try.prog 37 Fi ks (G_ringref5_Procs_Waited_h_L1_ex o) (G_ringref5_Procs_Waited_h_L1_st v_p1004 v_l1003 o) → RunE Try.prog 37 Fi (.l k (cP (cB (cR (cL (cR (cR (bodyOf Try.f108))))))) :: ks) .normal (G_ringref5_Procs_Waited_h_L1_hd v_p1004 v_l1003 v_e1005 v_x1006 v_w1007)
  | 0, v_e1005, v_x1006, v_w1007, o, h, q => by rw [G_ringref5_Procs_Waited_h_L1] at h; cases h
  | k + 1, v_e1005, v_x1006, v_w1007, o, h, q => by
    rw [G_ringref5_Procs_Waited_h_L1] at h
    by_cases h1061 : v_x1006 < (v_l1003.length : Int)
    · rw [if_pos h1061] at h
      by_cases h1079 : 0 ≤ v_x1006 ∧ (v_x1006).toNat < v_w1007.length
      · rw [if_pos h1079] at h
        obtain ⟨v_y1016, h1080, h⟩ := bind_some h
        by_cases h1081 : v_y1016.fUp = v_p1004
        · rw [if_pos h1081] at h
          by_cases h1085 : v_y1016.fEnded = true
          · rw [if_pos h1085] at h
            obtain ⟨v_r1019, h1086, h⟩ := bind_some h
            obtain ⟨v_r1020, h1087, h⟩ := bind_some h
            cases h
            exact pkk_sound TTok mix hF 27 (hs := [.t true, .y (eS_ringref5_Proc v_y1016), .c, .c, .t false, .c, .t true, .dl 1, .fz 1, .h [] [] [.row 180 5 (v_r1019.map eS_ringref5_Proc)] (.srf 0), .h [44] [] [.none, .row 180 5 (v_r1020.map eS_ringref5_Proc)] (.srf 1), .c, .c]) (ts := []) (s := [0, 1, 56]) (l := [4, 5, 6, 7]) (by kernel_rfl) (by kernel_rfl) (.cons (dt h1061) (.cons (idx_ob (f := eS_ringref5_Proc) h1079) (.cons (get_ob (f := eS_ringref5_Proc) h1080) (.cons (show 0 + 5 ≤ 5 by decide) (.cons (nf h1081) (.cons h1085 (.cons (G_slices_Clone_ringref5_Procs_ringref5_Proc_ok n v_w1007 _ h1086) (.cons (G_slices_Delete_ringref5_Procs_ringref5_Proc_h_ok n v_r1019 v_x1006 (wi .i64 (v_x1006 + 1)) _ h1087) .nil)))))))) q
          · rw [if_neg h1085] at h
            exact pkk_sound TTok mix hF 23 (hs := [.t true, .y (eS_ringref5_Proc v_y1016), .c, .c, .t false, .c, .t false]) (ts := []) (s := [0, 1]) (l := [0, 1, 8, 11, 12, 13]) (by kernel_rfl) (by kernel_rfl) (.cons (dt h1061) (.cons (idx_ob (f := eS_ringref5_Proc) h1079) (.cons (get_ob (f := eS_ringref5_Proc) h1080) (.cons (show 0 + 5 ≤ 5 by decide) (.cons (nf h1081) (.cons (vf h1085) .nil)))))) (G_ringref5_Procs_Waited_h_L1_ok hF ks n v_p1004 v_l1003 k 9 (wi .i64 (v_x1006 + 1)) v_w1007 _ h q)
        · rw [if_neg h1081] at h
          exact pkk_sound TTok mix hF 18 (hs := [.t true, .y (eS_ringref5_Proc v_y1016), .c, .c, .t true]) (ts := []) (s := [0, 1]) (l := [0, 1, 8, 11, 12, 13]) (by kernel_rfl) (by kernel_rfl) (.cons (dt h1061) (.cons (idx_ob (f := eS_ringref5_Proc) h1079) (.cons (get_ob (f := eS_ringref5_Proc) h1080) (.cons (show 0 + 5 ≤ 5 by decide) (.cons (nt h1081) .nil))))) (G_ringref5_Procs_Waited_h_L1_ok hF ks n v_p1004 v_l1003 k v_e1005 (wi .i64 (v_x1006 + 1)) v_w1007 _ h q)
      · rw [if_neg h1079] at h; cases h
    · rw [if_neg h1061] at h
      cases h
      exact pkk_sound TTok mix hF 8 (hs := [.t false]) (ts := []) (s := [0, 1]) (l := [0, 8]) (by kernel_rfl) (by kernel_rfl) (.cons (df h1061) .nil) q
/- (ringhall/ringref5.Procs).Waited -/
def G_ringref5_Procs_Waited_h (n : Nat) (v_l1003 : (List S_ringref5_Proc)) (v_p1004 : Int) : Option ((List S_ringref5_Proc) × Int × Int × Int) :=
  (G_ringref5_Procs_Waited_h_L1 n v_p1004 v_l1003 n 4 0 v_l1003).bind fun v_o1027 => match v_o1027 with
  | .x0 v_z1028 v_z1029 v_z1030 v_z1031 =>
    some (v_z1031, v_z1028, v_z1029, v_z1030)
  | .x1 v_z1032 v_z1033 =>
    some (v_z1033, 0, 0, v_z1032)
theorem G_ringref5_Procs_Waited_h_ok (n : Nat) (v_l1003 : (List S_ringref5_Proc)) (v_p1004 : Int) (r : (List S_ringref5_Proc) × Int × Int × Int) (h : G_ringref5_Procs_Waited_h n v_l1003 v_p1004 = some r) : RetH Try.prog 108 [.srf 0, .d ((eI .i64) v_p1004)] [.row 180 5 (v_l1003.map eS_ringref5_Proc)] (.tup [.srf 1, .d ((eI .i64) r.2.1), .d ((eI .i64) r.2.2.1), .d ((eI .i64) r.2.2.2)]) [.none, .row 180 5 (r.1.map eS_ringref5_Proc)] := by
  refine retH_run (n := 37) (fn := Try.f108) (c := bodyOf Try.f108) (by kernel_rfl) (by kernel_rfl) (by kernel_rfl) (by kernel_rfl) ?_
  have hF : KC 37 (FinH Try.prog Try.f108 [.row 180 5 (v_l1003.map eS_ringref5_Proc)] (.tup [.srf 1, .d ((eI .i64) r.2.1), .d ((eI .i64) r.2.2.1), .d ((eI .i64) r.2.2.2)]) [.none, .row 180 5 (r.1.map eS_ringref5_Proc)]) := FinH.kc' (by kernel_rfl)
  unfold G_ringref5_Procs_Waited_h at h
  obtain ⟨v_o1027, h1088, h⟩ := bind_some h
  refine pkk_sound TTok mix hF 9 (hs := [.u (.d (.v (.int .i64 (v_l1003.length : Int)))), .n n]) (ts := []) (s := [1, 0]) (l := [0, 1, 8, 11, 12, 13]) (by kernel_rfl) (by kernel_rfl) (.cons (len_ob (f := eS_ringref5_Proc) (l := v_l1003)) .nil) (G_ringref5_Procs_Waited_h_L1_ok hF (.b 0 :: .s (cR (cR (cR (bodyOf Try.f108)))) :: []) n v_p1004 v_l1003 n 4 0 v_l1003 _ h1088 ?_)
  cases v_o1027 with
  | x0 v_z1028 v_z1029 v_z1030 v_z1031 =>
    try dsimp only at h
    obtain rfl := Option.some.inj h
    exact pendH_sound TTok mix 2 (hs := []) [1, 2] (by kernel_rfl) (by kernel_rfl) (by kernel_rfl) .nil
  | x1 v_z1032 v_z1033 =>
    try dsimp only at h
    obtain rfl := Option.some.inj h
    exact pendH_sound TTok mix 5 (hs := [.dl 4, .mv 1]) [1, 20] (by kernel_rfl) (by kernel_rfl) (by kernel_rfl) .nil
/- ringhall/ringlaw5.ProcPlays$1 -/
def G_ringlaw5_ProcPlays_1 (n : Nat) (v_x1063 : S_ringref5_Proc) (v_c1064 : S_ringlaw5_Deed) : Option (Bool) :=
  some (v_x1063.fGroup == v_c1064.fN)
theorem G_ringlaw5_ProcPlays_1_ok (n : Nat) (v_x1063 : S_ringref5_Proc) (v_c1064 : S_ringlaw5_Deed) (r : Bool) (h : G_ringlaw5_ProcPlays_1 n v_x1063 v_c1064 = some r) : Ret Try.prog 110 [eS_ringref5_Proc v_x1063, .iptr [.v (.int .i64 v_c1064.fKind), .v (.int .i64 v_c1064.fP), .v (.int .i64 v_c1064.fN)] 0] (eB r) := by
  refine ret_run (n := 9) (fn := Try.f110) (c := bodyOf Try.f110) (by kernel_rfl) (by kernel_rfl) (by kernel_rfl) (by kernel_rfl) ?_
  have hF : KC 9 (FinR Try.prog Try.f110 (eB r)) := FinR.kc' (by kernel_rfl)
  unfold G_ringlaw5_ProcPlays_1 at h
  obtain rfl := Option.some.inj h
  exact pend_sound TTok mix 5 (hs := [.c, .c]) (by kernel_rfl) (by kernel_rfl) (by kernel_rfl) .nil
inductive G_ringref5_Procs_Living_h_C1_R where
  | x0 (v_w1078 : (List S_ringref5_Proc)) (v_w1079 : (List Int))
def G_ringref5_Procs_Living_h_C1_ex : G_ringref5_Procs_Living_h_C1_R → Ex
  | .x0 _ _ => .normal
def G_ringref5_Procs_Living_h_C1_st (v_ok1066 : (S_ringref5_Proc → Option (Bool))) (v_l1065 : (List S_ringref5_Proc)) (v_x1067 : Int) (v_w1068 : (List S_ringref5_Proc)) (v_w1069 : (List Int)) (v_ok1066_g : FuncId) (v_ok1066_c : (List PV)) : G_ringref5_Procs_Living_h_C1_R → PS
  | .x0 v_w1078 v_w1079 => ⟨[dd, .d (.clo v_ok1066_g v_ok1066_c), dd, dd, dd, .srf 2, dd, dd, .srf 1, .d (.v (.int .i64 (v_l1065.length : Int))), .d (.v (.int .i64 v_x1067)), dd, dd, dd, dd, dd, dd, dd, dd, dd, dd, dd, dd, dd, dd, dd, dd, dd, dd], [.gh 0 (.srf 1), .row 180 5 (v_w1078.map eS_ringref5_Proc), .row 3 1 (v_w1079.map (eI .i64))]⟩
def G_ringref5_Procs_Living_h_C1_hd (v_ok1066 : (S_ringref5_Proc → Option (Bool))) (v_l1065 : (List S_ringref5_Proc)) (v_x1067 : Int) (v_w1068 : (List S_ringref5_Proc)) (v_w1069 : (List Int)) (v_ok1066_g : FuncId) (v_ok1066_c : (List PV))  : PS := ⟨[dd, .d (.clo v_ok1066_g v_ok1066_c), dd, dd, dd, .srf 2, dd, dd, .srf 1, .d (.v (.int .i64 (v_l1065.length : Int))), .d (.v (.int .i64 v_x1067)), dd, dd, dd, dd, dd, dd, dd, dd, dd, dd, dd, dd, dd, dd, dd, dd, dd, dd], [.gh 0 (.srf 1), .row 180 5 (v_w1068.map eS_ringref5_Proc), .row 3 1 (v_w1069.map (eI .i64))]⟩
def G_ringref5_Procs_Living_h_C1 (n : Nat) (v_ok1066 : (S_ringref5_Proc → Option (Bool))) (v_l1065 : (List S_ringref5_Proc)) (v_x1067 : Int) (v_w1068 : (List S_ringref5_Proc)) (v_w1069 : (List Int)) : Option G_ringref5_Procs_Living_h_C1_R :=
  if 0 ≤ v_x1067 ∧ (v_x1067).toNat < v_w1068.length then
   (v_w1068[(v_x1067).toNat]?).bind fun (v_y1074 : S_ringref5_Proc) =>
   if v_y1074.fEnded = true then
    some (.x0 v_w1068 v_w1069)
   else
    (v_ok1066 v_y1074).bind fun (v_r1075 : (Bool)) =>
    if v_r1075 = true then
     (app 8 v_w1069 ([v_y1074.fId])).bind fun (v_a1077 : (List Int)) =>
     some (.x0 v_w1068 v_a1077)
    else
     some (.x0 v_w1068 v_w1069)
  else none
theorem G_ringref5_Procs_Living_h_C1_ok {Fi : Ex → PS → Prop} (hF : KC 29 Fi) (ks : List Fr) (n : Nat) (v_ok1066 : (S_ringref5_Proc → Option (Bool))) (v_l1065 : (List S_ringref5_Proc)) (v_x1067 : Int) (v_w1068 : (List S_ringref5_Proc)) (v_w1069 : (List Int)) (v_ok1066_g : FuncId) (v_ok1066_c : (List PV)) (v_ok1066_h : ∀ (x0 : S_ringref5_Proc) (r : Bool), v_ok1066 x0 = some r → Ret Try.prog v_ok1066_g ([eS_ringref5_Proc x0] ++ v_ok1066_c) (eB r)) (o : G_ringref5_Procs_Living_h_C1_R) (h : G_ringref5_Procs_Living_h_C1 n v_ok1066 v_l1065 v_x1067 v_w1068 v_w1069 = some o) (q : RunE Try.prog 29 Fi ks (G_ringref5_Procs_Living_h_C1_ex o) (G_ringref5_Procs_Living_h_C1_st v_ok1066 v_l1065 v_x1067 v_w1068 v_w1069 v_ok1066_g v_ok1066_c o)) : RunE Try.prog 29 Fi (.s (cL (cR (cR (cP (cB (cR (cL (cR (cR (bodyOf Try.f109)))))))))) :: ks) .normal (G_ringref5_Procs_Living_h_C1_hd v_ok1066 v_l1065 v_x1067 v_w1068 v_w1069 v_ok1066_g v_ok1066_c) := by
  unfold G_ringref5_Procs_Living_h_C1 at h
  by_cases h1122 : 0 ≤ v_x1067 ∧ (v_x1067).toNat < v_w1068.length
  · rw [if_pos h1122] at h
    obtain ⟨v_y1074, h1123, h⟩ := bind_some h
    by_cases h1124 : v_y1074.fEnded = true
    · rw [if_pos h1124] at h
      cases h
      exact pkk_sound TTok mix hF 8 (hs := [.y (eS_ringref5_Proc v_y1074), .c, .c, .t false, .c, .c, .c]) (ts := []) (s := [0, 1, 2]) (l := [1, 5, 8, 9, 10]) (by kernel_rfl) (by kernel_rfl) (.cons (idx_ob (f := eS_ringref5_Proc) h1122) (.cons (get_ob (f := eS_ringref5_Proc) h1123) (.cons (show 0 + 5 ≤ 5 by decide) (.cons (bnf h1124) .nil)))) q
    · rw [if_neg h1124] at h
      obtain ⟨v_r1075, h1125, h⟩ := bind_some h
      by_cases h1128 : v_r1075 = true
      · rw [if_pos h1128] at h
        obtain ⟨v_a1077, h1129, h⟩ := bind_some h
        cases h
        exact pkk_sound TTok mix hF 8 (hs := [.y (eS_ringref5_Proc v_y1074), .c, .c, .t true, .c, .c, .c, .r (eB v_r1075), .t true, .c, .bd, .w (v_a1077.map (eI .i64))]) (ts := []) (s := [0, 1, 51]) (l := [1, 5, 8, 9, 10]) (by kernel_rfl) (by kernel_rfl) (.cons (idx_ob (f := eS_ringref5_Proc) h1122) (.cons (get_ob (f := eS_ringref5_Proc) h1123) (.cons (show 0 + 5 ≤ 5 by decide) (.cons (bnt (vf h1124)) (.cons (v_ok1066_h v_y1074 _ h1125) (.cons h1128 (.cons (app_ob (f := (eI .i64)) (s := 1) h1129 (fun _ => rfl)).1 (.cons (app_ob (f := (eI .i64)) (s := 1) h1129 (fun _ => rfl)).2.1 (.cons (app_ob (f := (eI .i64)) (s := 1) h1129 (fun _ => rfl)).2.2.1 (.cons (app_ob (f := (eI .i64)) (s := 1) h1129 (fun _ => rfl)).2.2.2 .nil)))))))))) q
      · rw [if_neg h1128] at h
        cases h
        exact pkk_sound TTok mix hF 8 (hs := [.y (eS_ringref5_Proc v_y1074), .c, .c, .t true, .c, .c, .c, .r (eB v_r1075), .t false]) (ts := []) (s := [0, 1, 2]) (l := [1, 5, 8, 9, 10]) (by kernel_rfl) (by kernel_rfl) (.cons (idx_ob (f := eS_ringref5_Proc) h1122) (.cons (get_ob (f := eS_ringref5_Proc) h1123) (.cons (show 0 + 5 ≤ 5 by decide) (.cons (bnt (vf h1124)) (.cons (v_ok1066_h v_y1074 _ h1125) (.cons (vf h1128) .nil)))))) q
  · rw [if_neg h1122] at h; cases h
inductive G_ringref5_Procs_Living_h_L2_R where
  | x0 (v_w1087 : (List S_ringref5_Proc)) (v_w1088 : (List Int))
def G_ringref5_Procs_Living_h_L2_ex : G_ringref5_Procs_Living_h_L2_R → Ex
  | .x0 _ _ => .exit 0
def G_ringref5_Procs_Living_h_L2_st (v_ok1066 : (S_ringref5_Proc → Option (Bool))) (v_l1065 : (List S_ringref5_Proc)) (v_ok1066_g : FuncId) (v_ok1066_c : (List PV)) : G_ringref5_Procs_Living_h_L2_R → PS
  | .x0 v_w1087 v_w1088 => ⟨[dd, dd, dd, dd, dd, .srf 2, dd, dd, dd, dd, dd, dd, dd, dd, dd, dd, dd, dd, dd, dd, dd, dd, dd, dd, dd, dd, dd, dd, dd], [.gh 0 (.srf 1), .row 180 5 (v_w1087.map eS_ringref5_Proc), .row 3 1 (v_w1088.map (eI .i64))]⟩
def G_ringref5_Procs_Living_h_L2_hd (v_ok1066 : (S_ringref5_Proc → Option (Bool))) (v_l1065 : (List S_ringref5_Proc)) (v_ok1066_g : FuncId) (v_ok1066_c : (List PV)) (v_x1067 : Int) (v_w1068 : (List S_ringref5_Proc)) (v_w1069 : (List Int)) : PS := ⟨[dd, .d (.clo v_ok1066_g v_ok1066_c), dd, dd, dd, .srf 2, dd, dd, .srf 1, .d (.v (.int .i64 (v_l1065.length : Int))), .d (.v (.int .i64 v_x1067)), dd, dd, dd, dd, dd, dd, dd, dd, dd, dd, dd, dd, dd, dd, dd, dd, dd, dd], [.gh 0 (.srf 1), .row 180 5 (v_w1068.map eS_ringref5_Proc), .row 3 1 (v_w1069.map (eI .i64))]⟩
def G_ringref5_Procs_Living_h_L2 (n : Nat) (v_ok1066 : (S_ringref5_Proc → Option (Bool))) (v_l1065 : (List S_ringref5_Proc)) : Nat → Int → (List S_ringref5_Proc) → (List Int) → Option G_ringref5_Procs_Living_h_L2_R
  | 0, _, _, _ => none
  | k + 1, v_x1067, v_w1068, v_w1069 =>
    if v_x1067 < (v_l1065.length : Int) then
     (G_ringref5_Procs_Living_h_C1 n v_ok1066 v_l1065 v_x1067 v_w1068 v_w1069).bind fun v_o1084 => match v_o1084 with
     | .x0 v_z1085 v_z1086 =>
       G_ringref5_Procs_Living_h_L2 n v_ok1066 v_l1065 k (wi .i64 (v_x1067 + 1)) v_z1085 v_z1086
    else
     some (.x0 v_w1068 v_w1069)
theorem G_ringref5_Procs_Living_h_L2_ok {Fi : Ex → PS → Prop} (hF : KC 29 Fi) (ks : List Fr) (n : Nat) (v_ok1066 : (S_ringref5_Proc → Option (Bool))) (v_l1065 : (List S_ringref5_Proc)) (v_ok1066_g : FuncId) (v_ok1066_c : (List PV)) (v_ok1066_h : ∀ (x0 : S_ringref5_Proc) (r : Bool), v_ok1066 x0 = some r → Ret Try.prog v_ok1066_g ([eS_ringref5_Proc x0] ++ v_ok1066_c) (eB r)) : ∀ (k : Nat) (v_x1067 : Int) (v_w1068 : (List S_ringref5_Proc)) (v_w1069 : (List Int)) (o : G_ringref5_Procs_Living_h_L2_R), G_ringref5_Procs_Living_h_L2 n v_ok1066 v_l1065 k v_x1067 v_w1068 v_w1069 = some o → RunE Try.prog 29 Fi ks (G_ringref5_Procs_Living_h_L2_ex o) (G_ringref5_Procs_Living_h_L2_st v_ok1066 v_l1065 v_ok1066_g v_ok1066_c o) → RunE Try.prog 29 Fi (.l k (cP (cB (cR (cL (cR (cR (bodyOf Try.f109))))))) :: ks) .normal (G_ringref5_Procs_Living_h_L2_hd v_ok1066 v_l1065 v_ok1066_g v_ok1066_c v_x1067 v_w1068 v_w1069)
  | 0, v_x1067, v_w1068, v_w1069, o, h, q => by rw [G_ringref5_Procs_Living_h_L2] at h; cases h
  | k + 1, v_x1067, v_w1068, v_w1069, o, h, q => by
    rw [G_ringref5_Procs_Living_h_L2] at h
    by_cases h1113 : v_x1067 < (v_l1065.length : Int)
    · rw [if_pos h1113] at h
      obtain ⟨v_o1084, h1130, h⟩ := bind_some h
      refine pkk_sound TTok mix hF 7 (hs := [.t true]) (ts := []) (s := [0, 1, 2]) (l := [1, 5, 8, 9, 10]) (by kernel_rfl) (by kernel_rfl) (.cons (dt h1113) .nil) (G_ringref5_Procs_Living_h_C1_ok hF (.s (cR (cR (cR (cP (cB (cR (cL (cR (cR (bodyOf Try.f109)))))))))) :: .l k (cP (cB (cR (cL (cR (cR (bodyOf Try.f109))))))) :: ks) n v_ok1066 v_l1065 v_x1067 v_w1068 v_w1069 v_ok1066_g v_ok1066_c v_ok1066_h _ h1130 ?_)
      cases v_o1084 with
      | x0 v_z1085 v_z1086 =>
        try dsimp only at h
        exact pkk_sound TTok mix hF 1 (hs := []) (ts := []) (s := [0, 1, 2]) (l := [1, 5, 8, 9, 10]) (by kernel_rfl) (by kernel_rfl) .nil (G_ringref5_Procs_Living_h_L2_ok hF ks n v_ok1066 v_l1065 v_ok1066_g v_ok1066_c v_ok1066_h k (wi .i64 (v_x1067 + 1)) v_z1085 v_z1086 _ h q)
    · rw [if_neg h1113] at h
      cases h
      exact pkk_sound TTok mix hF 8 (hs := [.t false]) (ts := []) (s := [0, 1, 2]) (l := [5]) (by kernel_rfl) (by kernel_rfl) (.cons (df h1113) .nil) q
/- (ringhall/ringref5.Procs).Living -/
def G_ringref5_Procs_Living_h (n : Nat) (v_l1065 : (List S_ringref5_Proc)) (v_ok1066 : (S_ringref5_Proc → Option (Bool))) : Option ((List Int) × (List S_ringref5_Proc)) :=
  (G_ringref5_Procs_Living_h_L2 n v_ok1066 v_l1065 n 0 v_l1065 ([] : List Int)).bind fun v_o1089 => match v_o1089 with
  | .x0 v_z1090 v_z1091 =>
    some (v_z1091, v_z1090)
theorem G_ringref5_Procs_Living_h_ok (n : Nat) (v_l1065 : (List S_ringref5_Proc)) (v_ok1066 : (S_ringref5_Proc → Option (Bool))) (v_ok1066_g : FuncId) (v_ok1066_c : List PV) (v_ok1066_h : ∀ (x0 : S_ringref5_Proc) (r : Bool), v_ok1066 x0 = some r → Ret Try.prog v_ok1066_g ([eS_ringref5_Proc x0] ++ v_ok1066_c) (eB r)) (r : (List Int) × (List S_ringref5_Proc)) (h : G_ringref5_Procs_Living_h n v_l1065 v_ok1066 = some r) : RetH Try.prog 109 [.srf 0, .d ((.clo v_ok1066_g v_ok1066_c))] [.row 180 5 (v_l1065.map eS_ringref5_Proc)] (.d ((eL (eI .i64)) r.1)) [.row 180 5 (r.2.map eS_ringref5_Proc)] := by
  refine retH_run (n := 29) (fn := Try.f109) (c := bodyOf Try.f109) (by kernel_rfl) (by kernel_rfl) (by kernel_rfl) (by kernel_rfl) ?_
  have hF : KC 29 (FinH Try.prog Try.f109 [.row 180 5 (v_l1065.map eS_ringref5_Proc)] (.d ((eL (eI .i64)) r.1)) [.row 180 5 (r.2.map eS_ringref5_Proc)]) := FinH.kc' (by kernel_rfl)
  unfold G_ringref5_Procs_Living_h at h
  obtain ⟨v_o1089, h1131, h⟩ := bind_some h
  refine pkk_sound TTok mix hF 9 (hs := [.u (.d (.v (.int .i64 (v_l1065.length : Int)))), .n n]) (ts := [(5, 3, 1)]) (s := [1, 0, 17]) (l := [1, 5, 8, 9, 10]) (by kernel_rfl) (by kernel_rfl) (.cons (len_ob (f := eS_ringref5_Proc) (l := v_l1065)) .nil) (G_ringref5_Procs_Living_h_L2_ok hF (.b 0 :: .s (cR (cR (cR (bodyOf Try.f109)))) :: []) n v_ok1066 v_l1065 v_ok1066_g v_ok1066_c v_ok1066_h n 0 v_l1065 ([] : List Int) _ h1131 ?_)
  cases v_o1089 with
  | x0 v_z1090 v_z1091 =>
    try dsimp only at h
    obtain rfl := Option.some.inj h
    exact pendH_sound TTok mix 5 (hs := [.dl 4, .fz 2]) [1] (by kernel_rfl) (by kernel_rfl) (by kernel_rfl) .nil
inductive G_proc_Table_Of_h_C1_R where
  | x0 (v_w1144 : (List Int))
def G_proc_Table_Of_h_C1_ex : G_proc_Table_Of_h_C1_R → Ex
  | .x0 _ => .normal
def G_proc_Table_Of_h_C1_st (v_group1135 : Int) (v_t1134 : S_proc_Table) (v_x1136 : Int) (v_w1137 : (List Int)) : G_proc_Table_Of_h_C1_R → PS
  | .x0 v_w1144 => ⟨[dd, .d (.v (.int .i64 v_group1135)), dd, dd, dd, .srf 2, dd, dd, dd, dd, dd, .d (.agg (cA_t243 v_t1134.fl)), .d (.v (.int .i64 v_x1136)), dd, dd, dd, dd, dd, dd, dd, dd, dd, dd, dd, dd, dd, dd, dd, dd, dd, dd], [.gh 0 (.ref 1 0), .box ((cS_proc_Table v_t1134).map FV.d), .row 3 1 (v_w1144.map (eI .i64))]⟩
def G_proc_Table_Of_h_C1_hd (v_group1135 : Int) (v_t1134 : S_proc_Table) (v_x1136 : Int) (v_w1137 : (List Int))  : PS := ⟨[dd, .d (.v (.int .i64 v_group1135)), dd, dd, dd, .srf 2, dd, dd, dd, dd, dd, .d (.agg (cA_t243 v_t1134.fl)), .d (.v (.int .i64 v_x1136)), dd, dd, dd, dd, dd, dd, dd, dd, dd, dd, dd, dd, dd, dd, dd, dd, dd, dd], [.gh 0 (.ref 1 0), .box ((cS_proc_Table v_t1134).map FV.d), .row 3 1 (v_w1137.map (eI .i64))]⟩
def G_proc_Table_Of_h_C1 (n : Nat) (v_group1135 : Int) (v_t1134 : S_proc_Table) (v_x1136 : Int) (v_w1137 : (List Int)) : Option G_proc_Table_Of_h_C1_R :=
  (getA v_t1134.fl v_x1136).bind fun (v_y1141 : S_proc_entry) =>
  if v_y1141.fstate = 1 then
   if v_y1141.fgroup = v_group1135 then
    (app 8 v_w1137 ([v_x1136])).bind fun (v_a1143 : (List Int)) =>
    some (.x0 v_a1143)
   else
    some (.x0 v_w1137)
  else
   some (.x0 v_w1137)
theorem G_proc_Table_Of_h_C1_ok {Fi : Ex → PS → Prop} (hF : KC 31 Fi) (ks : List Fr) (n : Nat) (v_group1135 : Int) (v_t1134 : S_proc_Table) (v_x1136 : Int) (v_w1137 : (List Int))  (o : G_proc_Table_Of_h_C1_R) (h : G_proc_Table_Of_h_C1 n v_group1135 v_t1134 v_x1136 v_w1137 = some o) (q : RunE Try.prog 31 Fi ks (G_proc_Table_Of_h_C1_ex o) (G_proc_Table_Of_h_C1_st v_group1135 v_t1134 v_x1136 v_w1137 o)) : RunE Try.prog 31 Fi (.s (cL (cR (cR (cP (cB (cR (cL (cR (cR (bodyOf Try.f155)))))))))) :: ks) .normal (G_proc_Table_Of_h_C1_hd v_group1135 v_t1134 v_x1136 v_w1137) := by
  unfold G_proc_Table_Of_h_C1 at h
  obtain ⟨v_y1141, h1175, h⟩ := bind_some h
  by_cases h1177 : v_y1141.fstate = 1
  · rw [if_pos h1177] at h
    by_cases h1180 : v_y1141.fgroup = v_group1135
    · rw [if_pos h1180] at h
      obtain ⟨v_a1143, h1181, h⟩ := bind_some h
      cases h
      exact pkk_sound TTok mix hF 8 (hs := [.l (.d (.agg [.v (.int .i64 v_y1141.fstate), .v (.int .i64 v_y1141.fparent), .v (.int .i64 v_y1141.fgroup), .v (.int .i64 v_y1141.fstatus)])), .c, .c, .t true, .c, .c, .c, .c, .t true, .bd, .w (v_a1143.map (eI .i64))]) (ts := []) (s := [0, 1, 54]) (l := [1, 5, 11, 12]) (by kernel_rfl) (by kernel_rfl) (.cons (arr_idx (sz := 4) (g := (fun x => [.d (.v (.int .i64 x.fstate)), .d (.v (.int .i64 x.fparent)), .d (.v (.int .i64 x.fgroup)), .d (.v (.int .i64 x.fstatus))])) (fun _ => rfl) h1175) (.cons (show 0 + 4 ≤ 4 by decide) (.cons (bt h1177) (.cons (bt h1180) (.cons (app_ob (f := (eI .i64)) (s := 1) h1181 (fun _ => rfl)).1 (.cons (app_ob (f := (eI .i64)) (s := 1) h1181 (fun _ => rfl)).2.1 (.cons (app_ob (f := (eI .i64)) (s := 1) h1181 (fun _ => rfl)).2.2.1 (.cons (app_ob (f := (eI .i64)) (s := 1) h1181 (fun _ => rfl)).2.2.2 .nil)))))))) q
    · rw [if_neg h1180] at h
      cases h
      exact pkk_sound TTok mix hF 8 (hs := [.l (.d (.agg [.v (.int .i64 v_y1141.fstate), .v (.int .i64 v_y1141.fparent), .v (.int .i64 v_y1141.fgroup), .v (.int .i64 v_y1141.fstatus)])), .c, .c, .t true, .c, .c, .c, .c, .t false]) (ts := []) (s := [0, 1, 2]) (l := [1, 5, 11, 12]) (by kernel_rfl) (by kernel_rfl) (.cons (arr_idx (sz := 4) (g := (fun x => [.d (.v (.int .i64 x.fstate)), .d (.v (.int .i64 x.fparent)), .d (.v (.int .i64 x.fgroup)), .d (.v (.int .i64 x.fstatus))])) (fun _ => rfl) h1175) (.cons (show 0 + 4 ≤ 4 by decide) (.cons (bt h1177) (.cons (bf h1180) .nil)))) q
  · rw [if_neg h1177] at h
    cases h
    exact pkk_sound TTok mix hF 8 (hs := [.l (.d (.agg [.v (.int .i64 v_y1141.fstate), .v (.int .i64 v_y1141.fparent), .v (.int .i64 v_y1141.fgroup), .v (.int .i64 v_y1141.fstatus)])), .c, .c, .t false, .c, .c, .c, .c]) (ts := []) (s := [0, 1, 2]) (l := [1, 5, 11, 12]) (by kernel_rfl) (by kernel_rfl) (.cons (arr_idx (sz := 4) (g := (fun x => [.d (.v (.int .i64 x.fstate)), .d (.v (.int .i64 x.fparent)), .d (.v (.int .i64 x.fgroup)), .d (.v (.int .i64 x.fstatus))])) (fun _ => rfl) h1175) (.cons (show 0 + 4 ≤ 4 by decide) (.cons (bf h1177) .nil))) q
inductive G_proc_Table_Of_h_L2_R where
  | x0 (v_w1149 : (List Int))
def G_proc_Table_Of_h_L2_ex : G_proc_Table_Of_h_L2_R → Ex
  | .x0 _ => .exit 0
def G_proc_Table_Of_h_L2_st (v_group1135 : Int) (v_t1134 : S_proc_Table) : G_proc_Table_Of_h_L2_R → PS
  | .x0 v_w1149 => ⟨[dd, dd, dd, dd, dd, .srf 2, dd, dd, dd, dd, dd, dd, dd, dd, dd, dd, dd, dd, dd, dd, dd, dd, dd, dd, dd, dd, dd, dd, dd, dd, dd], [.gh 0 (.ref 1 0), .box ((cS_proc_Table v_t1134).map FV.d), .row 3 1 (v_w1149.map (eI .i64))]⟩
def G_proc_Table_Of_h_L2_hd (v_group1135 : Int) (v_t1134 : S_proc_Table) (v_x1136 : Int) (v_w1137 : (List Int)) : PS := ⟨[dd, .d (.v (.int .i64 v_group1135)), dd, dd, dd, .srf 2, dd, dd, dd, dd, dd, .d (.agg (cA_t243 v_t1134.fl)), .d (.v (.int .i64 v_x1136)), dd, dd, dd, dd, dd, dd, dd, dd, dd, dd, dd, dd, dd, dd, dd, dd, dd, dd], [.gh 0 (.ref 1 0), .box ((cS_proc_Table v_t1134).map FV.d), .row 3 1 (v_w1137.map (eI .i64))]⟩
def G_proc_Table_Of_h_L2 (n : Nat) (v_group1135 : Int) (v_t1134 : S_proc_Table) : Nat → Int → (List Int) → Option G_proc_Table_Of_h_L2_R
  | 0, _, _ => none
  | k + 1, v_x1136, v_w1137 =>
    if v_x1136 < 17 then
     (G_proc_Table_Of_h_C1 n v_group1135 v_t1134 v_x1136 v_w1137).bind fun v_o1147 => match v_o1147 with
     | .x0 v_z1148 =>
       G_proc_Table_Of_h_L2 n v_group1135 v_t1134 k (wi .i64 (v_x1136 + 1)) v_z1148
    else
     some (.x0 v_w1137)
theorem G_proc_Table_Of_h_L2_ok {Fi : Ex → PS → Prop} (hF : KC 31 Fi) (ks : List Fr) (n : Nat) (v_group1135 : Int) (v_t1134 : S_proc_Table)  : ∀ (k : Nat) (v_x1136 : Int) (v_w1137 : (List Int)) (o : G_proc_Table_Of_h_L2_R), G_proc_Table_Of_h_L2 n v_group1135 v_t1134 k v_x1136 v_w1137 = some o → RunE Try.prog 31 Fi ks (G_proc_Table_Of_h_L2_ex o) (G_proc_Table_Of_h_L2_st v_group1135 v_t1134 o) → RunE Try.prog 31 Fi (.l k (cP (cB (cR (cL (cR (cR (bodyOf Try.f155))))))) :: ks) .normal (G_proc_Table_Of_h_L2_hd v_group1135 v_t1134 v_x1136 v_w1137)
  | 0, v_x1136, v_w1137, o, h, q => by rw [G_proc_Table_Of_h_L2] at h; cases h
  | k + 1, v_x1136, v_w1137, o, h, q => by
    rw [G_proc_Table_Of_h_L2] at h
    by_cases h1167 : v_x1136 < 17
    · rw [if_pos h1167] at h
      obtain ⟨v_o1147, h1182, h⟩ := bind_some h
      refine pkk_sound TTok mix hF 7 (hs := [.t true]) (ts := []) (s := [0, 1, 2]) (l := [1, 5, 11, 12]) (by kernel_rfl) (by kernel_rfl) (.cons (dt h1167) .nil) (G_proc_Table_Of_h_C1_ok hF (.s (cR (cR (cR (cP (cB (cR (cL (cR (cR (bodyOf Try.f155)))))))))) :: .l k (cP (cB (cR (cL (cR (cR (bodyOf Try.f155))))))) :: ks) n v_group1135 v_t1134 v_x1136 v_w1137 _ h1182 ?_)
      cases v_o1147 with
      | x0 v_z1148 =>
        try dsimp only at h
        exact pkk_sound TTok mix hF 1 (hs := []) (ts := []) (s := [0, 1, 2]) (l := [1, 5, 11, 12]) (by kernel_rfl) (by kernel_rfl) .nil (G_proc_Table_Of_h_L2_ok hF ks n v_group1135 v_t1134 k (wi .i64 (v_x1136 + 1)) v_z1148 _ h q)
    · rw [if_neg h1167] at h
      cases h
      exact pkk_sound TTok mix hF 8 (hs := [.t false]) (ts := []) (s := [0, 1, 2]) (l := [5]) (by kernel_rfl) (by kernel_rfl) (.cons (df h1167) .nil) q
/- (*ringhall/proc.Table).Of -/
def G_proc_Table_Of_h (n : Nat) (v_t1134 : S_proc_Table) (v_group1135 : Int) : Option ((List Int) × S_proc_Table) :=
  (G_proc_Table_Of_h_L2 n v_group1135 v_t1134 n 0 ([] : List Int)).bind fun v_o1150 => match v_o1150 with
  | .x0 v_z1151 =>
    some (v_z1151, v_t1134)
theorem G_proc_Table_Of_h_ok (n : Nat) (v_t1134 : S_proc_Table) (v_group1135 : Int) (r : (List Int) × S_proc_Table) (h : G_proc_Table_Of_h n v_t1134 v_group1135 = some r) : RetH Try.prog 155 [.ref 0 0, .d ((eI .i64) v_group1135)] [.box ((cS_proc_Table v_t1134).map FV.d)] (.d ((eL (eI .i64)) r.1)) [.box ((cS_proc_Table r.2).map FV.d)] := by
  refine retH_run (n := 31) (fn := Try.f155) (c := bodyOf Try.f155) (by kernel_rfl) (by kernel_rfl) (by kernel_rfl) (by kernel_rfl) ?_
  have hF : KC 31 (FinH Try.prog Try.f155 [.box ((cS_proc_Table v_t1134).map FV.d)] (.d ((eL (eI .i64)) r.1)) [.box ((cS_proc_Table r.2).map FV.d)]) := FinH.kc' (by kernel_rfl)
  unfold G_proc_Table_Of_h at h
  obtain ⟨v_o1150, h1183, h⟩ := bind_some h
  refine pkk_sound TTok mix hF 9 (hs := [.c, .n n]) (ts := [(5, 3, 1)]) (s := [1, 0, 23]) (l := [1, 5, 11, 12]) (by kernel_rfl) (by kernel_rfl) .nil (G_proc_Table_Of_h_L2_ok hF (.b 0 :: .s (cR (cR (cR (bodyOf Try.f155)))) :: []) n v_group1135 v_t1134 n 0 ([] : List Int) _ h1183 ?_)
  cases v_o1150 with
  | x0 v_z1151 =>
    try dsimp only at h
    obtain rfl := Option.some.inj h
    exact pendH_sound TTok mix 5 (hs := [.dl 4, .fz 2]) [1] (by kernel_rfl) (by kernel_rfl) (by kernel_rfl) .nil
/- (*ringhall/proc.Table).Lead -/
def G_proc_Table_Lead_h (n : Nat) (v_t1129 : S_proc_Table) (v_p1130 : Int) (v_group1131 : Int) : Option (Int × S_proc_Table) :=
  (G_proc_Table_living_h n v_t1129 v_p1130).bind fun (v_r1132 : (Int × S_proc_Table)) =>
  if v_r1132.1 = 0 then
   (G_proc_number n v_group1131).bind fun (v_r1133 : (Bool)) =>
   if v_r1133 = true then
    if v_group1131 = v_p1130 then
     if 0 ≤ v_p1130 ∧ v_p1130 < (17 : Int) then
      (getA v_r1132.2.fl v_p1130).bind fun (v_y1155 : S_proc_entry) =>
      some (0, (S_proc_Table.mk (setA v_r1132.2.fl v_p1130 (S_proc_entry.mk v_y1155.fstate v_y1155.fparent v_group1131 v_y1155.fstatus))))
     else none
    else
     (G_proc_Table_Of_h n v_r1132.2 v_group1131).bind fun (v_r1153 : ((List Int) × S_proc_Table)) =>
     if (v_r1153.1.length : Int) = 0 then
      some (4, v_r1153.2)
     else
      if 0 ≤ v_p1130 ∧ v_p1130 < (17 : Int) then
       (getA v_r1153.2.fl v_p1130).bind fun (v_y1154 : S_proc_entry) =>
       some (0, (S_proc_Table.mk (setA v_r1153.2.fl v_p1130 (S_proc_entry.mk v_y1154.fstate v_y1154.fparent v_group1131 v_y1154.fstatus))))
      else none
   else
    some (1, v_r1132.2)
  else
   some (v_r1132.1, v_r1132.2)
theorem G_proc_Table_Lead_h_ok (n : Nat) (v_t1129 : S_proc_Table) (v_p1130 : Int) (v_group1131 : Int) (r : Int × S_proc_Table) (h : G_proc_Table_Lead_h n v_t1129 v_p1130 v_group1131 = some r) : RetH Try.prog 112 [.ref 0 0, .d ((eI .i64) v_p1130), .d ((eI .i64) v_group1131)] [.box ((cS_proc_Table v_t1129).map FV.d)] (.d ((eI .i64) r.1)) [.box ((cS_proc_Table r.2).map FV.d)] := by
  refine retH_run (n := 34) (fn := Try.f112) (c := bodyOf Try.f112) (by kernel_rfl) (by kernel_rfl) (by kernel_rfl) (by kernel_rfl) ?_
  have hF : KC 34 (FinH Try.prog Try.f112 [.box ((cS_proc_Table v_t1129).map FV.d)] (.d ((eI .i64) r.1)) [.box ((cS_proc_Table r.2).map FV.d)]) := FinH.kc' (by kernel_rfl)
  unfold G_proc_Table_Lead_h at h
  obtain ⟨v_r1132, h1162, h⟩ := bind_some h
  by_cases h1163 : v_r1132.1 = 0
  · rw [if_pos h1163] at h
    obtain ⟨v_r1133, h1164, h⟩ := bind_some h
    by_cases h1165 : v_r1133 = true
    · rw [if_pos h1165] at h
      by_cases h1185 : v_group1131 = v_p1130
      · rw [if_pos h1185] at h
        by_cases h1190 : 0 ≤ v_p1130 ∧ v_p1130 < (17 : Int)
        · rw [if_pos h1190] at h
          obtain ⟨v_y1155, h1191, h⟩ := bind_some h
          obtain rfl := Option.some.inj h
          exact pendH_sound TTok mix 24 (hs := [.h [0] [] [.box ((cS_proc_Table v_r1132.2).map FV.d)] (.d (.v (.int .i64 v_r1132.1))), .t false, .r (eB v_r1133), .t false, .t false, .c, .c, .c, .c, .c, .x ((cS_proc_Table (S_proc_Table.mk (setA v_r1132.2.fl v_p1130 (S_proc_entry.mk v_y1155.fstate v_y1155.fparent v_group1131 v_y1155.fstatus)))).map FV.d), .c]) [0] (by kernel_rfl) (by kernel_rfl) (by kernel_rfl) (.cons (G_proc_Table_living_h_ok n v_t1129 v_p1130 _ h1162) (.cons (nf h1163) (.cons (G_proc_number_ok n v_group1131 _ h1164) (.cons (bnf h1165) (.cons (nf h1185) (.cons h1190 (.cons (arr_store (γ := FV) (sz := 4) (g := (fun x => [.d (.v (.int .i64 x.fstate)), .d (.v (.int .i64 x.fparent)), .d (.v (.int .i64 x.fgroup)), .d (.v (.int .i64 x.fstatus))])) (pre := []) (post := []) (o := 2) (y := (S_proc_entry.mk v_y1155.fstate v_y1155.fparent v_group1131 v_y1155.fstatus)) (zs := [.d (.v (.int .i64 v_group1131))]) (fun _ => rfl) h1191 rfl (Nat.le_of_ble_eq_true rfl)).1 (.cons (arr_store (γ := FV) (sz := 4) (g := (fun x => [.d (.v (.int .i64 x.fstate)), .d (.v (.int .i64 x.fparent)), .d (.v (.int .i64 x.fgroup)), .d (.v (.int .i64 x.fstatus))])) (pre := []) (post := []) (o := 2) (y := (S_proc_entry.mk v_y1155.fstate v_y1155.fparent v_group1131 v_y1155.fstatus)) (zs := [.d (.v (.int .i64 v_group1131))]) (fun _ => rfl) h1191 rfl (Nat.le_of_ble_eq_true rfl)).2 .nil))))))))
        · rw [if_neg h1190] at h; cases h
      · rw [if_neg h1185] at h
        obtain ⟨v_r1153, h1186, h⟩ := bind_some h
        by_cases h1187 : (v_r1153.1.length : Int) = 0
        · rw [if_pos h1187] at h
          obtain rfl := Option.some.inj h
          exact pendH_sound TTok mix 22 (hs := [.h [0] [] [.box ((cS_proc_Table v_r1132.2).map FV.d)] (.d (.v (.int .i64 v_r1132.1))), .t false, .r (eB v_r1133), .t false, .t true, .c, .c, .h [0] [] [.box ((cS_proc_Table v_r1153.2).map FV.d)] (.d (.sl (v_r1153.1.map (eI .i64)))), .c, .u (.d (.v (.int .i64 (v_r1153.1.length : Int)))), .c, .t true]) [0] (by kernel_rfl) (by kernel_rfl) (by kernel_rfl) (.cons (G_proc_Table_living_h_ok n v_t1129 v_p1130 _ h1162) (.cons (nf h1163) (.cons (G_proc_number_ok n v_group1131 _ h1164) (.cons (bnf h1165) (.cons (nt h1185) (.cons (G_proc_Table_Of_h_ok n v_r1132.2 v_group1131 _ h1186) (.cons (len_ob (f := (eI .i64)) (l := v_r1153.1)) (.cons (bt h1187) .nil))))))))
        · rw [if_neg h1187] at h
          by_cases h1188 : 0 ≤ v_p1130 ∧ v_p1130 < (17 : Int)
          · rw [if_pos h1188] at h
            obtain ⟨v_y1154, h1189, h⟩ := bind_some h
            obtain rfl := Option.some.inj h
            exact pendH_sound TTok mix 24 (hs := [.h [0] [] [.box ((cS_proc_Table v_r1132.2).map FV.d)] (.d (.v (.int .i64 v_r1132.1))), .t false, .r (eB v_r1133), .t false, .t true, .c, .c, .h [0] [] [.box ((cS_proc_Table v_r1153.2).map FV.d)] (.d (.sl (v_r1153.1.map (eI .i64)))), .c, .u (.d (.v (.int .i64 (v_r1153.1.length : Int)))), .c, .t false, .x ((cS_proc_Table (S_proc_Table.mk (setA v_r1153.2.fl v_p1130 (S_proc_entry.mk v_y1154.fstate v_y1154.fparent v_group1131 v_y1154.fstatus)))).map FV.d), .c]) [0] (by kernel_rfl) (by kernel_rfl) (by kernel_rfl) (.cons (G_proc_Table_living_h_ok n v_t1129 v_p1130 _ h1162) (.cons (nf h1163) (.cons (G_proc_number_ok n v_group1131 _ h1164) (.cons (bnf h1165) (.cons (nt h1185) (.cons (G_proc_Table_Of_h_ok n v_r1132.2 v_group1131 _ h1186) (.cons (len_ob (f := (eI .i64)) (l := v_r1153.1)) (.cons (bf h1187) (.cons h1188 (.cons (arr_store (γ := FV) (sz := 4) (g := (fun x => [.d (.v (.int .i64 x.fstate)), .d (.v (.int .i64 x.fparent)), .d (.v (.int .i64 x.fgroup)), .d (.v (.int .i64 x.fstatus))])) (pre := []) (post := []) (o := 2) (y := (S_proc_entry.mk v_y1154.fstate v_y1154.fparent v_group1131 v_y1154.fstatus)) (zs := [.d (.v (.int .i64 v_group1131))]) (fun _ => rfl) h1189 rfl (Nat.le_of_ble_eq_true rfl)).1 (.cons (arr_store (γ := FV) (sz := 4) (g := (fun x => [.d (.v (.int .i64 x.fstate)), .d (.v (.int .i64 x.fparent)), .d (.v (.int .i64 x.fgroup)), .d (.v (.int .i64 x.fstatus))])) (pre := []) (post := []) (o := 2) (y := (S_proc_entry.mk v_y1154.fstate v_y1154.fparent v_group1131 v_y1154.fstatus)) (zs := [.d (.v (.int .i64 v_group1131))]) (fun _ => rfl) h1189 rfl (Nat.le_of_ble_eq_true rfl)).2 .nil)))))))))))
          · rw [if_neg h1188] at h; cases h
    · rw [if_neg h1165] at h
      obtain rfl := Option.some.inj h
      exact pendH_sound TTok mix 17 (hs := [.h [0] [] [.box ((cS_proc_Table v_r1132.2).map FV.d)] (.d (.v (.int .i64 v_r1132.1))), .t false, .r (eB v_r1133), .t true]) [0] (by kernel_rfl) (by kernel_rfl) (by kernel_rfl) (.cons (G_proc_Table_living_h_ok n v_t1129 v_p1130 _ h1162) (.cons (nf h1163) (.cons (G_proc_number_ok n v_group1131 _ h1164) (.cons (bnt (vf h1165)) .nil))))
  · rw [if_neg h1163] at h
    obtain rfl := Option.some.inj h
    exact pendH_sound TTok mix 12 (hs := [.h [0] [] [.box ((cS_proc_Table v_r1132.2).map FV.d)] (.d (.v (.int .i64 v_r1132.1))), .t true]) [0] (by kernel_rfl) (by kernel_rfl) (by kernel_rfl) (.cons (G_proc_Table_living_h_ok n v_t1129 v_p1130 _ h1162) (.cons (nt h1163) .nil))
/- (*ringhall/proc.Table).State -/
def G_proc_Table_State_h (n : Nat) (v_t1572 : S_proc_Table) (v_p1573 : Int) : Option (Int × Int × S_proc_Table) :=
  (G_proc_number n v_p1573).bind fun (v_r1574 : (Bool)) =>
  if v_r1574 = true then
   if 0 ≤ v_p1573 ∧ v_p1573 < (17 : Int) then
    (getA v_t1572.fl v_p1573).bind fun (v_y1575 : S_proc_entry) =>
    some (v_y1575.fstate, 0, v_t1572)
   else none
  else
   some (0, 1, v_t1572)
theorem G_proc_Table_State_h_ok (n : Nat) (v_t1572 : S_proc_Table) (v_p1573 : Int) (r : Int × Int × S_proc_Table) (h : G_proc_Table_State_h n v_t1572 v_p1573 = some r) : RetH Try.prog 156 [.ref 0 0, .d ((eI .i64) v_p1573)] [.box ((cS_proc_Table v_t1572).map FV.d)] (.tup [.d ((eI .i64) r.1), .d ((eI .i64) r.2.1)]) [.box ((cS_proc_Table r.2.2).map FV.d)] := by
  refine retH_run (n := 16) (fn := Try.f156) (c := bodyOf Try.f156) (by kernel_rfl) (by kernel_rfl) (by kernel_rfl) (by kernel_rfl) ?_
  have hF : KC 16 (FinH Try.prog Try.f156 [.box ((cS_proc_Table v_t1572).map FV.d)] (.tup [.d ((eI .i64) r.1), .d ((eI .i64) r.2.1)]) [.box ((cS_proc_Table r.2.2).map FV.d)]) := FinH.kc' (by kernel_rfl)
  unfold G_proc_Table_State_h at h
  obtain ⟨v_r1574, h1453, h⟩ := bind_some h
  by_cases h1454 : v_r1574 = true
  · rw [if_pos h1454] at h
    by_cases h1455 : 0 ≤ v_p1573 ∧ v_p1573 < (17 : Int)
    · rw [if_pos h1455] at h
      obtain ⟨v_y1575, h1456, h⟩ := bind_some h
      obtain rfl := Option.some.inj h
      exact pendH_sound TTok mix 10 (hs := [.r (eB v_r1574), .t false, .l (.d (.v (.int .i64 v_y1575.fstate)))]) [0] (by kernel_rfl) (by kernel_rfl) (by kernel_rfl) (.cons (G_proc_number_ok n v_p1573 _ h1453) (.cons (bnf h1454) (.cons h1455 (.cons (arr_cell (γ := FV) (sz := 4) (g := (fun x => [.d (.v (.int .i64 x.fstate)), .d (.v (.int .i64 x.fparent)), .d (.v (.int .i64 x.fgroup)), .d (.v (.int .i64 x.fstatus))])) (pre := []) (post := []) (o := 0) (fun _ => rfl) h1456 rfl) .nil))))
    · rw [if_neg h1455] at h; cases h
  · rw [if_neg h1454] at h
    obtain rfl := Option.some.inj h
    exact pendH_sound TTok mix 10 (hs := [.r (eB v_r1574), .t true]) [0] (by kernel_rfl) (by kernel_rfl) (by kernel_rfl) (.cons (G_proc_number_ok n v_p1573 _ h1453) (.cons (bnt (vf h1454)) .nil))
/- (*ringhall/proc.Table).Parent -/
def G_proc_Table_Parent_h (n : Nat) (v_t1577 : S_proc_Table) (v_p1578 : Int) : Option (Int × Int × S_proc_Table) :=
  (G_proc_number n v_p1578).bind fun (v_r1579 : (Bool)) =>
  if v_r1579 = true then
   if 0 ≤ v_p1578 ∧ v_p1578 < (17 : Int) then
    (getA v_t1577.fl v_p1578).bind fun (v_y1580 : S_proc_entry) =>
    if v_y1580.fstate = 0 then
     some (0, 4, v_t1577)
    else
     if 0 ≤ v_p1578 ∧ v_p1578 < (17 : Int) then
      (getA v_t1577.fl v_p1578).bind fun (v_y1581 : S_proc_entry) =>
      some (v_y1581.fparent, 0, v_t1577)
     else none
   else none
  else
   some (0, 1, v_t1577)
theorem G_proc_Table_Parent_h_ok (n : Nat) (v_t1577 : S_proc_Table) (v_p1578 : Int) (r : Int × Int × S_proc_Table) (h : G_proc_Table_Parent_h n v_t1577 v_p1578 = some r) : RetH Try.prog 157 [.ref 0 0, .d ((eI .i64) v_p1578)] [.box ((cS_proc_Table v_t1577).map FV.d)] (.tup [.d ((eI .i64) r.1), .d ((eI .i64) r.2.1)]) [.box ((cS_proc_Table r.2.2).map FV.d)] := by
  refine retH_run (n := 24) (fn := Try.f157) (c := bodyOf Try.f157) (by kernel_rfl) (by kernel_rfl) (by kernel_rfl) (by kernel_rfl) ?_
  have hF : KC 24 (FinH Try.prog Try.f157 [.box ((cS_proc_Table v_t1577).map FV.d)] (.tup [.d ((eI .i64) r.1), .d ((eI .i64) r.2.1)]) [.box ((cS_proc_Table r.2.2).map FV.d)]) := FinH.kc' (by kernel_rfl)
  unfold G_proc_Table_Parent_h at h
  obtain ⟨v_r1579, h1458, h⟩ := bind_some h
  by_cases h1459 : v_r1579 = true
  · rw [if_pos h1459] at h
    by_cases h1460 : 0 ≤ v_p1578 ∧ v_p1578 < (17 : Int)
    · rw [if_pos h1460] at h
      obtain ⟨v_y1580, h1461, h⟩ := bind_some h
      by_cases h1462 : v_y1580.fstate = 0
      · rw [if_pos h1462] at h
        obtain rfl := Option.some.inj h
        exact pendH_sound TTok mix 15 (hs := [.r (eB v_r1579), .t false, .l (.d (.v (.int .i64 v_y1580.fstate))), .t true]) [0] (by kernel_rfl) (by kernel_rfl) (by kernel_rfl) (.cons (G_proc_number_ok n v_p1578 _ h1458) (.cons (bnf h1459) (.cons h1460 (.cons (arr_cell (γ := FV) (sz := 4) (g := (fun x => [.d (.v (.int .i64 x.fstate)), .d (.v (.int .i64 x.fparent)), .d (.v (.int .i64 x.fgroup)), .d (.v (.int .i64 x.fstatus))])) (pre := []) (post := []) (o := 0) (fun _ => rfl) h1461 rfl) (.cons (bt h1462) .nil)))))
      · rw [if_neg h1462] at h
        by_cases h1463 : 0 ≤ v_p1578 ∧ v_p1578 < (17 : Int)
        · rw [if_pos h1463] at h
          obtain ⟨v_y1581, h1464, h⟩ := bind_some h
          obtain rfl := Option.some.inj h
          exact pendH_sound TTok mix 15 (hs := [.r (eB v_r1579), .t false, .l (.d (.v (.int .i64 v_y1580.fstate))), .t false, .l (.d (.v (.int .i64 v_y1581.fparent)))]) [0] (by kernel_rfl) (by kernel_rfl) (by kernel_rfl) (.cons (G_proc_number_ok n v_p1578 _ h1458) (.cons (bnf h1459) (.cons h1460 (.cons (arr_cell (γ := FV) (sz := 4) (g := (fun x => [.d (.v (.int .i64 x.fstate)), .d (.v (.int .i64 x.fparent)), .d (.v (.int .i64 x.fgroup)), .d (.v (.int .i64 x.fstatus))])) (pre := []) (post := []) (o := 0) (fun _ => rfl) h1461 rfl) (.cons (bf h1462) (.cons h1463 (.cons (arr_cell (γ := FV) (sz := 4) (g := (fun x => [.d (.v (.int .i64 x.fstate)), .d (.v (.int .i64 x.fparent)), .d (.v (.int .i64 x.fgroup)), .d (.v (.int .i64 x.fstatus))])) (pre := []) (post := []) (o := 1) (fun _ => rfl) h1464 rfl) .nil)))))))
        · rw [if_neg h1463] at h; cases h
    · rw [if_neg h1460] at h; cases h
  · rw [if_neg h1459] at h
    obtain rfl := Option.some.inj h
    exact pendH_sound TTok mix 10 (hs := [.r (eB v_r1579), .t true]) [0] (by kernel_rfl) (by kernel_rfl) (by kernel_rfl) (.cons (G_proc_number_ok n v_p1578 _ h1458) (.cons (bnt (vf h1459)) .nil))
/- (*ringhall/proc.Table).Group -/
def G_proc_Table_Group_h (n : Nat) (v_t1583 : S_proc_Table) (v_p1584 : Int) : Option (Int × Int × S_proc_Table) :=
  (G_proc_Table_living_h n v_t1583 v_p1584).bind fun (v_r1585 : (Int × S_proc_Table)) =>
  if v_r1585.1 = 0 then
   if 0 ≤ v_p1584 ∧ v_p1584 < (17 : Int) then
    (getA v_r1585.2.fl v_p1584).bind fun (v_y1586 : S_proc_entry) =>
    some (v_y1586.fgroup, 0, v_r1585.2)
   else none
  else
   some (0, v_r1585.1, v_r1585.2)
theorem G_proc_Table_Group_h_ok (n : Nat) (v_t1583 : S_proc_Table) (v_p1584 : Int) (r : Int × Int × S_proc_Table) (h : G_proc_Table_Group_h n v_t1583 v_p1584 = some r) : RetH Try.prog 158 [.ref 0 0, .d ((eI .i64) v_p1584)] [.box ((cS_proc_Table v_t1583).map FV.d)] (.tup [.d ((eI .i64) r.1), .d ((eI .i64) r.2.1)]) [.box ((cS_proc_Table r.2.2).map FV.d)] := by
  refine retH_run (n := 20) (fn := Try.f158) (c := bodyOf Try.f158) (by kernel_rfl) (by kernel_rfl) (by kernel_rfl) (by kernel_rfl) ?_
  have hF : KC 20 (FinH Try.prog Try.f158 [.box ((cS_proc_Table v_t1583).map FV.d)] (.tup [.d ((eI .i64) r.1), .d ((eI .i64) r.2.1)]) [.box ((cS_proc_Table r.2.2).map FV.d)]) := FinH.kc' (by kernel_rfl)
  unfold G_proc_Table_Group_h at h
  obtain ⟨v_r1585, h1466, h⟩ := bind_some h
  by_cases h1468 : v_r1585.1 = 0
  · rw [if_pos h1468] at h
    by_cases h1469 : 0 ≤ v_p1584 ∧ v_p1584 < (17 : Int)
    · rw [if_pos h1469] at h
      obtain ⟨v_y1586, h1470, h⟩ := bind_some h
      obtain rfl := Option.some.inj h
      exact pendH_sound TTok mix 12 (hs := [.h [0] [] [.box ((cS_proc_Table v_r1585.2).map FV.d)] (.d (.v (.int .i64 v_r1585.1))), .t false, .l (.d (.v (.int .i64 v_y1586.fgroup)))]) [0] (by kernel_rfl) (by kernel_rfl) (by kernel_rfl) (.cons (G_proc_Table_living_h_ok n v_t1583 v_p1584 _ h1466) (.cons (nf h1468) (.cons h1469 (.cons (arr_cell (γ := FV) (sz := 4) (g := (fun x => [.d (.v (.int .i64 x.fstate)), .d (.v (.int .i64 x.fparent)), .d (.v (.int .i64 x.fgroup)), .d (.v (.int .i64 x.fstatus))])) (pre := []) (post := []) (o := 2) (fun _ => rfl) h1470 rfl) .nil))))
    · rw [if_neg h1469] at h; cases h
  · rw [if_neg h1468] at h
    obtain rfl := Option.some.inj h
    exact pendH_sound TTok mix 12 (hs := [.h [0] [] [.box ((cS_proc_Table v_r1585.2).map FV.d)] (.d (.v (.int .i64 v_r1585.1))), .t true]) [0] (by kernel_rfl) (by kernel_rfl) (by kernel_rfl) (.cons (G_proc_Table_living_h_ok n v_t1583 v_p1584 _ h1466) (.cons (nt h1468) .nil))
inductive G_proc_Table_All_h_L1_R where
  | x0 (v_w1953 : (List Int))
def G_proc_Table_All_h_L1_ex : G_proc_Table_All_h_L1_R → Ex
  | .x0 _ => .exit 0
def G_proc_Table_All_h_L1_st (v_t1944 : S_proc_Table) : G_proc_Table_All_h_L1_R → PS
  | .x0 v_w1953 => ⟨[dd, dd, dd, .srf 2, dd, dd, dd, dd, dd, dd, dd, dd, dd, dd, dd, dd, dd, dd, dd, dd, dd, dd, dd], [.gh 0 (.ref 1 0), .box ((cS_proc_Table v_t1944).map FV.d), .row 3 1 (v_w1953.map (eI .i64))]⟩
def G_proc_Table_All_h_L1_hd (v_t1944 : S_proc_Table) (v_x1945 : Int) (v_w1946 : (List Int)) : PS := ⟨[dd, dd, dd, .srf 2, dd, dd, dd, dd, dd, .d (.agg (cA_t243 v_t1944.fl)), .d (.v (.int .i64 v_x1945)), dd, dd, dd, dd, dd, dd, dd, dd, dd, dd, dd, dd], [.gh 0 (.ref 1 0), .box ((cS_proc_Table v_t1944).map FV.d), .row 3 1 (v_w1946.map (eI .i64))]⟩
def G_proc_Table_All_h_L1 (n : Nat) (v_t1944 : S_proc_Table) : Nat → Int → (List Int) → Option G_proc_Table_All_h_L1_R
  | 0, _, _ => none
  | k + 1, v_x1945, v_w1946 =>
    if v_x1945 < 17 then
     (getA v_t1944.fl v_x1945).bind fun (v_y1950 : S_proc_entry) =>
     if v_y1950.fstate = 1 then
      (app 8 v_w1946 ([v_x1945])).bind fun (v_a1952 : (List Int)) =>
      G_proc_Table_All_h_L1 n v_t1944 k (wi .i64 (v_x1945 + 1)) v_a1952
     else
      G_proc_Table_All_h_L1 n v_t1944 k (wi .i64 (v_x1945 + 1)) v_w1946
    else
     some (.x0 v_w1946)
theorem G_proc_Table_All_h_L1_ok {Fi : Ex → PS → Prop} (hF : KC 23 Fi) (ks : List Fr) (n : Nat) (v_t1944 : S_proc_Table)  : ∀ (k : Nat) (v_x1945 : Int) (v_w1946 : (List Int)) (o : G_proc_Table_All_h_L1_R), G_proc_Table_All_h_L1 n v_t1944 k v_x1945 v_w1946 = some o → RunE Try.prog 23 Fi ks (G_proc_Table_All_h_L1_ex o) (G_proc_Table_All_h_L1_st v_t1944 o) → RunE Try.prog 23 Fi (.l k (cP (cB (cR (cL (cR (cR (bodyOf Try.f159))))))) :: ks) .normal (G_proc_Table_All_h_L1_hd v_t1944 v_x1945 v_w1946)
  | 0, v_x1945, v_w1946, o, h, q => by rw [G_proc_Table_All_h_L1] at h; cases h
  | k + 1, v_x1945, v_w1946, o, h, q => by
    rw [G_proc_Table_All_h_L1] at h
    by_cases h1715 : v_x1945 < 17
    · rw [if_pos h1715] at h
      obtain ⟨v_y1950, h1721, h⟩ := bind_some h
      by_cases h1724 : v_y1950.fstate = 1
      · rw [if_pos h1724] at h
        obtain ⟨v_a1952, h1725, h⟩ := bind_some h
        exact pkk_sound TTok mix hF 16 (hs := [.t true, .l (.d (.agg [.v (.int .i64 v_y1950.fstate), .v (.int .i64 v_y1950.fparent), .v (.int .i64 v_y1950.fgroup), .v (.int .i64 v_y1950.fstatus)])), .c, .c, .t true, .bd, .w (v_a1952.map (eI .i64))]) (ts := []) (s := [0, 1, 39]) (l := [3, 9, 10]) (by kernel_rfl) (by kernel_rfl) (.cons (dt h1715) (.cons (arr_idx (sz := 4) (g := (fun x => [.d (.v (.int .i64 x.fstate)), .d (.v (.int .i64 x.fparent)), .d (.v (.int .i64 x.fgroup)), .d (.v (.int .i64 x.fstatus))])) (fun _ => rfl) h1721) (.cons (show 0 + 4 ≤ 4 by decide) (.cons (bt h1724) (.cons (app_ob (f := (eI .i64)) (s := 1) h1725 (fun _ => rfl)).1 (.cons (app_ob (f := (eI .i64)) (s := 1) h1725 (fun _ => rfl)).2.1 (.cons (app_ob (f := (eI .i64)) (s := 1) h1725 (fun _ => rfl)).2.2.1 (.cons (app_ob (f := (eI .i64)) (s := 1) h1725 (fun _ => rfl)).2.2.2 .nil)))))))) (G_proc_Table_All_h_L1_ok hF ks n v_t1944 k (wi .i64 (v_x1945 + 1)) v_a1952 _ h q)
      · rw [if_neg h1724] at h
        exact pkk_sound TTok mix hF 16 (hs := [.t true, .l (.d (.agg [.v (.int .i64 v_y1950.fstate), .v (.int .i64 v_y1950.fparent), .v (.int .i64 v_y1950.fgroup), .v (.int .i64 v_y1950.fstatus)])), .c, .c, .t false]) (ts := []) (s := [0, 1, 2]) (l := [3, 9, 10]) (by kernel_rfl) (by kernel_rfl) (.cons (dt h1715) (.cons (arr_idx (sz := 4) (g := (fun x => [.d (.v (.int .i64 x.fstate)), .d (.v (.int .i64 x.fparent)), .d (.v (.int .i64 x.fgroup)), .d (.v (.int .i64 x.fstatus))])) (fun _ => rfl) h1721) (.cons (show 0 + 4 ≤ 4 by decide) (.cons (bf h1724) .nil)))) (G_proc_Table_All_h_L1_ok hF ks n v_t1944 k (wi .i64 (v_x1945 + 1)) v_w1946 _ h q)
    · rw [if_neg h1715] at h
      cases h
      exact pkk_sound TTok mix hF 8 (hs := [.t false]) (ts := []) (s := [0, 1, 2]) (l := [3]) (by kernel_rfl) (by kernel_rfl) (.cons (df h1715) .nil) q
/- (*ringhall/proc.Table).All -/
def G_proc_Table_All_h (n : Nat) (v_t1944 : S_proc_Table) : Option ((List Int) × S_proc_Table) :=
  (G_proc_Table_All_h_L1 n v_t1944 n 0 ([] : List Int)).bind fun v_o1954 => match v_o1954 with
  | .x0 v_z1955 =>
    some (v_z1955, v_t1944)
theorem G_proc_Table_All_h_ok (n : Nat) (v_t1944 : S_proc_Table) (r : (List Int) × S_proc_Table) (h : G_proc_Table_All_h n v_t1944 = some r) : RetH Try.prog 159 [.ref 0 0] [.box ((cS_proc_Table v_t1944).map FV.d)] (.d ((eL (eI .i64)) r.1)) [.box ((cS_proc_Table r.2).map FV.d)] := by
  refine retH_run (n := 23) (fn := Try.f159) (c := bodyOf Try.f159) (by kernel_rfl) (by kernel_rfl) (by kernel_rfl) (by kernel_rfl) ?_
  have hF : KC 23 (FinH Try.prog Try.f159 [.box ((cS_proc_Table v_t1944).map FV.d)] (.d ((eL (eI .i64)) r.1)) [.box ((cS_proc_Table r.2).map FV.d)]) := FinH.kc' (by kernel_rfl)
  unfold G_proc_Table_All_h at h
  obtain ⟨v_o1954, h1726, h⟩ := bind_some h
  refine pkk_sound TTok mix hF 9 (hs := [.c, .n n]) (ts := [(3, 3, 1)]) (s := [1, 0, 23]) (l := [3, 9, 10]) (by kernel_rfl) (by kernel_rfl) .nil (G_proc_Table_All_h_L1_ok hF (.b 0 :: .s (cR (cR (cR (bodyOf Try.f159)))) :: []) n v_t1944 n 0 ([] : List Int) _ h1726 ?_)
  cases v_o1954 with
  | x0 v_z1955 =>
    try dsimp only at h
    obtain rfl := Option.some.inj h
    exact pendH_sound TTok mix 5 (hs := [.dl 4, .fz 2]) [1] (by kernel_rfl) (by kernel_rfl) (by kernel_rfl) .nil
/- ringhall/ringlaw5.asked$1 -/
def G_ringlaw5_asked_1 (n : Nat) (v_x1957 : S_ringref5_Proc) : Option (Bool) :=
  some true
theorem G_ringlaw5_asked_1_ok (n : Nat) (v_x1957 : S_ringref5_Proc) (r : Bool) (h : G_ringlaw5_asked_1 n v_x1957 = some r) : Ret Try.prog 160 [eS_ringref5_Proc v_x1957] (eB r) := by
  refine ret_run (n := 3) (fn := Try.f160) (c := bodyOf Try.f160) (by kernel_rfl) (by kernel_rfl) (by kernel_rfl) (by kernel_rfl) ?_
  have hF : KC 3 (FinR Try.prog Try.f160 (eB r)) := FinR.kc' (by kernel_rfl)
  unfold G_ringlaw5_asked_1 at h
  obtain rfl := Option.some.inj h
  exact pend_sound TTok mix 5 (hs := []) (by kernel_rfl) (by kernel_rfl) (by kernel_rfl) .nil
inductive G_slices_Equal_int_int_L1_R where
  | x0 (v_x1966 : Bool)
  | x1 
def G_slices_Equal_int_int_L1_ex : G_slices_Equal_int_int_L1_R → Ex
  | .x0 _ => .ret
  | .x1  => .exit 0
def G_slices_Equal_int_int_L1_st (v_s1959 : (List Int)) (v_s1960 : (List Int)) : G_slices_Equal_int_int_L1_R → PS
  | .x0 v_x1966 => ⟨[dd, dd, dd, dd, .d (.v (.bool v_x1966)), dd, dd, dd, dd, dd, dd, dd, dd, dd, dd, dd, dd, dd, dd, dd, dd, dd, dd, dd, dd, dd], []⟩
  | .x1  => ⟨[dd, dd, dd, dd, dd, dd, dd, dd, dd, dd, dd, dd, dd, dd, dd, dd, dd, dd, dd, dd, dd, dd, dd, dd, dd, dd], []⟩
def G_slices_Equal_int_int_L1_hd (v_s1959 : (List Int)) (v_s1960 : (List Int)) (v_x1961 : Int) : PS := ⟨[.d (.sl (v_s1959.map (eI .i64))), .d (.sl (v_s1960.map (eI .i64))), dd, dd, dd, dd, dd, dd, dd, dd, dd, dd, .d (.v (.int .i64 (v_s1959.length : Int))), .d (.v (.int .i64 v_x1961)), dd, dd, dd, dd, dd, dd, dd, dd, dd, dd, dd, dd], []⟩
def G_slices_Equal_int_int_L1 (n : Nat) (v_s1959 : (List Int)) (v_s1960 : (List Int)) : Nat → Int → Option G_slices_Equal_int_int_L1_R
  | 0, _ => none
  | k + 1, v_x1961 =>
    if v_x1961 < (v_s1959.length : Int) then
     (getI v_s1959 v_x1961).bind fun (v_y1964 : Int) =>
     (getI v_s1960 v_x1961).bind fun (v_y1965 : Int) =>
     if v_y1964 = v_y1965 then
      G_slices_Equal_int_int_L1 n v_s1959 v_s1960 k (wi .i64 (v_x1961 + 1))
     else
      some (.x0 false)
    else
     some (.x1 )
theorem G_slices_Equal_int_int_L1_ok {Fi : Ex → PS → Prop} (hF : KC 26 Fi) (ks : List Fr) (n : Nat) (v_s1959 : (List Int)) (v_s1960 : (List Int))  : ∀ (k : Nat) (v_x1961 : Int) (o : G_slices_Equal_int_int_L1_R), G_slices_Equal_int_int_L1 n v_s1959 v_s1960 k v_x1961 = some o → RunE Try.prog 26 Fi ks (G_slices_Equal_int_int_L1_ex o) (G_slices_Equal_int_int_L1_st v_s1959 v_s1960 o) → RunE Try.prog 26 Fi (.l k (cP (cB (cR (cL (cR (cR (bodyOf Try.f43))))))) :: ks) .normal (G_slices_Equal_int_int_L1_hd v_s1959 v_s1960 v_x1961)
  | 0, v_x1961, o, h, q => by rw [G_slices_Equal_int_int_L1] at h; cases h
  | k + 1, v_x1961, o, h, q => by
    rw [G_slices_Equal_int_int_L1] at h
    by_cases h1730 : v_x1961 < (v_s1959.length : Int)
    · rw [if_pos h1730] at h
      obtain ⟨v_y1964, h1734, h⟩ := bind_some h
      obtain ⟨v_y1965, h1735, h⟩ := bind_some h
      by_cases h1736 : v_y1964 = v_y1965
      · rw [if_pos h1736] at h
        exact pkk_sound TTok mix hF 16 (hs := [.t true, .y ((eI .i64) v_y1964), .c, .y ((eI .i64) v_y1965), .c, .t false]) (ts := []) (s := []) (l := [0, 1, 12, 13]) (by kernel_rfl) (by kernel_rfl) (.cons (dt h1730) (.cons (getI_ob (f := (eI .i64)) h1734) (.cons (getI_ob (f := (eI .i64)) h1735) (.cons (nf h1736) .nil)))) (G_slices_Equal_int_int_L1_ok hF ks n v_s1959 v_s1960 k (wi .i64 (v_x1961 + 1)) _ h q)
      · rw [if_neg h1736] at h
        cases h
        exact pkk_sound TTok mix hF 19 (hs := [.t true, .y ((eI .i64) v_y1964), .c, .y ((eI .i64) v_y1965), .c, .t true]) (ts := []) (s := []) (l := [4]) (by kernel_rfl) (by kernel_rfl) (.cons (dt h1730) (.cons (getI_ob (f := (eI .i64)) h1734) (.cons (getI_ob (f := (eI .i64)) h1735) (.cons (nt h1736) .nil)))) q
    · rw [if_neg h1730] at h
      cases h
      exact pkk_sound TTok mix hF 8 (hs := [.t false]) (ts := []) (s := []) (l := []) (by kernel_rfl) (by kernel_rfl) (.cons (df h1730) .nil) q
/- slices.Equal[[]int,int] -/
def G_slices_Equal_int_int (n : Nat) (v_s1959 : (List Int)) (v_s1960 : (List Int)) : Option (Bool) :=
  if (v_s1959.length : Int) = (v_s1960.length : Int) then
   (G_slices_Equal_int_int_L1 n v_s1959 v_s1960 n 0).bind fun v_o1967 => match v_o1967 with
   | .x0 v_z1968 =>
     some v_z1968
   | .x1  =>
     some true
  else
   some false
theorem G_slices_Equal_int_int_ok (n : Nat) (v_s1959 : (List Int)) (v_s1960 : (List Int)) (r : Bool) (h : G_slices_Equal_int_int n v_s1959 v_s1960 = some r) : Ret Try.prog 43 [(eL (eI .i64)) v_s1959, (eL (eI .i64)) v_s1960] (eB r) := by
  refine ret_run (n := 26) (fn := Try.f43) (c := bodyOf Try.f43) (by kernel_rfl) (by kernel_rfl) (by kernel_rfl) (by kernel_rfl) ?_
  have hF : KC 26 (FinR Try.prog Try.f43 (eB r)) := FinR.kc' (by kernel_rfl)
  unfold G_slices_Equal_int_int at h
  by_cases h1729 : (v_s1959.length : Int) = (v_s1960.length : Int)
  · rw [if_pos h1729] at h
    obtain ⟨v_o1967, h1737, h⟩ := bind_some h
    refine pkk_sound TTok mix hF 12 (hs := [.u (.d (.v (.int .i64 (v_s1959.length : Int)))), .u (.d (.v (.int .i64 (v_s1960.length : Int)))), .t false, .u (.d (.v (.int .i64 (v_s1959.length : Int)))), .n n]) (ts := []) (s := []) (l := [0, 1, 12, 13]) (by kernel_rfl) (by kernel_rfl) (.cons (len_ob (f := (eI .i64)) (l := v_s1959)) (.cons (len_ob (f := (eI .i64)) (l := v_s1960)) (.cons (nf h1729) (.cons (len_ob (f := (eI .i64)) (l := v_s1959)) .nil)))) (G_slices_Equal_int_int_L1_ok hF (.b 0 :: .s (cR (cR (cR (bodyOf Try.f43)))) :: []) n v_s1959 v_s1960 n 0 _ h1737 ?_)
    cases v_o1967 with
    | x0 v_z1968 =>
      try dsimp only at h
      obtain rfl := Option.some.inj h
      exact pend_sound TTok mix 2 (hs := []) (by kernel_rfl) (by kernel_rfl) (by kernel_rfl) .nil
    | x1  =>
      try dsimp only at h
      obtain rfl := Option.some.inj h
      exact pend_sound TTok mix 4 (hs := []) (by kernel_rfl) (by kernel_rfl) (by kernel_rfl) .nil
  · rw [if_neg h1729] at h
    obtain rfl := Option.some.inj h
    exact pend_sound TTok mix 10 (hs := [.u (.d (.v (.int .i64 (v_s1959.length : Int)))), .u (.d (.v (.int .i64 (v_s1960.length : Int)))), .t true]) (by kernel_rfl) (by kernel_rfl) (by kernel_rfl) (.cons (len_ob (f := (eI .i64)) (l := v_s1959)) (.cons (len_ob (f := (eI .i64)) (l := v_s1960)) (.cons (nt h1729) .nil)))
/- ringhall/ringlaw5.asked$2 -/
def G_ringlaw5_asked_2 (n : Nat) (v_x1975 : S_ringref5_Proc) (v_c1976 : S_ringlaw5_Deed) : Option (Bool) :=
  some (v_x1975.fGroup == v_c1976.fN)
theorem G_ringlaw5_asked_2_ok (n : Nat) (v_x1975 : S_ringref5_Proc) (v_c1976 : S_ringlaw5_Deed) (r : Bool) (h : G_ringlaw5_asked_2 n v_x1975 v_c1976 = some r) : Ret Try.prog 161 [eS_ringref5_Proc v_x1975, .iptr [.v (.int .i64 v_c1976.fKind), .v (.int .i64 v_c1976.fP), .v (.int .i64 v_c1976.fN)] 0] (eB r) := by
  refine ret_run (n := 9) (fn := Try.f161) (c := bodyOf Try.f161) (by kernel_rfl) (by kernel_rfl) (by kernel_rfl) (by kernel_rfl) ?_
  have hF : KC 9 (FinR Try.prog Try.f161 (eB r)) := FinR.kc' (by kernel_rfl)
  unfold G_ringlaw5_asked_2 at h
  obtain rfl := Option.some.inj h
  exact pend_sound TTok mix 5 (hs := [.c, .c]) (by kernel_rfl) (by kernel_rfl) (by kernel_rfl) .nil
inductive G_proc_Table_Kids_h_C1_R where
  | x0 (v_x1996 : Bool) (v_w1997 : (List Int))
def G_proc_Table_Kids_h_C1_ex : G_proc_Table_Kids_h_C1_R → Ex
  | .x0 _ _ => .normal
def G_proc_Table_Kids_h_C1_st (v_p1980 : Int) (v_x1981 : Int) (v_t1979 : S_proc_Table) (v_w1982 : (List Int)) (v_y1995 : S_proc_entry) : G_proc_Table_Kids_h_C1_R → PS
  | .x0 v_x1996 v_w1997 => ⟨[dd, .d (.v (.int .i64 v_p1980)), dd, dd, dd, .srf 2, .d (.v (.int .i64 v_x1981)), dd, dd, dd, dd, .d (.agg (cA_t243 v_t1979.fl)), .d (.v (.int .i64 v_x1981)), dd, dd, dd, dd, dd, dd, dd, dd, dd, dd, dd, dd, dd, dd, dd, .d (.v (.bool v_x1996)), dd, dd, dd, dd, dd, dd], [.gh 0 (.ref 1 0), .box ((cS_proc_Table v_t1979).map FV.d), .row 3 1 (v_w1997.map (eI .i64))]⟩
def G_proc_Table_Kids_h_C1_hd (v_p1980 : Int) (v_x1981 : Int) (v_t1979 : S_proc_Table) (v_w1982 : (List Int)) (v_y1995 : S_proc_entry)  : PS := ⟨[dd, .d (.v (.int .i64 v_p1980)), dd, dd, dd, .srf 2, .d (.v (.int .i64 v_x1981)), .ref 3 0, dd, dd, dd, .d (.agg (cA_t243 v_t1979.fl)), .d (.v (.int .i64 v_x1981)), dd, dd, dd, dd, dd, dd, dd, dd, dd, dd, dd, dd, dd, dd, dd, dd, dd, dd, dd, dd, dd, dd], [.gh 0 (.ref 1 0), .box ((cS_proc_Table v_t1979).map FV.d), .row 3 1 (v_w1982.map (eI .i64)), .box [.d (.v (.int .i64 v_y1995.fstate)), .d (.v (.int .i64 v_y1995.fparent)), .d (.v (.int .i64 v_y1995.fgroup)), .d (.v (.int .i64 v_y1995.fstatus))]]⟩
def G_proc_Table_Kids_h_C1 (n : Nat) (v_p1980 : Int) (v_x1981 : Int) (v_t1979 : S_proc_Table) (v_w1982 : (List Int)) (v_y1995 : S_proc_entry) : Option G_proc_Table_Kids_h_C1_R :=
  if v_y1995.fstate = 0 then
   some (.x0 false v_w1982)
  else
   if v_y1995.fparent = v_p1980 then
    some (.x0 (decide (v_p1980 > 0)) v_w1982)
   else
    some (.x0 false v_w1982)
theorem G_proc_Table_Kids_h_C1_ok {Fi : Ex → PS → Prop} (hF : KC 35 Fi) (ks : List Fr) (n : Nat) (v_p1980 : Int) (v_x1981 : Int) (v_t1979 : S_proc_Table) (v_w1982 : (List Int)) (v_y1995 : S_proc_entry)  (o : G_proc_Table_Kids_h_C1_R) (h : G_proc_Table_Kids_h_C1 n v_p1980 v_x1981 v_t1979 v_w1982 v_y1995 = some o) (q : RunE Try.prog 35 Fi ks (G_proc_Table_Kids_h_C1_ex o) (G_proc_Table_Kids_h_C1_st v_p1980 v_x1981 v_t1979 v_w1982 v_y1995 o)) : RunE Try.prog 35 Fi (.s (cL (cR (cB (cL (cR (cR (cP (cB (cR (cL (cR (cR (bodyOf Try.f162))))))))))))) :: ks) .normal (G_proc_Table_Kids_h_C1_hd v_p1980 v_x1981 v_t1979 v_w1982 v_y1995) := by
  unfold G_proc_Table_Kids_h_C1 at h
  by_cases h1763 : v_y1995.fstate = 0
  · rw [if_pos h1763] at h
    cases h
    exact pkk_sound TTok mix hF 1 (hs := [.c, .t false, .c, .c, .c, .c, .c]) (ts := []) (s := [0, 1, 2]) (l := [1, 5, 6, 11, 12, 28]) (by kernel_rfl) (by kernel_rfl) (.cons (nf h1763) .nil) q
  · rw [if_neg h1763] at h
    by_cases h1764 : v_y1995.fparent = v_p1980
    · rw [if_pos h1764] at h
      cases h
      exact pkk_sound TTok mix hF 1 (hs := [.c, .t true, .c, .c, .c, .c, .t true, .c]) (ts := []) (s := [0, 1, 2]) (l := [1, 5, 6, 11, 12, 28]) (by kernel_rfl) (by kernel_rfl) (.cons (nt h1763) (.cons (bt h1764) .nil)) q
    · rw [if_neg h1764] at h
      cases h
      exact pkk_sound TTok mix hF 1 (hs := [.c, .t true, .c, .c, .c, .c, .t false, .c]) (ts := []) (s := [0, 1, 2]) (l := [1, 5, 6, 11, 12, 28]) (by kernel_rfl) (by kernel_rfl) (.cons (nt h1763) (.cons (bf h1764) .nil)) q
inductive G_proc_Table_Kids_h_L2_R where
  | x0 (v_w2007 : (List Int))
def G_proc_Table_Kids_h_L2_ex : G_proc_Table_Kids_h_L2_R → Ex
  | .x0 _ => .exit 0
def G_proc_Table_Kids_h_L2_st (v_p1980 : Int) (v_t1979 : S_proc_Table) : G_proc_Table_Kids_h_L2_R → PS
  | .x0 v_w2007 => ⟨[dd, dd, dd, dd, dd, .srf 2, dd, dd, dd, dd, dd, dd, dd, dd, dd, dd, dd, dd, dd, dd, dd, dd, dd, dd, dd, dd, dd, dd, dd, dd, dd, dd, dd, dd, dd], [.gh 0 (.ref 1 0), .box ((cS_proc_Table v_t1979).map FV.d), .row 3 1 (v_w2007.map (eI .i64))]⟩
def G_proc_Table_Kids_h_L2_hd (v_p1980 : Int) (v_t1979 : S_proc_Table) (v_x1981 : Int) (v_w1982 : (List Int)) : PS := ⟨[dd, .d (.v (.int .i64 v_p1980)), dd, dd, dd, .srf 2, dd, dd, dd, dd, dd, .d (.agg (cA_t243 v_t1979.fl)), .d (.v (.int .i64 v_x1981)), dd, dd, dd, dd, dd, dd, dd, dd, dd, dd, dd, dd, dd, dd, dd, dd, dd, dd, dd, dd, dd, dd], [.gh 0 (.ref 1 0), .box ((cS_proc_Table v_t1979).map FV.d), .row 3 1 (v_w1982.map (eI .i64))]⟩
def G_proc_Table_Kids_h_L2 (n : Nat) (v_p1980 : Int) (v_t1979 : S_proc_Table) : Nat → Int → (List Int) → Option G_proc_Table_Kids_h_L2_R
  | 0, _, _ => none
  | k + 1, v_x1981, v_w1982 =>
    if v_x1981 < 17 then
     (getA v_t1979.fl v_x1981).bind fun (v_y1995 : S_proc_entry) =>
     (G_proc_Table_Kids_h_C1 n v_p1980 v_x1981 v_t1979 v_w1982 v_y1995).bind fun v_o2002 => match v_o2002 with
     | .x0 v_z2003 v_z2004 =>
       if v_z2003 = true then
        (app 8 v_z2004 ([v_x1981])).bind fun (v_a2006 : (List Int)) =>
        G_proc_Table_Kids_h_L2 n v_p1980 v_t1979 k (wi .i64 (v_x1981 + 1)) v_a2006
       else
        G_proc_Table_Kids_h_L2 n v_p1980 v_t1979 k (wi .i64 (v_x1981 + 1)) v_z2004
    else
     some (.x0 v_w1982)
theorem G_proc_Table_Kids_h_L2_ok {Fi : Ex → PS → Prop} (hF : KC 35 Fi) (ks : List Fr) (n : Nat) (v_p1980 : Int) (v_t1979 : S_proc_Table)  : ∀ (k : Nat) (v_x1981 : Int) (v_w1982 : (List Int)) (o : G_proc_Table_Kids_h_L2_R), G_proc_Table_Kids_h_L2 n v_p1980 v_t1979 k v_x1981 v_w1982 = some o → RunE Try.prog 35 Fi ks (G_proc_Table_Kids_h_L2_ex o) (G_proc_Table_Kids_h_L2_st v_p1980 v_t1979 o) → RunE Try.prog 35 Fi (.l k (cP (cB (cR (cL (cR (cR (bodyOf Try.f162))))))) :: ks) .normal (G_proc_Table_Kids_h_L2_hd v_p1980 v_t1979 v_x1981 v_w1982)
  | 0, v_x1981, v_w1982, o, h, q => by rw [G_proc_Table_Kids_h_L2] at h; cases h
  | k + 1, v_x1981, v_w1982, o, h, q => by
    rw [G_proc_Table_Kids_h_L2] at h
    by_cases h1749 : v_x1981 < 17
    · rw [if_pos h1749] at h
      obtain ⟨v_y1995, h1760, h⟩ := bind_some h
      obtain ⟨v_o2002, h1765, h⟩ := bind_some h
      refine pkk_sound TTok mix hF 11 (hs := [.t true, .l (.d (.agg [.v (.int .i64 v_y1995.fstate), .v (.int .i64 v_y1995.fparent), .v (.int .i64 v_y1995.fgroup), .v (.int .i64 v_y1995.fstatus)])), .c]) (ts := []) (s := [0, 1, 2, 12]) (l := [1, 5, 6, 7, 11, 12]) (by kernel_rfl) (by kernel_rfl) (.cons (dt h1749) (.cons (arr_idx (sz := 4) (g := (fun x => [.d (.v (.int .i64 x.fstate)), .d (.v (.int .i64 x.fparent)), .d (.v (.int .i64 x.fgroup)), .d (.v (.int .i64 x.fstatus))])) (fun _ => rfl) h1760) (.cons (show 0 + 4 ≤ 4 by decide) .nil))) (G_proc_Table_Kids_h_C1_ok hF (.s (cR (cR (cB (cL (cR (cR (cP (cB (cR (cL (cR (cR (bodyOf Try.f162))))))))))))) :: .b 1 :: .s (cR (cR (cR (cP (cB (cR (cL (cR (cR (bodyOf Try.f162)))))))))) :: .l k (cP (cB (cR (cL (cR (cR (bodyOf Try.f162))))))) :: ks) n v_p1980 v_x1981 v_t1979 v_w1982 v_y1995 _ h1765 ?_)
      cases v_o2002 with
      | x0 v_z2003 v_z2004 =>
        try dsimp only at h
        by_cases h1768 : v_z2003 = true
        · rw [if_pos h1768] at h
          obtain ⟨v_a2006, h1769, h⟩ := bind_some h
          exact pkk_sound TTok mix hF 4 (hs := [.t true, .bd, .w (v_a2006.map (eI .i64))]) (ts := []) (s := [0, 1, 12]) (l := [1, 5, 11, 12]) (by kernel_rfl) (by kernel_rfl) (.cons h1768 (.cons (app_ob (f := (eI .i64)) (s := 1) h1769 (fun _ => rfl)).1 (.cons (app_ob (f := (eI .i64)) (s := 1) h1769 (fun _ => rfl)).2.1 (.cons (app_ob (f := (eI .i64)) (s := 1) h1769 (fun _ => rfl)).2.2.1 (.cons (app_ob (f := (eI .i64)) (s := 1) h1769 (fun _ => rfl)).2.2.2 .nil))))) (G_proc_Table_Kids_h_L2_ok hF ks n v_p1980 v_t1979 k (wi .i64 (v_x1981 + 1)) v_a2006 _ h q)
        · rw [if_neg h1768] at h
          exact pkk_sound TTok mix hF 4 (hs := [.t false]) (ts := []) (s := [0, 1, 2]) (l := [1, 5, 11, 12]) (by kernel_rfl) (by kernel_rfl) (.cons (vf h1768) .nil) (G_proc_Table_Kids_h_L2_ok hF ks n v_p1980 v_t1979 k (wi .i64 (v_x1981 + 1)) v_z2004 _ h q)
    · rw [if_neg h1749] at h
      cases h
      exact pkk_sound TTok mix hF 8 (hs := [.t false]) (ts := []) (s := [0, 1, 2]) (l := [5]) (by kernel_rfl) (by kernel_rfl) (.cons (df h1749) .nil) q
/- (*ringhall/proc.Table).Kids -/
def G_proc_Table_Kids_h (n : Nat) (v_t1979 : S_proc_Table) (v_p1980 : Int) : Option ((List Int) × S_proc_Table) :=
  (G_proc_Table_Kids_h_L2 n v_p1980 v_t1979 n 0 ([] : List Int)).bind fun v_o2008 => match v_o2008 with
  | .x0 v_z2009 =>
    some (v_z2009, v_t1979)
theorem G_proc_Table_Kids_h_ok (n : Nat) (v_t1979 : S_proc_Table) (v_p1980 : Int) (r : (List Int) × S_proc_Table) (h : G_proc_Table_Kids_h n v_t1979 v_p1980 = some r) : RetH Try.prog 162 [.ref 0 0, .d ((eI .i64) v_p1980)] [.box ((cS_proc_Table v_t1979).map FV.d)] (.d ((eL (eI .i64)) r.1)) [.box ((cS_proc_Table r.2).map FV.d)] := by
  refine retH_run (n := 35) (fn := Try.f162) (c := bodyOf Try.f162) (by kernel_rfl) (by kernel_rfl) (by kernel_rfl) (by kernel_rfl) ?_
  have hF : KC 35 (FinH Try.prog Try.f162 [.box ((cS_proc_Table v_t1979).map FV.d)] (.d ((eL (eI .i64)) r.1)) [.box ((cS_proc_Table r.2).map FV.d)]) := FinH.kc' (by kernel_rfl)
  unfold G_proc_Table_Kids_h at h
  obtain ⟨v_o2008, h1770, h⟩ := bind_some h
  refine pkk_sound TTok mix hF 9 (hs := [.c, .n n]) (ts := [(5, 3, 1)]) (s := [1, 0, 23]) (l := [1, 5, 11, 12]) (by kernel_rfl) (by kernel_rfl) .nil (G_proc_Table_Kids_h_L2_ok hF (.b 0 :: .s (cR (cR (cR (bodyOf Try.f162)))) :: []) n v_p1980 v_t1979 n 0 ([] : List Int) _ h1770 ?_)
  cases v_o2008 with
  | x0 v_z2009 =>
    try dsimp only at h
    obtain rfl := Option.some.inj h
    exact pendH_sound TTok mix 5 (hs := [.dl 4, .fz 2]) [1] (by kernel_rfl) (by kernel_rfl) (by kernel_rfl) .nil
inductive G_ringlaw5_asked_h_C1_R where
  | x0 (v_x1765 : Bool) (v_w1766 : (List S_ringref5_Proc))
def G_ringlaw5_asked_h_C1_ex : G_ringlaw5_asked_h_C1_R → Ex
  | .x0 _ _ => .normal
def G_ringlaw5_asked_h_C1_st (v_r1576 : (Int × Int × S_proc_Table)) (v_r1582 : (Int × Int × S_proc_Table)) (v_r1587 : (Int × Int × S_proc_Table)) (v_r1570 : (List S_ringref5_Proc)) (v_d1571 : S_ringlaw5_Deed) : G_ringlaw5_asked_h_C1_R → PS
  | .x0 v_x1765 v_w1766 => ⟨[.ref 2 0, .srf 3, dd, dd, dd, .ref 4 0, dd, dd, dd, dd, dd, dd, dd, dd, dd, dd, dd, dd, dd, dd, dd, dd, dd, dd, dd, dd, dd, dd, dd, dd, dd, dd, dd, dd, dd, dd, dd, dd, dd, dd, dd, dd, dd, dd, dd, dd, dd, dd, dd, dd, dd, dd, dd, dd, dd, dd, dd, dd, dd, dd, dd, dd, dd, dd, dd, dd, dd, dd, dd, dd, dd, dd, dd, dd, dd, dd, dd, dd, dd, dd, dd, dd, dd, dd, dd, dd, dd, dd, dd, dd, dd, dd, dd, dd, dd, dd, dd, dd, dd, dd, dd, dd, dd, dd, dd, dd, dd, dd, dd, dd, dd, dd, dd, .d (.v (.bool v_x1765)), dd, dd, dd, dd, dd, dd, dd, dd, dd, dd, dd, dd, dd, dd, dd, dd, dd, dd, dd, dd, dd, dd, dd, dd, dd, dd, dd, dd, dd, dd, dd, dd, dd, dd, dd, dd, dd, dd, dd, dd, dd, dd, dd, dd, dd, dd, dd, dd, dd, dd, dd, dd, dd, dd, dd, dd, dd, dd, dd, dd, dd, dd, dd, dd, dd, dd, dd, dd, dd, dd, dd], [.gh 0 (.ref 2 0), .gh 1 (.srf 3), .box ((cS_proc_Table v_r1587.2.2).map FV.d), .row 180 5 (v_w1766.map eS_ringref5_Proc), .box [.d (.v (.int .i64 v_d1571.fKind)), .d (.v (.int .i64 v_d1571.fP)), .d (.v (.int .i64 v_d1571.fN))]]⟩
def G_ringlaw5_asked_h_C1_hd (v_r1576 : (Int × Int × S_proc_Table)) (v_r1582 : (Int × Int × S_proc_Table)) (v_r1587 : (Int × Int × S_proc_Table)) (v_r1570 : (List S_ringref5_Proc)) (v_d1571 : S_ringlaw5_Deed)  : PS := ⟨[.ref 2 0, .srf 3, dd, dd, dd, .ref 4 0, dd, .d (.v (.int .i64 v_r1576.1)), .d (.v (.int .i64 v_r1576.2.1)), .d (.v (.int .i64 v_r1582.1)), .d (.v (.int .i64 v_r1582.2.1)), .d (.v (.int .i64 v_r1587.1)), .d (.v (.int .i64 v_r1587.2.1)), dd, dd, dd, dd, dd, dd, dd, dd, dd, dd, dd, dd, dd, dd, dd, dd, dd, dd, dd, dd, dd, dd, dd, dd, dd, dd, dd, dd, dd, dd, dd, dd, dd, dd, dd, dd, dd, dd, dd, dd, dd, dd, dd, dd, dd, dd, dd, dd, dd, dd, dd, dd, dd, dd, dd, dd, dd, dd, dd, dd, dd, dd, dd, dd, dd, dd, dd, dd, dd, dd, dd, dd, dd, dd, dd, dd, dd, dd, dd, dd, dd, dd, dd, dd, dd, dd, dd, dd, dd, dd, dd, dd, dd, dd, dd, dd, dd, dd, dd, dd, dd, dd, dd, dd, dd, dd, dd, dd, dd, dd, dd, dd, dd, dd, dd, dd, dd, dd, dd, dd, dd, dd, dd, dd, dd, dd, dd, dd, dd, dd, dd, dd, dd, dd, dd, dd, dd, dd, dd, dd, dd, dd, dd, dd, dd, dd, dd, dd, dd, dd, dd, dd, dd, dd, dd, dd, dd, dd, dd, dd, dd, dd, dd, dd, dd, dd, dd, dd, dd, dd, dd, dd], [.gh 0 (.ref 2 0), .gh 1 (.srf 3), .box ((cS_proc_Table v_r1587.2.2).map FV.d), .row 180 5 (v_r1570.map eS_ringref5_Proc), .box [.d (.v (.int .i64 v_d1571.fKind)), .d (.v (.int .i64 v_d1571.fP)), .d (.v (.int .i64 v_d1571.fN))]]⟩
def G_ringlaw5_asked_h_C1 (n : Nat) (v_r1576 : (Int × Int × S_proc_Table)) (v_r1582 : (Int × Int × S_proc_Table)) (v_r1587 : (Int × Int × S_proc_Table)) (v_r1570 : (List S_ringref5_Proc)) (v_d1571 : S_ringlaw5_Deed) : Option G_ringlaw5_asked_h_C1_R :=
  if v_r1576.2.1 = 1 then
   if v_r1582.2.1 = v_r1576.2.1 then
    if v_r1587.2.1 = v_r1576.2.1 then
     if v_r1576.1 = 0 then
      if v_r1582.1 = 0 then
       some (.x0 (v_r1587.1 != 0) v_r1570)
      else
       some (.x0 true v_r1570)
     else
      some (.x0 true v_r1570)
    else
     some (.x0 true v_r1570)
   else
    some (.x0 true v_r1570)
  else
   some (.x0 true v_r1570)
theorem G_ringlaw5_asked_h_C1_ok {Fi : Ex → PS → Prop} (hF : KC 185 Fi) (ks : List Fr) (n : Nat) (v_r1576 : (Int × Int × S_proc_Table)) (v_r1582 : (Int × Int × S_proc_Table)) (v_r1587 : (Int × Int × S_proc_Table)) (v_r1570 : (List S_ringref5_Proc)) (v_d1571 : S_ringlaw5_Deed)  (o : G_ringlaw5_asked_h_C1_R) (h : G_ringlaw5_asked_h_C1 n v_r1576 v_r1582 v_r1587 v_r1570 v_d1571 = some o) (q : RunE Try.prog 185 Fi ks (G_ringlaw5_asked_h_C1_ex o) (G_ringlaw5_asked_h_C1_st v_r1576 v_r1582 v_r1587 v_r1570 v_d1571 o)) : RunE Try.prog 185 Fi (.s (cL (cT (cR (cB (cL (cR (cR (cR (cR (cR (bodyOf Try.f113))))))))))) :: ks) .normal (G_ringlaw5_asked_h_C1_hd v_r1576 v_r1582 v_r1587 v_r1570 v_d1571) := by
  unfold G_ringlaw5_asked_h_C1 at h
  by_cases h1603 : v_r1576.2.1 = 1
  · rw [if_pos h1603] at h
    by_cases h1604 : v_r1582.2.1 = v_r1576.2.1
    · rw [if_pos h1604] at h
      by_cases h1605 : v_r1587.2.1 = v_r1576.2.1
      · rw [if_pos h1605] at h
        by_cases h1606 : v_r1576.1 = 0
        · rw [if_pos h1606] at h
          by_cases h1607 : v_r1582.1 = 0
          · rw [if_pos h1607] at h
            cases h
            exact pkk_sound TTok mix hF 1 (hs := [.t false, .c, .c, .t false, .c, .c, .t false, .c, .t false, .c, .t false, .c]) (ts := []) (s := [0, 1, 2, 3, 4]) (l := [0, 1, 5, 113]) (by kernel_rfl) (by kernel_rfl) (.cons (nf h1603) (.cons (nf h1604) (.cons (nf h1605) (.cons (nf h1606) (.cons (nf h1607) .nil))))) q
          · rw [if_neg h1607] at h
            cases h
            exact pkk_sound TTok mix hF 1 (hs := [.t false, .c, .c, .t false, .c, .c, .t false, .c, .t false, .c, .t true, .c]) (ts := []) (s := [0, 1, 2, 3, 4]) (l := [0, 1, 5, 113]) (by kernel_rfl) (by kernel_rfl) (.cons (nf h1603) (.cons (nf h1604) (.cons (nf h1605) (.cons (nf h1606) (.cons (nt h1607) .nil))))) q
        · rw [if_neg h1606] at h
          cases h
          exact pkk_sound TTok mix hF 1 (hs := [.t false, .c, .c, .t false, .c, .c, .t false, .c, .t true, .c, .c, .c]) (ts := []) (s := [0, 1, 2, 3, 4]) (l := [0, 1, 5, 113]) (by kernel_rfl) (by kernel_rfl) (.cons (nf h1603) (.cons (nf h1604) (.cons (nf h1605) (.cons (nt h1606) .nil)))) q
      · rw [if_neg h1605] at h
        cases h
        exact pkk_sound TTok mix hF 1 (hs := [.t false, .c, .c, .t false, .c, .c, .t true, .c, .c, .c, .c, .c]) (ts := []) (s := [0, 1, 2, 3, 4]) (l := [0, 1, 5, 113]) (by kernel_rfl) (by kernel_rfl) (.cons (nf h1603) (.cons (nf h1604) (.cons (nt h1605) .nil))) q
    · rw [if_neg h1604] at h
      cases h
      exact pkk_sound TTok mix hF 1 (hs := [.t false, .c, .c, .t true, .c, .c, .c, .c, .c, .c, .c, .c]) (ts := []) (s := [0, 1, 2, 3, 4]) (l := [0, 1, 5, 113]) (by kernel_rfl) (by kernel_rfl) (.cons (nf h1603) (.cons (nt h1604) .nil)) q
  · rw [if_neg h1603] at h
    cases h
    exact pkk_sound TTok mix hF 1 (hs := [.t true, .c, .c, .c, .c, .c, .c, .c, .c, .c, .c, .c]) (ts := []) (s := [0, 1, 2, 3, 4]) (l := [0, 1, 5, 113]) (by kernel_rfl) (by kernel_rfl) (.cons (nt h1603) .nil) q
inductive G_ringlaw5_asked_h_C2_R where
  | x0 (v_x1842 : Bool) (v_w1843 : (List S_ringref5_Proc))
def G_ringlaw5_asked_h_C2_ex : G_ringlaw5_asked_h_C2_R → Ex
  | .x0 _ _ => .normal
def G_ringlaw5_asked_h_C2_st (v_r1576 : (Int × Int × S_proc_Table)) (v_r1582 : (Int × Int × S_proc_Table)) (v_r1587 : (Int × Int × S_proc_Table)) (v_r1570 : (List S_ringref5_Proc)) (v_d1571 : S_ringlaw5_Deed) : G_ringlaw5_asked_h_C2_R → PS
  | .x0 v_x1842 v_w1843 => ⟨[.ref 2 0, .srf 3, dd, dd, dd, .ref 4 0, dd, dd, dd, dd, dd, dd, dd, dd, dd, dd, dd, dd, dd, dd, dd, dd, dd, dd, dd, dd, dd, dd, dd, dd, dd, dd, dd, dd, dd, dd, dd, dd, dd, dd, dd, dd, dd, dd, dd, dd, dd, dd, dd, dd, dd, dd, dd, dd, dd, dd, dd, dd, dd, dd, dd, dd, dd, dd, dd, dd, dd, dd, dd, dd, dd, dd, dd, dd, dd, dd, dd, dd, dd, dd, dd, dd, dd, dd, dd, dd, dd, dd, dd, dd, dd, dd, dd, dd, dd, dd, dd, dd, dd, dd, dd, dd, dd, dd, dd, dd, dd, dd, dd, dd, dd, dd, dd, .d (.v (.bool v_x1842)), dd, dd, dd, dd, dd, dd, dd, dd, dd, dd, dd, dd, dd, dd, dd, dd, dd, dd, dd, dd, dd, dd, dd, dd, dd, dd, dd, dd, dd, dd, dd, dd, dd, dd, dd, dd, dd, dd, dd, dd, dd, dd, dd, dd, dd, dd, dd, dd, dd, dd, dd, dd, dd, dd, dd, dd, dd, dd, dd, dd, dd, dd, dd, dd, dd, dd, dd, dd, dd, dd, dd], [.gh 0 (.ref 2 0), .gh 1 (.srf 3), .box ((cS_proc_Table v_r1587.2.2).map FV.d), .row 180 5 (v_w1843.map eS_ringref5_Proc), .box [.d (.v (.int .i64 v_d1571.fKind)), .d (.v (.int .i64 v_d1571.fP)), .d (.v (.int .i64 v_d1571.fN))]]⟩
def G_ringlaw5_asked_h_C2_hd (v_r1576 : (Int × Int × S_proc_Table)) (v_r1582 : (Int × Int × S_proc_Table)) (v_r1587 : (Int × Int × S_proc_Table)) (v_r1570 : (List S_ringref5_Proc)) (v_d1571 : S_ringlaw5_Deed)  : PS := ⟨[.ref 2 0, .srf 3, dd, dd, dd, .ref 4 0, dd, .d (.v (.int .i64 v_r1576.1)), .d (.v (.int .i64 v_r1576.2.1)), .d (.v (.int .i64 v_r1582.1)), .d (.v (.int .i64 v_r1582.2.1)), .d (.v (.int .i64 v_r1587.1)), .d (.v (.int .i64 v_r1587.2.1)), dd, dd, dd, dd, dd, dd, dd, dd, dd, dd, dd, dd, dd, dd, dd, dd, dd, dd, dd, dd, dd, dd, dd, dd, dd, dd, dd, dd, dd, dd, dd, dd, dd, dd, dd, dd, dd, dd, dd, dd, dd, dd, dd, dd, dd, dd, dd, dd, dd, dd, dd, dd, dd, dd, dd, dd, dd, dd, dd, dd, dd, dd, dd, dd, dd, dd, dd, dd, dd, dd, dd, dd, dd, dd, dd, dd, dd, dd, dd, dd, dd, dd, dd, dd, dd, dd, dd, dd, dd, dd, dd, dd, dd, dd, dd, dd, dd, dd, dd, dd, dd, dd, dd, dd, dd, dd, dd, dd, dd, dd, dd, dd, dd, dd, dd, dd, dd, dd, dd, dd, dd, dd, dd, dd, dd, dd, dd, dd, dd, dd, dd, dd, dd, dd, dd, dd, dd, dd, dd, dd, dd, dd, dd, dd, dd, dd, dd, dd, dd, dd, dd, dd, dd, dd, dd, dd, dd, dd, dd, dd, dd, dd, dd, dd, dd, dd, dd, dd, dd, dd, dd, dd], [.gh 0 (.ref 2 0), .gh 1 (.srf 3), .box ((cS_proc_Table v_r1587.2.2).map FV.d), .row 180 5 (v_r1570.map eS_ringref5_Proc), .box [.d (.v (.int .i64 v_d1571.fKind)), .d (.v (.int .i64 v_d1571.fP)), .d (.v (.int .i64 v_d1571.fN))]]⟩
def G_ringlaw5_asked_h_C2 (n : Nat) (v_r1576 : (Int × Int × S_proc_Table)) (v_r1582 : (Int × Int × S_proc_Table)) (v_r1587 : (Int × Int × S_proc_Table)) (v_r1570 : (List S_ringref5_Proc)) (v_d1571 : S_ringlaw5_Deed) : Option G_ringlaw5_asked_h_C2_R :=
  if v_r1576.2.1 = 1 then
   if v_r1582.2.1 = v_r1576.2.1 then
    if v_r1587.2.1 = v_r1576.2.1 then
     if v_r1576.1 = 0 then
      if v_r1582.1 = 0 then
       some (.x0 (v_r1587.1 != 0) v_r1570)
      else
       some (.x0 true v_r1570)
     else
      some (.x0 true v_r1570)
    else
     some (.x0 true v_r1570)
   else
    some (.x0 true v_r1570)
  else
   some (.x0 true v_r1570)
theorem G_ringlaw5_asked_h_C2_ok {Fi : Ex → PS → Prop} (hF : KC 185 Fi) (ks : List Fr) (n : Nat) (v_r1576 : (Int × Int × S_proc_Table)) (v_r1582 : (Int × Int × S_proc_Table)) (v_r1587 : (Int × Int × S_proc_Table)) (v_r1570 : (List S_ringref5_Proc)) (v_d1571 : S_ringlaw5_Deed)  (o : G_ringlaw5_asked_h_C2_R) (h : G_ringlaw5_asked_h_C2 n v_r1576 v_r1582 v_r1587 v_r1570 v_d1571 = some o) (q : RunE Try.prog 185 Fi ks (G_ringlaw5_asked_h_C2_ex o) (G_ringlaw5_asked_h_C2_st v_r1576 v_r1582 v_r1587 v_r1570 v_d1571 o)) : RunE Try.prog 185 Fi (.s (cL (cT (cR (cB (cL (cR (cR (cR (cR (cR (bodyOf Try.f113))))))))))) :: ks) .normal (G_ringlaw5_asked_h_C2_hd v_r1576 v_r1582 v_r1587 v_r1570 v_d1571) := by
  unfold G_ringlaw5_asked_h_C2 at h
  by_cases h1659 : v_r1576.2.1 = 1
  · rw [if_pos h1659] at h
    by_cases h1660 : v_r1582.2.1 = v_r1576.2.1
    · rw [if_pos h1660] at h
      by_cases h1661 : v_r1587.2.1 = v_r1576.2.1
      · rw [if_pos h1661] at h
        by_cases h1662 : v_r1576.1 = 0
        · rw [if_pos h1662] at h
          by_cases h1663 : v_r1582.1 = 0
          · rw [if_pos h1663] at h
            cases h
            exact pkk_sound TTok mix hF 1 (hs := [.t false, .c, .c, .t false, .c, .c, .t false, .c, .t false, .c, .t false, .c]) (ts := []) (s := [0, 1, 2, 3, 4]) (l := [0, 1, 5, 113]) (by kernel_rfl) (by kernel_rfl) (.cons (nf h1659) (.cons (nf h1660) (.cons (nf h1661) (.cons (nf h1662) (.cons (nf h1663) .nil))))) q
          · rw [if_neg h1663] at h
            cases h
            exact pkk_sound TTok mix hF 1 (hs := [.t false, .c, .c, .t false, .c, .c, .t false, .c, .t false, .c, .t true, .c]) (ts := []) (s := [0, 1, 2, 3, 4]) (l := [0, 1, 5, 113]) (by kernel_rfl) (by kernel_rfl) (.cons (nf h1659) (.cons (nf h1660) (.cons (nf h1661) (.cons (nf h1662) (.cons (nt h1663) .nil))))) q
        · rw [if_neg h1662] at h
          cases h
          exact pkk_sound TTok mix hF 1 (hs := [.t false, .c, .c, .t false, .c, .c, .t false, .c, .t true, .c, .c, .c]) (ts := []) (s := [0, 1, 2, 3, 4]) (l := [0, 1, 5, 113]) (by kernel_rfl) (by kernel_rfl) (.cons (nf h1659) (.cons (nf h1660) (.cons (nf h1661) (.cons (nt h1662) .nil)))) q
      · rw [if_neg h1661] at h
        cases h
        exact pkk_sound TTok mix hF 1 (hs := [.t false, .c, .c, .t false, .c, .c, .t true, .c, .c, .c, .c, .c]) (ts := []) (s := [0, 1, 2, 3, 4]) (l := [0, 1, 5, 113]) (by kernel_rfl) (by kernel_rfl) (.cons (nf h1659) (.cons (nf h1660) (.cons (nt h1661) .nil))) q
    · rw [if_neg h1660] at h
      cases h
      exact pkk_sound TTok mix hF 1 (hs := [.t false, .c, .c, .t true, .c, .c, .c, .c, .c, .c, .c, .c]) (ts := []) (s := [0, 1, 2, 3, 4]) (l := [0, 1, 5, 113]) (by kernel_rfl) (by kernel_rfl) (.cons (nf h1659) (.cons (nt h1660) .nil)) q
  · rw [if_neg h1659] at h
    cases h
    exact pkk_sound TTok mix hF 1 (hs := [.t true, .c, .c, .c, .c, .c, .c, .c, .c, .c, .c, .c]) (ts := []) (s := [0, 1, 2, 3, 4]) (l := [0, 1, 5, 113]) (by kernel_rfl) (by kernel_rfl) (.cons (nt h1659) .nil) q
inductive G_ringlaw5_asked_h_C3_R where
  | x0 (v_x1860 : Bool) (v_w1861 : (List S_ringref5_Proc))
def G_ringlaw5_asked_h_C3_ex : G_ringlaw5_asked_h_C3_R → Ex
  | .x0 _ _ => .normal
def G_ringlaw5_asked_h_C3_st (v_r1576 : (Int × Int × S_proc_Table)) (v_r1582 : (Int × Int × S_proc_Table)) (v_r1587 : (Int × Int × S_proc_Table)) (v_r1570 : (List S_ringref5_Proc)) (v_d1571 : S_ringlaw5_Deed) : G_ringlaw5_asked_h_C3_R → PS
  | .x0 v_x1860 v_w1861 => ⟨[.ref 2 0, .srf 3, dd, dd, dd, .ref 4 0, dd, dd, dd, dd, dd, dd, dd, dd, dd, dd, dd, dd, dd, dd, dd, dd, dd, dd, dd, dd, dd, dd, dd, dd, dd, dd, dd, dd, dd, dd, dd, dd, dd, dd, dd, dd, dd, dd, dd, dd, dd, dd, dd, dd, dd, dd, dd, dd, dd, dd, dd, dd, dd, dd, dd, dd, dd, dd, dd, dd, dd, dd, dd, dd, dd, dd, dd, dd, dd, dd, dd, dd, dd, dd, dd, dd, dd, dd, dd, dd, dd, dd, dd, dd, dd, dd, dd, dd, dd, dd, dd, dd, dd, dd, dd, dd, dd, dd, dd, dd, dd, dd, dd, dd, dd, dd, dd, dd, dd, dd, dd, dd, dd, dd, dd, dd, dd, dd, dd, dd, dd, dd, dd, dd, dd, dd, dd, dd, dd, dd, dd, dd, dd, .d (.v (.bool v_x1860)), dd, dd, dd, dd, dd, dd, dd, dd, dd, dd, dd, dd, dd, dd, dd, dd, dd, dd, dd, dd, dd, dd, dd, dd, dd, dd, dd, dd, dd, dd, dd, dd, dd, dd, dd, dd, dd, dd, dd, dd, dd, dd, dd, dd, dd], [.gh 0 (.ref 2 0), .gh 1 (.srf 3), .box ((cS_proc_Table v_r1587.2.2).map FV.d), .row 180 5 (v_w1861.map eS_ringref5_Proc), .box [.d (.v (.int .i64 v_d1571.fKind)), .d (.v (.int .i64 v_d1571.fP)), .d (.v (.int .i64 v_d1571.fN))]]⟩
def G_ringlaw5_asked_h_C3_hd (v_r1576 : (Int × Int × S_proc_Table)) (v_r1582 : (Int × Int × S_proc_Table)) (v_r1587 : (Int × Int × S_proc_Table)) (v_r1570 : (List S_ringref5_Proc)) (v_d1571 : S_ringlaw5_Deed)  : PS := ⟨[.ref 2 0, .srf 3, dd, dd, dd, .ref 4 0, dd, .d (.v (.int .i64 v_r1576.1)), .d (.v (.int .i64 v_r1576.2.1)), .d (.v (.int .i64 v_r1582.1)), .d (.v (.int .i64 v_r1582.2.1)), .d (.v (.int .i64 v_r1587.1)), .d (.v (.int .i64 v_r1587.2.1)), dd, dd, dd, dd, dd, dd, dd, dd, dd, dd, dd, dd, dd, dd, dd, dd, dd, dd, dd, dd, dd, dd, dd, dd, dd, dd, dd, dd, dd, dd, dd, dd, dd, dd, dd, dd, dd, dd, dd, dd, dd, dd, dd, dd, dd, dd, dd, dd, dd, dd, dd, dd, dd, dd, dd, dd, dd, dd, dd, dd, dd, dd, dd, dd, dd, dd, dd, dd, dd, dd, dd, dd, dd, dd, dd, dd, dd, dd, dd, dd, dd, dd, dd, dd, dd, dd, dd, dd, dd, dd, dd, dd, dd, dd, dd, dd, dd, dd, dd, dd, dd, dd, dd, dd, dd, dd, dd, dd, dd, dd, dd, dd, dd, dd, dd, dd, dd, dd, dd, dd, dd, dd, dd, dd, dd, dd, dd, dd, dd, dd, dd, dd, dd, dd, dd, dd, dd, dd, dd, dd, dd, dd, dd, dd, dd, dd, dd, dd, dd, dd, dd, dd, dd, dd, dd, dd, dd, dd, dd, dd, dd, dd, dd, dd, dd, dd, dd, dd, dd, dd, dd, dd], [.gh 0 (.ref 2 0), .gh 1 (.srf 3), .box ((cS_proc_Table v_r1587.2.2).map FV.d), .row 180 5 (v_r1570.map eS_ringref5_Proc), .box [.d (.v (.int .i64 v_d1571.fKind)), .d (.v (.int .i64 v_d1571.fP)), .d (.v (.int .i64 v_d1571.fN))]]⟩
def G_ringlaw5_asked_h_C3 (n : Nat) (v_r1576 : (Int × Int × S_proc_Table)) (v_r1582 : (Int × Int × S_proc_Table)) (v_r1587 : (Int × Int × S_proc_Table)) (v_r1570 : (List S_ringref5_Proc)) (v_d1571 : S_ringlaw5_Deed) : Option G_ringlaw5_asked_h_C3_R :=
  if v_r1576.2.1 = 0 then
   if v_r1576.1 = 0 then
    if v_r1582.2.1 = 4 then
     if v_r1587.2.1 = v_r1582.2.1 then
      if v_r1582.1 = 0 then
       some (.x0 (v_r1587.1 != 0) v_r1570)
      else
       some (.x0 true v_r1570)
     else
      some (.x0 true v_r1570)
    else
     some (.x0 true v_r1570)
   else
    some (.x0 true v_r1570)
  else
   some (.x0 true v_r1570)
theorem G_ringlaw5_asked_h_C3_ok {Fi : Ex → PS → Prop} (hF : KC 185 Fi) (ks : List Fr) (n : Nat) (v_r1576 : (Int × Int × S_proc_Table)) (v_r1582 : (Int × Int × S_proc_Table)) (v_r1587 : (Int × Int × S_proc_Table)) (v_r1570 : (List S_ringref5_Proc)) (v_d1571 : S_ringlaw5_Deed)  (o : G_ringlaw5_asked_h_C3_R) (h : G_ringlaw5_asked_h_C3 n v_r1576 v_r1582 v_r1587 v_r1570 v_d1571 = some o) (q : RunE Try.prog 185 Fi ks (G_ringlaw5_asked_h_C3_ex o) (G_ringlaw5_asked_h_C3_st v_r1576 v_r1582 v_r1587 v_r1570 v_d1571 o)) : RunE Try.prog 185 Fi (.s (cL (cT (cR (cF (cR (cB (cL (cR (cR (cR (cR (cR (bodyOf Try.f113))))))))))))) :: ks) .normal (G_ringlaw5_asked_h_C3_hd v_r1576 v_r1582 v_r1587 v_r1570 v_d1571) := by
  unfold G_ringlaw5_asked_h_C3 at h
  by_cases h1672 : v_r1576.2.1 = 0
  · rw [if_pos h1672] at h
    by_cases h1673 : v_r1576.1 = 0
    · rw [if_pos h1673] at h
      by_cases h1674 : v_r1582.2.1 = 4
      · rw [if_pos h1674] at h
        by_cases h1675 : v_r1587.2.1 = v_r1582.2.1
        · rw [if_pos h1675] at h
          by_cases h1676 : v_r1582.1 = 0
          · rw [if_pos h1676] at h
            cases h
            exact pkk_sound TTok mix hF 1 (hs := [.t false, .c, .t false, .c, .t false, .c, .c, .t false, .c, .t false, .c]) (ts := []) (s := [0, 1, 2, 3, 4]) (l := [0, 1, 5, 139]) (by kernel_rfl) (by kernel_rfl) (.cons (nf h1672) (.cons (nf h1673) (.cons (nf h1674) (.cons (nf h1675) (.cons (nf h1676) .nil))))) q
          · rw [if_neg h1676] at h
            cases h
            exact pkk_sound TTok mix hF 1 (hs := [.t false, .c, .t false, .c, .t false, .c, .c, .t false, .c, .t true, .c]) (ts := []) (s := [0, 1, 2, 3, 4]) (l := [0, 1, 5, 139]) (by kernel_rfl) (by kernel_rfl) (.cons (nf h1672) (.cons (nf h1673) (.cons (nf h1674) (.cons (nf h1675) (.cons (nt h1676) .nil))))) q
        · rw [if_neg h1675] at h
          cases h
          exact pkk_sound TTok mix hF 1 (hs := [.t false, .c, .t false, .c, .t false, .c, .c, .t true, .c, .c, .c]) (ts := []) (s := [0, 1, 2, 3, 4]) (l := [0, 1, 5, 139]) (by kernel_rfl) (by kernel_rfl) (.cons (nf h1672) (.cons (nf h1673) (.cons (nf h1674) (.cons (nt h1675) .nil)))) q
      · rw [if_neg h1674] at h
        cases h
        exact pkk_sound TTok mix hF 1 (hs := [.t false, .c, .t false, .c, .t true, .c, .c, .c, .c, .c, .c]) (ts := []) (s := [0, 1, 2, 3, 4]) (l := [0, 1, 5, 139]) (by kernel_rfl) (by kernel_rfl) (.cons (nf h1672) (.cons (nf h1673) (.cons (nt h1674) .nil))) q
    · rw [if_neg h1673] at h
      cases h
      exact pkk_sound TTok mix hF 1 (hs := [.t false, .c, .t true, .c, .c, .c, .c, .c, .c, .c, .c]) (ts := []) (s := [0, 1, 2, 3, 4]) (l := [0, 1, 5, 139]) (by kernel_rfl) (by kernel_rfl) (.cons (nf h1672) (.cons (nt h1673) .nil)) q
  · rw [if_neg h1672] at h
    cases h
    exact pkk_sound TTok mix hF 1 (hs := [.t true, .c, .c, .c, .c, .c, .c, .c, .c, .c, .c]) (ts := []) (s := [0, 1, 2, 3, 4]) (l := [0, 1, 5, 139]) (by kernel_rfl) (by kernel_rfl) (.cons (nt h1672) .nil) q
inductive G_ringlaw5_asked_h_C4_R where
  | x0 (v_state1879 : Int) (v_group1880 : Int) (v_want1881 : Int) (v_w1882 : (List S_ringref5_Proc))
def G_ringlaw5_asked_h_C4_ex : G_ringlaw5_asked_h_C4_R → Ex
  | .x0 _ _ _ _ => .normal
def G_ringlaw5_asked_h_C4_st (v_r1576 : (Int × Int × S_proc_Table)) (v_r1582 : (Int × Int × S_proc_Table)) (v_r1587 : (Int × Int × S_proc_Table)) (v_y1878 : S_ringref5_Proc) (v_r1570 : (List S_ringref5_Proc)) (v_d1571 : S_ringlaw5_Deed) : G_ringlaw5_asked_h_C4_R → PS
  | .x0 v_state1879 v_group1880 v_want1881 v_w1882 => ⟨[.ref 2 0, .srf 3, dd, dd, dd, .ref 4 0, dd, .d (.v (.int .i64 v_r1576.1)), .d (.v (.int .i64 v_r1576.2.1)), .d (.v (.int .i64 v_r1582.1)), .d (.v (.int .i64 v_r1582.2.1)), .d (.v (.int .i64 v_r1587.1)), .d (.v (.int .i64 v_r1587.2.1)), dd, .ref 5 0, .d (.v (.int .i64 v_state1879)), .d (.v (.int .i64 v_group1880)), .d (.v (.int .i64 v_want1881)), dd, dd, dd, dd, dd, dd, dd, dd, dd, dd, dd, dd, dd, dd, dd, dd, dd, dd, dd, dd, dd, dd, dd, dd, dd, dd, dd, dd, dd, dd, dd, dd, dd, dd, dd, dd, dd, dd, dd, dd, dd, dd, dd, dd, dd, dd, dd, dd, dd, dd, dd, dd, dd, dd, dd, dd, dd, dd, dd, dd, dd, dd, dd, dd, dd, dd, dd, dd, dd, dd, dd, dd, dd, dd, dd, dd, dd, dd, dd, dd, dd, dd, dd, dd, dd, dd, dd, dd, dd, dd, dd, dd, dd, dd, dd, dd, dd, dd, dd, dd, dd, dd, dd, dd, dd, dd, dd, dd, dd, dd, dd, dd, dd, dd, dd, dd, dd, dd, dd, dd, dd, dd, dd, dd, dd, dd, dd, dd, dd, dd, dd, dd, dd, dd, dd, dd, dd, dd, dd, dd, dd, dd, dd, dd, dd, dd, dd, dd, dd, dd, dd, dd, dd, dd, dd, dd, dd, dd, dd, dd, dd, dd, dd, dd, dd, dd, dd], [.gh 0 (.ref 2 0), .gh 1 (.srf 3), .box ((cS_proc_Table v_r1587.2.2).map FV.d), .row 180 5 (v_w1882.map eS_ringref5_Proc), .box [.d (.v (.int .i64 v_d1571.fKind)), .d (.v (.int .i64 v_d1571.fP)), .d (.v (.int .i64 v_d1571.fN))], .box [.d (.v (.int .i64 v_y1878.fId)), .d (.v (.int .i64 v_y1878.fUp)), .d (.v (.int .i64 v_y1878.fGroup)), .d (.v (.int .i64 v_y1878.fStatus)), .d (.v (.bool v_y1878.fEnded))]]⟩
def G_ringlaw5_asked_h_C4_hd (v_r1576 : (Int × Int × S_proc_Table)) (v_r1582 : (Int × Int × S_proc_Table)) (v_r1587 : (Int × Int × S_proc_Table)) (v_y1878 : S_ringref5_Proc) (v_r1570 : (List S_ringref5_Proc)) (v_d1571 : S_ringlaw5_Deed)  : PS := ⟨[.ref 2 0, .srf 3, dd, dd, dd, .ref 4 0, dd, .d (.v (.int .i64 v_r1576.1)), .d (.v (.int .i64 v_r1576.2.1)), .d (.v (.int .i64 v_r1582.1)), .d (.v (.int .i64 v_r1582.2.1)), .d (.v (.int .i64 v_r1587.1)), .d (.v (.int .i64 v_r1587.2.1)), dd, .ref 5 0, .d (.v (.int .i64 1)), .d (.v (.int .i64 v_y1878.fGroup)), .d (.v (.int .i64 0)), dd, dd, dd, dd, dd, dd, dd, dd, dd, dd, dd, dd, dd, dd, dd, dd, dd, dd, dd, dd, dd, dd, dd, dd, dd, dd, dd, dd, dd, dd, dd, dd, dd, dd, dd, .d (.v (.bool v_y1878.fEnded)), dd, dd, dd, dd, dd, dd, dd, dd, dd, dd, dd, dd, dd, dd, dd, dd, dd, dd, dd, dd, dd, dd, dd, dd, dd, dd, dd, dd, dd, dd, dd, dd, dd, dd, dd, dd, dd, dd, dd, dd, dd, dd, dd, dd, dd, dd, dd, dd, dd, dd, dd, dd, dd, dd, dd, dd, dd, dd, dd, dd, dd, dd, dd, dd, dd, dd, dd, dd, dd, dd, dd, dd, dd, dd, dd, dd, dd, dd, dd, dd, dd, dd, dd, dd, dd, dd, dd, dd, dd, dd, dd, dd, dd, dd, dd, dd, dd, dd, dd, dd, dd, dd, dd, dd, dd, dd, dd, dd, dd, dd, dd, dd, dd, dd, dd, dd, dd, dd, dd, dd, dd, dd, dd, dd, dd, dd, dd, dd, dd, dd, dd], [.gh 0 (.ref 2 0), .gh 1 (.srf 3), .box ((cS_proc_Table v_r1587.2.2).map FV.d), .row 180 5 (v_r1570.map eS_ringref5_Proc), .box [.d (.v (.int .i64 v_d1571.fKind)), .d (.v (.int .i64 v_d1571.fP)), .d (.v (.int .i64 v_d1571.fN))], .box [.d (.v (.int .i64 v_y1878.fId)), .d (.v (.int .i64 v_y1878.fUp)), .d (.v (.int .i64 v_y1878.fGroup)), .d (.v (.int .i64 v_y1878.fStatus)), .d (.v (.bool v_y1878.fEnded))]]⟩
def G_ringlaw5_asked_h_C4 (n : Nat) (v_r1576 : (Int × Int × S_proc_Table)) (v_r1582 : (Int × Int × S_proc_Table)) (v_r1587 : (Int × Int × S_proc_Table)) (v_y1878 : S_ringref5_Proc) (v_r1570 : (List S_ringref5_Proc)) (v_d1571 : S_ringlaw5_Deed) : Option G_ringlaw5_asked_h_C4_R :=
  if v_y1878.fEnded = true then
   some (.x0 2 0 4 v_r1570)
  else
   some (.x0 1 v_y1878.fGroup 0 v_r1570)
theorem G_ringlaw5_asked_h_C4_ok {Fi : Ex → PS → Prop} (hF : KC 185 Fi) (ks : List Fr) (n : Nat) (v_r1576 : (Int × Int × S_proc_Table)) (v_r1582 : (Int × Int × S_proc_Table)) (v_r1587 : (Int × Int × S_proc_Table)) (v_y1878 : S_ringref5_Proc) (v_r1570 : (List S_ringref5_Proc)) (v_d1571 : S_ringlaw5_Deed)  (o : G_ringlaw5_asked_h_C4_R) (h : G_ringlaw5_asked_h_C4 n v_r1576 v_r1582 v_r1587 v_y1878 v_r1570 v_d1571 = some o) (q : RunE Try.prog 185 Fi ks (G_ringlaw5_asked_h_C4_ex o) (G_ringlaw5_asked_h_C4_st v_r1576 v_r1582 v_r1587 v_y1878 v_r1570 v_d1571 o)) : RunE Try.prog 185 Fi (.s (cR (cL (cR (cR (cF (cR (cF (cR (cB (cL (cR (cR (cR (cR (cR (bodyOf Try.f113)))))))))))))))) :: ks) .normal (G_ringlaw5_asked_h_C4_hd v_r1576 v_r1582 v_r1587 v_y1878 v_r1570 v_d1571) := by
  unfold G_ringlaw5_asked_h_C4 at h
  by_cases h1682 : v_y1878.fEnded = true
  · rw [if_pos h1682] at h
    cases h
    exact pkk_sound TTok mix hF 2 (hs := [.t true]) (ts := []) (s := [0, 1, 2, 3, 4, 5]) (l := [0, 1, 5, 7, 8, 9, 10, 11, 12, 14, 15, 16, 17]) (by kernel_rfl) (by kernel_rfl) (.cons h1682 .nil) q
  · rw [if_neg h1682] at h
    cases h
    exact pkk_sound TTok mix hF 2 (hs := [.t false]) (ts := []) (s := [0, 1, 2, 3, 4, 5]) (l := [0, 1, 5, 7, 8, 9, 10, 11, 12, 14, 15, 16, 17]) (by kernel_rfl) (by kernel_rfl) (.cons (vf h1682) .nil) q
inductive G_ringlaw5_asked_h_C5_R where
  | x0 (v_x1892 : Bool) (v_w1893 : (List S_ringref5_Proc))
def G_ringlaw5_asked_h_C5_ex : G_ringlaw5_asked_h_C5_R → Ex
  | .x0 _ _ => .normal

end Go.Proofs.Ytjjjaakefnnbpaa.pv
