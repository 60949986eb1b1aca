/- What the functions compute (part 2): written by gen.py. -/
import Derived.Test.YtiaebagjcbkkgaaGuOomTellsP1
set_option maxRecDepth 100000
set_option linter.all false
namespace Go.Proofs.Ytiaebagjcbkkgaa.pv
open Go.RowKit
def G_slices_partitionCmpFunc_oom_Task_h_L2_hd (v_a584 : Int) (v_cmp587 : (S_oom_Task → S_oom_Task → Option (Int))) (v_z605 : Int) (v_cmp587_g : FuncId) (v_cmp587_c : (List PV)) (v_j607 : Int) (v_w608 : (List S_oom_Task)) : PS := ⟨[.srf 1, .d (.v (.int .i64 v_a584)), dd, dd, .d (.clo v_cmp587_g v_cmp587_c), dd, dd, dd, dd, dd, dd, dd, .d (.v (.int .i64 v_z605)), .d (.v (.int .i64 v_j607)), dd, dd, dd, dd, dd, dd, dd, dd, dd, dd, dd, dd, dd, dd, dd, dd, dd, dd, dd, dd, dd, dd, dd, dd, dd, dd, dd, dd, dd, dd, dd, dd, dd, dd, dd, dd, dd, dd, dd, dd, dd, dd, dd, dd, dd, dd, dd, dd, dd, dd, dd, dd, dd, dd, dd, dd, dd, dd, dd, dd, dd, dd, dd, dd, dd, dd, dd, dd, dd, dd, dd, dd, dd, dd, dd, dd, dd, dd, dd, dd, dd, dd, dd, dd, dd, dd, dd, dd, dd, dd, dd, dd, dd, dd, dd, dd, dd, dd, dd, dd, dd, dd, dd, dd, dd, dd, dd, dd, dd, dd, dd, dd, dd, dd, dd, dd, dd, dd, dd, dd, dd, dd, dd, dd, dd, dd, dd, dd, dd, dd, dd, dd, dd, dd, dd, dd, dd, dd, dd, dd, dd, dd, dd, dd, dd, dd, dd, dd, dd, dd, dd, dd, dd, dd, dd, dd, dd, dd, dd, dd, dd, dd, dd, dd], [.gh 0 (.srf 1), .row 207 4 (v_w608.map eS_oom_Task)]⟩
def G_slices_partitionCmpFunc_oom_Task_h_L2 (n : Nat) (v_a584 : Int) (v_cmp587 : (S_oom_Task → S_oom_Task → Option (Int))) (v_z605 : Int) : Nat → Int → (List S_oom_Task) → Option G_slices_partitionCmpFunc_oom_Task_h_L2_R
  | 0, _, _ => none
  | k + 1, v_j607, v_w608 =>
    if v_z605 ≤ v_j607 then
     if 0 ≤ v_j607 ∧ (v_j607).toNat < v_w608.length then
      (v_w608[(v_j607).toNat]?).bind fun (v_y612 : S_oom_Task) =>
      if 0 ≤ v_a584 ∧ (v_a584).toNat < v_w608.length then
       (v_w608[(v_a584).toNat]?).bind fun (v_y613 : S_oom_Task) =>
       (v_cmp587 v_y612 v_y613).bind fun (v_r614 : (Int)) =>
       if v_r614 < 0 then
        some (.x0 v_j607 v_w608)
       else
        G_slices_partitionCmpFunc_oom_Task_h_L2 n v_a584 v_cmp587 v_z605 k (wi .i64 (v_j607 - 1)) v_w608
      else none
     else none
    else
     some (.x0 v_j607 v_w608)
theorem G_slices_partitionCmpFunc_oom_Task_h_L2_ok {Fi : Ex → PS → Prop} (hF : KC 178 Fi) (ks : List Fr) (n : Nat) (v_a584 : Int) (v_cmp587 : (S_oom_Task → S_oom_Task → Option (Int))) (v_z605 : Int) (v_cmp587_g : FuncId) (v_cmp587_c : (List PV)) (v_cmp587_h : ∀ (x0 : S_oom_Task) (x1 : S_oom_Task) (r : Int), v_cmp587 x0 x1 = some r → Ret Try.prog v_cmp587_g ([eS_oom_Task x0, eS_oom_Task x1] ++ v_cmp587_c) ((eI .i64) r)) : ∀ (k : Nat) (v_j607 : Int) (v_w608 : (List S_oom_Task)) (o : G_slices_partitionCmpFunc_oom_Task_h_L2_R), G_slices_partitionCmpFunc_oom_Task_h_L2 n v_a584 v_cmp587 v_z605 k v_j607 v_w608 = some o → RunE Try.prog 178 Fi ks (G_slices_partitionCmpFunc_oom_Task_h_L2_ex o) (G_slices_partitionCmpFunc_oom_Task_h_L2_st v_a584 v_cmp587 v_z605 v_cmp587_g v_cmp587_c o) → RunE Try.prog 178 Fi (.l k (cP (cB (cL (cR (cR (cR (cR (bodyOf Try.f292)))))))) :: ks) .normal (G_slices_partitionCmpFunc_oom_Task_h_L2_hd v_a584 v_cmp587 v_z605 v_cmp587_g v_cmp587_c v_j607 v_w608)
  | 0, v_j607, v_w608, o, h, q => by rw [G_slices_partitionCmpFunc_oom_Task_h_L2] at h; cases h
  | k + 1, v_j607, v_w608, o, h, q => by
    rw [G_slices_partitionCmpFunc_oom_Task_h_L2] at h
    by_cases h678 : v_z605 ≤ v_j607
    · rw [if_pos h678] at h
      by_cases h679 : 0 ≤ v_j607 ∧ (v_j607).toNat < v_w608.length
      · rw [if_pos h679] at h
        obtain ⟨v_y612, h680, h⟩ := bind_some h
        by_cases h681 : 0 ≤ v_a584 ∧ (v_a584).toNat < v_w608.length
        · rw [if_pos h681] at h
          obtain ⟨v_y613, h682, h⟩ := bind_some h
          obtain ⟨v_r614, h683, h⟩ := bind_some h
          by_cases h684 : v_r614 < 0
          · rw [if_pos h684] at h
            cases h
            exact pkk_sound TTok mix hF 8 (hs := [.t true, .c, .c, .c, .c, .y (eS_oom_Task v_y612), .c, .c, .c, .c, .y (eS_oom_Task v_y613), .c, .r ((eI .i64) v_r614), .c, .c, .t false]) (ts := []) (s := [0, 1]) (l := [0, 1, 4, 12, 13]) (by kernel_rfl) (by kernel_rfl) (.cons (dt h678) (.cons (idx_ob (f := eS_oom_Task) h679) (.cons (get_ob (f := eS_oom_Task) h680) (.cons (idx_ob (f := eS_oom_Task) h681) (.cons (get_ob (f := eS_oom_Task) h682) (.cons (v_cmp587_h v_y612 v_y613 _ h683) (.cons (bnf (dt h684)) .nil))))))) q
          · rw [if_neg h684] at h
            exact pkk_sound TTok mix hF 9 (hs := [.t true, .c, .c, .c, .c, .y (eS_oom_Task v_y612), .c, .c, .c, .c, .y (eS_oom_Task v_y613), .c, .r ((eI .i64) v_r614), .c, .c, .t true]) (ts := []) (s := [0, 1]) (l := [0, 1, 4, 12, 13]) (by kernel_rfl) (by kernel_rfl) (.cons (dt h678) (.cons (idx_ob (f := eS_oom_Task) h679) (.cons (get_ob (f := eS_oom_Task) h680) (.cons (idx_ob (f := eS_oom_Task) h681) (.cons (get_ob (f := eS_oom_Task) h682) (.cons (v_cmp587_h v_y612 v_y613 _ h683) (.cons (bnt (df h684)) .nil))))))) (G_slices_partitionCmpFunc_oom_Task_h_L2_ok hF ks n v_a584 v_cmp587 v_z605 v_cmp587_g v_cmp587_c v_cmp587_h k (wi .i64 (v_j607 - 1)) v_w608 _ h q)
        · rw [if_neg h681] at h; cases h
      · rw [if_neg h679] at h; cases h
    · rw [if_neg h678] at h
      cases h
      exact pkk_sound TTok mix hF 8 (hs := [.t false, .c, .c, .c, .c, .c, .c, .c, .c, .c, .c, .c, .c]) (ts := []) (s := [0, 1]) (l := [0, 1, 4, 12, 13]) (by kernel_rfl) (by kernel_rfl) (.cons (df h678) .nil) q
inductive G_slices_partitionCmpFunc_oom_Task_h_L3_R where
  | x0 (v_i645 : Int) (v_w646 : (List S_oom_Task))
def G_slices_partitionCmpFunc_oom_Task_h_L3_ex : G_slices_partitionCmpFunc_oom_Task_h_L3_R → Ex
  | .x0 _ _ => .exit 6
def G_slices_partitionCmpFunc_oom_Task_h_L3_st (v_a584 : Int) (v_cmp587 : (S_oom_Task → S_oom_Task → Option (Int))) (v_j635 : Int) (v_cmp587_g : FuncId) (v_cmp587_c : (List PV)) : G_slices_partitionCmpFunc_oom_Task_h_L3_R → PS
  | .x0 v_i645 v_w646 => ⟨[.srf 1, .d (.v (.int .i64 v_a584)), dd, dd, .d (.clo v_cmp587_g v_cmp587_c), dd, dd, dd, dd, dd, dd, dd, .d (.v (.int .i64 v_i645)), .d (.v (.int .i64 v_j635)), dd, dd, dd, dd, dd, dd, dd, dd, dd, dd, dd, dd, dd, dd, dd, dd, dd, dd, dd, dd, dd, dd, dd, dd, dd, dd, dd, dd, dd, dd, dd, dd, dd, dd, dd, dd, dd, dd, dd, dd, dd, dd, dd, dd, dd, dd, dd, dd, dd, dd, dd, dd, dd, dd, dd, dd, dd, dd, dd, dd, dd, dd, dd, dd, dd, dd, dd, dd, dd, dd, dd, dd, dd, dd, dd, dd, dd, dd, dd, dd, dd, dd, dd, dd, dd, dd, dd, dd, dd, dd, dd, dd, dd, dd, dd, dd, dd, dd, dd, dd, dd, dd, dd, dd, dd, dd, dd, dd, dd, dd, dd, dd, dd, dd, dd, dd, dd, dd, dd, dd, dd, dd, dd, dd, dd, dd, dd, dd, dd, dd, dd, dd, dd, dd, dd, dd, dd, dd, dd, dd, dd, dd, dd, dd, dd, dd, dd, dd, dd, dd, dd, dd, dd, dd, dd, dd, dd, dd, dd, dd, dd, dd, dd, dd], [.gh 0 (.srf 1), .row 207 4 (v_w646.map eS_oom_Task)]⟩
def G_slices_partitionCmpFunc_oom_Task_h_L3_hd (v_a584 : Int) (v_cmp587 : (S_oom_Task → S_oom_Task → Option (Int))) (v_j635 : Int) (v_cmp587_g : FuncId) (v_cmp587_c : (List PV)) (v_i637 : Int) (v_w638 : (List S_oom_Task)) : PS := ⟨[.srf 1, .d (.v (.int .i64 v_a584)), dd, dd, .d (.clo v_cmp587_g v_cmp587_c), dd, dd, dd, dd, dd, dd, dd, .d (.v (.int .i64 v_i637)), .d (.v (.int .i64 v_j635)), dd, dd, dd, dd, dd, dd, dd, dd, dd, dd, dd, dd, dd, dd, dd, dd, dd, dd, dd, dd, dd, dd, dd, dd, dd, dd, dd, dd, dd, dd, dd, dd, dd, dd, dd, dd, dd, dd, dd, dd, dd, dd, dd, dd, dd, dd, dd, dd, dd, dd, dd, dd, dd, dd, dd, dd, dd, dd, dd, dd, dd, dd, dd, dd, dd, dd, dd, dd, dd, dd, dd, dd, dd, dd, dd, dd, dd, dd, dd, dd, dd, dd, dd, dd, dd, dd, dd, dd, dd, dd, dd, dd, dd, dd, dd, dd, dd, dd, dd, dd, dd, dd, dd, dd, dd, dd, dd, dd, dd, dd, dd, dd, dd, dd, dd, dd, dd, dd, dd, dd, dd, dd, dd, dd, dd, dd, dd, dd, dd, dd, dd, dd, dd, dd, dd, dd, dd, dd, dd, dd, dd, dd, dd, dd, dd, dd, dd, dd, dd, dd, dd, dd, dd, dd, dd, dd, dd, dd, dd, dd, dd, dd, dd, dd], [.gh 0 (.srf 1), .row 207 4 (v_w638.map eS_oom_Task)]⟩
def G_slices_partitionCmpFunc_oom_Task_h_L3 (n : Nat) (v_a584 : Int) (v_cmp587 : (S_oom_Task → S_oom_Task → Option (Int))) (v_j635 : Int) : Nat → Int → (List S_oom_Task) → Option G_slices_partitionCmpFunc_oom_Task_h_L3_R
  | 0, _, _ => none
  | k + 1, v_i637, v_w638 =>
    if v_i637 ≤ v_j635 then
     if 0 ≤ v_i637 ∧ (v_i637).toNat < v_w638.length then
      (v_w638[(v_i637).toNat]?).bind fun (v_y642 : S_oom_Task) =>
      if 0 ≤ v_a584 ∧ (v_a584).toNat < v_w638.length then
       (v_w638[(v_a584).toNat]?).bind fun (v_y643 : S_oom_Task) =>
       (v_cmp587 v_y642 v_y643).bind fun (v_r644 : (Int)) =>
       if v_r644 < 0 then
        G_slices_partitionCmpFunc_oom_Task_h_L3 n v_a584 v_cmp587 v_j635 k (wi .i64 (v_i637 + 1)) v_w638
       else
        some (.x0 v_i637 v_w638)
      else none
     else none
    else
     some (.x0 v_i637 v_w638)
theorem G_slices_partitionCmpFunc_oom_Task_h_L3_ok {Fi : Ex → PS → Prop} (hF : KC 178 Fi) (ks : List Fr) (n : Nat) (v_a584 : Int) (v_cmp587 : (S_oom_Task → S_oom_Task → Option (Int))) (v_j635 : Int) (v_cmp587_g : FuncId) (v_cmp587_c : (List PV)) (v_cmp587_h : ∀ (x0 : S_oom_Task) (x1 : S_oom_Task) (r : Int), v_cmp587 x0 x1 = some r → Ret Try.prog v_cmp587_g ([eS_oom_Task x0, eS_oom_Task x1] ++ v_cmp587_c) ((eI .i64) r)) : ∀ (k : Nat) (v_i637 : Int) (v_w638 : (List S_oom_Task)) (o : G_slices_partitionCmpFunc_oom_Task_h_L3_R), G_slices_partitionCmpFunc_oom_Task_h_L3 n v_a584 v_cmp587 v_j635 k v_i637 v_w638 = some o → RunE Try.prog 178 Fi ks (G_slices_partitionCmpFunc_oom_Task_h_L3_ex o) (G_slices_partitionCmpFunc_oom_Task_h_L3_st v_a584 v_cmp587 v_j635 v_cmp587_g v_cmp587_c o) → RunE Try.prog 178 Fi (.l k (cP (cB (cL (cB (cP (cB (cL (cR (cR (cR (cR (cR (cR (cR (cR (cR (bodyOf Try.f292))))))))))))))))) :: ks) .normal (G_slices_partitionCmpFunc_oom_Task_h_L3_hd v_a584 v_cmp587 v_j635 v_cmp587_g v_cmp587_c v_i637 v_w638)
  | 0, v_i637, v_w638, o, h, q => by rw [G_slices_partitionCmpFunc_oom_Task_h_L3] at h; cases h
  | k + 1, v_i637, v_w638, o, h, q => by
    rw [G_slices_partitionCmpFunc_oom_Task_h_L3] at h
    by_cases h718 : v_i637 ≤ v_j635
    · rw [if_pos h718] at h
      by_cases h719 : 0 ≤ v_i637 ∧ (v_i637).toNat < v_w638.length
      · rw [if_pos h719] at h
        obtain ⟨v_y642, h720, h⟩ := bind_some h
        by_cases h721 : 0 ≤ v_a584 ∧ (v_a584).toNat < v_w638.length
        · rw [if_pos h721] at h
          obtain ⟨v_y643, h722, h⟩ := bind_some h
          obtain ⟨v_r644, h723, h⟩ := bind_some h
          by_cases h724 : v_r644 < 0
          · rw [if_pos h724] at h
            exact pkk_sound TTok mix hF 9 (hs := [.t true, .c, .c, .c, .c, .y (eS_oom_Task v_y642), .c, .c, .c, .c, .y (eS_oom_Task v_y643), .c, .r ((eI .i64) v_r644), .c, .t true]) (ts := []) (s := [0, 1]) (l := [0, 1, 4, 12, 13]) (by kernel_rfl) (by kernel_rfl) (.cons (dt h718) (.cons (idx_ob (f := eS_oom_Task) h719) (.cons (get_ob (f := eS_oom_Task) h720) (.cons (idx_ob (f := eS_oom_Task) h721) (.cons (get_ob (f := eS_oom_Task) h722) (.cons (v_cmp587_h v_y642 v_y643 _ h723) (.cons (dt h724) .nil))))))) (G_slices_partitionCmpFunc_oom_Task_h_L3_ok hF ks n v_a584 v_cmp587 v_j635 v_cmp587_g v_cmp587_c v_cmp587_h k (wi .i64 (v_i637 + 1)) v_w638 _ h q)
          · rw [if_neg h724] at h
            cases h
            exact pkk_sound TTok mix hF 8 (hs := [.t true, .c, .c, .c, .c, .y (eS_oom_Task v_y642), .c, .c, .c, .c, .y (eS_oom_Task v_y643), .c, .r ((eI .i64) v_r644), .c, .t false]) (ts := []) (s := [0, 1]) (l := [0, 1, 4, 12, 13]) (by kernel_rfl) (by kernel_rfl) (.cons (dt h718) (.cons (idx_ob (f := eS_oom_Task) h719) (.cons (get_ob (f := eS_oom_Task) h720) (.cons (idx_ob (f := eS_oom_Task) h721) (.cons (get_ob (f := eS_oom_Task) h722) (.cons (v_cmp587_h v_y642 v_y643 _ h723) (.cons (df h724) .nil))))))) q
        · rw [if_neg h721] at h; cases h
      · rw [if_neg h719] at h; cases h
    · rw [if_neg h718] at h
      cases h
      exact pkk_sound TTok mix hF 8 (hs := [.t false, .c, .c, .c, .c, .c, .c, .c, .c, .c, .c, .c]) (ts := []) (s := [0, 1]) (l := [0, 1, 4, 12, 13]) (by kernel_rfl) (by kernel_rfl) (.cons (df h718) .nil) q
inductive G_slices_partitionCmpFunc_oom_Task_h_L4_R where
  | x0 (v_j660 : Int) (v_w661 : (List S_oom_Task))
def G_slices_partitionCmpFunc_oom_Task_h_L4_ex : G_slices_partitionCmpFunc_oom_Task_h_L4_R → Ex
  | .x0 _ _ => .exit 8
def G_slices_partitionCmpFunc_oom_Task_h_L4_st (v_a584 : Int) (v_cmp587 : (S_oom_Task → S_oom_Task → Option (Int))) (v_z650 : Int) (v_cmp587_g : FuncId) (v_cmp587_c : (List PV)) : G_slices_partitionCmpFunc_oom_Task_h_L4_R → PS
  | .x0 v_j660 v_w661 => ⟨[.srf 1, .d (.v (.int .i64 v_a584)), dd, dd, .d (.clo v_cmp587_g v_cmp587_c), dd, dd, dd, dd, dd, dd, dd, .d (.v (.int .i64 v_z650)), .d (.v (.int .i64 v_j660)), dd, dd, dd, dd, dd, dd, dd, dd, dd, dd, dd, dd, dd, dd, dd, dd, dd, dd, dd, dd, dd, dd, dd, dd, dd, dd, dd, dd, dd, dd, dd, dd, dd, dd, dd, dd, dd, dd, dd, dd, dd, dd, dd, dd, dd, dd, dd, dd, dd, dd, dd, dd, dd, dd, dd, dd, dd, dd, dd, dd, dd, dd, dd, dd, dd, dd, dd, dd, dd, dd, dd, dd, dd, dd, dd, dd, dd, dd, dd, dd, dd, dd, dd, dd, dd, dd, dd, dd, dd, dd, dd, dd, dd, dd, dd, dd, dd, dd, dd, dd, dd, dd, dd, dd, dd, dd, dd, dd, dd, dd, dd, dd, dd, dd, dd, dd, dd, dd, dd, dd, dd, dd, dd, dd, dd, dd, dd, dd, dd, dd, dd, dd, dd, dd, dd, dd, dd, dd, dd, dd, dd, dd, dd, dd, dd, dd, dd, dd, dd, dd, dd, dd, dd, dd, dd, dd, dd, dd, dd, dd, dd, dd, dd, dd], [.gh 0 (.srf 1), .row 207 4 (v_w661.map eS_oom_Task)]⟩
def G_slices_partitionCmpFunc_oom_Task_h_L4_hd (v_a584 : Int) (v_cmp587 : (S_oom_Task → S_oom_Task → Option (Int))) (v_z650 : Int) (v_cmp587_g : FuncId) (v_cmp587_c : (List PV)) (v_j652 : Int) (v_w653 : (List S_oom_Task)) : PS := ⟨[.srf 1, .d (.v (.int .i64 v_a584)), dd, dd, .d (.clo v_cmp587_g v_cmp587_c), dd, dd, dd, dd, dd, dd, dd, .d (.v (.int .i64 v_z650)), .d (.v (.int .i64 v_j652)), dd, dd, dd, dd, dd, dd, dd, dd, dd, dd, dd, dd, dd, dd, dd, dd, dd, dd, dd, dd, dd, dd, dd, dd, dd, dd, dd, dd, dd, dd, dd, dd, dd, dd, dd, dd, dd, dd, dd, dd, dd, dd, dd, dd, dd, dd, dd, dd, dd, dd, dd, dd, dd, dd, dd, dd, dd, dd, dd, dd, dd, dd, dd, dd, dd, dd, dd, dd, dd, dd, dd, dd, dd, dd, dd, dd, dd, dd, dd, dd, dd, dd, dd, dd, dd, dd, dd, dd, dd, dd, dd, dd, dd, dd, dd, dd, dd, dd, dd, dd, dd, dd, dd, dd, dd, dd, dd, dd, dd, dd, dd, dd, dd, dd, dd, dd, dd, dd, dd, dd, dd, dd, dd, dd, dd, dd, dd, dd, dd, dd, dd, dd, dd, dd, dd, dd, dd, dd, dd, dd, dd, dd, dd, dd, dd, dd, dd, dd, dd, dd, dd, dd, dd, dd, dd, dd, dd, dd, dd, dd, dd, dd, dd, dd], [.gh 0 (.srf 1), .row 207 4 (v_w653.map eS_oom_Task)]⟩
def G_slices_partitionCmpFunc_oom_Task_h_L4 (n : Nat) (v_a584 : Int) (v_cmp587 : (S_oom_Task → S_oom_Task → Option (Int))) (v_z650 : Int) : Nat → Int → (List S_oom_Task) → Option G_slices_partitionCmpFunc_oom_Task_h_L4_R
  | 0, _, _ => none
  | k + 1, v_j652, v_w653 =>
    if v_z650 ≤ v_j652 then
     if 0 ≤ v_j652 ∧ (v_j652).toNat < v_w653.length then
      (v_w653[(v_j652).toNat]?).bind fun (v_y657 : S_oom_Task) =>
      if 0 ≤ v_a584 ∧ (v_a584).toNat < v_w653.length then
       (v_w653[(v_a584).toNat]?).bind fun (v_y658 : S_oom_Task) =>
       (v_cmp587 v_y657 v_y658).bind fun (v_r659 : (Int)) =>
       if v_r659 < 0 then
        some (.x0 v_j652 v_w653)
       else
        G_slices_partitionCmpFunc_oom_Task_h_L4 n v_a584 v_cmp587 v_z650 k (wi .i64 (v_j652 - 1)) v_w653
      else none
     else none
    else
     some (.x0 v_j652 v_w653)
theorem G_slices_partitionCmpFunc_oom_Task_h_L4_ok {Fi : Ex → PS → Prop} (hF : KC 178 Fi) (ks : List Fr) (n : Nat) (v_a584 : Int) (v_cmp587 : (S_oom_Task → S_oom_Task → Option (Int))) (v_z650 : Int) (v_cmp587_g : FuncId) (v_cmp587_c : (List PV)) (v_cmp587_h : ∀ (x0 : S_oom_Task) (x1 : S_oom_Task) (r : Int), v_cmp587 x0 x1 = some r → Ret Try.prog v_cmp587_g ([eS_oom_Task x0, eS_oom_Task x1] ++ v_cmp587_c) ((eI .i64) r)) : ∀ (k : Nat) (v_j652 : Int) (v_w653 : (List S_oom_Task)) (o : G_slices_partitionCmpFunc_oom_Task_h_L4_R), G_slices_partitionCmpFunc_oom_Task_h_L4 n v_a584 v_cmp587 v_z650 k v_j652 v_w653 = some o → RunE Try.prog 178 Fi ks (G_slices_partitionCmpFunc_oom_Task_h_L4_ex o) (G_slices_partitionCmpFunc_oom_Task_h_L4_st v_a584 v_cmp587 v_z650 v_cmp587_g v_cmp587_c o) → RunE Try.prog 178 Fi (.l k (cP (cB (cL (cR (cB (cP (cB (cL (cR (cR (cR (cR (cR (cR (cR (cR (cR (bodyOf Try.f292)))))))))))))))))) :: ks) .normal (G_slices_partitionCmpFunc_oom_Task_h_L4_hd v_a584 v_cmp587 v_z650 v_cmp587_g v_cmp587_c v_j652 v_w653)
  | 0, v_j652, v_w653, o, h, q => by rw [G_slices_partitionCmpFunc_oom_Task_h_L4] at h; cases h
  | k + 1, v_j652, v_w653, o, h, q => by
    rw [G_slices_partitionCmpFunc_oom_Task_h_L4] at h
    by_cases h732 : v_z650 ≤ v_j652
    · rw [if_pos h732] at h
      by_cases h733 : 0 ≤ v_j652 ∧ (v_j652).toNat < v_w653.length
      · rw [if_pos h733] at h
        obtain ⟨v_y657, h734, h⟩ := bind_some h
        by_cases h735 : 0 ≤ v_a584 ∧ (v_a584).toNat < v_w653.length
        · rw [if_pos h735] at h
          obtain ⟨v_y658, h736, h⟩ := bind_some h
          obtain ⟨v_r659, h737, h⟩ := bind_some h
          by_cases h738 : v_r659 < 0
          · rw [if_pos h738] at h
            cases h
            exact pkk_sound TTok mix hF 8 (hs := [.t true, .c, .c, .c, .c, .y (eS_oom_Task v_y657), .c, .c, .c, .c, .y (eS_oom_Task v_y658), .c, .r ((eI .i64) v_r659), .c, .c, .t false]) (ts := []) (s := [0, 1]) (l := [0, 1, 4, 12, 13]) (by kernel_rfl) (by kernel_rfl) (.cons (dt h732) (.cons (idx_ob (f := eS_oom_Task) h733) (.cons (get_ob (f := eS_oom_Task) h734) (.cons (idx_ob (f := eS_oom_Task) h735) (.cons (get_ob (f := eS_oom_Task) h736) (.cons (v_cmp587_h v_y657 v_y658 _ h737) (.cons (bnf (dt h738)) .nil))))))) q
          · rw [if_neg h738] at h
            exact pkk_sound TTok mix hF 9 (hs := [.t true, .c, .c, .c, .c, .y (eS_oom_Task v_y657), .c, .c, .c, .c, .y (eS_oom_Task v_y658), .c, .r ((eI .i64) v_r659), .c, .c, .t true]) (ts := []) (s := [0, 1]) (l := [0, 1, 4, 12, 13]) (by kernel_rfl) (by kernel_rfl) (.cons (dt h732) (.cons (idx_ob (f := eS_oom_Task) h733) (.cons (get_ob (f := eS_oom_Task) h734) (.cons (idx_ob (f := eS_oom_Task) h735) (.cons (get_ob (f := eS_oom_Task) h736) (.cons (v_cmp587_h v_y657 v_y658 _ h737) (.cons (bnt (df h738)) .nil))))))) (G_slices_partitionCmpFunc_oom_Task_h_L4_ok hF ks n v_a584 v_cmp587 v_z650 v_cmp587_g v_cmp587_c v_cmp587_h k (wi .i64 (v_j652 - 1)) v_w653 _ h q)
        · rw [if_neg h735] at h; cases h
      · rw [if_neg h733] at h; cases h
    · rw [if_neg h732] at h
      cases h
      exact pkk_sound TTok mix hF 8 (hs := [.t false, .c, .c, .c, .c, .c, .c, .c, .c, .c, .c, .c, .c]) (ts := []) (s := [0, 1]) (l := [0, 1, 4, 12, 13]) (by kernel_rfl) (by kernel_rfl) (.cons (df h732) .nil) q
inductive G_slices_partitionCmpFunc_oom_Task_h_L5_R where
  | x0 (v_j667 : Int) (v_w668 : (List S_oom_Task))
def G_slices_partitionCmpFunc_oom_Task_h_L5_ex : G_slices_partitionCmpFunc_oom_Task_h_L5_R → Ex
  | .x0 _ _ => .exit 4
def G_slices_partitionCmpFunc_oom_Task_h_L5_st (v_a584 : Int) (v_cmp587 : (S_oom_Task → S_oom_Task → Option (Int))) (v_cmp587_g : FuncId) (v_cmp587_c : (List PV)) : G_slices_partitionCmpFunc_oom_Task_h_L5_R → PS
  | .x0 v_j667 v_w668 => ⟨[.srf 1, .d (.v (.int .i64 v_a584)), dd, dd, dd, dd, dd, dd, dd, dd, dd, dd, dd, .d (.v (.int .i64 v_j667)), dd, dd, dd, dd, dd, dd, dd, dd, dd, dd, dd, dd, dd, dd, dd, dd, dd, dd, dd, dd, dd, dd, dd, dd, dd, dd, dd, dd, dd, dd, dd, dd, dd, dd, dd, dd, dd, dd, dd, dd, dd, dd, dd, dd, dd, dd, dd, dd, dd, dd, dd, dd, dd, dd, dd, dd, dd, dd, dd, dd, dd, dd, dd, dd, dd, dd, dd, dd, dd, dd, dd, dd, dd, dd, dd, dd, dd, dd, dd, dd, dd, dd, dd, dd, dd, dd, dd, dd, dd, dd, dd, dd, dd, dd, dd, dd, dd, dd, dd, dd, dd, dd, dd, dd, dd, dd, dd, dd, dd, dd, dd, dd, dd, dd, dd, dd, dd, dd, dd, dd, dd, dd, dd, dd, dd, dd, dd, dd, dd, dd, dd, dd, dd, dd, dd, dd, dd, dd, dd, dd, dd, dd, dd, dd, dd, dd, dd, dd, dd, dd, dd, dd, dd, dd, dd, dd, dd, dd, dd, dd, dd, dd, dd, dd], [.gh 0 (.srf 1), .row 207 4 (v_w668.map eS_oom_Task)]⟩
def G_slices_partitionCmpFunc_oom_Task_h_L5_hd (v_a584 : Int) (v_cmp587 : (S_oom_Task → S_oom_Task → Option (Int))) (v_cmp587_g : FuncId) (v_cmp587_c : (List PV)) (v_i634 : Int) (v_j635 : Int) (v_w636 : (List S_oom_Task)) : PS := ⟨[.srf 1, .d (.v (.int .i64 v_a584)), dd, dd, .d (.clo v_cmp587_g v_cmp587_c), dd, dd, dd, dd, dd, dd, dd, .d (.v (.int .i64 v_i634)), .d (.v (.int .i64 v_j635)), dd, dd, dd, dd, dd, dd, dd, dd, dd, dd, dd, dd, dd, dd, dd, dd, dd, dd, dd, dd, dd, dd, dd, dd, dd, dd, dd, dd, dd, dd, dd, dd, dd, dd, dd, dd, dd, dd, dd, dd, dd, dd, dd, dd, dd, dd, dd, dd, dd, dd, dd, dd, dd, dd, dd, dd, dd, dd, dd, dd, dd, dd, dd, dd, dd, dd, dd, dd, dd, dd, dd, dd, dd, dd, dd, dd, dd, dd, dd, dd, dd, dd, dd, dd, dd, dd, dd, dd, dd, dd, dd, dd, dd, dd, dd, dd, dd, dd, dd, dd, dd, dd, dd, dd, dd, dd, dd, dd, dd, dd, dd, dd, dd, dd, dd, dd, dd, dd, dd, dd, dd, dd, dd, dd, dd, dd, dd, dd, dd, dd, dd, dd, dd, dd, dd, dd, dd, dd, dd, dd, dd, dd, dd, dd, dd, dd, dd, dd, dd, dd, dd, dd, dd, dd, dd, dd, dd, dd, dd, dd, dd, dd, dd, dd], [.gh 0 (.srf 1), .row 207 4 (v_w636.map eS_oom_Task)]⟩
def G_slices_partitionCmpFunc_oom_Task_h_L5 (n : Nat) (v_a584 : Int) (v_cmp587 : (S_oom_Task → S_oom_Task → Option (Int))) : Nat → Int → Int → (List S_oom_Task) → Option G_slices_partitionCmpFunc_oom_Task_h_L5_R
  | 0, _, _, _ => none
  | k + 1, v_i634, v_j635, v_w636 =>
    (G_slices_partitionCmpFunc_oom_Task_h_L3 n v_a584 v_cmp587 v_j635 n v_i634 v_w636).bind fun v_o649 => match v_o649 with
    | .x0 v_z650 v_z651 =>
      (G_slices_partitionCmpFunc_oom_Task_h_L4 n v_a584 v_cmp587 v_z650 n v_j635 v_z651).bind fun v_o664 => match v_o664 with
      | .x0 v_z665 v_z666 =>
        if v_z650 > v_z665 then
         some (.x0 v_z665 v_z666)
        else
         if 0 ≤ v_z665 ∧ (v_z665).toNat < v_z666.length then
          (v_z666[(v_z665).toNat]?).bind fun (v_y669 : S_oom_Task) =>
          if 0 ≤ v_z650 ∧ (v_z650).toNat < v_z666.length then
           (v_z666[(v_z650).toNat]?).bind fun (v_y670 : S_oom_Task) =>
           if 0 ≤ v_z650 ∧ (v_z650).toNat < v_z666.length then
            (v_z666[(v_z650).toNat]?).bind fun (v_y671 : S_oom_Task) =>
            if 0 ≤ v_z665 ∧ (v_z665).toNat < (v_z666.set (v_z650).toNat v_y669).length then
             ((v_z666.set (v_z650).toNat v_y669)[(v_z665).toNat]?).bind fun (v_y672 : S_oom_Task) =>
             G_slices_partitionCmpFunc_oom_Task_h_L5 n v_a584 v_cmp587 k (wi .i64 (v_z650 + 1)) (wi .i64 (v_z665 - 1)) ((v_z666.set (v_z650).toNat v_y669).set (v_z665).toNat v_y670)
            else none
           else none
          else none
         else none
theorem G_slices_partitionCmpFunc_oom_Task_h_L5_ok {Fi : Ex → PS → Prop} (hF : KC 178 Fi) (ks : List Fr) (n : Nat) (v_a584 : Int) (v_cmp587 : (S_oom_Task → S_oom_Task → Option (Int))) (v_cmp587_g : FuncId) (v_cmp587_c : (List PV)) (v_cmp587_h : ∀ (x0 : S_oom_Task) (x1 : S_oom_Task) (r : Int), v_cmp587 x0 x1 = some r → Ret Try.prog v_cmp587_g ([eS_oom_Task x0, eS_oom_Task x1] ++ v_cmp587_c) ((eI .i64) r)) : ∀ (k : Nat) (v_i634 : Int) (v_j635 : Int) (v_w636 : (List S_oom_Task)) (o : G_slices_partitionCmpFunc_oom_Task_h_L5_R), G_slices_partitionCmpFunc_oom_Task_h_L5 n v_a584 v_cmp587 k v_i634 v_j635 v_w636 = some o → RunE Try.prog 178 Fi ks (G_slices_partitionCmpFunc_oom_Task_h_L5_ex o) (G_slices_partitionCmpFunc_oom_Task_h_L5_st v_a584 v_cmp587 v_cmp587_g v_cmp587_c o) → RunE Try.prog 178 Fi (.l k (cP (cB (cL (cR (cR (cR (cR (cR (cR (cR (cR (cR (bodyOf Try.f292))))))))))))) :: ks) .normal (G_slices_partitionCmpFunc_oom_Task_h_L5_hd v_a584 v_cmp587 v_cmp587_g v_cmp587_c v_i634 v_j635 v_w636)
  | 0, v_i634, v_j635, v_w636, o, h, q => by rw [G_slices_partitionCmpFunc_oom_Task_h_L5] at h; cases h
  | k + 1, v_i634, v_j635, v_w636, o, h, q => by
    rw [G_slices_partitionCmpFunc_oom_Task_h_L5] at h
    obtain ⟨v_o649, h725, h⟩ := bind_some h
    refine pkk_sound TTok mix hF 5 (hs := [.n n]) (ts := []) (s := [0, 1]) (l := [0, 1, 4, 12, 13]) (by kernel_rfl) (by kernel_rfl) .nil (G_slices_partitionCmpFunc_oom_Task_h_L3_ok hF (.b 6 :: .s (cR (cB (cP (cB (cL (cR (cR (cR (cR (cR (cR (cR (cR (cR (bodyOf Try.f292))))))))))))))) :: .b 5 :: .l k (cP (cB (cL (cR (cR (cR (cR (cR (cR (cR (cR (cR (bodyOf Try.f292))))))))))))) :: ks) n v_a584 v_cmp587 v_j635 v_cmp587_g v_cmp587_c v_cmp587_h n v_i634 v_w636 _ h725 ?_)
    cases v_o649 with
    | x0 v_z650 v_z651 =>
      try dsimp only at h
      obtain ⟨v_o664, h739, h⟩ := bind_some h
      refine pkk_sound TTok mix hF 4 (hs := [.n n]) (ts := []) (s := [0, 1]) (l := [0, 1, 4, 12, 13]) (by kernel_rfl) (by kernel_rfl) .nil (G_slices_partitionCmpFunc_oom_Task_h_L4_ok hF (.b 8 :: .s (cR (cR (cB (cP (cB (cL (cR (cR (cR (cR (cR (cR (cR (cR (cR (bodyOf Try.f292)))))))))))))))) :: .b 5 :: .l k (cP (cB (cL (cR (cR (cR (cR (cR (cR (cR (cR (cR (bodyOf Try.f292))))))))))))) :: ks) n v_a584 v_cmp587 v_z650 v_cmp587_g v_cmp587_c v_cmp587_h n v_j635 v_z651 _ h739 ?_)
      cases v_o664 with
      | x0 v_z665 v_z666 =>
        try dsimp only at h
        by_cases h740 : v_z650 > v_z665
        · rw [if_pos h740] at h
          cases h
          exact pkk_sound TTok mix hF 9 (hs := [.t true]) (ts := []) (s := [0, 1]) (l := [0, 1, 13]) (by kernel_rfl) (by kernel_rfl) (.cons (dt h740) .nil) q
        · rw [if_neg h740] at h
          by_cases h741 : 0 ≤ v_z665 ∧ (v_z665).toNat < v_z666.length
          · rw [if_pos h741] at h
            obtain ⟨v_y669, h742, h⟩ := bind_some h
            by_cases h743 : 0 ≤ v_z650 ∧ (v_z650).toNat < v_z666.length
            · rw [if_pos h743] at h
              obtain ⟨v_y670, h744, h⟩ := bind_some h
              by_cases h745 : 0 ≤ v_z650 ∧ (v_z650).toNat < v_z666.length
              · rw [if_pos h745] at h
                obtain ⟨v_y671, h746, h⟩ := bind_some h
                by_cases h747 : 0 ≤ v_z665 ∧ (v_z665).toNat < (v_z666.set (v_z650).toNat v_y669).length
                · rw [if_pos h747] at h
                  obtain ⟨v_y672, h748, h⟩ := bind_some h
                  exact pkk_sound TTok mix hF 12 (hs := [.t false, .y (eS_oom_Task v_y669), .y (eS_oom_Task v_y670), .w ((v_z666.set (v_z650).toNat v_y669).map eS_oom_Task), .y (eS_oom_Task v_y671), .w (((v_z666.set (v_z650).toNat v_y669).set (v_z665).toNat v_y670).map eS_oom_Task), .y (eS_oom_Task v_y672)]) (ts := []) (s := [0, 1]) (l := [0, 1, 4, 12, 13]) (by kernel_rfl) (by kernel_rfl) (.cons (df h740) (.cons (idx_ob (f := eS_oom_Task) h741) (.cons (get_ob (f := eS_oom_Task) h742) (.cons (idx_ob (f := eS_oom_Task) h743) (.cons (get_ob (f := eS_oom_Task) h744) (.cons (idx_ob (f := eS_oom_Task) h745) (.cons (get_ob (f := eS_oom_Task) h746) (.cons (Eq.refl (pcells (.agg [.v (.int .i64 v_y669.fId), .v (.int .i64 v_y669.fPages), .v (.int .i64 v_y669.fScore), .v (.bool v_y669.fKept)]))) (.cons (set_ob (f := eS_oom_Task) (l := v_z666) (k := (v_z650).toNat) (z := v_y669) (p := .agg [.v (.int .i64 v_y669.fId), .v (.int .i64 v_y669.fPages), .v (.int .i64 v_y669.fScore), .v (.bool v_y669.fKept)]) rfl) (.cons (idx_ob (f := eS_oom_Task) h747) (.cons (get_ob (f := eS_oom_Task) h748) (.cons (Eq.refl (pcells (.agg [.v (.int .i64 v_y670.fId), .v (.int .i64 v_y670.fPages), .v (.int .i64 v_y670.fScore), .v (.bool v_y670.fKept)]))) (.cons (set_ob (f := eS_oom_Task) (l := (v_z666.set (v_z650).toNat v_y669)) (k := (v_z665).toNat) (z := v_y670) (p := .agg [.v (.int .i64 v_y670.fId), .v (.int .i64 v_y670.fPages), .v (.int .i64 v_y670.fScore), .v (.bool v_y670.fKept)]) rfl) .nil))))))))))))) (G_slices_partitionCmpFunc_oom_Task_h_L5_ok hF ks n v_a584 v_cmp587 v_cmp587_g v_cmp587_c v_cmp587_h k (wi .i64 (v_z650 + 1)) (wi .i64 (v_z665 - 1)) ((v_z666.set (v_z650).toNat v_y669).set (v_z665).toNat v_y670) _ h q)
                · rw [if_neg h747] at h; cases h
              · rw [if_neg h745] at h; cases h
            · rw [if_neg h743] at h; cases h
          · rw [if_neg h741] at h; cases h
/- slices.partitionCmpFunc[ringhall/oom.Task] -/
def G_slices_partitionCmpFunc_oom_Task_h (n : Nat) (v_data583 : (List S_oom_Task)) (v_a584 : Int) (v_b585 : Int) (v_pivot586 : Int) (v_cmp587 : (S_oom_Task → S_oom_Task → Option (Int))) : Option (Int × Bool × (List S_oom_Task)) :=
  if 0 ≤ v_pivot586 ∧ (v_pivot586).toNat < v_data583.length then
   (v_data583[(v_pivot586).toNat]?).bind fun (v_y588 : S_oom_Task) =>
   if 0 ≤ v_a584 ∧ (v_a584).toNat < v_data583.length then
    (v_data583[(v_a584).toNat]?).bind fun (v_y589 : S_oom_Task) =>
    if 0 ≤ v_a584 ∧ (v_a584).toNat < v_data583.length then
     (v_data583[(v_a584).toNat]?).bind fun (v_y590 : S_oom_Task) =>
     if 0 ≤ v_pivot586 ∧ (v_pivot586).toNat < (v_data583.set (v_a584).toNat v_y588).length then
      ((v_data583.set (v_a584).toNat v_y588)[(v_pivot586).toNat]?).bind fun (v_y591 : S_oom_Task) =>
      (G_slices_partitionCmpFunc_oom_Task_h_L1 n v_a584 v_cmp587 v_b585 n (wi .i64 (v_a584 + 1)) ((v_data583.set (v_a584).toNat v_y588).set (v_pivot586).toNat v_y589)).bind fun v_o604 => match v_o604 with
      | .x0 v_z605 v_z606 =>
        (G_slices_partitionCmpFunc_oom_Task_h_L2 n v_a584 v_cmp587 v_z605 n (wi .i64 (v_b585 - 1)) v_z606).bind fun v_o619 => match v_o619 with
        | .x0 v_z620 v_z621 =>
          if v_z605 > v_z620 then
           if 0 ≤ v_a584 ∧ (v_a584).toNat < v_z621.length then
            (v_z621[(v_a584).toNat]?).bind fun (v_y626 : S_oom_Task) =>
            if 0 ≤ v_z620 ∧ (v_z620).toNat < v_z621.length then
             (v_z621[(v_z620).toNat]?).bind fun (v_y627 : S_oom_Task) =>
             if 0 ≤ v_z620 ∧ (v_z620).toNat < v_z621.length then
              (v_z621[(v_z620).toNat]?).bind fun (v_y628 : S_oom_Task) =>
              if 0 ≤ v_a584 ∧ (v_a584).toNat < (v_z621.set (v_z620).toNat v_y626).length then
               ((v_z621.set (v_z620).toNat v_y626)[(v_a584).toNat]?).bind fun (v_y629 : S_oom_Task) =>
               some (v_z620, true, ((v_z621.set (v_z620).toNat v_y626).set (v_a584).toNat v_y627))
              else none
             else none
            else none
           else none
          else
           if 0 ≤ v_z620 ∧ (v_z620).toNat < v_z621.length then
            (v_z621[(v_z620).toNat]?).bind fun (v_y630 : S_oom_Task) =>
            if 0 ≤ v_z605 ∧ (v_z605).toNat < v_z621.length then
             (v_z621[(v_z605).toNat]?).bind fun (v_y631 : S_oom_Task) =>
             if 0 ≤ v_z605 ∧ (v_z605).toNat < v_z621.length then
              (v_z621[(v_z605).toNat]?).bind fun (v_y632 : S_oom_Task) =>
              if 0 ≤ v_z620 ∧ (v_z620).toNat < (v_z621.set (v_z605).toNat v_y630).length then
               ((v_z621.set (v_z605).toNat v_y630)[(v_z620).toNat]?).bind fun (v_y633 : S_oom_Task) =>
               (G_slices_partitionCmpFunc_oom_Task_h_L5 n v_a584 v_cmp587 n (wi .i64 (v_z605 + 1)) (wi .i64 (v_z620 - 1)) ((v_z621.set (v_z605).toNat v_y630).set (v_z620).toNat v_y631)).bind fun v_o673 => match v_o673 with
               | .x0 v_z674 v_z675 =>
                 if 0 ≤ v_a584 ∧ (v_a584).toNat < v_z675.length then
                  (v_z675[(v_a584).toNat]?).bind fun (v_y676 : S_oom_Task) =>
                  if 0 ≤ v_z674 ∧ (v_z674).toNat < v_z675.length then
                   (v_z675[(v_z674).toNat]?).bind fun (v_y677 : S_oom_Task) =>
                   if 0 ≤ v_z674 ∧ (v_z674).toNat < v_z675.length then
                    (v_z675[(v_z674).toNat]?).bind fun (v_y678 : S_oom_Task) =>
                    if 0 ≤ v_a584 ∧ (v_a584).toNat < (v_z675.set (v_z674).toNat v_y676).length then
                     ((v_z675.set (v_z674).toNat v_y676)[(v_a584).toNat]?).bind fun (v_y679 : S_oom_Task) =>
                     some (v_z674, false, ((v_z675.set (v_z674).toNat v_y676).set (v_a584).toNat v_y677))
                    else none
                   else none
                  else none
                 else none
              else none
             else none
            else none
           else none
     else none
    else none
   else none
  else none
theorem G_slices_partitionCmpFunc_oom_Task_h_ok (n : Nat) (v_data583 : (List S_oom_Task)) (v_a584 : Int) (v_b585 : Int) (v_pivot586 : Int) (v_cmp587 : (S_oom_Task → S_oom_Task → Option (Int))) (v_cmp587_g : FuncId) (v_cmp587_c : List PV) (v_cmp587_h : ∀ (x0 : S_oom_Task) (x1 : S_oom_Task) (r : Int), v_cmp587 x0 x1 = some r → Ret Try.prog v_cmp587_g ([eS_oom_Task x0, eS_oom_Task x1] ++ v_cmp587_c) ((eI .i64) r)) (r : Int × Bool × (List S_oom_Task)) (h : G_slices_partitionCmpFunc_oom_Task_h n v_data583 v_a584 v_b585 v_pivot586 v_cmp587 = some r) : RetH Try.prog 292 [.srf 0, .d ((eI .i64) v_a584), .d ((eI .i64) v_b585), .d ((eI .i64) v_pivot586), .d ((.clo v_cmp587_g v_cmp587_c))] [.row 207 4 (v_data583.map eS_oom_Task)] (.tup [.d ((eI .i64) r.1), .d (eB r.2.1)]) [.row 207 4 (r.2.2.map eS_oom_Task)] := by
  refine retH_run (n := 178) (fn := Try.f292) (c := bodyOf Try.f292) (by kernel_rfl) (by kernel_rfl) (by kernel_rfl) (by kernel_rfl) ?_
  have hF : KC 178 (FinH Try.prog Try.f292 [.row 207 4 (v_data583.map eS_oom_Task)] (.tup [.d ((eI .i64) r.1), .d (eB r.2.1)]) [.row 207 4 (r.2.2.map eS_oom_Task)]) := FinH.kc' (by kernel_rfl)
  unfold G_slices_partitionCmpFunc_oom_Task_h at h
  by_cases h650 : 0 ≤ v_pivot586 ∧ (v_pivot586).toNat < v_data583.length
  · rw [if_pos h650] at h
    obtain ⟨v_y588, h651, h⟩ := bind_some h
    by_cases h652 : 0 ≤ v_a584 ∧ (v_a584).toNat < v_data583.length
    · rw [if_pos h652] at h
      obtain ⟨v_y589, h653, h⟩ := bind_some h
      by_cases h654 : 0 ≤ v_a584 ∧ (v_a584).toNat < v_data583.length
      · rw [if_pos h654] at h
        obtain ⟨v_y590, h655, h⟩ := bind_some h
        by_cases h656 : 0 ≤ v_pivot586 ∧ (v_pivot586).toNat < (v_data583.set (v_a584).toNat v_y588).length
        · rw [if_pos h656] at h
          obtain ⟨v_y591, h657, h⟩ := bind_some h
          obtain ⟨v_o604, h671, h⟩ := bind_some h
          refine pkk_sound TTok mix hF 9 (hs := [.y (eS_oom_Task v_y588), .y (eS_oom_Task v_y589), .w ((v_data583.set (v_a584).toNat v_y588).map eS_oom_Task), .y (eS_oom_Task v_y590), .w (((v_data583.set (v_a584).toNat v_y588).set (v_pivot586).toNat v_y589).map eS_oom_Task), .y (eS_oom_Task v_y591), .n n]) (ts := []) (s := [1, 0]) (l := [0, 1, 4, 12, 13]) (by kernel_rfl) (by kernel_rfl) (.cons (idx_ob (f := eS_oom_Task) h650) (.cons (get_ob (f := eS_oom_Task) h651) (.cons (idx_ob (f := eS_oom_Task) h652) (.cons (get_ob (f := eS_oom_Task) h653) (.cons (idx_ob (f := eS_oom_Task) h654) (.cons (get_ob (f := eS_oom_Task) h655) (.cons (Eq.refl (pcells (.agg [.v (.int .i64 v_y588.fId), .v (.int .i64 v_y588.fPages), .v (.int .i64 v_y588.fScore), .v (.bool v_y588.fKept)]))) (.cons (set_ob (f := eS_oom_Task) (l := v_data583) (k := (v_a584).toNat) (z := v_y588) (p := .agg [.v (.int .i64 v_y588.fId), .v (.int .i64 v_y588.fPages), .v (.int .i64 v_y588.fScore), .v (.bool v_y588.fKept)]) rfl) (.cons (idx_ob (f := eS_oom_Task) h656) (.cons (get_ob (f := eS_oom_Task) h657) (.cons (Eq.refl (pcells (.agg [.v (.int .i64 v_y589.fId), .v (.int .i64 v_y589.fPages), .v (.int .i64 v_y589.fScore), .v (.bool v_y589.fKept)]))) (.cons (set_ob (f := eS_oom_Task) (l := (v_data583.set (v_a584).toNat v_y588)) (k := (v_pivot586).toNat) (z := v_y589) (p := .agg [.v (.int .i64 v_y589.fId), .v (.int .i64 v_y589.fPages), .v (.int .i64 v_y589.fScore), .v (.bool v_y589.fKept)]) rfl) .nil)))))))))))) (G_slices_partitionCmpFunc_oom_Task_h_L1_ok hF (.b 0 :: .s (cR (cR (cR (cR (bodyOf Try.f292))))) :: []) n v_a584 v_cmp587 v_b585 v_cmp587_g v_cmp587_c v_cmp587_h n (wi .i64 (v_a584 + 1)) ((v_data583.set (v_a584).toNat v_y588).set (v_pivot586).toNat v_y589) _ h671 ?_)
          cases v_o604 with
          | x0 v_z605 v_z606 =>
            try dsimp only at h
            obtain ⟨v_o619, h685, h⟩ := bind_some h
            refine pkk_sound TTok mix hF 4 (hs := [.n n]) (ts := []) (s := [0, 1]) (l := [0, 1, 4, 12, 13]) (by kernel_rfl) (by kernel_rfl) .nil (G_slices_partitionCmpFunc_oom_Task_h_L2_ok hF (.b 2 :: .s (cR (cR (cR (cR (cR (bodyOf Try.f292)))))) :: []) n v_a584 v_cmp587 v_z605 v_cmp587_g v_cmp587_c v_cmp587_h n (wi .i64 (v_b585 - 1)) v_z606 _ h685 ?_)
            cases v_o619 with
            | x0 v_z620 v_z621 =>
              try dsimp only at h
              by_cases h695 : v_z605 > v_z620
              · rw [if_pos h695] at h
                by_cases h696 : 0 ≤ v_a584 ∧ (v_a584).toNat < v_z621.length
                · rw [if_pos h696] at h
                  obtain ⟨v_y626, h697, h⟩ := bind_some h
                  by_cases h698 : 0 ≤ v_z620 ∧ (v_z620).toNat < v_z621.length
                  · rw [if_pos h698] at h
                    obtain ⟨v_y627, h699, h⟩ := bind_some h
                    by_cases h700 : 0 ≤ v_z620 ∧ (v_z620).toNat < v_z621.length
                    · rw [if_pos h700] at h
                      obtain ⟨v_y628, h701, h⟩ := bind_some h
                      by_cases h702 : 0 ≤ v_a584 ∧ (v_a584).toNat < (v_z621.set (v_z620).toNat v_y626).length
                      · rw [if_pos h702] at h
                        obtain ⟨v_y629, h703, h⟩ := bind_some h
                        obtain rfl := Option.some.inj h
                        exact pendH_sound TTok mix 11 (hs := [.t true, .y (eS_oom_Task v_y626), .y (eS_oom_Task v_y627), .w ((v_z621.set (v_z620).toNat v_y626).map eS_oom_Task), .y (eS_oom_Task v_y628), .w (((v_z621.set (v_z620).toNat v_y626).set (v_a584).toNat v_y627).map eS_oom_Task), .y (eS_oom_Task v_y629)]) [1] (by kernel_rfl) (by kernel_rfl) (by kernel_rfl) (.cons (dt h695) (.cons (idx_ob (f := eS_oom_Task) h696) (.cons (get_ob (f := eS_oom_Task) h697) (.cons (idx_ob (f := eS_oom_Task) h698) (.cons (get_ob (f := eS_oom_Task) h699) (.cons (idx_ob (f := eS_oom_Task) h700) (.cons (get_ob (f := eS_oom_Task) h701) (.cons (Eq.refl (pcells (.agg [.v (.int .i64 v_y626.fId), .v (.int .i64 v_y626.fPages), .v (.int .i64 v_y626.fScore), .v (.bool v_y626.fKept)]))) (.cons (set_ob (f := eS_oom_Task) (l := v_z621) (k := (v_z620).toNat) (z := v_y626) (p := .agg [.v (.int .i64 v_y626.fId), .v (.int .i64 v_y626.fPages), .v (.int .i64 v_y626.fScore), .v (.bool v_y626.fKept)]) rfl) (.cons (idx_ob (f := eS_oom_Task) h702) (.cons (get_ob (f := eS_oom_Task) h703) (.cons (Eq.refl (pcells (.agg [.v (.int .i64 v_y627.fId), .v (.int .i64 v_y627.fPages), .v (.int .i64 v_y627.fScore), .v (.bool v_y627.fKept)]))) (.cons (set_ob (f := eS_oom_Task) (l := (v_z621.set (v_z620).toNat v_y626)) (k := (v_a584).toNat) (z := v_y627) (p := .agg [.v (.int .i64 v_y627.fId), .v (.int .i64 v_y627.fPages), .v (.int .i64 v_y627.fScore), .v (.bool v_y627.fKept)]) rfl) .nil)))))))))))))
                      · rw [if_neg h702] at h; cases h
                    · rw [if_neg h700] at h; cases h
                  · rw [if_neg h698] at h; cases h
                · rw [if_neg h696] at h; cases h
              · rw [if_neg h695] at h
                by_cases h704 : 0 ≤ v_z620 ∧ (v_z620).toNat < v_z621.length
                · rw [if_pos h704] at h
                  obtain ⟨v_y630, h705, h⟩ := bind_some h
                  by_cases h706 : 0 ≤ v_z605 ∧ (v_z605).toNat < v_z621.length
                  · rw [if_pos h706] at h
                    obtain ⟨v_y631, h707, h⟩ := bind_some h
                    by_cases h708 : 0 ≤ v_z605 ∧ (v_z605).toNat < v_z621.length
                    · rw [if_pos h708] at h
                      obtain ⟨v_y632, h709, h⟩ := bind_some h
                      by_cases h710 : 0 ≤ v_z620 ∧ (v_z620).toNat < (v_z621.set (v_z605).toNat v_y630).length
                      · rw [if_pos h710] at h
                        obtain ⟨v_y633, h711, h⟩ := bind_some h
                        obtain ⟨v_o673, h749, h⟩ := bind_some h
                        refine pkk_sound TTok mix hF 15 (hs := [.t false, .y (eS_oom_Task v_y630), .y (eS_oom_Task v_y631), .w ((v_z621.set (v_z605).toNat v_y630).map eS_oom_Task), .y (eS_oom_Task v_y632), .w (((v_z621.set (v_z605).toNat v_y630).set (v_z620).toNat v_y631).map eS_oom_Task), .y (eS_oom_Task v_y633), .n n]) (ts := []) (s := [0, 1]) (l := [0, 1, 4, 12, 13]) (by kernel_rfl) (by kernel_rfl) (.cons (df h695) (.cons (idx_ob (f := eS_oom_Task) h704) (.cons (get_ob (f := eS_oom_Task) h705) (.cons (idx_ob (f := eS_oom_Task) h706) (.cons (get_ob (f := eS_oom_Task) h707) (.cons (idx_ob (f := eS_oom_Task) h708) (.cons (get_ob (f := eS_oom_Task) h709) (.cons (Eq.refl (pcells (.agg [.v (.int .i64 v_y630.fId), .v (.int .i64 v_y630.fPages), .v (.int .i64 v_y630.fScore), .v (.bool v_y630.fKept)]))) (.cons (set_ob (f := eS_oom_Task) (l := v_z621) (k := (v_z605).toNat) (z := v_y630) (p := .agg [.v (.int .i64 v_y630.fId), .v (.int .i64 v_y630.fPages), .v (.int .i64 v_y630.fScore), .v (.bool v_y630.fKept)]) rfl) (.cons (idx_ob (f := eS_oom_Task) h710) (.cons (get_ob (f := eS_oom_Task) h711) (.cons (Eq.refl (pcells (.agg [.v (.int .i64 v_y631.fId), .v (.int .i64 v_y631.fPages), .v (.int .i64 v_y631.fScore), .v (.bool v_y631.fKept)]))) (.cons (set_ob (f := eS_oom_Task) (l := (v_z621.set (v_z605).toNat v_y630)) (k := (v_z620).toNat) (z := v_y631) (p := .agg [.v (.int .i64 v_y631.fId), .v (.int .i64 v_y631.fPages), .v (.int .i64 v_y631.fScore), .v (.bool v_y631.fKept)]) rfl) .nil))))))))))))) (G_slices_partitionCmpFunc_oom_Task_h_L5_ok hF (.b 4 :: .s (cR (cR (cR (cR (cR (cR (cR (cR (cR (cR (bodyOf Try.f292))))))))))) :: []) n v_a584 v_cmp587 v_cmp587_g v_cmp587_c v_cmp587_h n (wi .i64 (v_z605 + 1)) (wi .i64 (v_z620 - 1)) ((v_z621.set (v_z605).toNat v_y630).set (v_z620).toNat v_y631) _ h749 ?_)
                        cases v_o673 with
                        | x0 v_z674 v_z675 =>
                          try dsimp only at h
                          by_cases h750 : 0 ≤ v_a584 ∧ (v_a584).toNat < v_z675.length
                          · rw [if_pos h750] at h
                            obtain ⟨v_y676, h751, h⟩ := bind_some h
                            by_cases h752 : 0 ≤ v_z674 ∧ (v_z674).toNat < v_z675.length
                            · rw [if_pos h752] at h
                              obtain ⟨v_y677, h753, h⟩ := bind_some h
                              by_cases h754 : 0 ≤ v_z674 ∧ (v_z674).toNat < v_z675.length
                              · rw [if_pos h754] at h
                                obtain ⟨v_y678, h755, h⟩ := bind_some h
                                by_cases h756 : 0 ≤ v_a584 ∧ (v_a584).toNat < (v_z675.set (v_z674).toNat v_y676).length
                                · rw [if_pos h756] at h
                                  obtain ⟨v_y679, h757, h⟩ := bind_some h
                                  obtain rfl := Option.some.inj h
                                  exact pendH_sound TTok mix 6 (hs := [.y (eS_oom_Task v_y676), .y (eS_oom_Task v_y677), .w ((v_z675.set (v_z674).toNat v_y676).map eS_oom_Task), .y (eS_oom_Task v_y678), .w (((v_z675.set (v_z674).toNat v_y676).set (v_a584).toNat v_y677).map eS_oom_Task), .y (eS_oom_Task v_y679)]) [1] (by kernel_rfl) (by kernel_rfl) (by kernel_rfl) (.cons (idx_ob (f := eS_oom_Task) h750) (.cons (get_ob (f := eS_oom_Task) h751) (.cons (idx_ob (f := eS_oom_Task) h752) (.cons (get_ob (f := eS_oom_Task) h753) (.cons (idx_ob (f := eS_oom_Task) h754) (.cons (get_ob (f := eS_oom_Task) h755) (.cons (Eq.refl (pcells (.agg [.v (.int .i64 v_y676.fId), .v (.int .i64 v_y676.fPages), .v (.int .i64 v_y676.fScore), .v (.bool v_y676.fKept)]))) (.cons (set_ob (f := eS_oom_Task) (l := v_z675) (k := (v_z674).toNat) (z := v_y676) (p := .agg [.v (.int .i64 v_y676.fId), .v (.int .i64 v_y676.fPages), .v (.int .i64 v_y676.fScore), .v (.bool v_y676.fKept)]) rfl) (.cons (idx_ob (f := eS_oom_Task) h756) (.cons (get_ob (f := eS_oom_Task) h757) (.cons (Eq.refl (pcells (.agg [.v (.int .i64 v_y677.fId), .v (.int .i64 v_y677.fPages), .v (.int .i64 v_y677.fScore), .v (.bool v_y677.fKept)]))) (.cons (set_ob (f := eS_oom_Task) (l := (v_z675.set (v_z674).toNat v_y676)) (k := (v_a584).toNat) (z := v_y677) (p := .agg [.v (.int .i64 v_y677.fId), .v (.int .i64 v_y677.fPages), .v (.int .i64 v_y677.fScore), .v (.bool v_y677.fKept)]) rfl) .nil))))))))))))
                                · rw [if_neg h756] at h; cases h
                              · rw [if_neg h754] at h; cases h
                            · rw [if_neg h752] at h; cases h
                          · rw [if_neg h750] at h; cases h
                      · rw [if_neg h710] at h; cases h
                    · rw [if_neg h708] at h; cases h
                  · rw [if_neg h706] at h; cases h
                · rw [if_neg h704] at h; cases h
        · rw [if_neg h656] at h; cases h
      · rw [if_neg h654] at h; cases h
    · rw [if_neg h652] at h; cases h
  · rw [if_neg h650] at h; cases h
inductive G_slices_pdqsortCmpFunc_oom_Task_h_C1_R where
  | x0 (v_limit734 : Int) (v_w735 : (List S_oom_Task))
def G_slices_pdqsortCmpFunc_oom_Task_h_C1_ex : G_slices_pdqsortCmpFunc_oom_Task_h_C1_R → Ex
  | .x0 _ _ => .normal
def G_slices_pdqsortCmpFunc_oom_Task_h_C1_st (v_a144 : Int) (v_b145 : Int) (v_limit146 : Int) (v_cmp143 : (S_oom_Task → S_oom_Task → Option (Int))) (v_wasBalanced147 : Bool) (v_wasPartitioned148 : Bool) (v_w149 : (List S_oom_Task)) (v_cmp143_g : FuncId) (v_cmp143_c : (List PV)) : G_slices_pdqsortCmpFunc_oom_Task_h_C1_R → PS
  | .x0 v_limit734 v_w735 => ⟨[.srf 1, .d (.v (.int .i64 v_a144)), .d (.v (.int .i64 v_b145)), .d (.v (.int .i64 v_limit734)), .d (.clo v_cmp143_g v_cmp143_c), dd, dd, dd, dd, dd, .d (.v (.bool v_wasBalanced147)), .d (.v (.bool v_wasPartitioned148)), .d (.v (.int .i64 (wi .i64 (v_b145 - v_a144)))), dd, dd, dd, dd, dd, dd, dd, dd, dd, dd, dd, dd, dd, dd, dd, dd, dd, dd, dd, dd, dd, dd, dd, dd, dd, dd, dd, dd, dd, dd, dd, dd, dd, dd, dd, dd, dd, dd, dd, dd, dd, dd, dd, dd, dd, dd, dd, dd, dd, dd, dd, dd, dd, dd, dd, dd, dd, dd, dd, dd, dd, dd, dd, dd, dd, dd, dd, dd, dd, dd, dd, dd, dd, dd, dd, dd, dd, dd, dd, dd, dd, dd, dd, dd, dd, dd, dd, dd, dd, dd, dd, dd, dd, dd, dd, dd, dd, dd, dd, dd, dd, dd, dd, dd, dd, dd, dd, dd, dd, dd, dd, dd, dd, dd, dd, dd, dd, dd, dd, dd, dd, dd, dd, dd, dd, dd, dd, dd, dd, dd, dd, dd, dd, dd, dd], [.gh 0 (.srf 1), .row 207 4 (v_w735.map eS_oom_Task)]⟩
def G_slices_pdqsortCmpFunc_oom_Task_h_C1_hd (v_a144 : Int) (v_b145 : Int) (v_limit146 : Int) (v_cmp143 : (S_oom_Task → S_oom_Task → Option (Int))) (v_wasBalanced147 : Bool) (v_wasPartitioned148 : Bool) (v_w149 : (List S_oom_Task)) (v_cmp143_g : FuncId) (v_cmp143_c : (List PV))  : PS := ⟨[.srf 1, .d (.v (.int .i64 v_a144)), .d (.v (.int .i64 v_b145)), .d (.v (.int .i64 v_limit146)), .d (.clo v_cmp143_g v_cmp143_c), dd, dd, dd, dd, dd, .d (.v (.bool v_wasBalanced147)), .d (.v (.bool v_wasPartitioned148)), .d (.v (.int .i64 (wi .i64 (v_b145 - v_a144)))), dd, dd, dd, dd, dd, dd, dd, dd, dd, dd, dd, dd, dd, dd, dd, dd, dd, dd, dd, dd, dd, dd, dd, dd, dd, dd, .d (.v (.bool (!v_wasBalanced147))), dd, dd, dd, dd, dd, dd, dd, dd, dd, dd, dd, dd, dd, dd, dd, dd, dd, dd, dd, dd, dd, dd, dd, dd, dd, dd, dd, dd, dd, dd, dd, dd, dd, dd, dd, dd, dd, dd, dd, dd, dd, dd, dd, dd, dd, dd, dd, dd, dd, dd, dd, dd, dd, dd, dd, dd, dd, dd, dd, dd, dd, dd, dd, dd, dd, dd, dd, dd, dd, dd, dd, dd, dd, dd, dd, dd, dd, dd, dd, dd, dd, dd, dd, dd, dd, dd, dd, dd, dd, dd, dd, dd, dd, dd, dd, dd, dd, dd, dd, dd, dd, dd, dd, dd, dd, dd, dd, dd], [.gh 0 (.srf 1), .row 207 4 (v_w149.map eS_oom_Task)]⟩
def G_slices_pdqsortCmpFunc_oom_Task_h_C1 (n : Nat) (v_a144 : Int) (v_b145 : Int) (v_limit146 : Int) (v_cmp143 : (S_oom_Task → S_oom_Task → Option (Int))) (v_wasBalanced147 : Bool) (v_wasPartitioned148 : Bool) (v_w149 : (List S_oom_Task)) : Option G_slices_pdqsortCmpFunc_oom_Task_h_C1_R :=
  if v_wasBalanced147 = true then
   some (.x0 v_limit146 v_w149)
  else
   (G_slices_breakPatternsCmpFunc_oom_Task_h n v_w149 v_a144 v_b145 v_cmp143).bind fun (v_r733 : ((List S_oom_Task))) =>
   some (.x0 (wi .i64 (v_limit146 - 1)) v_r733)
theorem G_slices_pdqsortCmpFunc_oom_Task_h_C1_ok {Fi : Ex → PS → Prop} (hF : KC 148 Fi) (ks : List Fr) (n : Nat) (v_a144 : Int) (v_b145 : Int) (v_limit146 : Int) (v_cmp143 : (S_oom_Task → S_oom_Task → Option (Int))) (v_wasBalanced147 : Bool) (v_wasPartitioned148 : Bool) (v_w149 : (List S_oom_Task)) (v_cmp143_g : FuncId) (v_cmp143_c : (List PV)) (v_cmp143_h : ∀ (x0 : S_oom_Task) (x1 : S_oom_Task) (r : Int), v_cmp143 x0 x1 = some r → Ret Try.prog v_cmp143_g ([eS_oom_Task x0, eS_oom_Task x1] ++ v_cmp143_c) ((eI .i64) r)) (o : G_slices_pdqsortCmpFunc_oom_Task_h_C1_R) (h : G_slices_pdqsortCmpFunc_oom_Task_h_C1 n v_a144 v_b145 v_limit146 v_cmp143 v_wasBalanced147 v_wasPartitioned148 v_w149 = some o) (q : RunE Try.prog 148 Fi ks (G_slices_pdqsortCmpFunc_oom_Task_h_C1_ex o) (G_slices_pdqsortCmpFunc_oom_Task_h_C1_st v_a144 v_b145 v_limit146 v_cmp143 v_wasBalanced147 v_wasPartitioned148 v_w149 v_cmp143_g v_cmp143_c o)) : RunE Try.prog 148 Fi (.s (cR (cL (cR (cR (cR (cB (cP (cB (cR (cR (bodyOf Try.f264))))))))))) :: ks) .normal (G_slices_pdqsortCmpFunc_oom_Task_h_C1_hd v_a144 v_b145 v_limit146 v_cmp143 v_wasBalanced147 v_wasPartitioned148 v_w149 v_cmp143_g v_cmp143_c) := by
  unfold G_slices_pdqsortCmpFunc_oom_Task_h_C1 at h
  by_cases h826 : v_wasBalanced147 = true
  · rw [if_pos h826] at h
    cases h
    exact pkk_sound TTok mix hF 2 (hs := [.t false]) (ts := []) (s := [0, 1]) (l := [0, 1, 2, 3, 4, 10, 11, 12]) (by kernel_rfl) (by kernel_rfl) (.cons (bnf h826) .nil) q
  · rw [if_neg h826] at h
    obtain ⟨v_r733, h827, h⟩ := bind_some h
    cases h
    exact pkk_sound TTok mix hF 4 (hs := [.t true, .h [1] [] [.row 207 4 (v_r733.map eS_oom_Task)] (.tup [])]) (ts := []) (s := [0, 1]) (l := [0, 1, 2, 3, 4, 10, 11, 12]) (by kernel_rfl) (by kernel_rfl) (.cons (bnt (vf h826)) (.cons (G_slices_breakPatternsCmpFunc_oom_Task_h_ok n v_w149 v_a144 v_b145 v_cmp143 v_cmp143_g v_cmp143_c v_cmp143_h _ h827) .nil)) q
inductive G_slices_pdqsortCmpFunc_oom_Task_h_C2_R where
  | x0 (v_pivot744 : Int) (v_hint745 : Int) (v_w746 : (List S_oom_Task))
def G_slices_pdqsortCmpFunc_oom_Task_h_C2_ex : G_slices_pdqsortCmpFunc_oom_Task_h_C2_R → Ex
  | .x0 _ _ _ => .normal
def G_slices_pdqsortCmpFunc_oom_Task_h_C2_st (v_a144 : Int) (v_b145 : Int) (v_z739 : Int) (v_cmp143 : (S_oom_Task → S_oom_Task → Option (Int))) (v_wasBalanced147 : Bool) (v_wasPartitioned148 : Bool) (v_r741 : (Int × Int)) (v_z740 : (List S_oom_Task)) (v_cmp143_g : FuncId) (v_cmp143_c : (List PV)) : G_slices_pdqsortCmpFunc_oom_Task_h_C2_R → PS
  | .x0 v_pivot744 v_hint745 v_w746 => ⟨[.srf 1, .d (.v (.int .i64 v_a144)), .d (.v (.int .i64 v_b145)), .d (.v (.int .i64 v_z739)), .d (.clo v_cmp143_g v_cmp143_c), dd, dd, dd, dd, dd, .d (.v (.bool v_wasBalanced147)), .d (.v (.bool v_wasPartitioned148)), .d (.v (.int .i64 (wi .i64 (v_b145 - v_a144)))), .d (.v (.int .i64 v_pivot744)), .d (.v (.int .i64 v_hint745)), dd, dd, dd, dd, dd, dd, dd, dd, dd, dd, dd, dd, dd, dd, dd, dd, dd, dd, dd, dd, dd, dd, dd, dd, dd, dd, dd, dd, dd, dd, dd, dd, dd, dd, dd, dd, dd, dd, dd, dd, dd, dd, dd, dd, dd, dd, dd, dd, dd, dd, dd, dd, dd, dd, dd, dd, dd, dd, dd, dd, dd, dd, dd, dd, dd, dd, dd, dd, dd, dd, dd, dd, dd, dd, dd, dd, dd, dd, dd, dd, dd, dd, dd, dd, dd, dd, dd, dd, dd, dd, dd, dd, dd, dd, dd, dd, dd, dd, dd, dd, dd, dd, dd, dd, dd, dd, dd, dd, dd, dd, dd, dd, dd, dd, dd, dd, dd, dd, dd, dd, dd, dd, dd, dd, dd, dd, dd, dd, dd, dd, dd, dd, dd], [.gh 0 (.srf 1), .row 207 4 (v_w746.map eS_oom_Task)]⟩
def G_slices_pdqsortCmpFunc_oom_Task_h_C2_hd (v_a144 : Int) (v_b145 : Int) (v_z739 : Int) (v_cmp143 : (S_oom_Task → S_oom_Task → Option (Int))) (v_wasBalanced147 : Bool) (v_wasPartitioned148 : Bool) (v_r741 : (Int × Int)) (v_z740 : (List S_oom_Task)) (v_cmp143_g : FuncId) (v_cmp143_c : (List PV))  : PS := ⟨[.srf 1, .d (.v (.int .i64 v_a144)), .d (.v (.int .i64 v_b145)), .d (.v (.int .i64 v_z739)), .d (.clo v_cmp143_g v_cmp143_c), dd, dd, dd, dd, dd, .d (.v (.bool v_wasBalanced147)), .d (.v (.bool v_wasPartitioned148)), .d (.v (.int .i64 (wi .i64 (v_b145 - v_a144)))), .d (.v (.int .i64 v_r741.1)), .d (.v (.int .i64 v_r741.2)), dd, dd, dd, dd, dd, dd, dd, dd, dd, dd, dd, dd, dd, dd, dd, dd, dd, dd, dd, dd, dd, dd, dd, dd, dd, dd, dd, dd, dd, dd, dd, dd, dd, dd, dd, dd, dd, dd, dd, dd, dd, .d (.v (.bool (v_r741.2 == 2))), dd, dd, dd, dd, dd, dd, dd, dd, dd, dd, dd, dd, dd, dd, dd, dd, dd, dd, dd, dd, dd, dd, dd, dd, dd, dd, dd, dd, dd, dd, dd, dd, dd, dd, dd, dd, dd, dd, dd, dd, dd, dd, dd, dd, dd, dd, dd, dd, dd, dd, dd, dd, dd, dd, dd, dd, dd, dd, dd, dd, dd, dd, dd, dd, dd, dd, dd, dd, dd, dd, dd, dd, dd, dd, dd, dd, dd, dd, dd, dd, dd, dd, dd, dd, dd, dd, dd, dd, dd, dd, dd], [.gh 0 (.srf 1), .row 207 4 (v_z740.map eS_oom_Task)]⟩
def G_slices_pdqsortCmpFunc_oom_Task_h_C2 (n : Nat) (v_a144 : Int) (v_b145 : Int) (v_z739 : Int) (v_cmp143 : (S_oom_Task → S_oom_Task → Option (Int))) (v_wasBalanced147 : Bool) (v_wasPartitioned148 : Bool) (v_r741 : (Int × Int)) (v_z740 : (List S_oom_Task)) : Option G_slices_pdqsortCmpFunc_oom_Task_h_C2_R :=
  if v_r741.2 = 2 then
   (G_slices_reverseRangeCmpFunc_oom_Task_h n v_z740 v_a144 v_b145 v_cmp143).bind fun (v_r743 : ((List S_oom_Task))) =>
   some (.x0 (wi .i64 ((wi .i64 (v_b145 - 1)) - (wi .i64 (v_r741.1 - v_a144)))) 1 v_r743)
  else
   some (.x0 v_r741.1 v_r741.2 v_z740)
theorem G_slices_pdqsortCmpFunc_oom_Task_h_C2_ok {Fi : Ex → PS → Prop} (hF : KC 148 Fi) (ks : List Fr) (n : Nat) (v_a144 : Int) (v_b145 : Int) (v_z739 : Int) (v_cmp143 : (S_oom_Task → S_oom_Task → Option (Int))) (v_wasBalanced147 : Bool) (v_wasPartitioned148 : Bool) (v_r741 : (Int × Int)) (v_z740 : (List S_oom_Task)) (v_cmp143_g : FuncId) (v_cmp143_c : (List PV)) (v_cmp143_h : ∀ (x0 : S_oom_Task) (x1 : S_oom_Task) (r : Int), v_cmp143 x0 x1 = some r → Ret Try.prog v_cmp143_g ([eS_oom_Task x0, eS_oom_Task x1] ++ v_cmp143_c) ((eI .i64) r)) (o : G_slices_pdqsortCmpFunc_oom_Task_h_C2_R) (h : G_slices_pdqsortCmpFunc_oom_Task_h_C2 n v_a144 v_b145 v_z739 v_cmp143 v_wasBalanced147 v_wasPartitioned148 v_r741 v_z740 = some o) (q : RunE Try.prog 148 Fi ks (G_slices_pdqsortCmpFunc_oom_Task_h_C2_ex o) (G_slices_pdqsortCmpFunc_oom_Task_h_C2_st v_a144 v_b145 v_z739 v_cmp143 v_wasBalanced147 v_wasPartitioned148 v_r741 v_z740 v_cmp143_g v_cmp143_c o)) : RunE Try.prog 148 Fi (.s (cR (cL (cR (cR (cR (cR (cR (cB (cP (cB (cR (cR (bodyOf Try.f264))))))))))))) :: ks) .normal (G_slices_pdqsortCmpFunc_oom_Task_h_C2_hd v_a144 v_b145 v_z739 v_cmp143 v_wasBalanced147 v_wasPartitioned148 v_r741 v_z740 v_cmp143_g v_cmp143_c) := by
  unfold G_slices_pdqsortCmpFunc_oom_Task_h_C2 at h
  by_cases h832 : v_r741.2 = 2
  · rw [if_pos h832] at h
    obtain ⟨v_r743, h833, h⟩ := bind_some h
    cases h
    exact pkk_sound TTok mix hF 6 (hs := [.t true, .h [1] [] [.row 207 4 (v_r743.map eS_oom_Task)] (.tup [])]) (ts := []) (s := [0, 1]) (l := [0, 1, 2, 3, 4, 10, 11, 12, 13, 14]) (by kernel_rfl) (by kernel_rfl) (.cons (bt h832) (.cons (G_slices_reverseRangeCmpFunc_oom_Task_h_ok n v_z740 v_a144 v_b145 v_cmp143 v_cmp143_g v_cmp143_c v_cmp143_h _ h833) .nil)) q
  · rw [if_neg h832] at h
    cases h
    exact pkk_sound TTok mix hF 2 (hs := [.t false]) (ts := []) (s := [0, 1]) (l := [0, 1, 2, 3, 4, 10, 11, 12, 13, 14]) (by kernel_rfl) (by kernel_rfl) (.cons (bf h832) .nil) q
inductive G_slices_pdqsortCmpFunc_oom_Task_h_C3_R where
  | x0 (v_w756 : (List S_oom_Task))
  | x1 (v_w757 : (List S_oom_Task))
def G_slices_pdqsortCmpFunc_oom_Task_h_C3_ex : G_slices_pdqsortCmpFunc_oom_Task_h_C3_R → Ex
  | .x0 _ => .ret
  | .x1 _ => .normal
def G_slices_pdqsortCmpFunc_oom_Task_h_C3_st (v_a144 : Int) (v_b145 : Int) (v_z739 : Int) (v_cmp143 : (S_oom_Task → S_oom_Task → Option (Int))) (v_wasBalanced147 : Bool) (v_wasPartitioned148 : Bool) (v_z751 : Int) (v_z752 : Int) (v_z753 : (List S_oom_Task)) (v_cmp143_g : FuncId) (v_cmp143_c : (List PV)) : G_slices_pdqsortCmpFunc_oom_Task_h_C3_R → PS
  | .x0 v_w756 => ⟨[dd, dd, dd, dd, dd, dd, dd, dd, dd, dd, dd, dd, dd, dd, dd, dd, dd, dd, dd, dd, dd, dd, dd, dd, dd, dd, dd, dd, dd, dd, dd, dd, dd, dd, dd, dd, dd, dd, dd, dd, dd, dd, dd, dd, dd, dd, dd, dd, dd, dd, dd, dd, dd, dd, dd, dd, dd, dd, dd, dd, dd, dd, dd, dd, dd, dd, dd, dd, dd, dd, dd, dd, dd, dd, dd, dd, dd, dd, dd, dd, dd, dd, dd, dd, dd, dd, dd, dd, dd, dd, dd, dd, dd, dd, dd, dd, dd, dd, dd, dd, dd, dd, dd, dd, dd, dd, dd, dd, dd, dd, dd, dd, dd, dd, dd, dd, dd, dd, dd, dd, dd, dd, dd, dd, dd, dd, dd, dd, dd, dd, dd, dd, dd, dd, dd, dd, dd, dd, dd, dd, dd, dd, dd, dd, dd, dd, dd, dd], [.gh 0 (.srf 1), .row 207 4 (v_w756.map eS_oom_Task)]⟩
  | .x1 v_w757 => ⟨[.srf 1, .d (.v (.int .i64 v_a144)), .d (.v (.int .i64 v_b145)), .d (.v (.int .i64 v_z739)), .d (.clo v_cmp143_g v_cmp143_c), dd, dd, dd, dd, dd, .d (.v (.bool v_wasBalanced147)), .d (.v (.bool v_wasPartitioned148)), .d (.v (.int .i64 (wi .i64 (v_b145 - v_a144)))), .d (.v (.int .i64 v_z751)), dd, dd, dd, dd, dd, dd, dd, dd, dd, dd, dd, dd, dd, dd, dd, dd, dd, dd, dd, dd, dd, dd, dd, dd, dd, dd, dd, dd, dd, dd, dd, dd, dd, dd, dd, dd, dd, dd, dd, dd, dd, dd, dd, dd, dd, dd, dd, dd, dd, dd, dd, dd, dd, dd, dd, dd, dd, dd, dd, dd, dd, dd, dd, dd, dd, dd, dd, dd, dd, dd, dd, dd, dd, dd, dd, dd, dd, dd, dd, dd, dd, dd, dd, dd, dd, dd, dd, dd, dd, dd, dd, dd, dd, dd, dd, dd, dd, dd, dd, dd, dd, dd, dd, dd, dd, dd, dd, dd, dd, dd, dd, dd, dd, dd, dd, dd, dd, dd, dd, dd, dd, dd, dd, dd, dd, dd, dd, dd, dd, dd, dd, dd, dd, dd], [.gh 0 (.srf 1), .row 207 4 (v_w757.map eS_oom_Task)]⟩
def G_slices_pdqsortCmpFunc_oom_Task_h_C3_hd (v_a144 : Int) (v_b145 : Int) (v_z739 : Int) (v_cmp143 : (S_oom_Task → S_oom_Task → Option (Int))) (v_wasBalanced147 : Bool) (v_wasPartitioned148 : Bool) (v_z751 : Int) (v_z752 : Int) (v_z753 : (List S_oom_Task)) (v_cmp143_g : FuncId) (v_cmp143_c : (List PV))  : PS := ⟨[.srf 1, .d (.v (.int .i64 v_a144)), .d (.v (.int .i64 v_b145)), .d (.v (.int .i64 v_z739)), .d (.clo v_cmp143_g v_cmp143_c), dd, dd, dd, dd, dd, .d (.v (.bool v_wasBalanced147)), .d (.v (.bool v_wasPartitioned148)), .d (.v (.int .i64 (wi .i64 (v_b145 - v_a144)))), .d (.v (.int .i64 v_z751)), dd, dd, dd, dd, dd, dd, dd, dd, dd, dd, dd, dd, dd, dd, dd, dd, dd, dd, dd, dd, dd, dd, dd, dd, dd, dd, dd, dd, dd, dd, dd, dd, dd, dd, dd, dd, dd, dd, dd, dd, dd, dd, dd, dd, dd, dd, dd, dd, dd, dd, dd, dd, dd, dd, dd, dd, dd, dd, dd, dd, dd, .d (.v (.bool (v_z752 == 1))), dd, dd, dd, dd, dd, dd, dd, dd, dd, dd, dd, dd, dd, dd, dd, dd, dd, dd, dd, dd, dd, dd, dd, dd, dd, dd, dd, dd, dd, dd, dd, dd, dd, dd, dd, dd, dd, dd, dd, dd, dd, dd, dd, dd, dd, dd, dd, dd, dd, dd, dd, dd, dd, dd, dd, dd, dd, dd, dd, dd, dd, dd, dd, dd, dd, dd, dd, dd, dd, dd, dd, dd], [.gh 0 (.srf 1), .row 207 4 (v_z753.map eS_oom_Task)]⟩
def G_slices_pdqsortCmpFunc_oom_Task_h_C3 (n : Nat) (v_a144 : Int) (v_b145 : Int) (v_z739 : Int) (v_cmp143 : (S_oom_Task → S_oom_Task → Option (Int))) (v_wasBalanced147 : Bool) (v_wasPartitioned148 : Bool) (v_z751 : Int) (v_z752 : Int) (v_z753 : (List S_oom_Task)) : Option G_slices_pdqsortCmpFunc_oom_Task_h_C3_R :=
  if v_z752 = 1 then
   (G_slices_partialInsertionSortCmpFunc_oom_Task_h n v_z753 v_a144 v_b145 v_cmp143).bind fun (v_r755 : (Bool × (List S_oom_Task))) =>
   if v_r755.1 = true then
    some (.x0 v_r755.2)
   else
    some (.x1 v_r755.2)
  else
   some (.x1 v_z753)
theorem G_slices_pdqsortCmpFunc_oom_Task_h_C3_ok {Fi : Ex → PS → Prop} (hF : KC 148 Fi) (ks : List Fr) (n : Nat) (v_a144 : Int) (v_b145 : Int) (v_z739 : Int) (v_cmp143 : (S_oom_Task → S_oom_Task → Option (Int))) (v_wasBalanced147 : Bool) (v_wasPartitioned148 : Bool) (v_z751 : Int) (v_z752 : Int) (v_z753 : (List S_oom_Task)) (v_cmp143_g : FuncId) (v_cmp143_c : (List PV)) (v_cmp143_h : ∀ (x0 : S_oom_Task) (x1 : S_oom_Task) (r : Int), v_cmp143 x0 x1 = some r → Ret Try.prog v_cmp143_g ([eS_oom_Task x0, eS_oom_Task x1] ++ v_cmp143_c) ((eI .i64) r)) (o : G_slices_pdqsortCmpFunc_oom_Task_h_C3_R) (h : G_slices_pdqsortCmpFunc_oom_Task_h_C3 n v_a144 v_b145 v_z739 v_cmp143 v_wasBalanced147 v_wasPartitioned148 v_z751 v_z752 v_z753 = some o) (q : RunE Try.prog 148 Fi ks (G_slices_pdqsortCmpFunc_oom_Task_h_C3_ex o) (G_slices_pdqsortCmpFunc_oom_Task_h_C3_st v_a144 v_b145 v_z739 v_cmp143 v_wasBalanced147 v_wasPartitioned148 v_z751 v_z752 v_z753 v_cmp143_g v_cmp143_c o)) : RunE Try.prog 148 Fi (.s (cR (cL (cR (cR (cR (cR (cR (cR (cB (cP (cB (cR (cR (bodyOf Try.f264)))))))))))))) :: ks) .normal (G_slices_pdqsortCmpFunc_oom_Task_h_C3_hd v_a144 v_b145 v_z739 v_cmp143 v_wasBalanced147 v_wasPartitioned148 v_z751 v_z752 v_z753 v_cmp143_g v_cmp143_c) := by
  unfold G_slices_pdqsortCmpFunc_oom_Task_h_C3 at h
  by_cases h840 : v_z752 = 1
  · rw [if_pos h840] at h
    obtain ⟨v_r755, h841, h⟩ := bind_some h
    by_cases h842 : v_r755.1 = true
    · rw [if_pos h842] at h
      cases h
      exact pkk_sound TTok mix hF 5 (hs := [.t true, .h [1] [] [.row 207 4 (v_r755.2.map eS_oom_Task)] (.d (.v (.bool v_r755.1))), .t true]) (ts := []) (s := [0, 1]) (l := []) (by kernel_rfl) (by kernel_rfl) (.cons (bt h840) (.cons (G_slices_partialInsertionSortCmpFunc_oom_Task_h_ok n v_z753 v_a144 v_b145 v_cmp143 v_cmp143_g v_cmp143_c v_cmp143_h _ h841) (.cons h842 .nil))) q
    · rw [if_neg h842] at h
      cases h
      exact pkk_sound TTok mix hF 5 (hs := [.t true, .h [1] [] [.row 207 4 (v_r755.2.map eS_oom_Task)] (.d (.v (.bool v_r755.1))), .t false]) (ts := []) (s := [0, 1]) (l := [0, 1, 2, 3, 4, 10, 11, 12, 13]) (by kernel_rfl) (by kernel_rfl) (.cons (bt h840) (.cons (G_slices_partialInsertionSortCmpFunc_oom_Task_h_ok n v_z753 v_a144 v_b145 v_cmp143 v_cmp143_g v_cmp143_c v_cmp143_h _ h841) (.cons (vf h842) .nil))) q
  · rw [if_neg h840] at h
    cases h
    exact pkk_sound TTok mix hF 2 (hs := [.t false]) (ts := []) (s := [0, 1]) (l := [0, 1, 2, 3, 4, 10, 11, 12, 13]) (by kernel_rfl) (by kernel_rfl) (.cons (bf h840) .nil) q
inductive G_slices_pdqsortCmpFunc_oom_Task_h_C4_R where
  | x0 (v_x769 : Bool) (v_w770 : (List S_oom_Task))
def G_slices_pdqsortCmpFunc_oom_Task_h_C4_ex : G_slices_pdqsortCmpFunc_oom_Task_h_C4_R → Ex
  | .x0 _ _ => .normal
def G_slices_pdqsortCmpFunc_oom_Task_h_C4_st (v_a144 : Int) (v_b145 : Int) (v_z739 : Int) (v_cmp143 : (S_oom_Task → S_oom_Task → Option (Int))) (v_wasBalanced147 : Bool) (v_wasPartitioned148 : Bool) (v_z751 : Int) (v_z762 : (List S_oom_Task)) (v_cmp143_g : FuncId) (v_cmp143_c : (List PV)) : G_slices_pdqsortCmpFunc_oom_Task_h_C4_R → PS
  | .x0 v_x769 v_w770 => ⟨[.srf 1, .d (.v (.int .i64 v_a144)), .d (.v (.int .i64 v_b145)), .d (.v (.int .i64 v_z739)), .d (.clo v_cmp143_g v_cmp143_c), dd, dd, dd, dd, dd, .d (.v (.bool v_wasBalanced147)), .d (.v (.bool v_wasPartitioned148)), .d (.v (.int .i64 (wi .i64 (v_b145 - v_a144)))), .d (.v (.int .i64 v_z751)), dd, dd, dd, dd, dd, dd, dd, dd, dd, dd, dd, dd, dd, dd, dd, dd, dd, dd, dd, dd, dd, dd, dd, dd, dd, dd, dd, dd, dd, dd, dd, dd, dd, dd, dd, dd, dd, dd, dd, dd, dd, dd, dd, dd, dd, dd, dd, dd, dd, dd, dd, dd, dd, dd, dd, dd, dd, dd, dd, dd, dd, dd, dd, dd, dd, dd, dd, dd, dd, dd, dd, dd, dd, dd, dd, dd, dd, dd, dd, dd, dd, dd, dd, .d (.v (.bool v_x769)), dd, dd, dd, dd, dd, dd, dd, dd, dd, dd, dd, dd, dd, dd, dd, dd, dd, dd, dd, dd, dd, dd, dd, dd, dd, dd, dd, dd, dd, dd, dd, dd, dd, dd, dd, dd, dd, dd, dd, dd, dd, dd, dd, dd, dd, dd, dd, dd, dd, dd], [.gh 0 (.srf 1), .row 207 4 (v_w770.map eS_oom_Task)]⟩
def G_slices_pdqsortCmpFunc_oom_Task_h_C4_hd (v_a144 : Int) (v_b145 : Int) (v_z739 : Int) (v_cmp143 : (S_oom_Task → S_oom_Task → Option (Int))) (v_wasBalanced147 : Bool) (v_wasPartitioned148 : Bool) (v_z751 : Int) (v_z762 : (List S_oom_Task)) (v_cmp143_g : FuncId) (v_cmp143_c : (List PV))  : PS := ⟨[.srf 1, .d (.v (.int .i64 v_a144)), .d (.v (.int .i64 v_b145)), .d (.v (.int .i64 v_z739)), .d (.clo v_cmp143_g v_cmp143_c), dd, dd, dd, dd, dd, .d (.v (.bool v_wasBalanced147)), .d (.v (.bool v_wasPartitioned148)), .d (.v (.int .i64 (wi .i64 (v_b145 - v_a144)))), .d (.v (.int .i64 v_z751)), dd, dd, dd, dd, dd, dd, dd, dd, dd, dd, dd, dd, dd, dd, dd, dd, dd, dd, dd, dd, dd, dd, dd, dd, dd, dd, dd, dd, dd, dd, dd, dd, dd, dd, dd, dd, dd, dd, dd, dd, dd, dd, dd, dd, dd, dd, dd, dd, dd, dd, dd, dd, dd, dd, dd, dd, dd, dd, dd, dd, dd, dd, dd, dd, dd, dd, dd, dd, dd, dd, dd, dd, dd, dd, dd, dd, dd, dd, dd, dd, dd, dd, dd, dd, dd, dd, dd, dd, dd, dd, dd, dd, dd, dd, dd, dd, dd, dd, dd, dd, dd, dd, dd, dd, dd, dd, dd, dd, dd, dd, dd, dd, dd, dd, dd, dd, dd, dd, dd, dd, dd, dd, dd, dd, dd, dd, dd, dd, dd, dd, dd, dd, dd, dd], [.gh 0 (.srf 1), .row 207 4 (v_z762.map eS_oom_Task)]⟩
def G_slices_pdqsortCmpFunc_oom_Task_h_C4 (n : Nat) (v_a144 : Int) (v_b145 : Int) (v_z739 : Int) (v_cmp143 : (S_oom_Task → S_oom_Task → Option (Int))) (v_wasBalanced147 : Bool) (v_wasPartitioned148 : Bool) (v_z751 : Int) (v_z762 : (List S_oom_Task)) : Option G_slices_pdqsortCmpFunc_oom_Task_h_C4_R :=
  if v_a144 > 0 then
   if 0 ≤ (wi .i64 (v_a144 - 1)) ∧ ((wi .i64 (v_a144 - 1))).toNat < v_z762.length then
    (v_z762[((wi .i64 (v_a144 - 1))).toNat]?).bind fun (v_y766 : S_oom_Task) =>
    if 0 ≤ v_z751 ∧ (v_z751).toNat < v_z762.length then
     (v_z762[(v_z751).toNat]?).bind fun (v_y767 : S_oom_Task) =>
     (v_cmp143 v_y766 v_y767).bind fun (v_r768 : (Int)) =>
     some (.x0 (!(decide (v_r768 < 0))) v_z762)
    else none
   else none
  else
   some (.x0 false v_z762)
theorem G_slices_pdqsortCmpFunc_oom_Task_h_C4_ok {Fi : Ex → PS → Prop} (hF : KC 148 Fi) (ks : List Fr) (n : Nat) (v_a144 : Int) (v_b145 : Int) (v_z739 : Int) (v_cmp143 : (S_oom_Task → S_oom_Task → Option (Int))) (v_wasBalanced147 : Bool) (v_wasPartitioned148 : Bool) (v_z751 : Int) (v_z762 : (List S_oom_Task)) (v_cmp143_g : FuncId) (v_cmp143_c : (List PV)) (v_cmp143_h : ∀ (x0 : S_oom_Task) (x1 : S_oom_Task) (r : Int), v_cmp143 x0 x1 = some r → Ret Try.prog v_cmp143_g ([eS_oom_Task x0, eS_oom_Task x1] ++ v_cmp143_c) ((eI .i64) r)) (o : G_slices_pdqsortCmpFunc_oom_Task_h_C4_R) (h : G_slices_pdqsortCmpFunc_oom_Task_h_C4 n v_a144 v_b145 v_z739 v_cmp143 v_wasBalanced147 v_wasPartitioned148 v_z751 v_z762 = some o) (q : RunE Try.prog 148 Fi ks (G_slices_pdqsortCmpFunc_oom_Task_h_C4_ex o) (G_slices_pdqsortCmpFunc_oom_Task_h_C4_st v_a144 v_b145 v_z739 v_cmp143 v_wasBalanced147 v_wasPartitioned148 v_z751 v_z762 v_cmp143_g v_cmp143_c o)) : RunE Try.prog 148 Fi (.s (cL (cL (cR (cR (cR (cR (cR (cR (cR (cB (cP (cB (cR (cR (bodyOf Try.f264))))))))))))))) :: ks) .normal (G_slices_pdqsortCmpFunc_oom_Task_h_C4_hd v_a144 v_b145 v_z739 v_cmp143 v_wasBalanced147 v_wasPartitioned148 v_z751 v_z762 v_cmp143_g v_cmp143_c) := by
  unfold G_slices_pdqsortCmpFunc_oom_Task_h_C4 at h
  by_cases h850 : v_a144 > 0
  · rw [if_pos h850] at h
    by_cases h851 : 0 ≤ (wi .i64 (v_a144 - 1)) ∧ ((wi .i64 (v_a144 - 1))).toNat < v_z762.length
    · rw [if_pos h851] at h
      obtain ⟨v_y766, h852, h⟩ := bind_some h
      by_cases h853 : 0 ≤ v_z751 ∧ (v_z751).toNat < v_z762.length
      · rw [if_pos h853] at h
        obtain ⟨v_y767, h854, h⟩ := bind_some h
        obtain ⟨v_r768, h855, h⟩ := bind_some h
        cases h
        exact pkk_sound TTok mix hF 1 (hs := [.t true, .c, .c, .c, .c, .c, .y (eS_oom_Task v_y766), .c, .c, .c, .c, .y (eS_oom_Task v_y767), .c, .r ((eI .i64) v_r768), .c, .c]) (ts := []) (s := [0, 1]) (l := [0, 1, 2, 3, 4, 10, 11, 12, 13, 97]) (by kernel_rfl) (by kernel_rfl) (.cons (dt h850) (.cons (idx_ob (f := eS_oom_Task) h851) (.cons (get_ob (f := eS_oom_Task) h852) (.cons (idx_ob (f := eS_oom_Task) h853) (.cons (get_ob (f := eS_oom_Task) h854) (.cons (v_cmp143_h v_y766 v_y767 _ h855) .nil)))))) q
      · rw [if_neg h853] at h; cases h
    · rw [if_neg h851] at h; cases h
  · rw [if_neg h850] at h
    cases h
    exact pkk_sound TTok mix hF 1 (hs := [.t false, .c, .c, .c, .c, .c, .c, .c, .c, .c, .c, .c, .c]) (ts := []) (s := [0, 1]) (l := [0, 1, 2, 3, 4, 10, 11, 12, 13, 97]) (by kernel_rfl) (by kernel_rfl) (.cons (df h850) .nil) q
inductive G_slices_pdqsortCmpFunc_oom_Task_h_C5_R where
  | x0 (v_x807 : Bool) (v_w808 : (List S_oom_Task))
def G_slices_pdqsortCmpFunc_oom_Task_h_C5_ex : G_slices_pdqsortCmpFunc_oom_Task_h_C5_R → Ex
  | .x0 _ _ => .normal
def G_slices_pdqsortCmpFunc_oom_Task_h_C5_st (v_a144 : Int) (v_b145 : Int) (v_z739 : Int) (v_cmp143 : (S_oom_Task → S_oom_Task → Option (Int))) (v_wasBalanced147 : Bool) (v_wasPartitioned148 : Bool) (v_z751 : Int) (v_z753 : (List S_oom_Task)) (v_cmp143_g : FuncId) (v_cmp143_c : (List PV)) : G_slices_pdqsortCmpFunc_oom_Task_h_C5_R → PS
  | .x0 v_x807 v_w808 => ⟨[.srf 1, .d (.v (.int .i64 v_a144)), .d (.v (.int .i64 v_b145)), .d (.v (.int .i64 v_z739)), .d (.clo v_cmp143_g v_cmp143_c), dd, dd, dd, dd, dd, .d (.v (.bool v_wasBalanced147)), .d (.v (.bool v_wasPartitioned148)), .d (.v (.int .i64 (wi .i64 (v_b145 - v_a144)))), .d (.v (.int .i64 v_z751)), dd, dd, dd, dd, dd, dd, dd, dd, dd, dd, dd, dd, dd, dd, dd, dd, dd, dd, dd, dd, dd, dd, dd, dd, dd, dd, dd, dd, dd, dd, dd, dd, dd, dd, dd, dd, dd, dd, dd, dd, dd, dd, dd, dd, dd, dd, dd, dd, dd, dd, dd, dd, dd, dd, dd, dd, dd, dd, dd, dd, dd, dd, dd, dd, dd, dd, dd, dd, dd, dd, dd, dd, dd, dd, dd, dd, dd, dd, dd, dd, dd, dd, dd, .d (.v (.bool v_x807)), dd, dd, dd, dd, dd, dd, dd, dd, dd, dd, dd, dd, dd, dd, dd, dd, dd, dd, dd, dd, dd, dd, dd, dd, dd, dd, dd, dd, dd, dd, dd, dd, dd, dd, dd, dd, dd, dd, dd, dd, dd, dd, dd, dd, dd, dd, dd, dd, dd, dd], [.gh 0 (.srf 1), .row 207 4 (v_w808.map eS_oom_Task)]⟩
def G_slices_pdqsortCmpFunc_oom_Task_h_C5_hd (v_a144 : Int) (v_b145 : Int) (v_z739 : Int) (v_cmp143 : (S_oom_Task → S_oom_Task → Option (Int))) (v_wasBalanced147 : Bool) (v_wasPartitioned148 : Bool) (v_z751 : Int) (v_z753 : (List S_oom_Task)) (v_cmp143_g : FuncId) (v_cmp143_c : (List PV))  : PS := ⟨[.srf 1, .d (.v (.int .i64 v_a144)), .d (.v (.int .i64 v_b145)), .d (.v (.int .i64 v_z739)), .d (.clo v_cmp143_g v_cmp143_c), dd, dd, dd, dd, dd, .d (.v (.bool v_wasBalanced147)), .d (.v (.bool v_wasPartitioned148)), .d (.v (.int .i64 (wi .i64 (v_b145 - v_a144)))), .d (.v (.int .i64 v_z751)), dd, dd, dd, dd, dd, dd, dd, dd, dd, dd, dd, dd, dd, dd, dd, dd, dd, dd, dd, dd, dd, dd, dd, dd, dd, dd, dd, dd, dd, dd, dd, dd, dd, dd, dd, dd, dd, dd, dd, dd, dd, dd, dd, dd, dd, dd, dd, dd, dd, dd, dd, dd, dd, dd, dd, dd, dd, dd, dd, dd, dd, dd, dd, dd, dd, dd, dd, dd, dd, dd, dd, dd, dd, dd, dd, dd, dd, dd, dd, dd, dd, dd, dd, dd, dd, dd, dd, dd, dd, dd, dd, dd, dd, dd, dd, dd, dd, dd, dd, dd, dd, dd, dd, dd, dd, dd, dd, dd, dd, dd, dd, dd, dd, dd, dd, dd, dd, dd, dd, dd, dd, dd, dd, dd, dd, dd, dd, dd, dd, dd, dd, dd, dd, dd], [.gh 0 (.srf 1), .row 207 4 (v_z753.map eS_oom_Task)]⟩
def G_slices_pdqsortCmpFunc_oom_Task_h_C5 (n : Nat) (v_a144 : Int) (v_b145 : Int) (v_z739 : Int) (v_cmp143 : (S_oom_Task → S_oom_Task → Option (Int))) (v_wasBalanced147 : Bool) (v_wasPartitioned148 : Bool) (v_z751 : Int) (v_z753 : (List S_oom_Task)) : Option G_slices_pdqsortCmpFunc_oom_Task_h_C5_R :=
  if v_a144 > 0 then
   if 0 ≤ (wi .i64 (v_a144 - 1)) ∧ ((wi .i64 (v_a144 - 1))).toNat < v_z753.length then
    (v_z753[((wi .i64 (v_a144 - 1))).toNat]?).bind fun (v_y804 : S_oom_Task) =>
    if 0 ≤ v_z751 ∧ (v_z751).toNat < v_z753.length then
     (v_z753[(v_z751).toNat]?).bind fun (v_y805 : S_oom_Task) =>
     (v_cmp143 v_y804 v_y805).bind fun (v_r806 : (Int)) =>
     some (.x0 (!(decide (v_r806 < 0))) v_z753)
    else none
   else none
  else
   some (.x0 false v_z753)
theorem G_slices_pdqsortCmpFunc_oom_Task_h_C5_ok {Fi : Ex → PS → Prop} (hF : KC 148 Fi) (ks : List Fr) (n : Nat) (v_a144 : Int) (v_b145 : Int) (v_z739 : Int) (v_cmp143 : (S_oom_Task → S_oom_Task → Option (Int))) (v_wasBalanced147 : Bool) (v_wasPartitioned148 : Bool) (v_z751 : Int) (v_z753 : (List S_oom_Task)) (v_cmp143_g : FuncId) (v_cmp143_c : (List PV)) (v_cmp143_h : ∀ (x0 : S_oom_Task) (x1 : S_oom_Task) (r : Int), v_cmp143 x0 x1 = some r → Ret Try.prog v_cmp143_g ([eS_oom_Task x0, eS_oom_Task x1] ++ v_cmp143_c) ((eI .i64) r)) (o : G_slices_pdqsortCmpFunc_oom_Task_h_C5_R) (h : G_slices_pdqsortCmpFunc_oom_Task_h_C5 n v_a144 v_b145 v_z739 v_cmp143 v_wasBalanced147 v_wasPartitioned148 v_z751 v_z753 = some o) (q : RunE Try.prog 148 Fi ks (G_slices_pdqsortCmpFunc_oom_Task_h_C5_ex o) (G_slices_pdqsortCmpFunc_oom_Task_h_C5_st v_a144 v_b145 v_z739 v_cmp143 v_wasBalanced147 v_wasPartitioned148 v_z751 v_z753 v_cmp143_g v_cmp143_c o)) : RunE Try.prog 148 Fi (.s (cL (cL (cR (cR (cR (cR (cR (cR (cR (cB (cP (cB (cR (cR (bodyOf Try.f264))))))))))))))) :: ks) .normal (G_slices_pdqsortCmpFunc_oom_Task_h_C5_hd v_a144 v_b145 v_z739 v_cmp143 v_wasBalanced147 v_wasPartitioned148 v_z751 v_z753 v_cmp143_g v_cmp143_c) := by
  unfold G_slices_pdqsortCmpFunc_oom_Task_h_C5 at h
  by_cases h875 : v_a144 > 0
  · rw [if_pos h875] at h
    by_cases h876 : 0 ≤ (wi .i64 (v_a144 - 1)) ∧ ((wi .i64 (v_a144 - 1))).toNat < v_z753.length
    · rw [if_pos h876] at h
      obtain ⟨v_y804, h877, h⟩ := bind_some h
      by_cases h878 : 0 ≤ v_z751 ∧ (v_z751).toNat < v_z753.length
      · rw [if_pos h878] at h
        obtain ⟨v_y805, h879, h⟩ := bind_some h
        obtain ⟨v_r806, h880, h⟩ := bind_some h
        cases h
        exact pkk_sound TTok mix hF 1 (hs := [.t true, .c, .c, .c, .c, .c, .y (eS_oom_Task v_y804), .c, .c, .c, .c, .y (eS_oom_Task v_y805), .c, .r ((eI .i64) v_r806), .c, .c]) (ts := []) (s := [0, 1]) (l := [0, 1, 2, 3, 4, 10, 11, 12, 13, 97]) (by kernel_rfl) (by kernel_rfl) (.cons (dt h875) (.cons (idx_ob (f := eS_oom_Task) h876) (.cons (get_ob (f := eS_oom_Task) h877) (.cons (idx_ob (f := eS_oom_Task) h878) (.cons (get_ob (f := eS_oom_Task) h879) (.cons (v_cmp143_h v_y804 v_y805 _ h880) .nil)))))) q
      · rw [if_neg h878] at h; cases h
    · rw [if_neg h876] at h; cases h
  · rw [if_neg h875] at h
    cases h
    exact pkk_sound TTok mix hF 1 (hs := [.t false, .c, .c, .c, .c, .c, .c, .c, .c, .c, .c, .c, .c]) (ts := []) (s := [0, 1]) (l := [0, 1, 2, 3, 4, 10, 11, 12, 13, 97]) (by kernel_rfl) (by kernel_rfl) (.cons (df h875) .nil) q
inductive G_slices_pdqsortCmpFunc_oom_Task_h_C6_R where
  | x0 (v_x845 : Bool) (v_w846 : (List S_oom_Task))
def G_slices_pdqsortCmpFunc_oom_Task_h_C6_ex : G_slices_pdqsortCmpFunc_oom_Task_h_C6_R → Ex
  | .x0 _ _ => .normal
def G_slices_pdqsortCmpFunc_oom_Task_h_C6_st (v_a144 : Int) (v_b145 : Int) (v_z739 : Int) (v_cmp143 : (S_oom_Task → S_oom_Task → Option (Int))) (v_wasBalanced147 : Bool) (v_wasPartitioned148 : Bool) (v_z751 : Int) (v_z753 : (List S_oom_Task)) (v_cmp143_g : FuncId) (v_cmp143_c : (List PV)) : G_slices_pdqsortCmpFunc_oom_Task_h_C6_R → PS
  | .x0 v_x845 v_w846 => ⟨[.srf 1, .d (.v (.int .i64 v_a144)), .d (.v (.int .i64 v_b145)), .d (.v (.int .i64 v_z739)), .d (.clo v_cmp143_g v_cmp143_c), dd, dd, dd, dd, dd, .d (.v (.bool v_wasBalanced147)), .d (.v (.bool v_wasPartitioned148)), .d (.v (.int .i64 (wi .i64 (v_b145 - v_a144)))), .d (.v (.int .i64 v_z751)), dd, dd, dd, dd, dd, dd, dd, dd, dd, dd, dd, dd, dd, dd, dd, dd, dd, dd, dd, dd, dd, dd, dd, dd, dd, dd, dd, dd, dd, dd, dd, dd, dd, dd, dd, dd, dd, dd, dd, dd, dd, dd, dd, dd, dd, dd, dd, dd, dd, dd, dd, dd, dd, dd, dd, dd, dd, dd, dd, dd, dd, dd, dd, dd, dd, dd, dd, dd, dd, dd, dd, dd, dd, dd, dd, dd, dd, dd, dd, dd, dd, dd, dd, .d (.v (.bool v_x845)), dd, dd, dd, dd, dd, dd, dd, dd, dd, dd, dd, dd, dd, dd, dd, dd, dd, dd, dd, dd, dd, dd, dd, dd, dd, dd, dd, dd, dd, dd, dd, dd, dd, dd, dd, dd, dd, dd, dd, dd, dd, dd, dd, dd, dd, dd, dd, dd, dd, dd], [.gh 0 (.srf 1), .row 207 4 (v_w846.map eS_oom_Task)]⟩
def G_slices_pdqsortCmpFunc_oom_Task_h_C6_hd (v_a144 : Int) (v_b145 : Int) (v_z739 : Int) (v_cmp143 : (S_oom_Task → S_oom_Task → Option (Int))) (v_wasBalanced147 : Bool) (v_wasPartitioned148 : Bool) (v_z751 : Int) (v_z753 : (List S_oom_Task)) (v_cmp143_g : FuncId) (v_cmp143_c : (List PV))  : PS := ⟨[.srf 1, .d (.v (.int .i64 v_a144)), .d (.v (.int .i64 v_b145)), .d (.v (.int .i64 v_z739)), .d (.clo v_cmp143_g v_cmp143_c), dd, dd, dd, dd, dd, .d (.v (.bool v_wasBalanced147)), .d (.v (.bool v_wasPartitioned148)), .d (.v (.int .i64 (wi .i64 (v_b145 - v_a144)))), .d (.v (.int .i64 v_z751)), dd, dd, dd, dd, dd, dd, dd, dd, dd, dd, dd, dd, dd, dd, dd, dd, dd, dd, dd, dd, dd, dd, dd, dd, dd, dd, dd, dd, dd, dd, dd, dd, dd, dd, dd, dd, dd, dd, dd, dd, dd, dd, dd, dd, dd, dd, dd, dd, dd, dd, dd, dd, dd, dd, dd, dd, dd, dd, dd, dd, dd, dd, dd, dd, dd, dd, dd, dd, dd, dd, dd, dd, dd, dd, dd, dd, dd, dd, dd, dd, dd, dd, dd, dd, dd, dd, dd, dd, dd, dd, dd, dd, dd, dd, dd, dd, dd, dd, dd, dd, dd, dd, dd, dd, dd, dd, dd, dd, dd, dd, dd, dd, dd, dd, dd, dd, dd, dd, dd, dd, dd, dd, dd, dd, dd, dd, dd, dd, dd, dd, dd, dd, dd, dd], [.gh 0 (.srf 1), .row 207 4 (v_z753.map eS_oom_Task)]⟩
def G_slices_pdqsortCmpFunc_oom_Task_h_C6 (n : Nat) (v_a144 : Int) (v_b145 : Int) (v_z739 : Int) (v_cmp143 : (S_oom_Task → S_oom_Task → Option (Int))) (v_wasBalanced147 : Bool) (v_wasPartitioned148 : Bool) (v_z751 : Int) (v_z753 : (List S_oom_Task)) : Option G_slices_pdqsortCmpFunc_oom_Task_h_C6_R :=
  if v_a144 > 0 then
   if 0 ≤ (wi .i64 (v_a144 - 1)) ∧ ((wi .i64 (v_a144 - 1))).toNat < v_z753.length then
    (v_z753[((wi .i64 (v_a144 - 1))).toNat]?).bind fun (v_y842 : S_oom_Task) =>
    if 0 ≤ v_z751 ∧ (v_z751).toNat < v_z753.length then
     (v_z753[(v_z751).toNat]?).bind fun (v_y843 : S_oom_Task) =>
     (v_cmp143 v_y842 v_y843).bind fun (v_r844 : (Int)) =>
     some (.x0 (!(decide (v_r844 < 0))) v_z753)
    else none
   else none
  else
   some (.x0 false v_z753)
theorem G_slices_pdqsortCmpFunc_oom_Task_h_C6_ok {Fi : Ex → PS → Prop} (hF : KC 148 Fi) (ks : List Fr) (n : Nat) (v_a144 : Int) (v_b145 : Int) (v_z739 : Int) (v_cmp143 : (S_oom_Task → S_oom_Task → Option (Int))) (v_wasBalanced147 : Bool) (v_wasPartitioned148 : Bool) (v_z751 : Int) (v_z753 : (List S_oom_Task)) (v_cmp143_g : FuncId) (v_cmp143_c : (List PV)) (v_cmp143_h : ∀ (x0 : S_oom_Task) (x1 : S_oom_Task) (r : Int), v_cmp143 x0 x1 = some r → Ret Try.prog v_cmp143_g ([eS_oom_Task x0, eS_oom_Task x1] ++ v_cmp143_c) ((eI .i64) r)) (o : G_slices_pdqsortCmpFunc_oom_Task_h_C6_R) (h : G_slices_pdqsortCmpFunc_oom_Task_h_C6 n v_a144 v_b145 v_z739 v_cmp143 v_wasBalanced147 v_wasPartitioned148 v_z751 v_z753 = some o) (q : RunE Try.prog 148 Fi ks (G_slices_pdqsortCmpFunc_oom_Task_h_C6_ex o) (G_slices_pdqsortCmpFunc_oom_Task_h_C6_st v_a144 v_b145 v_z739 v_cmp143 v_wasBalanced147 v_wasPartitioned148 v_z751 v_z753 v_cmp143_g v_cmp143_c o)) : RunE Try.prog 148 Fi (.s (cL (cL (cR (cR (cR (cR (cR (cR (cR (cB (cP (cB (cR (cR (bodyOf Try.f264))))))))))))))) :: ks) .normal (G_slices_pdqsortCmpFunc_oom_Task_h_C6_hd v_a144 v_b145 v_z739 v_cmp143 v_wasBalanced147 v_wasPartitioned148 v_z751 v_z753 v_cmp143_g v_cmp143_c) := by
  unfold G_slices_pdqsortCmpFunc_oom_Task_h_C6 at h
  by_cases h900 : v_a144 > 0
  · rw [if_pos h900] at h
    by_cases h901 : 0 ≤ (wi .i64 (v_a144 - 1)) ∧ ((wi .i64 (v_a144 - 1))).toNat < v_z753.length
    · rw [if_pos h901] at h
      obtain ⟨v_y842, h902, h⟩ := bind_some h
      by_cases h903 : 0 ≤ v_z751 ∧ (v_z751).toNat < v_z753.length
      · rw [if_pos h903] at h
        obtain ⟨v_y843, h904, h⟩ := bind_some h
        obtain ⟨v_r844, h905, h⟩ := bind_some h
        cases h
        exact pkk_sound TTok mix hF 1 (hs := [.t true, .c, .c, .c, .c, .c, .y (eS_oom_Task v_y842), .c, .c, .c, .c, .y (eS_oom_Task v_y843), .c, .r ((eI .i64) v_r844), .c, .c]) (ts := []) (s := [0, 1]) (l := [0, 1, 2, 3, 4, 10, 11, 12, 13, 97]) (by kernel_rfl) (by kernel_rfl) (.cons (dt h900) (.cons (idx_ob (f := eS_oom_Task) h901) (.cons (get_ob (f := eS_oom_Task) h902) (.cons (idx_ob (f := eS_oom_Task) h903) (.cons (get_ob (f := eS_oom_Task) h904) (.cons (v_cmp143_h v_y842 v_y843 _ h905) .nil)))))) q
      · rw [if_neg h903] at h; cases h
    · rw [if_neg h901] at h; cases h
  · rw [if_neg h900] at h
    cases h
    exact pkk_sound TTok mix hF 1 (hs := [.t false, .c, .c, .c, .c, .c, .c, .c, .c, .c, .c, .c, .c]) (ts := []) (s := [0, 1]) (l := [0, 1, 2, 3, 4, 10, 11, 12, 13, 97]) (by kernel_rfl) (by kernel_rfl) (.cons (df h900) .nil) q
inductive G_slices_pdqsortCmpFunc_oom_Task_h_C7_R where
  | x0 (v_w728 : (List S_oom_Task))
  | x1 (v_a778 : Int) (v_b779 : Int) (v_limit780 : Int) (v_wasBalanced781 : Bool) (v_wasPartitioned782 : Bool) (v_w783 : (List S_oom_Task))
def G_slices_pdqsortCmpFunc_oom_Task_h_C7_ex : G_slices_pdqsortCmpFunc_oom_Task_h_C7_R → Ex
  | .x0 _ => .ret
  | .x1 _ _ _ _ _ _ => .normal
def G_slices_pdqsortCmpFunc_oom_Task_h_C7_st (v_a144 : Int) (v_b145 : Int) (v_limit146 : Int) (v_cmp143 : (S_oom_Task → S_oom_Task → Option (Int))) (v_wasBalanced147 : Bool) (v_wasPartitioned148 : Bool) (v_w149 : (List S_oom_Task)) (v_rec681 : ((List S_oom_Task) → Int → Int → Int → Option ((List S_oom_Task)))) (v_cmp143_g : FuncId) (v_cmp143_c : (List PV)) : G_slices_pdqsortCmpFunc_oom_Task_h_C7_R → PS
  | .x0 v_w728 => ⟨[dd, dd, dd, dd, dd, dd, dd, dd, dd, dd, dd, dd, dd, dd, dd, dd, dd, dd, dd, dd, dd, dd, dd, dd, dd, dd, dd, dd, dd, dd, dd, dd, dd, dd, dd, dd, dd, dd, dd, dd, dd, dd, dd, dd, dd, dd, dd, dd, dd, dd, dd, dd, dd, dd, dd, dd, dd, dd, dd, dd, dd, dd, dd, dd, dd, dd, dd, dd, dd, dd, dd, dd, dd, dd, dd, dd, dd, dd, dd, dd, dd, dd, dd, dd, dd, dd, dd, dd, dd, dd, dd, dd, dd, dd, dd, dd, dd, dd, dd, dd, dd, dd, dd, dd, dd, dd, dd, dd, dd, dd, dd, dd, dd, dd, dd, dd, dd, dd, dd, dd, dd, dd, dd, dd, dd, dd, dd, dd, dd, dd, dd, dd, dd, dd, dd, dd, dd, dd, dd, dd, dd, dd, dd, dd, dd, dd, dd, dd], [.gh 0 (.srf 1), .row 207 4 (v_w728.map eS_oom_Task)]⟩
  | .x1 v_a778 v_b779 v_limit780 v_wasBalanced781 v_wasPartitioned782 v_w783 => ⟨[.srf 1, .d (.v (.int .i64 v_a778)), .d (.v (.int .i64 v_b779)), .d (.v (.int .i64 v_limit780)), .d (.clo v_cmp143_g v_cmp143_c), dd, dd, dd, dd, dd, .d (.v (.bool v_wasBalanced781)), .d (.v (.bool v_wasPartitioned782)), dd, dd, dd, dd, dd, dd, dd, dd, dd, dd, dd, dd, dd, dd, dd, dd, dd, dd, dd, dd, dd, dd, dd, dd, dd, dd, dd, dd, dd, dd, dd, dd, dd, dd, dd, dd, dd, dd, dd, dd, dd, dd, dd, dd, dd, dd, dd, dd, dd, dd, dd, dd, dd, dd, dd, dd, dd, dd, dd, dd, dd, dd, dd, dd, dd, dd, dd, dd, dd, dd, dd, dd, dd, dd, dd, dd, dd, dd, dd, dd, dd, dd, dd, dd, dd, dd, dd, dd, dd, dd, dd, dd, dd, dd, dd, dd, dd, dd, dd, dd, dd, dd, dd, dd, dd, dd, dd, dd, dd, dd, dd, dd, dd, dd, dd, dd, dd, dd, dd, dd, dd, dd, dd, dd, dd, dd, dd, dd, dd, dd, dd, dd, dd, dd, dd, dd], [.gh 0 (.srf 1), .row 207 4 (v_w783.map eS_oom_Task)]⟩
def G_slices_pdqsortCmpFunc_oom_Task_h_C7_hd (v_a144 : Int) (v_b145 : Int) (v_limit146 : Int) (v_cmp143 : (S_oom_Task → S_oom_Task → Option (Int))) (v_wasBalanced147 : Bool) (v_wasPartitioned148 : Bool) (v_w149 : (List S_oom_Task)) (v_rec681 : ((List S_oom_Task) → Int → Int → Int → Option ((List S_oom_Task)))) (v_cmp143_g : FuncId) (v_cmp143_c : (List PV))  : PS := ⟨[.srf 1, .d (.v (.int .i64 v_a144)), .d (.v (.int .i64 v_b145)), .d (.v (.int .i64 v_limit146)), .d (.clo v_cmp143_g v_cmp143_c), dd, dd, dd, dd, dd, .d (.v (.bool v_wasBalanced147)), .d (.v (.bool v_wasPartitioned148)), dd, dd, dd, dd, dd, dd, dd, dd, dd, dd, dd, dd, dd, dd, dd, dd, dd, dd, dd, dd, dd, dd, dd, dd, dd, dd, dd, dd, dd, dd, dd, dd, dd, dd, dd, dd, dd, dd, dd, dd, dd, dd, dd, dd, dd, dd, dd, dd, dd, dd, dd, dd, dd, dd, dd, dd, dd, dd, dd, dd, dd, dd, dd, dd, dd, dd, dd, dd, dd, dd, dd, dd, dd, dd, dd, dd, dd, dd, dd, dd, dd, dd, dd, dd, dd, dd, dd, dd, dd, dd, dd, dd, dd, dd, dd, dd, dd, dd, dd, dd, dd, dd, dd, dd, dd, dd, dd, dd, dd, dd, dd, dd, dd, dd, dd, dd, dd, dd, dd, dd, dd, dd, dd, dd, dd, dd, dd, dd, dd, dd, dd, dd, dd, dd, dd, dd], [.gh 0 (.srf 1), .row 207 4 (v_w149.map eS_oom_Task)]⟩
def G_slices_pdqsortCmpFunc_oom_Task_h_C7 (n : Nat) (v_a144 : Int) (v_b145 : Int) (v_limit146 : Int) (v_cmp143 : (S_oom_Task → S_oom_Task → Option (Int))) (v_wasBalanced147 : Bool) (v_wasPartitioned148 : Bool) (v_w149 : (List S_oom_Task)) (v_rec681 : ((List S_oom_Task) → Int → Int → Int → Option ((List S_oom_Task)))) : Option G_slices_pdqsortCmpFunc_oom_Task_h_C7_R :=
  if (wi .i64 (v_b145 - v_a144)) ≤ 12 then
   (G_slices_insertionSortCmpFunc_oom_Task_h n v_w149 v_a144 v_b145 v_cmp143).bind fun (v_r727 : ((List S_oom_Task))) =>
   some (.x0 v_r727)
  else
   if v_limit146 = 0 then
    (G_slices_heapSortCmpFunc_oom_Task_h n v_w149 v_a144 v_b145 v_cmp143).bind fun (v_r730 : ((List S_oom_Task))) =>
    some (.x0 v_r730)
   else
    (G_slices_pdqsortCmpFunc_oom_Task_h_C1 n v_a144 v_b145 v_limit146 v_cmp143 v_wasBalanced147 v_wasPartitioned148 v_w149).bind fun v_o738 => match v_o738 with
    | .x0 v_z739 v_z740 =>
      (G_slices_choosePivotCmpFunc_oom_Task n v_z740 v_a144 v_b145 v_cmp143).bind fun (v_r741 : (Int × Int)) =>
      (G_slices_pdqsortCmpFunc_oom_Task_h_C2 n v_a144 v_b145 v_z739 v_cmp143 v_wasBalanced147 v_wasPartitioned148 v_r741 v_z740).bind fun v_o750 => match v_o750 with
      | .x0 v_z751 v_z752 v_z753 =>
        if v_wasBalanced147 = true then
         if v_wasPartitioned148 = true then
          (G_slices_pdqsortCmpFunc_oom_Task_h_C3 n v_a144 v_b145 v_z739 v_cmp143 v_wasBalanced147 v_wasPartitioned148 v_z751 v_z752 v_z753).bind fun v_o759 => match v_o759 with
          | .x0 v_z760 =>
            some (.x0 v_z760)
          | .x1 v_z762 =>
            (G_slices_pdqsortCmpFunc_oom_Task_h_C4 n v_a144 v_b145 v_z739 v_cmp143 v_wasBalanced147 v_wasPartitioned148 v_z751 v_z762).bind fun v_o773 => match v_o773 with
            | .x0 v_z774 v_z775 =>
              if v_z774 = true then
               (G_slices_partitionEqualCmpFunc_oom_Task_h n v_z775 v_a144 v_b145 v_z751 v_cmp143).bind fun (v_r777 : (Int × (List S_oom_Task))) =>
               some (.x1 v_r777.1 v_b145 v_z739 v_wasBalanced147 v_wasPartitioned148 v_r777.2)
              else
               (G_slices_partitionCmpFunc_oom_Task_h n v_z775 v_a144 v_b145 v_z751 v_cmp143).bind fun (v_r784 : (Int × Bool × (List S_oom_Task))) =>
               if (wi .i64 (v_r784.1 - v_a144)) < (wi .i64 (v_b145 - v_r784.1)) then
                (v_rec681 v_r784.2.2 v_a144 v_r784.1 v_z739).bind fun (v_r787 : ((List S_oom_Task))) =>
                some (.x1 (wi .i64 (v_r784.1 + 1)) v_b145 v_z739 (decide ((wi .i64 (v_r784.1 - v_a144)) ≥ (quoI .i64 (wi .i64 (v_b145 - v_a144)) 8))) v_r784.2.1 v_r787)
               else
                (v_rec681 v_r784.2.2 (wi .i64 (v_r784.1 + 1)) v_b145 v_z739).bind fun (v_r794 : ((List S_oom_Task))) =>
                some (.x1 v_a144 v_r784.1 v_z739 (decide ((wi .i64 (v_b145 - v_r784.1)) ≥ (quoI .i64 (wi .i64 (v_b145 - v_a144)) 8))) v_r784.2.1 v_r794)
         else
          (G_slices_pdqsortCmpFunc_oom_Task_h_C5 n v_a144 v_b145 v_z739 v_cmp143 v_wasBalanced147 v_wasPartitioned148 v_z751 v_z753).bind fun v_o811 => match v_o811 with
          | .x0 v_z812 v_z813 =>
            if v_z812 = true then
             (G_slices_partitionEqualCmpFunc_oom_Task_h n v_z813 v_a144 v_b145 v_z751 v_cmp143).bind fun (v_r815 : (Int × (List S_oom_Task))) =>
             some (.x1 v_r815.1 v_b145 v_z739 v_wasBalanced147 v_wasPartitioned148 v_r815.2)
            else
             (G_slices_partitionCmpFunc_oom_Task_h n v_z813 v_a144 v_b145 v_z751 v_cmp143).bind fun (v_r822 : (Int × Bool × (List S_oom_Task))) =>
             if (wi .i64 (v_r822.1 - v_a144)) < (wi .i64 (v_b145 - v_r822.1)) then
              (v_rec681 v_r822.2.2 v_a144 v_r822.1 v_z739).bind fun (v_r825 : ((List S_oom_Task))) =>
              some (.x1 (wi .i64 (v_r822.1 + 1)) v_b145 v_z739 (decide ((wi .i64 (v_r822.1 - v_a144)) ≥ (quoI .i64 (wi .i64 (v_b145 - v_a144)) 8))) v_r822.2.1 v_r825)
             else
              (v_rec681 v_r822.2.2 (wi .i64 (v_r822.1 + 1)) v_b145 v_z739).bind fun (v_r832 : ((List S_oom_Task))) =>
              some (.x1 v_a144 v_r822.1 v_z739 (decide ((wi .i64 (v_b145 - v_r822.1)) ≥ (quoI .i64 (wi .i64 (v_b145 - v_a144)) 8))) v_r822.2.1 v_r832)
        else
         (G_slices_pdqsortCmpFunc_oom_Task_h_C6 n v_a144 v_b145 v_z739 v_cmp143 v_wasBalanced147 v_wasPartitioned148 v_z751 v_z753).bind fun v_o849 => match v_o849 with
         | .x0 v_z850 v_z851 =>
           if v_z850 = true then
            (G_slices_partitionEqualCmpFunc_oom_Task_h n v_z851 v_a144 v_b145 v_z751 v_cmp143).bind fun (v_r853 : (Int × (List S_oom_Task))) =>
            some (.x1 v_r853.1 v_b145 v_z739 v_wasBalanced147 v_wasPartitioned148 v_r853.2)
           else
            (G_slices_partitionCmpFunc_oom_Task_h n v_z851 v_a144 v_b145 v_z751 v_cmp143).bind fun (v_r860 : (Int × Bool × (List S_oom_Task))) =>
            if (wi .i64 (v_r860.1 - v_a144)) < (wi .i64 (v_b145 - v_r860.1)) then
             (v_rec681 v_r860.2.2 v_a144 v_r860.1 v_z739).bind fun (v_r863 : ((List S_oom_Task))) =>
             some (.x1 (wi .i64 (v_r860.1 + 1)) v_b145 v_z739 (decide ((wi .i64 (v_r860.1 - v_a144)) ≥ (quoI .i64 (wi .i64 (v_b145 - v_a144)) 8))) v_r860.2.1 v_r863)
            else
             (v_rec681 v_r860.2.2 (wi .i64 (v_r860.1 + 1)) v_b145 v_z739).bind fun (v_r870 : ((List S_oom_Task))) =>
             some (.x1 v_a144 v_r860.1 v_z739 (decide ((wi .i64 (v_b145 - v_r860.1)) ≥ (quoI .i64 (wi .i64 (v_b145 - v_a144)) 8))) v_r860.2.1 v_r870)
theorem G_slices_pdqsortCmpFunc_oom_Task_h_C7_ok {Fi : Ex → PS → Prop} (hF : KC 148 Fi) (ks : List Fr) (n : Nat) (v_a144 : Int) (v_b145 : Int) (v_limit146 : Int) (v_cmp143 : (S_oom_Task → S_oom_Task → Option (Int))) (v_wasBalanced147 : Bool) (v_wasPartitioned148 : Bool) (v_w149 : (List S_oom_Task)) (v_rec681 : ((List S_oom_Task) → Int → Int → Int → Option ((List S_oom_Task)))) (v_cmp143_g : FuncId) (v_cmp143_c : (List PV)) (v_cmp143_h : ∀ (x0 : S_oom_Task) (x1 : S_oom_Task) (r : Int), v_cmp143 x0 x1 = some r → Ret Try.prog v_cmp143_g ([eS_oom_Task x0, eS_oom_Task x1] ++ v_cmp143_c) ((eI .i64) r)) (v_rec681_h : ∀ (x0 : (List S_oom_Task)) (x1 : Int) (x2 : Int) (x3 : Int) (r : (List S_oom_Task)), v_rec681 x0 x1 x2 x3 = some r → RetH Try.prog 264 [.srf 0, .d ((eI .i64) x1), .d ((eI .i64) x2), .d ((eI .i64) x3), .d ((.clo v_cmp143_g v_cmp143_c))] [.row 207 4 (x0.map eS_oom_Task)] (.tup []) [.row 207 4 (r.map eS_oom_Task)]) (o : G_slices_pdqsortCmpFunc_oom_Task_h_C7_R) (h : G_slices_pdqsortCmpFunc_oom_Task_h_C7 n v_a144 v_b145 v_limit146 v_cmp143 v_wasBalanced147 v_wasPartitioned148 v_w149 v_rec681 = some o) (q : RunE Try.prog 148 Fi ks (G_slices_pdqsortCmpFunc_oom_Task_h_C7_ex o) (G_slices_pdqsortCmpFunc_oom_Task_h_C7_st v_a144 v_b145 v_limit146 v_cmp143 v_wasBalanced147 v_wasPartitioned148 v_w149 v_rec681 v_cmp143_g v_cmp143_c o)) : RunE Try.prog 148 Fi (.s (cP (cB (cR (cR (bodyOf Try.f264))))) :: ks) .normal (G_slices_pdqsortCmpFunc_oom_Task_h_C7_hd v_a144 v_b145 v_limit146 v_cmp143 v_wasBalanced147 v_wasPartitioned148 v_w149 v_rec681 v_cmp143_g v_cmp143_c) := by
  unfold G_slices_pdqsortCmpFunc_oom_Task_h_C7 at h
  by_cases h818 : (wi .i64 (v_b145 - v_a144)) ≤ 12
  · rw [if_pos h818] at h
    obtain ⟨v_r727, h819, h⟩ := bind_some h
    cases h
    exact pkk_sound TTok mix hF 12 (hs := [.t true, .h [1] [] [.row 207 4 (v_r727.map eS_oom_Task)] (.tup [])]) (ts := []) (s := [0, 1]) (l := []) (by kernel_rfl) (by kernel_rfl) (.cons (dt h818) (.cons (G_slices_insertionSortCmpFunc_oom_Task_h_ok n v_w149 v_a144 v_b145 v_cmp143 v_cmp143_g v_cmp143_c v_cmp143_h _ h819) .nil)) q
  · rw [if_neg h818] at h
    by_cases h822 : v_limit146 = 0
    · rw [if_pos h822] at h
      obtain ⟨v_r730, h823, h⟩ := bind_some h
      cases h
      exact pkk_sound TTok mix hF 17 (hs := [.t false, .t true, .h [1] [] [.row 207 4 (v_r730.map eS_oom_Task)] (.tup [])]) (ts := []) (s := [0, 1]) (l := []) (by kernel_rfl) (by kernel_rfl) (.cons (df h818) (.cons (bt h822) (.cons (G_slices_heapSortCmpFunc_oom_Task_h_ok n v_w149 v_a144 v_b145 v_cmp143 v_cmp143_g v_cmp143_c v_cmp143_h _ h823) .nil))) q
    · rw [if_neg h822] at h
      obtain ⟨v_o738, h828, h⟩ := bind_some h
      refine pkk_sound TTok mix hF 16 (hs := [.t false, .t false]) (ts := []) (s := [0, 1]) (l := [0, 1, 2, 3, 4, 10, 11, 12, 39]) (by kernel_rfl) (by kernel_rfl) (.cons (df h818) (.cons (bf h822) .nil)) (G_slices_pdqsortCmpFunc_oom_Task_h_C1_ok hF (.s (cR (cR (cR (cR (cB (cP (cB (cR (cR (bodyOf Try.f264)))))))))) :: .b 1 :: ks) n v_a144 v_b145 v_limit146 v_cmp143 v_wasBalanced147 v_wasPartitioned148 v_w149 v_cmp143_g v_cmp143_c v_cmp143_h _ h828 ?_)
      cases v_o738 with
      | x0 v_z739 v_z740 =>
        try dsimp only at h
        obtain ⟨v_r741, h829, h⟩ := bind_some h
        obtain ⟨v_o750, h834, h⟩ := bind_some h
        refine pkk_sound TTok mix hF 5 (hs := [.c, .r (.tup [(eI .i64) v_r741.1, (eI .i64) v_r741.2])]) (ts := []) (s := [0, 1]) (l := [0, 1, 2, 3, 4, 10, 11, 12, 13, 14, 56]) (by kernel_rfl) (by kernel_rfl) (.cons (G_slices_choosePivotCmpFunc_oom_Task_ok n v_z740 v_a144 v_b145 v_cmp143 v_cmp143_g v_cmp143_c v_cmp143_h _ h829) .nil) (G_slices_pdqsortCmpFunc_oom_Task_h_C2_ok hF (.s (cR (cR (cR (cR (cR (cR (cB (cP (cB (cR (cR (bodyOf Try.f264)))))))))))) :: .b 1 :: ks) n v_a144 v_b145 v_z739 v_cmp143 v_wasBalanced147 v_wasPartitioned148 v_r741 v_z740 v_cmp143_g v_cmp143_c v_cmp143_h _ h834 ?_)
        cases v_o750 with
        | x0 v_z751 v_z752 v_z753 =>
          try dsimp only at h
          by_cases h835 : v_wasBalanced147 = true
          · rw [if_pos h835] at h
            by_cases h836 : v_wasPartitioned148 = true
            · rw [if_pos h836] at h
              obtain ⟨v_o759, h843, h⟩ := bind_some h
              refine pkk_sound TTok mix hF 3 (hs := [.t true, .t true, .c]) (ts := []) (s := [0, 1]) (l := [0, 1, 2, 3, 4, 10, 11, 12, 13, 75]) (by kernel_rfl) (by kernel_rfl) (.cons h835 (.cons h836 .nil)) (G_slices_pdqsortCmpFunc_oom_Task_h_C3_ok hF (.s (cR (cR (cR (cR (cR (cR (cR (cB (cP (cB (cR (cR (bodyOf Try.f264))))))))))))) :: .b 1 :: ks) n v_a144 v_b145 v_z739 v_cmp143 v_wasBalanced147 v_wasPartitioned148 v_z751 v_z752 v_z753 v_cmp143_g v_cmp143_c v_cmp143_h _ h843 ?_)
              cases v_o759 with
              | x0 v_z760 =>
                try dsimp only at h
                cases h
                exact pkk_sound TTok mix hF 2 (hs := []) (ts := []) (s := [0, 1]) (l := []) (by kernel_rfl) (by kernel_rfl) .nil q
              | x1 v_z762 =>
                try dsimp only at h
                obtain ⟨v_o773, h856, h⟩ := bind_some h
                refine pkk_sound TTok mix hF 2 (hs := []) (ts := []) (s := [0, 1]) (l := [0, 1, 2, 3, 4, 10, 11, 12, 13]) (by kernel_rfl) (by kernel_rfl) .nil (G_slices_pdqsortCmpFunc_oom_Task_h_C4_ok hF (.s (cR (cL (cR (cR (cR (cR (cR (cR (cR (cB (cP (cB (cR (cR (bodyOf Try.f264))))))))))))))) :: .s (cR (cR (cR (cR (cR (cR (cR (cR (cB (cP (cB (cR (cR (bodyOf Try.f264)))))))))))))) :: .b 1 :: ks) n v_a144 v_b145 v_z739 v_cmp143 v_wasBalanced147 v_wasPartitioned148 v_z751 v_z762 v_cmp143_g v_cmp143_c v_cmp143_h _ h856 ?_)
                cases v_o773 with
                | x0 v_z774 v_z775 =>
                  try dsimp only at h
                  by_cases h859 : v_z774 = true
                  · rw [if_pos h859] at h
                    obtain ⟨v_r777, h860, h⟩ := bind_some h
                    cases h
                    exact pkk_sound TTok mix hF 8 (hs := [.t true, .h [1] [] [.row 207 4 (v_r777.2.map eS_oom_Task)] (.d (.v (.int .i64 v_r777.1)))]) (ts := []) (s := [0, 1]) (l := [0, 1, 2, 3, 4, 10, 11]) (by kernel_rfl) (by kernel_rfl) (.cons h859 (.cons (G_slices_partitionEqualCmpFunc_oom_Task_h_ok n v_z775 v_a144 v_b145 v_z751 v_cmp143 v_cmp143_g v_cmp143_c v_cmp143_h _ h860) .nil)) q
                  · rw [if_neg h859] at h
                    obtain ⟨v_r784, h861, h⟩ := bind_some h
                    by_cases h866 : (wi .i64 (v_r784.1 - v_a144)) < (wi .i64 (v_b145 - v_r784.1))
                    · rw [if_pos h866] at h
                      obtain ⟨v_r787, h867, h⟩ := bind_some h
                      cases h
                      exact pkk_sound TTok mix hF 19 (hs := [.t false, .h [1] [] [.row 207 4 (v_r784.2.2.map eS_oom_Task)] (.tup [.d (.v (.int .i64 v_r784.1)), .d (.v (.bool v_r784.2.1))]), .t true, .h [1] [] [.row 207 4 (v_r787.map eS_oom_Task)] (.tup [])]) (ts := []) (s := [0, 1]) (l := [0, 1, 2, 3, 4, 10, 11]) (by kernel_rfl) (by kernel_rfl) (.cons (vf h859) (.cons (G_slices_partitionCmpFunc_oom_Task_h_ok n v_z775 v_a144 v_b145 v_z751 v_cmp143 v_cmp143_g v_cmp143_c v_cmp143_h _ h861) (.cons (show (8 : Int) ≠ 0 by decide) (.cons (dt h866) (.cons (v_rec681_h v_r784.2.2 v_a144 v_r784.1 v_z739 _ h867) .nil))))) q
                    · rw [if_neg h866] at h
                      obtain ⟨v_r794, h868, h⟩ := bind_some h
                      cases h
                      exact pkk_sound TTok mix hF 19 (hs := [.t false, .h [1] [] [.row 207 4 (v_r784.2.2.map eS_oom_Task)] (.tup [.d (.v (.int .i64 v_r784.1)), .d (.v (.bool v_r784.2.1))]), .t false, .h [1] [] [.row 207 4 (v_r794.map eS_oom_Task)] (.tup [])]) (ts := []) (s := [0, 1]) (l := [0, 1, 2, 3, 4, 10, 11]) (by kernel_rfl) (by kernel_rfl) (.cons (vf h859) (.cons (G_slices_partitionCmpFunc_oom_Task_h_ok n v_z775 v_a144 v_b145 v_z751 v_cmp143 v_cmp143_g v_cmp143_c v_cmp143_h _ h861) (.cons (show (8 : Int) ≠ 0 by decide) (.cons (df h866) (.cons (v_rec681_h v_r784.2.2 (wi .i64 (v_r784.1 + 1)) v_b145 v_z739 _ h868) .nil))))) q
            · rw [if_neg h836] at h
              obtain ⟨v_o811, h881, h⟩ := bind_some h
              refine pkk_sound TTok mix hF 7 (hs := [.t true, .t false, .c, .c]) (ts := []) (s := [0, 1]) (l := [0, 1, 2, 3, 4, 10, 11, 12, 13]) (by kernel_rfl) (by kernel_rfl) (.cons h835 (.cons (vf h836) .nil)) (G_slices_pdqsortCmpFunc_oom_Task_h_C5_ok hF (.s (cR (cL (cR (cR (cR (cR (cR (cR (cR (cB (cP (cB (cR (cR (bodyOf Try.f264))))))))))))))) :: .s (cR (cR (cR (cR (cR (cR (cR (cR (cB (cP (cB (cR (cR (bodyOf Try.f264)))))))))))))) :: .b 1 :: ks) n v_a144 v_b145 v_z739 v_cmp143 v_wasBalanced147 v_wasPartitioned148 v_z751 v_z753 v_cmp143_g v_cmp143_c v_cmp143_h _ h881 ?_)
              cases v_o811 with
              | x0 v_z812 v_z813 =>
                try dsimp only at h
                by_cases h884 : v_z812 = true
                · rw [if_pos h884] at h
                  obtain ⟨v_r815, h885, h⟩ := bind_some h
                  cases h
                  exact pkk_sound TTok mix hF 8 (hs := [.t true, .h [1] [] [.row 207 4 (v_r815.2.map eS_oom_Task)] (.d (.v (.int .i64 v_r815.1)))]) (ts := []) (s := [0, 1]) (l := [0, 1, 2, 3, 4, 10, 11]) (by kernel_rfl) (by kernel_rfl) (.cons h884 (.cons (G_slices_partitionEqualCmpFunc_oom_Task_h_ok n v_z813 v_a144 v_b145 v_z751 v_cmp143 v_cmp143_g v_cmp143_c v_cmp143_h _ h885) .nil)) q
                · rw [if_neg h884] at h
                  obtain ⟨v_r822, h886, h⟩ := bind_some h
                  by_cases h891 : (wi .i64 (v_r822.1 - v_a144)) < (wi .i64 (v_b145 - v_r822.1))
                  · rw [if_pos h891] at h
                    obtain ⟨v_r825, h892, h⟩ := bind_some h
                    cases h
                    exact pkk_sound TTok mix hF 19 (hs := [.t false, .h [1] [] [.row 207 4 (v_r822.2.2.map eS_oom_Task)] (.tup [.d (.v (.int .i64 v_r822.1)), .d (.v (.bool v_r822.2.1))]), .t true, .h [1] [] [.row 207 4 (v_r825.map eS_oom_Task)] (.tup [])]) (ts := []) (s := [0, 1]) (l := [0, 1, 2, 3, 4, 10, 11]) (by kernel_rfl) (by kernel_rfl) (.cons (vf h884) (.cons (G_slices_partitionCmpFunc_oom_Task_h_ok n v_z813 v_a144 v_b145 v_z751 v_cmp143 v_cmp143_g v_cmp143_c v_cmp143_h _ h886) (.cons (show (8 : Int) ≠ 0 by decide) (.cons (dt h891) (.cons (v_rec681_h v_r822.2.2 v_a144 v_r822.1 v_z739 _ h892) .nil))))) q
                  · rw [if_neg h891] at h
                    obtain ⟨v_r832, h893, h⟩ := bind_some h
                    cases h
                    exact pkk_sound TTok mix hF 19 (hs := [.t false, .h [1] [] [.row 207 4 (v_r822.2.2.map eS_oom_Task)] (.tup [.d (.v (.int .i64 v_r822.1)), .d (.v (.bool v_r822.2.1))]), .t false, .h [1] [] [.row 207 4 (v_r832.map eS_oom_Task)] (.tup [])]) (ts := []) (s := [0, 1]) (l := [0, 1, 2, 3, 4, 10, 11]) (by kernel_rfl) (by kernel_rfl) (.cons (vf h884) (.cons (G_slices_partitionCmpFunc_oom_Task_h_ok n v_z813 v_a144 v_b145 v_z751 v_cmp143 v_cmp143_g v_cmp143_c v_cmp143_h _ h886) (.cons (show (8 : Int) ≠ 0 by decide) (.cons (df h891) (.cons (v_rec681_h v_r822.2.2 (wi .i64 (v_r822.1 + 1)) v_b145 v_z739 _ h893) .nil))))) q
          · rw [if_neg h835] at h
            obtain ⟨v_o849, h906, h⟩ := bind_some h
            refine pkk_sound TTok mix hF 7 (hs := [.t false, .c, .c, .c]) (ts := []) (s := [0, 1]) (l := [0, 1, 2, 3, 4, 10, 11, 12, 13]) (by kernel_rfl) (by kernel_rfl) (.cons (vf h835) .nil) (G_slices_pdqsortCmpFunc_oom_Task_h_C6_ok hF (.s (cR (cL (cR (cR (cR (cR (cR (cR (cR (cB (cP (cB (cR (cR (bodyOf Try.f264))))))))))))))) :: .s (cR (cR (cR (cR (cR (cR (cR (cR (cB (cP (cB (cR (cR (bodyOf Try.f264)))))))))))))) :: .b 1 :: ks) n v_a144 v_b145 v_z739 v_cmp143 v_wasBalanced147 v_wasPartitioned148 v_z751 v_z753 v_cmp143_g v_cmp143_c v_cmp143_h _ h906 ?_)
            cases v_o849 with
            | x0 v_z850 v_z851 =>
              try dsimp only at h
              by_cases h909 : v_z850 = true
              · rw [if_pos h909] at h
                obtain ⟨v_r853, h910, h⟩ := bind_some h
                cases h
                exact pkk_sound TTok mix hF 8 (hs := [.t true, .h [1] [] [.row 207 4 (v_r853.2.map eS_oom_Task)] (.d (.v (.int .i64 v_r853.1)))]) (ts := []) (s := [0, 1]) (l := [0, 1, 2, 3, 4, 10, 11]) (by kernel_rfl) (by kernel_rfl) (.cons h909 (.cons (G_slices_partitionEqualCmpFunc_oom_Task_h_ok n v_z851 v_a144 v_b145 v_z751 v_cmp143 v_cmp143_g v_cmp143_c v_cmp143_h _ h910) .nil)) q
              · rw [if_neg h909] at h
                obtain ⟨v_r860, h911, h⟩ := bind_some h
                by_cases h916 : (wi .i64 (v_r860.1 - v_a144)) < (wi .i64 (v_b145 - v_r860.1))
                · rw [if_pos h916] at h
                  obtain ⟨v_r863, h917, h⟩ := bind_some h
                  cases h
                  exact pkk_sound TTok mix hF 19 (hs := [.t false, .h [1] [] [.row 207 4 (v_r860.2.2.map eS_oom_Task)] (.tup [.d (.v (.int .i64 v_r860.1)), .d (.v (.bool v_r860.2.1))]), .t true, .h [1] [] [.row 207 4 (v_r863.map eS_oom_Task)] (.tup [])]) (ts := []) (s := [0, 1]) (l := [0, 1, 2, 3, 4, 10, 11]) (by kernel_rfl) (by kernel_rfl) (.cons (vf h909) (.cons (G_slices_partitionCmpFunc_oom_Task_h_ok n v_z851 v_a144 v_b145 v_z751 v_cmp143 v_cmp143_g v_cmp143_c v_cmp143_h _ h911) (.cons (show (8 : Int) ≠ 0 by decide) (.cons (dt h916) (.cons (v_rec681_h v_r860.2.2 v_a144 v_r860.1 v_z739 _ h917) .nil))))) q
                · rw [if_neg h916] at h
                  obtain ⟨v_r870, h918, h⟩ := bind_some h
                  cases h
                  exact pkk_sound TTok mix hF 19 (hs := [.t false, .h [1] [] [.row 207 4 (v_r860.2.2.map eS_oom_Task)] (.tup [.d (.v (.int .i64 v_r860.1)), .d (.v (.bool v_r860.2.1))]), .t false, .h [1] [] [.row 207 4 (v_r870.map eS_oom_Task)] (.tup [])]) (ts := []) (s := [0, 1]) (l := [0, 1, 2, 3, 4, 10, 11]) (by kernel_rfl) (by kernel_rfl) (.cons (vf h909) (.cons (G_slices_partitionCmpFunc_oom_Task_h_ok n v_z851 v_a144 v_b145 v_z751 v_cmp143 v_cmp143_g v_cmp143_c v_cmp143_h _ h911) (.cons (show (8 : Int) ≠ 0 by decide) (.cons (df h916) (.cons (v_rec681_h v_r860.2.2 (wi .i64 (v_r860.1 + 1)) v_b145 v_z739 _ h918) .nil))))) q
inductive G_slices_pdqsortCmpFunc_oom_Task_h_L8_R where
  | x0 (v_w879 : (List S_oom_Task))
def G_slices_pdqsortCmpFunc_oom_Task_h_L8_ex : G_slices_pdqsortCmpFunc_oom_Task_h_L8_R → Ex
  | .x0 _ => .ret
def G_slices_pdqsortCmpFunc_oom_Task_h_L8_st (v_cmp143 : (S_oom_Task → S_oom_Task → Option (Int))) (v_rec681 : ((List S_oom_Task) → Int → Int → Int → Option ((List S_oom_Task)))) (v_cmp143_g : FuncId) (v_cmp143_c : (List PV)) : G_slices_pdqsortCmpFunc_oom_Task_h_L8_R → PS
  | .x0 v_w879 => ⟨[dd, dd, dd, dd, dd, dd, dd, dd, dd, dd, dd, dd, dd, dd, dd, dd, dd, dd, dd, dd, dd, dd, dd, dd, dd, dd, dd, dd, dd, dd, dd, dd, dd, dd, dd, dd, dd, dd, dd, dd, dd, dd, dd, dd, dd, dd, dd, dd, dd, dd, dd, dd, dd, dd, dd, dd, dd, dd, dd, dd, dd, dd, dd, dd, dd, dd, dd, dd, dd, dd, dd, dd, dd, dd, dd, dd, dd, dd, dd, dd, dd, dd, dd, dd, dd, dd, dd, dd, dd, dd, dd, dd, dd, dd, dd, dd, dd, dd, dd, dd, dd, dd, dd, dd, dd, dd, dd, dd, dd, dd, dd, dd, dd, dd, dd, dd, dd, dd, dd, dd, dd, dd, dd, dd, dd, dd, dd, dd, dd, dd, dd, dd, dd, dd, dd, dd, dd, dd, dd, dd, dd, dd, dd, dd, dd, dd, dd, dd], [.gh 0 (.srf 1), .row 207 4 (v_w879.map eS_oom_Task)]⟩
def G_slices_pdqsortCmpFunc_oom_Task_h_L8_hd (v_cmp143 : (S_oom_Task → S_oom_Task → Option (Int))) (v_rec681 : ((List S_oom_Task) → Int → Int → Int → Option ((List S_oom_Task)))) (v_cmp143_g : FuncId) (v_cmp143_c : (List PV)) (v_a144 : Int) (v_b145 : Int) (v_limit146 : Int) (v_wasBalanced147 : Bool) (v_wasPartitioned148 : Bool) (v_w149 : (List S_oom_Task)) : PS := ⟨[.srf 1, .d (.v (.int .i64 v_a144)), .d (.v (.int .i64 v_b145)), .d (.v (.int .i64 v_limit146)), .d (.clo v_cmp143_g v_cmp143_c), dd, dd, dd, dd, dd, .d (.v (.bool v_wasBalanced147)), .d (.v (.bool v_wasPartitioned148)), dd, dd, dd, dd, dd, dd, dd, dd, dd, dd, dd, dd, dd, dd, dd, dd, dd, dd, dd, dd, dd, dd, dd, dd, dd, dd, dd, dd, dd, dd, dd, dd, dd, dd, dd, dd, dd, dd, dd, dd, dd, dd, dd, dd, dd, dd, dd, dd, dd, dd, dd, dd, dd, dd, dd, dd, dd, dd, dd, dd, dd, dd, dd, dd, dd, dd, dd, dd, dd, dd, dd, dd, dd, dd, dd, dd, dd, dd, dd, dd, dd, dd, dd, dd, dd, dd, dd, dd, dd, dd, dd, dd, dd, dd, dd, dd, dd, dd, dd, dd, dd, dd, dd, dd, dd, dd, dd, dd, dd, dd, dd, dd, dd, dd, dd, dd, dd, dd, dd, dd, dd, dd, dd, dd, dd, dd, dd, dd, dd, dd, dd, dd, dd, dd, dd, dd], [.gh 0 (.srf 1), .row 207 4 (v_w149.map eS_oom_Task)]⟩
def G_slices_pdqsortCmpFunc_oom_Task_h_L8 (n : Nat) (v_cmp143 : (S_oom_Task → S_oom_Task → Option (Int))) (v_rec681 : ((List S_oom_Task) → Int → Int → Int → Option ((List S_oom_Task)))) : Nat → Int → Int → Int → Bool → Bool → (List S_oom_Task) → Option G_slices_pdqsortCmpFunc_oom_Task_h_L8_R
  | 0, _, _, _, _, _, _ => none
  | k + 1, v_a144, v_b145, v_limit146, v_wasBalanced147, v_wasPartitioned148, v_w149 =>
    (G_slices_pdqsortCmpFunc_oom_Task_h_C7 n v_a144 v_b145 v_limit146 v_cmp143 v_wasBalanced147 v_wasPartitioned148 v_w149 v_rec681).bind fun v_o877 => match v_o877 with
    | .x0 v_z878 =>
      some (.x0 v_z878)
    | .x1 v_z880 v_z881 v_z882 v_z883 v_z884 v_z885 =>
      G_slices_pdqsortCmpFunc_oom_Task_h_L8 n v_cmp143 v_rec681 k v_z880 v_z881 v_z882 v_z883 v_z884 v_z885
theorem G_slices_pdqsortCmpFunc_oom_Task_h_L8_ok {Fi : Ex → PS → Prop} (hF : KC 148 Fi) (ks : List Fr) (n : Nat) (v_cmp143 : (S_oom_Task → S_oom_Task → Option (Int))) (v_rec681 : ((List S_oom_Task) → Int → Int → Int → Option ((List S_oom_Task)))) (v_cmp143_g : FuncId) (v_cmp143_c : (List PV)) (v_cmp143_h : ∀ (x0 : S_oom_Task) (x1 : S_oom_Task) (r : Int), v_cmp143 x0 x1 = some r → Ret Try.prog v_cmp143_g ([eS_oom_Task x0, eS_oom_Task x1] ++ v_cmp143_c) ((eI .i64) r)) (v_rec681_h : ∀ (x0 : (List S_oom_Task)) (x1 : Int) (x2 : Int) (x3 : Int) (r : (List S_oom_Task)), v_rec681 x0 x1 x2 x3 = some r → RetH Try.prog 264 [.srf 0, .d ((eI .i64) x1), .d ((eI .i64) x2), .d ((eI .i64) x3), .d ((.clo v_cmp143_g v_cmp143_c))] [.row 207 4 (x0.map eS_oom_Task)] (.tup []) [.row 207 4 (r.map eS_oom_Task)]) : ∀ (k : Nat) (v_a144 : Int) (v_b145 : Int) (v_limit146 : Int) (v_wasBalanced147 : Bool) (v_wasPartitioned148 : Bool) (v_w149 : (List S_oom_Task)) (o : G_slices_pdqsortCmpFunc_oom_Task_h_L8_R), G_slices_pdqsortCmpFunc_oom_Task_h_L8 n v_cmp143 v_rec681 k v_a144 v_b145 v_limit146 v_wasBalanced147 v_wasPartitioned148 v_w149 = some o → RunE Try.prog 148 Fi ks (G_slices_pdqsortCmpFunc_oom_Task_h_L8_ex o) (G_slices_pdqsortCmpFunc_oom_Task_h_L8_st v_cmp143 v_rec681 v_cmp143_g v_cmp143_c o) → RunE Try.prog 148 Fi (.l k (cP (cB (cR (cR (bodyOf Try.f264))))) :: ks) .normal (G_slices_pdqsortCmpFunc_oom_Task_h_L8_hd v_cmp143 v_rec681 v_cmp143_g v_cmp143_c v_a144 v_b145 v_limit146 v_wasBalanced147 v_wasPartitioned148 v_w149)
  | 0, v_a144, v_b145, v_limit146, v_wasBalanced147, v_wasPartitioned148, v_w149, o, h, q => by rw [G_slices_pdqsortCmpFunc_oom_Task_h_L8] at h; cases h
  | k + 1, v_a144, v_b145, v_limit146, v_wasBalanced147, v_wasPartitioned148, v_w149, o, h, q => by
    rw [G_slices_pdqsortCmpFunc_oom_Task_h_L8] at h
    obtain ⟨v_o877, h919, h⟩ := bind_some h
    refine pkk_sound TTok mix hF 1 (hs := []) (ts := []) (s := [0, 1]) (l := [0, 1, 2, 3, 4, 10, 11]) (by kernel_rfl) (by kernel_rfl) .nil (G_slices_pdqsortCmpFunc_oom_Task_h_C7_ok hF (.l k (cP (cB (cR (cR (bodyOf Try.f264))))) :: ks) n v_a144 v_b145 v_limit146 v_cmp143 v_wasBalanced147 v_wasPartitioned148 v_w149 v_rec681 v_cmp143_g v_cmp143_c v_cmp143_h v_rec681_h _ h919 ?_)
    cases v_o877 with
    | x0 v_z878 =>
      try dsimp only at h
      cases h
      exact pkk_sound TTok mix hF 1 (hs := []) (ts := []) (s := [0, 1]) (l := []) (by kernel_rfl) (by kernel_rfl) .nil q
    | x1 v_z880 v_z881 v_z882 v_z883 v_z884 v_z885 =>
      try dsimp only at h
      exact pkk_sound TTok mix hF 0 (hs := []) (ts := []) (s := [0, 1]) (l := [0, 1, 2, 3, 4, 10, 11]) (by kernel_rfl) (by kernel_rfl) .nil (G_slices_pdqsortCmpFunc_oom_Task_h_L8_ok hF ks n v_cmp143 v_rec681 v_cmp143_g v_cmp143_c v_cmp143_h v_rec681_h k v_z880 v_z881 v_z882 v_z883 v_z884 v_z885 _ h q)
/- slices.pdqsortCmpFunc[ringhall/oom.Task] -/
def G_slices_pdqsortCmpFunc_oom_Task_h : Nat → (List S_oom_Task) → Int → Int → Int → (S_oom_Task → S_oom_Task → Option (Int)) → Option ((List S_oom_Task))
  | 0, _, _, _, _, _ => none
  | n + 1, v_data139, v_a140, v_b141, v_limit142, v_cmp143 =>
  (G_slices_pdqsortCmpFunc_oom_Task_h_L8 n v_cmp143 (fun x0 x1 x2 x3 => G_slices_pdqsortCmpFunc_oom_Task_h n x0 x1 x2 x3 v_cmp143) n v_a140 v_b141 v_limit142 true true v_data139).bind fun v_o886 => match v_o886 with
  | .x0 v_z887 =>
    some v_z887
theorem G_slices_pdqsortCmpFunc_oom_Task_h_ok : ∀ (n : Nat) (v_data139 : (List S_oom_Task)) (v_a140 : Int) (v_b141 : Int) (v_limit142 : Int) (v_cmp143 : (S_oom_Task → S_oom_Task → Option (Int))) (v_cmp143_g : FuncId) (v_cmp143_c : List PV) (v_cmp143_h : ∀ (x0 : S_oom_Task) (x1 : S_oom_Task) (r : Int), v_cmp143 x0 x1 = some r → Ret Try.prog v_cmp143_g ([eS_oom_Task x0, eS_oom_Task x1] ++ v_cmp143_c) ((eI .i64) r)) (r : (List S_oom_Task)) (h : G_slices_pdqsortCmpFunc_oom_Task_h n v_data139 v_a140 v_b141 v_limit142 v_cmp143 = some r), RetH Try.prog 264 [.srf 0, .d ((eI .i64) v_a140), .d ((eI .i64) v_b141), .d ((eI .i64) v_limit142), .d ((.clo v_cmp143_g v_cmp143_c))] [.row 207 4 (v_data139.map eS_oom_Task)] (.tup []) [.row 207 4 (r.map eS_oom_Task)]
  | 0, v_data139, v_a140, v_b141, v_limit142, v_cmp143, v_cmp143_g, v_cmp143_c, v_cmp143_h, r, h => by rw [G_slices_pdqsortCmpFunc_oom_Task_h] at h; cases h
  | n + 1, v_data139, v_a140, v_b141, v_limit142, v_cmp143, v_cmp143_g, v_cmp143_c, v_cmp143_h, r, h => by
    refine retH_run (n := 148) (fn := Try.f264) (c := bodyOf Try.f264) (by kernel_rfl) (by kernel_rfl) (by kernel_rfl) (by kernel_rfl) ?_
    have hF : KC 148 (FinH Try.prog Try.f264 [.row 207 4 (v_data139.map eS_oom_Task)] (.tup []) [.row 207 4 (r.map eS_oom_Task)]) := FinH.kc' (by kernel_rfl)
    rw [G_slices_pdqsortCmpFunc_oom_Task_h] at h
    obtain ⟨v_o886, h920, h⟩ := bind_some h
    refine pkk_sound TTok mix hF 6 (hs := [.n n]) (ts := []) (s := [1, 0]) (l := [0, 1, 2, 3, 4, 10, 11]) (by kernel_rfl) (by kernel_rfl) .nil (G_slices_pdqsortCmpFunc_oom_Task_h_L8_ok hF (.b 0 :: []) n v_cmp143 (fun x0 x1 x2 x3 => G_slices_pdqsortCmpFunc_oom_Task_h n x0 x1 x2 x3 v_cmp143) v_cmp143_g v_cmp143_c v_cmp143_h (fun x0 x1 x2 x3 r h => G_slices_pdqsortCmpFunc_oom_Task_h_ok n x0 x1 x2 x3 v_cmp143 v_cmp143_g v_cmp143_c v_cmp143_h r h) n v_a140 v_b141 v_limit142 true true v_data139 _ h920 ?_)
    cases v_o886 with
    | x0 v_z887 =>
      try dsimp only at h
      obtain rfl := Option.some.inj h
      exact pendH_sound TTok mix 1 (hs := []) [1] (by kernel_rfl) (by kernel_rfl) (by kernel_rfl) .nil
/- slices.SortFunc[[]ringhall/oom.Task,ringhall/oom.Task] -/
def G_slices_SortFunc_oom_Task_oom_Task_h (n : Nat) (v_x125 : (List S_oom_Task)) (v_cmp126 : (S_oom_Task → S_oom_Task → Option (Int))) : Option ((List S_oom_Task)) :=
  (G_math_bits_Len n (wi .u64 (v_x125.length : Int))).bind fun (v_r138 : (Int)) =>
  (G_slices_pdqsortCmpFunc_oom_Task_h n v_x125 0 (v_x125.length : Int) v_r138 v_cmp126).bind fun (v_r888 : ((List S_oom_Task))) =>
  some v_r888
theorem G_slices_SortFunc_oom_Task_oom_Task_h_ok (n : Nat) (v_x125 : (List S_oom_Task)) (v_cmp126 : (S_oom_Task → S_oom_Task → Option (Int))) (v_cmp126_g : FuncId) (v_cmp126_c : List PV) (v_cmp126_h : ∀ (x0 : S_oom_Task) (x1 : S_oom_Task) (r : Int), v_cmp126 x0 x1 = some r → Ret Try.prog v_cmp126_g ([eS_oom_Task x0, eS_oom_Task x1] ++ v_cmp126_c) ((eI .i64) r)) (r : (List S_oom_Task)) (h : G_slices_SortFunc_oom_Task_oom_Task_h n v_x125 v_cmp126 = some r) : RetH Try.prog 204 [.srf 0, .d ((.clo v_cmp126_g v_cmp126_c))] [.row 207 4 (v_x125.map eS_oom_Task)] (.tup []) [.row 207 4 (r.map eS_oom_Task)] := by
  refine retH_run (n := 14) (fn := Try.f204) (c := bodyOf Try.f204) (by kernel_rfl) (by kernel_rfl) (by kernel_rfl) (by kernel_rfl) ?_
  have hF : KC 14 (FinH Try.prog Try.f204 [.row 207 4 (v_x125.map eS_oom_Task)] (.tup []) [.row 207 4 (r.map eS_oom_Task)]) := FinH.kc' (by kernel_rfl)
  unfold G_slices_SortFunc_oom_Task_oom_Task_h at h
  obtain ⟨v_r138, h180, h⟩ := bind_some h
  obtain ⟨v_r888, h921, h⟩ := bind_some h
  obtain rfl := Option.some.inj h
  exact pendH_sound TTok mix 3 (hs := [.u (.d (.v (.int .i64 (v_x125.length : Int)))), .r ((eI .i64) v_r138), .h [0] [] [.row 207 4 (v_r888.map eS_oom_Task)] (.tup [])]) [0] (by kernel_rfl) (by kernel_rfl) (by kernel_rfl) (.cons (len_ob (f := eS_oom_Task) (l := v_x125)) (.cons (G_math_bits_Len_ok n (wi .u64 (v_x125.length : Int)) _ h180) (.cons (G_slices_pdqsortCmpFunc_oom_Task_h_ok n v_x125 0 (v_x125.length : Int) v_r138 v_cmp126 v_cmp126_g v_cmp126_c v_cmp126_h _ h921) .nil)))
/- ringhall/oom.ordered -/
def G_oom_ordered_h (n : Nat) (v_l76 : (List S_oom_Task)) : Option ((List S_oom_Task)) :=
  (G_slices_Clone_oom_Task_oom_Task n v_l76).bind fun (v_r84 : ((List S_oom_Task))) =>
  (G_slices_DeleteFunc_oom_Task_oom_Task_h n v_r84 (fun (y0 : S_oom_Task) => G_oom_ordered_1 n y0)).bind fun (v_r106 : ((List S_oom_Task))) =>
  (G_slices_SortFunc_oom_Task_oom_Task_h n v_r106 (fun (y0 : S_oom_Task) (y1 : S_oom_Task) => G_oom_ordered_2 n y0 y1)).bind fun (v_r889 : ((List S_oom_Task))) =>
  some v_r889
theorem G_oom_ordered_h_ok (n : Nat) (v_l76 : (List S_oom_Task)) (r : (List S_oom_Task)) (h : G_oom_ordered_h n v_l76 = some r) : RetH Try.prog 202 [.d ((eL eS_oom_Task) v_l76)] [] (.srf 0) [.row 207 4 (r.map eS_oom_Task)] := by
  refine retH_run (n := 9) (fn := Try.f202) (c := bodyOf Try.f202) (by kernel_rfl) (by kernel_rfl) (by kernel_rfl) (by kernel_rfl) ?_
  have hF : KC 9 (FinH Try.prog Try.f202 [] (.srf 0) [.row 207 4 (r.map eS_oom_Task)]) := FinH.kc' (by kernel_rfl)
  unfold G_oom_ordered_h at h
  obtain ⟨v_r84, h96, h⟩ := bind_some h
  obtain ⟨v_r106, h123, h⟩ := bind_some h
  obtain ⟨v_r889, h922, h⟩ := bind_some h
  obtain rfl := Option.some.inj h
  exact pendH_sound TTok mix 9 (hs := [.h [] [] [.row 207 4 (v_r84.map eS_oom_Task)] (.srf 0), .h [6] [] [.none, .row 207 4 (v_r106.map eS_oom_Task)] (.srf 1), .h [9] [] [.row 207 4 (v_r889.map eS_oom_Task)] (.tup [])]) [9] (by kernel_rfl) (by kernel_rfl) (by kernel_rfl) (.cons (G_slices_Clone_oom_Task_oom_Task_ok n v_l76 _ h96) (.cons (G_slices_DeleteFunc_oom_Task_oom_Task_h_ok n v_r84 (fun (y0 : S_oom_Task) => G_oom_ordered_1 n y0) 261 [] (fun y0 r h => G_oom_ordered_1_ok n y0 r h) _ h123) (.cons (G_slices_SortFunc_oom_Task_oom_Task_h_ok n v_r106 (fun (y0 : S_oom_Task) (y1 : S_oom_Task) => G_oom_ordered_2 n y0 y1) 262 [] (fun y0 y1 r h => G_oom_ordered_2_ok n y0 y1 r h) _ h922) .nil)))
inductive G_oom_Order_L1_R where
  | x0 (v_w898 : (List Int))
def G_oom_Order_L1_ex : G_oom_Order_L1_R → Ex
  | .x0 _ => .exit 0
def G_oom_Order_L1_st (v_r890 : ((List S_oom_Task))) : G_oom_Order_L1_R → PS
  | .x0 v_w898 => ⟨[dd, dd, dd, dd, dd, .srf 0, dd, dd, dd, dd, dd, dd, dd, dd, dd, dd, dd, dd, dd, dd, dd, dd, dd, dd, dd, dd, dd], [.row 3 1 (v_w898.map (eI .i64))]⟩
def G_oom_Order_L1_hd (v_r890 : ((List S_oom_Task))) (v_x891 : Int) (v_w892 : (List Int)) (v_w893 : (List S_oom_Task)) : PS := ⟨[dd, dd, dd, dd, dd, .srf 0, dd, dd, dd, dd, dd, dd, dd, dd, .srf 1, .d (.v (.int .i64 (v_r890.length : Int))), .d (.v (.int .i64 v_x891)), dd, dd, dd, dd, dd, dd, dd, dd, dd, dd], [.row 3 1 (v_w892.map (eI .i64)), .row 207 4 (v_w893.map eS_oom_Task)]⟩
def G_oom_Order_L1 (n : Nat) (v_r890 : ((List S_oom_Task))) : Nat → Int → (List Int) → (List S_oom_Task) → Option G_oom_Order_L1_R
  | 0, _, _, _ => none
  | k + 1, v_x891, v_w892, v_w893 =>
    if v_x891 < (v_r890.length : Int) then
     if 0 ≤ v_x891 ∧ (v_x891).toNat < v_w893.length then
      (v_w893[(v_x891).toNat]?).bind fun (v_y896 : S_oom_Task) =>
      (app 8 v_w892 ([v_y896.fId])).bind fun (v_a897 : (List Int)) =>
      G_oom_Order_L1 n v_r890 k (wi .i64 (v_x891 + 1)) v_a897 v_w893
     else none
    else
     some (.x0 v_w892)
theorem G_oom_Order_L1_ok {Fi : Ex → PS → Prop} (hF : KC 27 Fi) (ks : List Fr) (n : Nat) (v_r890 : ((List S_oom_Task)))  : ∀ (k : Nat) (v_x891 : Int) (v_w892 : (List Int)) (v_w893 : (List S_oom_Task)) (o : G_oom_Order_L1_R), G_oom_Order_L1 n v_r890 k v_x891 v_w892 v_w893 = some o → RunE Try.prog 27 Fi ks (G_oom_Order_L1_ex o) (G_oom_Order_L1_st v_r890 o) → RunE Try.prog 27 Fi (.l k (cP (cB (cR (cL (cR (cR (cR (bodyOf Try.f105)))))))) :: ks) .normal (G_oom_Order_L1_hd v_r890 v_x891 v_w892 v_w893)
  | 0, v_x891, v_w892, v_w893, o, h, q => by rw [G_oom_Order_L1] at h; cases h
  | k + 1, v_x891, v_w892, v_w893, o, h, q => by
    rw [G_oom_Order_L1] at h
    by_cases h924 : v_x891 < (v_r890.length : Int)
    · rw [if_pos h924] at h
      by_cases h928 : 0 ≤ v_x891 ∧ (v_x891).toNat < v_w893.length
      · rw [if_pos h928] at h
        obtain ⟨v_y896, h929, h⟩ := bind_some h
        obtain ⟨v_a897, h930, h⟩ := bind_some h
        exact pkk_sound TTok mix hF 13 (hs := [.t true, .y (eS_oom_Task v_y896), .c, .c, .bd, .w (v_a897.map (eI .i64))]) (ts := []) (s := [29, 1]) (l := [5, 14, 15, 16]) (by kernel_rfl) (by kernel_rfl) (.cons (dt h924) (.cons (idx_ob (f := eS_oom_Task) h928) (.cons (get_ob (f := eS_oom_Task) h929) (.cons (show 0 + 4 ≤ 4 by decide) (.cons (app_ob (f := (eI .i64)) (s := 1) h930 (fun _ => rfl)).1 (.cons (app_ob (f := (eI .i64)) (s := 1) h930 (fun _ => rfl)).2.1 (.cons (app_ob (f := (eI .i64)) (s := 1) h930 (fun _ => rfl)).2.2.1 (.cons (app_ob (f := (eI .i64)) (s := 1) h930 (fun _ => rfl)).2.2.2 .nil)))))))) (G_oom_Order_L1_ok hF ks n v_r890 k (wi .i64 (v_x891 + 1)) v_a897 v_w893 _ h q)
      · rw [if_neg h928] at h; cases h
    · rw [if_neg h924] at h
      cases h
      exact pkk_sound TTok mix hF 8 (hs := [.t false]) (ts := []) (s := [0]) (l := [5]) (by kernel_rfl) (by kernel_rfl) (.cons (df h924) .nil) q
/- ringhall/oom.Order -/
def G_oom_Order (n : Nat) (v_l3 : (List S_oom_Task)) : Option ((List Int) × Int) :=
  (G_oom_Check n v_l3).bind fun (v_r75 : (Int)) =>
  if v_r75 = 0 then
   (G_oom_ordered_h n v_l3).bind fun (v_r890 : ((List S_oom_Task))) =>
   (G_oom_Order_L1 n v_r890 n 0 ([] : List Int) v_r890).bind fun v_o899 => match v_o899 with
   | .x0 v_z900 =>
     some (v_z900, 0)
  else
   some (([] : (List Int)), v_r75)
theorem G_oom_Order_ok (n : Nat) (v_l3 : (List S_oom_Task)) (r : (List Int) × Int) (h : G_oom_Order n v_l3 = some r) : Ret Try.prog 105 [(eL eS_oom_Task) v_l3] (.tup [(eL (eI .i64)) r.1, (eI .i64) r.2]) := by
  refine ret_run (n := 27) (fn := Try.f105) (c := bodyOf Try.f105) (by kernel_rfl) (by kernel_rfl) (by kernel_rfl) (by kernel_rfl) ?_
  have hF : KC 27 (FinR Try.prog Try.f105 (.tup [(eL (eI .i64)) r.1, (eI .i64) r.2])) := FinR.kc' (by kernel_rfl)
  unfold G_oom_Order at h
  obtain ⟨v_r75, h91, h⟩ := bind_some h
  by_cases h93 : v_r75 = 0
  · rw [if_pos h93] at h
    obtain ⟨v_r890, h923, h⟩ := bind_some h
    obtain ⟨v_o899, h931, h⟩ := bind_some h
    refine pkk_sound TTok mix hF 16 (hs := [.r ((eI .i64) v_r75), .t false, .h [] [] [.row 207 4 (v_r890.map eS_oom_Task)] (.srf 0), .u (.d (.v (.int .i64 (v_r890.length : Int)))), .n n]) (ts := [(5, 3, 1)]) (s := [36, 27]) (l := [5, 14, 15, 16]) (by kernel_rfl) (by kernel_rfl) (.cons (G_oom_Check_ok n v_l3 _ h91) (.cons (nf h93) (.cons (G_oom_ordered_h_ok n v_l3 _ h923) (.cons (len_ob (f := eS_oom_Task) (l := v_r890)) .nil)))) (G_oom_Order_L1_ok hF (.b 0 :: .s (cR (cR (cR (cR (bodyOf Try.f105))))) :: []) n v_r890 n 0 ([] : List Int) v_r890 _ h931 ?_)
    cases v_o899 with
    | x0 v_z900 =>
      try dsimp only at h
      obtain rfl := Option.some.inj h
      exact pend_sound TTok mix 4 (hs := []) (by kernel_rfl) (by kernel_rfl) (by kernel_rfl) .nil
  · rw [if_neg h93] at h
    obtain rfl := Option.some.inj h
    exact pend_sound TTok mix 12 (hs := [.r ((eI .i64) v_r75), .t true]) (by kernel_rfl) (by kernel_rfl) (by kernel_rfl) (.cons (G_oom_Check_ok n v_l3 _ h91) (.cons (nt h93) .nil))
inductive G_oom_need_C1_R where
  | x0 (v_x907 : Bool)
def G_oom_need_C1_ex : G_oom_need_C1_R → Ex
  | .x0 _ => .normal
def G_oom_need_C1_st (v_n905 : Int) (v_r906 : (Int)) : G_oom_need_C1_R → PS
  | .x0 v_x907 => ⟨[dd, dd, dd, dd, dd, .d (.v (.int .i64 v_r906)), dd, dd, dd, dd, dd, dd, dd, dd, dd, dd, dd, .d (.v (.bool v_x907)), dd], []⟩
def G_oom_need_C1_hd (v_n905 : Int) (v_r906 : (Int))  : PS := ⟨[dd, .d (.v (.int .i64 v_n905)), dd, dd, dd, .d (.v (.int .i64 v_r906)), dd, dd, dd, dd, dd, dd, dd, dd, dd, dd, dd, dd, dd], []⟩
def G_oom_need_C1 (n : Nat) (v_n905 : Int) (v_r906 : (Int)) : Option G_oom_need_C1_R :=
  if v_r906 = 0 then
   if v_n905 < 1 then
    some (.x0 true)
   else
    some (.x0 (decide (v_n905 > 1048576)))
  else
   some (.x0 false)
theorem G_oom_need_C1_ok {Fi : Ex → PS → Prop} (hF : KC 19 Fi) (ks : List Fr) (n : Nat) (v_n905 : Int) (v_r906 : (Int))  (o : G_oom_need_C1_R) (h : G_oom_need_C1 n v_n905 v_r906 = some o) (q : RunE Try.prog 19 Fi ks (G_oom_need_C1_ex o) (G_oom_need_C1_st v_n905 v_r906 o)) : RunE Try.prog 19 Fi (.s (cL (cL (cR (cR (bodyOf Try.f203))))) :: ks) .normal (G_oom_need_C1_hd v_n905 v_r906) := by
  unfold G_oom_need_C1 at h
  by_cases h936 : v_r906 = 0
  · rw [if_pos h936] at h
    by_cases h937 : v_n905 < 1
    · rw [if_pos h937] at h
      cases h
      exact pkk_sound TTok mix hF 1 (hs := [.t true, .c, .c, .t true, .c, .c]) (ts := []) (s := []) (l := [5, 17]) (by kernel_rfl) (by kernel_rfl) (.cons (bt h936) (.cons (dt h937) .nil)) q
    · rw [if_neg h937] at h
      cases h
      exact pkk_sound TTok mix hF 1 (hs := [.t true, .c, .c, .t false, .c, .c]) (ts := []) (s := []) (l := [5, 17]) (by kernel_rfl) (by kernel_rfl) (.cons (bt h936) (.cons (df h937) .nil)) q
  · rw [if_neg h936] at h
    cases h
    exact pkk_sound TTok mix hF 1 (hs := [.t false, .c, .c, .c]) (ts := []) (s := []) (l := [5, 17]) (by kernel_rfl) (by kernel_rfl) (.cons (bf h936) .nil) q
/- ringhall/oom.need -/
def G_oom_need (n : Nat) (v_l904 : (List S_oom_Task)) (v_n905 : Int) : Option (Int) :=
  (G_oom_Check n v_l904).bind fun (v_r906 : (Int)) =>
  (G_oom_need_C1 n v_n905 v_r906).bind fun v_o910 => match v_o910 with
  | .x0 v_z911 =>
    if v_z911 = true then
     some 1
    else
     some v_r906
theorem G_oom_need_ok (n : Nat) (v_l904 : (List S_oom_Task)) (v_n905 : Int) (r : Int) (h : G_oom_need n v_l904 v_n905 = some r) : Ret Try.prog 203 [(eL eS_oom_Task) v_l904, (eI .i64) v_n905] ((eI .i64) r) := by
  refine ret_run (n := 19) (fn := Try.f203) (c := bodyOf Try.f203) (by kernel_rfl) (by kernel_rfl) (by kernel_rfl) (by kernel_rfl) ?_
  have hF : KC 19 (FinR Try.prog Try.f203 ((eI .i64) r)) := FinR.kc' (by kernel_rfl)
  unfold G_oom_need at h
  obtain ⟨v_r906, h933, h⟩ := bind_some h
  obtain ⟨v_o910, h938, h⟩ := bind_some h
  refine pkk_sound TTok mix hF 6 (hs := [.r ((eI .i64) v_r906)]) (ts := []) (s := []) (l := [1, 5]) (by kernel_rfl) (by kernel_rfl) (.cons (G_oom_Check_ok n v_l904 _ h933) .nil) (G_oom_need_C1_ok hF (.s (cR (cL (cR (cR (bodyOf Try.f203))))) :: .s (cR (cR (cR (bodyOf Try.f203)))) :: []) n v_n905 v_r906 _ h938 ?_)
  cases v_o910 with
  | x0 v_z911 =>
    try dsimp only at h
    by_cases h939 : v_z911 = true
    · rw [if_pos h939] at h
      obtain rfl := Option.some.inj h
      exact pend_sound TTok mix 5 (hs := [.t true]) (by kernel_rfl) (by kernel_rfl) (by kernel_rfl) (.cons h939 .nil)
    · rw [if_neg h939] at h
      obtain rfl := Option.some.inj h
      exact pend_sound TTok mix 5 (hs := [.t false]) (by kernel_rfl) (by kernel_rfl) (by kernel_rfl) (.cons (vf h939) .nil)
inductive G_oom_Pick_L1_R where
  | x0 (v_got921 : Int) (v_w922 : (List Int))
def G_oom_Pick_L1_ex : G_oom_Pick_L1_R → Ex
  | .x0 _ _ => .exit 0
def G_oom_Pick_L1_st (v_n903 : Int) (v_r913 : ((List S_oom_Task))) : G_oom_Pick_L1_R → PS
  | .x0 v_got921 v_w922 => ⟨[dd, .d (.v (.int .i64 v_n903)), dd, dd, dd, dd, dd, dd, .srf 0, .d (.v (.int .i64 v_got921)), dd, dd, dd, dd, dd, dd, dd, dd, dd, dd, dd, dd, dd, dd, dd, dd, dd, dd, dd, dd, dd, dd, dd, dd, dd, dd, dd, dd, dd, dd, dd, dd, dd], [.row 3 1 (v_w922.map (eI .i64))]⟩
def G_oom_Pick_L1_hd (v_n903 : Int) (v_r913 : ((List S_oom_Task))) (v_got914 : Int) (v_x915 : Int) (v_w916 : (List Int)) (v_w917 : (List S_oom_Task)) : PS := ⟨[dd, .d (.v (.int .i64 v_n903)), dd, dd, dd, dd, dd, dd, .srf 0, .d (.v (.int .i64 v_got914)), dd, dd, dd, dd, dd, dd, dd, dd, dd, .srf 1, .d (.v (.int .i64 (v_r913.length : Int))), .d (.v (.int .i64 v_x915)), dd, dd, dd, dd, dd, dd, dd, dd, dd, dd, dd, dd, dd, dd, dd, dd, dd, dd, dd, dd, dd], [.row 3 1 (v_w916.map (eI .i64)), .row 207 4 (v_w917.map eS_oom_Task)]⟩
def G_oom_Pick_L1 (n : Nat) (v_n903 : Int) (v_r913 : ((List S_oom_Task))) : Nat → Int → Int → (List Int) → (List S_oom_Task) → Option G_oom_Pick_L1_R
  | 0, _, _, _, _ => none
  | k + 1, v_got914, v_x915, v_w916, v_w917 =>
    if v_x915 < (v_r913.length : Int) then
     if 0 ≤ v_x915 ∧ (v_x915).toNat < v_w917.length then
      (v_w917[(v_x915).toNat]?).bind fun (v_y920 : S_oom_Task) =>
      if v_got914 ≥ v_n903 then
       some (.x0 v_got914 v_w916)
      else
       (app 8 v_w916 ([v_y920.fId])).bind fun (v_a923 : (List Int)) =>
       G_oom_Pick_L1 n v_n903 v_r913 k (wi .i64 (v_got914 + v_y920.fPages)) (wi .i64 (v_x915 + 1)) v_a923 v_w917
     else none
    else
     some (.x0 v_got914 v_w916)
theorem G_oom_Pick_L1_ok {Fi : Ex → PS → Prop} (hF : KC 43 Fi) (ks : List Fr) (n : Nat) (v_n903 : Int) (v_r913 : ((List S_oom_Task)))  : ∀ (k : Nat) (v_got914 : Int) (v_x915 : Int) (v_w916 : (List Int)) (v_w917 : (List S_oom_Task)) (o : G_oom_Pick_L1_R), G_oom_Pick_L1 n v_n903 v_r913 k v_got914 v_x915 v_w916 v_w917 = some o → RunE Try.prog 43 Fi ks (G_oom_Pick_L1_ex o) (G_oom_Pick_L1_st v_n903 v_r913 o) → RunE Try.prog 43 Fi (.l k (cP (cB (cR (cL (cR (cR (cR (cR (bodyOf Try.f106))))))))) :: ks) .normal (G_oom_Pick_L1_hd v_n903 v_r913 v_got914 v_x915 v_w916 v_w917)
  | 0, v_got914, v_x915, v_w916, v_w917, o, h, q => by rw [G_oom_Pick_L1] at h; cases h
  | k + 1, v_got914, v_x915, v_w916, v_w917, o, h, q => by
    rw [G_oom_Pick_L1] at h
    by_cases h944 : v_x915 < (v_r913.length : Int)
    · rw [if_pos h944] at h
      by_cases h949 : 0 ≤ v_x915 ∧ (v_x915).toNat < v_w917.length
      · rw [if_pos h949] at h
        obtain ⟨v_y920, h950, h⟩ := bind_some h
        by_cases h951 : v_got914 ≥ v_n903
        · rw [if_pos h951] at h
          cases h
          exact pkk_sound TTok mix hF 19 (hs := [.t true, .y (eS_oom_Task v_y920), .c, .t true]) (ts := []) (s := [0]) (l := [1, 8, 9]) (by kernel_rfl) (by kernel_rfl) (.cons (dt h944) (.cons (idx_ob (f := eS_oom_Task) h949) (.cons (get_ob (f := eS_oom_Task) h950) (.cons (show 0 + 4 ≤ 4 by decide) (.cons (dt h951) .nil))))) q
        · rw [if_neg h951] at h
          obtain ⟨v_a923, h952, h⟩ := bind_some h
          exact pkk_sound TTok mix hF 18 (hs := [.t true, .y (eS_oom_Task v_y920), .c, .t false, .c, .bd, .w (v_a923.map (eI .i64)), .c]) (ts := []) (s := [38, 1]) (l := [1, 8, 9, 19, 20, 21]) (by kernel_rfl) (by kernel_rfl) (.cons (dt h944) (.cons (idx_ob (f := eS_oom_Task) h949) (.cons (get_ob (f := eS_oom_Task) h950) (.cons (show 0 + 4 ≤ 4 by decide) (.cons (df h951) (.cons (app_ob (f := (eI .i64)) (s := 1) h952 (fun _ => rfl)).1 (.cons (app_ob (f := (eI .i64)) (s := 1) h952 (fun _ => rfl)).2.1 (.cons (app_ob (f := (eI .i64)) (s := 1) h952 (fun _ => rfl)).2.2.1 (.cons (app_ob (f := (eI .i64)) (s := 1) h952 (fun _ => rfl)).2.2.2 .nil))))))))) (G_oom_Pick_L1_ok hF ks n v_n903 v_r913 k (wi .i64 (v_got914 + v_y920.fPages)) (wi .i64 (v_x915 + 1)) v_a923 v_w917 _ h q)
      · rw [if_neg h949] at h; cases h
    · rw [if_neg h944] at h
      cases h
      exact pkk_sound TTok mix hF 8 (hs := [.t false]) (ts := []) (s := [0]) (l := [1, 8, 9]) (by kernel_rfl) (by kernel_rfl) (.cons (df h944) .nil) q
/- ringhall/oom.Pick -/
def G_oom_Pick (n : Nat) (v_l902 : (List S_oom_Task)) (v_n903 : Int) : Option ((List Int) × Int × Int) :=
  (G_oom_need n v_l902 v_n903).bind fun (v_r912 : (Int)) =>
  if v_r912 = 0 then
   (G_oom_ordered_h n v_l902).bind fun (v_r913 : ((List S_oom_Task))) =>
   (G_oom_Pick_L1 n v_n903 v_r913 n 0 0 ([] : List Int) v_r913).bind fun v_o926 => match v_o926 with
   | .x0 v_z927 v_z928 =>
     if v_z927 < v_n903 then
      some (([] : (List Int)), 0, 6)
     else
      some (v_z928, v_z927, 0)
  else
   some (([] : (List Int)), 0, v_r912)
theorem G_oom_Pick_ok (n : Nat) (v_l902 : (List S_oom_Task)) (v_n903 : Int) (r : (List Int) × Int × Int) (h : G_oom_Pick n v_l902 v_n903 = some r) : Ret Try.prog 106 [(eL eS_oom_Task) v_l902, (eI .i64) v_n903] (.tup [(eL (eI .i64)) r.1, (eI .i64) r.2.1, (eI .i64) r.2.2]) := by
  refine ret_run (n := 43) (fn := Try.f106) (c := bodyOf Try.f106) (by kernel_rfl) (by kernel_rfl) (by kernel_rfl) (by kernel_rfl) ?_
  have hF : KC 43 (FinR Try.prog Try.f106 (.tup [(eL (eI .i64)) r.1, (eI .i64) r.2.1, (eI .i64) r.2.2])) := FinR.kc' (by kernel_rfl)
  unfold G_oom_Pick at h
  obtain ⟨v_r912, h940, h⟩ := bind_some h
  by_cases h942 : v_r912 = 0
  · rw [if_pos h942] at h
    obtain ⟨v_r913, h943, h⟩ := bind_some h
    obtain ⟨v_o926, h953, h⟩ := bind_some h
    refine pkk_sound TTok mix hF 18 (hs := [.r ((eI .i64) v_r912), .t false, .h [] [] [.row 207 4 (v_r913.map eS_oom_Task)] (.srf 0), .u (.d (.v (.int .i64 (v_r913.length : Int)))), .n n]) (ts := [(8, 3, 1)]) (s := [45, 36]) (l := [1, 8, 9, 19, 20, 21]) (by kernel_rfl) (by kernel_rfl) (.cons (G_oom_need_ok n v_l902 v_n903 _ h940) (.cons (nf h942) (.cons (G_oom_ordered_h_ok n v_l902 _ h943) (.cons (len_ob (f := eS_oom_Task) (l := v_r913)) .nil)))) (G_oom_Pick_L1_ok hF (.b 0 :: .s (cR (cR (cR (cR (cR (bodyOf Try.f106)))))) :: []) n v_n903 v_r913 n 0 0 ([] : List Int) v_r913 _ h953 ?_)
    cases v_o926 with
    | x0 v_z927 v_z928 =>
      try dsimp only at h
      by_cases h955 : v_z927 < v_n903
      · rw [if_pos h955] at h
        obtain rfl := Option.some.inj h
        exact pend_sound TTok mix 9 (hs := [.t true]) (by kernel_rfl) (by kernel_rfl) (by kernel_rfl) (.cons (dt h955) .nil)
      · rw [if_neg h955] at h
        obtain rfl := Option.some.inj h
        exact pend_sound TTok mix 9 (hs := [.t false]) (by kernel_rfl) (by kernel_rfl) (by kernel_rfl) (.cons (df h955) .nil)
  · rw [if_neg h942] at h
    obtain rfl := Option.some.inj h
    exact pend_sound TTok mix 12 (hs := [.r ((eI .i64) v_r912), .t true]) (by kernel_rfl) (by kernel_rfl) (by kernel_rfl) (.cons (G_oom_need_ok n v_l902 v_n903 _ h940) (.cons (nt h942) .nil))
/- ringhall/oom.Fewest$1 -/
def G_oom_Fewest_1 (n : Nat) (v_a934 : S_oom_Task) (v_b935 : S_oom_Task) : Option (Int) :=
  (G_cmp_Compare_int n v_b935.fPages v_a934.fPages).bind fun (v_r936 : (Int)) =>
  some v_r936
theorem G_oom_Fewest_1_ok (n : Nat) (v_a934 : S_oom_Task) (v_b935 : S_oom_Task) (r : Int) (h : G_oom_Fewest_1 n v_a934 v_b935 = some r) : Ret Try.prog 205 [eS_oom_Task v_a934, eS_oom_Task v_b935] ((eI .i64) r) := by
  refine ret_run (n := 10) (fn := Try.f205) (c := bodyOf Try.f205) (by kernel_rfl) (by kernel_rfl) (by kernel_rfl) (by kernel_rfl) ?_
  have hF : KC 10 (FinR Try.prog Try.f205 ((eI .i64) r)) := FinR.kc' (by kernel_rfl)
  unfold G_oom_Fewest_1 at h
  obtain ⟨v_r936, h961, h⟩ := bind_some h
  obtain rfl := Option.some.inj h
  exact pend_sound TTok mix 5 (hs := [.c, .c, .r ((eI .i64) v_r936)]) (by kernel_rfl) (by kernel_rfl) (by kernel_rfl) (.cons (G_cmp_Compare_int_ok n v_b935.fPages v_a934.fPages _ h961) .nil)
inductive G_oom_Fewest_L1_R where
  | x0 (v_x943 : Int) (v_x944 : Int)
  | x1 
def G_oom_Fewest_L1_ex : G_oom_Fewest_L1_R → Ex
  | .x0 _ _ => .ret
  | .x1  => .exit 0
def G_oom_Fewest_L1_st (v_n931 : Int) (v_r937 : ((List S_oom_Task))) : G_oom_Fewest_L1_R → PS
  | .x0 v_x943 v_x944 => ⟨[dd, dd, dd, dd, .d (.v (.int .i64 v_x943)), .d (.v (.int .i64 v_x944)), dd, dd, dd, dd, dd, dd, dd, dd, dd, dd, dd, dd, dd, dd, dd, dd, dd, dd, dd, dd, dd, dd, dd, dd, dd, dd, dd, dd, dd, dd, dd], []⟩
  | .x1  => ⟨[dd, dd, dd, dd, dd, dd, dd, dd, dd, dd, dd, dd, dd, dd, dd, dd, dd, dd, dd, dd, dd, dd, dd, dd, dd, dd, dd, dd, dd, dd, dd, dd, dd, dd, dd, dd, dd], []⟩
def G_oom_Fewest_L1_hd (v_n931 : Int) (v_r937 : ((List S_oom_Task))) (v_got938 : Int) (v_x939 : Int) (v_w940 : (List S_oom_Task)) : PS := ⟨[dd, .d (.v (.int .i64 v_n931)), dd, dd, dd, dd, dd, .d (.v (.int .i64 v_got938)), dd, dd, dd, dd, dd, dd, dd, dd, dd, dd, dd, dd, .srf 0, .d (.v (.int .i64 (v_r937.length : Int))), .d (.v (.int .i64 v_x939)), dd, dd, dd, dd, dd, dd, dd, dd, dd, dd, dd, dd, dd, dd], [.row 207 4 (v_w940.map eS_oom_Task)]⟩
def G_oom_Fewest_L1 (n : Nat) (v_n931 : Int) (v_r937 : ((List S_oom_Task))) : Nat → Int → Int → (List S_oom_Task) → Option G_oom_Fewest_L1_R
  | 0, _, _, _ => none
  | k + 1, v_got938, v_x939, v_w940 =>
    if v_x939 < (v_r937.length : Int) then
     if 0 ≤ v_x939 ∧ (v_x939).toNat < v_w940.length then
      (v_w940[(v_x939).toNat]?).bind fun (v_y942 : S_oom_Task) =>
      if (wi .i64 (v_got938 + v_y942.fPages)) ≥ v_n931 then
       some (.x0 (wi .i64 (v_x939 + 1)) 0)
      else
       G_oom_Fewest_L1 n v_n931 v_r937 k (wi .i64 (v_got938 + v_y942.fPages)) (wi .i64 (v_x939 + 1)) v_w940
     else none
    else
     some (.x1 )
theorem G_oom_Fewest_L1_ok {Fi : Ex → PS → Prop} (hF : KC 37 Fi) (ks : List Fr) (n : Nat) (v_n931 : Int) (v_r937 : ((List S_oom_Task)))  : ∀ (k : Nat) (v_got938 : Int) (v_x939 : Int) (v_w940 : (List S_oom_Task)) (o : G_oom_Fewest_L1_R), G_oom_Fewest_L1 n v_n931 v_r937 k v_got938 v_x939 v_w940 = some o → RunE Try.prog 37 Fi ks (G_oom_Fewest_L1_ex o) (G_oom_Fewest_L1_st v_n931 v_r937 o) → RunE Try.prog 37 Fi (.l k (cP (cB (cR (cL (cR (cR (cR (cR (cR (bodyOf Try.f107)))))))))) :: ks) .normal (G_oom_Fewest_L1_hd v_n931 v_r937 v_got938 v_x939 v_w940)
  | 0, v_got938, v_x939, v_w940, o, h, q => by rw [G_oom_Fewest_L1] at h; cases h
  | k + 1, v_got938, v_x939, v_w940, o, h, q => by
    rw [G_oom_Fewest_L1] at h
    by_cases h963 : v_x939 < (v_r937.length : Int)
    · rw [if_pos h963] at h
      by_cases h968 : 0 ≤ v_x939 ∧ (v_x939).toNat < v_w940.length
      · rw [if_pos h968] at h
        obtain ⟨v_y942, h969, h⟩ := bind_some h
        by_cases h971 : (wi .i64 (v_got938 + v_y942.fPages)) ≥ v_n931
        · rw [if_pos h971] at h
          cases h
          exact pkk_sound TTok mix hF 21 (hs := [.t true, .y (eS_oom_Task v_y942), .c, .c, .t true]) (ts := []) (s := []) (l := [4, 5]) (by kernel_rfl) (by kernel_rfl) (.cons (dt h963) (.cons (idx_ob (f := eS_oom_Task) h968) (.cons (get_ob (f := eS_oom_Task) h969) (.cons (show 0 + 4 ≤ 4 by decide) (.cons (dt h971) .nil))))) q
        · rw [if_neg h971] at h
          exact pkk_sound TTok mix hF 18 (hs := [.t true, .y (eS_oom_Task v_y942), .c, .c, .t false]) (ts := []) (s := [0]) (l := [1, 7, 20, 21, 22]) (by kernel_rfl) (by kernel_rfl) (.cons (dt h963) (.cons (idx_ob (f := eS_oom_Task) h968) (.cons (get_ob (f := eS_oom_Task) h969) (.cons (show 0 + 4 ≤ 4 by decide) (.cons (df h971) .nil))))) (G_oom_Fewest_L1_ok hF ks n v_n931 v_r937 k (wi .i64 (v_got938 + v_y942.fPages)) (wi .i64 (v_x939 + 1)) v_w940 _ h q)
      · rw [if_neg h968] at h; cases h
    · rw [if_neg h963] at h
      cases h
      exact pkk_sound TTok mix hF 8 (hs := [.t false]) (ts := []) (s := []) (l := []) (by kernel_rfl) (by kernel_rfl) (.cons (df h963) .nil) q
/- ringhall/oom.Fewest -/
def G_oom_Fewest (n : Nat) (v_l930 : (List S_oom_Task)) (v_n931 : Int) : Option (Int × Int) :=
  (G_oom_need n v_l930 v_n931).bind fun (v_r932 : (Int)) =>
  if v_r932 = 0 then
   (G_oom_ordered_h n v_l930).bind fun (v_r933 : ((List S_oom_Task))) =>
   (G_slices_SortFunc_oom_Task_oom_Task_h n v_r933 (fun (y0 : S_oom_Task) (y1 : S_oom_Task) => G_oom_Fewest_1 n y0 y1)).bind fun (v_r937 : ((List S_oom_Task))) =>
   (G_oom_Fewest_L1 n v_n931 v_r937 n 0 0 v_r937).bind fun v_o945 => match v_o945 with
   | .x0 v_z946 v_z947 =>
     some (v_z946, v_z947)
   | .x1  =>
     some (0, 6)
  else
   some (0, v_r932)
theorem G_oom_Fewest_ok (n : Nat) (v_l930 : (List S_oom_Task)) (v_n931 : Int) (r : Int × Int) (h : G_oom_Fewest n v_l930 v_n931 = some r) : Ret Try.prog 107 [(eL eS_oom_Task) v_l930, (eI .i64) v_n931] (.tup [(eI .i64) r.1, (eI .i64) r.2]) := by
  refine ret_run (n := 37) (fn := Try.f107) (c := bodyOf Try.f107) (by kernel_rfl) (by kernel_rfl) (by kernel_rfl) (by kernel_rfl) ?_
  have hF : KC 37 (FinR Try.prog Try.f107 (.tup [(eI .i64) r.1, (eI .i64) r.2])) := FinR.kc' (by kernel_rfl)
  unfold G_oom_Fewest at h
  obtain ⟨v_r932, h957, h⟩ := bind_some h
  by_cases h959 : v_r932 = 0
  · rw [if_pos h959] at h
    obtain ⟨v_r933, h960, h⟩ := bind_some h
    obtain ⟨v_r937, h962, h⟩ := bind_some h
    obtain ⟨v_o945, h972, h⟩ := bind_some h
    refine pkk_sound TTok mix hF 20 (hs := [.r ((eI .i64) v_r932), .t false, .h [] [] [.row 207 4 (v_r933.map eS_oom_Task)] (.srf 0), .h [27] [] [.row 207 4 (v_r937.map eS_oom_Task)] (.tup []), .u (.d (.v (.int .i64 (v_r937.length : Int)))), .n n]) (ts := []) (s := [27]) (l := [1, 7, 20, 21, 22]) (by kernel_rfl) (by kernel_rfl) (.cons (G_oom_need_ok n v_l930 v_n931 _ h957) (.cons (nf h959) (.cons (G_oom_ordered_h_ok n v_l930 _ h960) (.cons (G_slices_SortFunc_oom_Task_oom_Task_h_ok n v_r933 (fun (y0 : S_oom_Task) (y1 : S_oom_Task) => G_oom_Fewest_1 n y0 y1) 205 [] (fun y0 y1 r h => G_oom_Fewest_1_ok n y0 y1 r h) _ h962) (.cons (len_ob (f := eS_oom_Task) (l := v_r937)) .nil))))) (G_oom_Fewest_L1_ok hF (.b 0 :: .s (cR (cR (cR (cR (cR (cR (bodyOf Try.f107))))))) :: []) n v_n931 v_r937 n 0 0 v_r937 _ h972 ?_)
    cases v_o945 with
    | x0 v_z946 v_z947 =>
      try dsimp only at h
      obtain rfl := Option.some.inj h
      exact pend_sound TTok mix 2 (hs := []) (by kernel_rfl) (by kernel_rfl) (by kernel_rfl) .nil
    | x1  =>
      try dsimp only at h
      obtain rfl := Option.some.inj h
      exact pend_sound TTok mix 4 (hs := []) (by kernel_rfl) (by kernel_rfl) (by kernel_rfl) .nil
  · rw [if_neg h959] at h
    obtain rfl := Option.some.inj h
    exact pend_sound TTok mix 12 (hs := [.r ((eI .i64) v_r932), .t true]) (by kernel_rfl) (by kernel_rfl) (by kernel_rfl) (.cons (G_oom_need_ok n v_l930 v_n931 _ h957) (.cons (nt h959) .nil))
/- ringhall/ringref2.In -/
def G_ringref2_In (n : Nat) (v_n952 : Int) (v_least953 : Int) (v_most954 : Int) : Option (Bool) :=
  if v_n952 ≥ v_least953 then
   some (decide (v_n952 ≤ v_most954))
  else
   some false
theorem G_ringref2_In_ok (n : Nat) (v_n952 : Int) (v_least953 : Int) (v_most954 : Int) (r : Bool) (h : G_ringref2_In n v_n952 v_least953 v_most954 = some r) : Ret Try.prog 35 [(eI .i64) v_n952, (eI .i64) v_least953, (eI .i64) v_most954] (eB r) := by
  refine ret_run (n := 15) (fn := Try.f35) (c := bodyOf Try.f35) (by kernel_rfl) (by kernel_rfl) (by kernel_rfl) (by kernel_rfl) ?_
  have hF : KC 15 (FinR Try.prog Try.f35 (eB r)) := FinR.kc' (by kernel_rfl)
  unfold G_ringref2_In at h
  by_cases h977 : v_n952 ≥ v_least953
  · rw [if_pos h977] at h
    obtain rfl := Option.some.inj h
    exact pend_sound TTok mix 5 (hs := [.t true, .c, .c]) (by kernel_rfl) (by kernel_rfl) (by kernel_rfl) (.cons (dt h977) .nil)
  · rw [if_neg h977] at h
    obtain rfl := Option.some.inj h
    exact pend_sound TTok mix 5 (hs := [.t false, .c, .c]) (by kernel_rfl) (by kernel_rfl) (by kernel_rfl) (.cons (df h977) .nil)
inductive G_ringref2_Tasks_C1_R where
  | x0 (v_x959 : Bool)
def G_ringref2_Tasks_C1_ex : G_ringref2_Tasks_C1_R → Ex
  | .x0 _ => .normal
def G_ringref2_Tasks_C1_st (v_l949 : (List S_oom_Task)) (v_x950 : Int) (v_y951 : S_oom_Task) : G_ringref2_Tasks_C1_R → PS
  | .x0 v_x959 => ⟨[.d (.sl (v_l949.map eS_oom_Task)), dd, dd, .d (.v (.int .i64 v_x950)), .ref 0 0, dd, dd, dd, dd, dd, .d (.sl (v_l949.map eS_oom_Task)), .d (.v (.int .i64 (v_l949.length : Int))), .d (.v (.int .i64 v_x950)), dd, dd, dd, dd, dd, dd, dd, dd, dd, dd, dd, dd, dd, dd, dd, dd, dd, dd, dd, .d (.v (.bool v_x959)), dd, dd, dd, dd, dd, dd, dd, dd, dd, dd, dd, dd, dd, dd, dd], [.box [.d (.v (.int .i64 v_y951.fId)), .d (.v (.int .i64 v_y951.fPages)), .d (.v (.int .i64 v_y951.fScore)), .d (.v (.bool v_y951.fKept))]]⟩
def G_ringref2_Tasks_C1_hd (v_l949 : (List S_oom_Task)) (v_x950 : Int) (v_y951 : S_oom_Task)  : PS := ⟨[.d (.sl (v_l949.map eS_oom_Task)), dd, dd, .d (.v (.int .i64 v_x950)), .ref 0 0, dd, dd, dd, dd, dd, .d (.sl (v_l949.map eS_oom_Task)), .d (.v (.int .i64 (v_l949.length : Int))), .d (.v (.int .i64 v_x950)), dd, dd, dd, dd, dd, dd, dd, dd, dd, dd, dd, dd, dd, dd, dd, dd, dd, dd, dd, dd, dd, dd, dd, dd, dd, dd, dd, dd, dd, dd, dd, dd, dd, dd, dd], [.box [.d (.v (.int .i64 v_y951.fId)), .d (.v (.int .i64 v_y951.fPages)), .d (.v (.int .i64 v_y951.fScore)), .d (.v (.bool v_y951.fKept))]]⟩
def G_ringref2_Tasks_C1 (n : Nat) (v_l949 : (List S_oom_Task)) (v_x950 : Int) (v_y951 : S_oom_Task) : Option G_ringref2_Tasks_C1_R :=
  (G_ringref2_In n v_y951.fId 1 16).bind fun (v_r958 : (Bool)) =>
  if v_r958 = true then
   (G_ringref2_In n v_y951.fPages 0 1048576).bind fun (v_r960 : (Bool)) =>
   if v_r960 = true then
    (G_ringref2_In n v_y951.fScore 0 1048576).bind fun (v_r962 : (Bool)) =>
    some (.x0 (!v_r962))
   else
    some (.x0 true)
  else
   some (.x0 true)
theorem G_ringref2_Tasks_C1_ok {Fi : Ex → PS → Prop} (hF : KC 48 Fi) (ks : List Fr) (n : Nat) (v_l949 : (List S_oom_Task)) (v_x950 : Int) (v_y951 : S_oom_Task)  (o : G_ringref2_Tasks_C1_R) (h : G_ringref2_Tasks_C1 n v_l949 v_x950 v_y951 = some o) (q : RunE Try.prog 48 Fi ks (G_ringref2_Tasks_C1_ex o) (G_ringref2_Tasks_C1_st v_l949 v_x950 v_y951 o)) : RunE Try.prog 48 Fi (.s (cL (cL (cR (cB (cL (cR (cR (cP (cB (cR (cL (cR (cR (bodyOf Try.f108)))))))))))))) :: ks) .normal (G_ringref2_Tasks_C1_hd v_l949 v_x950 v_y951) := by
  unfold G_ringref2_Tasks_C1 at h
  obtain ⟨v_r958, h983, h⟩ := bind_some h
  by_cases h984 : v_r958 = true
  · rw [if_pos h984] at h
    obtain ⟨v_r960, h985, h⟩ := bind_some h
    by_cases h986 : v_r960 = true
    · rw [if_pos h986] at h
      obtain ⟨v_r962, h987, h⟩ := bind_some h
      cases h
      exact pkk_sound TTok mix hF 1 (hs := [.c, .r (eB v_r958), .t false, .c, .c, .c, .r (eB v_r960), .c, .t false, .c, .c, .c, .r (eB v_r962), .c]) (ts := []) (s := [0]) (l := [0, 3, 4, 10, 11, 12, 32]) (by kernel_rfl) (by kernel_rfl) (.cons (G_ringref2_In_ok n v_y951.fId 1 16 _ h983) (.cons (bnf h984) (.cons (G_ringref2_In_ok n v_y951.fPages 0 1048576 _ h985) (.cons (bnf h986) (.cons (G_ringref2_In_ok n v_y951.fScore 0 1048576 _ h987) .nil))))) q
    · rw [if_neg h986] at h
      cases h
      exact pkk_sound TTok mix hF 1 (hs := [.c, .r (eB v_r958), .t false, .c, .c, .c, .r (eB v_r960), .c, .t true, .c, .c, .c]) (ts := []) (s := [0]) (l := [0, 3, 4, 10, 11, 12, 32]) (by kernel_rfl) (by kernel_rfl) (.cons (G_ringref2_In_ok n v_y951.fId 1 16 _ h983) (.cons (bnf h984) (.cons (G_ringref2_In_ok n v_y951.fPages 0 1048576 _ h985) (.cons (bnt (vf h986)) .nil)))) q
  · rw [if_neg h984] at h
    cases h
    exact pkk_sound TTok mix hF 1 (hs := [.c, .r (eB v_r958), .t true, .c, .c, .c, .c, .c, .c, .c]) (ts := []) (s := [0]) (l := [0, 3, 4, 10, 11, 12, 32]) (by kernel_rfl) (by kernel_rfl) (.cons (G_ringref2_In_ok n v_y951.fId 1 16 _ h983) (.cons (bnt (vf h984)) .nil)) q
inductive G_ringref2_Tasks_L2_R where
  | x0 (v_x971 : Int)
  | x1 
def G_ringref2_Tasks_L2_ex : G_ringref2_Tasks_L2_R → Ex
  | .x0 _ => .ret
  | .x1  => .exit 2
def G_ringref2_Tasks_L2_st (v_l949 : (List S_oom_Task)) (v_x950 : Int) (v_s967 : (List S_oom_Task)) (v_y951 : S_oom_Task) : G_ringref2_Tasks_L2_R → PS
  | .x0 v_x971 => ⟨[dd, dd, .d (.v (.int .i64 v_x971)), dd, dd, dd, dd, dd, dd, dd, dd, dd, dd, dd, dd, dd, dd, dd, dd, dd, dd, dd, dd, dd, dd, dd, dd, dd, dd, dd, dd, dd, dd, dd, dd, dd, dd, dd, dd, dd, dd, dd, dd, dd, dd, dd, dd, dd], []⟩
  | .x1  => ⟨[.d (.sl (v_l949.map eS_oom_Task)), dd, dd, dd, dd, dd, dd, dd, dd, dd, .d (.sl (v_l949.map eS_oom_Task)), .d (.v (.int .i64 (v_l949.length : Int))), .d (.v (.int .i64 v_x950)), dd, dd, dd, dd, dd, dd, dd, dd, dd, dd, dd, dd, dd, dd, dd, dd, dd, dd, dd, dd, dd, dd, dd, dd, dd, dd, dd, dd, dd, dd, dd, dd, dd, dd, dd], []⟩
def G_ringref2_Tasks_L2_hd (v_l949 : (List S_oom_Task)) (v_x950 : Int) (v_s967 : (List S_oom_Task)) (v_y951 : S_oom_Task) (v_x968 : Int) : PS := ⟨[.d (.sl (v_l949.map eS_oom_Task)), dd, dd, dd, .ref 0 0, dd, dd, dd, dd, dd, .d (.sl (v_l949.map eS_oom_Task)), .d (.v (.int .i64 (v_l949.length : Int))), .d (.v (.int .i64 v_x950)), dd, dd, dd, dd, dd, dd, dd, dd, dd, dd, dd, dd, dd, dd, dd, dd, dd, dd, dd, dd, dd, dd, .d (.sl (v_s967.map eS_oom_Task)), .d (.v (.int .i64 (v_s967.length : Int))), .d (.v (.int .i64 v_x968)), dd, dd, dd, dd, dd, dd, dd, dd, dd, dd], [.box [.d (.v (.int .i64 v_y951.fId)), .d (.v (.int .i64 v_y951.fPages)), .d (.v (.int .i64 v_y951.fScore)), .d (.v (.bool v_y951.fKept))]]⟩
def G_ringref2_Tasks_L2 (n : Nat) (v_l949 : (List S_oom_Task)) (v_x950 : Int) (v_s967 : (List S_oom_Task)) (v_y951 : S_oom_Task) : Nat → Int → Option G_ringref2_Tasks_L2_R
  | 0, _ => none
  | k + 1, v_x968 =>
    if v_x968 < (v_s967.length : Int) then
     (getI v_s967 v_x968).bind fun (v_y970 : S_oom_Task) =>
     if v_y970.fId = v_y951.fId then
      some (.x0 5)
     else
      G_ringref2_Tasks_L2 n v_l949 v_x950 v_s967 v_y951 k (wi .i64 (v_x968 + 1))
    else
     some (.x1 )
theorem G_ringref2_Tasks_L2_ok {Fi : Ex → PS → Prop} (hF : KC 48 Fi) (ks : List Fr) (n : Nat) (v_l949 : (List S_oom_Task)) (v_x950 : Int) (v_s967 : (List S_oom_Task)) (v_y951 : S_oom_Task)  : ∀ (k : Nat) (v_x968 : Int) (o : G_ringref2_Tasks_L2_R), G_ringref2_Tasks_L2 n v_l949 v_x950 v_s967 v_y951 k v_x968 = some o → RunE Try.prog 48 Fi ks (G_ringref2_Tasks_L2_ex o) (G_ringref2_Tasks_L2_st v_l949 v_x950 v_s967 v_y951 o) → RunE Try.prog 48 Fi (.l k (cP (cB (cR (cR (cR (cB (cL (cR (cR (cP (cB (cR (cL (cR (cR (bodyOf Try.f108)))))))))))))))) :: ks) .normal (G_ringref2_Tasks_L2_hd v_l949 v_x950 v_s967 v_y951 v_x968)
  | 0, v_x968, o, h, q => by rw [G_ringref2_Tasks_L2] at h; cases h
  | k + 1, v_x968, o, h, q => by
    rw [G_ringref2_Tasks_L2] at h
    by_cases h991 : v_x968 < (v_s967.length : Int)
    · rw [if_pos h991] at h
      obtain ⟨v_y970, h994, h⟩ := bind_some h
      by_cases h995 : v_y970.fId = v_y951.fId
      · rw [if_pos h995] at h
        cases h
        exact pkk_sound TTok mix hF 19 (hs := [.t true, .y (eS_oom_Task v_y970), .c, .c, .c, .t true]) (ts := []) (s := []) (l := [2]) (by kernel_rfl) (by kernel_rfl) (.cons (dt h991) (.cons (getI_ob (f := eS_oom_Task) h994) (.cons (show 0 + 4 ≤ 4 by decide) (.cons (bt h995) .nil)))) q
      · rw [if_neg h995] at h
        exact pkk_sound TTok mix hF 16 (hs := [.t true, .y (eS_oom_Task v_y970), .c, .c, .c, .t false]) (ts := []) (s := [0]) (l := [0, 4, 10, 11, 12, 35, 36, 37]) (by kernel_rfl) (by kernel_rfl) (.cons (dt h991) (.cons (getI_ob (f := eS_oom_Task) h994) (.cons (show 0 + 4 ≤ 4 by decide) (.cons (bf h995) .nil)))) (G_ringref2_Tasks_L2_ok hF ks n v_l949 v_x950 v_s967 v_y951 k (wi .i64 (v_x968 + 1)) _ h q)
    · rw [if_neg h991] at h
      cases h
      exact pkk_sound TTok mix hF 8 (hs := [.t false]) (ts := []) (s := []) (l := [0, 10, 11, 12]) (by kernel_rfl) (by kernel_rfl) (.cons (df h991) .nil) q
inductive G_ringref2_Tasks_L3_R where
  | x0 (v_x966 : Int)
  | x1 
def G_ringref2_Tasks_L3_ex : G_ringref2_Tasks_L3_R → Ex
  | .x0 _ => .ret
  | .x1  => .exit 0
def G_ringref2_Tasks_L3_st (v_l949 : (List S_oom_Task)) : G_ringref2_Tasks_L3_R → PS
  | .x0 v_x966 => ⟨[dd, dd, .d (.v (.int .i64 v_x966)), dd, dd, dd, dd, dd, dd, dd, dd, dd, dd, dd, dd, dd, dd, dd, dd, dd, dd, dd, dd, dd, dd, dd, dd, dd, dd, dd, dd, dd, dd, dd, dd, dd, dd, dd, dd, dd, dd, dd, dd, dd, dd, dd, dd, dd], []⟩
  | .x1  => ⟨[dd, dd, dd, dd, dd, dd, dd, dd, dd, dd, dd, dd, dd, dd, dd, dd, dd, dd, dd, dd, dd, dd, dd, dd, dd, dd, dd, dd, dd, dd, dd, dd, dd, dd, dd, dd, dd, dd, dd, dd, dd, dd, dd, dd, dd, dd, dd, dd], []⟩
def G_ringref2_Tasks_L3_hd (v_l949 : (List S_oom_Task)) (v_x950 : Int) : PS := ⟨[.d (.sl (v_l949.map eS_oom_Task)), dd, dd, dd, dd, dd, dd, dd, dd, dd, .d (.sl (v_l949.map eS_oom_Task)), .d (.v (.int .i64 (v_l949.length : Int))), .d (.v (.int .i64 v_x950)), dd, dd, dd, dd, dd, dd, dd, dd, dd, dd, dd, dd, dd, dd, dd, dd, dd, dd, dd, dd, dd, dd, dd, dd, dd, dd, dd, dd, dd, dd, dd, dd, dd, dd, dd], []⟩
def G_ringref2_Tasks_L3 (n : Nat) (v_l949 : (List S_oom_Task)) : Nat → Int → Option G_ringref2_Tasks_L3_R
  | 0, _ => none
  | k + 1, v_x950 =>
    if v_x950 < (v_l949.length : Int) then
     (getI v_l949 v_x950).bind fun (v_y951 : S_oom_Task) =>
     (G_ringref2_Tasks_C1 n v_l949 v_x950 v_y951).bind fun v_o964 => match v_o964 with
     | .x0 v_z965 =>
       if v_z965 = true then
        some (.x0 1)
       else
        (sub v_l949 0 v_x950).bind fun (v_s967 : (List S_oom_Task)) =>
        (G_ringref2_Tasks_L2 n v_l949 v_x950 v_s967 v_y951 n 0).bind fun v_o972 => match v_o972 with
        | .x0 v_z973 =>
          some (.x0 v_z973)
        | .x1  =>
          G_ringref2_Tasks_L3 n v_l949 k (wi .i64 (v_x950 + 1))
    else
     some (.x1 )
theorem G_ringref2_Tasks_L3_ok {Fi : Ex → PS → Prop} (hF : KC 48 Fi) (ks : List Fr) (n : Nat) (v_l949 : (List S_oom_Task))  : ∀ (k : Nat) (v_x950 : Int) (o : G_ringref2_Tasks_L3_R), G_ringref2_Tasks_L3 n v_l949 k v_x950 = some o → RunE Try.prog 48 Fi ks (G_ringref2_Tasks_L3_ex o) (G_ringref2_Tasks_L3_st v_l949 o) → RunE Try.prog 48 Fi (.l k (cP (cB (cR (cL (cR (cR (bodyOf Try.f108))))))) :: ks) .normal (G_ringref2_Tasks_L3_hd v_l949 v_x950)
  | 0, v_x950, o, h, q => by rw [G_ringref2_Tasks_L3] at h; cases h
  | k + 1, v_x950, o, h, q => by
    rw [G_ringref2_Tasks_L3] at h
    by_cases h975 : v_x950 < (v_l949.length : Int)
    · rw [if_pos h975] at h
      obtain ⟨v_y951, h976, h⟩ := bind_some h
      obtain ⟨v_o964, h988, h⟩ := bind_some h
      refine pkk_sound TTok mix hF 12 (hs := [.t true, .y (eS_oom_Task v_y951), .c]) (ts := []) (s := [12]) (l := [0, 3, 4, 10, 11, 12]) (by kernel_rfl) (by kernel_rfl) (.cons (dt h975) (.cons (getI_ob (f := eS_oom_Task) h976) (.cons (show 0 + 4 ≤ 4 by decide) .nil))) (G_ringref2_Tasks_C1_ok hF (.s (cR (cL (cR (cB (cL (cR (cR (cP (cB (cR (cL (cR (cR (bodyOf Try.f108)))))))))))))) :: .s (cR (cR (cB (cL (cR (cR (cP (cB (cR (cL (cR (cR (bodyOf Try.f108))))))))))))) :: .b 1 :: .s (cR (cR (cR (cP (cB (cR (cL (cR (cR (bodyOf Try.f108)))))))))) :: .l k (cP (cB (cR (cL (cR (cR (bodyOf Try.f108))))))) :: ks) n v_l949 v_x950 v_y951 _ h988 ?_)
      cases v_o964 with
      | x0 v_z965 =>
        try dsimp only at h
        by_cases h989 : v_z965 = true
        · rw [if_pos h989] at h
          cases h
          exact pkk_sound TTok mix hF 8 (hs := [.t true]) (ts := []) (s := []) (l := [2]) (by kernel_rfl) (by kernel_rfl) (.cons h989 .nil) q
        · rw [if_neg h989] at h
          obtain ⟨v_s967, h990, h⟩ := bind_some h
          obtain ⟨v_o972, h996, h⟩ := bind_some h
          refine pkk_sound TTok mix hF 6 (hs := [.t false, .w (v_s967.map eS_oom_Task), .u (.d (.v (.int .i64 (v_s967.length : Int)))), .n n]) (ts := []) (s := [0]) (l := [0, 4, 10, 11, 12, 35, 36, 37]) (by kernel_rfl) (by kernel_rfl) (.cons (vf h989) (.cons (sub_ob (f := eS_oom_Task) (s := 4) h990 (fun _ => rfl)).1 (.cons (sub_ob (f := eS_oom_Task) (s := 4) h990 (fun _ => rfl)).2.1 (.cons (sub_ob (f := eS_oom_Task) (s := 4) h990 (fun _ => rfl)).2.2.1 (.cons (sub_ob (f := eS_oom_Task) (s := 4) h990 (fun _ => rfl)).2.2.2.1 (.cons (sub_ob (f := eS_oom_Task) (s := 4) h990 (fun _ => rfl)).2.2.2.2 (.cons (len_ob (f := eS_oom_Task) (l := v_s967)) .nil))))))) (G_ringref2_Tasks_L2_ok hF (.b 2 :: .b 1 :: .s (cR (cR (cR (cP (cB (cR (cL (cR (cR (bodyOf Try.f108)))))))))) :: .l k (cP (cB (cR (cL (cR (cR (bodyOf Try.f108))))))) :: ks) n v_l949 v_x950 v_s967 v_y951 n 0 _ h996 ?_)
          cases v_o972 with
          | x0 v_z973 =>
            try dsimp only at h
            cases h
            exact pkk_sound TTok mix hF 4 (hs := []) (ts := []) (s := []) (l := [2]) (by kernel_rfl) (by kernel_rfl) .nil q
          | x1  =>
            try dsimp only at h
            exact pkk_sound TTok mix hF 3 (hs := []) (ts := []) (s := []) (l := [0, 10, 11, 12]) (by kernel_rfl) (by kernel_rfl) .nil (G_ringref2_Tasks_L3_ok hF ks n v_l949 k (wi .i64 (v_x950 + 1)) _ h q)
    · rw [if_neg h975] at h
      cases h
      exact pkk_sound TTok mix hF 8 (hs := [.t false]) (ts := []) (s := []) (l := []) (by kernel_rfl) (by kernel_rfl) (.cons (df h975) .nil) q
/- ringhall/ringref2.Tasks -/
def G_ringref2_Tasks (n : Nat) (v_l949 : (List S_oom_Task)) : Option (Int) :=
  if (v_l949.length : Int) > 16 then
   some 2
  else
   (G_ringref2_Tasks_L3 n v_l949 n 0).bind fun v_o975 => match v_o975 with
   | .x0 v_z976 =>
     some v_z976
   | .x1  =>
     some 0
theorem G_ringref2_Tasks_ok (n : Nat) (v_l949 : (List S_oom_Task)) (r : Int) (h : G_ringref2_Tasks n v_l949 = some r) : Ret Try.prog 108 [(eL eS_oom_Task) v_l949] ((eI .i64) r) := by
  refine ret_run (n := 48) (fn := Try.f108) (c := bodyOf Try.f108) (by kernel_rfl) (by kernel_rfl) (by kernel_rfl) (by kernel_rfl) ?_
  have hF : KC 48 (FinR Try.prog Try.f108 ((eI .i64) r)) := FinR.kc' (by kernel_rfl)
  unfold G_ringref2_Tasks at h
  by_cases h974 : (v_l949.length : Int) > 16
  · rw [if_pos h974] at h
    obtain rfl := Option.some.inj h
    exact pend_sound TTok mix 10 (hs := [.u (.d (.v (.int .i64 (v_l949.length : Int)))), .t true]) (by kernel_rfl) (by kernel_rfl) (by kernel_rfl) (.cons (len_ob (f := eS_oom_Task) (l := v_l949)) (.cons (dt h974) .nil))
  · rw [if_neg h974] at h
    obtain ⟨v_o975, h997, h⟩ := bind_some h
    refine pkk_sound TTok mix hF 12 (hs := [.u (.d (.v (.int .i64 (v_l949.length : Int)))), .t false, .u (.d (.v (.int .i64 (v_l949.length : Int)))), .n n]) (ts := []) (s := []) (l := [0, 10, 11, 12]) (by kernel_rfl) (by kernel_rfl) (.cons (len_ob (f := eS_oom_Task) (l := v_l949)) (.cons (df h974) (.cons (len_ob (f := eS_oom_Task) (l := v_l949)) .nil))) (G_ringref2_Tasks_L3_ok hF (.b 0 :: .s (cR (cR (cR (bodyOf Try.f108)))) :: []) n v_l949 n 0 _ h997 ?_)
    cases v_o975 with
    | x0 v_z976 =>
      try dsimp only at h
      obtain rfl := Option.some.inj h
      exact pend_sound TTok mix 2 (hs := []) (by kernel_rfl) (by kernel_rfl) (by kernel_rfl) .nil
    | x1  =>
      try dsimp only at h
      obtain rfl := Option.some.inj h
      exact pend_sound TTok mix 4 (hs := []) (by kernel_rfl) (by kernel_rfl) (by kernel_rfl) .nil
/- ringhall/ringref2.TaskAhead -/
def G_ringref2_TaskAhead (n : Nat) (v_a1018 : S_oom_Task) (v_b1019 : S_oom_Task) : Option (Bool) :=
  if v_a1018.fScore = v_b1019.fScore then
   if v_a1018.fPages = v_b1019.fPages then
    some (decide (v_a1018.fId < v_b1019.fId))
   else
    some (decide (v_a1018.fPages > v_b1019.fPages))
  else
   some (decide (v_a1018.fScore < v_b1019.fScore))
theorem G_ringref2_TaskAhead_ok (n : Nat) (v_a1018 : S_oom_Task) (v_b1019 : S_oom_Task) (r : Bool) (h : G_ringref2_TaskAhead n v_a1018 v_b1019 = some r) : Ret Try.prog 209 [eS_oom_Task v_a1018, eS_oom_Task v_b1019] (eB r) := by
  refine ret_run (n := 30) (fn := Try.f209) (c := bodyOf Try.f209) (by kernel_rfl) (by kernel_rfl) (by kernel_rfl) (by kernel_rfl) ?_
  have hF : KC 30 (FinR Try.prog Try.f209 (eB r)) := FinR.kc' (by kernel_rfl)
  unfold G_ringref2_TaskAhead at h
  by_cases h1044 : v_a1018.fScore = v_b1019.fScore
  · rw [if_pos h1044] at h
    by_cases h1046 : v_a1018.fPages = v_b1019.fPages
    · rw [if_pos h1046] at h
      obtain rfl := Option.some.inj h
      exact pend_sound TTok mix 15 (hs := [.c, .c, .t false, .c, .c, .t false, .c, .c]) (by kernel_rfl) (by kernel_rfl) (by kernel_rfl) (.cons (nf h1044) (.cons (nf h1046) .nil))
    · rw [if_neg h1046] at h
      obtain rfl := Option.some.inj h
      exact pend_sound TTok mix 15 (hs := [.c, .c, .t false, .c, .c, .t true, .c, .c]) (by kernel_rfl) (by kernel_rfl) (by kernel_rfl) (.cons (nf h1044) (.cons (nt h1046) .nil))
  · rw [if_neg h1044] at h
    obtain rfl := Option.some.inj h
    exact pend_sound TTok mix 10 (hs := [.c, .c, .t true, .c, .c]) (by kernel_rfl) (by kernel_rfl) (by kernel_rfl) (.cons (nt h1044) .nil)
inductive G_ringref2_TaskOrder_C1_R where
  | x0 (v_w1002 : (List S_oom_Task))
def G_ringref2_TaskOrder_C1_ex : G_ringref2_TaskOrder_C1_R → Ex
  | .x0 _ => .normal
def G_ringref2_TaskOrder_C1_st (v_l993 : (List S_oom_Task)) (v_x994 : Int) (v_w995 : (List S_oom_Task)) : G_ringref2_TaskOrder_C1_R → PS
  | .x0 v_w1002 => ⟨[dd, dd, dd, .srf 0, .d (vnil), dd, dd, dd, dd, dd, .d (.sl (v_l993.map eS_oom_Task)), .d (.v (.int .i64 (v_l993.length : Int))), .d (.v (.int .i64 v_x994)), dd, dd, dd, dd, dd, dd, dd, dd, dd, dd, dd, dd, dd, dd, dd, dd, dd, dd, dd, dd, dd, dd, dd, dd, dd, dd, dd, dd, dd, dd, dd, dd, dd, dd, dd, dd, dd, dd, dd, dd, dd, dd, dd, dd, dd, dd, dd, dd, dd, dd, dd], [.row 207 4 (v_w1002.map eS_oom_Task)]⟩
def G_ringref2_TaskOrder_C1_hd (v_l993 : (List S_oom_Task)) (v_x994 : Int) (v_w995 : (List S_oom_Task))  : PS := ⟨[dd, dd, dd, .srf 0, .d (vnil), dd, dd, dd, dd, dd, .d (.sl (v_l993.map eS_oom_Task)), .d (.v (.int .i64 (v_l993.length : Int))), .d (.v (.int .i64 v_x994)), dd, dd, dd, dd, dd, dd, dd, dd, dd, dd, dd, dd, dd, dd, dd, dd, dd, dd, dd, dd, dd, dd, dd, dd, dd, dd, dd, dd, dd, dd, dd, dd, dd, dd, dd, dd, dd, dd, dd, dd, dd, dd, dd, dd, dd, dd, dd, dd, dd, dd, dd], [.row 207 4 (v_w995.map eS_oom_Task)]⟩
def G_ringref2_TaskOrder_C1 (n : Nat) (v_l993 : (List S_oom_Task)) (v_x994 : Int) (v_w995 : (List S_oom_Task)) : Option G_ringref2_TaskOrder_C1_R :=
  (getI v_l993 v_x994).bind fun (v_y999 : S_oom_Task) =>
  if v_y999.fKept = true then
   some (.x0 v_w995)
  else
   if v_y999.fPages > 0 then
    (app 32 v_w995 ([v_y999])).bind fun (v_a1001 : (List S_oom_Task)) =>
    some (.x0 v_a1001)
   else
    some (.x0 v_w995)
theorem G_ringref2_TaskOrder_C1_ok {Fi : Ex → PS → Prop} (hF : KC 64 Fi) (ks : List Fr) (n : Nat) (v_l993 : (List S_oom_Task)) (v_x994 : Int) (v_w995 : (List S_oom_Task))  (o : G_ringref2_TaskOrder_C1_R) (h : G_ringref2_TaskOrder_C1 n v_l993 v_x994 v_w995 = some o) (q : RunE Try.prog 64 Fi ks (G_ringref2_TaskOrder_C1_ex o) (G_ringref2_TaskOrder_C1_st v_l993 v_x994 v_w995 o)) : RunE Try.prog 64 Fi (.s (cL (cR (cR (cP (cB (cR (cL (cR (cR (bodyOf Try.f110)))))))))) :: ks) .normal (G_ringref2_TaskOrder_C1_hd v_l993 v_x994 v_w995) := by
  unfold G_ringref2_TaskOrder_C1 at h
  obtain ⟨v_y999, h1029, h⟩ := bind_some h
  by_cases h1030 : v_y999.fKept = true
  · rw [if_pos h1030] at h
    cases h
    exact pkk_sound TTok mix hF 8 (hs := [.y (eS_oom_Task v_y999), .c, .c, .t false, .c, .c, .c]) (ts := []) (s := [0]) (l := [3, 4, 10, 11, 12]) (by kernel_rfl) (by kernel_rfl) (.cons (getI_ob (f := eS_oom_Task) h1029) (.cons (show 0 + 4 ≤ 4 by decide) (.cons (bnf h1030) .nil))) q
  · rw [if_neg h1030] at h
    by_cases h1033 : v_y999.fPages > 0
    · rw [if_pos h1033] at h
      obtain ⟨v_a1001, h1034, h⟩ := bind_some h
      cases h
      exact pkk_sound TTok mix hF 8 (hs := [.y (eS_oom_Task v_y999), .c, .c, .t true, .c, .c, .c, .t true, .c, .bd, .w (v_a1001.map eS_oom_Task)]) (ts := []) (s := [46]) (l := [3, 4, 10, 11, 12]) (by kernel_rfl) (by kernel_rfl) (.cons (getI_ob (f := eS_oom_Task) h1029) (.cons (show 0 + 4 ≤ 4 by decide) (.cons (bnt (vf h1030)) (.cons (dt h1033) (.cons (app_ob (f := eS_oom_Task) (s := 4) h1034 (fun _ => rfl)).1 (.cons (app_ob (f := eS_oom_Task) (s := 4) h1034 (fun _ => rfl)).2.1 (.cons (app_ob (f := eS_oom_Task) (s := 4) h1034 (fun _ => rfl)).2.2.1 (.cons (app_ob (f := eS_oom_Task) (s := 4) h1034 (fun _ => rfl)).2.2.2 .nil)))))))) q
    · rw [if_neg h1033] at h
      cases h
      exact pkk_sound TTok mix hF 8 (hs := [.y (eS_oom_Task v_y999), .c, .c, .t true, .c, .c, .c, .t false]) (ts := []) (s := [0]) (l := [3, 4, 10, 11, 12]) (by kernel_rfl) (by kernel_rfl) (.cons (getI_ob (f := eS_oom_Task) h1029) (.cons (show 0 + 4 ≤ 4 by decide) (.cons (bnt (vf h1030)) (.cons (df h1033) .nil)))) q
inductive G_ringref2_TaskOrder_L2_R where
  | x0 (v_w1007 : (List S_oom_Task))
def G_ringref2_TaskOrder_L2_ex : G_ringref2_TaskOrder_L2_R → Ex
  | .x0 _ => .exit 0
def G_ringref2_TaskOrder_L2_st (v_l993 : (List S_oom_Task)) : G_ringref2_TaskOrder_L2_R → PS
  | .x0 v_w1007 => ⟨[dd, dd, dd, .srf 0, .d (vnil), dd, dd, dd, dd, dd, dd, dd, dd, dd, dd, dd, dd, dd, dd, dd, dd, dd, dd, dd, dd, dd, dd, dd, dd, dd, dd, dd, dd, dd, dd, dd, dd, dd, dd, dd, dd, dd, dd, dd, dd, dd, dd, dd, dd, dd, dd, dd, dd, dd, dd, dd, dd, dd, dd, dd, dd, dd, dd, dd], [.row 207 4 (v_w1007.map eS_oom_Task)]⟩
def G_ringref2_TaskOrder_L2_hd (v_l993 : (List S_oom_Task)) (v_x994 : Int) (v_w995 : (List S_oom_Task)) : PS := ⟨[dd, dd, dd, .srf 0, .d (vnil), dd, dd, dd, dd, dd, .d (.sl (v_l993.map eS_oom_Task)), .d (.v (.int .i64 (v_l993.length : Int))), .d (.v (.int .i64 v_x994)), dd, dd, dd, dd, dd, dd, dd, dd, dd, dd, dd, dd, dd, dd, dd, dd, dd, dd, dd, dd, dd, dd, dd, dd, dd, dd, dd, dd, dd, dd, dd, dd, dd, dd, dd, dd, dd, dd, dd, dd, dd, dd, dd, dd, dd, dd, dd, dd, dd, dd, dd], [.row 207 4 (v_w995.map eS_oom_Task)]⟩
def G_ringref2_TaskOrder_L2 (n : Nat) (v_l993 : (List S_oom_Task)) : Nat → Int → (List S_oom_Task) → Option G_ringref2_TaskOrder_L2_R
  | 0, _, _ => none
  | k + 1, v_x994, v_w995 =>
    if v_x994 < (v_l993.length : Int) then
     (G_ringref2_TaskOrder_C1 n v_l993 v_x994 v_w995).bind fun v_o1005 => match v_o1005 with
     | .x0 v_z1006 =>
       G_ringref2_TaskOrder_L2 n v_l993 k (wi .i64 (v_x994 + 1)) v_z1006
    else
     some (.x0 v_w995)
theorem G_ringref2_TaskOrder_L2_ok {Fi : Ex → PS → Prop} (hF : KC 64 Fi) (ks : List Fr) (n : Nat) (v_l993 : (List S_oom_Task))  : ∀ (k : Nat) (v_x994 : Int) (v_w995 : (List S_oom_Task)) (o : G_ringref2_TaskOrder_L2_R), G_ringref2_TaskOrder_L2 n v_l993 k v_x994 v_w995 = some o → RunE Try.prog 64 Fi ks (G_ringref2_TaskOrder_L2_ex o) (G_ringref2_TaskOrder_L2_st v_l993 o) → RunE Try.prog 64 Fi (.l k (cP (cB (cR (cL (cR (cR (bodyOf Try.f110))))))) :: ks) .normal (G_ringref2_TaskOrder_L2_hd v_l993 v_x994 v_w995)
  | 0, v_x994, v_w995, o, h, q => by rw [G_ringref2_TaskOrder_L2] at h; cases h
  | k + 1, v_x994, v_w995, o, h, q => by
    rw [G_ringref2_TaskOrder_L2] at h
    by_cases h1022 : v_x994 < (v_l993.length : Int)
    · rw [if_pos h1022] at h
      obtain ⟨v_o1005, h1035, h⟩ := bind_some h
      refine pkk_sound TTok mix hF 7 (hs := [.t true]) (ts := []) (s := [0]) (l := [3, 4, 10, 11, 12]) (by kernel_rfl) (by kernel_rfl) (.cons (dt h1022) .nil) (G_ringref2_TaskOrder_C1_ok hF (.s (cR (cR (cR (cP (cB (cR (cL (cR (cR (bodyOf Try.f110)))))))))) :: .l k (cP (cB (cR (cL (cR (cR (bodyOf Try.f110))))))) :: ks) n v_l993 v_x994 v_w995 _ h1035 ?_)
      cases v_o1005 with
      | x0 v_z1006 =>
        try dsimp only at h
        exact pkk_sound TTok mix hF 1 (hs := []) (ts := []) (s := [0]) (l := [3, 4, 10, 11, 12]) (by kernel_rfl) (by kernel_rfl) .nil (G_ringref2_TaskOrder_L2_ok hF ks n v_l993 k (wi .i64 (v_x994 + 1)) v_z1006 _ h q)
    · rw [if_neg h1022] at h
      cases h
      exact pkk_sound TTok mix hF 8 (hs := [.t false]) (ts := []) (s := [0]) (l := [3, 4]) (by kernel_rfl) (by kernel_rfl) (.cons (df h1022) .nil) q
inductive G_ringref2_TaskOrder_L3_R where
  | x0 (v_best1024 : Int) (v_w1025 : (List S_oom_Task)) (v_w1026 : (List S_oom_Task))
def G_ringref2_TaskOrder_L3_ex : G_ringref2_TaskOrder_L3_R → Ex
  | .x0 _ _ _ => .exit 4
def G_ringref2_TaskOrder_L3_st (v_w1010 : (List S_oom_Task)) : G_ringref2_TaskOrder_L3_R → PS
  | .x0 v_best1024 v_w1025 v_w1026 => ⟨[dd, dd, dd, .srf 0, .srf 1, dd, dd, .d (.v (.int .i64 v_best1024)), dd, dd, dd, dd, dd, dd, dd, dd, dd, dd, dd, dd, dd, dd, dd, dd, dd, dd, dd, dd, dd, dd, dd, dd, dd, dd, dd, dd, dd, dd, dd, dd, dd, dd, dd, dd, dd, dd, dd, dd, dd, dd, dd, dd, dd, dd, dd, dd, dd, dd, dd, dd, dd, dd, dd, dd], [.row 207 4 (v_w1025.map eS_oom_Task), .row 207 4 (v_w1026.map eS_oom_Task)]⟩
def G_ringref2_TaskOrder_L3_hd (v_w1010 : (List S_oom_Task)) (v_best1012 : Int) (v_x1013 : Int) (v_w1014 : (List S_oom_Task)) (v_w1015 : (List S_oom_Task)) : PS := ⟨[dd, dd, dd, .srf 0, .srf 1, dd, dd, .d (.v (.int .i64 v_best1012)), dd, dd, dd, dd, dd, dd, dd, dd, dd, dd, dd, dd, dd, dd, dd, dd, dd, dd, dd, dd, dd, dd, dd, dd, .srf 0, .d (.v (.int .i64 (v_w1010.length : Int))), .d (.v (.int .i64 v_x1013)), dd, dd, dd, dd, dd, dd, dd, dd, dd, dd, dd, dd, dd, dd, dd, dd, dd, dd, dd, dd, dd, dd, dd, dd, dd, dd, dd, dd, dd], [.row 207 4 (v_w1014.map eS_oom_Task), .row 207 4 (v_w1015.map eS_oom_Task)]⟩
def G_ringref2_TaskOrder_L3 (n : Nat) (v_w1010 : (List S_oom_Task)) : Nat → Int → Int → (List S_oom_Task) → (List S_oom_Task) → Option G_ringref2_TaskOrder_L3_R
  | 0, _, _, _, _ => none
  | k + 1, v_best1012, v_x1013, v_w1014, v_w1015 =>
    if v_x1013 < (v_w1010.length : Int) then
     if 0 ≤ v_x1013 ∧ (v_x1013).toNat < v_w1014.length then
      (v_w1014[(v_x1013).toNat]?).bind fun (v_y1021 : S_oom_Task) =>
      if 0 ≤ v_best1012 ∧ (v_best1012).toNat < v_w1014.length then
       (v_w1014[(v_best1012).toNat]?).bind fun (v_y1022 : S_oom_Task) =>
       (G_ringref2_TaskAhead n v_y1021 v_y1022).bind fun (v_r1023 : (Bool)) =>
       if v_r1023 = true then
        G_ringref2_TaskOrder_L3 n v_w1010 k v_x1013 (wi .i64 (v_x1013 + 1)) v_w1014 v_w1015
       else
        G_ringref2_TaskOrder_L3 n v_w1010 k v_best1012 (wi .i64 (v_x1013 + 1)) v_w1014 v_w1015
      else none
     else none
    else
     some (.x0 v_best1012 v_w1014 v_w1015)
theorem G_ringref2_TaskOrder_L3_ok {Fi : Ex → PS → Prop} (hF : KC 64 Fi) (ks : List Fr) (n : Nat) (v_w1010 : (List S_oom_Task))  : ∀ (k : Nat) (v_best1012 : Int) (v_x1013 : Int) (v_w1014 : (List S_oom_Task)) (v_w1015 : (List S_oom_Task)) (o : G_ringref2_TaskOrder_L3_R), G_ringref2_TaskOrder_L3 n v_w1010 k v_best1012 v_x1013 v_w1014 v_w1015 = some o → RunE Try.prog 64 Fi ks (G_ringref2_TaskOrder_L3_ex o) (G_ringref2_TaskOrder_L3_st v_w1010 o) → RunE Try.prog 64 Fi (.l k (cP (cB (cR (cL (cR (cB (cR (cP (cB (cL (cR (cR (cR (bodyOf Try.f110)))))))))))))) :: ks) .normal (G_ringref2_TaskOrder_L3_hd v_w1010 v_best1012 v_x1013 v_w1014 v_w1015)
  | 0, v_best1012, v_x1013, v_w1014, v_w1015, o, h, q => by rw [G_ringref2_TaskOrder_L3] at h; cases h
  | k + 1, v_best1012, v_x1013, v_w1014, v_w1015, o, h, q => by
    rw [G_ringref2_TaskOrder_L3] at h
    by_cases h1038 : v_x1013 < (v_w1010.length : Int)
    · rw [if_pos h1038] at h
      by_cases h1049 : 0 ≤ v_x1013 ∧ (v_x1013).toNat < v_w1014.length
      · rw [if_pos h1049] at h
        obtain ⟨v_y1021, h1050, h⟩ := bind_some h
        by_cases h1051 : 0 ≤ v_best1012 ∧ (v_best1012).toNat < v_w1014.length
        · rw [if_pos h1051] at h
          obtain ⟨v_y1022, h1052, h⟩ := bind_some h
          obtain ⟨v_r1023, h1053, h⟩ := bind_some h
          by_cases h1054 : v_r1023 = true
          · rw [if_pos h1054] at h
            exact pkk_sound TTok mix hF 16 (hs := [.t true, .y (eS_oom_Task v_y1021), .c, .c, .y (eS_oom_Task v_y1022), .r (eB v_r1023), .t true]) (ts := []) (s := [0, 1]) (l := [3, 4, 7, 32, 33, 34]) (by kernel_rfl) (by kernel_rfl) (.cons (dt h1038) (.cons (idx_ob (f := eS_oom_Task) h1049) (.cons (get_ob (f := eS_oom_Task) h1050) (.cons (show 0 + 4 ≤ 4 by decide) (.cons (idx_ob (f := eS_oom_Task) h1051) (.cons (get_ob (f := eS_oom_Task) h1052) (.cons (G_ringref2_TaskAhead_ok n v_y1021 v_y1022 _ h1053) (.cons h1054 .nil)))))))) (G_ringref2_TaskOrder_L3_ok hF ks n v_w1010 k v_x1013 (wi .i64 (v_x1013 + 1)) v_w1014 v_w1015 _ h q)
          · rw [if_neg h1054] at h
            exact pkk_sound TTok mix hF 16 (hs := [.t true, .y (eS_oom_Task v_y1021), .c, .c, .y (eS_oom_Task v_y1022), .r (eB v_r1023), .t false]) (ts := []) (s := [0, 1]) (l := [3, 4, 7, 32, 33, 34]) (by kernel_rfl) (by kernel_rfl) (.cons (dt h1038) (.cons (idx_ob (f := eS_oom_Task) h1049) (.cons (get_ob (f := eS_oom_Task) h1050) (.cons (show 0 + 4 ≤ 4 by decide) (.cons (idx_ob (f := eS_oom_Task) h1051) (.cons (get_ob (f := eS_oom_Task) h1052) (.cons (G_ringref2_TaskAhead_ok n v_y1021 v_y1022 _ h1053) (.cons (vf h1054) .nil)))))))) (G_ringref2_TaskOrder_L3_ok hF ks n v_w1010 k v_best1012 (wi .i64 (v_x1013 + 1)) v_w1014 v_w1015 _ h q)
        · rw [if_neg h1051] at h; cases h
      · rw [if_neg h1049] at h; cases h
    · rw [if_neg h1038] at h
      cases h
      exact pkk_sound TTok mix hF 8 (hs := [.t false]) (ts := []) (s := [0, 1]) (l := [3, 4, 7]) (by kernel_rfl) (by kernel_rfl) (.cons (df h1038) .nil) q
inductive G_ringref2_TaskOrder_L4_R where
  | x0 (v_w1039 : (List S_oom_Task))
def G_ringref2_TaskOrder_L4_ex : G_ringref2_TaskOrder_L4_R → Ex
  | .x0 _ => .exit 2
def G_ringref2_TaskOrder_L4_st  : G_ringref2_TaskOrder_L4_R → PS
  | .x0 v_w1039 => ⟨[dd, dd, dd, dd, .srf 0, dd, dd, dd, dd, dd, dd, dd, dd, dd, dd, dd, dd, dd, dd, dd, dd, dd, dd, dd, dd, dd, dd, dd, dd, dd, dd, dd, dd, dd, dd, dd, dd, dd, dd, dd, dd, dd, dd, dd, dd, dd, dd, dd, dd, dd, dd, dd, dd, dd, dd, dd, dd, dd, dd, dd, dd, dd, dd, dd], [.row 207 4 (v_w1039.map eS_oom_Task)]⟩
def G_ringref2_TaskOrder_L4_hd  (v_w1010 : (List S_oom_Task)) (v_w1011 : (List S_oom_Task)) : PS := ⟨[dd, dd, dd, .srf 0, .srf 1, dd, dd, dd, dd, dd, dd, dd, dd, dd, dd, dd, dd, dd, dd, dd, dd, dd, dd, dd, dd, dd, dd, dd, dd, dd, dd, dd, dd, dd, dd, dd, dd, dd, dd, dd, dd, dd, dd, dd, dd, dd, dd, dd, dd, dd, dd, dd, dd, dd, dd, dd, dd, dd, dd, dd, dd, dd, dd, dd], [.row 207 4 (v_w1010.map eS_oom_Task), .row 207 4 (v_w1011.map eS_oom_Task)]⟩
def G_ringref2_TaskOrder_L4 (n : Nat)  : Nat → (List S_oom_Task) → (List S_oom_Task) → Option G_ringref2_TaskOrder_L4_R
  | 0, _, _ => none
  | k + 1, v_w1010, v_w1011 =>
    if (v_w1010.length : Int) > 0 then
     (G_ringref2_TaskOrder_L3 n v_w1010 n 0 0 v_w1010 v_w1011).bind fun v_o1027 => match v_o1027 with
     | .x0 v_z1028 v_z1029 v_z1030 =>
       if 0 ≤ v_z1028 ∧ (v_z1028).toNat < v_z1029.length then
        (v_z1029[(v_z1028).toNat]?).bind fun (v_y1031 : S_oom_Task) =>
        (app 32 v_z1030 ([v_y1031])).bind fun (v_a1032 : (List S_oom_Task)) =>
        (sub v_z1029 0 v_z1028).bind fun (v_s1035 : (List S_oom_Task)) =>
        (app 32 ([] : (List S_oom_Task)) v_s1035).bind fun (v_a1036 : (List S_oom_Task)) =>
        (sub v_z1029 (wi .i64 (v_z1028 + 1)) (v_z1029.length : Int)).bind fun (v_s1037 : (List S_oom_Task)) =>
        (app 32 v_a1036 v_s1037).bind fun (v_a1038 : (List S_oom_Task)) =>
        G_ringref2_TaskOrder_L4 n  k v_a1038 v_a1032
       else none
    else
     some (.x0 v_w1011)
theorem G_ringref2_TaskOrder_L4_ok {Fi : Ex → PS → Prop} (hF : KC 64 Fi) (ks : List Fr) (n : Nat)   : ∀ (k : Nat) (v_w1010 : (List S_oom_Task)) (v_w1011 : (List S_oom_Task)) (o : G_ringref2_TaskOrder_L4_R), G_ringref2_TaskOrder_L4 n  k v_w1010 v_w1011 = some o → RunE Try.prog 64 Fi ks (G_ringref2_TaskOrder_L4_ex o) (G_ringref2_TaskOrder_L4_st  o) → RunE Try.prog 64 Fi (.l k (cP (cB (cL (cR (cR (cR (bodyOf Try.f110))))))) :: ks) .normal (G_ringref2_TaskOrder_L4_hd  v_w1010 v_w1011)
  | 0, v_w1010, v_w1011, o, h, q => by rw [G_ringref2_TaskOrder_L4] at h; cases h
  | k + 1, v_w1010, v_w1011, o, h, q => by
    rw [G_ringref2_TaskOrder_L4] at h
    by_cases h1037 : (v_w1010.length : Int) > 0
    · rw [if_pos h1037] at h
      obtain ⟨v_o1027, h1055, h⟩ := bind_some h
      refine pkk_sound TTok mix hF 14 (hs := [.u (.d (.v (.int .i64 (v_w1010.length : Int)))), .t true, .u (.d (.v (.int .i64 (v_w1010.length : Int)))), .n n]) (ts := []) (s := [0, 1]) (l := [3, 4, 7, 32, 33, 34]) (by kernel_rfl) (by kernel_rfl) (.cons (len_ob (f := eS_oom_Task) (l := v_w1010)) (.cons (dt h1037) (.cons (len_ob (f := eS_oom_Task) (l := v_w1010)) .nil))) (G_ringref2_TaskOrder_L3_ok hF (.b 4 :: .s (cR (cR (cB (cR (cP (cB (cL (cR (cR (cR (bodyOf Try.f110))))))))))) :: .b 3 :: .l k (cP (cB (cL (cR (cR (cR (bodyOf Try.f110))))))) :: ks) n v_w1010 n 0 0 v_w1010 v_w1011 _ h1055 ?_)
      cases v_o1027 with
      | x0 v_z1028 v_z1029 v_z1030 =>
        try dsimp only at h
        by_cases h1056 : 0 ≤ v_z1028 ∧ (v_z1028).toNat < v_z1029.length
        · rw [if_pos h1056] at h
          obtain ⟨v_y1031, h1057, h⟩ := bind_some h
          obtain ⟨v_a1032, h1058, h⟩ := bind_some h
          obtain ⟨v_s1035, h1061, h⟩ := bind_some h
          obtain ⟨v_a1036, h1062, h⟩ := bind_some h
          obtain ⟨v_s1037, h1063, h⟩ := bind_some h
          obtain ⟨v_a1038, h1064, h⟩ := bind_some h
          exact pkk_sound TTok mix hF 6 (hs := [.y (eS_oom_Task v_y1031), .bd, .w (v_a1032.map eS_oom_Task), .fz 0, .w (v_s1035.map eS_oom_Task), .w (v_a1036.map eS_oom_Task), .w (v_s1037.map eS_oom_Task), .w (v_a1038.map eS_oom_Task)]) (ts := []) (s := [50, 20]) (l := [3, 4]) (by kernel_rfl) (by kernel_rfl) (.cons (idx_ob (f := eS_oom_Task) h1056) (.cons (get_ob (f := eS_oom_Task) h1057) (.cons (app_ob (f := eS_oom_Task) (s := 4) h1058 (fun _ => rfl)).1 (.cons (app_ob (f := eS_oom_Task) (s := 4) h1058 (fun _ => rfl)).2.1 (.cons (app_ob (f := eS_oom_Task) (s := 4) h1058 (fun _ => rfl)).2.2.1 (.cons (app_ob (f := eS_oom_Task) (s := 4) h1058 (fun _ => rfl)).2.2.2 (.cons (sub_ob (f := eS_oom_Task) (s := 4) h1061 (fun _ => rfl)).1 (.cons (sub_ob (f := eS_oom_Task) (s := 4) h1061 (fun _ => rfl)).2.1 (.cons (sub_ob (f := eS_oom_Task) (s := 4) h1061 (fun _ => rfl)).2.2.1 (.cons (sub_ob (f := eS_oom_Task) (s := 4) h1061 (fun _ => rfl)).2.2.2.1 (.cons (sub_ob (f := eS_oom_Task) (s := 4) h1061 (fun _ => rfl)).2.2.2.2 (.cons (app_ob (f := eS_oom_Task) (s := 4) h1062 (fun _ => rfl)).1 (.cons (app_ob (f := eS_oom_Task) (s := 4) h1062 (fun _ => rfl)).2.1 (.cons (app_ob (f := eS_oom_Task) (s := 4) h1062 (fun _ => rfl)).2.2.1 (.cons (app_ob (f := eS_oom_Task) (s := 4) h1062 (fun _ => rfl)).2.2.2 (.cons (sub_ob' (f := eS_oom_Task) (s := 4) h1063 (fun _ => rfl)).1 (.cons (sub_ob' (f := eS_oom_Task) (s := 4) h1063 (fun _ => rfl)).2.1 (.cons (sub_ob' (f := eS_oom_Task) (s := 4) h1063 (fun _ => rfl)).2.2.1 (.cons (sub_ob' (f := eS_oom_Task) (s := 4) h1063 (fun _ => rfl)).2.2.2.1 (.cons (sub_ob' (f := eS_oom_Task) (s := 4) h1063 (fun _ => rfl)).2.2.2.2 (.cons (app_ob (f := eS_oom_Task) (s := 4) h1064 (fun _ => rfl)).1 (.cons (app_ob (f := eS_oom_Task) (s := 4) h1064 (fun _ => rfl)).2.1 (.cons (app_ob (f := eS_oom_Task) (s := 4) h1064 (fun _ => rfl)).2.2.1 (.cons (app_ob (f := eS_oom_Task) (s := 4) h1064 (fun _ => rfl)).2.2.2 .nil)))))))))))))))))))))))) (G_ringref2_TaskOrder_L4_ok hF ks n  k v_a1038 v_a1032 _ h q)
        · rw [if_neg h1056] at h; cases h
    · rw [if_neg h1037] at h
      cases h
      exact pkk_sound TTok mix hF 8 (hs := [.u (.d (.v (.int .i64 (v_w1010.length : Int)))), .t false]) (ts := []) (s := [1]) (l := [4]) (by kernel_rfl) (by kernel_rfl) (.cons (len_ob (f := eS_oom_Task) (l := v_w1010)) (.cons (df h1037) .nil)) q
/- ringhall/ringref2.TaskOrder -/
def G_ringref2_TaskOrder (n : Nat) (v_l993 : (List S_oom_Task)) : Option ((List S_oom_Task)) :=
  (G_ringref2_TaskOrder_L2 n v_l993 n 0 ([] : List S_oom_Task)).bind fun v_o1008 => match v_o1008 with
  | .x0 v_z1009 =>
    (G_ringref2_TaskOrder_L4 n  n v_z1009 ([] : List S_oom_Task)).bind fun v_o1040 => match v_o1040 with
    | .x0 v_z1041 =>
      some v_z1041
theorem G_ringref2_TaskOrder_ok (n : Nat) (v_l993 : (List S_oom_Task)) (r : (List S_oom_Task)) (h : G_ringref2_TaskOrder n v_l993 = some r) : Ret Try.prog 110 [(eL eS_oom_Task) v_l993] ((eL eS_oom_Task) r) := by
  refine ret_run (n := 64) (fn := Try.f110) (c := bodyOf Try.f110) (by kernel_rfl) (by kernel_rfl) (by kernel_rfl) (by kernel_rfl) ?_
  have hF : KC 64 (FinR Try.prog Try.f110 ((eL eS_oom_Task) r)) := FinR.kc' (by kernel_rfl)
  unfold G_ringref2_TaskOrder at h
  obtain ⟨v_o1008, h1036, h⟩ := bind_some h
  refine pkk_sound TTok mix hF 9 (hs := [.u (.d (.v (.int .i64 (v_l993.length : Int)))), .n n]) (ts := [(3, 207, 4)]) (s := [18]) (l := [3, 4, 10, 11, 12]) (by kernel_rfl) (by kernel_rfl) (.cons (len_ob (f := eS_oom_Task) (l := v_l993)) .nil) (G_ringref2_TaskOrder_L2_ok hF (.b 0 :: .s (cR (cR (cR (bodyOf Try.f110)))) :: []) n v_l993 n 0 ([] : List S_oom_Task) _ h1036 ?_)
  cases v_o1008 with
  | x0 v_z1009 =>
    try dsimp only at h
    obtain ⟨v_o1040, h1065, h⟩ := bind_some h
    refine pkk_sound TTok mix hF 4 (hs := [.n n]) (ts := [(4, 207, 4)]) (s := [0, 1]) (l := [3, 4]) (by kernel_rfl) (by kernel_rfl) .nil (G_ringref2_TaskOrder_L4_ok hF (.b 2 :: .s (cR (cR (cR (cR (bodyOf Try.f110))))) :: []) n  n v_z1009 ([] : List S_oom_Task) _ h1065 ?_)
    cases v_o1040 with
    | x0 v_z1041 =>
      try dsimp only at h
      obtain rfl := Option.some.inj h
      exact pend_sound TTok mix 4 (hs := []) (by kernel_rfl) (by kernel_rfl) (by kernel_rfl) .nil
inductive G_slices_Equal_int_int_L1_R where
  | x0 (v_x1077 : Bool)
  | x1 
def G_slices_Equal_int_int_L1_ex : G_slices_Equal_int_int_L1_R → Ex
  | .x0 _ => .ret
  | .x1  => .exit 0
def G_slices_Equal_int_int_L1_st (v_s1070 : (List Int)) (v_s1071 : (List Int)) : G_slices_Equal_int_int_L1_R → PS
  | .x0 v_x1077 => ⟨[dd, dd, dd, dd, .d (.v (.bool v_x1077)), dd, dd, dd, dd, dd, dd, dd, dd, dd, dd, dd, dd, dd, dd, dd, dd, dd, dd, dd, dd, dd], []⟩
  | .x1  => ⟨[dd, dd, dd, dd, dd, dd, dd, dd, dd, dd, dd, dd, dd, dd, dd, dd, dd, dd, dd, dd, dd, dd, dd, dd, dd, dd], []⟩
def G_slices_Equal_int_int_L1_hd (v_s1070 : (List Int)) (v_s1071 : (List Int)) (v_x1072 : Int) : PS := ⟨[.d (.sl (v_s1070.map (eI .i64))), .d (.sl (v_s1071.map (eI .i64))), dd, dd, dd, dd, dd, dd, dd, dd, dd, dd, .d (.v (.int .i64 (v_s1070.length : Int))), .d (.v (.int .i64 v_x1072)), dd, dd, dd, dd, dd, dd, dd, dd, dd, dd, dd, dd], []⟩
def G_slices_Equal_int_int_L1 (n : Nat) (v_s1070 : (List Int)) (v_s1071 : (List Int)) : Nat → Int → Option G_slices_Equal_int_int_L1_R
  | 0, _ => none
  | k + 1, v_x1072 =>
    if v_x1072 < (v_s1070.length : Int) then
     (getI v_s1070 v_x1072).bind fun (v_y1075 : Int) =>
     (getI v_s1071 v_x1072).bind fun (v_y1076 : Int) =>
     if v_y1075 = v_y1076 then
      G_slices_Equal_int_int_L1 n v_s1070 v_s1071 k (wi .i64 (v_x1072 + 1))
     else
      some (.x0 false)
    else
     some (.x1 )
theorem G_slices_Equal_int_int_L1_ok {Fi : Ex → PS → Prop} (hF : KC 26 Fi) (ks : List Fr) (n : Nat) (v_s1070 : (List Int)) (v_s1071 : (List Int))  : ∀ (k : Nat) (v_x1072 : Int) (o : G_slices_Equal_int_int_L1_R), G_slices_Equal_int_int_L1 n v_s1070 v_s1071 k v_x1072 = some o → RunE Try.prog 26 Fi ks (G_slices_Equal_int_int_L1_ex o) (G_slices_Equal_int_int_L1_st v_s1070 v_s1071 o) → RunE Try.prog 26 Fi (.l k (cP (cB (cR (cL (cR (cR (bodyOf Try.f111))))))) :: ks) .normal (G_slices_Equal_int_int_L1_hd v_s1070 v_s1071 v_x1072)
  | 0, v_x1072, o, h, q => by rw [G_slices_Equal_int_int_L1] at h; cases h
  | k + 1, v_x1072, o, h, q => by
    rw [G_slices_Equal_int_int_L1] at h
    by_cases h1084 : v_x1072 < (v_s1070.length : Int)
    · rw [if_pos h1084] at h
      obtain ⟨v_y1075, h1088, h⟩ := bind_some h
      obtain ⟨v_y1076, h1089, h⟩ := bind_some h
      by_cases h1090 : v_y1075 = v_y1076
      · rw [if_pos h1090] at h
        exact pkk_sound TTok mix hF 16 (hs := [.t true, .y ((eI .i64) v_y1075), .c, .y ((eI .i64) v_y1076), .c, .t false]) (ts := []) (s := []) (l := [0, 1, 12, 13]) (by kernel_rfl) (by kernel_rfl) (.cons (dt h1084) (.cons (getI_ob (f := (eI .i64)) h1088) (.cons (getI_ob (f := (eI .i64)) h1089) (.cons (nf h1090) .nil)))) (G_slices_Equal_int_int_L1_ok hF ks n v_s1070 v_s1071 k (wi .i64 (v_x1072 + 1)) _ h q)
      · rw [if_neg h1090] at h
        cases h
        exact pkk_sound TTok mix hF 19 (hs := [.t true, .y ((eI .i64) v_y1075), .c, .y ((eI .i64) v_y1076), .c, .t true]) (ts := []) (s := []) (l := [4]) (by kernel_rfl) (by kernel_rfl) (.cons (dt h1084) (.cons (getI_ob (f := (eI .i64)) h1088) (.cons (getI_ob (f := (eI .i64)) h1089) (.cons (nt h1090) .nil)))) q
    · rw [if_neg h1084] at h
      cases h
      exact pkk_sound TTok mix hF 8 (hs := [.t false]) (ts := []) (s := []) (l := []) (by kernel_rfl) (by kernel_rfl) (.cons (df h1084) .nil) q
/- slices.Equal[[]int,int] -/
def G_slices_Equal_int_int (n : Nat) (v_s1070 : (List Int)) (v_s1071 : (List Int)) : Option (Bool) :=
  if (v_s1070.length : Int) = (v_s1071.length : Int) then
   (G_slices_Equal_int_int_L1 n v_s1070 v_s1071 n 0).bind fun v_o1078 => match v_o1078 with
   | .x0 v_z1079 =>
     some v_z1079
   | .x1  =>
     some true
  else
   some false
theorem G_slices_Equal_int_int_ok (n : Nat) (v_s1070 : (List Int)) (v_s1071 : (List Int)) (r : Bool) (h : G_slices_Equal_int_int n v_s1070 v_s1071 = some r) : Ret Try.prog 111 [(eL (eI .i64)) v_s1070, (eL (eI .i64)) v_s1071] (eB r) := by
  refine ret_run (n := 26) (fn := Try.f111) (c := bodyOf Try.f111) (by kernel_rfl) (by kernel_rfl) (by kernel_rfl) (by kernel_rfl) ?_
  have hF : KC 26 (FinR Try.prog Try.f111 (eB r)) := FinR.kc' (by kernel_rfl)
  unfold G_slices_Equal_int_int at h
  by_cases h1083 : (v_s1070.length : Int) = (v_s1071.length : Int)
  · rw [if_pos h1083] at h
    obtain ⟨v_o1078, h1091, h⟩ := bind_some h
    refine pkk_sound TTok mix hF 12 (hs := [.u (.d (.v (.int .i64 (v_s1070.length : Int)))), .u (.d (.v (.int .i64 (v_s1071.length : Int)))), .t false, .u (.d (.v (.int .i64 (v_s1070.length : Int)))), .n n]) (ts := []) (s := []) (l := [0, 1, 12, 13]) (by kernel_rfl) (by kernel_rfl) (.cons (len_ob (f := (eI .i64)) (l := v_s1070)) (.cons (len_ob (f := (eI .i64)) (l := v_s1071)) (.cons (nf h1083) (.cons (len_ob (f := (eI .i64)) (l := v_s1070)) .nil)))) (G_slices_Equal_int_int_L1_ok hF (.b 0 :: .s (cR (cR (cR (bodyOf Try.f111)))) :: []) n v_s1070 v_s1071 n 0 _ h1091 ?_)
    cases v_o1078 with
    | x0 v_z1079 =>
      try dsimp only at h
      obtain rfl := Option.some.inj h
      exact pend_sound TTok mix 2 (hs := []) (by kernel_rfl) (by kernel_rfl) (by kernel_rfl) .nil
    | x1  =>
      try dsimp only at h
      obtain rfl := Option.some.inj h
      exact pend_sound TTok mix 4 (hs := []) (by kernel_rfl) (by kernel_rfl) (by kernel_rfl) .nil
  · rw [if_neg h1083] at h
    obtain rfl := Option.some.inj h
    exact pend_sound TTok mix 10 (hs := [.u (.d (.v (.int .i64 (v_s1070.length : Int)))), .u (.d (.v (.int .i64 (v_s1071.length : Int)))), .t true]) (by kernel_rfl) (by kernel_rfl) (by kernel_rfl) (.cons (len_ob (f := (eI .i64)) (l := v_s1070)) (.cons (len_ob (f := (eI .i64)) (l := v_s1071)) (.cons (nt h1083) .nil)))
inductive G_ringlaw2_OomTells_C1_R where
  | x0 (v_x986 : Bool)
def G_ringlaw2_OomTells_C1_ex : G_ringlaw2_OomTells_C1_R → Ex
  | .x0 _ => .normal
def G_ringlaw2_OomTells_C1_st (v_r901 : ((List Int) × Int)) (v_r929 : ((List Int) × Int × Int)) (v_r948 : (Int × Int)) (v_r977 : (Int)) : G_ringlaw2_OomTells_C1_R → PS
  | .x0 v_x986 => ⟨[dd, dd, dd, dd, .d (.v (.bool v_x986)), dd, dd, dd, dd, dd, dd, dd, dd, dd, dd, dd, dd, dd, dd, dd, dd, dd, dd, dd, dd, dd, dd, dd, dd, dd, dd, dd, dd, dd, dd, dd, dd, dd, dd, dd, dd, dd, dd, dd, dd, dd, dd, dd, dd, dd, dd, dd, dd, dd, dd, dd, dd, dd, dd, dd, dd, dd, dd, dd, dd, dd, dd, dd, dd, dd, dd, dd, dd, dd, dd, dd, dd, dd, dd, dd, dd, dd, dd, dd, dd, dd, dd, dd, dd, dd, dd, dd, dd, dd, dd, dd, dd, dd, dd, dd, dd, dd, dd, dd, dd, dd, dd, dd, dd, dd, dd, dd, dd, dd, dd, dd, dd, dd, dd, dd, dd, dd, dd, dd, dd, dd, dd, dd, dd, dd, dd, dd, dd, dd, dd, dd, dd, dd, dd, dd, dd, dd, dd, dd, dd, dd, dd, dd, dd, dd, dd, dd, dd, dd, dd, dd, dd, dd, dd, dd, dd, dd, dd, dd, dd, dd, dd, dd, dd, dd, dd, dd, dd, dd, dd, dd, dd, dd, dd, dd, dd, dd, dd, dd, dd, dd, dd, dd, dd, dd, dd, dd, dd, dd, dd, dd, dd, dd, dd], []⟩
def G_ringlaw2_OomTells_C1_hd (v_r901 : ((List Int) × Int)) (v_r929 : ((List Int) × Int × Int)) (v_r948 : (Int × Int)) (v_r977 : (Int))  : PS := ⟨[dd, dd, dd, dd, dd, .d (.sl (v_r901.1.map (eI .i64))), dd, .d (.sl (v_r929.1.map (eI .i64))), .d (.v (.int .i64 v_r929.2.1)), .d (.v (.int .i64 v_r929.2.2)), .d (.v (.int .i64 v_r948.1)), .d (.v (.int .i64 v_r948.2)), .d (.v (.int .i64 v_r977)), dd, dd, dd, dd, dd, dd, dd, dd, dd, dd, dd, dd, dd, dd, dd, dd, dd, dd, dd, dd, dd, dd, dd, dd, dd, dd, dd, dd, dd, dd, dd, dd, dd, dd, dd, dd, dd, dd, dd, dd, dd, dd, dd, dd, dd, dd, dd, dd, dd, dd, dd, dd, dd, dd, dd, dd, dd, dd, dd, dd, dd, dd, dd, dd, dd, dd, dd, dd, dd, dd, dd, dd, dd, dd, dd, dd, dd, dd, dd, dd, dd, dd, dd, dd, dd, dd, dd, dd, dd, dd, dd, dd, dd, dd, dd, dd, dd, dd, dd, dd, dd, dd, dd, dd, dd, dd, dd, dd, dd, dd, dd, dd, dd, dd, dd, dd, dd, dd, dd, dd, dd, dd, dd, dd, dd, dd, dd, dd, dd, dd, dd, dd, dd, dd, dd, dd, dd, dd, dd, dd, dd, dd, dd, dd, dd, dd, dd, dd, dd, dd, dd, dd, dd, dd, dd, dd, dd, dd, dd, dd, dd, dd, dd, dd, dd, dd, dd, dd, dd, dd, dd, dd, dd, dd, dd, dd, dd, dd, dd, dd, dd, dd, dd, dd, dd, dd], []⟩
def G_ringlaw2_OomTells_C1 (n : Nat) (v_r901 : ((List Int) × Int)) (v_r929 : ((List Int) × Int × Int)) (v_r948 : (Int × Int)) (v_r977 : (Int)) : Option G_ringlaw2_OomTells_C1_R :=
  if (wi .i64 ((v_r901.1.length : Int) + (v_r929.1.length : Int))) = 0 then
   if v_r929.2.1 = 0 then
    if v_r929.2.2 = v_r977 then
     if v_r948.1 = 0 then
      some (.x0 (v_r948.2 == v_r977))
     else
      some (.x0 false)
    else
     some (.x0 false)
   else
    some (.x0 false)
  else
   some (.x0 false)
theorem G_ringlaw2_OomTells_C1_ok {Fi : Ex → PS → Prop} (hF : KC 199 Fi) (ks : List Fr) (n : Nat) (v_r901 : ((List Int) × Int)) (v_r929 : ((List Int) × Int × Int)) (v_r948 : (Int × Int)) (v_r977 : (Int))  (o : G_ringlaw2_OomTells_C1_R) (h : G_ringlaw2_OomTells_C1 n v_r901 v_r929 v_r948 v_r977 = some o) (q : RunE Try.prog 199 Fi ks (G_ringlaw2_OomTells_C1_ex o) (G_ringlaw2_OomTells_C1_st v_r901 v_r929 v_r948 v_r977 o)) : RunE Try.prog 199 Fi (.s (cL (cT (cR (cL (cR (cR (cR (cR (cR (cR (bodyOf Try.f12))))))))))) :: ks) .normal (G_ringlaw2_OomTells_C1_hd v_r901 v_r929 v_r948 v_r977) := by
  unfold G_ringlaw2_OomTells_C1 at h
  by_cases h1017 : (wi .i64 ((v_r901.1.length : Int) + (v_r929.1.length : Int))) = 0
  · rw [if_pos h1017] at h
    by_cases h1018 : v_r929.2.1 = 0
    · rw [if_pos h1018] at h
      by_cases h1019 : v_r929.2.2 = v_r977
      · rw [if_pos h1019] at h
        by_cases h1020 : v_r948.1 = 0
        · rw [if_pos h1020] at h
          cases h
          exact pkk_sound TTok mix hF 1 (hs := [.u (.d (.v (.int .i64 (v_r901.1.length : Int)))), .u (.d (.v (.int .i64 (v_r929.1.length : Int)))), .t true, .c, .t true, .c, .c, .t true, .c, .t true, .c, .c]) (ts := []) (s := []) (l := [4]) (by kernel_rfl) (by kernel_rfl) (.cons (len_ob (f := (eI .i64)) (l := v_r901.1)) (.cons (len_ob (f := (eI .i64)) (l := v_r929.1)) (.cons (bt h1017) (.cons (bt h1018) (.cons (bt h1019) (.cons (bt h1020) .nil)))))) q
        · rw [if_neg h1020] at h
          cases h
          exact pkk_sound TTok mix hF 1 (hs := [.u (.d (.v (.int .i64 (v_r901.1.length : Int)))), .u (.d (.v (.int .i64 (v_r929.1.length : Int)))), .t true, .c, .t true, .c, .c, .t true, .c, .t false, .c, .c]) (ts := []) (s := []) (l := [4]) (by kernel_rfl) (by kernel_rfl) (.cons (len_ob (f := (eI .i64)) (l := v_r901.1)) (.cons (len_ob (f := (eI .i64)) (l := v_r929.1)) (.cons (bt h1017) (.cons (bt h1018) (.cons (bt h1019) (.cons (bf h1020) .nil)))))) q
      · rw [if_neg h1019] at h
        cases h
        exact pkk_sound TTok mix hF 1 (hs := [.u (.d (.v (.int .i64 (v_r901.1.length : Int)))), .u (.d (.v (.int .i64 (v_r929.1.length : Int)))), .t true, .c, .t true, .c, .c, .t false, .c, .c, .c, .c]) (ts := []) (s := []) (l := [4]) (by kernel_rfl) (by kernel_rfl) (.cons (len_ob (f := (eI .i64)) (l := v_r901.1)) (.cons (len_ob (f := (eI .i64)) (l := v_r929.1)) (.cons (bt h1017) (.cons (bt h1018) (.cons (bf h1019) .nil))))) q
    · rw [if_neg h1018] at h
      cases h
      exact pkk_sound TTok mix hF 1 (hs := [.u (.d (.v (.int .i64 (v_r901.1.length : Int)))), .u (.d (.v (.int .i64 (v_r929.1.length : Int)))), .t true, .c, .t false, .c, .c, .c, .c, .c, .c, .c]) (ts := []) (s := []) (l := [4]) (by kernel_rfl) (by kernel_rfl) (.cons (len_ob (f := (eI .i64)) (l := v_r901.1)) (.cons (len_ob (f := (eI .i64)) (l := v_r929.1)) (.cons (bt h1017) (.cons (bf h1018) .nil)))) q
  · rw [if_neg h1017] at h
    cases h
    exact pkk_sound TTok mix hF 1 (hs := [.u (.d (.v (.int .i64 (v_r901.1.length : Int)))), .u (.d (.v (.int .i64 (v_r929.1.length : Int)))), .t false, .c, .c, .c, .c, .c, .c, .c, .c, .c]) (ts := []) (s := []) (l := [4]) (by kernel_rfl) (by kernel_rfl) (.cons (len_ob (f := (eI .i64)) (l := v_r901.1)) (.cons (len_ob (f := (eI .i64)) (l := v_r929.1)) (.cons (bf h1017) .nil))) q
inductive G_ringlaw2_OomTells_L2_R where
  | x0 (v_sum1059 : Int) (v_all1060 : Int) (v_w1061 : (List Int)) (v_w1062 : (List Int)) (v_w1063 : (List Int))
def G_ringlaw2_OomTells_L2_ex : G_ringlaw2_OomTells_L2_R → Ex
  | .x0 _ _ _ _ _ => .exit 0
def G_ringlaw2_OomTells_L2_st (v_n2 : Int) (v_r901 : ((List Int) × Int)) (v_r929 : ((List Int) × Int × Int)) (v_r948 : (Int × Int)) (v_r977 : (Int)) (v_r1042 : ((List S_oom_Task))) : G_ringlaw2_OomTells_L2_R → PS
  | .x0 v_sum1059 v_all1060 v_w1061 v_w1062 v_w1063 => ⟨[dd, .d (.v (.int .i64 v_n2)), dd, dd, dd, .d (.sl (v_r901.1.map (eI .i64))), dd, .d (.sl (v_r929.1.map (eI .i64))), .d (.v (.int .i64 v_r929.2.1)), .d (.v (.int .i64 v_r929.2.2)), .d (.v (.int .i64 v_r948.1)), .d (.v (.int .i64 v_r948.2)), .d (.v (.int .i64 v_r977)), .srf 0, .srf 1, .srf 2, .d (.v (.int .i64 v_sum1059)), .d (.v (.int .i64 v_all1060)), dd, dd, dd, dd, dd, dd, dd, dd, dd, dd, dd, dd, dd, dd, dd, dd, dd, dd, dd, dd, dd, dd, dd, dd, dd, dd, dd, dd, dd, dd, dd, dd, dd, dd, dd, dd, dd, dd, dd, dd, dd, dd, dd, dd, dd, dd, dd, dd, dd, dd, dd, dd, dd, dd, dd, dd, dd, dd, dd, dd, dd, dd, dd, dd, dd, dd, dd, dd, dd, dd, dd, dd, dd, dd, dd, dd, dd, dd, dd, dd, dd, dd, dd, dd, dd, dd, dd, dd, dd, dd, dd, dd, dd, dd, dd, dd, dd, dd, dd, dd, dd, dd, dd, dd, dd, dd, dd, dd, dd, dd, dd, dd, dd, dd, dd, dd, dd, dd, dd, dd, dd, dd, dd, dd, dd, dd, dd, dd, dd, dd, dd, dd, dd, dd, dd, dd, dd, dd, dd, dd, dd, dd, dd, dd, dd, dd, dd, dd, dd, dd, dd, dd, dd, dd, dd, dd, dd, dd, dd, dd, dd, dd, dd, dd, dd, dd, dd, dd, dd, dd, dd, dd, dd, dd, dd, dd, dd, dd, dd, dd, dd], [.row 3 1 (v_w1061.map (eI .i64)), .row 3 1 (v_w1062.map (eI .i64)), .row 3 1 (v_w1063.map (eI .i64))]⟩
def G_ringlaw2_OomTells_L2_hd (v_n2 : Int) (v_r901 : ((List Int) × Int)) (v_r929 : ((List Int) × Int × Int)) (v_r948 : (Int × Int)) (v_r977 : (Int)) (v_r1042 : ((List S_oom_Task))) (v_sum1043 : Int) (v_all1044 : Int) (v_x1045 : Int) (v_w1046 : (List Int)) (v_w1047 : (List Int)) (v_w1048 : (List Int)) : PS := ⟨[dd, .d (.v (.int .i64 v_n2)), dd, dd, dd, .d (.sl (v_r901.1.map (eI .i64))), dd, .d (.sl (v_r929.1.map (eI .i64))), .d (.v (.int .i64 v_r929.2.1)), .d (.v (.int .i64 v_r929.2.2)), .d (.v (.int .i64 v_r948.1)), .d (.v (.int .i64 v_r948.2)), .d (.v (.int .i64 v_r977)), .srf 0, .srf 1, .srf 2, .d (.v (.int .i64 v_sum1043)), .d (.v (.int .i64 v_all1044)), dd, dd, dd, dd, dd, dd, dd, dd, dd, dd, dd, dd, dd, dd, dd, dd, dd, dd, dd, dd, dd, dd, dd, dd, dd, dd, dd, dd, dd, dd, dd, dd, dd, dd, dd, dd, dd, dd, dd, dd, dd, dd, dd, dd, dd, dd, dd, dd, dd, dd, dd, dd, dd, dd, dd, dd, dd, dd, dd, dd, dd, dd, .d (.sl (v_r1042.map eS_oom_Task)), .d (.v (.int .i64 (v_r1042.length : Int))), .d (.v (.int .i64 v_x1045)), dd, dd, dd, dd, dd, dd, dd, dd, dd, dd, dd, dd, dd, dd, dd, dd, dd, dd, dd, dd, dd, dd, dd, dd, dd, dd, dd, dd, dd, dd, dd, dd, dd, dd, dd, dd, dd, dd, dd, dd, dd, dd, dd, dd, dd, dd, dd, dd, dd, dd, dd, dd, dd, dd, dd, dd, dd, dd, dd, dd, dd, dd, dd, dd, dd, dd, dd, dd, dd, dd, dd, dd, dd, dd, dd, dd, dd, dd, dd, dd, dd, dd, dd, dd, dd, dd, dd, dd, dd, dd, dd, dd, dd, dd, dd, dd, dd, dd, dd, dd, dd, dd, dd, dd, dd, dd, dd, dd, dd, dd, dd, dd, dd, dd, dd, dd], [.row 3 1 (v_w1046.map (eI .i64)), .row 3 1 (v_w1047.map (eI .i64)), .row 3 1 (v_w1048.map (eI .i64))]⟩
def G_ringlaw2_OomTells_L2 (n : Nat) (v_n2 : Int) (v_r901 : ((List Int) × Int)) (v_r929 : ((List Int) × Int × Int)) (v_r948 : (Int × Int)) (v_r977 : (Int)) (v_r1042 : ((List S_oom_Task))) : Nat → Int → Int → Int → (List Int) → (List Int) → (List Int) → Option G_ringlaw2_OomTells_L2_R
  | 0, _, _, _, _, _, _ => none
  | k + 1, v_sum1043, v_all1044, v_x1045, v_w1046, v_w1047, v_w1048 =>
    if v_x1045 < (v_r1042.length : Int) then
     (getI v_r1042 v_x1045).bind fun (v_y1054 : S_oom_Task) =>
     (app 8 v_w1046 ([v_y1054.fId])).bind fun (v_a1055 : (List Int)) =>
     (app 8 v_w1048 ([v_y1054.fPages])).bind fun (v_a1056 : (List Int)) =>
     if v_sum1043 < v_n2 then
      (app 8 v_w1047 ([v_y1054.fId])).bind fun (v_a1058 : (List Int)) =>
      G_ringlaw2_OomTells_L2 n v_n2 v_r901 v_r929 v_r948 v_r977 v_r1042 k (wi .i64 (v_sum1043 + v_y1054.fPages)) (wi .i64 (v_all1044 + v_y1054.fPages)) (wi .i64 (v_x1045 + 1)) v_a1055 v_a1058 v_a1056
     else
      G_ringlaw2_OomTells_L2 n v_n2 v_r901 v_r929 v_r948 v_r977 v_r1042 k v_sum1043 (wi .i64 (v_all1044 + v_y1054.fPages)) (wi .i64 (v_x1045 + 1)) v_a1055 v_w1047 v_a1056
    else
     some (.x0 v_sum1043 v_all1044 v_w1046 v_w1047 v_w1048)
theorem G_ringlaw2_OomTells_L2_ok {Fi : Ex → PS → Prop} (hF : KC 199 Fi) (ks : List Fr) (n : Nat) (v_n2 : Int) (v_r901 : ((List Int) × Int)) (v_r929 : ((List Int) × Int × Int)) (v_r948 : (Int × Int)) (v_r977 : (Int)) (v_r1042 : ((List S_oom_Task)))  : ∀ (k : Nat) (v_sum1043 : Int) (v_all1044 : Int) (v_x1045 : Int) (v_w1046 : (List Int)) (v_w1047 : (List Int)) (v_w1048 : (List Int)) (o : G_ringlaw2_OomTells_L2_R), G_ringlaw2_OomTells_L2 n v_n2 v_r901 v_r929 v_r948 v_r977 v_r1042 k v_sum1043 v_all1044 v_x1045 v_w1046 v_w1047 v_w1048 = some o → RunE Try.prog 199 Fi ks (G_ringlaw2_OomTells_L2_ex o) (G_ringlaw2_OomTells_L2_st v_n2 v_r901 v_r929 v_r948 v_r977 v_r1042 o) → RunE Try.prog 199 Fi (.l k (cP (cB (cR (cL (cR (cR (cR (cR (cR (cR (cR (cR (cR (bodyOf Try.f12)))))))))))))) :: ks) .normal (G_ringlaw2_OomTells_L2_hd v_n2 v_r901 v_r929 v_r948 v_r977 v_r1042 v_sum1043 v_all1044 v_x1045 v_w1046 v_w1047 v_w1048)
  | 0, v_sum1043, v_all1044, v_x1045, v_w1046, v_w1047, v_w1048, o, h, q => by rw [G_ringlaw2_OomTells_L2] at h; cases h
  | k + 1, v_sum1043, v_all1044, v_x1045, v_w1046, v_w1047, v_w1048, o, h, q => by
    rw [G_ringlaw2_OomTells_L2] at h
    by_cases h1067 : v_x1045 < (v_r1042.length : Int)
    · rw [if_pos h1067] at h
      obtain ⟨v_y1054, h1075, h⟩ := bind_some h
      obtain ⟨v_a1055, h1076, h⟩ := bind_some h
      obtain ⟨v_a1056, h1077, h⟩ := bind_some h
      by_cases h1080 : v_sum1043 < v_n2
      · rw [if_pos h1080] at h
        obtain ⟨v_a1058, h1081, h⟩ := bind_some h
        exact pkk_sound TTok mix hF 18 (hs := [.t true, .y (eS_oom_Task v_y1054), .c, .c, .bd, .w (v_a1055.map (eI .i64)), .c, .bd, .w (v_a1056.map (eI .i64)), .c, .t true, .c, .bd, .w (v_a1058.map (eI .i64)), .c]) (ts := []) (s := [30, 90, 45]) (l := [1, 5, 7, 8, 9, 10, 11, 12, 13, 14, 15, 16, 17, 80, 81, 82]) (by kernel_rfl) (by kernel_rfl) (.cons (dt h1067) (.cons (getI_ob (f := eS_oom_Task) h1075) (.cons (show 0 + 4 ≤ 4 by decide) (.cons (app_ob (f := (eI .i64)) (s := 1) h1076 (fun _ => rfl)).1 (.cons (app_ob (f := (eI .i64)) (s := 1) h1076 (fun _ => rfl)).2.1 (.cons (app_ob (f := (eI .i64)) (s := 1) h1076 (fun _ => rfl)).2.2.1 (.cons (app_ob (f := (eI .i64)) (s := 1) h1076 (fun _ => rfl)).2.2.2 (.cons (app_ob (f := (eI .i64)) (s := 1) h1077 (fun _ => rfl)).1 (.cons (app_ob (f := (eI .i64)) (s := 1) h1077 (fun _ => rfl)).2.1 (.cons (app_ob (f := (eI .i64)) (s := 1) h1077 (fun _ => rfl)).2.2.1 (.cons (app_ob (f := (eI .i64)) (s := 1) h1077 (fun _ => rfl)).2.2.2 (.cons (dt h1080) (.cons (app_ob (f := (eI .i64)) (s := 1) h1081 (fun _ => rfl)).1 (.cons (app_ob (f := (eI .i64)) (s := 1) h1081 (fun _ => rfl)).2.1 (.cons (app_ob (f := (eI .i64)) (s := 1) h1081 (fun _ => rfl)).2.2.1 (.cons (app_ob (f := (eI .i64)) (s := 1) h1081 (fun _ => rfl)).2.2.2 .nil)))))))))))))))) (G_ringlaw2_OomTells_L2_ok hF ks n v_n2 v_r901 v_r929 v_r948 v_r977 v_r1042 k (wi .i64 (v_sum1043 + v_y1054.fPages)) (wi .i64 (v_all1044 + v_y1054.fPages)) (wi .i64 (v_x1045 + 1)) v_a1055 v_a1058 v_a1056 _ h q)
      · rw [if_neg h1080] at h
        exact pkk_sound TTok mix hF 18 (hs := [.t true, .y (eS_oom_Task v_y1054), .c, .c, .bd, .w (v_a1055.map (eI .i64)), .c, .bd, .w (v_a1056.map (eI .i64)), .c, .t false]) (ts := []) (s := [30, 1, 45]) (l := [1, 5, 7, 8, 9, 10, 11, 12, 13, 14, 15, 16, 17, 80, 81, 82]) (by kernel_rfl) (by kernel_rfl) (.cons (dt h1067) (.cons (getI_ob (f := eS_oom_Task) h1075) (.cons (show 0 + 4 ≤ 4 by decide) (.cons (app_ob (f := (eI .i64)) (s := 1) h1076 (fun _ => rfl)).1 (.cons (app_ob (f := (eI .i64)) (s := 1) h1076 (fun _ => rfl)).2.1 (.cons (app_ob (f := (eI .i64)) (s := 1) h1076 (fun _ => rfl)).2.2.1 (.cons (app_ob (f := (eI .i64)) (s := 1) h1076 (fun _ => rfl)).2.2.2 (.cons (app_ob (f := (eI .i64)) (s := 1) h1077 (fun _ => rfl)).1 (.cons (app_ob (f := (eI .i64)) (s := 1) h1077 (fun _ => rfl)).2.1 (.cons (app_ob (f := (eI .i64)) (s := 1) h1077 (fun _ => rfl)).2.2.1 (.cons (app_ob (f := (eI .i64)) (s := 1) h1077 (fun _ => rfl)).2.2.2 (.cons (df h1080) .nil)))))))))))) (G_ringlaw2_OomTells_L2_ok hF ks n v_n2 v_r901 v_r929 v_r948 v_r977 v_r1042 k v_sum1043 (wi .i64 (v_all1044 + v_y1054.fPages)) (wi .i64 (v_x1045 + 1)) v_a1055 v_w1047 v_a1056 _ h q)
    · rw [if_neg h1067] at h
      cases h
      exact pkk_sound TTok mix hF 8 (hs := [.t false]) (ts := []) (s := [0, 1, 2]) (l := [1, 5, 7, 8, 9, 10, 11, 12, 13, 14, 15, 16, 17]) (by kernel_rfl) (by kernel_rfl) (.cons (df h1067) .nil) q
inductive G_ringlaw2_OomTells_C3_R where
  | x0 (v_bad1096 : Int) (v_w1097 : (List Int)) (v_w1098 : (List Int))
def G_ringlaw2_OomTells_C3_ex : G_ringlaw2_OomTells_C3_R → Ex
  | .x0 _ _ _ => .normal
def G_ringlaw2_OomTells_C3_st (v_n2 : Int) (v_r929 : ((List Int) × Int × Int)) (v_r948 : (Int × Int)) (v_r977 : (Int)) (v_z1065 : Int) (v_z1066 : Int) (v_r1095 : (Bool)) (v_z1068 : (List Int)) (v_z1069 : (List Int)) : G_ringlaw2_OomTells_C3_R → PS
  | .x0 v_bad1096 v_w1097 v_w1098 => ⟨[dd, .d (.v (.int .i64 v_n2)), dd, dd, dd, dd, dd, .d (.sl (v_r929.1.map (eI .i64))), .d (.v (.int .i64 v_r929.2.1)), .d (.v (.int .i64 v_r929.2.2)), .d (.v (.int .i64 v_r948.1)), .d (.v (.int .i64 v_r948.2)), .d (.v (.int .i64 v_bad1096)), dd, .srf 0, .srf 1, .d (.v (.int .i64 v_z1065)), dd, dd, dd, dd, dd, dd, dd, dd, dd, dd, dd, dd, dd, dd, dd, dd, dd, dd, dd, dd, dd, dd, dd, dd, dd, dd, dd, dd, dd, dd, dd, dd, dd, dd, dd, dd, dd, dd, dd, dd, dd, dd, dd, dd, dd, dd, dd, dd, dd, dd, dd, dd, dd, dd, dd, dd, dd, dd, dd, dd, dd, dd, dd, dd, dd, dd, dd, dd, dd, dd, dd, dd, dd, dd, dd, dd, dd, dd, dd, dd, dd, dd, dd, dd, dd, dd, dd, dd, dd, dd, dd, dd, dd, dd, dd, dd, dd, dd, dd, dd, dd, dd, dd, dd, dd, dd, dd, dd, dd, dd, dd, dd, dd, dd, dd, dd, dd, dd, dd, dd, dd, dd, dd, dd, dd, dd, dd, dd, dd, dd, dd, dd, dd, dd, dd, dd, dd, dd, dd, dd, dd, dd, dd, dd, dd, dd, dd, dd, dd, dd, dd, dd, dd, dd, dd, dd, dd, dd, dd, dd, dd, dd, dd, dd, dd, dd, dd, dd, dd, dd, dd, dd, dd, dd, dd, dd, dd, dd, dd, dd, dd, dd], [.row 3 1 (v_w1097.map (eI .i64)), .row 3 1 (v_w1098.map (eI .i64))]⟩
def G_ringlaw2_OomTells_C3_hd (v_n2 : Int) (v_r929 : ((List Int) × Int × Int)) (v_r948 : (Int × Int)) (v_r977 : (Int)) (v_z1065 : Int) (v_z1066 : Int) (v_r1095 : (Bool)) (v_z1068 : (List Int)) (v_z1069 : (List Int))  : PS := ⟨[dd, .d (.v (.int .i64 v_n2)), dd, dd, dd, dd, dd, .d (.sl (v_r929.1.map (eI .i64))), .d (.v (.int .i64 v_r929.2.1)), .d (.v (.int .i64 v_r929.2.2)), .d (.v (.int .i64 v_r948.1)), .d (.v (.int .i64 v_r948.2)), .d (.v (.int .i64 v_r977)), dd, .srf 0, .srf 1, .d (.v (.int .i64 v_z1065)), .d (.v (.int .i64 v_z1066)), dd, dd, dd, dd, dd, dd, dd, dd, dd, dd, dd, dd, dd, dd, dd, dd, dd, dd, dd, dd, dd, dd, dd, dd, dd, dd, dd, dd, dd, dd, dd, dd, dd, dd, dd, dd, dd, dd, dd, dd, dd, dd, dd, dd, dd, dd, dd, dd, dd, dd, dd, dd, dd, dd, dd, dd, dd, dd, dd, dd, dd, dd, dd, dd, dd, dd, dd, dd, dd, dd, dd, dd, dd, dd, dd, dd, dd, dd, dd, dd, dd, dd, dd, dd, dd, dd, dd, dd, dd, dd, dd, dd, dd, dd, dd, dd, dd, dd, dd, .d (.v (.bool (!v_r1095))), dd, dd, dd, dd, dd, dd, dd, dd, dd, dd, dd, dd, dd, dd, dd, dd, dd, dd, dd, dd, dd, dd, dd, dd, dd, dd, dd, dd, dd, dd, dd, dd, dd, dd, dd, dd, dd, dd, dd, dd, dd, dd, dd, dd, dd, dd, dd, dd, dd, dd, dd, dd, dd, dd, dd, dd, dd, dd, dd, dd, dd, dd, dd, dd, dd, dd, dd, dd, dd, dd, dd, dd, dd, dd, dd, dd, dd, dd, dd, dd, dd], [.row 3 1 (v_z1068.map (eI .i64)), .row 3 1 (v_z1069.map (eI .i64))]⟩
def G_ringlaw2_OomTells_C3 (n : Nat) (v_n2 : Int) (v_r929 : ((List Int) × Int × Int)) (v_r948 : (Int × Int)) (v_r977 : (Int)) (v_z1065 : Int) (v_z1066 : Int) (v_r1095 : (Bool)) (v_z1068 : (List Int)) (v_z1069 : (List Int)) : Option G_ringlaw2_OomTells_C3_R :=
  if v_r1095 = true then
   if v_z1066 < v_n2 then
    some (.x0 6 v_z1068 v_z1069)
   else
    some (.x0 v_r977 v_z1068 v_z1069)
  else
   some (.x0 1 v_z1068 v_z1069)
theorem G_ringlaw2_OomTells_C3_ok {Fi : Ex → PS → Prop} (hF : KC 199 Fi) (ks : List Fr) (n : Nat) (v_n2 : Int) (v_r929 : ((List Int) × Int × Int)) (v_r948 : (Int × Int)) (v_r977 : (Int)) (v_z1065 : Int) (v_z1066 : Int) (v_r1095 : (Bool)) (v_z1068 : (List Int)) (v_z1069 : (List Int))  (o : G_ringlaw2_OomTells_C3_R) (h : G_ringlaw2_OomTells_C3 n v_n2 v_r929 v_r948 v_r977 v_z1065 v_z1066 v_r1095 v_z1068 v_z1069 = some o) (q : RunE Try.prog 199 Fi ks (G_ringlaw2_OomTells_C3_ex o) (G_ringlaw2_OomTells_C3_st v_n2 v_r929 v_r948 v_r977 v_z1065 v_z1066 v_r1095 v_z1068 v_z1069 o)) : RunE Try.prog 199 Fi (.s (cR (cB (cL (cR (cR (cR (cR (cR (cR (cR (cR (cR (cR (cR (bodyOf Try.f12))))))))))))))) :: ks) .normal (G_ringlaw2_OomTells_C3_hd v_n2 v_r929 v_r948 v_r977 v_z1065 v_z1066 v_r1095 v_z1068 v_z1069) := by
  unfold G_ringlaw2_OomTells_C3 at h
  by_cases h1103 : v_r1095 = true
  · rw [if_pos h1103] at h
    by_cases h1104 : v_z1066 < v_n2
    · rw [if_pos h1104] at h
      cases h
      exact pkk_sound TTok mix hF 5 (hs := [.t false, .t true]) (ts := []) (s := [0, 1]) (l := [1, 7, 8, 9, 10, 11, 12, 14, 15, 16]) (by kernel_rfl) (by kernel_rfl) (.cons (bnf h1103) (.cons (dt h1104) .nil)) q
    · rw [if_neg h1104] at h
      cases h
      exact pkk_sound TTok mix hF 5 (hs := [.t false, .t false]) (ts := []) (s := [0, 1]) (l := [1, 7, 8, 9, 10, 11, 12, 14, 15, 16]) (by kernel_rfl) (by kernel_rfl) (.cons (bnf h1103) (.cons (df h1104) .nil)) q
  · rw [if_neg h1103] at h
    cases h
    exact pkk_sound TTok mix hF 2 (hs := [.t true]) (ts := []) (s := [0, 1]) (l := [1, 7, 8, 9, 10, 11, 12, 14, 15, 16]) (by kernel_rfl) (by kernel_rfl) (.cons (bnt (vf h1103)) .nil) q
inductive G_ringlaw2_OomTells_C4_R where
  | x0 (v_x1116 : Bool)
def G_ringlaw2_OomTells_C4_ex : G_ringlaw2_OomTells_C4_R → Ex
  | .x0 _ => .normal
def G_ringlaw2_OomTells_C4_st (v_r929 : ((List Int) × Int × Int)) (v_r948 : (Int × Int)) (v_z1106 : Int) : G_ringlaw2_OomTells_C4_R → PS
  | .x0 v_x1116 => ⟨[dd, dd, dd, dd, .d (.v (.bool v_x1116)), dd, dd, dd, dd, dd, dd, dd, dd, dd, dd, dd, dd, dd, dd, dd, dd, dd, dd, dd, dd, dd, dd, dd, dd, dd, dd, dd, dd, dd, dd, dd, dd, dd, dd, dd, dd, dd, dd, dd, dd, dd, dd, dd, dd, dd, dd, dd, dd, dd, dd, dd, dd, dd, dd, dd, dd, dd, dd, dd, dd, dd, dd, dd, dd, dd, dd, dd, dd, dd, dd, dd, dd, dd, dd, dd, dd, dd, dd, dd, dd, dd, dd, dd, dd, dd, dd, dd, dd, dd, dd, dd, dd, dd, dd, dd, dd, dd, dd, dd, dd, dd, dd, dd, dd, dd, dd, dd, dd, dd, dd, dd, dd, dd, dd, dd, dd, dd, dd, dd, dd, dd, dd, dd, dd, dd, dd, dd, dd, dd, dd, dd, dd, dd, dd, dd, dd, dd, dd, dd, dd, dd, dd, dd, dd, dd, dd, dd, dd, dd, dd, dd, dd, dd, dd, dd, dd, dd, dd, dd, dd, dd, dd, dd, dd, dd, dd, dd, dd, dd, dd, dd, dd, dd, dd, dd, dd, dd, dd, dd, dd, dd, dd, dd, dd, dd, dd, dd, dd, dd, dd, dd, dd, dd, dd], []⟩
def G_ringlaw2_OomTells_C4_hd (v_r929 : ((List Int) × Int × Int)) (v_r948 : (Int × Int)) (v_z1106 : Int)  : PS := ⟨[dd, dd, dd, dd, dd, dd, dd, .d (.sl (v_r929.1.map (eI .i64))), .d (.v (.int .i64 v_r929.2.1)), .d (.v (.int .i64 v_r929.2.2)), .d (.v (.int .i64 v_r948.1)), .d (.v (.int .i64 v_r948.2)), .d (.v (.int .i64 v_z1106)), dd, dd, dd, dd, dd, dd, dd, dd, dd, dd, dd, dd, dd, dd, dd, dd, dd, dd, dd, dd, dd, dd, dd, dd, dd, dd, dd, dd, dd, dd, dd, dd, dd, dd, dd, dd, dd, dd, dd, dd, dd, dd, dd, dd, dd, dd, dd, dd, dd, dd, dd, dd, dd, dd, dd, dd, dd, dd, dd, dd, dd, dd, dd, dd, dd, dd, dd, dd, dd, dd, dd, dd, dd, dd, dd, dd, dd, dd, dd, dd, dd, dd, dd, dd, dd, dd, dd, dd, dd, dd, dd, dd, dd, dd, dd, dd, dd, dd, dd, dd, dd, dd, dd, dd, dd, dd, dd, dd, dd, dd, dd, dd, dd, dd, dd, dd, dd, dd, dd, dd, dd, dd, dd, dd, dd, dd, dd, dd, dd, dd, dd, dd, dd, dd, dd, dd, dd, dd, dd, dd, dd, dd, dd, dd, dd, dd, dd, dd, dd, dd, dd, dd, dd, dd, dd, dd, dd, dd, dd, dd, dd, dd, dd, dd, dd, dd, dd, dd, dd, dd, dd, dd, dd, dd, dd, dd, dd, dd, dd, dd, dd, dd, dd, dd, dd, dd], []⟩
def G_ringlaw2_OomTells_C4 (n : Nat) (v_r929 : ((List Int) × Int × Int)) (v_r948 : (Int × Int)) (v_z1106 : Int) : Option G_ringlaw2_OomTells_C4_R :=
  if (v_r929.1.length : Int) = 0 then
   if v_r929.2.1 = 0 then
    if v_r929.2.2 = v_z1106 then
     if v_r948.1 = 0 then
      some (.x0 (v_r948.2 == v_z1106))
     else
      some (.x0 false)
    else
     some (.x0 false)
   else
    some (.x0 false)
  else
   some (.x0 false)
theorem G_ringlaw2_OomTells_C4_ok {Fi : Ex → PS → Prop} (hF : KC 199 Fi) (ks : List Fr) (n : Nat) (v_r929 : ((List Int) × Int × Int)) (v_r948 : (Int × Int)) (v_z1106 : Int)  (o : G_ringlaw2_OomTells_C4_R) (h : G_ringlaw2_OomTells_C4 n v_r929 v_r948 v_z1106 = some o) (q : RunE Try.prog 199 Fi ks (G_ringlaw2_OomTells_C4_ex o) (G_ringlaw2_OomTells_C4_st v_r929 v_r948 v_z1106 o)) : RunE Try.prog 199 Fi (.s (cL (cT (cR (cL (cR (cR (cR (cR (cR (cR (cR (cR (cR (cR (cR (cR (bodyOf Try.f12))))))))))))))))) :: ks) .normal (G_ringlaw2_OomTells_C4_hd v_r929 v_r948 v_z1106) := by
  unfold G_ringlaw2_OomTells_C4 at h
  by_cases h1121 : (v_r929.1.length : Int) = 0
  · rw [if_pos h1121] at h
    by_cases h1122 : v_r929.2.1 = 0
    · rw [if_pos h1122] at h
      by_cases h1123 : v_r929.2.2 = v_z1106
      · rw [if_pos h1123] at h
        by_cases h1124 : v_r948.1 = 0
        · rw [if_pos h1124] at h
          cases h
          exact pkk_sound TTok mix hF 1 (hs := [.u (.d (.v (.int .i64 (v_r929.1.length : Int)))), .t true, .c, .t true, .c, .c, .t true, .c, .t true, .c, .c]) (ts := []) (s := []) (l := [4]) (by kernel_rfl) (by kernel_rfl) (.cons (len_ob (f := (eI .i64)) (l := v_r929.1)) (.cons (bt h1121) (.cons (bt h1122) (.cons (bt h1123) (.cons (bt h1124) .nil))))) q
        · rw [if_neg h1124] at h
          cases h
          exact pkk_sound TTok mix hF 1 (hs := [.u (.d (.v (.int .i64 (v_r929.1.length : Int)))), .t true, .c, .t true, .c, .c, .t true, .c, .t false, .c, .c]) (ts := []) (s := []) (l := [4]) (by kernel_rfl) (by kernel_rfl) (.cons (len_ob (f := (eI .i64)) (l := v_r929.1)) (.cons (bt h1121) (.cons (bt h1122) (.cons (bt h1123) (.cons (bf h1124) .nil))))) q
      · rw [if_neg h1123] at h
        cases h
        exact pkk_sound TTok mix hF 1 (hs := [.u (.d (.v (.int .i64 (v_r929.1.length : Int)))), .t true, .c, .t true, .c, .c, .t false, .c, .c, .c, .c]) (ts := []) (s := []) (l := [4]) (by kernel_rfl) (by kernel_rfl) (.cons (len_ob (f := (eI .i64)) (l := v_r929.1)) (.cons (bt h1121) (.cons (bt h1122) (.cons (bf h1123) .nil)))) q
    · rw [if_neg h1122] at h
      cases h
      exact pkk_sound TTok mix hF 1 (hs := [.u (.d (.v (.int .i64 (v_r929.1.length : Int)))), .t true, .c, .t false, .c, .c, .c, .c, .c, .c, .c]) (ts := []) (s := []) (l := [4]) (by kernel_rfl) (by kernel_rfl) (.cons (len_ob (f := (eI .i64)) (l := v_r929.1)) (.cons (bt h1121) (.cons (bf h1122) .nil))) q
  · rw [if_neg h1121] at h
    cases h
    exact pkk_sound TTok mix hF 1 (hs := [.u (.d (.v (.int .i64 (v_r929.1.length : Int)))), .t false, .c, .c, .c, .c, .c, .c, .c, .c, .c]) (ts := []) (s := []) (l := [4]) (by kernel_rfl) (by kernel_rfl) (.cons (len_ob (f := (eI .i64)) (l := v_r929.1)) (.cons (bf h1121) .nil)) q
inductive G_ringlaw2_OomTells_L5_R where
  | x0 (v_best1135 : Int) (v_w1136 : (List Int)) (v_w1137 : (List Int))
def G_ringlaw2_OomTells_L5_ex : G_ringlaw2_OomTells_L5_R → Ex
  | .x0 _ _ _ => .exit 5
def G_ringlaw2_OomTells_L5_st (v_n2 : Int) (v_r929 : ((List Int) × Int × Int)) (v_r948 : (Int × Int)) (v_z1065 : Int) (v_few1123 : Int) (v_have1124 : Int) (v_w1126 : (List Int)) : G_ringlaw2_OomTells_L5_R → PS
  | .x0 v_best1135 v_w1136 v_w1137 => ⟨[dd, .d (.v (.int .i64 v_n2)), dd, dd, dd, dd, dd, .d (.sl (v_r929.1.map (eI .i64))), .d (.v (.int .i64 v_r929.2.1)), .d (.v (.int .i64 v_r929.2.2)), .d (.v (.int .i64 v_r948.1)), .d (.v (.int .i64 v_r948.2)), dd, dd, .srf 0, .srf 1, .d (.v (.int .i64 v_z1065)), dd, dd, dd, .d (.v (.int .i64 v_few1123)), .d (.v (.int .i64 v_have1124)), .d (.v (.int .i64 v_best1135)), dd, dd, dd, dd, dd, dd, dd, dd, dd, dd, dd, dd, dd, dd, dd, dd, dd, dd, dd, dd, dd, dd, dd, dd, dd, dd, dd, dd, dd, dd, dd, dd, dd, dd, dd, dd, dd, dd, dd, dd, dd, dd, dd, dd, dd, dd, dd, dd, dd, dd, dd, dd, dd, dd, dd, dd, dd, dd, dd, dd, dd, dd, dd, dd, dd, dd, dd, dd, dd, dd, dd, dd, dd, dd, dd, dd, dd, dd, dd, dd, dd, dd, dd, dd, dd, dd, dd, dd, dd, dd, dd, dd, dd, dd, dd, dd, dd, dd, dd, dd, dd, dd, dd, dd, dd, dd, dd, dd, dd, dd, dd, dd, dd, dd, dd, dd, dd, dd, dd, dd, dd, dd, dd, dd, dd, dd, dd, dd, dd, dd, dd, dd, dd, dd, dd, dd, dd, dd, dd, dd, dd, dd, dd, dd, dd, dd, dd, dd, dd, dd, dd, dd, dd, dd, dd, dd, dd, dd, dd, dd, dd, dd, dd, dd, dd, dd, dd, dd, dd, dd, dd, dd, dd, dd, dd, dd], [.row 3 1 (v_w1136.map (eI .i64)), .row 3 1 (v_w1137.map (eI .i64))]⟩
def G_ringlaw2_OomTells_L5_hd (v_n2 : Int) (v_r929 : ((List Int) × Int × Int)) (v_r948 : (Int × Int)) (v_z1065 : Int) (v_few1123 : Int) (v_have1124 : Int) (v_w1126 : (List Int)) (v_best1127 : Int) (v_x1128 : Int) (v_w1129 : (List Int)) (v_w1130 : (List Int)) : PS := ⟨[dd, .d (.v (.int .i64 v_n2)), dd, dd, dd, dd, dd, .d (.sl (v_r929.1.map (eI .i64))), .d (.v (.int .i64 v_r929.2.1)), .d (.v (.int .i64 v_r929.2.2)), .d (.v (.int .i64 v_r948.1)), .d (.v (.int .i64 v_r948.2)), dd, dd, .srf 0, .srf 1, .d (.v (.int .i64 v_z1065)), dd, dd, dd, .d (.v (.int .i64 v_few1123)), .d (.v (.int .i64 v_have1124)), .d (.v (.int .i64 v_best1127)), dd, dd, dd, dd, dd, dd, dd, dd, dd, dd, dd, dd, dd, dd, dd, dd, dd, dd, dd, dd, dd, dd, dd, dd, dd, dd, dd, dd, dd, dd, dd, dd, dd, dd, dd, dd, dd, dd, dd, dd, dd, dd, dd, dd, dd, dd, dd, dd, dd, dd, dd, dd, dd, dd, dd, dd, dd, dd, dd, dd, dd, dd, dd, dd, dd, dd, dd, dd, dd, dd, dd, dd, dd, dd, dd, dd, dd, dd, dd, dd, dd, dd, dd, dd, dd, dd, dd, dd, dd, dd, dd, dd, dd, dd, dd, dd, dd, dd, dd, dd, dd, dd, dd, dd, dd, dd, dd, dd, dd, dd, dd, dd, dd, dd, dd, dd, dd, dd, dd, dd, dd, dd, dd, dd, dd, dd, dd, dd, dd, .d (.v (.int .i64 (v_w1126.length : Int))), .d (.v (.int .i64 v_x1128)), dd, dd, dd, dd, dd, dd, dd, dd, dd, dd, dd, dd, dd, dd, dd, dd, dd, dd, dd, dd, dd, dd, dd, dd, dd, dd, dd, dd, dd, dd, dd, dd, dd, dd, dd, dd, dd, dd, dd, dd, dd, dd, dd, dd, dd], [.row 3 1 (v_w1129.map (eI .i64)), .row 3 1 (v_w1130.map (eI .i64))]⟩
def G_ringlaw2_OomTells_L5 (n : Nat) (v_n2 : Int) (v_r929 : ((List Int) × Int × Int)) (v_r948 : (Int × Int)) (v_z1065 : Int) (v_few1123 : Int) (v_have1124 : Int) (v_w1126 : (List Int)) : Nat → Int → Int → (List Int) → (List Int) → Option G_ringlaw2_OomTells_L5_R
  | 0, _, _, _, _ => none
  | k + 1, v_best1127, v_x1128, v_w1129, v_w1130 =>
    if v_x1128 < (v_w1126.length : Int) then
     if 0 ≤ v_x1128 ∧ (v_x1128).toNat < v_w1130.length then
      (v_w1130[(v_x1128).toNat]?).bind fun (v_y1133 : Int) =>
      if 0 ≤ v_best1127 ∧ (v_best1127).toNat < v_w1130.length then
       (v_w1130[(v_best1127).toNat]?).bind fun (v_y1134 : Int) =>
       if v_y1133 > v_y1134 then
        G_ringlaw2_OomTells_L5 n v_n2 v_r929 v_r948 v_z1065 v_few1123 v_have1124 v_w1126 k v_x1128 (wi .i64 (v_x1128 + 1)) v_w1129 v_w1130
       else
        G_ringlaw2_OomTells_L5 n v_n2 v_r929 v_r948 v_z1065 v_few1123 v_have1124 v_w1126 k v_best1127 (wi .i64 (v_x1128 + 1)) v_w1129 v_w1130
      else none
     else none
    else
     some (.x0 v_best1127 v_w1129 v_w1130)
theorem G_ringlaw2_OomTells_L5_ok {Fi : Ex → PS → Prop} (hF : KC 199 Fi) (ks : List Fr) (n : Nat) (v_n2 : Int) (v_r929 : ((List Int) × Int × Int)) (v_r948 : (Int × Int)) (v_z1065 : Int) (v_few1123 : Int) (v_have1124 : Int) (v_w1126 : (List Int))  : ∀ (k : Nat) (v_best1127 : Int) (v_x1128 : Int) (v_w1129 : (List Int)) (v_w1130 : (List Int)) (o : G_ringlaw2_OomTells_L5_R), G_ringlaw2_OomTells_L5 n v_n2 v_r929 v_r948 v_z1065 v_few1123 v_have1124 v_w1126 k v_best1127 v_x1128 v_w1129 v_w1130 = some o → RunE Try.prog 199 Fi ks (G_ringlaw2_OomTells_L5_ex o) (G_ringlaw2_OomTells_L5_st v_n2 v_r929 v_r948 v_z1065 v_few1123 v_have1124 v_w1126 o) → RunE Try.prog 199 Fi (.l k (cP (cB (cR (cL (cR (cB (cR (cP (cB (cL (cR (cR (cR (cR (cR (cR (cR (cR (cR (cR (cR (cR (cR (cR (bodyOf Try.f12))))))))))))))))))))))))) :: ks) .normal (G_ringlaw2_OomTells_L5_hd v_n2 v_r929 v_r948 v_z1065 v_few1123 v_have1124 v_w1126 v_best1127 v_x1128 v_w1129 v_w1130)
  | 0, v_best1127, v_x1128, v_w1129, v_w1130, o, h, q => by rw [G_ringlaw2_OomTells_L5] at h; cases h
  | k + 1, v_best1127, v_x1128, v_w1129, v_w1130, o, h, q => by
    rw [G_ringlaw2_OomTells_L5] at h
    by_cases h1127 : v_x1128 < (v_w1126.length : Int)
    · rw [if_pos h1127] at h
      by_cases h1133 : 0 ≤ v_x1128 ∧ (v_x1128).toNat < v_w1130.length
      · rw [if_pos h1133] at h
        obtain ⟨v_y1133, h1134, h⟩ := bind_some h
        by_cases h1135 : 0 ≤ v_best1127 ∧ (v_best1127).toNat < v_w1130.length
        · rw [if_pos h1135] at h
          obtain ⟨v_y1134, h1136, h⟩ := bind_some h
          by_cases h1137 : v_y1133 > v_y1134
          · rw [if_pos h1137] at h
            exact pkk_sound TTok mix hF 16 (hs := [.t true, .y ((eI .i64) v_y1133), .y ((eI .i64) v_y1134), .t true]) (ts := []) (s := [0, 1]) (l := [1, 7, 8, 9, 10, 11, 14, 15, 16, 20, 21, 22, 152, 153]) (by kernel_rfl) (by kernel_rfl) (.cons (dt h1127) (.cons (idx_ob (f := (eI .i64)) h1133) (.cons (get_ob (f := (eI .i64)) h1134) (.cons (idx_ob (f := (eI .i64)) h1135) (.cons (get_ob (f := (eI .i64)) h1136) (.cons (dt h1137) .nil)))))) (G_ringlaw2_OomTells_L5_ok hF ks n v_n2 v_r929 v_r948 v_z1065 v_few1123 v_have1124 v_w1126 k v_x1128 (wi .i64 (v_x1128 + 1)) v_w1129 v_w1130 _ h q)
          · rw [if_neg h1137] at h
            exact pkk_sound TTok mix hF 16 (hs := [.t true, .y ((eI .i64) v_y1133), .y ((eI .i64) v_y1134), .t false]) (ts := []) (s := [0, 1]) (l := [1, 7, 8, 9, 10, 11, 14, 15, 16, 20, 21, 22, 152, 153]) (by kernel_rfl) (by kernel_rfl) (.cons (dt h1127) (.cons (idx_ob (f := (eI .i64)) h1133) (.cons (get_ob (f := (eI .i64)) h1134) (.cons (idx_ob (f := (eI .i64)) h1135) (.cons (get_ob (f := (eI .i64)) h1136) (.cons (df h1137) .nil)))))) (G_ringlaw2_OomTells_L5_ok hF ks n v_n2 v_r929 v_r948 v_z1065 v_few1123 v_have1124 v_w1126 k v_best1127 (wi .i64 (v_x1128 + 1)) v_w1129 v_w1130 _ h q)
        · rw [if_neg h1135] at h; cases h
      · rw [if_neg h1133] at h; cases h
    · rw [if_neg h1127] at h
      cases h
      exact pkk_sound TTok mix hF 8 (hs := [.t false]) (ts := []) (s := [0, 1]) (l := [1, 7, 8, 9, 10, 11, 14, 15, 16, 20, 21, 22]) (by kernel_rfl) (by kernel_rfl) (.cons (df h1127) .nil) q
inductive G_ringlaw2_OomTells_L6_R where
  | x0 (v_few1144 : Int) (v_w1145 : (List Int))
def G_ringlaw2_OomTells_L6_ex : G_ringlaw2_OomTells_L6_R → Ex
  | .x0 _ _ => .exit 3
def G_ringlaw2_OomTells_L6_st (v_n2 : Int) (v_r929 : ((List Int) × Int × Int)) (v_r948 : (Int × Int)) (v_z1065 : Int) : G_ringlaw2_OomTells_L6_R → PS
  | .x0 v_few1144 v_w1145 => ⟨[dd, dd, dd, dd, dd, dd, dd, .d (.sl (v_r929.1.map (eI .i64))), .d (.v (.int .i64 v_r929.2.1)), .d (.v (.int .i64 v_r929.2.2)), .d (.v (.int .i64 v_r948.1)), .d (.v (.int .i64 v_r948.2)), dd, dd, .srf 0, dd, .d (.v (.int .i64 v_z1065)), dd, dd, dd, .d (.v (.int .i64 v_few1144)), dd, dd, dd, dd, dd, dd, dd, dd, dd, dd, dd, dd, dd, dd, dd, dd, dd, dd, dd, dd, dd, dd, dd, dd, dd, dd, dd, dd, dd, dd, dd, dd, dd, dd, dd, dd, dd, dd, dd, dd, dd, dd, dd, dd, dd, dd, dd, dd, dd, dd, dd, dd, dd, dd, dd, dd, dd, dd, dd, dd, dd, dd, dd, dd, dd, dd, dd, dd, dd, dd, dd, dd, dd, dd, dd, dd, dd, dd, dd, dd, dd, dd, dd, dd, dd, dd, dd, dd, dd, dd, dd, dd, dd, dd, dd, dd, dd, dd, dd, dd, dd, dd, dd, dd, dd, dd, dd, dd, dd, dd, dd, dd, dd, dd, dd, dd, dd, dd, dd, dd, dd, dd, dd, dd, dd, dd, dd, dd, dd, dd, dd, dd, dd, dd, dd, dd, dd, dd, dd, dd, dd, dd, dd, dd, dd, dd, dd, dd, dd, dd, dd, dd, dd, dd, dd, dd, dd, dd, dd, dd, dd, dd, dd, dd, dd, dd, dd, dd, dd, dd, dd, dd, dd, dd, dd, dd, dd, dd], [.row 3 1 (v_w1145.map (eI .i64))]⟩
def G_ringlaw2_OomTells_L6_hd (v_n2 : Int) (v_r929 : ((List Int) × Int × Int)) (v_r948 : (Int × Int)) (v_z1065 : Int) (v_few1123 : Int) (v_have1124 : Int) (v_w1125 : (List Int)) (v_w1126 : (List Int)) : PS := ⟨[dd, .d (.v (.int .i64 v_n2)), dd, dd, dd, dd, dd, .d (.sl (v_r929.1.map (eI .i64))), .d (.v (.int .i64 v_r929.2.1)), .d (.v (.int .i64 v_r929.2.2)), .d (.v (.int .i64 v_r948.1)), .d (.v (.int .i64 v_r948.2)), dd, dd, .srf 0, .srf 1, .d (.v (.int .i64 v_z1065)), dd, dd, dd, .d (.v (.int .i64 v_few1123)), .d (.v (.int .i64 v_have1124)), dd, dd, dd, dd, dd, dd, dd, dd, dd, dd, dd, dd, dd, dd, dd, dd, dd, dd, dd, dd, dd, dd, dd, dd, dd, dd, dd, dd, dd, dd, dd, dd, dd, dd, dd, dd, dd, dd, dd, dd, dd, dd, dd, dd, dd, dd, dd, dd, dd, dd, dd, dd, dd, dd, dd, dd, dd, dd, dd, dd, dd, dd, dd, dd, dd, dd, dd, dd, dd, dd, dd, dd, dd, dd, dd, dd, dd, dd, dd, dd, dd, dd, dd, dd, dd, dd, dd, dd, dd, dd, dd, dd, dd, dd, dd, dd, dd, dd, dd, dd, dd, dd, dd, dd, dd, dd, dd, dd, dd, dd, dd, dd, dd, dd, dd, dd, dd, dd, dd, dd, dd, dd, dd, dd, dd, dd, dd, dd, dd, dd, dd, dd, dd, dd, dd, dd, dd, dd, dd, dd, dd, dd, dd, dd, dd, dd, dd, dd, dd, dd, dd, dd, dd, dd, dd, dd, dd, dd, dd, dd, dd, dd, dd, dd, dd, dd, dd, dd, dd, dd, dd, dd, dd, dd, dd, dd, dd], [.row 3 1 (v_w1125.map (eI .i64)), .row 3 1 (v_w1126.map (eI .i64))]⟩
def G_ringlaw2_OomTells_L6 (n : Nat) (v_n2 : Int) (v_r929 : ((List Int) × Int × Int)) (v_r948 : (Int × Int)) (v_z1065 : Int) : Nat → Int → Int → (List Int) → (List Int) → Option G_ringlaw2_OomTells_L6_R
  | 0, _, _, _, _ => none
  | k + 1, v_few1123, v_have1124, v_w1125, v_w1126 =>
    if v_have1124 < v_n2 then
     (G_ringlaw2_OomTells_L5 n v_n2 v_r929 v_r948 v_z1065 v_few1123 v_have1124 v_w1126 n 0 0 v_w1125 v_w1126).bind fun v_o1138 => match v_o1138 with
     | .x0 v_z1139 v_z1140 v_z1141 =>
       if 0 ≤ v_z1139 ∧ (v_z1139).toNat < v_z1141.length then
        (v_z1141[(v_z1139).toNat]?).bind fun (v_y1142 : Int) =>
        if 0 ≤ v_z1139 ∧ (v_z1139).toNat < v_z1141.length then
         (v_z1141[(v_z1139).toNat]?).bind fun (v_y1143 : Int) =>
         G_ringlaw2_OomTells_L6 n v_n2 v_r929 v_r948 v_z1065 k (wi .i64 (v_few1123 + 1)) (wi .i64 (v_have1124 + v_y1142)) v_z1140 (v_z1141.set (v_z1139).toNat 0)
        else none
       else none
    else
     some (.x0 v_few1123 v_w1125)
theorem G_ringlaw2_OomTells_L6_ok {Fi : Ex → PS → Prop} (hF : KC 199 Fi) (ks : List Fr) (n : Nat) (v_n2 : Int) (v_r929 : ((List Int) × Int × Int)) (v_r948 : (Int × Int)) (v_z1065 : Int)  : ∀ (k : Nat) (v_few1123 : Int) (v_have1124 : Int) (v_w1125 : (List Int)) (v_w1126 : (List Int)) (o : G_ringlaw2_OomTells_L6_R), G_ringlaw2_OomTells_L6 n v_n2 v_r929 v_r948 v_z1065 k v_few1123 v_have1124 v_w1125 v_w1126 = some o → RunE Try.prog 199 Fi ks (G_ringlaw2_OomTells_L6_ex o) (G_ringlaw2_OomTells_L6_st v_n2 v_r929 v_r948 v_z1065 o) → RunE Try.prog 199 Fi (.l k (cP (cB (cL (cR (cR (cR (cR (cR (cR (cR (cR (cR (cR (cR (cR (cR (cR (bodyOf Try.f12)))))))))))))))))) :: ks) .normal (G_ringlaw2_OomTells_L6_hd v_n2 v_r929 v_r948 v_z1065 v_few1123 v_have1124 v_w1125 v_w1126)
  | 0, v_few1123, v_have1124, v_w1125, v_w1126, o, h, q => by rw [G_ringlaw2_OomTells_L6] at h; cases h
  | k + 1, v_few1123, v_have1124, v_w1125, v_w1126, o, h, q => by
    rw [G_ringlaw2_OomTells_L6] at h
    by_cases h1126 : v_have1124 < v_n2
    · rw [if_pos h1126] at h
      obtain ⟨v_o1138, h1138, h⟩ := bind_some h
      refine pkk_sound TTok mix hF 14 (hs := [.t true, .u (.d (.v (.int .i64 (v_w1126.length : Int)))), .n n]) (ts := []) (s := [0, 1]) (l := [1, 7, 8, 9, 10, 11, 14, 15, 16, 20, 21, 22, 152, 153]) (by kernel_rfl) (by kernel_rfl) (.cons (dt h1126) (.cons (len_ob (f := (eI .i64)) (l := v_w1126)) .nil)) (G_ringlaw2_OomTells_L5_ok hF (.b 5 :: .s (cR (cR (cB (cR (cP (cB (cL (cR (cR (cR (cR (cR (cR (cR (cR (cR (cR (cR (cR (cR (cR (bodyOf Try.f12)))))))))))))))))))))) :: .b 4 :: .l k (cP (cB (cL (cR (cR (cR (cR (cR (cR (cR (cR (cR (cR (cR (cR (cR (cR (bodyOf Try.f12)))))))))))))))))) :: ks) n v_n2 v_r929 v_r948 v_z1065 v_few1123 v_have1124 v_w1126 n 0 0 v_w1125 v_w1126 _ h1138 ?_)
      cases v_o1138 with
      | x0 v_z1139 v_z1140 v_z1141 =>
        try dsimp only at h
        by_cases h1139 : 0 ≤ v_z1139 ∧ (v_z1139).toNat < v_z1141.length
        · rw [if_pos h1139] at h
          obtain ⟨v_y1142, h1140, h⟩ := bind_some h
          by_cases h1141 : 0 ≤ v_z1139 ∧ (v_z1139).toNat < v_z1141.length
          · rw [if_pos h1141] at h
            obtain ⟨v_y1143, h1142, h⟩ := bind_some h
            exact pkk_sound TTok mix hF 5 (hs := [.y ((eI .i64) v_y1142), .w ((v_z1141.set (v_z1139).toNat 0).map (eI .i64)), .y ((eI .i64) v_y1143)]) (ts := []) (s := [0, 1]) (l := [1, 7, 8, 9, 10, 11, 14, 15, 16, 20, 21]) (by kernel_rfl) (by kernel_rfl) (.cons (idx_ob (f := (eI .i64)) h1139) (.cons (get_ob (f := (eI .i64)) h1140) (.cons (idx_ob (f := (eI .i64)) h1141) (.cons (get_ob (f := (eI .i64)) h1142) (.cons (Eq.refl (pcells (.v (.int .i64 0)))) (.cons (set_ob (f := (eI .i64)) (l := v_z1141) (k := (v_z1139).toNat) (z := 0) (p := .v (.int .i64 0)) rfl) .nil)))))) (G_ringlaw2_OomTells_L6_ok hF ks n v_n2 v_r929 v_r948 v_z1065 k (wi .i64 (v_few1123 + 1)) (wi .i64 (v_have1124 + v_y1142)) v_z1140 (v_z1141.set (v_z1139).toNat 0) _ h q)
          · rw [if_neg h1141] at h; cases h
        · rw [if_neg h1139] at h; cases h
    · rw [if_neg h1126] at h
      cases h
      exact pkk_sound TTok mix hF 8 (hs := [.t false]) (ts := []) (s := [0]) (l := [7, 8, 9, 10, 11, 14, 16, 20]) (by kernel_rfl) (by kernel_rfl) (.cons (df h1126) .nil) q
inductive G_ringlaw2_OomTells_C7_R where
  | x0 (v_x1151 : Bool)
def G_ringlaw2_OomTells_C7_ex : G_ringlaw2_OomTells_C7_R → Ex
  | .x0 _ => .normal
def G_ringlaw2_OomTells_C7_st (v_r929 : ((List Int) × Int × Int)) (v_r948 : (Int × Int)) (v_z1065 : Int) (v_z1147 : Int) (v_z1148 : (List Int)) : G_ringlaw2_OomTells_C7_R → PS
  | .x0 v_x1151 => ⟨[dd, dd, dd, dd, .d (.v (.bool v_x1151)), dd, dd, dd, dd, dd, dd, dd, dd, dd, dd, dd, dd, dd, dd, dd, dd, dd, dd, dd, dd, dd, dd, dd, dd, dd, dd, dd, dd, dd, dd, dd, dd, dd, dd, dd, dd, dd, dd, dd, dd, dd, dd, dd, dd, dd, dd, dd, dd, dd, dd, dd, dd, dd, dd, dd, dd, dd, dd, dd, dd, dd, dd, dd, dd, dd, dd, dd, dd, dd, dd, dd, dd, dd, dd, dd, dd, dd, dd, dd, dd, dd, dd, dd, dd, dd, dd, dd, dd, dd, dd, dd, dd, dd, dd, dd, dd, dd, dd, dd, dd, dd, dd, dd, dd, dd, dd, dd, dd, dd, dd, dd, dd, dd, dd, dd, dd, dd, dd, dd, dd, dd, dd, dd, dd, dd, dd, dd, dd, dd, dd, dd, dd, dd, dd, dd, dd, dd, dd, dd, dd, dd, dd, dd, dd, dd, dd, dd, dd, dd, dd, dd, dd, dd, dd, dd, dd, dd, dd, dd, dd, dd, dd, dd, dd, dd, dd, dd, dd, dd, dd, dd, dd, dd, dd, dd, dd, dd, dd, dd, dd, dd, dd, dd, dd, dd, dd, dd, dd, dd, dd, dd, dd, dd, dd], []⟩
def G_ringlaw2_OomTells_C7_hd (v_r929 : ((List Int) × Int × Int)) (v_r948 : (Int × Int)) (v_z1065 : Int) (v_z1147 : Int) (v_z1148 : (List Int))  : PS := ⟨[dd, dd, dd, dd, dd, dd, dd, .d (.sl (v_r929.1.map (eI .i64))), .d (.v (.int .i64 v_r929.2.1)), .d (.v (.int .i64 v_r929.2.2)), .d (.v (.int .i64 v_r948.1)), .d (.v (.int .i64 v_r948.2)), dd, dd, .srf 0, dd, .d (.v (.int .i64 v_z1065)), dd, dd, dd, .d (.v (.int .i64 v_z1147)), dd, dd, dd, dd, dd, dd, dd, dd, dd, dd, dd, dd, dd, dd, dd, dd, dd, dd, dd, dd, dd, dd, dd, dd, dd, dd, dd, dd, dd, dd, dd, dd, dd, dd, dd, dd, dd, dd, dd, dd, dd, dd, dd, dd, dd, dd, dd, dd, dd, dd, dd, dd, dd, dd, dd, dd, dd, dd, dd, dd, dd, dd, dd, dd, dd, dd, dd, dd, dd, dd, dd, dd, dd, dd, dd, dd, dd, dd, dd, dd, dd, dd, dd, dd, dd, dd, dd, dd, dd, dd, dd, dd, dd, dd, dd, dd, dd, dd, dd, dd, dd, dd, dd, dd, dd, dd, dd, dd, dd, dd, dd, dd, dd, dd, dd, dd, dd, dd, dd, dd, dd, dd, dd, dd, dd, dd, dd, dd, dd, dd, dd, dd, dd, dd, dd, dd, dd, dd, dd, dd, dd, dd, dd, dd, dd, dd, dd, dd, dd, dd, dd, dd, dd, dd, dd, dd, dd, dd, dd, dd, dd, dd, dd, dd, dd, dd, dd, dd, dd, dd, dd, dd, dd, dd, dd, dd, dd, dd], [.row 3 1 (v_z1148.map (eI .i64))]⟩
def G_ringlaw2_OomTells_C7 (n : Nat) (v_r929 : ((List Int) × Int × Int)) (v_r948 : (Int × Int)) (v_z1065 : Int) (v_z1147 : Int) (v_z1148 : (List Int)) : Option G_ringlaw2_OomTells_C7_R :=
  (G_slices_Equal_int_int n v_r929.1 v_z1148).bind fun (v_r1150 : (Bool)) =>
  if v_r1150 = true then
   if v_r929.2.1 = v_z1065 then
    if v_r929.2.2 = 0 then
     if v_r948.1 = v_z1147 then
      some (.x0 (v_r948.2 == 0))
     else
      some (.x0 false)
    else
     some (.x0 false)
   else
    some (.x0 false)
  else
   some (.x0 false)
theorem G_ringlaw2_OomTells_C7_ok {Fi : Ex → PS → Prop} (hF : KC 199 Fi) (ks : List Fr) (n : Nat) (v_r929 : ((List Int) × Int × Int)) (v_r948 : (Int × Int)) (v_z1065 : Int) (v_z1147 : Int) (v_z1148 : (List Int))  (o : G_ringlaw2_OomTells_C7_R) (h : G_ringlaw2_OomTells_C7 n v_r929 v_r948 v_z1065 v_z1147 v_z1148 = some o) (q : RunE Try.prog 199 Fi ks (G_ringlaw2_OomTells_C7_ex o) (G_ringlaw2_OomTells_C7_st v_r929 v_r948 v_z1065 v_z1147 v_z1148 o)) : RunE Try.prog 199 Fi (.s (cL (cR (cR (cR (cR (cR (cR (cR (cR (cR (cR (cR (cR (cR (cR (cR (bodyOf Try.f12))))))))))))))))) :: ks) .normal (G_ringlaw2_OomTells_C7_hd v_r929 v_r948 v_z1065 v_z1147 v_z1148) := by
  unfold G_ringlaw2_OomTells_C7 at h
  obtain ⟨v_r1150, h1149, h⟩ := bind_some h
  by_cases h1150 : v_r1150 = true
  · rw [if_pos h1150] at h
    by_cases h1151 : v_r929.2.1 = v_z1065
    · rw [if_pos h1151] at h
      by_cases h1152 : v_r929.2.2 = 0
      · rw [if_pos h1152] at h
        by_cases h1153 : v_r948.1 = v_z1147
        · rw [if_pos h1153] at h
          cases h
          exact pkk_sound TTok mix hF 1 (hs := [.c, .r (eB v_r1150), .t true, .c, .c, .t true, .c, .t true, .c, .c, .t true, .c]) (ts := []) (s := []) (l := [4]) (by kernel_rfl) (by kernel_rfl) (.cons (G_slices_Equal_int_int_ok n v_r929.1 v_z1148 _ h1149) (.cons h1150 (.cons (bt h1151) (.cons (bt h1152) (.cons (bt h1153) .nil))))) q
        · rw [if_neg h1153] at h
          cases h
          exact pkk_sound TTok mix hF 1 (hs := [.c, .r (eB v_r1150), .t true, .c, .c, .t true, .c, .t true, .c, .c, .t false, .c]) (ts := []) (s := []) (l := [4]) (by kernel_rfl) (by kernel_rfl) (.cons (G_slices_Equal_int_int_ok n v_r929.1 v_z1148 _ h1149) (.cons h1150 (.cons (bt h1151) (.cons (bt h1152) (.cons (bf h1153) .nil))))) q
      · rw [if_neg h1152] at h
        cases h
        exact pkk_sound TTok mix hF 1 (hs := [.c, .r (eB v_r1150), .t true, .c, .c, .t true, .c, .t false, .c, .c, .c, .c]) (ts := []) (s := []) (l := [4]) (by kernel_rfl) (by kernel_rfl) (.cons (G_slices_Equal_int_int_ok n v_r929.1 v_z1148 _ h1149) (.cons h1150 (.cons (bt h1151) (.cons (bf h1152) .nil)))) q
    · rw [if_neg h1151] at h
      cases h
      exact pkk_sound TTok mix hF 1 (hs := [.c, .r (eB v_r1150), .t true, .c, .c, .t false, .c, .c, .c, .c, .c, .c]) (ts := []) (s := []) (l := [4]) (by kernel_rfl) (by kernel_rfl) (.cons (G_slices_Equal_int_int_ok n v_r929.1 v_z1148 _ h1149) (.cons h1150 (.cons (bf h1151) .nil))) q
  · rw [if_neg h1150] at h
    cases h
    exact pkk_sound TTok mix hF 1 (hs := [.c, .r (eB v_r1150), .t false, .c, .c, .c, .c, .c, .c, .c, .c, .c]) (ts := []) (s := []) (l := [4]) (by kernel_rfl) (by kernel_rfl) (.cons (G_slices_Equal_int_int_ok n v_r929.1 v_z1148 _ h1149) (.cons (vf h1150) .nil)) q
/- ringhall/ringlaw2.OomTells -/
def G_ringlaw2_OomTells (n : Nat) (v_l1 : (List S_oom_Task)) (v_n2 : Int) : Option (Bool) :=
  (G_oom_Order n v_l1).bind fun (v_r901 : ((List Int) × Int)) =>
  (G_oom_Pick n v_l1 v_n2).bind fun (v_r929 : ((List Int) × Int × Int)) =>
  (G_oom_Fewest n v_l1 v_n2).bind fun (v_r948 : (Int × Int)) =>
  (G_ringref2_Tasks n v_l1).bind fun (v_r977 : (Int)) =>
  (G_oom_Check n v_l1).bind fun (v_r978 : (Int)) =>
  if v_r978 = v_r977 then
   if v_r901.2 = v_r977 then
    if v_r977 = 0 then
     (G_ringref2_TaskOrder n v_l1).bind fun (v_r1042 : ((List S_oom_Task))) =>
     (G_ringlaw2_OomTells_L2 n v_n2 v_r901 v_r929 v_r948 v_r977 v_r1042 n 0 0 0 ([] : List Int) ([] : List Int) ([] : List Int)).bind fun v_o1064 => match v_o1064 with
     | .x0 v_z1065 v_z1066 v_z1067 v_z1068 v_z1069 =>
       (G_slices_Equal_int_int n v_r901.1 v_z1067).bind fun (v_r1080 : (Bool)) =>
       if v_r1080 = true then
        (G_ringref2_In n v_n2 1 1048576).bind fun (v_r1095 : (Bool)) =>
        (G_ringlaw2_OomTells_C3 n v_n2 v_r929 v_r948 v_r977 v_z1065 v_z1066 v_r1095 v_z1068 v_z1069).bind fun v_o1105 => match v_o1105 with
        | .x0 v_z1106 v_z1107 v_z1108 =>
          if v_z1106 = 0 then
           (G_ringlaw2_OomTells_L6 n v_n2 v_r929 v_r948 v_z1065 n 0 0 v_z1107 v_z1108).bind fun v_o1146 => match v_o1146 with
           | .x0 v_z1147 v_z1148 =>
             (G_ringlaw2_OomTells_C7 n v_r929 v_r948 v_z1065 v_z1147 v_z1148).bind fun v_o1156 => match v_o1156 with
             | .x0 v_z1157 =>
               some v_z1157
          else
           (G_ringlaw2_OomTells_C4 n v_r929 v_r948 v_z1106).bind fun v_o1121 => match v_o1121 with
           | .x0 v_z1122 =>
             some v_z1122
       else
        some false
    else
     (G_ringlaw2_OomTells_C1 n v_r901 v_r929 v_r948 v_r977).bind fun v_o991 => match v_o991 with
     | .x0 v_z992 =>
       some v_z992
   else
    some false
  else
   some false
theorem G_ringlaw2_OomTells_ok (n : Nat) (v_l1 : (List S_oom_Task)) (v_n2 : Int) (r : Bool) (h : G_ringlaw2_OomTells n v_l1 v_n2 = some r) : Ret Try.prog 12 [(eL eS_oom_Task) v_l1, (eI .i64) v_n2] (eB r) := by
  refine ret_run (n := 199) (fn := Try.f12) (c := bodyOf Try.f12) (by kernel_rfl) (by kernel_rfl) (by kernel_rfl) (by kernel_rfl) ?_
  have hF : KC 199 (FinR Try.prog Try.f12 (eB r)) := FinR.kc' (by kernel_rfl)
  unfold G_ringlaw2_OomTells at h
  obtain ⟨v_r901, h932, h⟩ := bind_some h
  obtain ⟨v_r929, h956, h⟩ := bind_some h
  obtain ⟨v_r948, h973, h⟩ := bind_some h
  obtain ⟨v_r977, h998, h⟩ := bind_some h
  obtain ⟨v_r978, h999, h⟩ := bind_some h
  by_cases h1000 : v_r978 = v_r977
  · rw [if_pos h1000] at h
    by_cases h1001 : v_r901.2 = v_r977
    · rw [if_pos h1001] at h
      by_cases h1012 : v_r977 = 0
      · rw [if_pos h1012] at h
        obtain ⟨v_r1042, h1066, h⟩ := bind_some h
        obtain ⟨v_o1064, h1082, h⟩ := bind_some h
        refine pkk_sound TTok mix hF 29 (hs := [.r (.tup [(eL (eI .i64)) v_r901.1, (eI .i64) v_r901.2]), .r (.tup [(eL (eI .i64)) v_r929.1, (eI .i64) v_r929.2.1, (eI .i64) v_r929.2.2]), .r (.tup [(eI .i64) v_r948.1, (eI .i64) v_r948.2]), .r ((eI .i64) v_r977), .r ((eI .i64) v_r978), .t false, .c, .c, .t false, .t false, .r ((eL eS_oom_Task) v_r1042), .u (.d (.v (.int .i64 (v_r1042.length : Int)))), .n n]) (ts := [(13, 3, 1), (14, 3, 1), (15, 3, 1)]) (s := [147, 148, 149]) (l := [1, 5, 7, 8, 9, 10, 11, 12, 13, 14, 15, 16, 17, 80, 81, 82]) (by kernel_rfl) (by kernel_rfl) (.cons (G_oom_Order_ok n v_l1 _ h932) (.cons (G_oom_Pick_ok n v_l1 v_n2 _ h956) (.cons (G_oom_Fewest_ok n v_l1 v_n2 _ h973) (.cons (G_ringref2_Tasks_ok n v_l1 _ h998) (.cons (G_oom_Check_ok n v_l1 _ h999) (.cons (nf h1000) (.cons (nf h1001) (.cons (nf h1012) (.cons (G_ringref2_TaskOrder_ok n v_l1 _ h1066) (.cons (len_ob (f := eS_oom_Task) (l := v_r1042)) .nil)))))))))) (G_ringlaw2_OomTells_L2_ok hF (.b 0 :: .s (cR (cR (cR (cR (cR (cR (cR (cR (cR (cR (bodyOf Try.f12))))))))))) :: []) n v_n2 v_r901 v_r929 v_r948 v_r977 v_r1042 n 0 0 0 ([] : List Int) ([] : List Int) ([] : List Int) _ h1082 ?_)
        cases v_o1064 with
        | x0 v_z1065 v_z1066 v_z1067 v_z1068 v_z1069 =>
          try dsimp only at h
          obtain ⟨v_r1080, h1092, h⟩ := bind_some h
          by_cases h1093 : v_r1080 = true
          · rw [if_pos h1093] at h
            obtain ⟨v_r1095, h1100, h⟩ := bind_some h
            obtain ⟨v_o1105, h1105, h⟩ := bind_some h
            refine pkk_sound TTok mix hF 10 (hs := [.c, .r (eB v_r1080), .t false, .r (eB v_r1095)]) (ts := []) (s := [1, 2]) (l := [1, 7, 8, 9, 10, 11, 12, 14, 15, 16, 17, 117]) (by kernel_rfl) (by kernel_rfl) (.cons (G_slices_Equal_int_int_ok n v_r901.1 v_z1067 _ h1092) (.cons (bnf h1093) (.cons (G_ringref2_In_ok n v_n2 1 1048576 _ h1100) .nil))) (G_ringlaw2_OomTells_C3_ok hF (.b 2 :: .s (cR (cR (cR (cR (cR (cR (cR (cR (cR (cR (cR (cR (bodyOf Try.f12))))))))))))) :: []) n v_n2 v_r929 v_r948 v_r977 v_z1065 v_z1066 v_r1095 v_z1068 v_z1069 _ h1105 ?_)
            cases v_o1105 with
            | x0 v_z1106 v_z1107 v_z1108 =>
              try dsimp only at h
              by_cases h1116 : v_z1106 = 0
              · rw [if_pos h1116] at h
                obtain ⟨v_o1146, h1143, h⟩ := bind_some h
                refine pkk_sound TTok mix hF 11 (hs := [.t false, .n n]) (ts := []) (s := [0, 1]) (l := [1, 7, 8, 9, 10, 11, 14, 15, 16, 20, 21]) (by kernel_rfl) (by kernel_rfl) (.cons (nf h1116) .nil) (G_ringlaw2_OomTells_L6_ok hF (.b 3 :: .s (cR (cR (cR (cR (cR (cR (cR (cR (cR (cR (cR (cR (cR (cR (cR (bodyOf Try.f12)))))))))))))))) :: []) n v_n2 v_r929 v_r948 v_z1065 n 0 0 v_z1107 v_z1108 _ h1143 ?_)
                cases v_o1146 with
                | x0 v_z1147 v_z1148 =>
                  try dsimp only at h
                  obtain ⟨v_o1156, h1154, h⟩ := bind_some h
                  refine pkk_sound TTok mix hF 2 (hs := []) (ts := []) (s := [0]) (l := [7, 8, 9, 10, 11, 14, 16, 20]) (by kernel_rfl) (by kernel_rfl) .nil (G_ringlaw2_OomTells_C7_ok hF (.s (cR (cR (cR (cR (cR (cR (cR (cR (cR (cR (cR (cR (cR (cR (cR (cR (bodyOf Try.f12))))))))))))))))) :: []) n v_r929 v_r948 v_z1065 v_z1147 v_z1148 _ h1154 ?_)
                  cases v_o1156 with
                  | x0 v_z1157 =>
                    try dsimp only at h
                    obtain rfl := Option.some.inj h
                    exact pend_sound TTok mix 1 (hs := []) (by kernel_rfl) (by kernel_rfl) (by kernel_rfl) .nil
              · rw [if_neg h1116] at h
                obtain ⟨v_o1121, h1125, h⟩ := bind_some h
                refine pkk_sound TTok mix hF 6 (hs := [.t true]) (ts := []) (s := []) (l := [7, 8, 9, 10, 11, 12]) (by kernel_rfl) (by kernel_rfl) (.cons (nt h1116) .nil) (G_ringlaw2_OomTells_C4_ok hF (.s (cR (cT (cR (cL (cR (cR (cR (cR (cR (cR (cR (cR (cR (cR (cR (cR (bodyOf Try.f12))))))))))))))))) :: .s (cR (cR (cR (cR (cR (cR (cR (cR (cR (cR (cR (cR (cR (bodyOf Try.f12)))))))))))))) :: []) n v_r929 v_r948 v_z1106 _ h1125 ?_)
                cases v_o1121 with
                | x0 v_z1122 =>
                  try dsimp only at h
                  obtain rfl := Option.some.inj h
                  exact pend_sound TTok mix 2 (hs := []) (by kernel_rfl) (by kernel_rfl) (by kernel_rfl) .nil
          · rw [if_neg h1093] at h
            obtain rfl := Option.some.inj h
            exact pend_sound TTok mix 9 (hs := [.c, .r (eB v_r1080), .t true]) (by kernel_rfl) (by kernel_rfl) (by kernel_rfl) (.cons (G_slices_Equal_int_int_ok n v_r901.1 v_z1067 _ h1092) (.cons (bnt (vf h1093)) .nil))
      · rw [if_neg h1012] at h
        obtain ⟨v_o991, h1021, h⟩ := bind_some h
        refine pkk_sound TTok mix hF 20 (hs := [.r (.tup [(eL (eI .i64)) v_r901.1, (eI .i64) v_r901.2]), .r (.tup [(eL (eI .i64)) v_r929.1, (eI .i64) v_r929.2.1, (eI .i64) v_r929.2.2]), .r (.tup [(eI .i64) v_r948.1, (eI .i64) v_r948.2]), .r ((eI .i64) v_r977), .r ((eI .i64) v_r978), .t false, .c, .c, .t false, .t true]) (ts := []) (s := []) (l := [5, 7, 8, 9, 10, 11, 12]) (by kernel_rfl) (by kernel_rfl) (.cons (G_oom_Order_ok n v_l1 _ h932) (.cons (G_oom_Pick_ok n v_l1 v_n2 _ h956) (.cons (G_oom_Fewest_ok n v_l1 v_n2 _ h973) (.cons (G_ringref2_Tasks_ok n v_l1 _ h998) (.cons (G_oom_Check_ok n v_l1 _ h999) (.cons (nf h1000) (.cons (nf h1001) (.cons (nt h1012) .nil)))))))) (G_ringlaw2_OomTells_C1_ok hF (.s (cR (cT (cR (cL (cR (cR (cR (cR (cR (cR (bodyOf Try.f12))))))))))) :: .s (cR (cR (cR (cR (cR (cR (cR (bodyOf Try.f12)))))))) :: []) n v_r901 v_r929 v_r948 v_r977 _ h1021 ?_)
        cases v_o991 with
        | x0 v_z992 =>
          try dsimp only at h
          obtain rfl := Option.some.inj h
          exact pend_sound TTok mix 2 (hs := []) (by kernel_rfl) (by kernel_rfl) (by kernel_rfl) .nil
    · rw [if_neg h1001] at h
      obtain rfl := Option.some.inj h
      exact pend_sound TTok mix 18 (hs := [.r (.tup [(eL (eI .i64)) v_r901.1, (eI .i64) v_r901.2]), .r (.tup [(eL (eI .i64)) v_r929.1, (eI .i64) v_r929.2.1, (eI .i64) v_r929.2.2]), .r (.tup [(eI .i64) v_r948.1, (eI .i64) v_r948.2]), .r ((eI .i64) v_r977), .r ((eI .i64) v_r978), .t false, .c, .c, .t true]) (by kernel_rfl) (by kernel_rfl) (by kernel_rfl) (.cons (G_oom_Order_ok n v_l1 _ h932) (.cons (G_oom_Pick_ok n v_l1 v_n2 _ h956) (.cons (G_oom_Fewest_ok n v_l1 v_n2 _ h973) (.cons (G_ringref2_Tasks_ok n v_l1 _ h998) (.cons (G_oom_Check_ok n v_l1 _ h999) (.cons (nf h1000) (.cons (nt h1001) .nil)))))))
  · rw [if_neg h1000] at h
    obtain rfl := Option.some.inj h
    exact pend_sound TTok mix 18 (hs := [.r (.tup [(eL (eI .i64)) v_r901.1, (eI .i64) v_r901.2]), .r (.tup [(eL (eI .i64)) v_r929.1, (eI .i64) v_r929.2.1, (eI .i64) v_r929.2.2]), .r (.tup [(eI .i64) v_r948.1, (eI .i64) v_r948.2]), .r ((eI .i64) v_r977), .r ((eI .i64) v_r978), .t true, .c, .c, .c]) (by kernel_rfl) (by kernel_rfl) (by kernel_rfl) (.cons (G_oom_Order_ok n v_l1 _ h932) (.cons (G_oom_Pick_ok n v_l1 v_n2 _ h956) (.cons (G_oom_Fewest_ok n v_l1 v_n2 _ h973) (.cons (G_ringref2_Tasks_ok n v_l1 _ h998) (.cons (G_oom_Check_ok n v_l1 _ h999) (.cons (nt h1000) .nil))))))
def okS_oom_Task (x : S_oom_Task) : Prop := (fun a => (Lit.int .i64 a).wf = true) x.fId ∧ (fun a => (Lit.int .i64 a).wf = true) x.fPages ∧ (fun a => (Lit.int .i64 a).wf = true) x.fScore ∧ (fun _ => True) x.fKept ∧ True
theorem brS_oom_Task : Br (.pair (.int .i64) (.pair (.int .i64) (.pair (.int .i64) (.pair .bool .unit)))) (fun x : S_oom_Task => [.v (.int .i64 x.fId), .v (.int .i64 x.fPages), .v (.int .i64 x.fScore), .v (.bool x.fKept)]) okS_oom_Task := br_map (br_pair (br_int .i64) (br_pair (br_int .i64) (br_pair (br_int .i64) (br_pair br_bool br_unit)))) (fun p => S_oom_Task.mk p.1 p.2.1 p.2.2.1 p.2.2.2.1) (fun p h => ⟨rfl, h⟩)
theorem OomTells_walk (H : ∀ (a0 : (List S_oom_Task)) (a1 : Int), (okL 32 okS_oom_Task) a0 → (fun a => (Lit.int .i64 a).wf = true) a1 → ∃ n, G_ringlaw2_OomTells n a0 a1 = some true) (w : World) (v0 : Value) (v1 : Value) (h0 : rep.Arg w (.slice 32 (.pair (.int .i64) (.pair (.int .i64) (.pair (.int .i64) (.pair .bool .unit))))) v0) (h1 : rep.Arg w (.int .i64) v1) : Calls Try.prog 12 #[v0, v1] w (help.Ret (.bool true) w) := by
  obtain ⟨a0, o0, r0⟩ := arg_one (br_slice (f := eS_oom_Task) (ok := okS_oom_Task) brS_oom_Task (fun _ => rfl) (by decide)) (by rfl) h0
  obtain ⟨a1, o1, r1⟩ := arg_one (br_int .i64) (by rfl) h1
  obtain ⟨n, hn⟩ := H a0 a1 o0 o1
  exact walk_of (G_ringlaw2_OomTells_ok n a0 a1 true hn) (RT_cons r0 (RT_cons r1 RT_nil))
/- FRAME OomTells; ringhall/ringlaw2.OomTells; (.slice 32 (.pair (.int .i64) (.pair (.int .i64) (.pair (.int .i64) (.pair .bool .unit))))) | (.int .i64); .slice none 0 0 | .int .i64 0 -/
end Go.Proofs.Ytiaebagjcbkkgaa.pv
