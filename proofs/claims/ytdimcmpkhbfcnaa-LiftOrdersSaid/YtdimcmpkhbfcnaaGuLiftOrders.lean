/- What the functions compute (part 2): written by gen.py. -/
import Derived.Test.YtdimcmpkhbfcnaaGuLiftOrdersP1
set_option maxRecDepth 100000
set_option linter.all false
namespace Go.Proofs.Ytdimcmpkhbfcnaa.pv
open Go.RowKit
theorem G_slices_pdqsortCmpFunc_lift_Req_h_C4_ok {Fi : Ex → PS → Prop} (hF : KC 148 Fi) (ks : List Fr) (n : Nat) (v_a248 : Int) (v_b249 : Int) (v_z1035 : Int) (v_cmp247 : (S_lift_Req → S_lift_Req → Option (Int))) (v_wasBalanced251 : Bool) (v_wasPartitioned252 : Bool) (v_z1048 : Int) (v_z1060 : (List S_lift_Req)) (v_cmp247_g : FuncId) (v_cmp247_c : (List PV)) (v_cmp247_h : ∀ (x0 : S_lift_Req) (x1 : S_lift_Req) (r : Int), v_cmp247 x0 x1 = some r → Ret Try.prog v_cmp247_g ([eS_lift_Req x0, eS_lift_Req x1] ++ v_cmp247_c) ((eI .i64) r)) (o : G_slices_pdqsortCmpFunc_lift_Req_h_C4_R) (h : G_slices_pdqsortCmpFunc_lift_Req_h_C4 n v_a248 v_b249 v_z1035 v_cmp247 v_wasBalanced251 v_wasPartitioned252 v_z1048 v_z1060 = some o) (q : RunE Try.prog 148 Fi ks (G_slices_pdqsortCmpFunc_lift_Req_h_C4_ex o) (G_slices_pdqsortCmpFunc_lift_Req_h_C4_st v_a248 v_b249 v_z1035 v_cmp247 v_wasBalanced251 v_wasPartitioned252 v_z1048 v_z1060 v_cmp247_g v_cmp247_c o)) : RunE Try.prog 148 Fi (.s (cL (cL (cR (cR (cR (cR (cR (cR (cR (cB (cP (cB (cR (cR (bodyOf Try.f39))))))))))))))) :: ks) .normal (G_slices_pdqsortCmpFunc_lift_Req_h_C4_hd v_a248 v_b249 v_z1035 v_cmp247 v_wasBalanced251 v_wasPartitioned252 v_z1048 v_z1060 v_cmp247_g v_cmp247_c) := by
  unfold G_slices_pdqsortCmpFunc_lift_Req_h_C4 at h
  by_cases h852 : v_a248 > 0
  · rw [if_pos h852] at h
    by_cases h853 : 0 ≤ (wi .i64 (v_a248 - 1)) ∧ ((wi .i64 (v_a248 - 1))).toNat < v_z1060.length
    · rw [if_pos h853] at h
      obtain ⟨v_y1065, h854, h⟩ := bind_some h
      by_cases h855 : 0 ≤ v_z1048 ∧ (v_z1048).toNat < v_z1060.length
      · rw [if_pos h855] at h
        obtain ⟨v_y1066, h856, h⟩ := bind_some h
        obtain ⟨v_r1067, h857, h⟩ := bind_some h
        cases h
        exact pkk_sound TTok mix hF 1 (hs := [.t true, .c, .c, .c, .c, .c, .y (eS_lift_Req v_y1065), .c, .c, .c, .c, .y (eS_lift_Req v_y1066), .c, .r ((eI .i64) v_r1067), .c, .c]) (ts := []) (s := [0, 1]) (l := [0, 1, 2, 3, 4, 10, 11, 12, 13, 97]) (by kernel_rfl) (by kernel_rfl) (.cons (dt h852) (.cons (idx_ob (f := eS_lift_Req) h853) (.cons (get_ob (f := eS_lift_Req) h854) (.cons (idx_ob (f := eS_lift_Req) h855) (.cons (get_ob (f := eS_lift_Req) h856) (.cons (v_cmp247_h v_y1065 v_y1066 _ h857) .nil)))))) q
      · rw [if_neg h855] at h; cases h
    · rw [if_neg h853] at h; cases h
  · rw [if_neg h852] at h
    cases h
    exact pkk_sound TTok mix hF 1 (hs := [.t false, .c, .c, .c, .c, .c, .c, .c, .c, .c, .c, .c, .c]) (ts := []) (s := [0, 1]) (l := [0, 1, 2, 3, 4, 10, 11, 12, 13, 97]) (by kernel_rfl) (by kernel_rfl) (.cons (df h852) .nil) q
inductive G_slices_pdqsortCmpFunc_lift_Req_h_C5_R where
  | x0 (v_x1107 : Bool) (v_w1108 : (List S_lift_Req))
def G_slices_pdqsortCmpFunc_lift_Req_h_C5_ex : G_slices_pdqsortCmpFunc_lift_Req_h_C5_R → Ex
  | .x0 _ _ => .normal
def G_slices_pdqsortCmpFunc_lift_Req_h_C5_st (v_a248 : Int) (v_b249 : Int) (v_z1035 : Int) (v_cmp247 : (S_lift_Req → S_lift_Req → Option (Int))) (v_wasBalanced251 : Bool) (v_wasPartitioned252 : Bool) (v_z1048 : Int) (v_z1050 : (List S_lift_Req)) (v_cmp247_g : FuncId) (v_cmp247_c : (List PV)) : G_slices_pdqsortCmpFunc_lift_Req_h_C5_R → PS
  | .x0 v_x1107 v_w1108 => ⟨(.srf 1 :: .d (.v (.int .i64 v_a248)) :: .d (.v (.int .i64 v_b249)) :: .d (.v (.int .i64 v_z1035)) :: .d (.clo v_cmp247_g v_cmp247_c) :: dd :: dd :: dd :: dd :: dd :: .d (.v (.bool v_wasBalanced251)) :: .d (.v (.bool v_wasPartitioned252)) :: .d (.v (.int .i64 (wi .i64 (v_b249 - v_a248)))) :: .d (.v (.int .i64 v_z1048)) :: (dds 83 (.d (.v (.bool v_x1107)) :: (dds 50 [])))), [.gh 0 (.srf 1), .row 26 3 (v_w1108.map eS_lift_Req)]⟩
def G_slices_pdqsortCmpFunc_lift_Req_h_C5_hd (v_a248 : Int) (v_b249 : Int) (v_z1035 : Int) (v_cmp247 : (S_lift_Req → S_lift_Req → Option (Int))) (v_wasBalanced251 : Bool) (v_wasPartitioned252 : Bool) (v_z1048 : Int) (v_z1050 : (List S_lift_Req)) (v_cmp247_g : FuncId) (v_cmp247_c : (List PV))  : PS := ⟨(.srf 1 :: .d (.v (.int .i64 v_a248)) :: .d (.v (.int .i64 v_b249)) :: .d (.v (.int .i64 v_z1035)) :: .d (.clo v_cmp247_g v_cmp247_c) :: dd :: dd :: dd :: dd :: dd :: .d (.v (.bool v_wasBalanced251)) :: .d (.v (.bool v_wasPartitioned252)) :: .d (.v (.int .i64 (wi .i64 (v_b249 - v_a248)))) :: .d (.v (.int .i64 v_z1048)) :: (dds 134 [])), [.gh 0 (.srf 1), .row 26 3 (v_z1050.map eS_lift_Req)]⟩
def G_slices_pdqsortCmpFunc_lift_Req_h_C5 (n : Nat) (v_a248 : Int) (v_b249 : Int) (v_z1035 : Int) (v_cmp247 : (S_lift_Req → S_lift_Req → Option (Int))) (v_wasBalanced251 : Bool) (v_wasPartitioned252 : Bool) (v_z1048 : Int) (v_z1050 : (List S_lift_Req)) : Option G_slices_pdqsortCmpFunc_lift_Req_h_C5_R :=
  if v_a248 > 0 then
   if 0 ≤ (wi .i64 (v_a248 - 1)) ∧ ((wi .i64 (v_a248 - 1))).toNat < v_z1050.length then
    (v_z1050[((wi .i64 (v_a248 - 1))).toNat]?).bind fun (v_y1104 : S_lift_Req) =>
    if 0 ≤ v_z1048 ∧ (v_z1048).toNat < v_z1050.length then
     (v_z1050[(v_z1048).toNat]?).bind fun (v_y1105 : S_lift_Req) =>
     (v_cmp247 v_y1104 v_y1105).bind fun (v_r1106 : (Int)) =>
     some (.x0 (!(decide (v_r1106 < 0))) v_z1050)
    else none
   else none
  else
   some (.x0 false v_z1050)
theorem G_slices_pdqsortCmpFunc_lift_Req_h_C5_ok {Fi : Ex → PS → Prop} (hF : KC 148 Fi) (ks : List Fr) (n : Nat) (v_a248 : Int) (v_b249 : Int) (v_z1035 : Int) (v_cmp247 : (S_lift_Req → S_lift_Req → Option (Int))) (v_wasBalanced251 : Bool) (v_wasPartitioned252 : Bool) (v_z1048 : Int) (v_z1050 : (List S_lift_Req)) (v_cmp247_g : FuncId) (v_cmp247_c : (List PV)) (v_cmp247_h : ∀ (x0 : S_lift_Req) (x1 : S_lift_Req) (r : Int), v_cmp247 x0 x1 = some r → Ret Try.prog v_cmp247_g ([eS_lift_Req x0, eS_lift_Req x1] ++ v_cmp247_c) ((eI .i64) r)) (o : G_slices_pdqsortCmpFunc_lift_Req_h_C5_R) (h : G_slices_pdqsortCmpFunc_lift_Req_h_C5 n v_a248 v_b249 v_z1035 v_cmp247 v_wasBalanced251 v_wasPartitioned252 v_z1048 v_z1050 = some o) (q : RunE Try.prog 148 Fi ks (G_slices_pdqsortCmpFunc_lift_Req_h_C5_ex o) (G_slices_pdqsortCmpFunc_lift_Req_h_C5_st v_a248 v_b249 v_z1035 v_cmp247 v_wasBalanced251 v_wasPartitioned252 v_z1048 v_z1050 v_cmp247_g v_cmp247_c o)) : RunE Try.prog 148 Fi (.s (cL (cL (cR (cR (cR (cR (cR (cR (cR (cB (cP (cB (cR (cR (bodyOf Try.f39))))))))))))))) :: ks) .normal (G_slices_pdqsortCmpFunc_lift_Req_h_C5_hd v_a248 v_b249 v_z1035 v_cmp247 v_wasBalanced251 v_wasPartitioned252 v_z1048 v_z1050 v_cmp247_g v_cmp247_c) := by
  unfold G_slices_pdqsortCmpFunc_lift_Req_h_C5 at h
  by_cases h877 : v_a248 > 0
  · rw [if_pos h877] at h
    by_cases h878 : 0 ≤ (wi .i64 (v_a248 - 1)) ∧ ((wi .i64 (v_a248 - 1))).toNat < v_z1050.length
    · rw [if_pos h878] at h
      obtain ⟨v_y1104, h879, h⟩ := bind_some h
      by_cases h880 : 0 ≤ v_z1048 ∧ (v_z1048).toNat < v_z1050.length
      · rw [if_pos h880] at h
        obtain ⟨v_y1105, h881, h⟩ := bind_some h
        obtain ⟨v_r1106, h882, h⟩ := bind_some h
        cases h
        exact pkk_sound TTok mix hF 1 (hs := [.t true, .c, .c, .c, .c, .c, .y (eS_lift_Req v_y1104), .c, .c, .c, .c, .y (eS_lift_Req v_y1105), .c, .r ((eI .i64) v_r1106), .c, .c]) (ts := []) (s := [0, 1]) (l := [0, 1, 2, 3, 4, 10, 11, 12, 13, 97]) (by kernel_rfl) (by kernel_rfl) (.cons (dt h877) (.cons (idx_ob (f := eS_lift_Req) h878) (.cons (get_ob (f := eS_lift_Req) h879) (.cons (idx_ob (f := eS_lift_Req) h880) (.cons (get_ob (f := eS_lift_Req) h881) (.cons (v_cmp247_h v_y1104 v_y1105 _ h882) .nil)))))) q
      · rw [if_neg h880] at h; cases h
    · rw [if_neg h878] at h; cases h
  · rw [if_neg h877] at h
    cases h
    exact pkk_sound TTok mix hF 1 (hs := [.t false, .c, .c, .c, .c, .c, .c, .c, .c, .c, .c, .c, .c]) (ts := []) (s := [0, 1]) (l := [0, 1, 2, 3, 4, 10, 11, 12, 13, 97]) (by kernel_rfl) (by kernel_rfl) (.cons (df h877) .nil) q
inductive G_slices_pdqsortCmpFunc_lift_Req_h_C6_R where
  | x0 (v_x1146 : Bool) (v_w1147 : (List S_lift_Req))
def G_slices_pdqsortCmpFunc_lift_Req_h_C6_ex : G_slices_pdqsortCmpFunc_lift_Req_h_C6_R → Ex
  | .x0 _ _ => .normal
def G_slices_pdqsortCmpFunc_lift_Req_h_C6_st (v_a248 : Int) (v_b249 : Int) (v_z1035 : Int) (v_cmp247 : (S_lift_Req → S_lift_Req → Option (Int))) (v_wasBalanced251 : Bool) (v_wasPartitioned252 : Bool) (v_z1048 : Int) (v_z1050 : (List S_lift_Req)) (v_cmp247_g : FuncId) (v_cmp247_c : (List PV)) : G_slices_pdqsortCmpFunc_lift_Req_h_C6_R → PS
  | .x0 v_x1146 v_w1147 => ⟨(.srf 1 :: .d (.v (.int .i64 v_a248)) :: .d (.v (.int .i64 v_b249)) :: .d (.v (.int .i64 v_z1035)) :: .d (.clo v_cmp247_g v_cmp247_c) :: dd :: dd :: dd :: dd :: dd :: .d (.v (.bool v_wasBalanced251)) :: .d (.v (.bool v_wasPartitioned252)) :: .d (.v (.int .i64 (wi .i64 (v_b249 - v_a248)))) :: .d (.v (.int .i64 v_z1048)) :: (dds 83 (.d (.v (.bool v_x1146)) :: (dds 50 [])))), [.gh 0 (.srf 1), .row 26 3 (v_w1147.map eS_lift_Req)]⟩
def G_slices_pdqsortCmpFunc_lift_Req_h_C6_hd (v_a248 : Int) (v_b249 : Int) (v_z1035 : Int) (v_cmp247 : (S_lift_Req → S_lift_Req → Option (Int))) (v_wasBalanced251 : Bool) (v_wasPartitioned252 : Bool) (v_z1048 : Int) (v_z1050 : (List S_lift_Req)) (v_cmp247_g : FuncId) (v_cmp247_c : (List PV))  : PS := ⟨(.srf 1 :: .d (.v (.int .i64 v_a248)) :: .d (.v (.int .i64 v_b249)) :: .d (.v (.int .i64 v_z1035)) :: .d (.clo v_cmp247_g v_cmp247_c) :: dd :: dd :: dd :: dd :: dd :: .d (.v (.bool v_wasBalanced251)) :: .d (.v (.bool v_wasPartitioned252)) :: .d (.v (.int .i64 (wi .i64 (v_b249 - v_a248)))) :: .d (.v (.int .i64 v_z1048)) :: (dds 134 [])), [.gh 0 (.srf 1), .row 26 3 (v_z1050.map eS_lift_Req)]⟩
def G_slices_pdqsortCmpFunc_lift_Req_h_C6 (n : Nat) (v_a248 : Int) (v_b249 : Int) (v_z1035 : Int) (v_cmp247 : (S_lift_Req → S_lift_Req → Option (Int))) (v_wasBalanced251 : Bool) (v_wasPartitioned252 : Bool) (v_z1048 : Int) (v_z1050 : (List S_lift_Req)) : Option G_slices_pdqsortCmpFunc_lift_Req_h_C6_R :=
  if v_a248 > 0 then
   if 0 ≤ (wi .i64 (v_a248 - 1)) ∧ ((wi .i64 (v_a248 - 1))).toNat < v_z1050.length then
    (v_z1050[((wi .i64 (v_a248 - 1))).toNat]?).bind fun (v_y1143 : S_lift_Req) =>
    if 0 ≤ v_z1048 ∧ (v_z1048).toNat < v_z1050.length then
     (v_z1050[(v_z1048).toNat]?).bind fun (v_y1144 : S_lift_Req) =>
     (v_cmp247 v_y1143 v_y1144).bind fun (v_r1145 : (Int)) =>
     some (.x0 (!(decide (v_r1145 < 0))) v_z1050)
    else none
   else none
  else
   some (.x0 false v_z1050)
theorem G_slices_pdqsortCmpFunc_lift_Req_h_C6_ok {Fi : Ex → PS → Prop} (hF : KC 148 Fi) (ks : List Fr) (n : Nat) (v_a248 : Int) (v_b249 : Int) (v_z1035 : Int) (v_cmp247 : (S_lift_Req → S_lift_Req → Option (Int))) (v_wasBalanced251 : Bool) (v_wasPartitioned252 : Bool) (v_z1048 : Int) (v_z1050 : (List S_lift_Req)) (v_cmp247_g : FuncId) (v_cmp247_c : (List PV)) (v_cmp247_h : ∀ (x0 : S_lift_Req) (x1 : S_lift_Req) (r : Int), v_cmp247 x0 x1 = some r → Ret Try.prog v_cmp247_g ([eS_lift_Req x0, eS_lift_Req x1] ++ v_cmp247_c) ((eI .i64) r)) (o : G_slices_pdqsortCmpFunc_lift_Req_h_C6_R) (h : G_slices_pdqsortCmpFunc_lift_Req_h_C6 n v_a248 v_b249 v_z1035 v_cmp247 v_wasBalanced251 v_wasPartitioned252 v_z1048 v_z1050 = some o) (q : RunE Try.prog 148 Fi ks (G_slices_pdqsortCmpFunc_lift_Req_h_C6_ex o) (G_slices_pdqsortCmpFunc_lift_Req_h_C6_st v_a248 v_b249 v_z1035 v_cmp247 v_wasBalanced251 v_wasPartitioned252 v_z1048 v_z1050 v_cmp247_g v_cmp247_c o)) : RunE Try.prog 148 Fi (.s (cL (cL (cR (cR (cR (cR (cR (cR (cR (cB (cP (cB (cR (cR (bodyOf Try.f39))))))))))))))) :: ks) .normal (G_slices_pdqsortCmpFunc_lift_Req_h_C6_hd v_a248 v_b249 v_z1035 v_cmp247 v_wasBalanced251 v_wasPartitioned252 v_z1048 v_z1050 v_cmp247_g v_cmp247_c) := by
  unfold G_slices_pdqsortCmpFunc_lift_Req_h_C6 at h
  by_cases h902 : v_a248 > 0
  · rw [if_pos h902] at h
    by_cases h903 : 0 ≤ (wi .i64 (v_a248 - 1)) ∧ ((wi .i64 (v_a248 - 1))).toNat < v_z1050.length
    · rw [if_pos h903] at h
      obtain ⟨v_y1143, h904, h⟩ := bind_some h
      by_cases h905 : 0 ≤ v_z1048 ∧ (v_z1048).toNat < v_z1050.length
      · rw [if_pos h905] at h
        obtain ⟨v_y1144, h906, h⟩ := bind_some h
        obtain ⟨v_r1145, h907, h⟩ := bind_some h
        cases h
        exact pkk_sound TTok mix hF 1 (hs := [.t true, .c, .c, .c, .c, .c, .y (eS_lift_Req v_y1143), .c, .c, .c, .c, .y (eS_lift_Req v_y1144), .c, .r ((eI .i64) v_r1145), .c, .c]) (ts := []) (s := [0, 1]) (l := [0, 1, 2, 3, 4, 10, 11, 12, 13, 97]) (by kernel_rfl) (by kernel_rfl) (.cons (dt h902) (.cons (idx_ob (f := eS_lift_Req) h903) (.cons (get_ob (f := eS_lift_Req) h904) (.cons (idx_ob (f := eS_lift_Req) h905) (.cons (get_ob (f := eS_lift_Req) h906) (.cons (v_cmp247_h v_y1143 v_y1144 _ h907) .nil)))))) q
      · rw [if_neg h905] at h; cases h
    · rw [if_neg h903] at h; cases h
  · rw [if_neg h902] at h
    cases h
    exact pkk_sound TTok mix hF 1 (hs := [.t false, .c, .c, .c, .c, .c, .c, .c, .c, .c, .c, .c, .c]) (ts := []) (s := [0, 1]) (l := [0, 1, 2, 3, 4, 10, 11, 12, 13, 97]) (by kernel_rfl) (by kernel_rfl) (.cons (df h902) .nil) q
inductive G_slices_pdqsortCmpFunc_lift_Req_h_C7_R where
  | x0 (v_w1023 : (List S_lift_Req))
  | x1 (v_a1077 : Int) (v_b1078 : Int) (v_limit1079 : Int) (v_wasBalanced1080 : Bool) (v_wasPartitioned1081 : Bool) (v_w1082 : (List S_lift_Req))
def G_slices_pdqsortCmpFunc_lift_Req_h_C7_ex : G_slices_pdqsortCmpFunc_lift_Req_h_C7_R → Ex
  | .x0 _ => .ret
  | .x1 _ _ _ _ _ _ => .normal
def G_slices_pdqsortCmpFunc_lift_Req_h_C7_st (v_a248 : Int) (v_b249 : Int) (v_limit250 : Int) (v_cmp247 : (S_lift_Req → S_lift_Req → Option (Int))) (v_wasBalanced251 : Bool) (v_wasPartitioned252 : Bool) (v_w253 : (List S_lift_Req)) (v_rec973 : ((List S_lift_Req) → Int → Int → Int → Option ((List S_lift_Req)))) (v_cmp247_g : FuncId) (v_cmp247_c : (List PV)) : G_slices_pdqsortCmpFunc_lift_Req_h_C7_R → PS
  | .x0 v_w1023 => ⟨(dds 148 []), [.gh 0 (.srf 1), .row 26 3 (v_w1023.map eS_lift_Req)]⟩
  | .x1 v_a1077 v_b1078 v_limit1079 v_wasBalanced1080 v_wasPartitioned1081 v_w1082 => ⟨(.srf 1 :: .d (.v (.int .i64 v_a1077)) :: .d (.v (.int .i64 v_b1078)) :: .d (.v (.int .i64 v_limit1079)) :: .d (.clo v_cmp247_g v_cmp247_c) :: dd :: dd :: dd :: dd :: dd :: .d (.v (.bool v_wasBalanced1080)) :: .d (.v (.bool v_wasPartitioned1081)) :: (dds 136 [])), [.gh 0 (.srf 1), .row 26 3 (v_w1082.map eS_lift_Req)]⟩
def G_slices_pdqsortCmpFunc_lift_Req_h_C7_hd (v_a248 : Int) (v_b249 : Int) (v_limit250 : Int) (v_cmp247 : (S_lift_Req → S_lift_Req → Option (Int))) (v_wasBalanced251 : Bool) (v_wasPartitioned252 : Bool) (v_w253 : (List S_lift_Req)) (v_rec973 : ((List S_lift_Req) → Int → Int → Int → Option ((List S_lift_Req)))) (v_cmp247_g : FuncId) (v_cmp247_c : (List PV))  : PS := ⟨(.srf 1 :: .d (.v (.int .i64 v_a248)) :: .d (.v (.int .i64 v_b249)) :: .d (.v (.int .i64 v_limit250)) :: .d (.clo v_cmp247_g v_cmp247_c) :: dd :: dd :: dd :: dd :: dd :: .d (.v (.bool v_wasBalanced251)) :: .d (.v (.bool v_wasPartitioned252)) :: (dds 136 [])), [.gh 0 (.srf 1), .row 26 3 (v_w253.map eS_lift_Req)]⟩
def G_slices_pdqsortCmpFunc_lift_Req_h_C7 (n : Nat) (v_a248 : Int) (v_b249 : Int) (v_limit250 : Int) (v_cmp247 : (S_lift_Req → S_lift_Req → Option (Int))) (v_wasBalanced251 : Bool) (v_wasPartitioned252 : Bool) (v_w253 : (List S_lift_Req)) (v_rec973 : ((List S_lift_Req) → Int → Int → Int → Option ((List S_lift_Req)))) : Option G_slices_pdqsortCmpFunc_lift_Req_h_C7_R :=
  if (wi .i64 (v_b249 - v_a248)) ≤ 12 then
   (G_slices_insertionSortCmpFunc_lift_Req_h n v_w253 v_a248 v_b249 v_cmp247).bind fun (v_r1022 : ((List S_lift_Req))) =>
   some (.x0 v_r1022)
  else
   if v_limit250 = 0 then
    (G_slices_heapSortCmpFunc_lift_Req_h n v_w253 v_a248 v_b249 v_cmp247).bind fun (v_r1025 : ((List S_lift_Req))) =>
    some (.x0 v_r1025)
   else
    (G_slices_pdqsortCmpFunc_lift_Req_h_C1 n v_a248 v_b249 v_limit250 v_cmp247 v_wasBalanced251 v_wasPartitioned252 v_w253).bind fun v_o1034 => match v_o1034 with
    | .x0 v_z1035 v_z1036 =>
      (G_slices_choosePivotCmpFunc_lift_Req n v_z1036 v_a248 v_b249 v_cmp247).bind fun (v_r1037 : (Int × Int)) =>
      (G_slices_pdqsortCmpFunc_lift_Req_h_C2 n v_a248 v_b249 v_z1035 v_cmp247 v_wasBalanced251 v_wasPartitioned252 v_r1037 v_z1036).bind fun v_o1047 => match v_o1047 with
      | .x0 v_z1048 v_z1049 v_z1050 =>
        if v_wasBalanced251 = true then
         if v_wasPartitioned252 = true then
          (G_slices_pdqsortCmpFunc_lift_Req_h_C3 n v_a248 v_b249 v_z1035 v_cmp247 v_wasBalanced251 v_wasPartitioned252 v_z1048 v_z1049 v_z1050).bind fun v_o1057 => match v_o1057 with
          | .x0 v_z1058 =>
            some (.x0 v_z1058)
          | .x1 v_z1060 =>
            (G_slices_pdqsortCmpFunc_lift_Req_h_C4 n v_a248 v_b249 v_z1035 v_cmp247 v_wasBalanced251 v_wasPartitioned252 v_z1048 v_z1060).bind fun v_o1072 => match v_o1072 with
            | .x0 v_z1073 v_z1074 =>
              if v_z1073 = true then
               (G_slices_partitionEqualCmpFunc_lift_Req_h n v_z1074 v_a248 v_b249 v_z1048 v_cmp247).bind fun (v_r1076 : (Int × (List S_lift_Req))) =>
               some (.x1 v_r1076.1 v_b249 v_z1035 v_wasBalanced251 v_wasPartitioned252 v_r1076.2)
              else
               (G_slices_partitionCmpFunc_lift_Req_h n v_z1074 v_a248 v_b249 v_z1048 v_cmp247).bind fun (v_r1083 : (Int × Bool × (List S_lift_Req))) =>
               if (wi .i64 (v_r1083.1 - v_a248)) < (wi .i64 (v_b249 - v_r1083.1)) then
                (v_rec973 v_r1083.2.2 v_a248 v_r1083.1 v_z1035).bind fun (v_r1086 : ((List S_lift_Req))) =>
                some (.x1 (wi .i64 (v_r1083.1 + 1)) v_b249 v_z1035 (decide ((wi .i64 (v_r1083.1 - v_a248)) ≥ (quoI .i64 (wi .i64 (v_b249 - v_a248)) 8))) v_r1083.2.1 v_r1086)
               else
                (v_rec973 v_r1083.2.2 (wi .i64 (v_r1083.1 + 1)) v_b249 v_z1035).bind fun (v_r1093 : ((List S_lift_Req))) =>
                some (.x1 v_a248 v_r1083.1 v_z1035 (decide ((wi .i64 (v_b249 - v_r1083.1)) ≥ (quoI .i64 (wi .i64 (v_b249 - v_a248)) 8))) v_r1083.2.1 v_r1093)
         else
          (G_slices_pdqsortCmpFunc_lift_Req_h_C5 n v_a248 v_b249 v_z1035 v_cmp247 v_wasBalanced251 v_wasPartitioned252 v_z1048 v_z1050).bind fun v_o1111 => match v_o1111 with
          | .x0 v_z1112 v_z1113 =>
            if v_z1112 = true then
             (G_slices_partitionEqualCmpFunc_lift_Req_h n v_z1113 v_a248 v_b249 v_z1048 v_cmp247).bind fun (v_r1115 : (Int × (List S_lift_Req))) =>
             some (.x1 v_r1115.1 v_b249 v_z1035 v_wasBalanced251 v_wasPartitioned252 v_r1115.2)
            else
             (G_slices_partitionCmpFunc_lift_Req_h n v_z1113 v_a248 v_b249 v_z1048 v_cmp247).bind fun (v_r1122 : (Int × Bool × (List S_lift_Req))) =>
             if (wi .i64 (v_r1122.1 - v_a248)) < (wi .i64 (v_b249 - v_r1122.1)) then
              (v_rec973 v_r1122.2.2 v_a248 v_r1122.1 v_z1035).bind fun (v_r1125 : ((List S_lift_Req))) =>
              some (.x1 (wi .i64 (v_r1122.1 + 1)) v_b249 v_z1035 (decide ((wi .i64 (v_r1122.1 - v_a248)) ≥ (quoI .i64 (wi .i64 (v_b249 - v_a248)) 8))) v_r1122.2.1 v_r1125)
             else
              (v_rec973 v_r1122.2.2 (wi .i64 (v_r1122.1 + 1)) v_b249 v_z1035).bind fun (v_r1132 : ((List S_lift_Req))) =>
              some (.x1 v_a248 v_r1122.1 v_z1035 (decide ((wi .i64 (v_b249 - v_r1122.1)) ≥ (quoI .i64 (wi .i64 (v_b249 - v_a248)) 8))) v_r1122.2.1 v_r1132)
        else
         (G_slices_pdqsortCmpFunc_lift_Req_h_C6 n v_a248 v_b249 v_z1035 v_cmp247 v_wasBalanced251 v_wasPartitioned252 v_z1048 v_z1050).bind fun v_o1150 => match v_o1150 with
         | .x0 v_z1151 v_z1152 =>
           if v_z1151 = true then
            (G_slices_partitionEqualCmpFunc_lift_Req_h n v_z1152 v_a248 v_b249 v_z1048 v_cmp247).bind fun (v_r1154 : (Int × (List S_lift_Req))) =>
            some (.x1 v_r1154.1 v_b249 v_z1035 v_wasBalanced251 v_wasPartitioned252 v_r1154.2)
           else
            (G_slices_partitionCmpFunc_lift_Req_h n v_z1152 v_a248 v_b249 v_z1048 v_cmp247).bind fun (v_r1161 : (Int × Bool × (List S_lift_Req))) =>
            if (wi .i64 (v_r1161.1 - v_a248)) < (wi .i64 (v_b249 - v_r1161.1)) then
             (v_rec973 v_r1161.2.2 v_a248 v_r1161.1 v_z1035).bind fun (v_r1164 : ((List S_lift_Req))) =>
             some (.x1 (wi .i64 (v_r1161.1 + 1)) v_b249 v_z1035 (decide ((wi .i64 (v_r1161.1 - v_a248)) ≥ (quoI .i64 (wi .i64 (v_b249 - v_a248)) 8))) v_r1161.2.1 v_r1164)
            else
             (v_rec973 v_r1161.2.2 (wi .i64 (v_r1161.1 + 1)) v_b249 v_z1035).bind fun (v_r1171 : ((List S_lift_Req))) =>
             some (.x1 v_a248 v_r1161.1 v_z1035 (decide ((wi .i64 (v_b249 - v_r1161.1)) ≥ (quoI .i64 (wi .i64 (v_b249 - v_a248)) 8))) v_r1161.2.1 v_r1171)
theorem G_slices_pdqsortCmpFunc_lift_Req_h_C7_ok {Fi : Ex → PS → Prop} (hF : KC 148 Fi) (ks : List Fr) (n : Nat) (v_a248 : Int) (v_b249 : Int) (v_limit250 : Int) (v_cmp247 : (S_lift_Req → S_lift_Req → Option (Int))) (v_wasBalanced251 : Bool) (v_wasPartitioned252 : Bool) (v_w253 : (List S_lift_Req)) (v_rec973 : ((List S_lift_Req) → Int → Int → Int → Option ((List S_lift_Req)))) (v_cmp247_g : FuncId) (v_cmp247_c : (List PV)) (v_cmp247_h : ∀ (x0 : S_lift_Req) (x1 : S_lift_Req) (r : Int), v_cmp247 x0 x1 = some r → Ret Try.prog v_cmp247_g ([eS_lift_Req x0, eS_lift_Req x1] ++ v_cmp247_c) ((eI .i64) r)) (v_rec973_h : ∀ (x0 : (List S_lift_Req)) (x1 : Int) (x2 : Int) (x3 : Int) (r : (List S_lift_Req)), v_rec973 x0 x1 x2 x3 = some r → RetH Try.prog 39 [.srf 0, .d ((eI .i64) x1), .d ((eI .i64) x2), .d ((eI .i64) x3), .d ((.clo v_cmp247_g v_cmp247_c))] [.row 26 3 (x0.map eS_lift_Req)] (.tup []) [.row 26 3 (r.map eS_lift_Req)]) (o : G_slices_pdqsortCmpFunc_lift_Req_h_C7_R) (h : G_slices_pdqsortCmpFunc_lift_Req_h_C7 n v_a248 v_b249 v_limit250 v_cmp247 v_wasBalanced251 v_wasPartitioned252 v_w253 v_rec973 = some o) (q : RunE Try.prog 148 Fi ks (G_slices_pdqsortCmpFunc_lift_Req_h_C7_ex o) (G_slices_pdqsortCmpFunc_lift_Req_h_C7_st v_a248 v_b249 v_limit250 v_cmp247 v_wasBalanced251 v_wasPartitioned252 v_w253 v_rec973 v_cmp247_g v_cmp247_c o)) : RunE Try.prog 148 Fi (.s (cP (cB (cR (cR (bodyOf Try.f39))))) :: ks) .normal (G_slices_pdqsortCmpFunc_lift_Req_h_C7_hd v_a248 v_b249 v_limit250 v_cmp247 v_wasBalanced251 v_wasPartitioned252 v_w253 v_rec973 v_cmp247_g v_cmp247_c) := by
  unfold G_slices_pdqsortCmpFunc_lift_Req_h_C7 at h
  by_cases h820 : (wi .i64 (v_b249 - v_a248)) ≤ 12
  · rw [if_pos h820] at h
    obtain ⟨v_r1022, h821, h⟩ := bind_some h
    cases h
    exact pkk_sound TTok mix hF 12 (hs := [.t true, .h [1] [] [.row 26 3 (v_r1022.map eS_lift_Req)] (.tup [])]) (ts := []) (s := [0, 1]) (l := []) (by kernel_rfl) (by kernel_rfl) (.cons (dt h820) (.cons (G_slices_insertionSortCmpFunc_lift_Req_h_ok n v_w253 v_a248 v_b249 v_cmp247 v_cmp247_g v_cmp247_c v_cmp247_h _ h821) .nil)) q
  · rw [if_neg h820] at h
    by_cases h824 : v_limit250 = 0
    · rw [if_pos h824] at h
      obtain ⟨v_r1025, h825, h⟩ := bind_some h
      cases h
      exact pkk_sound TTok mix hF 17 (hs := [.t false, .t true, .h [1] [] [.row 26 3 (v_r1025.map eS_lift_Req)] (.tup [])]) (ts := []) (s := [0, 1]) (l := []) (by kernel_rfl) (by kernel_rfl) (.cons (df h820) (.cons (bt h824) (.cons (G_slices_heapSortCmpFunc_lift_Req_h_ok n v_w253 v_a248 v_b249 v_cmp247 v_cmp247_g v_cmp247_c v_cmp247_h _ h825) .nil))) q
    · rw [if_neg h824] at h
      obtain ⟨v_o1034, h830, h⟩ := bind_some h
      refine pkk_sound TTok mix hF 16 (hs := [.t false, .t false]) (ts := []) (s := [0, 1]) (l := [0, 1, 2, 3, 4, 10, 11, 12, 39]) (by kernel_rfl) (by kernel_rfl) (.cons (df h820) (.cons (bf h824) .nil)) (G_slices_pdqsortCmpFunc_lift_Req_h_C1_ok hF (.s (cR (cR (cR (cR (cB (cP (cB (cR (cR (bodyOf Try.f39)))))))))) :: .b 1 :: ks) n v_a248 v_b249 v_limit250 v_cmp247 v_wasBalanced251 v_wasPartitioned252 v_w253 v_cmp247_g v_cmp247_c v_cmp247_h _ h830 ?_)
      cases v_o1034 with
      | x0 v_z1035 v_z1036 =>
        try dsimp only at h
        obtain ⟨v_r1037, h831, h⟩ := bind_some h
        obtain ⟨v_o1047, h836, h⟩ := bind_some h
        refine pkk_sound TTok mix hF 5 (hs := [.c, .r (.tup [(eI .i64) v_r1037.1, (eI .i64) v_r1037.2])]) (ts := []) (s := [0, 1]) (l := [0, 1, 2, 3, 4, 10, 11, 12, 13, 14, 56]) (by kernel_rfl) (by kernel_rfl) (.cons (G_slices_choosePivotCmpFunc_lift_Req_ok n v_z1036 v_a248 v_b249 v_cmp247 v_cmp247_g v_cmp247_c v_cmp247_h _ h831) .nil) (G_slices_pdqsortCmpFunc_lift_Req_h_C2_ok hF (.s (cR (cR (cR (cR (cR (cR (cB (cP (cB (cR (cR (bodyOf Try.f39)))))))))))) :: .b 1 :: ks) n v_a248 v_b249 v_z1035 v_cmp247 v_wasBalanced251 v_wasPartitioned252 v_r1037 v_z1036 v_cmp247_g v_cmp247_c v_cmp247_h _ h836 ?_)
        cases v_o1047 with
        | x0 v_z1048 v_z1049 v_z1050 =>
          try dsimp only at h
          by_cases h837 : v_wasBalanced251 = true
          · rw [if_pos h837] at h
            by_cases h838 : v_wasPartitioned252 = true
            · rw [if_pos h838] at h
              obtain ⟨v_o1057, h845, h⟩ := bind_some h
              refine pkk_sound TTok mix hF 3 (hs := [.t true, .t true, .c]) (ts := []) (s := [0, 1]) (l := [0, 1, 2, 3, 4, 10, 11, 12, 13, 75]) (by kernel_rfl) (by kernel_rfl) (.cons h837 (.cons h838 .nil)) (G_slices_pdqsortCmpFunc_lift_Req_h_C3_ok hF (.s (cR (cR (cR (cR (cR (cR (cR (cB (cP (cB (cR (cR (bodyOf Try.f39))))))))))))) :: .b 1 :: ks) n v_a248 v_b249 v_z1035 v_cmp247 v_wasBalanced251 v_wasPartitioned252 v_z1048 v_z1049 v_z1050 v_cmp247_g v_cmp247_c v_cmp247_h _ h845 ?_)
              cases v_o1057 with
              | x0 v_z1058 =>
                try dsimp only at h
                cases h
                exact pkk_sound TTok mix hF 2 (hs := []) (ts := []) (s := [0, 1]) (l := []) (by kernel_rfl) (by kernel_rfl) .nil q
              | x1 v_z1060 =>
                try dsimp only at h
                obtain ⟨v_o1072, h858, h⟩ := bind_some h
                refine pkk_sound TTok mix hF 2 (hs := []) (ts := []) (s := [0, 1]) (l := [0, 1, 2, 3, 4, 10, 11, 12, 13]) (by kernel_rfl) (by kernel_rfl) .nil (G_slices_pdqsortCmpFunc_lift_Req_h_C4_ok hF (.s (cR (cL (cR (cR (cR (cR (cR (cR (cR (cB (cP (cB (cR (cR (bodyOf Try.f39))))))))))))))) :: .s (cR (cR (cR (cR (cR (cR (cR (cR (cB (cP (cB (cR (cR (bodyOf Try.f39)))))))))))))) :: .b 1 :: ks) n v_a248 v_b249 v_z1035 v_cmp247 v_wasBalanced251 v_wasPartitioned252 v_z1048 v_z1060 v_cmp247_g v_cmp247_c v_cmp247_h _ h858 ?_)
                cases v_o1072 with
                | x0 v_z1073 v_z1074 =>
                  try dsimp only at h
                  by_cases h861 : v_z1073 = true
                  · rw [if_pos h861] at h
                    obtain ⟨v_r1076, h862, h⟩ := bind_some h
                    cases h
                    exact pkk_sound TTok mix hF 8 (hs := [.t true, .h [1] [] [.row 26 3 (v_r1076.2.map eS_lift_Req)] (.d (.v (.int .i64 v_r1076.1)))]) (ts := []) (s := [0, 1]) (l := [0, 1, 2, 3, 4, 10, 11]) (by kernel_rfl) (by kernel_rfl) (.cons h861 (.cons (G_slices_partitionEqualCmpFunc_lift_Req_h_ok n v_z1074 v_a248 v_b249 v_z1048 v_cmp247 v_cmp247_g v_cmp247_c v_cmp247_h _ h862) .nil)) q
                  · rw [if_neg h861] at h
                    obtain ⟨v_r1083, h863, h⟩ := bind_some h
                    by_cases h868 : (wi .i64 (v_r1083.1 - v_a248)) < (wi .i64 (v_b249 - v_r1083.1))
                    · rw [if_pos h868] at h
                      obtain ⟨v_r1086, h869, h⟩ := bind_some h
                      cases h
                      exact pkk_sound TTok mix hF 19 (hs := [.t false, .h [1] [] [.row 26 3 (v_r1083.2.2.map eS_lift_Req)] (.tup [.d (.v (.int .i64 v_r1083.1)), .d (.v (.bool v_r1083.2.1))]), .t true, .h [1] [] [.row 26 3 (v_r1086.map eS_lift_Req)] (.tup [])]) (ts := []) (s := [0, 1]) (l := [0, 1, 2, 3, 4, 10, 11]) (by kernel_rfl) (by kernel_rfl) (.cons (vf h861) (.cons (G_slices_partitionCmpFunc_lift_Req_h_ok n v_z1074 v_a248 v_b249 v_z1048 v_cmp247 v_cmp247_g v_cmp247_c v_cmp247_h _ h863) (.cons (show (8 : Int) ≠ 0 by decide) (.cons (dt h868) (.cons (v_rec973_h v_r1083.2.2 v_a248 v_r1083.1 v_z1035 _ h869) .nil))))) q
                    · rw [if_neg h868] at h
                      obtain ⟨v_r1093, h870, h⟩ := bind_some h
                      cases h
                      exact pkk_sound TTok mix hF 19 (hs := [.t false, .h [1] [] [.row 26 3 (v_r1083.2.2.map eS_lift_Req)] (.tup [.d (.v (.int .i64 v_r1083.1)), .d (.v (.bool v_r1083.2.1))]), .t false, .h [1] [] [.row 26 3 (v_r1093.map eS_lift_Req)] (.tup [])]) (ts := []) (s := [0, 1]) (l := [0, 1, 2, 3, 4, 10, 11]) (by kernel_rfl) (by kernel_rfl) (.cons (vf h861) (.cons (G_slices_partitionCmpFunc_lift_Req_h_ok n v_z1074 v_a248 v_b249 v_z1048 v_cmp247 v_cmp247_g v_cmp247_c v_cmp247_h _ h863) (.cons (show (8 : Int) ≠ 0 by decide) (.cons (df h868) (.cons (v_rec973_h v_r1083.2.2 (wi .i64 (v_r1083.1 + 1)) v_b249 v_z1035 _ h870) .nil))))) q
            · rw [if_neg h838] at h
              obtain ⟨v_o1111, h883, h⟩ := bind_some h
              refine pkk_sound TTok mix hF 7 (hs := [.t true, .t false, .c, .c]) (ts := []) (s := [0, 1]) (l := [0, 1, 2, 3, 4, 10, 11, 12, 13]) (by kernel_rfl) (by kernel_rfl) (.cons h837 (.cons (vf h838) .nil)) (G_slices_pdqsortCmpFunc_lift_Req_h_C5_ok hF (.s (cR (cL (cR (cR (cR (cR (cR (cR (cR (cB (cP (cB (cR (cR (bodyOf Try.f39))))))))))))))) :: .s (cR (cR (cR (cR (cR (cR (cR (cR (cB (cP (cB (cR (cR (bodyOf Try.f39)))))))))))))) :: .b 1 :: ks) n v_a248 v_b249 v_z1035 v_cmp247 v_wasBalanced251 v_wasPartitioned252 v_z1048 v_z1050 v_cmp247_g v_cmp247_c v_cmp247_h _ h883 ?_)
              cases v_o1111 with
              | x0 v_z1112 v_z1113 =>
                try dsimp only at h
                by_cases h886 : v_z1112 = true
                · rw [if_pos h886] at h
                  obtain ⟨v_r1115, h887, h⟩ := bind_some h
                  cases h
                  exact pkk_sound TTok mix hF 8 (hs := [.t true, .h [1] [] [.row 26 3 (v_r1115.2.map eS_lift_Req)] (.d (.v (.int .i64 v_r1115.1)))]) (ts := []) (s := [0, 1]) (l := [0, 1, 2, 3, 4, 10, 11]) (by kernel_rfl) (by kernel_rfl) (.cons h886 (.cons (G_slices_partitionEqualCmpFunc_lift_Req_h_ok n v_z1113 v_a248 v_b249 v_z1048 v_cmp247 v_cmp247_g v_cmp247_c v_cmp247_h _ h887) .nil)) q
                · rw [if_neg h886] at h
                  obtain ⟨v_r1122, h888, h⟩ := bind_some h
                  by_cases h893 : (wi .i64 (v_r1122.1 - v_a248)) < (wi .i64 (v_b249 - v_r1122.1))
                  · rw [if_pos h893] at h
                    obtain ⟨v_r1125, h894, h⟩ := bind_some h
                    cases h
                    exact pkk_sound TTok mix hF 19 (hs := [.t false, .h [1] [] [.row 26 3 (v_r1122.2.2.map eS_lift_Req)] (.tup [.d (.v (.int .i64 v_r1122.1)), .d (.v (.bool v_r1122.2.1))]), .t true, .h [1] [] [.row 26 3 (v_r1125.map eS_lift_Req)] (.tup [])]) (ts := []) (s := [0, 1]) (l := [0, 1, 2, 3, 4, 10, 11]) (by kernel_rfl) (by kernel_rfl) (.cons (vf h886) (.cons (G_slices_partitionCmpFunc_lift_Req_h_ok n v_z1113 v_a248 v_b249 v_z1048 v_cmp247 v_cmp247_g v_cmp247_c v_cmp247_h _ h888) (.cons (show (8 : Int) ≠ 0 by decide) (.cons (dt h893) (.cons (v_rec973_h v_r1122.2.2 v_a248 v_r1122.1 v_z1035 _ h894) .nil))))) q
                  · rw [if_neg h893] at h
                    obtain ⟨v_r1132, h895, h⟩ := bind_some h
                    cases h
                    exact pkk_sound TTok mix hF 19 (hs := [.t false, .h [1] [] [.row 26 3 (v_r1122.2.2.map eS_lift_Req)] (.tup [.d (.v (.int .i64 v_r1122.1)), .d (.v (.bool v_r1122.2.1))]), .t false, .h [1] [] [.row 26 3 (v_r1132.map eS_lift_Req)] (.tup [])]) (ts := []) (s := [0, 1]) (l := [0, 1, 2, 3, 4, 10, 11]) (by kernel_rfl) (by kernel_rfl) (.cons (vf h886) (.cons (G_slices_partitionCmpFunc_lift_Req_h_ok n v_z1113 v_a248 v_b249 v_z1048 v_cmp247 v_cmp247_g v_cmp247_c v_cmp247_h _ h888) (.cons (show (8 : Int) ≠ 0 by decide) (.cons (df h893) (.cons (v_rec973_h v_r1122.2.2 (wi .i64 (v_r1122.1 + 1)) v_b249 v_z1035 _ h895) .nil))))) q
          · rw [if_neg h837] at h
            obtain ⟨v_o1150, h908, h⟩ := bind_some h
            refine pkk_sound TTok mix hF 7 (hs := [.t false, .c, .c, .c]) (ts := []) (s := [0, 1]) (l := [0, 1, 2, 3, 4, 10, 11, 12, 13]) (by kernel_rfl) (by kernel_rfl) (.cons (vf h837) .nil) (G_slices_pdqsortCmpFunc_lift_Req_h_C6_ok hF (.s (cR (cL (cR (cR (cR (cR (cR (cR (cR (cB (cP (cB (cR (cR (bodyOf Try.f39))))))))))))))) :: .s (cR (cR (cR (cR (cR (cR (cR (cR (cB (cP (cB (cR (cR (bodyOf Try.f39)))))))))))))) :: .b 1 :: ks) n v_a248 v_b249 v_z1035 v_cmp247 v_wasBalanced251 v_wasPartitioned252 v_z1048 v_z1050 v_cmp247_g v_cmp247_c v_cmp247_h _ h908 ?_)
            cases v_o1150 with
            | x0 v_z1151 v_z1152 =>
              try dsimp only at h
              by_cases h911 : v_z1151 = true
              · rw [if_pos h911] at h
                obtain ⟨v_r1154, h912, h⟩ := bind_some h
                cases h
                exact pkk_sound TTok mix hF 8 (hs := [.t true, .h [1] [] [.row 26 3 (v_r1154.2.map eS_lift_Req)] (.d (.v (.int .i64 v_r1154.1)))]) (ts := []) (s := [0, 1]) (l := [0, 1, 2, 3, 4, 10, 11]) (by kernel_rfl) (by kernel_rfl) (.cons h911 (.cons (G_slices_partitionEqualCmpFunc_lift_Req_h_ok n v_z1152 v_a248 v_b249 v_z1048 v_cmp247 v_cmp247_g v_cmp247_c v_cmp247_h _ h912) .nil)) q
              · rw [if_neg h911] at h
                obtain ⟨v_r1161, h913, h⟩ := bind_some h
                by_cases h918 : (wi .i64 (v_r1161.1 - v_a248)) < (wi .i64 (v_b249 - v_r1161.1))
                · rw [if_pos h918] at h
                  obtain ⟨v_r1164, h919, h⟩ := bind_some h
                  cases h
                  exact pkk_sound TTok mix hF 19 (hs := [.t false, .h [1] [] [.row 26 3 (v_r1161.2.2.map eS_lift_Req)] (.tup [.d (.v (.int .i64 v_r1161.1)), .d (.v (.bool v_r1161.2.1))]), .t true, .h [1] [] [.row 26 3 (v_r1164.map eS_lift_Req)] (.tup [])]) (ts := []) (s := [0, 1]) (l := [0, 1, 2, 3, 4, 10, 11]) (by kernel_rfl) (by kernel_rfl) (.cons (vf h911) (.cons (G_slices_partitionCmpFunc_lift_Req_h_ok n v_z1152 v_a248 v_b249 v_z1048 v_cmp247 v_cmp247_g v_cmp247_c v_cmp247_h _ h913) (.cons (show (8 : Int) ≠ 0 by decide) (.cons (dt h918) (.cons (v_rec973_h v_r1161.2.2 v_a248 v_r1161.1 v_z1035 _ h919) .nil))))) q
                · rw [if_neg h918] at h
                  obtain ⟨v_r1171, h920, h⟩ := bind_some h
                  cases h
                  exact pkk_sound TTok mix hF 19 (hs := [.t false, .h [1] [] [.row 26 3 (v_r1161.2.2.map eS_lift_Req)] (.tup [.d (.v (.int .i64 v_r1161.1)), .d (.v (.bool v_r1161.2.1))]), .t false, .h [1] [] [.row 26 3 (v_r1171.map eS_lift_Req)] (.tup [])]) (ts := []) (s := [0, 1]) (l := [0, 1, 2, 3, 4, 10, 11]) (by kernel_rfl) (by kernel_rfl) (.cons (vf h911) (.cons (G_slices_partitionCmpFunc_lift_Req_h_ok n v_z1152 v_a248 v_b249 v_z1048 v_cmp247 v_cmp247_g v_cmp247_c v_cmp247_h _ h913) (.cons (show (8 : Int) ≠ 0 by decide) (.cons (df h918) (.cons (v_rec973_h v_r1161.2.2 (wi .i64 (v_r1161.1 + 1)) v_b249 v_z1035 _ h920) .nil))))) q
inductive G_slices_pdqsortCmpFunc_lift_Req_h_L8_R where
  | x0 (v_w1180 : (List S_lift_Req))
def G_slices_pdqsortCmpFunc_lift_Req_h_L8_ex : G_slices_pdqsortCmpFunc_lift_Req_h_L8_R → Ex
  | .x0 _ => .ret
def G_slices_pdqsortCmpFunc_lift_Req_h_L8_st (v_cmp247 : (S_lift_Req → S_lift_Req → Option (Int))) (v_rec973 : ((List S_lift_Req) → Int → Int → Int → Option ((List S_lift_Req)))) (v_cmp247_g : FuncId) (v_cmp247_c : (List PV)) : G_slices_pdqsortCmpFunc_lift_Req_h_L8_R → PS
  | .x0 v_w1180 => ⟨(dds 148 []), [.gh 0 (.srf 1), .row 26 3 (v_w1180.map eS_lift_Req)]⟩
def G_slices_pdqsortCmpFunc_lift_Req_h_L8_hd (v_cmp247 : (S_lift_Req → S_lift_Req → Option (Int))) (v_rec973 : ((List S_lift_Req) → Int → Int → Int → Option ((List S_lift_Req)))) (v_cmp247_g : FuncId) (v_cmp247_c : (List PV)) (v_a248 : Int) (v_b249 : Int) (v_limit250 : Int) (v_wasBalanced251 : Bool) (v_wasPartitioned252 : Bool) (v_w253 : (List S_lift_Req)) : PS := ⟨(.srf 1 :: .d (.v (.int .i64 v_a248)) :: .d (.v (.int .i64 v_b249)) :: .d (.v (.int .i64 v_limit250)) :: .d (.clo v_cmp247_g v_cmp247_c) :: dd :: dd :: dd :: dd :: dd :: .d (.v (.bool v_wasBalanced251)) :: .d (.v (.bool v_wasPartitioned252)) :: (dds 136 [])), [.gh 0 (.srf 1), .row 26 3 (v_w253.map eS_lift_Req)]⟩
def G_slices_pdqsortCmpFunc_lift_Req_h_L8 (n : Nat) (v_cmp247 : (S_lift_Req → S_lift_Req → Option (Int))) (v_rec973 : ((List S_lift_Req) → Int → Int → Int → Option ((List S_lift_Req)))) : Nat → Int → Int → Int → Bool → Bool → (List S_lift_Req) → Option G_slices_pdqsortCmpFunc_lift_Req_h_L8_R
  | 0, _, _, _, _, _, _ => none
  | k + 1, v_a248, v_b249, v_limit250, v_wasBalanced251, v_wasPartitioned252, v_w253 =>
    (G_slices_pdqsortCmpFunc_lift_Req_h_C7 n v_a248 v_b249 v_limit250 v_cmp247 v_wasBalanced251 v_wasPartitioned252 v_w253 v_rec973).bind fun v_o1178 => match v_o1178 with
    | .x0 v_z1179 =>
      some (.x0 v_z1179)
    | .x1 v_z1181 v_z1182 v_z1183 v_z1184 v_z1185 v_z1186 =>
      G_slices_pdqsortCmpFunc_lift_Req_h_L8 n v_cmp247 v_rec973 k v_z1181 v_z1182 v_z1183 v_z1184 v_z1185 v_z1186
theorem G_slices_pdqsortCmpFunc_lift_Req_h_L8_ok {Fi : Ex → PS → Prop} (hF : KC 148 Fi) (ks : List Fr) (n : Nat) (v_cmp247 : (S_lift_Req → S_lift_Req → Option (Int))) (v_rec973 : ((List S_lift_Req) → Int → Int → Int → Option ((List S_lift_Req)))) (v_cmp247_g : FuncId) (v_cmp247_c : (List PV)) (v_cmp247_h : ∀ (x0 : S_lift_Req) (x1 : S_lift_Req) (r : Int), v_cmp247 x0 x1 = some r → Ret Try.prog v_cmp247_g ([eS_lift_Req x0, eS_lift_Req x1] ++ v_cmp247_c) ((eI .i64) r)) (v_rec973_h : ∀ (x0 : (List S_lift_Req)) (x1 : Int) (x2 : Int) (x3 : Int) (r : (List S_lift_Req)), v_rec973 x0 x1 x2 x3 = some r → RetH Try.prog 39 [.srf 0, .d ((eI .i64) x1), .d ((eI .i64) x2), .d ((eI .i64) x3), .d ((.clo v_cmp247_g v_cmp247_c))] [.row 26 3 (x0.map eS_lift_Req)] (.tup []) [.row 26 3 (r.map eS_lift_Req)]) : ∀ (k : Nat) (v_a248 : Int) (v_b249 : Int) (v_limit250 : Int) (v_wasBalanced251 : Bool) (v_wasPartitioned252 : Bool) (v_w253 : (List S_lift_Req)) (o : G_slices_pdqsortCmpFunc_lift_Req_h_L8_R), G_slices_pdqsortCmpFunc_lift_Req_h_L8 n v_cmp247 v_rec973 k v_a248 v_b249 v_limit250 v_wasBalanced251 v_wasPartitioned252 v_w253 = some o → RunE Try.prog 148 Fi ks (G_slices_pdqsortCmpFunc_lift_Req_h_L8_ex o) (G_slices_pdqsortCmpFunc_lift_Req_h_L8_st v_cmp247 v_rec973 v_cmp247_g v_cmp247_c o) → RunE Try.prog 148 Fi (.l k (cP (cB (cR (cR (bodyOf Try.f39))))) :: ks) .normal (G_slices_pdqsortCmpFunc_lift_Req_h_L8_hd v_cmp247 v_rec973 v_cmp247_g v_cmp247_c v_a248 v_b249 v_limit250 v_wasBalanced251 v_wasPartitioned252 v_w253)
  | 0, v_a248, v_b249, v_limit250, v_wasBalanced251, v_wasPartitioned252, v_w253, o, h, q => by rw [G_slices_pdqsortCmpFunc_lift_Req_h_L8] at h; cases h
  | k + 1, v_a248, v_b249, v_limit250, v_wasBalanced251, v_wasPartitioned252, v_w253, o, h, q => by
    rw [G_slices_pdqsortCmpFunc_lift_Req_h_L8] at h
    obtain ⟨v_o1178, h921, h⟩ := bind_some h
    refine pkk_sound TTok mix hF 1 (hs := []) (ts := []) (s := [0, 1]) (l := [0, 1, 2, 3, 4, 10, 11]) (by kernel_rfl) (by kernel_rfl) .nil (G_slices_pdqsortCmpFunc_lift_Req_h_C7_ok hF (.l k (cP (cB (cR (cR (bodyOf Try.f39))))) :: ks) n v_a248 v_b249 v_limit250 v_cmp247 v_wasBalanced251 v_wasPartitioned252 v_w253 v_rec973 v_cmp247_g v_cmp247_c v_cmp247_h v_rec973_h _ h921 ?_)
    cases v_o1178 with
    | x0 v_z1179 =>
      try dsimp only at h
      cases h
      exact pkk_sound TTok mix hF 1 (hs := []) (ts := []) (s := [0, 1]) (l := []) (by kernel_rfl) (by kernel_rfl) .nil q
    | x1 v_z1181 v_z1182 v_z1183 v_z1184 v_z1185 v_z1186 =>
      try dsimp only at h
      exact pkk_sound TTok mix hF 0 (hs := []) (ts := []) (s := [0, 1]) (l := [0, 1, 2, 3, 4, 10, 11]) (by kernel_rfl) (by kernel_rfl) .nil (G_slices_pdqsortCmpFunc_lift_Req_h_L8_ok hF ks n v_cmp247 v_rec973 v_cmp247_g v_cmp247_c v_cmp247_h v_rec973_h k v_z1181 v_z1182 v_z1183 v_z1184 v_z1185 v_z1186 _ h q)
/- slices.pdqsortCmpFunc[ringhall/lift.Req] -/
def G_slices_pdqsortCmpFunc_lift_Req_h : Nat → (List S_lift_Req) → Int → Int → Int → (S_lift_Req → S_lift_Req → Option (Int)) → Option ((List S_lift_Req))
  | 0, _, _, _, _, _ => none
  | n + 1, v_data243, v_a244, v_b245, v_limit246, v_cmp247 =>
  (G_slices_pdqsortCmpFunc_lift_Req_h_L8 n v_cmp247 (fun x0 x1 x2 x3 => G_slices_pdqsortCmpFunc_lift_Req_h n x0 x1 x2 x3 v_cmp247) n v_a244 v_b245 v_limit246 true true v_data243).bind fun v_o1187 => match v_o1187 with
  | .x0 v_z1188 =>
    some v_z1188
theorem G_slices_pdqsortCmpFunc_lift_Req_h_ok : ∀ (n : Nat) (v_data243 : (List S_lift_Req)) (v_a244 : Int) (v_b245 : Int) (v_limit246 : Int) (v_cmp247 : (S_lift_Req → S_lift_Req → Option (Int))) (v_cmp247_g : FuncId) (v_cmp247_c : List PV) (v_cmp247_h : ∀ (x0 : S_lift_Req) (x1 : S_lift_Req) (r : Int), v_cmp247 x0 x1 = some r → Ret Try.prog v_cmp247_g ([eS_lift_Req x0, eS_lift_Req x1] ++ v_cmp247_c) ((eI .i64) r)) (r : (List S_lift_Req)) (h : G_slices_pdqsortCmpFunc_lift_Req_h n v_data243 v_a244 v_b245 v_limit246 v_cmp247 = some r), RetH Try.prog 39 [.srf 0, .d ((eI .i64) v_a244), .d ((eI .i64) v_b245), .d ((eI .i64) v_limit246), .d ((.clo v_cmp247_g v_cmp247_c))] [.row 26 3 (v_data243.map eS_lift_Req)] (.tup []) [.row 26 3 (r.map eS_lift_Req)]
  | 0, v_data243, v_a244, v_b245, v_limit246, v_cmp247, v_cmp247_g, v_cmp247_c, v_cmp247_h, r, h => by rw [G_slices_pdqsortCmpFunc_lift_Req_h] at h; cases h
  | n + 1, v_data243, v_a244, v_b245, v_limit246, v_cmp247, v_cmp247_g, v_cmp247_c, v_cmp247_h, r, h => by
    refine retH_run (n := 148) (fn := Try.f39) (c := bodyOf Try.f39) (by kernel_rfl) (by kernel_rfl) (by kernel_rfl) (by kernel_rfl) ?_
    have hF : KC 148 (FinH Try.prog Try.f39 [.row 26 3 (v_data243.map eS_lift_Req)] (.tup []) [.row 26 3 (r.map eS_lift_Req)]) := FinH.kc' (by kernel_rfl)
    rw [G_slices_pdqsortCmpFunc_lift_Req_h] at h
    obtain ⟨v_o1187, h922, h⟩ := bind_some h
    refine pkk_sound TTok mix hF 6 (hs := [.n n]) (ts := []) (s := [1, 0]) (l := [0, 1, 2, 3, 4, 10, 11]) (by kernel_rfl) (by kernel_rfl) .nil (G_slices_pdqsortCmpFunc_lift_Req_h_L8_ok hF (.b 0 :: []) n v_cmp247 (fun x0 x1 x2 x3 => G_slices_pdqsortCmpFunc_lift_Req_h n x0 x1 x2 x3 v_cmp247) v_cmp247_g v_cmp247_c v_cmp247_h (fun x0 x1 x2 x3 r h => G_slices_pdqsortCmpFunc_lift_Req_h_ok n x0 x1 x2 x3 v_cmp247 v_cmp247_g v_cmp247_c v_cmp247_h r h) n v_a244 v_b245 v_limit246 true true v_data243 _ h922 ?_)
    cases v_o1187 with
    | x0 v_z1188 =>
      try dsimp only at h
      obtain rfl := Option.some.inj h
      exact pendH_sound TTok mix 1 (hs := []) [1] (by kernel_rfl) (by kernel_rfl) (by kernel_rfl) .nil
/- slices.SortFunc[[]ringhall/lift.Req,ringhall/lift.Req] -/
def G_slices_SortFunc_lift_Req_lift_Req_h (n : Nat) (v_x184 : (List S_lift_Req)) (v_cmp185 : (S_lift_Req → S_lift_Req → Option (Int))) : Option ((List S_lift_Req)) :=
  (G_math_bits_Len n (wi .u64 (v_x184.length : Int))).bind fun (v_r242 : (Int)) =>
  (G_slices_pdqsortCmpFunc_lift_Req_h n v_x184 0 (v_x184.length : Int) v_r242 v_cmp185).bind fun (v_r1189 : ((List S_lift_Req))) =>
  some v_r1189
theorem G_slices_SortFunc_lift_Req_lift_Req_h_ok (n : Nat) (v_x184 : (List S_lift_Req)) (v_cmp185 : (S_lift_Req → S_lift_Req → Option (Int))) (v_cmp185_g : FuncId) (v_cmp185_c : List PV) (v_cmp185_h : ∀ (x0 : S_lift_Req) (x1 : S_lift_Req) (r : Int), v_cmp185 x0 x1 = some r → Ret Try.prog v_cmp185_g ([eS_lift_Req x0, eS_lift_Req x1] ++ v_cmp185_c) ((eI .i64) r)) (r : (List S_lift_Req)) (h : G_slices_SortFunc_lift_Req_lift_Req_h n v_x184 v_cmp185 = some r) : RetH Try.prog 35 [.srf 0, .d ((.clo v_cmp185_g v_cmp185_c))] [.row 26 3 (v_x184.map eS_lift_Req)] (.tup []) [.row 26 3 (r.map eS_lift_Req)] := by
  refine retH_run (n := 14) (fn := Try.f35) (c := bodyOf Try.f35) (by kernel_rfl) (by kernel_rfl) (by kernel_rfl) (by kernel_rfl) ?_
  have hF : KC 14 (FinH Try.prog Try.f35 [.row 26 3 (v_x184.map eS_lift_Req)] (.tup []) [.row 26 3 (r.map eS_lift_Req)]) := FinH.kc' (by kernel_rfl)
  unfold G_slices_SortFunc_lift_Req_lift_Req_h at h
  obtain ⟨v_r242, h120, h⟩ := bind_some h
  obtain ⟨v_r1189, h923, h⟩ := bind_some h
  obtain rfl := Option.some.inj h
  exact pendH_sound TTok mix 3 (hs := [.u (.d (.v (.int .i64 (v_x184.length : Int)))), .r ((eI .i64) v_r242), .h [0] [] [.row 26 3 (v_r1189.map eS_lift_Req)] (.tup [])]) [0] (by kernel_rfl) (by kernel_rfl) (by kernel_rfl) (.cons (len_ob (f := eS_lift_Req) (l := v_x184)) (.cons (G_math_bits_Len_ok n (wi .u64 (v_x184.length : Int)) _ h120) (.cons (G_slices_pdqsortCmpFunc_lift_Req_h_ok n v_x184 0 (v_x184.length : Int) v_r242 v_cmp185 v_cmp185_g v_cmp185_c v_cmp185_h _ h923) .nil)))
/- ringhall/lift.far -/
def G_lift_far (n : Nat) (v_head1193 : Int) (v_n1194 : Int) : Option (Int) :=
  some (remI (wi .i64 ((remI (wi .i64 (v_n1194 - v_head1193)) 256) + 256)) 256)
theorem G_lift_far_ok (n : Nat) (v_head1193 : Int) (v_n1194 : Int) (r : Int) (h : G_lift_far n v_head1193 v_n1194 = some r) : Ret Try.prog 27 [(eI .i64) v_head1193, (eI .i64) v_n1194] ((eI .i64) r) := by
  refine ret_run (n := 11) (fn := Try.f27) (c := bodyOf Try.f27) (by kernel_rfl) (by kernel_rfl) (by kernel_rfl) (by kernel_rfl) ?_
  have hF : KC 11 (FinR Try.prog Try.f27 ((eI .i64) r)) := FinR.kc' (by kernel_rfl)
  unfold G_lift_far at h
  obtain rfl := Option.some.inj h
  exact pend_sound TTok mix 5 (hs := []) (by kernel_rfl) (by kernel_rfl) (by kernel_rfl) (.cons (show (256 : Int) ≠ 0 by decide) (.cons (show (256 : Int) ≠ 0 by decide) .nil))
/- ringhall/lift.part$1 -/
def G_lift_part_1 (n : Nat) (v_a1190 : S_lift_Req) (v_b1191 : S_lift_Req) (v_c1192 : Int) : Option (Int) :=
  (G_lift_far n v_c1192 v_a1190.fSector).bind fun (v_r1195 : (Int)) =>
  (G_lift_far n v_c1192 v_b1191.fSector).bind fun (v_r1196 : (Int)) =>
  some (wi .i64 (v_r1195 - v_r1196))
theorem G_lift_part_1_ok (n : Nat) (v_a1190 : S_lift_Req) (v_b1191 : S_lift_Req) (v_c1192 : Int) (r : Int) (h : G_lift_part_1 n v_a1190 v_b1191 v_c1192 = some r) : Ret Try.prog 36 [eS_lift_Req v_a1190, eS_lift_Req v_b1191, .iptr [.v (.int .i64 v_c1192)] 0] ((eI .i64) r) := by
  refine ret_run (n := 15) (fn := Try.f36) (c := bodyOf Try.f36) (by kernel_rfl) (by kernel_rfl) (by kernel_rfl) (by kernel_rfl) ?_
  have hF : KC 15 (FinR Try.prog Try.f36 ((eI .i64) r)) := FinR.kc' (by kernel_rfl)
  unfold G_lift_part_1 at h
  obtain ⟨v_r1195, h926, h⟩ := bind_some h
  obtain ⟨v_r1196, h927, h⟩ := bind_some h
  obtain rfl := Option.some.inj h
  exact pend_sound TTok mix 5 (hs := [.c, .c, .r ((eI .i64) v_r1195), .c, .c, .r ((eI .i64) v_r1196)]) (by kernel_rfl) (by kernel_rfl) (by kernel_rfl) (.cons (G_lift_far_ok n v_c1192 v_a1190.fSector _ h926) (.cons (G_lift_far_ok n v_c1192 v_b1191.fSector _ h927) .nil))
inductive G_lift_part_L1_R where
  | x0 (v_w143 : (List (Int × (List Int))))
def G_lift_part_L1_ex : G_lift_part_L1_R → Ex
  | .x0 _ => .exit 0
def G_lift_part_L1_st (v_l122 : (List S_lift_Req)) (v_head123 : Int) : G_lift_part_L1_R → PS
  | .x0 v_w143 => ⟨(dd :: dd :: dd :: .ref 0 0 :: dd :: dd :: .srf 1 :: (dds 47 [])), [.box [.d (.v (.int .i64 v_head123))], .cu (mapR (fun x : Int => Value.int .i64 x) ((eL (eI .u8))) v_w143) []]⟩
def G_lift_part_L1_hd (v_l122 : (List S_lift_Req)) (v_head123 : Int) (v_x138 : Int) (v_w139 : (List (Int × (List Int)))) : PS := ⟨(dd :: dd :: dd :: .ref 0 0 :: dd :: dd :: .srf 1 :: dd :: dd :: dd :: dd :: dd :: dd :: .d (.sl (v_l122.map eS_lift_Req)) :: .d (.v (.int .i64 (v_l122.length : Int))) :: .d (.v (.int .i64 v_x138)) :: (dds 38 [])), [.box [.d (.v (.int .i64 v_head123))], .cu (mapR (fun x : Int => Value.int .i64 x) ((eL (eI .u8))) v_w139) []]⟩
def G_lift_part_L1 (n : Nat) (v_l122 : (List S_lift_Req)) (v_head123 : Int) : Nat → Int → (List (Int × (List Int))) → Option G_lift_part_L1_R
  | 0, _, _ => none
  | k + 1, v_x138, v_w139 =>
    if v_x138 < (v_l122.length : Int) then
     (getI v_l122 v_x138).bind fun (v_y142 : S_lift_Req) =>
     G_lift_part_L1 n v_l122 v_head123 k (wi .i64 (v_x138 + 1)) (mput v_w139 v_y142.fSector v_y142.fData)
    else
     some (.x0 v_w139)
theorem G_lift_part_L1_ok {Fi : Ex → PS → Prop} (hF : KC 54 Fi) (ks : List Fr) (n : Nat) (v_l122 : (List S_lift_Req)) (v_head123 : Int)  : ∀ (k : Nat) (v_x138 : Int) (v_w139 : (List (Int × (List Int)))) (o : G_lift_part_L1_R), G_lift_part_L1 n v_l122 v_head123 k v_x138 v_w139 = some o → RunE Try.prog 54 Fi ks (G_lift_part_L1_ex o) (G_lift_part_L1_st v_l122 v_head123 o) → RunE Try.prog 54 Fi (.l k (cP (cB (cR (cL (cR (cR (bodyOf Try.f26))))))) :: ks) .normal (G_lift_part_L1_hd v_l122 v_head123 v_x138 v_w139)
  | 0, v_x138, v_w139, o, h, q => by rw [G_lift_part_L1] at h; cases h
  | k + 1, v_x138, v_w139, o, h, q => by
    rw [G_lift_part_L1] at h
    by_cases h72 : v_x138 < (v_l122.length : Int)
    · rw [if_pos h72] at h
      obtain ⟨v_y142, h74, h⟩ := bind_some h
      exact pkk_sound TTok mix hF 13 (hs := [.t true, .y (eS_lift_Req v_y142), .c, .c, .c, .e 52 [1] (dd) [(1, .cu (mapR (fun x : Int => Value.int .i64 x) ((eL (eI .u8))) (mput v_w139 v_y142.fSector v_y142.fData)) [])]]) (ts := []) (s := [0, 1]) (l := [3, 6, 13, 14, 15]) (by kernel_rfl) (by kernel_rfl) (.cons (dt h72) (.cons (getI_ob (f := eS_lift_Req) h74) (.cons (show 0 + 3 ≤ 3 by decide) (.cons (rput (P := Try.prog) (T := TT) (t := 73) (kt := 3) (et := 24) (l := 1) (x := (.tmp 19)) (y := (.tmp 21)) (z := (.tmp 23)) (f := (fun x : Int => Value.int .i64 x)) (g := ((eL (eI .u8)))) (E := v_w139) (k := v_y142.fSector) (v := v_y142.fData) (kv_v _) (by kernel_rfl) (KOk.kw (KOk.int (by kernel_rfl))) (fun ow w u h => slone ow w u h)) .nil)))) (G_lift_part_L1_ok hF ks n v_l122 v_head123 k (wi .i64 (v_x138 + 1)) (mput v_w139 v_y142.fSector v_y142.fData) _ h q)
    · rw [if_neg h72] at h
      cases h
      exact pkk_sound TTok mix hF 8 (hs := [.t false]) (ts := []) (s := [0, 1]) (l := [3, 6]) (by kernel_rfl) (by kernel_rfl) (.cons (df h72) .nil) q
inductive G_lift_part_L2_R where
  | x0 (v_w166 : (List S_lift_Req))
def G_lift_part_L2_ex : G_lift_part_L2_R → Ex
  | .x0 _ => .exit 2
def G_lift_part_L2_st (v_head123 : Int) : G_lift_part_L2_R → PS
  | .x0 v_w166 => ⟨(dd :: dd :: dd :: .ref 0 0 :: dd :: dd :: dd :: dd :: dd :: .srf 1 :: (dds 44 [])), [.box [.d (.v (.int .i64 v_head123))], .row 26 3 (v_w166.map eS_lift_Req)]⟩
def G_lift_part_L2_hd (v_head123 : Int) (v_w160 : (List S_lift_Req)) (v_w161 : (List (Int × (List Int)))) : PS := ⟨(dd :: dd :: dd :: .ref 0 0 :: dd :: dd :: dd :: dd :: dd :: .srf 1 :: (dds 16 (.ref 2 0 :: (dds 27 [])))), [.box [.d (.v (.int .i64 v_head123))], .row 26 3 (v_w160.map eS_lift_Req), .cu (itR (fun x : Int => Value.int .i64 x) ((eL (eI .u8))) v_w161 none) []]⟩
def G_lift_part_L2 (n : Nat) (v_head123 : Int) : Nat → (List S_lift_Req) → (List (Int × (List Int))) → Option G_lift_part_L2_R
  | 0, _, _ => none
  | k + 1, v_w160, [] =>
    some (.x0 v_w160)
  | k + 1, v_w160, (v_m163, v_m164) :: v_m165 =>
    (G_slices_Clone_byte_byte n v_m164).bind fun (v_r176 : ((List Int))) =>
    (app 40 v_w160 ([(S_lift_Req.mk v_m163 v_r176 false)])).bind fun (v_a177 : (List S_lift_Req)) =>
    G_lift_part_L2 n v_head123 k v_a177 v_m165
theorem G_lift_part_L2_ok {Fi : Ex → PS → Prop} (hF : KC 54 Fi) (ks : List Fr) (n : Nat) (v_head123 : Int)  : ∀ (k : Nat) (v_w160 : (List S_lift_Req)) (v_w161 : (List (Int × (List Int)))), (∀ ord, ord.Perm v_w161 → ∃ o, G_lift_part_L2 n v_head123 k v_w160 ord = some o ∧ RunE Try.prog 54 Fi ks (G_lift_part_L2_ex o) (G_lift_part_L2_st v_head123 o)) → RunE Try.prog 54 Fi (.l k (cP (cB (cR (cL (cR (cR (cR (cR (bodyOf Try.f26))))))))) :: ks) .normal (G_lift_part_L2_hd v_head123 v_w160 v_w161)
  | 0, v_w160, v_w161, h => by obtain ⟨o, h, _⟩ := h _ (List.Perm.refl _); rw [G_lift_part_L2] at h; cases h
  | k + 1, v_w160, v_w161, h => by
    refine pkk_sound TTok mix hF 2 (hs := []) (ts := []) (s := [0, 1, 2]) (l := [3, 9, 26]) (by kernel_rfl) (by kernel_rfl) .nil (nd_next (c := cL (cP (cB (cR (cL (cR (cR (cR (cR (bodyOf Try.f26)))))))))) (st := ⟨(dd :: dd :: dd :: .ref 0 0 :: dd :: dd :: dd :: dd :: dd :: .srf 1 :: (dds 16 (.ref 2 0 :: (dds 27 [])))), [.box [.d (.v (.int .i64 v_head123))], .row 26 3 (v_w160.map eS_lift_Req), .cu (itR (fun x : Int => Value.int .i64 x) ((eL (eI .u8))) v_w161 none) []]⟩) (f := (fun x : Int => Value.int .i64 x)) (g := ((eL (eI .u8)))) (it := 26) (d1 := 27) (d2 := 28) (l := 2) (rest := v_w161) (cur := none) (ks := (.s (cR (cP (cB (cR (cL (cR (cR (cR (cR (bodyOf Try.f26)))))))))) :: .l k (cP (cB (cR (cL (cR (cR (cR (cR (bodyOf Try.f26))))))))) :: ks)) (by kernel_rfl) (by kernel_rfl) (by kernel_rfl) (by kernel_rfl) (fun hr => ?_) (fun A p B hr => ?_))
    · obtain ⟨o, h, q⟩ := h [] (by rw [hr])
      rw [G_lift_part_L2] at h
      cases h
      exact pkk_sound TTok mix hF 5 (hs := [.c]) (ts := []) (s := [0, 1]) (l := [3, 9]) (by kernel_rfl) (by kernel_rfl) .nil q
    · obtain ⟨v_m163, v_m164⟩ := p
      obtain ⟨v_m165, hvt⟩ : ∃ q, q = A ++ B := ⟨_, rfl⟩
      rw [← hvt]
      have h : ∀ ord, ord.Perm v_m165 → ∃ o, G_lift_part_L2 n v_head123 (k + 1) v_w160 ((v_m163, v_m164) :: ord) = some o ∧ RunE Try.prog 54 Fi ks (G_lift_part_L2_ex o) (G_lift_part_L2_st v_head123 o) := fun ord hp => h _ (by rw [hr]; rw [hvt] at hp; exact (List.Perm.cons _ hp).trans List.perm_middle.symm)
      simp only [G_lift_part_L2] at h
      obtain ⟨v_r176, h80⟩ : ∃ q, G_slices_Clone_byte_byte n v_m164 = some q := by
        obtain ⟨o, ho, _⟩ := h _ (List.Perm.refl _)
        obtain ⟨q, hq, _⟩ := bind_some ho
        exact ⟨q, hq⟩
      simp only [h80, Option.bind_some] at h
      obtain ⟨v_a177, h81⟩ : ∃ q, app 40 v_w160 ([(S_lift_Req.mk v_m163 v_r176 false)]) = some q := by
        obtain ⟨o, ho, _⟩ := h _ (List.Perm.refl _)
        obtain ⟨q, hq, _⟩ := bind_some ho
        exact ⟨q, hq⟩
      simp only [h81, Option.bind_some] at h
      exact pkk_sound TTok mix hF 8 (hs := [.c, .e 3 [2] (.d (.tup [.v (.int .i64 v_m163), .sl (v_m164.map (eI .u8))])) [(2, .cu (itR (fun x : Int => Value.int .i64 x) ((eL (eI .u8))) v_m165 none) [])], .r ((eL (eI .u8)) v_r176), .bd, .w (v_a177.map eS_lift_Req)]) (ts := []) (s := [0, 58, 2]) (l := [3, 9, 26]) (by kernel_rfl) (by kernel_rfl) (.cons (rentry (P := Try.prog) (T := TT) (l := 2) (x := (.tmp 26)) (f := (fun x : Int => Value.int .i64 x)) (g := ((eL (eI .u8)))) (rest := v_m165) (k := v_m163) (v := v_m164) rfl) (.cons (G_slices_Clone_byte_byte_okD n v_m164 _ h80) (.cons (app_ob (f := eS_lift_Req) (s := 3) h81 (fun _ => rfl)).1 (.cons (app_ob (f := eS_lift_Req) (s := 3) h81 (fun _ => rfl)).2.1 (.cons (app_ob (f := eS_lift_Req) (s := 3) h81 (fun _ => rfl)).2.2.1 (.cons (app_ob (f := eS_lift_Req) (s := 3) h81 (fun _ => rfl)).2.2.2 .nil)))))) (G_lift_part_L2_ok hF ks n v_head123 k v_a177 v_m165 h)
/- ringhall/lift.part -/
def G_lift_part_E (n : Nat) (v_l122 : (List S_lift_Req)) (v_head123 : Int) : Option (List (Int × (List Int))) :=
  (G_lift_part_L1 n v_l122 v_head123 n 0 ([] : (List (Int × (List Int))))).bind fun v_o144 => match v_o144 with
  | .x0 v_z145 =>
    some v_z145
def G_lift_part_o (n : Nat) (v_l122 : (List S_lift_Req)) (v_head123 : Int) (v_ord : (List (Int × (List Int)))) : Option ((List S_lift_Req) × Int) :=
  (G_lift_part_L1 n v_l122 v_head123 n 0 ([] : (List (Int × (List Int))))).bind fun v_o144 => match v_o144 with
  | .x0 v_z145 =>
    (G_lift_part_L2 n v_head123 n ([] : List S_lift_Req) v_ord).bind fun v_o178 => match v_o178 with
    | .x0 v_z179 =>
      (G_slices_SortFunc_lift_Req_lift_Req_h n v_z179 (fun (y0 : S_lift_Req) (y1 : S_lift_Req) => G_lift_part_1 n y0 y1 v_head123)).bind fun (v_r1197 : ((List S_lift_Req))) =>
      if (v_r1197.length : Int) > 0 then
       if 0 ≤ (wi .i64 ((v_r1197.length : Int) - 1)) ∧ ((wi .i64 ((v_r1197.length : Int) - 1))).toNat < v_r1197.length then
        (v_r1197[((wi .i64 ((v_r1197.length : Int) - 1))).toNat]?).bind fun (v_y1210 : S_lift_Req) =>
        some (v_r1197, v_y1210.fSector)
       else none
      else
       some (v_r1197, v_head123)
theorem G_lift_part_oo (n : Nat) (v_l122 : (List S_lift_Req)) (v_head123 : Int) (E : (List (Int × (List Int)))) (r : (List S_lift_Req) × Int) (h1 : G_lift_part_E n v_l122 v_head123 = some E) (h : ∀ ord, ord.Perm E → G_lift_part_o n v_l122 v_head123 ord = some r) : Ret Try.prog 26 [(eL eS_lift_Req) v_l122, (eI .i64) v_head123] (.tup [(eL eS_lift_Req) r.1, (eI .i64) r.2]) := by
  refine ret_run (n := 54) (fn := Try.f26) (c := bodyOf Try.f26) (by kernel_rfl) (by kernel_rfl) (by kernel_rfl) (by kernel_rfl) ?_
  have hF : KC 54 (FinR Try.prog Try.f26 (.tup [(eL eS_lift_Req) r.1, (eI .i64) r.2])) := FinR.kc' (by kernel_rfl)
  unfold G_lift_part_E at h1
  simp only [G_lift_part_o] at h
  obtain ⟨v_o144, h75, h1⟩ := bind_some h1
  simp only [h75, Option.bind_some] at h
  refine pkk_sound TTok mix hF 9 (hs := [.e 15 [15] (.srf 15) [(15, .cu (mapR (fun x : Int => Value.int .i64 x) ((eL (eI .u8))) ([] : (List (Int × (List Int))))) [])], .u (.d (.v (.int .i64 (v_l122.length : Int)))), .n n]) (ts := []) (s := [0, 15]) (l := [3, 6, 13, 14, 15]) (by kernel_rfl) (by kernel_rfl) (.cons (rmake (P := Try.prog) (T := TT) (t := 73) (nl := 15) (fun x : Int => Value.int .i64 x) ((eL (eI .u8)))) (.cons (len_ob (f := eS_lift_Req) (l := v_l122)) .nil)) (G_lift_part_L1_ok hF (.b 0 :: .s (cR (cR (cR (bodyOf Try.f26)))) :: []) n v_l122 v_head123 n 0 ([] : (List (Int × (List Int)))) _ h75 ?_)
  cases v_o144 with
  | x0 v_z145 =>
    try dsimp only at h1 h
    obtain hE := Option.some.inj h1; subst hE
    refine pkk_sound TTok mix hF 8 (hs := [.e 12 [1, 12] (.ref 12 0) [(1, .none), (12, .cu (itR (fun x : Int => Value.int .i64 x) ((eL (eI .u8))) v_z145 none) [])], .n n]) (ts := [(9, 26, 3)]) (s := [0, 17, 12]) (l := [3, 9, 26]) (by kernel_rfl) (by kernel_rfl) (.cons (rrange (P := Try.prog) (T := TT) (t := 73) (kt := 3) (et := 24) (l := 1) (nl := 12) (x := (.tmp 25)) (f := (fun x : Int => Value.int .i64 x)) (g := ((eL (eI .u8)))) (E := v_z145) (by kernel_rfl) (by decide)) .nil) (G_lift_part_L2_ok hF (.b 2 :: .s (cR (cR (cR (cR (cR (bodyOf Try.f26)))))) :: []) n v_head123 n ([] : List S_lift_Req) v_z145 (fun ord hp => ?_))
    obtain ⟨v_o178, h82, h⟩ := bind_some (h ord hp)
    refine ⟨v_o178, h82, ?_⟩
    cases v_o178 with
    | x0 v_z179 =>
      try dsimp only at h
      obtain ⟨v_r1197, h928, h⟩ := bind_some h
      by_cases h932 : (v_r1197.length : Int) > 0
      · rw [if_pos h932] at h
        by_cases h933 : 0 ≤ (wi .i64 ((v_r1197.length : Int) - 1)) ∧ ((wi .i64 ((v_r1197.length : Int) - 1))).toNat < v_r1197.length
        · rw [if_pos h933] at h
          obtain ⟨v_y1210, h934, h⟩ := bind_some h
          obtain rfl := Option.some.inj h
          exact pend_sound TTok mix 11 (hs := [.e 12 [1, 0] (.d (.tup [])) [(1, .row 26 3 (v_r1197.map eS_lift_Req))], .u (.d (.v (.int .i64 (v_r1197.length : Int)))), .t true, .u (.d (.v (.int .i64 (v_r1197.length : Int)))), .y (eS_lift_Req v_y1210), .c, .c]) (by kernel_rfl) (by kernel_rfl) (by kernel_rfl) (.cons (hlook (P := Try.prog) (T := TT) (f := .func 35) (x := (.tmp 39)) (y := (.tmp 40)) (tys := #[22, 75]) (g := 35) (g2 := 36) (l := 1) (L := 0) (e := 26) (s := 3) (h := v_head123) (xs := (v_z179.map eS_lift_Req)) (ys := (v_r1197.map eS_lift_Req)) (G_slices_SortFunc_lift_Req_lift_Req_h_ok n v_z179 (fun (y0 : S_lift_Req) (y1 : S_lift_Req) => G_lift_part_1 n y0 y1 v_head123) 36 [.iptr [.v (.int .i64 v_head123)] 0] (fun y0 y1 r h => G_lift_part_1_ok n y0 y1 v_head123 r h) _ h928) (all_clean (fun x => by simp [clean, cleanL, isU8, eI, eS_lift_Req])) (by decide)) (.cons (len_ob (f := eS_lift_Req) (l := v_r1197)) (.cons (dt h932) (.cons (len_ob (f := eS_lift_Req) (l := v_r1197)) (.cons (idx_ob (f := eS_lift_Req) h933) (.cons (get_ob (f := eS_lift_Req) h934) (.cons (show 0 + 1 ≤ 1 by decide) .nil)))))))
        · rw [if_neg h933] at h; cases h
      · rw [if_neg h932] at h
        obtain rfl := Option.some.inj h
        exact pend_sound TTok mix 11 (hs := [.e 12 [1, 0] (.d (.tup [])) [(1, .row 26 3 (v_r1197.map eS_lift_Req))], .u (.d (.v (.int .i64 (v_r1197.length : Int)))), .t false, .c]) (by kernel_rfl) (by kernel_rfl) (by kernel_rfl) (.cons (hlook (P := Try.prog) (T := TT) (f := .func 35) (x := (.tmp 39)) (y := (.tmp 40)) (tys := #[22, 75]) (g := 35) (g2 := 36) (l := 1) (L := 0) (e := 26) (s := 3) (h := v_head123) (xs := (v_z179.map eS_lift_Req)) (ys := (v_r1197.map eS_lift_Req)) (G_slices_SortFunc_lift_Req_lift_Req_h_ok n v_z179 (fun (y0 : S_lift_Req) (y1 : S_lift_Req) => G_lift_part_1 n y0 y1 v_head123) 36 [.iptr [.v (.int .i64 v_head123)] 0] (fun y0 y1 r h => G_lift_part_1_ok n y0 y1 v_head123 r h) _ h928) (all_clean (fun x => by simp [clean, cleanL, isU8, eI, eS_lift_Req])) (by decide)) (.cons (len_ob (f := eS_lift_Req) (l := v_r1197)) (.cons (df h932) .nil)))
instance : DecidableEq S_lift_Req := fun a b => if h : a.fSector = b.fSector ∧ a.fData = b.fData ∧ a.fBarrier = b.fBarrier then isTrue (by cases a; cases b; simp_all) else isFalse (fun e => h (by subst e; simp))
def G_lift_part (n : Nat) (v_l122 : (List S_lift_Req)) (v_head123 : Int) : Option ((List S_lift_Req) × Int) := (G_lift_part_E n v_l122 v_head123).bind fun E => (G_lift_part_o n v_l122 v_head123 E).bind fun r => if (perms E).all (fun q => decide (G_lift_part_o n v_l122 v_head123 q = some r)) = true then some r else none
theorem G_lift_part_ok (n : Nat) (v_l122 : (List S_lift_Req)) (v_head123 : Int) (r : (List S_lift_Req) × Int) (h : G_lift_part n v_l122 v_head123 = some r) : Ret Try.prog 26 [(eL eS_lift_Req) v_l122, (eI .i64) v_head123] (.tup [(eL eS_lift_Req) r.1, (eI .i64) r.2]) := by
  unfold G_lift_part at h
  obtain ⟨E, h1, h⟩ := bind_some h
  obtain ⟨r', h2, h⟩ := bind_some h
  by_cases h3 : (perms E).all (fun q => decide (G_lift_part_o n v_l122 v_head123 q = some r')) = true
  · rw [if_pos h3] at h
    obtain rfl := Option.some.inj h
    exact G_lift_part_oo n v_l122 v_head123 E _ h1 (fun ord hp => of_decide_eq_true (List.all_eq_true.1 h3 ord (mem_perms hp)))
  · rw [if_neg h3] at h; cases h
def G_lift_Order_J1 (n : Nat)   : Option ((List S_lift_Req) × Int) :=
  some (([] : (List S_lift_Req)), 1)
theorem G_lift_Order_J1_ok (n : Nat)    (r : (List S_lift_Req) × Int) (h : G_lift_Order_J1 n   = some r) : RunE Try.prog 55 (FinR Try.prog Try.f6 (.tup [(eL eS_lift_Req) r.1, (eI .i64) r.2])) (.s (cT (cR (cL (cR (bodyOf Try.f6))))) :: .s (cR (cR (bodyOf Try.f6))) :: []) .normal ⟨(dds 55 []), []⟩ := by
  have hF : KC 55 (FinR Try.prog Try.f6 (.tup [(eL eS_lift_Req) r.1, (eI .i64) r.2])) := FinR.kc' (by kernel_rfl)
  unfold G_lift_Order_J1 at h
  obtain rfl := Option.some.inj h
  exact pend_sound TTok mix 4 (hs := []) (by kernel_rfl) (by kernel_rfl) (by kernel_rfl) .nil
inductive G_lift_Order_C1_R where
  | x0 (v_n1318 : Int) (v_w1319 : (List S_lift_Req))
def G_lift_Order_C1_ex : G_lift_Order_C1_R → Ex
  | .x0 _ _ => .normal
def G_lift_Order_C1_st (v_l1296 : (List S_lift_Req)) (v_head1297 : Int) (v_r1316 : (Int)) (v_w1298 : (List S_lift_Req)) : G_lift_Order_C1_R → PS
  | .x0 v_n1318 v_w1319 => ⟨(.d (.sl (v_l1296.map eS_lift_Req)) :: .d (.v (.int .i64 v_head1297)) :: dd :: dd :: dd :: dd :: dd :: .srf 0 :: .d (.v (.int .i64 v_n1318)) :: (dds 46 [])), [.row 26 3 (v_w1319.map eS_lift_Req)]⟩
def G_lift_Order_C1_hd (v_l1296 : (List S_lift_Req)) (v_head1297 : Int) (v_r1316 : (Int)) (v_w1298 : (List S_lift_Req))  : PS := ⟨(.d (.sl (v_l1296.map eS_lift_Req)) :: .d (.v (.int .i64 v_head1297)) :: dd :: dd :: dd :: dd :: dd :: .srf 0 :: .d (.v (.int .i64 v_r1316)) :: (dds 18 (.d (.v (.bool (decide (v_r1316 < 0)))) :: (dds 27 [])))), [.row 26 3 (v_w1298.map eS_lift_Req)]⟩
def G_lift_Order_C1 (n : Nat) (v_l1296 : (List S_lift_Req)) (v_head1297 : Int) (v_r1316 : (Int)) (v_w1298 : (List S_lift_Req)) : Option G_lift_Order_C1_R :=
  if v_r1316 < 0 then
   some (.x0 (v_l1296.length : Int) v_w1298)
  else
   some (.x0 v_r1316 v_w1298)
theorem G_lift_Order_C1_ok {Fi : Ex → PS → Prop} (hF : KC 55 Fi) (ks : List Fr) (n : Nat) (v_l1296 : (List S_lift_Req)) (v_head1297 : Int) (v_r1316 : (Int)) (v_w1298 : (List S_lift_Req))  (o : G_lift_Order_C1_R) (h : G_lift_Order_C1 n v_l1296 v_head1297 v_r1316 v_w1298 = some o) (q : RunE Try.prog 55 Fi ks (G_lift_Order_C1_ex o) (G_lift_Order_C1_st v_l1296 v_head1297 v_r1316 v_w1298 o)) : RunE Try.prog 55 Fi (.s (cR (cL (cR (cB (cR (cP (cB (cL (cR (cR (cR (cR (bodyOf Try.f6))))))))))))) :: ks) .normal (G_lift_Order_C1_hd v_l1296 v_head1297 v_r1316 v_w1298) := by
  unfold G_lift_Order_C1 at h
  by_cases h1011 : v_r1316 < 0
  · rw [if_pos h1011] at h
    cases h
    exact pkk_sound TTok mix hF 2 (hs := [.t true, .u (.d (.v (.int .i64 (v_l1296.length : Int))))]) (ts := []) (s := [0]) (l := [0, 1, 7, 8]) (by kernel_rfl) (by kernel_rfl) (.cons (dt h1011) (.cons (len_ob (f := eS_lift_Req) (l := v_l1296)) .nil)) q
  · rw [if_neg h1011] at h
    cases h
    exact pkk_sound TTok mix hF 2 (hs := [.t false]) (ts := []) (s := [0]) (l := [0, 1, 7, 8]) (by kernel_rfl) (by kernel_rfl) (.cons (df h1011) .nil) q
inductive G_lift_Order_L2_R where
  | x0 (v_w1332 : (List S_lift_Req))
def G_lift_Order_L2_ex : G_lift_Order_L2_R → Ex
  | .x0 _ => .exit 0
def G_lift_Order_L2_st  : G_lift_Order_L2_R → PS
  | .x0 v_w1332 => ⟨(dd :: dd :: dd :: dd :: dd :: dd :: dd :: .srf 0 :: (dds 47 [])), [.row 26 3 (v_w1332.map eS_lift_Req)]⟩
def G_lift_Order_L2_hd  (v_l1296 : (List S_lift_Req)) (v_head1297 : Int) (v_w1298 : (List S_lift_Req)) : PS := ⟨(.d (.sl (v_l1296.map eS_lift_Req)) :: .d (.v (.int .i64 v_head1297)) :: dd :: dd :: dd :: dd :: dd :: .srf 0 :: (dds 47 [])), [.row 26 3 (v_w1298.map eS_lift_Req)]⟩
def G_lift_Order_L2 (n : Nat)  : Nat → (List S_lift_Req) → Int → (List S_lift_Req) → Option G_lift_Order_L2_R
  | 0, _, _, _ => none
  | k + 1, v_l1296, v_head1297, v_w1298 =>
    if (v_l1296.length : Int) > 0 then
     (G_slices_IndexFunc_lift_Req_lift_Req n v_l1296 (fun (y0 : S_lift_Req) => G_lift_Order_1 n y0)).bind fun (v_r1316 : (Int)) =>
     (G_lift_Order_C1 n v_l1296 v_head1297 v_r1316 v_w1298).bind fun v_o1322 => match v_o1322 with
     | .x0 v_z1323 v_z1324 =>
       (sub v_l1296 0 v_z1323).bind fun (v_s1325 : (List S_lift_Req)) =>
       (G_lift_part n v_s1325 v_head1297).bind fun (v_r1326 : ((List S_lift_Req) × Int)) =>
       (app 40 v_z1324 v_r1326.1).bind fun (v_a1327 : (List S_lift_Req)) =>
       if v_z1323 < (v_l1296.length : Int) then
        (app 40 v_a1327 ([(S_lift_Req.mk 0 ([] : (List Int)) true)])).bind fun (v_a1329 : (List S_lift_Req)) =>
        (sub v_l1296 (wi .i64 (v_z1323 + 1)) (v_l1296.length : Int)).bind fun (v_s1330 : (List S_lift_Req)) =>
        G_lift_Order_L2 n  k v_s1330 v_r1326.2 v_a1329
       else
        (sub v_l1296 v_z1323 (v_l1296.length : Int)).bind fun (v_s1331 : (List S_lift_Req)) =>
        G_lift_Order_L2 n  k v_s1331 v_r1326.2 v_a1327
    else
     some (.x0 v_w1298)
theorem G_lift_Order_L2_ok {Fi : Ex → PS → Prop} (hF : KC 55 Fi) (ks : List Fr) (n : Nat)   : ∀ (k : Nat) (v_l1296 : (List S_lift_Req)) (v_head1297 : Int) (v_w1298 : (List S_lift_Req)) (o : G_lift_Order_L2_R), G_lift_Order_L2 n  k v_l1296 v_head1297 v_w1298 = some o → RunE Try.prog 55 Fi ks (G_lift_Order_L2_ex o) (G_lift_Order_L2_st  o) → RunE Try.prog 55 Fi (.l k (cP (cB (cL (cR (cR (cR (cR (bodyOf Try.f6)))))))) :: ks) .normal (G_lift_Order_L2_hd  v_l1296 v_head1297 v_w1298)
  | 0, v_l1296, v_head1297, v_w1298, o, h, q => by rw [G_lift_Order_L2] at h; cases h
  | k + 1, v_l1296, v_head1297, v_w1298, o, h, q => by
    rw [G_lift_Order_L2] at h
    by_cases h995 : (v_l1296.length : Int) > 0
    · rw [if_pos h995] at h
      obtain ⟨v_r1316, h1009, h⟩ := bind_some h
      obtain ⟨v_o1322, h1012, h⟩ := bind_some h
      refine pkk_sound TTok mix hF 12 (hs := [.u (.d (.v (.int .i64 (v_l1296.length : Int)))), .t true, .r ((eI .i64) v_r1316)]) (ts := []) (s := [0]) (l := [0, 1, 7, 8, 27]) (by kernel_rfl) (by kernel_rfl) (.cons (len_ob (f := eS_lift_Req) (l := v_l1296)) (.cons (dt h995) (.cons (G_slices_IndexFunc_lift_Req_lift_Req_ok n v_l1296 (fun (y0 : S_lift_Req) => G_lift_Order_1 n y0) 25 [] (fun y0 r h => G_lift_Order_1_ok n y0 r h) _ h1009) .nil))) (G_lift_Order_C1_ok hF (.s (cR (cR (cB (cR (cP (cB (cL (cR (cR (cR (cR (bodyOf Try.f6)))))))))))) :: .b 1 :: .l k (cP (cB (cL (cR (cR (cR (cR (bodyOf Try.f6)))))))) :: ks) n v_l1296 v_head1297 v_r1316 v_w1298 _ h1012 ?_)
      cases v_o1322 with
      | x0 v_z1323 v_z1324 =>
        try dsimp only at h
        obtain ⟨v_s1325, h1013, h⟩ := bind_some h
        obtain ⟨v_r1326, h1014, h⟩ := bind_some h
        obtain ⟨v_a1327, h1015, h⟩ := bind_some h
        by_cases h1018 : v_z1323 < (v_l1296.length : Int)
        · rw [if_pos h1018] at h
          obtain ⟨v_a1329, h1019, h⟩ := bind_some h
          obtain ⟨v_s1330, h1020, h⟩ := bind_some h
          exact pkk_sound TTok mix hF 15 (hs := [.w (v_s1325.map eS_lift_Req), .r (.tup [(eL eS_lift_Req) v_r1326.1, (eI .i64) v_r1326.2]), .w (v_a1327.map eS_lift_Req), .u (.d (.v (.int .i64 (v_l1296.length : Int)))), .t true, .bd, .w (v_a1329.map eS_lift_Req), .w (v_s1330.map eS_lift_Req)]) (ts := []) (s := [111]) (l := [0, 1, 7]) (by kernel_rfl) (by kernel_rfl) (.cons (sub_ob (f := eS_lift_Req) (s := 3) h1013 (fun _ => rfl)).1 (.cons (sub_ob (f := eS_lift_Req) (s := 3) h1013 (fun _ => rfl)).2.1 (.cons (sub_ob (f := eS_lift_Req) (s := 3) h1013 (fun _ => rfl)).2.2.1 (.cons (sub_ob (f := eS_lift_Req) (s := 3) h1013 (fun _ => rfl)).2.2.2.1 (.cons (sub_ob (f := eS_lift_Req) (s := 3) h1013 (fun _ => rfl)).2.2.2.2 (.cons (G_lift_part_ok n v_s1325 v_head1297 _ h1014) (.cons (app_ob (f := eS_lift_Req) (s := 3) h1015 (fun _ => rfl)).1 (.cons (app_ob (f := eS_lift_Req) (s := 3) h1015 (fun _ => rfl)).2.1 (.cons (app_ob (f := eS_lift_Req) (s := 3) h1015 (fun _ => rfl)).2.2.1 (.cons (app_ob (f := eS_lift_Req) (s := 3) h1015 (fun _ => rfl)).2.2.2 (.cons (len_ob (f := eS_lift_Req) (l := v_l1296)) (.cons (dt h1018) (.cons (app_ob (f := eS_lift_Req) (s := 3) h1019 (fun _ => rfl)).1 (.cons (app_ob (f := eS_lift_Req) (s := 3) h1019 (fun _ => rfl)).2.1 (.cons (app_ob (f := eS_lift_Req) (s := 3) h1019 (fun _ => rfl)).2.2.1 (.cons (app_ob (f := eS_lift_Req) (s := 3) h1019 (fun _ => rfl)).2.2.2 (.cons (sub_ob' (f := eS_lift_Req) (s := 3) h1020 (fun _ => rfl)).1 (.cons (sub_ob' (f := eS_lift_Req) (s := 3) h1020 (fun _ => rfl)).2.1 (.cons (sub_ob' (f := eS_lift_Req) (s := 3) h1020 (fun _ => rfl)).2.2.1 (.cons (sub_ob' (f := eS_lift_Req) (s := 3) h1020 (fun _ => rfl)).2.2.2.1 (.cons (sub_ob' (f := eS_lift_Req) (s := 3) h1020 (fun _ => rfl)).2.2.2.2 .nil))))))))))))))))))))) (G_lift_Order_L2_ok hF ks n  k v_s1330 v_r1326.2 v_a1329 _ h q)
        · rw [if_neg h1018] at h
          obtain ⟨v_s1331, h1021, h⟩ := bind_some h
          exact pkk_sound TTok mix hF 13 (hs := [.w (v_s1325.map eS_lift_Req), .r (.tup [(eL eS_lift_Req) v_r1326.1, (eI .i64) v_r1326.2]), .w (v_a1327.map eS_lift_Req), .u (.d (.v (.int .i64 (v_l1296.length : Int)))), .t false, .w (v_s1331.map eS_lift_Req)]) (ts := []) (s := [66]) (l := [0, 1, 7]) (by kernel_rfl) (by kernel_rfl) (.cons (sub_ob (f := eS_lift_Req) (s := 3) h1013 (fun _ => rfl)).1 (.cons (sub_ob (f := eS_lift_Req) (s := 3) h1013 (fun _ => rfl)).2.1 (.cons (sub_ob (f := eS_lift_Req) (s := 3) h1013 (fun _ => rfl)).2.2.1 (.cons (sub_ob (f := eS_lift_Req) (s := 3) h1013 (fun _ => rfl)).2.2.2.1 (.cons (sub_ob (f := eS_lift_Req) (s := 3) h1013 (fun _ => rfl)).2.2.2.2 (.cons (G_lift_part_ok n v_s1325 v_head1297 _ h1014) (.cons (app_ob (f := eS_lift_Req) (s := 3) h1015 (fun _ => rfl)).1 (.cons (app_ob (f := eS_lift_Req) (s := 3) h1015 (fun _ => rfl)).2.1 (.cons (app_ob (f := eS_lift_Req) (s := 3) h1015 (fun _ => rfl)).2.2.1 (.cons (app_ob (f := eS_lift_Req) (s := 3) h1015 (fun _ => rfl)).2.2.2 (.cons (len_ob (f := eS_lift_Req) (l := v_l1296)) (.cons (df h1018) (.cons (sub_ob' (f := eS_lift_Req) (s := 3) h1021 (fun _ => rfl)).1 (.cons (sub_ob' (f := eS_lift_Req) (s := 3) h1021 (fun _ => rfl)).2.1 (.cons (sub_ob' (f := eS_lift_Req) (s := 3) h1021 (fun _ => rfl)).2.2.1 (.cons (sub_ob' (f := eS_lift_Req) (s := 3) h1021 (fun _ => rfl)).2.2.2.1 (.cons (sub_ob' (f := eS_lift_Req) (s := 3) h1021 (fun _ => rfl)).2.2.2.2 .nil))))))))))))))))) (G_lift_Order_L2_ok hF ks n  k v_s1331 v_r1326.2 v_a1327 _ h q)
    · rw [if_neg h995] at h
      cases h
      exact pkk_sound TTok mix hF 8 (hs := [.u (.d (.v (.int .i64 (v_l1296.length : Int)))), .t false]) (ts := []) (s := [0]) (l := [7]) (by kernel_rfl) (by kernel_rfl) (.cons (len_ob (f := eS_lift_Req) (l := v_l1296)) (.cons (df h995) .nil)) q
/- ringhall/lift.Order -/
def G_lift_Order (n : Nat) (v_l81 : (List S_lift_Req)) (v_head82 : Int) : Option ((List S_lift_Req) × Int) :=
  if v_head82 < 0 then
   G_lift_Order_J1 n  
  else
   if v_head82 ≥ 256 then
    G_lift_Order_J1 n  
   else
    (G_lift_Right n v_l81).bind fun (v_r1288 : (Int)) =>
    if v_r1288 = 0 then
     (G_lift_Order_L2 n  n v_l81 v_head82 ([] : List S_lift_Req)).bind fun v_o1333 => match v_o1333 with
     | .x0 v_z1334 =>
       some (v_z1334, 0)
    else
     some (([] : (List S_lift_Req)), v_r1288)
theorem G_lift_Order_ok (n : Nat) (v_l81 : (List S_lift_Req)) (v_head82 : Int) (r : (List S_lift_Req) × Int) (h : G_lift_Order n v_l81 v_head82 = some r) : Ret Try.prog 6 [(eL eS_lift_Req) v_l81, (eI .i64) v_head82] (.tup [(eL eS_lift_Req) r.1, (eI .i64) r.2]) := by
  refine ret_run (n := 55) (fn := Try.f6) (c := bodyOf Try.f6) (by kernel_rfl) (by kernel_rfl) (by kernel_rfl) (by kernel_rfl) ?_
  have hF : KC 55 (FinR Try.prog Try.f6 (.tup [(eL eS_lift_Req) r.1, (eI .i64) r.2])) := FinR.kc' (by kernel_rfl)
  unfold G_lift_Order at h
  by_cases h990 : v_head82 < 0
  · rw [if_pos h990] at h
    exact pkk_sound TTok mix hF 6 (hs := [.t true, .c, .c]) (ts := []) (s := []) (l := []) (by kernel_rfl) (by kernel_rfl) (.cons (dt h990) .nil) (G_lift_Order_J1_ok n   _ h)
  · rw [if_neg h990] at h
    by_cases h991 : v_head82 ≥ 256
    · rw [if_pos h991] at h
      exact pkk_sound TTok mix hF 6 (hs := [.t false, .c, .t true]) (ts := []) (s := []) (l := []) (by kernel_rfl) (by kernel_rfl) (.cons (df h990) (.cons (dt h991) .nil)) (G_lift_Order_J1_ok n   _ h)
    · rw [if_neg h991] at h
      obtain ⟨v_r1288, h992, h⟩ := bind_some h
      by_cases h994 : v_r1288 = 0
      · rw [if_pos h994] at h
        obtain ⟨v_o1333, h1022, h⟩ := bind_some h
        refine pkk_sound TTok mix hF 19 (hs := [.t false, .c, .t false, .r ((eI .i64) v_r1288), .t false, .n n]) (ts := [(7, 26, 3)]) (s := [70]) (l := [0, 1, 7]) (by kernel_rfl) (by kernel_rfl) (.cons (df h990) (.cons (df h991) (.cons (G_lift_Right_ok n v_l81 _ h992) (.cons (nf h994) .nil)))) (G_lift_Order_L2_ok hF (.b 0 :: .s (cR (cR (cR (cR (cR (bodyOf Try.f6)))))) :: []) n  n v_l81 v_head82 ([] : List S_lift_Req) _ h1022 ?_)
        cases v_o1333 with
        | x0 v_z1334 =>
          try dsimp only at h
          obtain rfl := Option.some.inj h
          exact pend_sound TTok mix 4 (hs := []) (by kernel_rfl) (by kernel_rfl) (by kernel_rfl) .nil
      · rw [if_neg h994] at h
        obtain rfl := Option.some.inj h
        exact pend_sound TTok mix 17 (hs := [.t false, .c, .t false, .r ((eI .i64) v_r1288), .t true]) (by kernel_rfl) (by kernel_rfl) (by kernel_rfl) (.cons (df h990) (.cons (df h991) (.cons (G_lift_Right_ok n v_l81 _ h992) (.cons (nt h994) .nil))))
def G_lift_Way_J1 (n : Nat)   : Option (Int × Int) :=
  some (0, 1)
theorem G_lift_Way_J1_ok (n : Nat)    (r : Int × Int) (h : G_lift_Way_J1 n   = some r) : RunE Try.prog 40 (FinR Try.prog Try.f7 (.tup [(eI .i64) r.1, (eI .i64) r.2])) (.s (cT (cR (cL (cR (bodyOf Try.f7))))) :: .s (cR (cR (bodyOf Try.f7))) :: []) .normal ⟨(dds 40 []), []⟩ := by
  have hF : KC 40 (FinR Try.prog Try.f7 (.tup [(eI .i64) r.1, (eI .i64) r.2])) := FinR.kc' (by kernel_rfl)
  unfold G_lift_Way_J1 at h
  obtain rfl := Option.some.inj h
  exact pend_sound TTok mix 4 (hs := []) (by kernel_rfl) (by kernel_rfl) (by kernel_rfl) .nil
inductive G_lift_Way_L1_R where
  | x0 (v_n1441 : Int)
def G_lift_Way_L1_ex : G_lift_Way_L1_R → Ex
  | .x0 _ => .exit 0
def G_lift_Way_L1_st (v_l1342 : (List S_lift_Req)) : G_lift_Way_L1_R → PS
  | .x0 v_n1441 => ⟨(dd :: dd :: dd :: dd :: dd :: dd :: dd :: .d (.v (.int .i64 v_n1441)) :: (dds 32 [])), []⟩
def G_lift_Way_L1_hd (v_l1342 : (List S_lift_Req)) (v_head1431 : Int) (v_n1432 : Int) (v_x1433 : Int) : PS := ⟨(dd :: .d (.v (.int .i64 v_head1431)) :: dd :: dd :: dd :: dd :: dd :: .d (.v (.int .i64 v_n1432)) :: (dds 13 (.d (.sl (v_l1342.map eS_lift_Req)) :: .d (.v (.int .i64 (v_l1342.length : Int))) :: .d (.v (.int .i64 v_x1433)) :: (dds 16 [])))), []⟩
def G_lift_Way_L1 (n : Nat) (v_l1342 : (List S_lift_Req)) : Nat → Int → Int → Int → Option G_lift_Way_L1_R
  | 0, _, _, _ => none
  | k + 1, v_head1431, v_n1432, v_x1433 =>
    if v_x1433 < (v_l1342.length : Int) then
     (getI v_l1342 v_x1433).bind fun (v_y1438 : S_lift_Req) =>
     if v_y1438.fBarrier = true then
      G_lift_Way_L1 n v_l1342 k v_head1431 v_n1432 (wi .i64 (v_x1433 + 1))
     else
      (G_lift_far n v_head1431 v_y1438.fSector).bind fun (v_r1440 : (Int)) =>
      G_lift_Way_L1 n v_l1342 k v_y1438.fSector (wi .i64 (v_n1432 + v_r1440)) (wi .i64 (v_x1433 + 1))
    else
     some (.x0 v_n1432)
theorem G_lift_Way_L1_ok {Fi : Ex → PS → Prop} (hF : KC 40 Fi) (ks : List Fr) (n : Nat) (v_l1342 : (List S_lift_Req))  : ∀ (k : Nat) (v_head1431 : Int) (v_n1432 : Int) (v_x1433 : Int) (o : G_lift_Way_L1_R), G_lift_Way_L1 n v_l1342 k v_head1431 v_n1432 v_x1433 = some o → RunE Try.prog 40 Fi ks (G_lift_Way_L1_ex o) (G_lift_Way_L1_st v_l1342 o) → RunE Try.prog 40 Fi (.l k (cP (cB (cR (cL (cR (cR (cR (cR (bodyOf Try.f7))))))))) :: ks) .normal (G_lift_Way_L1_hd v_l1342 v_head1431 v_n1432 v_x1433)
  | 0, v_head1431, v_n1432, v_x1433, o, h, q => by rw [G_lift_Way_L1] at h; cases h
  | k + 1, v_head1431, v_n1432, v_x1433, o, h, q => by
    rw [G_lift_Way_L1] at h
    by_cases h1063 : v_x1433 < (v_l1342.length : Int)
    · rw [if_pos h1063] at h
      obtain ⟨v_y1438, h1069, h⟩ := bind_some h
      by_cases h1072 : v_y1438.fBarrier = true
      · rw [if_pos h1072] at h
        exact pkk_sound TTok mix hF 16 (hs := [.t true, .y (eS_lift_Req v_y1438), .c, .c, .t false]) (ts := []) (s := []) (l := [1, 7, 21, 22, 23]) (by kernel_rfl) (by kernel_rfl) (.cons (dt h1063) (.cons (getI_ob (f := eS_lift_Req) h1069) (.cons (show 0 + 3 ≤ 3 by decide) (.cons (bnf h1072) .nil)))) (G_lift_Way_L1_ok hF ks n v_l1342 k v_head1431 v_n1432 (wi .i64 (v_x1433 + 1)) _ h q)
      · rw [if_neg h1072] at h
        obtain ⟨v_r1440, h1073, h⟩ := bind_some h
        exact pkk_sound TTok mix hF 18 (hs := [.t true, .y (eS_lift_Req v_y1438), .c, .c, .t true, .c, .r ((eI .i64) v_r1440), .c]) (ts := []) (s := []) (l := [1, 7, 21, 22, 23]) (by kernel_rfl) (by kernel_rfl) (.cons (dt h1063) (.cons (getI_ob (f := eS_lift_Req) h1069) (.cons (show 0 + 3 ≤ 3 by decide) (.cons (bnt (vf h1072)) (.cons (G_lift_far_ok n v_head1431 v_y1438.fSector _ h1073) .nil))))) (G_lift_Way_L1_ok hF ks n v_l1342 k v_y1438.fSector (wi .i64 (v_n1432 + v_r1440)) (wi .i64 (v_x1433 + 1)) _ h q)
    · rw [if_neg h1063] at h
      cases h
      exact pkk_sound TTok mix hF 8 (hs := [.t false]) (ts := []) (s := []) (l := [7]) (by kernel_rfl) (by kernel_rfl) (.cons (df h1063) .nil) q
/- ringhall/lift.Way -/
def G_lift_Way (n : Nat) (v_l1342 : (List S_lift_Req)) (v_head1343 : Int) : Option (Int × Int) :=
  if v_head1343 < 0 then
   G_lift_Way_J1 n  
  else
   if v_head1343 ≥ 256 then
    G_lift_Way_J1 n  
   else
    (G_lift_Right n v_l1342).bind fun (v_r1415 : (Int)) =>
    if v_r1415 = 0 then
     (G_lift_Way_L1 n v_l1342 n v_head1343 0 0).bind fun v_o1442 => match v_o1442 with
     | .x0 v_z1443 =>
       some (v_z1443, 0)
    else
     some (0, v_r1415)
theorem G_lift_Way_ok (n : Nat) (v_l1342 : (List S_lift_Req)) (v_head1343 : Int) (r : Int × Int) (h : G_lift_Way n v_l1342 v_head1343 = some r) : Ret Try.prog 7 [(eL eS_lift_Req) v_l1342, (eI .i64) v_head1343] (.tup [(eI .i64) r.1, (eI .i64) r.2]) := by
  refine ret_run (n := 40) (fn := Try.f7) (c := bodyOf Try.f7) (by kernel_rfl) (by kernel_rfl) (by kernel_rfl) (by kernel_rfl) ?_
  have hF : KC 40 (FinR Try.prog Try.f7 (.tup [(eI .i64) r.1, (eI .i64) r.2])) := FinR.kc' (by kernel_rfl)
  unfold G_lift_Way at h
  by_cases h1058 : v_head1343 < 0
  · rw [if_pos h1058] at h
    exact pkk_sound TTok mix hF 6 (hs := [.t true, .c, .c]) (ts := []) (s := []) (l := []) (by kernel_rfl) (by kernel_rfl) (.cons (dt h1058) .nil) (G_lift_Way_J1_ok n   _ h)
  · rw [if_neg h1058] at h
    by_cases h1059 : v_head1343 ≥ 256
    · rw [if_pos h1059] at h
      exact pkk_sound TTok mix hF 6 (hs := [.t false, .c, .t true]) (ts := []) (s := []) (l := []) (by kernel_rfl) (by kernel_rfl) (.cons (df h1058) (.cons (dt h1059) .nil)) (G_lift_Way_J1_ok n   _ h)
    · rw [if_neg h1059] at h
      obtain ⟨v_r1415, h1060, h⟩ := bind_some h
      by_cases h1062 : v_r1415 = 0
      · rw [if_pos h1062] at h
        obtain ⟨v_o1442, h1074, h⟩ := bind_some h
        refine pkk_sound TTok mix hF 21 (hs := [.t false, .c, .t false, .r ((eI .i64) v_r1415), .t false, .u (.d (.v (.int .i64 (v_l1342.length : Int)))), .n n]) (ts := []) (s := []) (l := [1, 7, 21, 22, 23]) (by kernel_rfl) (by kernel_rfl) (.cons (df h1058) (.cons (df h1059) (.cons (G_lift_Right_ok n v_l1342 _ h1060) (.cons (nf h1062) (.cons (len_ob (f := eS_lift_Req) (l := v_l1342)) .nil))))) (G_lift_Way_L1_ok hF (.b 0 :: .s (cR (cR (cR (cR (cR (bodyOf Try.f7)))))) :: []) n v_l1342 n v_head1343 0 0 _ h1074 ?_)
        cases v_o1442 with
        | x0 v_z1443 =>
          try dsimp only at h
          obtain rfl := Option.some.inj h
          exact pend_sound TTok mix 4 (hs := []) (by kernel_rfl) (by kernel_rfl) (by kernel_rfl) .nil
      · rw [if_neg h1062] at h
        obtain rfl := Option.some.inj h
        exact pend_sound TTok mix 17 (hs := [.t false, .c, .t false, .r ((eI .i64) v_r1415), .t true]) (by kernel_rfl) (by kernel_rfl) (by kernel_rfl) (.cons (df h1058) (.cons (df h1059) (.cons (G_lift_Right_ok n v_l1342 _ h1060) (.cons (nt h1062) .nil))))
inductive G_ringlaw3_requests_L1_R where
  | x0 (v_w1629 : (List S_ringref3_Req))
def G_ringlaw3_requests_L1_ex : G_ringlaw3_requests_L1_R → Ex
  | .x0 _ => .exit 0
def G_ringlaw3_requests_L1_st (v_l1617 : (List S_lift_Req)) : G_ringlaw3_requests_L1_R → PS
  | .x0 v_w1629 => ⟨(dd :: dd :: dd :: .srf 0 :: (dds 24 [])), [.row 35 2 (v_w1629.map eS_ringref3_Req)]⟩
def G_ringlaw3_requests_L1_hd (v_l1617 : (List S_lift_Req)) (v_x1620 : Int) (v_w1621 : (List S_ringref3_Req)) : PS := ⟨(dd :: dd :: dd :: .srf 0 :: dd :: dd :: dd :: .d (.sl (v_l1617.map eS_lift_Req)) :: .d (.v (.int .i64 (v_l1617.length : Int))) :: .d (.v (.int .i64 v_x1620)) :: (dds 18 [])), [.row 35 2 (v_w1621.map eS_ringref3_Req)]⟩
def G_ringlaw3_requests_L1 (n : Nat) (v_l1617 : (List S_lift_Req)) : Nat → Int → (List S_ringref3_Req) → Option G_ringlaw3_requests_L1_R
  | 0, _, _ => none
  | k + 1, v_x1620, v_w1621 =>
    if v_x1620 < (v_l1617.length : Int) then
     (getI v_l1617 v_x1620).bind fun (v_y1626 : S_lift_Req) =>
     if v_y1626.fBarrier = true then
      (app 24 v_w1621 ([(S_ringref3_Req.mk (-1) (ByteArray.mk #[]))])).bind fun (v_a1627 : (List S_ringref3_Req)) =>
      G_ringlaw3_requests_L1 n v_l1617 k (wi .i64 (v_x1620 + 1)) v_a1627
     else
      (app 24 v_w1621 ([(S_ringref3_Req.mk v_y1626.fSector (b2s v_y1626.fData))])).bind fun (v_a1628 : (List S_ringref3_Req)) =>
      G_ringlaw3_requests_L1 n v_l1617 k (wi .i64 (v_x1620 + 1)) v_a1628
    else
     some (.x0 v_w1621)
theorem G_ringlaw3_requests_L1_ok {Fi : Ex → PS → Prop} (hF : KC 28 Fi) (ks : List Fr) (n : Nat) (v_l1617 : (List S_lift_Req))  : ∀ (k : Nat) (v_x1620 : Int) (v_w1621 : (List S_ringref3_Req)) (o : G_ringlaw3_requests_L1_R), G_ringlaw3_requests_L1 n v_l1617 k v_x1620 v_w1621 = some o → RunE Try.prog 28 Fi ks (G_ringlaw3_requests_L1_ex o) (G_ringlaw3_requests_L1_st v_l1617 o) → RunE Try.prog 28 Fi (.l k (cP (cB (cR (cL (cR (cR (bodyOf Try.f9))))))) :: ks) .normal (G_ringlaw3_requests_L1_hd v_l1617 v_x1620 v_w1621)
  | 0, v_x1620, v_w1621, o, h, q => by rw [G_ringlaw3_requests_L1] at h; cases h
  | k + 1, v_x1620, v_w1621, o, h, q => by
    rw [G_ringlaw3_requests_L1] at h
    by_cases h1127 : v_x1620 < (v_l1617.length : Int)
    · rw [if_pos h1127] at h
      obtain ⟨v_y1626, h1132, h⟩ := bind_some h
      by_cases h1133 : v_y1626.fBarrier = true
      · rw [if_pos h1133] at h
        obtain ⟨v_a1627, h1134, h⟩ := bind_some h
        exact pkk_sound TTok mix hF 20 (hs := [.t true, .y (eS_lift_Req v_y1626), .c, .c, .c, .e 46 [] (.d (.v (.string (b2s v_y1626.fData)))) [], .c, .c, .t true, .c, .c, .bd, .w (v_a1627.map eS_ringref3_Req)]) (ts := []) (s := [101]) (l := [3, 7, 8, 9]) (by kernel_rfl) (by kernel_rfl) (.cons (dt h1127) (.cons (getI_ob (f := eS_lift_Req) h1132) (.cons (show 0 + 3 ≤ 3 by decide) (.cons (xb2sD (L := v_y1626.fData) (P := Try.prog) (T := TT) (src := 24) (dst := 9) (e := 5) (s := 1) (x := (.tmp 16)) (by kernel_rfl) (by kernel_rfl) (by kernel_rfl)) (.cons (show 0 + 2 ≤ 2 by decide) (.cons h1133 (.cons (show 0 + 2 ≤ 2 by decide) (.cons (app_ob (f := eS_ringref3_Req) (s := 2) h1134 (fun _ => rfl)).1 (.cons (app_ob (f := eS_ringref3_Req) (s := 2) h1134 (fun _ => rfl)).2.1 (.cons (app_ob (f := eS_ringref3_Req) (s := 2) h1134 (fun _ => rfl)).2.2.1 (.cons (app_ob (f := eS_ringref3_Req) (s := 2) h1134 (fun _ => rfl)).2.2.2 .nil))))))))))) (G_ringlaw3_requests_L1_ok hF ks n v_l1617 k (wi .i64 (v_x1620 + 1)) v_a1627 _ h q)
      · rw [if_neg h1133] at h
        obtain ⟨v_a1628, h1135, h⟩ := bind_some h
        exact pkk_sound TTok mix hF 20 (hs := [.t true, .y (eS_lift_Req v_y1626), .c, .c, .c, .e 46 [] (.d (.v (.string (b2s v_y1626.fData)))) [], .c, .c, .t false, .c, .bd, .w (v_a1628.map eS_ringref3_Req)]) (ts := []) (s := [91]) (l := [3, 7, 8, 9]) (by kernel_rfl) (by kernel_rfl) (.cons (dt h1127) (.cons (getI_ob (f := eS_lift_Req) h1132) (.cons (show 0 + 3 ≤ 3 by decide) (.cons (xb2sD (L := v_y1626.fData) (P := Try.prog) (T := TT) (src := 24) (dst := 9) (e := 5) (s := 1) (x := (.tmp 16)) (by kernel_rfl) (by kernel_rfl) (by kernel_rfl)) (.cons (show 0 + 2 ≤ 2 by decide) (.cons (vf h1133) (.cons (app_ob (f := eS_ringref3_Req) (s := 2) h1135 (fun _ => rfl)).1 (.cons (app_ob (f := eS_ringref3_Req) (s := 2) h1135 (fun _ => rfl)).2.1 (.cons (app_ob (f := eS_ringref3_Req) (s := 2) h1135 (fun _ => rfl)).2.2.1 (.cons (app_ob (f := eS_ringref3_Req) (s := 2) h1135 (fun _ => rfl)).2.2.2 .nil)))))))))) (G_ringlaw3_requests_L1_ok hF ks n v_l1617 k (wi .i64 (v_x1620 + 1)) v_a1628 _ h q)
    · rw [if_neg h1127] at h
      cases h
      exact pkk_sound TTok mix hF 8 (hs := [.t false]) (ts := []) (s := [0]) (l := [3]) (by kernel_rfl) (by kernel_rfl) (.cons (df h1127) .nil) q
/- ringhall/ringlaw3.requests -/
def G_ringlaw3_requests (n : Nat) (v_l1617 : (List S_lift_Req)) : Option ((List S_ringref3_Req)) :=
  (G_ringlaw3_requests_L1 n v_l1617 n 0 ([] : List S_ringref3_Req)).bind fun v_o1630 => match v_o1630 with
  | .x0 v_z1631 =>
    some v_z1631
theorem G_ringlaw3_requests_ok (n : Nat) (v_l1617 : (List S_lift_Req)) (r : (List S_ringref3_Req)) (h : G_ringlaw3_requests n v_l1617 = some r) : Ret Try.prog 9 [(eL eS_lift_Req) v_l1617] ((eL eS_ringref3_Req) r) := by
  refine ret_run (n := 28) (fn := Try.f9) (c := bodyOf Try.f9) (by kernel_rfl) (by kernel_rfl) (by kernel_rfl) (by kernel_rfl) ?_
  have hF : KC 28 (FinR Try.prog Try.f9 ((eL eS_ringref3_Req) r)) := FinR.kc' (by kernel_rfl)
  unfold G_ringlaw3_requests at h
  obtain ⟨v_o1630, h1136, h⟩ := bind_some h
  refine pkk_sound TTok mix hF 9 (hs := [.u (.d (.v (.int .i64 (v_l1617.length : Int)))), .n n]) (ts := [(3, 35, 2)]) (s := [25]) (l := [3, 7, 8, 9]) (by kernel_rfl) (by kernel_rfl) (.cons (len_ob (f := eS_lift_Req) (l := v_l1617)) .nil) (G_ringlaw3_requests_L1_ok hF (.b 0 :: .s (cR (cR (cR (bodyOf Try.f9)))) :: []) n v_l1617 n 0 ([] : List S_ringref3_Req) _ h1136 ?_)
  cases v_o1630 with
  | x0 v_z1631 =>
    try dsimp only at h
    obtain rfl := Option.some.inj h
    exact pend_sound TTok mix 4 (hs := []) (by kernel_rfl) (by kernel_rfl) (by kernel_rfl) .nil
inductive G_ringref3_Lift_1_h_L2_R where
  | x0 (v_w1744 : (List S_ringref3_Req)) (v_w1745 : (List S_ringref3_Req))
  | x1 (v_w1746 : (List S_ringref3_Req)) (v_w1747 : (List S_ringref3_Req))
def G_ringref3_Lift_1_h_L2_ex : G_ringref3_Lift_1_h_L2_R → Ex
  | .x0 _ _ => .exit 2
  | .x1 _ _ => .exit 2
def G_ringref3_Lift_1_h_L2_st (v_at1724 : Int) (v_x1725 : Int) (v_b1726 : Int) : G_ringref3_Lift_1_h_L2_R → PS
  | .x0 v_w1744 v_w1745 => ⟨(.ref 5 0 :: .ref 6 0 :: .ref 9 0 :: .d (.v (.int .i64 v_at1724)) :: dd :: dd :: .d (.v (.int .i64 v_x1725)) :: (dds 27 [])), [.gh 0 (.ref 5 0), .gh 1 (.ref 6 0), .gh 2 (.srf 8), .gh 3 (.ref 9 0), .gh 4 (.srf 11), .box [.d (.v (.int .i64 v_at1724))], .box [.srf 7], .row 35 2 (v_w1744.map eS_ringref3_Req), .none, .box [.srf 10], .row 35 2 (v_w1745.map eS_ringref3_Req), .none]⟩
  | .x1 v_w1746 v_w1747 => ⟨(.ref 5 0 :: .ref 6 0 :: .ref 9 0 :: .d (.v (.int .i64 v_at1724)) :: dd :: dd :: .d (.v (.int .i64 v_x1725)) :: (dds 27 [])), [.gh 0 (.ref 5 0), .gh 1 (.ref 6 0), .gh 2 (.srf 8), .gh 3 (.ref 9 0), .gh 4 (.srf 11), .box [.d (.v (.int .i64 v_b1726))], .box [.srf 7], .row 35 2 (v_w1746.map eS_ringref3_Req), .none, .box [.srf 10], .row 35 2 (v_w1747.map eS_ringref3_Req), .none]⟩
def G_ringref3_Lift_1_h_L2_hd (v_at1724 : Int) (v_x1725 : Int) (v_b1726 : Int) (v_i1730 : Int) (v_w1731 : (List S_ringref3_Req)) (v_w1732 : (List S_ringref3_Req)) : PS := ⟨(.ref 5 0 :: .ref 6 0 :: .ref 9 0 :: .d (.v (.int .i64 v_at1724)) :: .d (.v (.int .i64 v_i1730)) :: dd :: .d (.v (.int .i64 v_x1725)) :: (dds 27 [])), [.gh 0 (.ref 5 0), .gh 1 (.ref 6 0), .gh 2 (.srf 8), .gh 3 (.ref 9 0), .gh 4 (.srf 11), .box [.d (.v (.int .i64 v_b1726))], .box [.srf 7], .row 35 2 (v_w1731.map eS_ringref3_Req), .none, .box [.srf 10], .row 35 2 (v_w1732.map eS_ringref3_Req), .none]⟩
def G_ringref3_Lift_1_h_L2 (n : Nat) (v_at1724 : Int) (v_x1725 : Int) (v_b1726 : Int) : Nat → Int → (List S_ringref3_Req) → (List S_ringref3_Req) → Option G_ringref3_Lift_1_h_L2_R
  | 0, _, _, _ => none
  | k + 1, v_i1730, v_w1731, v_w1732 =>
    if v_i1730 ≥ 0 then
     if 0 ≤ v_i1730 ∧ (v_i1730).toNat < v_w1731.length then
      (v_w1731[(v_i1730).toNat]?).bind fun (v_y1739 : S_ringref3_Req) =>
      if v_y1739.fN = v_at1724 then
       if 0 ≤ v_i1730 ∧ (v_i1730).toNat < v_w1731.length then
        (v_w1731[(v_i1730).toNat]?).bind fun (v_y1742 : S_ringref3_Req) =>
        (app 24 v_w1732 ([v_y1742])).bind fun (v_a1743 : (List S_ringref3_Req)) =>
        some (.x0 v_w1731 v_a1743)
       else none
      else
       G_ringref3_Lift_1_h_L2 n v_at1724 v_x1725 v_b1726 k (wi .i64 (v_i1730 - 1)) v_w1731 v_w1732
     else none
    else
     some (.x1 v_w1731 v_w1732)
theorem G_ringref3_Lift_1_h_L2_ok {Fi : Ex → PS → Prop} (hF : KC 34 Fi) (ks : List Fr) (n : Nat) (v_at1724 : Int) (v_x1725 : Int) (v_b1726 : Int)  : ∀ (k : Nat) (v_i1730 : Int) (v_w1731 : (List S_ringref3_Req)) (v_w1732 : (List S_ringref3_Req)) (o : G_ringref3_Lift_1_h_L2_R), G_ringref3_Lift_1_h_L2 n v_at1724 v_x1725 v_b1726 k v_i1730 v_w1731 v_w1732 = some o → RunE Try.prog 34 Fi ks (G_ringref3_Lift_1_h_L2_ex o) (G_ringref3_Lift_1_h_L2_st v_at1724 v_x1725 v_b1726 o) → RunE Try.prog 34 Fi (.l k (cP (cB (cR (cL (cB (cL (cR (cR (cP (cB (cR (cL (cR (bodyOf Try.f28)))))))))))))) :: ks) .normal (G_ringref3_Lift_1_h_L2_hd v_at1724 v_x1725 v_b1726 v_i1730 v_w1731 v_w1732)
  | 0, v_i1730, v_w1731, v_w1732, o, h, q => by rw [G_ringref3_Lift_1_h_L2] at h; cases h
  | k + 1, v_i1730, v_w1731, v_w1732, o, h, q => by
    rw [G_ringref3_Lift_1_h_L2] at h
    by_cases h1214 : v_i1730 ≥ 0
    · rw [if_pos h1214] at h
      by_cases h1225 : 0 ≤ v_i1730 ∧ (v_i1730).toNat < v_w1731.length
      · rw [if_pos h1225] at h
        obtain ⟨v_y1739, h1226, h⟩ := bind_some h
        by_cases h1231 : v_y1739.fN = v_at1724
        · rw [if_pos h1231] at h
          by_cases h1232 : 0 ≤ v_i1730 ∧ (v_i1730).toNat < v_w1731.length
          · rw [if_pos h1232] at h
            obtain ⟨v_y1742, h1233, h⟩ := bind_some h
            obtain ⟨v_a1743, h1234, h⟩ := bind_some h
            cases h
            exact pkk_sound TTok mix hF 19 (hs := [.t true, .c, .y (eS_ringref3_Req v_y1739), .t true, .c, .c, .y (eS_ringref3_Req v_y1742), .bd, .w (v_a1743.map eS_ringref3_Req), .c, .c]) (ts := []) (s := [0, 1, 2, 3, 4, 5, 6, 7, 8, 9, 87, 11]) (l := [0, 1, 2, 3, 6]) (by kernel_rfl) (by kernel_rfl) (.cons (dt h1214) (.cons (idx_ob (f := eS_ringref3_Req) h1225) (.cons (get_ob (f := eS_ringref3_Req) h1226) (.cons (bt h1231) (.cons (idx_ob (f := eS_ringref3_Req) h1232) (.cons (get_ob (f := eS_ringref3_Req) h1233) (.cons (app_ob (f := eS_ringref3_Req) (s := 2) h1234 (fun _ => rfl)).1 (.cons (app_ob (f := eS_ringref3_Req) (s := 2) h1234 (fun _ => rfl)).2.1 (.cons (app_ob (f := eS_ringref3_Req) (s := 2) h1234 (fun _ => rfl)).2.2.1 (.cons (app_ob (f := eS_ringref3_Req) (s := 2) h1234 (fun _ => rfl)).2.2.2 (.cons (show 0 + 1 ≤ 1 by decide) (.cons (show 0 + 1 ≤ 1 by decide) .nil)))))))))))) q
          · rw [if_neg h1232] at h; cases h
        · rw [if_neg h1231] at h
          exact pkk_sound TTok mix hF 14 (hs := [.t true, .c, .y (eS_ringref3_Req v_y1739), .t false]) (ts := []) (s := [0, 1, 2, 3, 4, 5, 6, 7, 8, 9, 10, 11]) (l := [0, 1, 2, 3, 4, 6]) (by kernel_rfl) (by kernel_rfl) (.cons (dt h1214) (.cons (idx_ob (f := eS_ringref3_Req) h1225) (.cons (get_ob (f := eS_ringref3_Req) h1226) (.cons (bf h1231) .nil)))) (G_ringref3_Lift_1_h_L2_ok hF ks n v_at1724 v_x1725 v_b1726 k (wi .i64 (v_i1730 - 1)) v_w1731 v_w1732 _ h q)
      · rw [if_neg h1225] at h; cases h
    · rw [if_neg h1214] at h
      cases h
      exact pkk_sound TTok mix hF 8 (hs := [.t false]) (ts := []) (s := [0, 1, 2, 3, 4, 5, 6, 7, 8, 9, 10, 11]) (l := [0, 1, 2, 3, 6]) (by kernel_rfl) (by kernel_rfl) (.cons (df h1214) .nil) q
inductive G_ringref3_Lift_1_h_L3_R where
  | x0 (v_b1753 : Int) (v_w1754 : (List S_ringref3_Req)) (v_w1755 : (List S_ringref3_Req))
def G_ringref3_Lift_1_h_L3_ex : G_ringref3_Lift_1_h_L3_R → Ex
  | .x0 _ _ _ => .exit 0
def G_ringref3_Lift_1_h_L3_st  : G_ringref3_Lift_1_h_L3_R → PS
  | .x0 v_b1753 v_w1754 v_w1755 => ⟨(dd :: .ref 6 0 :: (dds 32 [])), [.gh 0 (.ref 5 0), .gh 1 (.ref 6 0), .gh 2 (.srf 8), .gh 3 (.ref 9 0), .gh 4 (.srf 11), .box [.d (.v (.int .i64 v_b1753))], .box [.srf 7], .row 35 2 (v_w1754.map eS_ringref3_Req), .none, .box [.srf 10], .row 35 2 (v_w1755.map eS_ringref3_Req), .none]⟩
def G_ringref3_Lift_1_h_L3_hd  (v_at1724 : Int) (v_x1725 : Int) (v_b1726 : Int) (v_w1727 : (List S_ringref3_Req)) (v_w1728 : (List S_ringref3_Req)) : PS := ⟨(.ref 5 0 :: .ref 6 0 :: .ref 9 0 :: .d (.v (.int .i64 v_at1724)) :: dd :: dd :: .d (.v (.int .i64 v_x1725)) :: (dds 27 [])), [.gh 0 (.ref 5 0), .gh 1 (.ref 6 0), .gh 2 (.srf 8), .gh 3 (.ref 9 0), .gh 4 (.srf 11), .box [.d (.v (.int .i64 v_b1726))], .box [.srf 7], .row 35 2 (v_w1727.map eS_ringref3_Req), .none, .box [.srf 10], .row 35 2 (v_w1728.map eS_ringref3_Req), .none]⟩
def G_ringref3_Lift_1_h_L3 (n : Nat)  : Nat → Int → Int → Int → (List S_ringref3_Req) → (List S_ringref3_Req) → Option G_ringref3_Lift_1_h_L3_R
  | 0, _, _, _, _, _ => none
  | k + 1, v_at1724, v_x1725, v_b1726, v_w1727, v_w1728 =>
    if v_x1725 < 256 then
     (G_ringref3_Lift_1_h_L2 n v_at1724 v_x1725 v_b1726 n (wi .i64 ((v_w1727.length : Int) - 1)) v_w1727 v_w1728).bind fun v_o1748 => match v_o1748 with
     | .x0 v_z1749 v_z1750 =>
       G_ringref3_Lift_1_h_L3 n  k (remI (wi .i64 (v_at1724 + 1)) 256) (wi .i64 (v_x1725 + 1)) v_at1724 v_z1749 v_z1750
     | .x1 v_z1751 v_z1752 =>
       G_ringref3_Lift_1_h_L3 n  k (remI (wi .i64 (v_at1724 + 1)) 256) (wi .i64 (v_x1725 + 1)) v_b1726 v_z1751 v_z1752
    else
     some (.x0 v_b1726 v_w1727 v_w1728)
theorem G_ringref3_Lift_1_h_L3_ok {Fi : Ex → PS → Prop} (hF : KC 34 Fi) (ks : List Fr) (n : Nat)   : ∀ (k : Nat) (v_at1724 : Int) (v_x1725 : Int) (v_b1726 : Int) (v_w1727 : (List S_ringref3_Req)) (v_w1728 : (List S_ringref3_Req)) (o : G_ringref3_Lift_1_h_L3_R), G_ringref3_Lift_1_h_L3 n  k v_at1724 v_x1725 v_b1726 v_w1727 v_w1728 = some o → RunE Try.prog 34 Fi ks (G_ringref3_Lift_1_h_L3_ex o) (G_ringref3_Lift_1_h_L3_st  o) → RunE Try.prog 34 Fi (.l k (cP (cB (cR (cL (cR (bodyOf Try.f28)))))) :: ks) .normal (G_ringref3_Lift_1_h_L3_hd  v_at1724 v_x1725 v_b1726 v_w1727 v_w1728)
  | 0, v_at1724, v_x1725, v_b1726, v_w1727, v_w1728, o, h, q => by rw [G_ringref3_Lift_1_h_L3] at h; cases h
  | k + 1, v_at1724, v_x1725, v_b1726, v_w1727, v_w1728, o, h, q => by
    rw [G_ringref3_Lift_1_h_L3] at h
    by_cases h1213 : v_x1725 < 256
    · rw [if_pos h1213] at h
      obtain ⟨v_o1748, h1235, h⟩ := bind_some h
      refine pkk_sound TTok mix hF 13 (hs := [.t true, .c, .u (.d (.v (.int .i64 (v_w1727.length : Int)))), .n n]) (ts := []) (s := [0, 1, 2, 3, 4, 5, 6, 7, 8, 9, 10, 11]) (l := [0, 1, 2, 3, 4, 6]) (by kernel_rfl) (by kernel_rfl) (.cons (dt h1213) (.cons (len_ob (f := eS_ringref3_Req) (l := v_w1727)) .nil)) (G_ringref3_Lift_1_h_L2_ok hF (.b 2 :: .s (cR (cB (cL (cR (cR (cP (cB (cR (cL (cR (bodyOf Try.f28))))))))))) :: .b 1 :: .s (cR (cR (cR (cP (cB (cR (cL (cR (bodyOf Try.f28))))))))) :: .l k (cP (cB (cR (cL (cR (bodyOf Try.f28)))))) :: ks) n v_at1724 v_x1725 v_b1726 n (wi .i64 ((v_w1727.length : Int) - 1)) v_w1727 v_w1728 _ h1235 ?_)
      cases v_o1748 with
      | x0 v_z1749 v_z1750 =>
        try dsimp only at h
        exact pkk_sound TTok mix hF 4 (hs := []) (ts := []) (s := [0, 1, 2, 3, 4, 5, 6, 7, 8, 9, 10, 11]) (l := [0, 1, 2, 3, 6]) (by kernel_rfl) (by kernel_rfl) (.cons (show (256 : Int) ≠ 0 by decide) .nil) (G_ringref3_Lift_1_h_L3_ok hF ks n  k (remI (wi .i64 (v_at1724 + 1)) 256) (wi .i64 (v_x1725 + 1)) v_at1724 v_z1749 v_z1750 _ h q)
      | x1 v_z1751 v_z1752 =>
        try dsimp only at h
        exact pkk_sound TTok mix hF 4 (hs := []) (ts := []) (s := [0, 1, 2, 3, 4, 5, 6, 7, 8, 9, 10, 11]) (l := [0, 1, 2, 3, 6]) (by kernel_rfl) (by kernel_rfl) (.cons (show (256 : Int) ≠ 0 by decide) .nil) (G_ringref3_Lift_1_h_L3_ok hF ks n  k (remI (wi .i64 (v_at1724 + 1)) 256) (wi .i64 (v_x1725 + 1)) v_b1726 v_z1751 v_z1752 _ h q)
    · rw [if_neg h1213] at h
      cases h
      exact pkk_sound TTok mix hF 8 (hs := [.t false]) (ts := []) (s := [0, 1, 2, 3, 4, 5, 6, 7, 8, 9, 10, 11]) (l := [1]) (by kernel_rfl) (by kernel_rfl) (.cons (df h1213) .nil) q
/- ringhall/ringref3.Lift$1 -/
def G_ringref3_Lift_1_h (n : Nat) (v_x1648 : Int) (v_x1649 : (List S_ringref3_Req)) (v_x1650 : (List S_ringref3_Req)) : Option (Int × (List S_ringref3_Req) × (List S_ringref3_Req)) :=
  (G_ringref3_Lift_1_h_L3 n  n v_x1648 0 v_x1648 v_x1649 v_x1650).bind fun v_o1756 => match v_o1756 with
  | .x0 v_z1757 v_z1758 v_z1759 =>
    some (v_z1757, ([] : List S_ringref3_Req), v_z1759)
theorem G_ringref3_Lift_1_h_ok (n : Nat) (v_x1648 : Int) (v_x1649 : (List S_ringref3_Req)) (v_x1650 : (List S_ringref3_Req)) (r : Int × (List S_ringref3_Req) × (List S_ringref3_Req)) (h : G_ringref3_Lift_1_h n v_x1648 v_x1649 v_x1650 = some r) : RetH Try.prog 28 [.ref 0 0, .ref 1 0, .ref 3 0] [.box [.d (.v (.int .i64 v_x1648))], .box [.srf 2], .row 35 2 (v_x1649.map eS_ringref3_Req), .box [.srf 4], .row 35 2 (v_x1650.map eS_ringref3_Req)] (.tup []) [.box [.d (.v (.int .i64 r.1))], .box [.srf 5], .none, .box [.srf 6], .none, .row 35 2 (r.2.1.map eS_ringref3_Req), .row 35 2 (r.2.2.map eS_ringref3_Req)] := by
  refine retH_run (n := 34) (fn := Try.f28) (c := bodyOf Try.f28) (by kernel_rfl) (by kernel_rfl) (by kernel_rfl) (by kernel_rfl) ?_
  have hF : KC 34 (FinH Try.prog Try.f28 [.box [.d (.v (.int .i64 v_x1648))], .box [.srf 2], .row 35 2 (v_x1649.map eS_ringref3_Req), .box [.srf 4], .row 35 2 (v_x1650.map eS_ringref3_Req)] (.tup []) [.box [.d (.v (.int .i64 r.1))], .box [.srf 5], .none, .box [.srf 6], .none, .row 35 2 (r.2.1.map eS_ringref3_Req), .row 35 2 (r.2.2.map eS_ringref3_Req)]) := FinH.kc' (by kernel_rfl)
  unfold G_ringref3_Lift_1_h at h
  obtain ⟨v_o1756, h1238, h⟩ := bind_some h
  refine pkk_sound TTok mix hF 9 (hs := [.c, .dl 4, .mv 2, .mv 4, .n n]) (ts := []) (s := [5, 6, 7, 8, 9, 0, 1, 25, 2, 3, 26, 4]) (l := [0, 1, 2, 3, 6]) (by kernel_rfl) (by kernel_rfl) .nil (G_ringref3_Lift_1_h_L3_ok hF (.b 0 :: .s (cR (cR (bodyOf Try.f28))) :: []) n  n v_x1648 0 v_x1648 v_x1649 v_x1650 _ h1238 ?_)
  cases v_o1756 with
  | x0 v_z1757 v_z1758 v_z1759 =>
    try dsimp only at h
    obtain rfl := Option.some.inj h
    exact pendH_sound TTok mix 3 (hs := [.c, .tb 6 0 35 2]) [5, 6, 8, 9, 11, 17, 10] (by kernel_rfl) (by kernel_rfl) (by kernel_rfl) (.cons (show 0 + 1 ≤ 1 by decide) .nil)
inductive G_ringref3_Lift_L1_R where
  | x0 (v_w1808 : (List S_ringref3_Req)) (v_b1809 : Int) (v_w1810 : (List S_ringref3_Req))
def G_ringref3_Lift_L1_ex : G_ringref3_Lift_L1_R → Ex
  | .x0 _ _ _ => .exit 0
def G_ringref3_Lift_L1_st (v_l1634 : (List S_ringref3_Req)) : G_ringref3_Lift_L1_R → PS
  | .x0 v_w1808 v_b1809 v_w1810 => ⟨(dd :: dd :: dd :: dd :: dd :: .ref 0 0 :: dd :: .clo 28 [.ref 2 0, .ref 3 0, .ref 0 0] :: (dds 26 [])), [.box [.srf 1], .row 35 2 (v_w1808.map eS_ringref3_Req), .box [.d (.v (.int .i64 v_b1809))], .box [.srf 4], .row 35 2 (v_w1810.map eS_ringref3_Req)]⟩
def G_ringref3_Lift_L1_hd (v_l1634 : (List S_ringref3_Req)) (v_x1789 : Int) (v_w1790 : (List S_ringref3_Req)) (v_w1791 : (List S_ringref3_Req)) (v_b1792 : Int) : PS := ⟨(dd :: dd :: dd :: dd :: dd :: .ref 0 0 :: .ref 2 0 :: .clo 28 [.ref 4 0, .ref 2 0, .ref 0 0] :: dd :: dd :: dd :: .d (.sl (v_l1634.map eS_ringref3_Req)) :: .d (.v (.int .i64 (v_l1634.length : Int))) :: .d (.v (.int .i64 v_x1789)) :: (dds 20 [])), [.box [.srf 1], .row 35 2 (v_w1790.map eS_ringref3_Req), .box [.srf 3], .row 35 2 (v_w1791.map eS_ringref3_Req), .box [.d (.v (.int .i64 v_b1792))]]⟩
def G_ringref3_Lift_L1 (n : Nat) (v_l1634 : (List S_ringref3_Req)) : Nat → Int → (List S_ringref3_Req) → (List S_ringref3_Req) → Int → Option G_ringref3_Lift_L1_R
  | 0, _, _, _, _ => none
  | k + 1, v_x1789, v_w1790, v_w1791, v_b1792 =>
    if v_x1789 < (v_l1634.length : Int) then
     (getI v_l1634 v_x1789).bind fun (v_y1801 : S_ringref3_Req) =>
     if v_y1801.fN < 0 then
      (G_ringref3_Lift_1_h n v_b1792 v_w1791 v_w1790).bind fun (v_r1805 : (Int × (List S_ringref3_Req) × (List S_ringref3_Req))) =>
      (app 24 v_r1805.2.2 ([(S_ringref3_Req.mk (-1) (ByteArray.mk #[]))])).bind fun (v_a1806 : (List S_ringref3_Req)) =>
      G_ringref3_Lift_L1 n v_l1634 k (wi .i64 (v_x1789 + 1)) v_a1806 v_r1805.2.1 v_r1805.1
     else
      (app 24 v_w1791 ([v_y1801])).bind fun (v_a1807 : (List S_ringref3_Req)) =>
      G_ringref3_Lift_L1 n v_l1634 k (wi .i64 (v_x1789 + 1)) v_w1790 v_a1807 v_b1792
    else
     some (.x0 v_w1790 v_b1792 v_w1791)
theorem G_ringref3_Lift_L1_ok {Fi : Ex → PS → Prop} (hF : KC 34 Fi) (ks : List Fr) (n : Nat) (v_l1634 : (List S_ringref3_Req))  : ∀ (k : Nat) (v_x1789 : Int) (v_w1790 : (List S_ringref3_Req)) (v_w1791 : (List S_ringref3_Req)) (v_b1792 : Int) (o : G_ringref3_Lift_L1_R), G_ringref3_Lift_L1 n v_l1634 k v_x1789 v_w1790 v_w1791 v_b1792 = some o → RunE Try.prog 34 Fi ks (G_ringref3_Lift_L1_ex o) (G_ringref3_Lift_L1_st v_l1634 o) → RunE Try.prog 34 Fi (.l k (cP (cB (cR (cL (cR (cR (cR (bodyOf Try.f10)))))))) :: ks) .normal (G_ringref3_Lift_L1_hd v_l1634 v_x1789 v_w1790 v_w1791 v_b1792)
  | 0, v_x1789, v_w1790, v_w1791, v_b1792, o, h, q => by rw [G_ringref3_Lift_L1] at h; cases h
  | k + 1, v_x1789, v_w1790, v_w1791, v_b1792, o, h, q => by
    rw [G_ringref3_Lift_L1] at h
    by_cases h1272 : v_x1789 < (v_l1634.length : Int)
    · rw [if_pos h1272] at h
      obtain ⟨v_y1801, h1282, h⟩ := bind_some h
      by_cases h1287 : v_y1801.fN < 0
      · rw [if_pos h1287] at h
        obtain ⟨v_r1805, h1288, h⟩ := bind_some h
        obtain ⟨v_a1806, h1289, h⟩ := bind_some h
        exact pkk_sound TTok mix hF 18 (hs := [.t true, .y (eS_ringref3_Req v_y1801), .c, .c, .t true, .h [4, 2, 3, 0, 1] [] [.box [.d (.v (.int .i64 v_r1805.1))], .box [.srf 5], .none, .box [.srf 6], .none, .row 35 2 (v_r1805.2.1.map eS_ringref3_Req), .row 35 2 (v_r1805.2.2.map eS_ringref3_Req)] (.tup []), .c, .bd, .w (v_a1806.map eS_ringref3_Req), .c]) (ts := []) (s := [0, 70, 2, 50, 4]) (l := [5, 6, 7, 11, 12, 13]) (by kernel_rfl) (by kernel_rfl) (.cons (dt h1272) (.cons (getI_ob (f := eS_ringref3_Req) h1282) (.cons (show 0 + 2 ≤ 2 by decide) (.cons (dt h1287) (.cons (G_ringref3_Lift_1_h_ok n v_b1792 v_w1791 v_w1790 _ h1288) (.cons (app_ob (f := eS_ringref3_Req) (s := 2) h1289 (fun _ => rfl)).1 (.cons (app_ob (f := eS_ringref3_Req) (s := 2) h1289 (fun _ => rfl)).2.1 (.cons (app_ob (f := eS_ringref3_Req) (s := 2) h1289 (fun _ => rfl)).2.2.1 (.cons (app_ob (f := eS_ringref3_Req) (s := 2) h1289 (fun _ => rfl)).2.2.2 (.cons (show 0 + 1 ≤ 1 by decide) .nil)))))))))) (G_ringref3_Lift_L1_ok hF ks n v_l1634 k (wi .i64 (v_x1789 + 1)) v_a1806 v_r1805.2.1 v_r1805.1 _ h q)
      · rw [if_neg h1287] at h
        obtain ⟨v_a1807, h1290, h⟩ := bind_some h
        exact pkk_sound TTok mix hF 16 (hs := [.t true, .y (eS_ringref3_Req v_y1801), .c, .c, .t false, .c, .c, .bd, .w (v_a1807.map eS_ringref3_Req), .c]) (ts := []) (s := [0, 1, 2, 60, 4]) (l := [5, 6, 7, 11, 12, 13]) (by kernel_rfl) (by kernel_rfl) (.cons (dt h1272) (.cons (getI_ob (f := eS_ringref3_Req) h1282) (.cons (show 0 + 2 ≤ 2 by decide) (.cons (df h1287) (.cons (app_ob (f := eS_ringref3_Req) (s := 2) h1290 (fun _ => rfl)).1 (.cons (app_ob (f := eS_ringref3_Req) (s := 2) h1290 (fun _ => rfl)).2.1 (.cons (app_ob (f := eS_ringref3_Req) (s := 2) h1290 (fun _ => rfl)).2.2.1 (.cons (app_ob (f := eS_ringref3_Req) (s := 2) h1290 (fun _ => rfl)).2.2.2 (.cons (show 0 + 1 ≤ 1 by decide) .nil))))))))) (G_ringref3_Lift_L1_ok hF ks n v_l1634 k (wi .i64 (v_x1789 + 1)) v_w1790 v_a1807 v_b1792 _ h q)
    · rw [if_neg h1272] at h
      cases h
      exact pkk_sound TTok mix hF 8 (hs := [.t false]) (ts := []) (s := [0, 1, 4, 2, 3]) (l := [5, 7]) (by kernel_rfl) (by kernel_rfl) (.cons (df h1272) .nil) q
/- ringhall/ringref3.Lift -/
def G_ringref3_Lift (n : Nat) (v_l1634 : (List S_ringref3_Req)) (v_head1635 : Int) : Option ((List S_ringref3_Req)) :=
  (G_ringref3_Lift_L1 n v_l1634 n 0 ([] : List S_ringref3_Req) ([] : List S_ringref3_Req) v_head1635).bind fun v_o1811 => match v_o1811 with
  | .x0 v_z1812 v_z1813 v_z1814 =>
    (G_ringref3_Lift_1_h n v_z1813 v_z1814 v_z1812).bind fun (v_r1815 : (Int × (List S_ringref3_Req) × (List S_ringref3_Req))) =>
    some v_r1815.2.2
theorem G_ringref3_Lift_ok (n : Nat) (v_l1634 : (List S_ringref3_Req)) (v_head1635 : Int) (r : (List S_ringref3_Req)) (h : G_ringref3_Lift n v_l1634 v_head1635 = some r) : Ret Try.prog 10 [(eL eS_ringref3_Req) v_l1634, (eI .i64) v_head1635] ((eL eS_ringref3_Req) r) := by
  refine ret_run (n := 34) (fn := Try.f10) (c := bodyOf Try.f10) (by kernel_rfl) (by kernel_rfl) (by kernel_rfl) (by kernel_rfl) ?_
  have hF : KC 34 (FinR Try.prog Try.f10 ((eL eS_ringref3_Req) r)) := FinR.kc' (by kernel_rfl)
  unfold G_ringref3_Lift at h
  obtain ⟨v_o1811, h1291, h⟩ := bind_some h
  refine pkk_sound TTok mix hF 13 (hs := [.u (.d (.v (.int .i64 (v_l1634.length : Int)))), .dl 1, .tb 10 0 35 2, .tb 15 0 35 2, .n n]) (ts := []) (s := [10, 45, 15, 46, 0]) (l := [5, 6, 7, 11, 12, 13]) (by kernel_rfl) (by kernel_rfl) (.cons (len_ob (f := eS_ringref3_Req) (l := v_l1634)) .nil) (G_ringref3_Lift_L1_ok hF (.b 0 :: .s (cR (cR (cR (cR (bodyOf Try.f10))))) :: []) n v_l1634 n 0 ([] : List S_ringref3_Req) ([] : List S_ringref3_Req) v_head1635 _ h1291 ?_)
  cases v_o1811 with
  | x0 v_z1812 v_z1813 v_z1814 =>
    try dsimp only at h
    obtain ⟨v_r1815, h1292, h⟩ := bind_some h
    obtain rfl := Option.some.inj h
    exact pend_sound TTok mix 6 (hs := [.h [2, 3, 4, 0, 1] [] [.box [.d (.v (.int .i64 v_r1815.1))], .box [.srf 5], .none, .box [.srf 6], .none, .row 35 2 (v_r1815.2.1.map eS_ringref3_Req), .row 35 2 (v_r1815.2.2.map eS_ringref3_Req)] (.tup []), .c]) (by kernel_rfl) (by kernel_rfl) (by kernel_rfl) (.cons (G_ringref3_Lift_1_h_ok n v_z1813 v_z1814 v_z1812 _ h1292) .nil)
inductive G_slices_Equal_ringref3_Req_ringref3_Req_L1_R where
  | x0 (v_x1828 : Bool)
  | x1 
def G_slices_Equal_ringref3_Req_ringref3_Req_L1_ex : G_slices_Equal_ringref3_Req_ringref3_Req_L1_R → Ex
  | .x0 _ => .ret
  | .x1  => .exit 0
def G_slices_Equal_ringref3_Req_ringref3_Req_L1_st (v_s1817 : (List S_ringref3_Req)) (v_s1818 : (List S_ringref3_Req)) : G_slices_Equal_ringref3_Req_ringref3_Req_L1_R → PS
  | .x0 v_x1828 => ⟨(dd :: dd :: dd :: dd :: .d (.v (.bool v_x1828)) :: (dds 21 [])), []⟩
  | .x1  => ⟨(dds 26 []), []⟩
def G_slices_Equal_ringref3_Req_ringref3_Req_L1_hd (v_s1817 : (List S_ringref3_Req)) (v_s1818 : (List S_ringref3_Req)) (v_x1822 : Int) : PS := ⟨(.d (.sl (v_s1817.map eS_ringref3_Req)) :: .d (.sl (v_s1818.map eS_ringref3_Req)) :: (dds 10 (.d (.v (.int .i64 (v_s1817.length : Int))) :: .d (.v (.int .i64 v_x1822)) :: (dds 12 [])))), []⟩
def G_slices_Equal_ringref3_Req_ringref3_Req_L1 (n : Nat) (v_s1817 : (List S_ringref3_Req)) (v_s1818 : (List S_ringref3_Req)) : Nat → Int → Option G_slices_Equal_ringref3_Req_ringref3_Req_L1_R
  | 0, _ => none
  | k + 1, v_x1822 =>
    if v_x1822 < (v_s1817.length : Int) then
     (getI v_s1817 v_x1822).bind fun (v_y1826 : S_ringref3_Req) =>
     (getI v_s1818 v_x1822).bind fun (v_y1827 : S_ringref3_Req) =>
     if (eqRes .neq (eqS_ringref3_Req v_y1826 v_y1827)) = true then
      some (.x0 false)
     else
      G_slices_Equal_ringref3_Req_ringref3_Req_L1 n v_s1817 v_s1818 k (wi .i64 (v_x1822 + 1))
    else
     some (.x1 )
theorem G_slices_Equal_ringref3_Req_ringref3_Req_L1_ok {Fi : Ex → PS → Prop} (hF : KC 26 Fi) (ks : List Fr) (n : Nat) (v_s1817 : (List S_ringref3_Req)) (v_s1818 : (List S_ringref3_Req))  : ∀ (k : Nat) (v_x1822 : Int) (o : G_slices_Equal_ringref3_Req_ringref3_Req_L1_R), G_slices_Equal_ringref3_Req_ringref3_Req_L1 n v_s1817 v_s1818 k v_x1822 = some o → RunE Try.prog 26 Fi ks (G_slices_Equal_ringref3_Req_ringref3_Req_L1_ex o) (G_slices_Equal_ringref3_Req_ringref3_Req_L1_st v_s1817 v_s1818 o) → RunE Try.prog 26 Fi (.l k (cP (cB (cR (cL (cR (cR (bodyOf Try.f8))))))) :: ks) .normal (G_slices_Equal_ringref3_Req_ringref3_Req_L1_hd v_s1817 v_s1818 v_x1822)
  | 0, v_x1822, o, h, q => by rw [G_slices_Equal_ringref3_Req_ringref3_Req_L1] at h; cases h
  | k + 1, v_x1822, o, h, q => by
    rw [G_slices_Equal_ringref3_Req_ringref3_Req_L1] at h
    by_cases h1295 : v_x1822 < (v_s1817.length : Int)
    · rw [if_pos h1295] at h
      obtain ⟨v_y1826, h1299, h⟩ := bind_some h
      obtain ⟨v_y1827, h1300, h⟩ := bind_some h
      by_cases h1301 : (eqRes .neq (eqS_ringref3_Req v_y1826 v_y1827)) = true
      · rw [if_pos h1301] at h
        cases h
        exact pkk_sound TTok mix hF 19 (hs := [.t true, .y (eS_ringref3_Req v_y1826), .y (eS_ringref3_Req v_y1827), .q (eqS_ringref3_Req v_y1826 v_y1827), .t true]) (ts := []) (s := []) (l := [4]) (by kernel_rfl) (by kernel_rfl) (.cons (dt h1295) (.cons (getI_ob (f := eS_ringref3_Req) h1299) (.cons (getI_ob (f := eS_ringref3_Req) h1300) (.cons (eqS_ringref3_Req_ok v_y1826 v_y1827) (.cons h1301 .nil))))) q
      · rw [if_neg h1301] at h
        exact pkk_sound TTok mix hF 16 (hs := [.t true, .y (eS_ringref3_Req v_y1826), .y (eS_ringref3_Req v_y1827), .q (eqS_ringref3_Req v_y1826 v_y1827), .t false]) (ts := []) (s := []) (l := [0, 1, 12, 13]) (by kernel_rfl) (by kernel_rfl) (.cons (dt h1295) (.cons (getI_ob (f := eS_ringref3_Req) h1299) (.cons (getI_ob (f := eS_ringref3_Req) h1300) (.cons (eqS_ringref3_Req_ok v_y1826 v_y1827) (.cons (vf h1301) .nil))))) (G_slices_Equal_ringref3_Req_ringref3_Req_L1_ok hF ks n v_s1817 v_s1818 k (wi .i64 (v_x1822 + 1)) _ h q)
    · rw [if_neg h1295] at h
      cases h
      exact pkk_sound TTok mix hF 8 (hs := [.t false]) (ts := []) (s := []) (l := []) (by kernel_rfl) (by kernel_rfl) (.cons (df h1295) .nil) q
/- slices.Equal[[]ringhall/ringref3.Req,ringhall/ringref3.Req] -/
def G_slices_Equal_ringref3_Req_ringref3_Req (n : Nat) (v_s1817 : (List S_ringref3_Req)) (v_s1818 : (List S_ringref3_Req)) : Option (Bool) :=
  if (v_s1817.length : Int) = (v_s1818.length : Int) then
   (G_slices_Equal_ringref3_Req_ringref3_Req_L1 n v_s1817 v_s1818 n 0).bind fun v_o1829 => match v_o1829 with
   | .x0 v_z1830 =>
     some v_z1830
   | .x1  =>
     some true
  else
   some false
theorem G_slices_Equal_ringref3_Req_ringref3_Req_ok (n : Nat) (v_s1817 : (List S_ringref3_Req)) (v_s1818 : (List S_ringref3_Req)) (r : Bool) (h : G_slices_Equal_ringref3_Req_ringref3_Req n v_s1817 v_s1818 = some r) : Ret Try.prog 8 [(eL eS_ringref3_Req) v_s1817, (eL eS_ringref3_Req) v_s1818] (eB r) := by
  refine ret_run (n := 26) (fn := Try.f8) (c := bodyOf Try.f8) (by kernel_rfl) (by kernel_rfl) (by kernel_rfl) (by kernel_rfl) ?_
  have hF : KC 26 (FinR Try.prog Try.f8 (eB r)) := FinR.kc' (by kernel_rfl)
  unfold G_slices_Equal_ringref3_Req_ringref3_Req at h
  by_cases h1294 : (v_s1817.length : Int) = (v_s1818.length : Int)
  · rw [if_pos h1294] at h
    obtain ⟨v_o1829, h1302, h⟩ := bind_some h
    refine pkk_sound TTok mix hF 12 (hs := [.u (.d (.v (.int .i64 (v_s1817.length : Int)))), .u (.d (.v (.int .i64 (v_s1818.length : Int)))), .t false, .u (.d (.v (.int .i64 (v_s1817.length : Int)))), .n n]) (ts := []) (s := []) (l := [0, 1, 12, 13]) (by kernel_rfl) (by kernel_rfl) (.cons (len_ob (f := eS_ringref3_Req) (l := v_s1817)) (.cons (len_ob (f := eS_ringref3_Req) (l := v_s1818)) (.cons (nf h1294) (.cons (len_ob (f := eS_ringref3_Req) (l := v_s1817)) .nil)))) (G_slices_Equal_ringref3_Req_ringref3_Req_L1_ok hF (.b 0 :: .s (cR (cR (cR (bodyOf Try.f8)))) :: []) n v_s1817 v_s1818 n 0 _ h1302 ?_)
    cases v_o1829 with
    | x0 v_z1830 =>
      try dsimp only at h
      obtain rfl := Option.some.inj h
      exact pend_sound TTok mix 2 (hs := []) (by kernel_rfl) (by kernel_rfl) (by kernel_rfl) .nil
    | x1  =>
      try dsimp only at h
      obtain rfl := Option.some.inj h
      exact pend_sound TTok mix 4 (hs := []) (by kernel_rfl) (by kernel_rfl) (by kernel_rfl) .nil
  · rw [if_neg h1294] at h
    obtain rfl := Option.some.inj h
    exact pend_sound TTok mix 10 (hs := [.u (.d (.v (.int .i64 (v_s1817.length : Int)))), .u (.d (.v (.int .i64 (v_s1818.length : Int)))), .t true]) (by kernel_rfl) (by kernel_rfl) (by kernel_rfl) (.cons (len_ob (f := eS_ringref3_Req) (l := v_s1817)) (.cons (len_ob (f := eS_ringref3_Req) (l := v_s1818)) (.cons (nt h1294) .nil)))
inductive G_ringref3_Way_L1_R where
  | x0 (v_head1850 : Int) (v_n1851 : Int)
def G_ringref3_Way_L1_ex : G_ringref3_Way_L1_R → Ex
  | .x0 _ _ => .exit 2
def G_ringref3_Way_L1_st (v_l1833 : (List S_ringref3_Req)) (v_x1844 : Int) (v_y1846 : S_ringref3_Req) : G_ringref3_Way_L1_R → PS
  | .x0 v_head1850 v_n1851 => ⟨(dd :: .d (.v (.int .i64 v_head1850)) :: dd :: dd :: dd :: .d (.v (.int .i64 v_n1851)) :: dd :: dd :: .d (.sl (v_l1833.map eS_ringref3_Req)) :: .d (.v (.int .i64 (v_l1833.length : Int))) :: .d (.v (.int .i64 v_x1844)) :: (dds 19 [])), []⟩
def G_ringref3_Way_L1_hd (v_l1833 : (List S_ringref3_Req)) (v_x1844 : Int) (v_y1846 : S_ringref3_Req) (v_head1847 : Int) (v_n1848 : Int) : PS := ⟨(dd :: .d (.v (.int .i64 v_head1847)) :: dd :: dd :: dd :: .d (.v (.int .i64 v_n1848)) :: dd :: .ref 0 0 :: .d (.sl (v_l1833.map eS_ringref3_Req)) :: .d (.v (.int .i64 (v_l1833.length : Int))) :: .d (.v (.int .i64 v_x1844)) :: (dds 19 [])), [.box [.d (.v (.int .i64 v_y1846.fN)), .d (.v (.string v_y1846.fData))]]⟩
def G_ringref3_Way_L1 (n : Nat) (v_l1833 : (List S_ringref3_Req)) (v_x1844 : Int) (v_y1846 : S_ringref3_Req) : Nat → Int → Int → Option G_ringref3_Way_L1_R
  | 0, _, _ => none
  | k + 1, v_head1847, v_n1848 =>
    if v_y1846.fN ≥ 0 then
     if v_head1847 = v_y1846.fN then
      some (.x0 v_head1847 v_n1848)
     else
      G_ringref3_Way_L1 n v_l1833 v_x1844 v_y1846 k (remI (wi .i64 (v_head1847 + 1)) 256) (wi .i64 (v_n1848 + 1))
    else
     some (.x0 v_head1847 v_n1848)
theorem G_ringref3_Way_L1_ok {Fi : Ex → PS → Prop} (hF : KC 30 Fi) (ks : List Fr) (n : Nat) (v_l1833 : (List S_ringref3_Req)) (v_x1844 : Int) (v_y1846 : S_ringref3_Req)  : ∀ (k : Nat) (v_head1847 : Int) (v_n1848 : Int) (o : G_ringref3_Way_L1_R), G_ringref3_Way_L1 n v_l1833 v_x1844 v_y1846 k v_head1847 v_n1848 = some o → RunE Try.prog 30 Fi ks (G_ringref3_Way_L1_ex o) (G_ringref3_Way_L1_st v_l1833 v_x1844 v_y1846 o) → RunE Try.prog 30 Fi (.l k (cP (cB (cR (cB (cL (cR (cR (cP (cB (cR (cL (cR (cR (bodyOf Try.f11)))))))))))))) :: ks) .normal (G_ringref3_Way_L1_hd v_l1833 v_x1844 v_y1846 v_head1847 v_n1848)
  | 0, v_head1847, v_n1848, o, h, q => by rw [G_ringref3_Way_L1] at h; cases h
  | k + 1, v_head1847, v_n1848, o, h, q => by
    rw [G_ringref3_Way_L1] at h
    by_cases h1309 : v_y1846.fN ≥ 0
    · rw [if_pos h1309] at h
      by_cases h1310 : v_head1847 = v_y1846.fN
      · rw [if_pos h1310] at h
        cases h
        exact pkk_sound TTok mix hF 8 (hs := [.c, .t true, .c, .c, .c, .c, .t false]) (ts := []) (s := []) (l := [1, 5, 8, 9, 10]) (by kernel_rfl) (by kernel_rfl) (.cons (dt h1309) (.cons (nf h1310) .nil)) q
      · rw [if_neg h1310] at h
        exact pkk_sound TTok mix hF 11 (hs := [.c, .t true, .c, .c, .c, .c, .t true]) (ts := []) (s := [0]) (l := [1, 5, 7, 8, 9, 10]) (by kernel_rfl) (by kernel_rfl) (.cons (dt h1309) (.cons (nt h1310) (.cons (show (256 : Int) ≠ 0 by decide) .nil))) (G_ringref3_Way_L1_ok hF ks n v_l1833 v_x1844 v_y1846 k (remI (wi .i64 (v_head1847 + 1)) 256) (wi .i64 (v_n1848 + 1)) _ h q)
    · rw [if_neg h1309] at h
      cases h
      exact pkk_sound TTok mix hF 8 (hs := [.c, .t false, .c, .c, .c, .c]) (ts := []) (s := []) (l := [1, 5, 8, 9, 10]) (by kernel_rfl) (by kernel_rfl) (.cons (df h1309) .nil) q
inductive G_ringref3_Way_L2_R where
  | x0 (v_n1857 : Int)
def G_ringref3_Way_L2_ex : G_ringref3_Way_L2_R → Ex
  | .x0 _ => .exit 0
def G_ringref3_Way_L2_st (v_l1833 : (List S_ringref3_Req)) : G_ringref3_Way_L2_R → PS
  | .x0 v_n1857 => ⟨(dd :: dd :: dd :: dd :: dd :: .d (.v (.int .i64 v_n1857)) :: (dds 24 [])), []⟩
def G_ringref3_Way_L2_hd (v_l1833 : (List S_ringref3_Req)) (v_head1842 : Int) (v_n1843 : Int) (v_x1844 : Int) : PS := ⟨(dd :: .d (.v (.int .i64 v_head1842)) :: dd :: dd :: dd :: .d (.v (.int .i64 v_n1843)) :: dd :: dd :: .d (.sl (v_l1833.map eS_ringref3_Req)) :: .d (.v (.int .i64 (v_l1833.length : Int))) :: .d (.v (.int .i64 v_x1844)) :: (dds 19 [])), []⟩
def G_ringref3_Way_L2 (n : Nat) (v_l1833 : (List S_ringref3_Req)) : Nat → Int → Int → Int → Option G_ringref3_Way_L2_R
  | 0, _, _, _ => none
  | k + 1, v_head1842, v_n1843, v_x1844 =>
    if v_x1844 < (v_l1833.length : Int) then
     (getI v_l1833 v_x1844).bind fun (v_y1846 : S_ringref3_Req) =>
     (G_ringref3_Way_L1 n v_l1833 v_x1844 v_y1846 n v_head1842 v_n1843).bind fun v_o1854 => match v_o1854 with
     | .x0 v_z1855 v_z1856 =>
       G_ringref3_Way_L2 n v_l1833 k v_z1855 v_z1856 (wi .i64 (v_x1844 + 1))
    else
     some (.x0 v_n1843)
theorem G_ringref3_Way_L2_ok {Fi : Ex → PS → Prop} (hF : KC 30 Fi) (ks : List Fr) (n : Nat) (v_l1833 : (List S_ringref3_Req))  : ∀ (k : Nat) (v_head1842 : Int) (v_n1843 : Int) (v_x1844 : Int) (o : G_ringref3_Way_L2_R), G_ringref3_Way_L2 n v_l1833 k v_head1842 v_n1843 v_x1844 = some o → RunE Try.prog 30 Fi ks (G_ringref3_Way_L2_ex o) (G_ringref3_Way_L2_st v_l1833 o) → RunE Try.prog 30 Fi (.l k (cP (cB (cR (cL (cR (cR (bodyOf Try.f11))))))) :: ks) .normal (G_ringref3_Way_L2_hd v_l1833 v_head1842 v_n1843 v_x1844)
  | 0, v_head1842, v_n1843, v_x1844, o, h, q => by rw [G_ringref3_Way_L2] at h; cases h
  | k + 1, v_head1842, v_n1843, v_x1844, o, h, q => by
    rw [G_ringref3_Way_L2] at h
    by_cases h1306 : v_x1844 < (v_l1833.length : Int)
    · rw [if_pos h1306] at h
      obtain ⟨v_y1846, h1307, h⟩ := bind_some h
      obtain ⟨v_o1854, h1313, h⟩ := bind_some h
      refine pkk_sound TTok mix hF 12 (hs := [.t true, .y (eS_ringref3_Req v_y1846), .c, .n n]) (ts := []) (s := [15]) (l := [1, 5, 7, 8, 9, 10]) (by kernel_rfl) (by kernel_rfl) (.cons (dt h1306) (.cons (getI_ob (f := eS_ringref3_Req) h1307) (.cons (show 0 + 2 ≤ 2 by decide) .nil))) (G_ringref3_Way_L1_ok hF (.b 2 :: .b 1 :: .s (cR (cR (cR (cP (cB (cR (cL (cR (cR (bodyOf Try.f11)))))))))) :: .l k (cP (cB (cR (cL (cR (cR (bodyOf Try.f11))))))) :: ks) n v_l1833 v_x1844 v_y1846 n v_head1842 v_n1843 _ h1313 ?_)
      cases v_o1854 with
      | x0 v_z1855 v_z1856 =>
        try dsimp only at h
        exact pkk_sound TTok mix hF 3 (hs := []) (ts := []) (s := []) (l := [1, 5, 8, 9, 10]) (by kernel_rfl) (by kernel_rfl) .nil (G_ringref3_Way_L2_ok hF ks n v_l1833 k v_z1855 v_z1856 (wi .i64 (v_x1844 + 1)) _ h q)
    · rw [if_neg h1306] at h
      cases h
      exact pkk_sound TTok mix hF 8 (hs := [.t false]) (ts := []) (s := []) (l := [5]) (by kernel_rfl) (by kernel_rfl) (.cons (df h1306) .nil) q
/- ringhall/ringref3.Way -/
def G_ringref3_Way (n : Nat) (v_l1833 : (List S_ringref3_Req)) (v_head1834 : Int) : Option (Int) :=
  (G_ringref3_Way_L2 n v_l1833 n v_head1834 0 0).bind fun v_o1858 => match v_o1858 with
  | .x0 v_z1859 =>
    some v_z1859
theorem G_ringref3_Way_ok (n : Nat) (v_l1833 : (List S_ringref3_Req)) (v_head1834 : Int) (r : Int) (h : G_ringref3_Way n v_l1833 v_head1834 = some r) : Ret Try.prog 11 [(eL eS_ringref3_Req) v_l1833, (eI .i64) v_head1834] ((eI .i64) r) := by
  refine ret_run (n := 30) (fn := Try.f11) (c := bodyOf Try.f11) (by kernel_rfl) (by kernel_rfl) (by kernel_rfl) (by kernel_rfl) ?_
  have hF : KC 30 (FinR Try.prog Try.f11 ((eI .i64) r)) := FinR.kc' (by kernel_rfl)
  unfold G_ringref3_Way at h
  obtain ⟨v_o1858, h1314, h⟩ := bind_some h
  refine pkk_sound TTok mix hF 9 (hs := [.u (.d (.v (.int .i64 (v_l1833.length : Int)))), .n n]) (ts := []) (s := []) (l := [1, 5, 8, 9, 10]) (by kernel_rfl) (by kernel_rfl) (.cons (len_ob (f := eS_ringref3_Req) (l := v_l1833)) .nil) (G_ringref3_Way_L2_ok hF (.b 0 :: .s (cR (cR (cR (bodyOf Try.f11)))) :: []) n v_l1833 n v_head1834 0 0 _ h1314 ?_)
  cases v_o1858 with
  | x0 v_z1859 =>
    try dsimp only at h
    obtain rfl := Option.some.inj h
    exact pend_sound TTok mix 4 (hs := []) (by kernel_rfl) (by kernel_rfl) (by kernel_rfl) .nil
inductive G_ringlaw3_LiftOrders_C1_R where
  | x0 (v_x2518 : Bool)
def G_ringlaw3_LiftOrders_C1_ex : G_ringlaw3_LiftOrders_C1_R → Ex
  | .x0 _ => .normal
def G_ringlaw3_LiftOrders_C1_st (v_l1 : (List S_lift_Req)) (v_head2 : Int) (v_e2503 : Int) (v_x2504 : Int) (v_y2515 : S_lift_Req) : G_ringlaw3_LiftOrders_C1_R → PS
  | .x0 v_x2518 => ⟨(.d (.sl (v_l1.map eS_lift_Req)) :: .d (.v (.int .i64 v_head2)) :: dd :: dd :: dd :: .d (.v (.int .i64 v_e2503)) :: (dds 12 (.d (.sl (v_l1.map eS_lift_Req)) :: .d (.v (.int .i64 (v_l1.length : Int))) :: .d (.v (.int .i64 v_x2504)) :: (dds 29 (.d (.v (.bool v_x2518)) :: (dds 65 [])))))), []⟩
def G_ringlaw3_LiftOrders_C1_hd (v_l1 : (List S_lift_Req)) (v_head2 : Int) (v_e2503 : Int) (v_x2504 : Int) (v_y2515 : S_lift_Req)  : PS := ⟨(.d (.sl (v_l1.map eS_lift_Req)) :: .d (.v (.int .i64 v_head2)) :: dd :: dd :: dd :: .d (.v (.int .i64 v_e2503)) :: dd :: .ref 0 0 :: (dds 10 (.d (.sl (v_l1.map eS_lift_Req)) :: .d (.v (.int .i64 (v_l1.length : Int))) :: .d (.v (.int .i64 v_x2504)) :: (dds 95 [])))), [.box [.d (.v (.int .i64 v_y2515.fSector)), .d (.sl (v_y2515.fData.map (eI .u8))), .d (.v (.bool v_y2515.fBarrier))]]⟩
def G_ringlaw3_LiftOrders_C1 (n : Nat) (v_l1 : (List S_lift_Req)) (v_head2 : Int) (v_e2503 : Int) (v_x2504 : Int) (v_y2515 : S_lift_Req) : Option G_ringlaw3_LiftOrders_C1_R :=
  if v_e2503 = 0 then
   if v_y2515.fBarrier = true then
    some (.x0 false)
   else
    if v_y2515.fSector < 0 then
     some (.x0 true)
    else
     if v_y2515.fSector > 255 then
      some (.x0 true)
     else
      some (.x0 ((v_y2515.fData.length : Int) != 64))
  else
   some (.x0 false)
theorem G_ringlaw3_LiftOrders_C1_ok {Fi : Ex → PS → Prop} (hF : KC 116 Fi) (ks : List Fr) (n : Nat) (v_l1 : (List S_lift_Req)) (v_head2 : Int) (v_e2503 : Int) (v_x2504 : Int) (v_y2515 : S_lift_Req)  (o : G_ringlaw3_LiftOrders_C1_R) (h : G_ringlaw3_LiftOrders_C1 n v_l1 v_head2 v_e2503 v_x2504 v_y2515 = some o) (q : RunE Try.prog 116 Fi ks (G_ringlaw3_LiftOrders_C1_ex o) (G_ringlaw3_LiftOrders_C1_st v_l1 v_head2 v_e2503 v_x2504 v_y2515 o)) : RunE Try.prog 116 Fi (.s (cL (cR (cR (cB (cL (cR (cR (cP (cB (cR (cL (cR (cR (cR (cR (bodyOf Try.f3)))))))))))))))) :: ks) .normal (G_ringlaw3_LiftOrders_C1_hd v_l1 v_head2 v_e2503 v_x2504 v_y2515) := by
  unfold G_ringlaw3_LiftOrders_C1 at h
  by_cases h1585 : v_e2503 = 0
  · rw [if_pos h1585] at h
    by_cases h1586 : v_y2515.fBarrier = true
    · rw [if_pos h1586] at h
      cases h
      exact pkk_sound TTok mix hF 1 (hs := [.t true, .c, .c, .c, .t false, .c, .c, .c, .c, .c, .c]) (ts := []) (s := []) (l := [0, 1, 5, 18, 19, 20, 50]) (by kernel_rfl) (by kernel_rfl) (.cons (bt h1585) (.cons (bnf h1586) .nil)) q
    · rw [if_neg h1586] at h
      by_cases h1587 : v_y2515.fSector < 0
      · rw [if_pos h1587] at h
        cases h
        exact pkk_sound TTok mix hF 1 (hs := [.t true, .c, .c, .c, .t true, .c, .c, .c, .c, .t true, .c, .c, .c, .c, .c, .c, .c, .c, .c]) (ts := []) (s := []) (l := [0, 1, 5, 18, 19, 20, 50]) (by kernel_rfl) (by kernel_rfl) (.cons (bt h1585) (.cons (bnt (vf h1586)) (.cons (dt h1587) .nil))) q
      · rw [if_neg h1587] at h
        by_cases h1588 : v_y2515.fSector > 255
        · rw [if_pos h1588] at h
          cases h
          exact pkk_sound TTok mix hF 1 (hs := [.t true, .c, .c, .c, .t true, .c, .c, .c, .c, .t false, .c, .c, .c, .c, .c, .t true, .c, .c, .c, .c]) (ts := []) (s := []) (l := [0, 1, 5, 18, 19, 20, 50]) (by kernel_rfl) (by kernel_rfl) (.cons (bt h1585) (.cons (bnt (vf h1586)) (.cons (df h1587) (.cons (dt h1588) .nil)))) q
        · rw [if_neg h1588] at h
          cases h
          exact pkk_sound TTok mix hF 1 (hs := [.t true, .c, .c, .c, .t true, .c, .c, .c, .c, .t false, .c, .c, .c, .c, .c, .t false, .c, .c, .c, .u (.d (.v (.int .i64 (v_y2515.fData.length : Int)))), .c, .c]) (ts := []) (s := []) (l := [0, 1, 5, 18, 19, 20, 50]) (by kernel_rfl) (by kernel_rfl) (.cons (bt h1585) (.cons (bnt (vf h1586)) (.cons (df h1587) (.cons (df h1588) (.cons (len_ob (f := (eI .u8)) (l := v_y2515.fData)) .nil))))) q
  · rw [if_neg h1585] at h
    cases h
    exact pkk_sound TTok mix hF 1 (hs := [.t false, .c, .c, .c, .c, .c, .c, .c, .c, .c]) (ts := []) (s := []) (l := [0, 1, 5, 18, 19, 20, 50]) (by kernel_rfl) (by kernel_rfl) (.cons (bf h1585) .nil) q
inductive G_ringlaw3_LiftOrders_L2_R where
  | x0 (v_x2516 : Bool)
  | x1 (v_e2525 : Int)
def G_ringlaw3_LiftOrders_L2_ex : G_ringlaw3_LiftOrders_L2_R → Ex
  | .x0 _ => .ret
  | .x1 _ => .exit 0
def G_ringlaw3_LiftOrders_L2_st (v_l1 : (List S_lift_Req)) (v_head2 : Int) : G_ringlaw3_LiftOrders_L2_R → PS
  | .x0 v_x2516 => ⟨(dd :: dd :: dd :: dd :: .d (.v (.bool v_x2516)) :: (dds 111 [])), []⟩
  | .x1 v_e2525 => ⟨(.d (.sl (v_l1.map eS_lift_Req)) :: .d (.v (.int .i64 v_head2)) :: dd :: dd :: dd :: .d (.v (.int .i64 v_e2525)) :: (dds 110 [])), []⟩
def G_ringlaw3_LiftOrders_L2_hd (v_l1 : (List S_lift_Req)) (v_head2 : Int) (v_e2503 : Int) (v_x2504 : Int) : PS := ⟨(.d (.sl (v_l1.map eS_lift_Req)) :: .d (.v (.int .i64 v_head2)) :: dd :: dd :: dd :: .d (.v (.int .i64 v_e2503)) :: (dds 12 (.d (.sl (v_l1.map eS_lift_Req)) :: .d (.v (.int .i64 (v_l1.length : Int))) :: .d (.v (.int .i64 v_x2504)) :: (dds 95 [])))), []⟩
def G_ringlaw3_LiftOrders_L2 (n : Nat) (v_l1 : (List S_lift_Req)) (v_head2 : Int) : Nat → Int → Int → Option G_ringlaw3_LiftOrders_L2_R
  | 0, _, _ => none
  | k + 1, v_e2503, v_x2504 =>
    if v_x2504 < (v_l1.length : Int) then
     (getI v_l1 v_x2504).bind fun (v_y2515 : S_lift_Req) =>
     if (v_y2515.fData.length : Int) > 100 then
      some (.x0 true)
     else
      (G_ringlaw3_LiftOrders_C1 n v_l1 v_head2 v_e2503 v_x2504 v_y2515).bind fun v_o2523 => match v_o2523 with
      | .x0 v_z2524 =>
        if v_z2524 = true then
         G_ringlaw3_LiftOrders_L2 n v_l1 v_head2 k 1 (wi .i64 (v_x2504 + 1))
        else
         G_ringlaw3_LiftOrders_L2 n v_l1 v_head2 k v_e2503 (wi .i64 (v_x2504 + 1))
    else
     some (.x1 v_e2503)
theorem G_ringlaw3_LiftOrders_L2_ok {Fi : Ex → PS → Prop} (hF : KC 116 Fi) (ks : List Fr) (n : Nat) (v_l1 : (List S_lift_Req)) (v_head2 : Int)  : ∀ (k : Nat) (v_e2503 : Int) (v_x2504 : Int) (o : G_ringlaw3_LiftOrders_L2_R), G_ringlaw3_LiftOrders_L2 n v_l1 v_head2 k v_e2503 v_x2504 = some o → RunE Try.prog 116 Fi ks (G_ringlaw3_LiftOrders_L2_ex o) (G_ringlaw3_LiftOrders_L2_st v_l1 v_head2 o) → RunE Try.prog 116 Fi (.l k (cP (cB (cR (cL (cR (cR (cR (cR (bodyOf Try.f3))))))))) :: ks) .normal (G_ringlaw3_LiftOrders_L2_hd v_l1 v_head2 v_e2503 v_x2504)
  | 0, v_e2503, v_x2504, o, h, q => by rw [G_ringlaw3_LiftOrders_L2] at h; cases h
  | k + 1, v_e2503, v_x2504, o, h, q => by
    rw [G_ringlaw3_LiftOrders_L2] at h
    by_cases h1566 : v_x2504 < (v_l1.length : Int)
    · rw [if_pos h1566] at h
      obtain ⟨v_y2515, h1579, h⟩ := bind_some h
      by_cases h1580 : (v_y2515.fData.length : Int) > 100
      · rw [if_pos h1580] at h
        cases h
        exact pkk_sound TTok mix hF 21 (hs := [.t true, .y (eS_lift_Req v_y2515), .c, .c, .u (.d (.v (.int .i64 (v_y2515.fData.length : Int)))), .t true]) (ts := []) (s := []) (l := [4]) (by kernel_rfl) (by kernel_rfl) (.cons (dt h1566) (.cons (getI_ob (f := eS_lift_Req) h1579) (.cons (show 0 + 3 ≤ 3 by decide) (.cons (len_ob (f := (eI .u8)) (l := v_y2515.fData)) (.cons (dt h1580) .nil))))) q
      · rw [if_neg h1580] at h
        obtain ⟨v_o2523, h1589, h⟩ := bind_some h
        refine pkk_sound TTok mix hF 16 (hs := [.t true, .y (eS_lift_Req v_y2515), .c, .c, .u (.d (.v (.int .i64 (v_y2515.fData.length : Int)))), .t false]) (ts := []) (s := [15]) (l := [0, 1, 5, 7, 18, 19, 20]) (by kernel_rfl) (by kernel_rfl) (.cons (dt h1566) (.cons (getI_ob (f := eS_lift_Req) h1579) (.cons (show 0 + 3 ≤ 3 by decide) (.cons (len_ob (f := (eI .u8)) (l := v_y2515.fData)) (.cons (df h1580) .nil))))) (G_ringlaw3_LiftOrders_C1_ok hF (.s (cR (cR (cR (cB (cL (cR (cR (cP (cB (cR (cL (cR (cR (cR (cR (bodyOf Try.f3)))))))))))))))) :: .b 1 :: .s (cR (cR (cR (cP (cB (cR (cL (cR (cR (cR (cR (bodyOf Try.f3)))))))))))) :: .l k (cP (cB (cR (cL (cR (cR (cR (cR (bodyOf Try.f3))))))))) :: ks) n v_l1 v_head2 v_e2503 v_x2504 v_y2515 _ h1589 ?_)
        cases v_o2523 with
        | x0 v_z2524 =>
          try dsimp only at h
          by_cases h1590 : v_z2524 = true
          · rw [if_pos h1590] at h
            exact pkk_sound TTok mix hF 4 (hs := [.t true]) (ts := []) (s := []) (l := [0, 1, 5, 18, 19, 20]) (by kernel_rfl) (by kernel_rfl) (.cons h1590 .nil) (G_ringlaw3_LiftOrders_L2_ok hF ks n v_l1 v_head2 k 1 (wi .i64 (v_x2504 + 1)) _ h q)
          · rw [if_neg h1590] at h
            exact pkk_sound TTok mix hF 4 (hs := [.t false]) (ts := []) (s := []) (l := [0, 1, 5, 18, 19, 20]) (by kernel_rfl) (by kernel_rfl) (.cons (vf h1590) .nil) (G_ringlaw3_LiftOrders_L2_ok hF ks n v_l1 v_head2 k v_e2503 (wi .i64 (v_x2504 + 1)) _ h q)
    · rw [if_neg h1566] at h
      cases h
      exact pkk_sound TTok mix hF 8 (hs := [.t false]) (ts := []) (s := []) (l := [0, 1, 5]) (by kernel_rfl) (by kernel_rfl) (.cons (df h1566) .nil) q
inductive G_ringlaw3_LiftOrders_C3_R where
  | x0 (v_x2592 : Bool)
def G_ringlaw3_LiftOrders_C3_ex : G_ringlaw3_LiftOrders_C3_R → Ex
  | .x0 _ => .normal
def G_ringlaw3_LiftOrders_C3_st (v_e2543 : Int) (v_r2545 : ((List S_lift_Req) × Int)) (v_r2552 : (Int × Int)) : G_ringlaw3_LiftOrders_C3_R → PS
  | .x0 v_x2592 => ⟨(dd :: dd :: dd :: dd :: .d (.v (.bool v_x2592)) :: (dds 111 [])), []⟩
def G_ringlaw3_LiftOrders_C3_hd (v_e2543 : Int) (v_r2545 : ((List S_lift_Req) × Int)) (v_r2552 : (Int × Int))  : PS := ⟨(dd :: dd :: dd :: dd :: dd :: .d (.v (.int .i64 v_e2543)) :: dd :: dd :: .d (.sl (v_r2545.1.map eS_lift_Req)) :: .d (.v (.int .i64 v_r2545.2)) :: .d (.v (.int .i64 v_r2552.1)) :: .d (.v (.int .i64 v_r2552.2)) :: (dds 104 [])), []⟩
def G_ringlaw3_LiftOrders_C3 (n : Nat) (v_e2543 : Int) (v_r2545 : ((List S_lift_Req) × Int)) (v_r2552 : (Int × Int)) : Option G_ringlaw3_LiftOrders_C3_R :=
  if v_r2545.2 = v_e2543 then
   if v_r2552.2 = v_e2543 then
    if (v_r2545.1.length : Int) = 0 then
     some (.x0 (v_r2552.1 == 0))
    else
     some (.x0 false)
   else
    some (.x0 false)
  else
   some (.x0 false)
theorem G_ringlaw3_LiftOrders_C3_ok {Fi : Ex → PS → Prop} (hF : KC 116 Fi) (ks : List Fr) (n : Nat) (v_e2543 : Int) (v_r2545 : ((List S_lift_Req) × Int)) (v_r2552 : (Int × Int))  (o : G_ringlaw3_LiftOrders_C3_R) (h : G_ringlaw3_LiftOrders_C3 n v_e2543 v_r2545 v_r2552 = some o) (q : RunE Try.prog 116 Fi ks (G_ringlaw3_LiftOrders_C3_ex o) (G_ringlaw3_LiftOrders_C3_st v_e2543 v_r2545 v_r2552 o)) : RunE Try.prog 116 Fi (.s (cL (cT (cR (cL (cR (cR (cR (cR (cR (cR (cR (cR (cR (bodyOf Try.f3)))))))))))))) :: ks) .normal (G_ringlaw3_LiftOrders_C3_hd v_e2543 v_r2545 v_r2552) := by
  unfold G_ringlaw3_LiftOrders_C3 at h
  by_cases h1609 : v_r2545.2 = v_e2543
  · rw [if_pos h1609] at h
    by_cases h1610 : v_r2552.2 = v_e2543
    · rw [if_pos h1610] at h
      by_cases h1611 : (v_r2545.1.length : Int) = 0
      · rw [if_pos h1611] at h
        cases h
        exact pkk_sound TTok mix hF 1 (hs := [.t true, .c, .c, .t true, .c, .u (.d (.v (.int .i64 (v_r2545.1.length : Int)))), .c, .t true, .c]) (ts := []) (s := []) (l := [4]) (by kernel_rfl) (by kernel_rfl) (.cons (bt h1609) (.cons (bt h1610) (.cons (len_ob (f := eS_lift_Req) (l := v_r2545.1)) (.cons (bt h1611) .nil)))) q
      · rw [if_neg h1611] at h
        cases h
        exact pkk_sound TTok mix hF 1 (hs := [.t true, .c, .c, .t true, .c, .u (.d (.v (.int .i64 (v_r2545.1.length : Int)))), .c, .t false, .c]) (ts := []) (s := []) (l := [4]) (by kernel_rfl) (by kernel_rfl) (.cons (bt h1609) (.cons (bt h1610) (.cons (len_ob (f := eS_lift_Req) (l := v_r2545.1)) (.cons (bf h1611) .nil)))) q
    · rw [if_neg h1610] at h
      cases h
      exact pkk_sound TTok mix hF 1 (hs := [.t true, .c, .c, .t false, .c, .c, .c, .c]) (ts := []) (s := []) (l := [4]) (by kernel_rfl) (by kernel_rfl) (.cons (bt h1609) (.cons (bf h1610) .nil)) q
  · rw [if_neg h1609] at h
    cases h
    exact pkk_sound TTok mix hF 1 (hs := [.t false, .c, .c, .c, .c, .c, .c, .c]) (ts := []) (s := []) (l := [4]) (by kernel_rfl) (by kernel_rfl) (.cons (bf h1609) .nil) q
inductive G_ringlaw3_LiftOrders_C4_R where
  | x0 (v_x2624 : Bool)
def G_ringlaw3_LiftOrders_C4_ex : G_ringlaw3_LiftOrders_C4_R → Ex
  | .x0 _ => .normal
def G_ringlaw3_LiftOrders_C4_st (v_l1 : (List S_lift_Req)) (v_head2 : Int) (v_r2545 : ((List S_lift_Req) × Int)) (v_r2552 : (Int × Int)) : G_ringlaw3_LiftOrders_C4_R → PS
  | .x0 v_x2624 => ⟨(dd :: dd :: dd :: dd :: .d (.v (.bool v_x2624)) :: (dds 111 [])), []⟩
def G_ringlaw3_LiftOrders_C4_hd (v_l1 : (List S_lift_Req)) (v_head2 : Int) (v_r2545 : ((List S_lift_Req) × Int)) (v_r2552 : (Int × Int))  : PS := ⟨(.d (.sl (v_l1.map eS_lift_Req)) :: .d (.v (.int .i64 v_head2)) :: dd :: dd :: dd :: dd :: dd :: dd :: .d (.sl (v_r2545.1.map eS_lift_Req)) :: .d (.v (.int .i64 v_r2545.2)) :: .d (.v (.int .i64 v_r2552.1)) :: .d (.v (.int .i64 v_r2552.2)) :: (dds 104 [])), []⟩
def G_ringlaw3_LiftOrders_C4 (n : Nat) (v_l1 : (List S_lift_Req)) (v_head2 : Int) (v_r2545 : ((List S_lift_Req) × Int)) (v_r2552 : (Int × Int)) : Option G_ringlaw3_LiftOrders_C4_R :=
  if v_r2545.2 = 0 then
   if v_r2552.2 = 0 then
    (G_ringlaw3_requests n v_r2545.1).bind fun (v_r2618 : ((List S_ringref3_Req))) =>
    (G_ringlaw3_requests n v_l1).bind fun (v_r2619 : ((List S_ringref3_Req))) =>
    (G_ringref3_Lift n v_r2619 v_head2).bind fun (v_r2620 : ((List S_ringref3_Req))) =>
    (G_slices_Equal_ringref3_Req_ringref3_Req n v_r2618 v_r2620).bind fun (v_r2621 : (Bool)) =>
    if v_r2621 = true then
     (G_ringlaw3_requests n v_l1).bind fun (v_r2622 : ((List S_ringref3_Req))) =>
     (G_ringref3_Way n v_r2622 v_head2).bind fun (v_r2623 : (Int)) =>
     some (.x0 (v_r2552.1 == v_r2623))
    else
     some (.x0 false)
   else
    some (.x0 false)
  else
   some (.x0 false)
theorem G_ringlaw3_LiftOrders_C4_ok {Fi : Ex → PS → Prop} (hF : KC 116 Fi) (ks : List Fr) (n : Nat) (v_l1 : (List S_lift_Req)) (v_head2 : Int) (v_r2545 : ((List S_lift_Req) × Int)) (v_r2552 : (Int × Int))  (o : G_ringlaw3_LiftOrders_C4_R) (h : G_ringlaw3_LiftOrders_C4 n v_l1 v_head2 v_r2545 v_r2552 = some o) (q : RunE Try.prog 116 Fi ks (G_ringlaw3_LiftOrders_C4_ex o) (G_ringlaw3_LiftOrders_C4_st v_l1 v_head2 v_r2545 v_r2552 o)) : RunE Try.prog 116 Fi (.s (cL (cR (cR (cR (cR (cR (cR (cR (cR (cR (cR (bodyOf Try.f3)))))))))))) :: ks) .normal (G_ringlaw3_LiftOrders_C4_hd v_l1 v_head2 v_r2545 v_r2552) := by
  unfold G_ringlaw3_LiftOrders_C4 at h
  by_cases h1622 : v_r2545.2 = 0
  · rw [if_pos h1622] at h
    by_cases h1623 : v_r2552.2 = 0
    · rw [if_pos h1623] at h
      obtain ⟨v_r2618, h1624, h⟩ := bind_some h
      obtain ⟨v_r2619, h1625, h⟩ := bind_some h
      obtain ⟨v_r2620, h1626, h⟩ := bind_some h
      obtain ⟨v_r2621, h1627, h⟩ := bind_some h
      by_cases h1628 : v_r2621 = true
      · rw [if_pos h1628] at h
        obtain ⟨v_r2622, h1629, h⟩ := bind_some h
        obtain ⟨v_r2623, h1630, h⟩ := bind_some h
        cases h
        exact pkk_sound TTok mix hF 1 (hs := [.t true, .c, .t true, .c, .r ((eL eS_ringref3_Req) v_r2618), .c, .c, .r ((eL eS_ringref3_Req) v_r2619), .c, .c, .r ((eL eS_ringref3_Req) v_r2620), .c, .r (eB v_r2621), .t true, .c, .c, .r ((eL eS_ringref3_Req) v_r2622), .c, .c, .r ((eI .i64) v_r2623), .c]) (ts := []) (s := []) (l := [4]) (by kernel_rfl) (by kernel_rfl) (.cons (bt h1622) (.cons (bt h1623) (.cons (G_ringlaw3_requests_ok n v_r2545.1 _ h1624) (.cons (G_ringlaw3_requests_ok n v_l1 _ h1625) (.cons (G_ringref3_Lift_ok n v_r2619 v_head2 _ h1626) (.cons (G_slices_Equal_ringref3_Req_ringref3_Req_ok n v_r2618 v_r2620 _ h1627) (.cons h1628 (.cons (G_ringlaw3_requests_ok n v_l1 _ h1629) (.cons (G_ringref3_Way_ok n v_r2622 v_head2 _ h1630) .nil))))))))) q
      · rw [if_neg h1628] at h
        cases h
        exact pkk_sound TTok mix hF 1 (hs := [.t true, .c, .t true, .c, .r ((eL eS_ringref3_Req) v_r2618), .c, .c, .r ((eL eS_ringref3_Req) v_r2619), .c, .c, .r ((eL eS_ringref3_Req) v_r2620), .c, .r (eB v_r2621), .t false, .c, .c, .c, .c, .c]) (ts := []) (s := []) (l := [4]) (by kernel_rfl) (by kernel_rfl) (.cons (bt h1622) (.cons (bt h1623) (.cons (G_ringlaw3_requests_ok n v_r2545.1 _ h1624) (.cons (G_ringlaw3_requests_ok n v_l1 _ h1625) (.cons (G_ringref3_Lift_ok n v_r2619 v_head2 _ h1626) (.cons (G_slices_Equal_ringref3_Req_ringref3_Req_ok n v_r2618 v_r2620 _ h1627) (.cons (vf h1628) .nil))))))) q
    · rw [if_neg h1623] at h
      cases h
      exact pkk_sound TTok mix hF 1 (hs := [.t true, .c, .t false, .c, .c, .c, .c, .c, .c, .c, .c, .c, .c, .c, .c]) (ts := []) (s := []) (l := [4]) (by kernel_rfl) (by kernel_rfl) (.cons (bt h1622) (.cons (bf h1623) .nil)) q
  · rw [if_neg h1622] at h
    cases h
    exact pkk_sound TTok mix hF 1 (hs := [.t false, .c, .c, .c, .c, .c, .c, .c, .c, .c, .c, .c, .c, .c, .c]) (ts := []) (s := []) (l := [4]) (by kernel_rfl) (by kernel_rfl) (.cons (bf h1622) .nil) q
def G_ringlaw3_LiftOrders_J1 (n : Nat) (v_l1 : (List S_lift_Req)) (v_head2 : Int) (v_e2543 : Int) : Option (Bool) :=
  (G_lift_Order n v_l1 v_head2).bind fun (v_r2545 : ((List S_lift_Req) × Int)) =>
  (G_lift_Way n v_l1 v_head2).bind fun (v_r2552 : (Int × Int)) =>
  if v_e2543 = 0 then
   (G_ringlaw3_LiftOrders_C4 n v_l1 v_head2 v_r2545 v_r2552).bind fun v_o2628 => match v_o2628 with
   | .x0 v_z2629 =>
     some v_z2629
  else
   (G_ringlaw3_LiftOrders_C3 n v_e2543 v_r2545 v_r2552).bind fun v_o2596 => match v_o2596 with
   | .x0 v_z2597 =>
     some v_z2597
theorem G_ringlaw3_LiftOrders_J1_ok (n : Nat) (v_l1 : (List S_lift_Req)) (v_head2 : Int)  (v_e2543 : Int) (r : Bool) (h : G_ringlaw3_LiftOrders_J1 n v_l1 v_head2 v_e2543 = some r) : RunE Try.prog 116 (FinR Try.prog Try.f3 (eB r)) (.s (cR (cR (cR (cR (cR (cR (cR (bodyOf Try.f3)))))))) :: []) .normal ⟨(.d (.sl (v_l1.map eS_lift_Req)) :: .d (.v (.int .i64 v_head2)) :: dd :: dd :: dd :: .d (.v (.int .i64 v_e2543)) :: (dds 110 [])), []⟩ := by
  have hF : KC 116 (FinR Try.prog Try.f3 (eB r)) := FinR.kc' (by kernel_rfl)
  unfold G_ringlaw3_LiftOrders_J1 at h
  obtain ⟨v_r2545, h1595, h⟩ := bind_some h
  obtain ⟨v_r2552, h1596, h⟩ := bind_some h
  by_cases h1605 : v_e2543 = 0
  · rw [if_pos h1605] at h
    obtain ⟨v_o2628, h1631, h⟩ := bind_some h
    refine pkk_sound TTok mix hF 10 (hs := [.r (.tup [(eL eS_lift_Req) v_r2545.1, (eI .i64) v_r2545.2]), .r (.tup [(eI .i64) v_r2552.1, (eI .i64) v_r2552.2]), .t false]) (ts := []) (s := []) (l := [0, 1, 8, 9, 10, 11]) (by kernel_rfl) (by kernel_rfl) (.cons (G_lift_Order_ok n v_l1 v_head2 _ h1595) (.cons (G_lift_Way_ok n v_l1 v_head2 _ h1596) (.cons (nf h1605) .nil))) (G_ringlaw3_LiftOrders_C4_ok hF (.s (cR (cR (cR (cR (cR (cR (cR (cR (cR (cR (cR (bodyOf Try.f3)))))))))))) :: []) n v_l1 v_head2 v_r2545 v_r2552 _ h1631 ?_)
    cases v_o2628 with
    | x0 v_z2629 =>
      try dsimp only at h
      obtain rfl := Option.some.inj h
      exact pend_sound TTok mix 1 (hs := []) (by kernel_rfl) (by kernel_rfl) (by kernel_rfl) .nil
  · rw [if_neg h1605] at h
    obtain ⟨v_o2596, h1612, h⟩ := bind_some h
    refine pkk_sound TTok mix hF 9 (hs := [.r (.tup [(eL eS_lift_Req) v_r2545.1, (eI .i64) v_r2545.2]), .r (.tup [(eI .i64) v_r2552.1, (eI .i64) v_r2552.2]), .t true]) (ts := []) (s := []) (l := [5, 8, 9, 10, 11]) (by kernel_rfl) (by kernel_rfl) (.cons (G_lift_Order_ok n v_l1 v_head2 _ h1595) (.cons (G_lift_Way_ok n v_l1 v_head2 _ h1596) (.cons (nt h1605) .nil))) (G_ringlaw3_LiftOrders_C3_ok hF (.s (cR (cT (cR (cL (cR (cR (cR (cR (cR (cR (cR (cR (cR (bodyOf Try.f3)))))))))))))) :: .s (cR (cR (cR (cR (cR (cR (cR (cR (cR (cR (bodyOf Try.f3))))))))))) :: []) n v_e2543 v_r2545 v_r2552 _ h1612 ?_)
    cases v_o2596 with
    | x0 v_z2597 =>
      try dsimp only at h
      obtain rfl := Option.some.inj h
      exact pend_sound TTok mix 2 (hs := []) (by kernel_rfl) (by kernel_rfl) (by kernel_rfl) .nil
def G_ringlaw3_LiftOrders_J2 (n : Nat) (v_l1 : (List S_lift_Req)) (v_head2 : Int)  : Option (Bool) :=
  G_ringlaw3_LiftOrders_J1 n v_l1 v_head2 1
theorem G_ringlaw3_LiftOrders_J2_ok (n : Nat) (v_l1 : (List S_lift_Req)) (v_head2 : Int)   (r : Bool) (h : G_ringlaw3_LiftOrders_J2 n v_l1 v_head2  = some r) : RunE Try.prog 116 (FinR Try.prog Try.f3 (eB r)) (.s (cT (cR (cL (cR (cR (cR (cR (cR (cR (bodyOf Try.f3)))))))))) :: .s (cR (cR (cR (cR (cR (cR (cR (bodyOf Try.f3)))))))) :: []) .normal ⟨(.d (.sl (v_l1.map eS_lift_Req)) :: .d (.v (.int .i64 v_head2)) :: (dds 114 [])), []⟩ := by
  have hF : KC 116 (FinR Try.prog Try.f3 (eB r)) := FinR.kc' (by kernel_rfl)
  unfold G_ringlaw3_LiftOrders_J2 at h
  exact pkk_sound TTok mix hF 1 (hs := []) (ts := []) (s := []) (l := [0, 1, 5]) (by kernel_rfl) (by kernel_rfl) .nil (G_ringlaw3_LiftOrders_J1_ok n v_l1 v_head2 1 _ h)
def G_ringlaw3_LiftOrders_J3 (n : Nat) (v_l1 : (List S_lift_Req)) (v_head2 : Int) (v_e2496 : Int) : Option (Bool) :=
  (G_ringlaw3_LiftOrders_L2 n v_l1 v_head2 n v_e2496 0).bind fun v_o2526 => match v_o2526 with
  | .x0 v_z2527 =>
    some v_z2527
  | .x1 v_z2528 =>
    (G_lift_Right n v_l1).bind fun (v_r2532 : (Int)) =>
    if v_r2532 = v_z2528 then
     if v_head2 < 0 then
      G_ringlaw3_LiftOrders_J2 n v_l1 v_head2 
     else
      if v_head2 > 255 then
       G_ringlaw3_LiftOrders_J2 n v_l1 v_head2 
      else
       G_ringlaw3_LiftOrders_J1 n v_l1 v_head2 v_z2528
    else
     some false
theorem G_ringlaw3_LiftOrders_J3_ok (n : Nat) (v_l1 : (List S_lift_Req)) (v_head2 : Int)  (v_e2496 : Int) (r : Bool) (h : G_ringlaw3_LiftOrders_J3 n v_l1 v_head2 v_e2496 = some r) : RunE Try.prog 116 (FinR Try.prog Try.f3 (eB r)) (.s (cR (cR (cR (cR (bodyOf Try.f3))))) :: []) .normal ⟨(.d (.sl (v_l1.map eS_lift_Req)) :: .d (.v (.int .i64 v_head2)) :: dd :: dd :: dd :: .d (.v (.int .i64 v_e2496)) :: (dds 110 [])), []⟩ := by
  have hF : KC 116 (FinR Try.prog Try.f3 (eB r)) := FinR.kc' (by kernel_rfl)
  unfold G_ringlaw3_LiftOrders_J3 at h
  obtain ⟨v_o2526, h1591, h⟩ := bind_some h
  refine pkk_sound TTok mix hF 5 (hs := [.u (.d (.v (.int .i64 (v_l1.length : Int)))), .n n]) (ts := []) (s := []) (l := [0, 1, 5, 18, 19, 20]) (by kernel_rfl) (by kernel_rfl) (.cons (len_ob (f := eS_lift_Req) (l := v_l1)) .nil) (G_ringlaw3_LiftOrders_L2_ok hF (.b 0 :: .s (cR (cR (cR (cR (cR (bodyOf Try.f3)))))) :: []) n v_l1 v_head2 n v_e2496 0 _ h1591 ?_)
  cases v_o2526 with
  | x0 v_z2527 =>
    try dsimp only at h
    obtain rfl := Option.some.inj h
    exact pend_sound TTok mix 2 (hs := []) (by kernel_rfl) (by kernel_rfl) (by kernel_rfl) .nil
  | x1 v_z2528 =>
    try dsimp only at h
    obtain ⟨v_r2532, h1592, h⟩ := bind_some h
    by_cases h1593 : v_r2532 = v_z2528
    · rw [if_pos h1593] at h
      by_cases h1594 : v_head2 < 0
      · rw [if_pos h1594] at h
        exact pkk_sound TTok mix hF 10 (hs := [.r ((eI .i64) v_r2532), .t false, .t true, .c, .c]) (ts := []) (s := []) (l := [0, 1]) (by kernel_rfl) (by kernel_rfl) (.cons (G_lift_Right_ok n v_l1 _ h1592) (.cons (nf h1593) (.cons (dt h1594) .nil))) (G_ringlaw3_LiftOrders_J2_ok n v_l1 v_head2  _ h)
      · rw [if_neg h1594] at h
        by_cases h1632 : v_head2 > 255
        · rw [if_pos h1632] at h
          exact pkk_sound TTok mix hF 10 (hs := [.r ((eI .i64) v_r2532), .t false, .t false, .c, .t true]) (ts := []) (s := []) (l := [0, 1]) (by kernel_rfl) (by kernel_rfl) (.cons (G_lift_Right_ok n v_l1 _ h1592) (.cons (nf h1593) (.cons (df h1594) (.cons (dt h1632) .nil)))) (G_ringlaw3_LiftOrders_J2_ok n v_l1 v_head2  _ h)
        · rw [if_neg h1632] at h
          exact pkk_sound TTok mix hF 11 (hs := [.r ((eI .i64) v_r2532), .t false, .t false, .c, .t false]) (ts := []) (s := []) (l := [0, 1, 5]) (by kernel_rfl) (by kernel_rfl) (.cons (G_lift_Right_ok n v_l1 _ h1592) (.cons (nf h1593) (.cons (df h1594) (.cons (df h1632) .nil)))) (G_ringlaw3_LiftOrders_J1_ok n v_l1 v_head2 v_z2528 _ h)
    · rw [if_neg h1593] at h
      obtain rfl := Option.some.inj h
      exact pend_sound TTok mix 9 (hs := [.r ((eI .i64) v_r2532), .t true]) (by kernel_rfl) (by kernel_rfl) (by kernel_rfl) (.cons (G_lift_Right_ok n v_l1 _ h1592) (.cons (nt h1593) .nil))
/- ringhall/ringlaw3.LiftOrders -/
def G_ringlaw3_LiftOrders (n : Nat) (v_l1 : (List S_lift_Req)) (v_head2 : Int) : Option (Bool) :=
  if (v_l1.length : Int) > 120 then
   some true
  else
   if (v_l1.length : Int) > 100 then
    G_ringlaw3_LiftOrders_J3 n v_l1 v_head2 2
   else
    G_ringlaw3_LiftOrders_J3 n v_l1 v_head2 0
theorem G_ringlaw3_LiftOrders_ok (n : Nat) (v_l1 : (List S_lift_Req)) (v_head2 : Int) (r : Bool) (h : G_ringlaw3_LiftOrders n v_l1 v_head2 = some r) : Ret Try.prog 3 [(eL eS_lift_Req) v_l1, (eI .i64) v_head2] (eB r) := by
  refine ret_run (n := 116) (fn := Try.f3) (c := bodyOf Try.f3) (by kernel_rfl) (by kernel_rfl) (by kernel_rfl) (by kernel_rfl) ?_
  have hF : KC 116 (FinR Try.prog Try.f3 (eB r)) := FinR.kc' (by kernel_rfl)
  unfold G_ringlaw3_LiftOrders at h
  by_cases h1564 : (v_l1.length : Int) > 120
  · rw [if_pos h1564] at h
    obtain rfl := Option.some.inj h
    exact pend_sound TTok mix 10 (hs := [.u (.d (.v (.int .i64 (v_l1.length : Int)))), .t true]) (by kernel_rfl) (by kernel_rfl) (by kernel_rfl) (.cons (len_ob (f := eS_lift_Req) (l := v_l1)) (.cons (dt h1564) .nil))
  · rw [if_neg h1564] at h
    by_cases h1565 : (v_l1.length : Int) > 100
    · rw [if_pos h1565] at h
      exact pkk_sound TTok mix hF 14 (hs := [.u (.d (.v (.int .i64 (v_l1.length : Int)))), .t false, .u (.d (.v (.int .i64 (v_l1.length : Int)))), .t true]) (ts := []) (s := []) (l := [0, 1, 5]) (by kernel_rfl) (by kernel_rfl) (.cons (len_ob (f := eS_lift_Req) (l := v_l1)) (.cons (df h1564) (.cons (len_ob (f := eS_lift_Req) (l := v_l1)) (.cons (dt h1565) .nil)))) (G_ringlaw3_LiftOrders_J3_ok n v_l1 v_head2 2 _ h)
    · rw [if_neg h1565] at h
      exact pkk_sound TTok mix hF 14 (hs := [.u (.d (.v (.int .i64 (v_l1.length : Int)))), .t false, .u (.d (.v (.int .i64 (v_l1.length : Int)))), .t false]) (ts := []) (s := []) (l := [0, 1, 5]) (by kernel_rfl) (by kernel_rfl) (.cons (len_ob (f := eS_lift_Req) (l := v_l1)) (.cons (df h1564) (.cons (len_ob (f := eS_lift_Req) (l := v_l1)) (.cons (df h1565) .nil)))) (G_ringlaw3_LiftOrders_J3_ok n v_l1 v_head2 0 _ h)
def okS_lift_Req (x : S_lift_Req) : Prop := (fun a => (Lit.int .i64 a).wf = true) x.fSector ∧ (okL 1 (fun a => (Lit.int .u8 a).wf = true)) x.fData ∧ (fun _ => True) x.fBarrier ∧ True
theorem brS_lift_Req : Br (.pair (.int .i64) (.pair (.slice 1 (.int .u8)) (.pair .bool .unit))) (fun x : S_lift_Req => [.v (.int .i64 x.fSector), .sl (x.fData.map (eI .u8)), .v (.bool x.fBarrier)]) okS_lift_Req := br_map (br_pair (br_int .i64) (br_pair (br_slice (f := (eI .u8)) (ok := (fun a => (Lit.int .u8 a).wf = true)) (br_int .u8) (fun _ => rfl) (by decide)) (br_pair br_bool br_unit))) (fun p => S_lift_Req.mk p.1 p.2.1 p.2.2.1) (fun p h => ⟨rfl, h⟩)
theorem LiftOrders_walk (H : ∀ (a0 : (List S_lift_Req)) (a1 : Int), (okL 40 okS_lift_Req) a0 → (fun a => (Lit.int .i64 a).wf = true) a1 → ∃ n, G_ringlaw3_LiftOrders n a0 a1 = some true) (w : World) (v0 : Value) (v1 : Value) (h0 : rep.Arg w (.slice 40 (.pair (.int .i64) (.pair (.slice 1 (.int .u8)) (.pair .bool .unit)))) v0) (h1 : rep.Arg w (.int .i64) v1) : Calls Try.prog 3 #[v0, v1] w (help.Ret (.bool true) w) := by
  obtain ⟨a0, o0, r0⟩ := arg_one (br_slice (f := eS_lift_Req) (ok := okS_lift_Req) brS_lift_Req (fun _ => rfl) (by decide)) (by rfl) h0
  obtain ⟨a1, o1, r1⟩ := arg_one (br_int .i64) (by rfl) h1
  obtain ⟨n, hn⟩ := H a0 a1 o0 o1
  exact walk_of (G_ringlaw3_LiftOrders_ok n a0 a1 true hn) (RT_cons r0 (RT_cons r1 RT_nil))
/- FRAME LiftOrders; ringhall/ringlaw3.LiftOrders; (.slice 40 (.pair (.int .i64) (.pair (.slice 1 (.int .u8)) (.pair .bool .unit)))) | (.int .i64); .slice none 0 0 | .int .i64 0 -/
end Go.Proofs.Ytdimcmpkhbfcnaa.pv
