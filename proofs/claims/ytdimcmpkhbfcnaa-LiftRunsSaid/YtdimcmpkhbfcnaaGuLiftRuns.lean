/- What the functions compute (part 2): written by gen.py. -/
import Derived.Test.YtdimcmpkhbfcnaaGuLiftRunsP1
set_option maxRecDepth 100000
set_option linter.all false
namespace Go.Proofs.Ytdimcmpkhbfcnaa.pv
open Go.RowKit
def G_slices_pdqsortCmpFunc_lift_Req_h_C3_ex : G_slices_pdqsortCmpFunc_lift_Req_h_C3_R → Ex
  | .x0 _ => .ret
  | .x1 _ => .normal
def G_slices_pdqsortCmpFunc_lift_Req_h_C3_st (v_a347 : Int) (v_b348 : Int) (v_z977 : Int) (v_cmp346 : (S_lift_Req → S_lift_Req → Option (Int))) (v_wasBalanced350 : Bool) (v_wasPartitioned351 : Bool) (v_z990 : Int) (v_z991 : Int) (v_z992 : (List S_lift_Req)) (v_cmp346_g : FuncId) (v_cmp346_c : (List PV)) : G_slices_pdqsortCmpFunc_lift_Req_h_C3_R → PS
  | .x0 v_w996 => ⟨(dds 148 []), [.gh 0 (.srf 1), .row 26 3 (v_w996.map eS_lift_Req)]⟩
  | .x1 v_w997 => ⟨(.srf 1 :: .d (.v (.int .i64 v_a347)) :: .d (.v (.int .i64 v_b348)) :: .d (.v (.int .i64 v_z977)) :: .d (.clo v_cmp346_g v_cmp346_c) :: dd :: dd :: dd :: dd :: dd :: .d (.v (.bool v_wasBalanced350)) :: .d (.v (.bool v_wasPartitioned351)) :: .d (.v (.int .i64 (wi .i64 (v_b348 - v_a347)))) :: .d (.v (.int .i64 v_z990)) :: (dds 134 [])), [.gh 0 (.srf 1), .row 26 3 (v_w997.map eS_lift_Req)]⟩
def G_slices_pdqsortCmpFunc_lift_Req_h_C3_hd (v_a347 : Int) (v_b348 : Int) (v_z977 : Int) (v_cmp346 : (S_lift_Req → S_lift_Req → Option (Int))) (v_wasBalanced350 : Bool) (v_wasPartitioned351 : Bool) (v_z990 : Int) (v_z991 : Int) (v_z992 : (List S_lift_Req)) (v_cmp346_g : FuncId) (v_cmp346_c : (List PV))  : PS := ⟨(.srf 1 :: .d (.v (.int .i64 v_a347)) :: .d (.v (.int .i64 v_b348)) :: .d (.v (.int .i64 v_z977)) :: .d (.clo v_cmp346_g v_cmp346_c) :: dd :: dd :: dd :: dd :: dd :: .d (.v (.bool v_wasBalanced350)) :: .d (.v (.bool v_wasPartitioned351)) :: .d (.v (.int .i64 (wi .i64 (v_b348 - v_a347)))) :: .d (.v (.int .i64 v_z990)) :: (dds 61 (.d (.v (.bool (v_z991 == 1))) :: (dds 72 [])))), [.gh 0 (.srf 1), .row 26 3 (v_z992.map eS_lift_Req)]⟩
def G_slices_pdqsortCmpFunc_lift_Req_h_C3 (n : Nat) (v_a347 : Int) (v_b348 : Int) (v_z977 : Int) (v_cmp346 : (S_lift_Req → S_lift_Req → Option (Int))) (v_wasBalanced350 : Bool) (v_wasPartitioned351 : Bool) (v_z990 : Int) (v_z991 : Int) (v_z992 : (List S_lift_Req)) : Option G_slices_pdqsortCmpFunc_lift_Req_h_C3_R :=
  if v_z991 = 1 then
   (G_slices_partialInsertionSortCmpFunc_lift_Req_h n v_z992 v_a347 v_b348 v_cmp346).bind fun (v_r995 : (Bool × (List S_lift_Req))) =>
   if v_r995.1 = true then
    some (.x0 v_r995.2)
   else
    some (.x1 v_r995.2)
  else
   some (.x1 v_z992)
theorem G_slices_pdqsortCmpFunc_lift_Req_h_C3_ok {Fi : Ex → PS → Prop} (hF : KC 148 Fi) (ks : List Fr) (n : Nat) (v_a347 : Int) (v_b348 : Int) (v_z977 : Int) (v_cmp346 : (S_lift_Req → S_lift_Req → Option (Int))) (v_wasBalanced350 : Bool) (v_wasPartitioned351 : Bool) (v_z990 : Int) (v_z991 : Int) (v_z992 : (List S_lift_Req)) (v_cmp346_g : FuncId) (v_cmp346_c : (List PV)) (v_cmp346_h : ∀ (x0 : S_lift_Req) (x1 : S_lift_Req) (r : Int), v_cmp346 x0 x1 = some r → Ret Try.prog v_cmp346_g ([eS_lift_Req x0, eS_lift_Req x1] ++ v_cmp346_c) ((eI .i64) r)) (o : G_slices_pdqsortCmpFunc_lift_Req_h_C3_R) (h : G_slices_pdqsortCmpFunc_lift_Req_h_C3 n v_a347 v_b348 v_z977 v_cmp346 v_wasBalanced350 v_wasPartitioned351 v_z990 v_z991 v_z992 = some o) (q : RunE Try.prog 148 Fi ks (G_slices_pdqsortCmpFunc_lift_Req_h_C3_ex o) (G_slices_pdqsortCmpFunc_lift_Req_h_C3_st v_a347 v_b348 v_z977 v_cmp346 v_wasBalanced350 v_wasPartitioned351 v_z990 v_z991 v_z992 v_cmp346_g v_cmp346_c o)) : RunE Try.prog 148 Fi (.s (cR (cL (cR (cR (cR (cR (cR (cR (cB (cP (cB (cR (cR (bodyOf Try.f39)))))))))))))) :: ks) .normal (G_slices_pdqsortCmpFunc_lift_Req_h_C3_hd v_a347 v_b348 v_z977 v_cmp346 v_wasBalanced350 v_wasPartitioned351 v_z990 v_z991 v_z992 v_cmp346_g v_cmp346_c) := by
  unfold G_slices_pdqsortCmpFunc_lift_Req_h_C3 at h
  by_cases h835 : v_z991 = 1
  · rw [if_pos h835] at h
    obtain ⟨v_r995, h836, h⟩ := bind_some h
    by_cases h837 : v_r995.1 = true
    · rw [if_pos h837] at h
      cases h
      exact pkk_sound TTok mix hF 5 (hs := [.t true, .h [1] [] [.row 26 3 (v_r995.2.map eS_lift_Req)] (.d (.v (.bool v_r995.1))), .t true]) (ts := []) (s := [0, 1]) (l := []) (by kernel_rfl) (by kernel_rfl) (.cons (bt h835) (.cons (G_slices_partialInsertionSortCmpFunc_lift_Req_h_ok n v_z992 v_a347 v_b348 v_cmp346 v_cmp346_g v_cmp346_c v_cmp346_h _ h836) (.cons h837 .nil))) q
    · rw [if_neg h837] at h
      cases h
      exact pkk_sound TTok mix hF 5 (hs := [.t true, .h [1] [] [.row 26 3 (v_r995.2.map eS_lift_Req)] (.d (.v (.bool v_r995.1))), .t false]) (ts := []) (s := [0, 1]) (l := [0, 1, 2, 3, 4, 10, 11, 12, 13]) (by kernel_rfl) (by kernel_rfl) (.cons (bt h835) (.cons (G_slices_partialInsertionSortCmpFunc_lift_Req_h_ok n v_z992 v_a347 v_b348 v_cmp346 v_cmp346_g v_cmp346_c v_cmp346_h _ h836) (.cons (vf h837) .nil))) q
  · rw [if_neg h835] at h
    cases h
    exact pkk_sound TTok mix hF 2 (hs := [.t false]) (ts := []) (s := [0, 1]) (l := [0, 1, 2, 3, 4, 10, 11, 12, 13]) (by kernel_rfl) (by kernel_rfl) (.cons (bf h835) .nil) q
inductive G_slices_pdqsortCmpFunc_lift_Req_h_C4_R where
  | x0 (v_x1010 : Bool) (v_w1011 : (List S_lift_Req))
def G_slices_pdqsortCmpFunc_lift_Req_h_C4_ex : G_slices_pdqsortCmpFunc_lift_Req_h_C4_R → Ex
  | .x0 _ _ => .normal
def G_slices_pdqsortCmpFunc_lift_Req_h_C4_st (v_a347 : Int) (v_b348 : Int) (v_z977 : Int) (v_cmp346 : (S_lift_Req → S_lift_Req → Option (Int))) (v_wasBalanced350 : Bool) (v_wasPartitioned351 : Bool) (v_z990 : Int) (v_z1002 : (List S_lift_Req)) (v_cmp346_g : FuncId) (v_cmp346_c : (List PV)) : G_slices_pdqsortCmpFunc_lift_Req_h_C4_R → PS
  | .x0 v_x1010 v_w1011 => ⟨(.srf 1 :: .d (.v (.int .i64 v_a347)) :: .d (.v (.int .i64 v_b348)) :: .d (.v (.int .i64 v_z977)) :: .d (.clo v_cmp346_g v_cmp346_c) :: dd :: dd :: dd :: dd :: dd :: .d (.v (.bool v_wasBalanced350)) :: .d (.v (.bool v_wasPartitioned351)) :: .d (.v (.int .i64 (wi .i64 (v_b348 - v_a347)))) :: .d (.v (.int .i64 v_z990)) :: (dds 83 (.d (.v (.bool v_x1010)) :: (dds 50 [])))), [.gh 0 (.srf 1), .row 26 3 (v_w1011.map eS_lift_Req)]⟩
def G_slices_pdqsortCmpFunc_lift_Req_h_C4_hd (v_a347 : Int) (v_b348 : Int) (v_z977 : Int) (v_cmp346 : (S_lift_Req → S_lift_Req → Option (Int))) (v_wasBalanced350 : Bool) (v_wasPartitioned351 : Bool) (v_z990 : Int) (v_z1002 : (List S_lift_Req)) (v_cmp346_g : FuncId) (v_cmp346_c : (List PV))  : PS := ⟨(.srf 1 :: .d (.v (.int .i64 v_a347)) :: .d (.v (.int .i64 v_b348)) :: .d (.v (.int .i64 v_z977)) :: .d (.clo v_cmp346_g v_cmp346_c) :: dd :: dd :: dd :: dd :: dd :: .d (.v (.bool v_wasBalanced350)) :: .d (.v (.bool v_wasPartitioned351)) :: .d (.v (.int .i64 (wi .i64 (v_b348 - v_a347)))) :: .d (.v (.int .i64 v_z990)) :: (dds 134 [])), [.gh 0 (.srf 1), .row 26 3 (v_z1002.map eS_lift_Req)]⟩
def G_slices_pdqsortCmpFunc_lift_Req_h_C4 (n : Nat) (v_a347 : Int) (v_b348 : Int) (v_z977 : Int) (v_cmp346 : (S_lift_Req → S_lift_Req → Option (Int))) (v_wasBalanced350 : Bool) (v_wasPartitioned351 : Bool) (v_z990 : Int) (v_z1002 : (List S_lift_Req)) : Option G_slices_pdqsortCmpFunc_lift_Req_h_C4_R :=
  if v_a347 > 0 then
   if 0 ≤ (wi .i64 (v_a347 - 1)) ∧ ((wi .i64 (v_a347 - 1))).toNat < v_z1002.length then
    (v_z1002[((wi .i64 (v_a347 - 1))).toNat]?).bind fun (v_y1007 : S_lift_Req) =>
    if 0 ≤ v_z990 ∧ (v_z990).toNat < v_z1002.length then
     (v_z1002[(v_z990).toNat]?).bind fun (v_y1008 : S_lift_Req) =>
     (v_cmp346 v_y1007 v_y1008).bind fun (v_r1009 : (Int)) =>
     some (.x0 (!(decide (v_r1009 < 0))) v_z1002)
    else none
   else none
  else
   some (.x0 false v_z1002)
theorem G_slices_pdqsortCmpFunc_lift_Req_h_C4_ok {Fi : Ex → PS → Prop} (hF : KC 148 Fi) (ks : List Fr) (n : Nat) (v_a347 : Int) (v_b348 : Int) (v_z977 : Int) (v_cmp346 : (S_lift_Req → S_lift_Req → Option (Int))) (v_wasBalanced350 : Bool) (v_wasPartitioned351 : Bool) (v_z990 : Int) (v_z1002 : (List S_lift_Req)) (v_cmp346_g : FuncId) (v_cmp346_c : (List PV)) (v_cmp346_h : ∀ (x0 : S_lift_Req) (x1 : S_lift_Req) (r : Int), v_cmp346 x0 x1 = some r → Ret Try.prog v_cmp346_g ([eS_lift_Req x0, eS_lift_Req x1] ++ v_cmp346_c) ((eI .i64) r)) (o : G_slices_pdqsortCmpFunc_lift_Req_h_C4_R) (h : G_slices_pdqsortCmpFunc_lift_Req_h_C4 n v_a347 v_b348 v_z977 v_cmp346 v_wasBalanced350 v_wasPartitioned351 v_z990 v_z1002 = some o) (q : RunE Try.prog 148 Fi ks (G_slices_pdqsortCmpFunc_lift_Req_h_C4_ex o) (G_slices_pdqsortCmpFunc_lift_Req_h_C4_st v_a347 v_b348 v_z977 v_cmp346 v_wasBalanced350 v_wasPartitioned351 v_z990 v_z1002 v_cmp346_g v_cmp346_c o)) : RunE Try.prog 148 Fi (.s (cL (cL (cR (cR (cR (cR (cR (cR (cR (cB (cP (cB (cR (cR (bodyOf Try.f39))))))))))))))) :: ks) .normal (G_slices_pdqsortCmpFunc_lift_Req_h_C4_hd v_a347 v_b348 v_z977 v_cmp346 v_wasBalanced350 v_wasPartitioned351 v_z990 v_z1002 v_cmp346_g v_cmp346_c) := by
  unfold G_slices_pdqsortCmpFunc_lift_Req_h_C4 at h
  by_cases h845 : v_a347 > 0
  · rw [if_pos h845] at h
    by_cases h846 : 0 ≤ (wi .i64 (v_a347 - 1)) ∧ ((wi .i64 (v_a347 - 1))).toNat < v_z1002.length
    · rw [if_pos h846] at h
      obtain ⟨v_y1007, h847, h⟩ := bind_some h
      by_cases h848 : 0 ≤ v_z990 ∧ (v_z990).toNat < v_z1002.length
      · rw [if_pos h848] at h
        obtain ⟨v_y1008, h849, h⟩ := bind_some h
        obtain ⟨v_r1009, h850, h⟩ := bind_some h
        cases h
        exact pkk_sound TTok mix hF 1 (hs := [.t true, .c, .c, .c, .c, .c, .y (eS_lift_Req v_y1007), .c, .c, .c, .c, .y (eS_lift_Req v_y1008), .c, .r ((eI .i64) v_r1009), .c, .c]) (ts := []) (s := [0, 1]) (l := [0, 1, 2, 3, 4, 10, 11, 12, 13, 97]) (by kernel_rfl) (by kernel_rfl) (.cons (dt h845) (.cons (idx_ob (f := eS_lift_Req) h846) (.cons (get_ob (f := eS_lift_Req) h847) (.cons (idx_ob (f := eS_lift_Req) h848) (.cons (get_ob (f := eS_lift_Req) h849) (.cons (v_cmp346_h v_y1007 v_y1008 _ h850) .nil)))))) q
      · rw [if_neg h848] at h; cases h
    · rw [if_neg h846] at h; cases h
  · rw [if_neg h845] at h
    cases h
    exact pkk_sound TTok mix hF 1 (hs := [.t false, .c, .c, .c, .c, .c, .c, .c, .c, .c, .c, .c, .c]) (ts := []) (s := [0, 1]) (l := [0, 1, 2, 3, 4, 10, 11, 12, 13, 97]) (by kernel_rfl) (by kernel_rfl) (.cons (df h845) .nil) q
inductive G_slices_pdqsortCmpFunc_lift_Req_h_C5_R where
  | x0 (v_x1049 : Bool) (v_w1050 : (List S_lift_Req))
def G_slices_pdqsortCmpFunc_lift_Req_h_C5_ex : G_slices_pdqsortCmpFunc_lift_Req_h_C5_R → Ex
  | .x0 _ _ => .normal
def G_slices_pdqsortCmpFunc_lift_Req_h_C5_st (v_a347 : Int) (v_b348 : Int) (v_z977 : Int) (v_cmp346 : (S_lift_Req → S_lift_Req → Option (Int))) (v_wasBalanced350 : Bool) (v_wasPartitioned351 : Bool) (v_z990 : Int) (v_z992 : (List S_lift_Req)) (v_cmp346_g : FuncId) (v_cmp346_c : (List PV)) : G_slices_pdqsortCmpFunc_lift_Req_h_C5_R → PS
  | .x0 v_x1049 v_w1050 => ⟨(.srf 1 :: .d (.v (.int .i64 v_a347)) :: .d (.v (.int .i64 v_b348)) :: .d (.v (.int .i64 v_z977)) :: .d (.clo v_cmp346_g v_cmp346_c) :: dd :: dd :: dd :: dd :: dd :: .d (.v (.bool v_wasBalanced350)) :: .d (.v (.bool v_wasPartitioned351)) :: .d (.v (.int .i64 (wi .i64 (v_b348 - v_a347)))) :: .d (.v (.int .i64 v_z990)) :: (dds 83 (.d (.v (.bool v_x1049)) :: (dds 50 [])))), [.gh 0 (.srf 1), .row 26 3 (v_w1050.map eS_lift_Req)]⟩
def G_slices_pdqsortCmpFunc_lift_Req_h_C5_hd (v_a347 : Int) (v_b348 : Int) (v_z977 : Int) (v_cmp346 : (S_lift_Req → S_lift_Req → Option (Int))) (v_wasBalanced350 : Bool) (v_wasPartitioned351 : Bool) (v_z990 : Int) (v_z992 : (List S_lift_Req)) (v_cmp346_g : FuncId) (v_cmp346_c : (List PV))  : PS := ⟨(.srf 1 :: .d (.v (.int .i64 v_a347)) :: .d (.v (.int .i64 v_b348)) :: .d (.v (.int .i64 v_z977)) :: .d (.clo v_cmp346_g v_cmp346_c) :: dd :: dd :: dd :: dd :: dd :: .d (.v (.bool v_wasBalanced350)) :: .d (.v (.bool v_wasPartitioned351)) :: .d (.v (.int .i64 (wi .i64 (v_b348 - v_a347)))) :: .d (.v (.int .i64 v_z990)) :: (dds 134 [])), [.gh 0 (.srf 1), .row 26 3 (v_z992.map eS_lift_Req)]⟩
def G_slices_pdqsortCmpFunc_lift_Req_h_C5 (n : Nat) (v_a347 : Int) (v_b348 : Int) (v_z977 : Int) (v_cmp346 : (S_lift_Req → S_lift_Req → Option (Int))) (v_wasBalanced350 : Bool) (v_wasPartitioned351 : Bool) (v_z990 : Int) (v_z992 : (List S_lift_Req)) : Option G_slices_pdqsortCmpFunc_lift_Req_h_C5_R :=
  if v_a347 > 0 then
   if 0 ≤ (wi .i64 (v_a347 - 1)) ∧ ((wi .i64 (v_a347 - 1))).toNat < v_z992.length then
    (v_z992[((wi .i64 (v_a347 - 1))).toNat]?).bind fun (v_y1046 : S_lift_Req) =>
    if 0 ≤ v_z990 ∧ (v_z990).toNat < v_z992.length then
     (v_z992[(v_z990).toNat]?).bind fun (v_y1047 : S_lift_Req) =>
     (v_cmp346 v_y1046 v_y1047).bind fun (v_r1048 : (Int)) =>
     some (.x0 (!(decide (v_r1048 < 0))) v_z992)
    else none
   else none
  else
   some (.x0 false v_z992)
theorem G_slices_pdqsortCmpFunc_lift_Req_h_C5_ok {Fi : Ex → PS → Prop} (hF : KC 148 Fi) (ks : List Fr) (n : Nat) (v_a347 : Int) (v_b348 : Int) (v_z977 : Int) (v_cmp346 : (S_lift_Req → S_lift_Req → Option (Int))) (v_wasBalanced350 : Bool) (v_wasPartitioned351 : Bool) (v_z990 : Int) (v_z992 : (List S_lift_Req)) (v_cmp346_g : FuncId) (v_cmp346_c : (List PV)) (v_cmp346_h : ∀ (x0 : S_lift_Req) (x1 : S_lift_Req) (r : Int), v_cmp346 x0 x1 = some r → Ret Try.prog v_cmp346_g ([eS_lift_Req x0, eS_lift_Req x1] ++ v_cmp346_c) ((eI .i64) r)) (o : G_slices_pdqsortCmpFunc_lift_Req_h_C5_R) (h : G_slices_pdqsortCmpFunc_lift_Req_h_C5 n v_a347 v_b348 v_z977 v_cmp346 v_wasBalanced350 v_wasPartitioned351 v_z990 v_z992 = some o) (q : RunE Try.prog 148 Fi ks (G_slices_pdqsortCmpFunc_lift_Req_h_C5_ex o) (G_slices_pdqsortCmpFunc_lift_Req_h_C5_st v_a347 v_b348 v_z977 v_cmp346 v_wasBalanced350 v_wasPartitioned351 v_z990 v_z992 v_cmp346_g v_cmp346_c o)) : RunE Try.prog 148 Fi (.s (cL (cL (cR (cR (cR (cR (cR (cR (cR (cB (cP (cB (cR (cR (bodyOf Try.f39))))))))))))))) :: ks) .normal (G_slices_pdqsortCmpFunc_lift_Req_h_C5_hd v_a347 v_b348 v_z977 v_cmp346 v_wasBalanced350 v_wasPartitioned351 v_z990 v_z992 v_cmp346_g v_cmp346_c) := by
  unfold G_slices_pdqsortCmpFunc_lift_Req_h_C5 at h
  by_cases h870 : v_a347 > 0
  · rw [if_pos h870] at h
    by_cases h871 : 0 ≤ (wi .i64 (v_a347 - 1)) ∧ ((wi .i64 (v_a347 - 1))).toNat < v_z992.length
    · rw [if_pos h871] at h
      obtain ⟨v_y1046, h872, h⟩ := bind_some h
      by_cases h873 : 0 ≤ v_z990 ∧ (v_z990).toNat < v_z992.length
      · rw [if_pos h873] at h
        obtain ⟨v_y1047, h874, h⟩ := bind_some h
        obtain ⟨v_r1048, h875, h⟩ := bind_some h
        cases h
        exact pkk_sound TTok mix hF 1 (hs := [.t true, .c, .c, .c, .c, .c, .y (eS_lift_Req v_y1046), .c, .c, .c, .c, .y (eS_lift_Req v_y1047), .c, .r ((eI .i64) v_r1048), .c, .c]) (ts := []) (s := [0, 1]) (l := [0, 1, 2, 3, 4, 10, 11, 12, 13, 97]) (by kernel_rfl) (by kernel_rfl) (.cons (dt h870) (.cons (idx_ob (f := eS_lift_Req) h871) (.cons (get_ob (f := eS_lift_Req) h872) (.cons (idx_ob (f := eS_lift_Req) h873) (.cons (get_ob (f := eS_lift_Req) h874) (.cons (v_cmp346_h v_y1046 v_y1047 _ h875) .nil)))))) q
      · rw [if_neg h873] at h; cases h
    · rw [if_neg h871] at h; cases h
  · rw [if_neg h870] at h
    cases h
    exact pkk_sound TTok mix hF 1 (hs := [.t false, .c, .c, .c, .c, .c, .c, .c, .c, .c, .c, .c, .c]) (ts := []) (s := [0, 1]) (l := [0, 1, 2, 3, 4, 10, 11, 12, 13, 97]) (by kernel_rfl) (by kernel_rfl) (.cons (df h870) .nil) q
inductive G_slices_pdqsortCmpFunc_lift_Req_h_C6_R where
  | x0 (v_x1088 : Bool) (v_w1089 : (List S_lift_Req))
def G_slices_pdqsortCmpFunc_lift_Req_h_C6_ex : G_slices_pdqsortCmpFunc_lift_Req_h_C6_R → Ex
  | .x0 _ _ => .normal
def G_slices_pdqsortCmpFunc_lift_Req_h_C6_st (v_a347 : Int) (v_b348 : Int) (v_z977 : Int) (v_cmp346 : (S_lift_Req → S_lift_Req → Option (Int))) (v_wasBalanced350 : Bool) (v_wasPartitioned351 : Bool) (v_z990 : Int) (v_z992 : (List S_lift_Req)) (v_cmp346_g : FuncId) (v_cmp346_c : (List PV)) : G_slices_pdqsortCmpFunc_lift_Req_h_C6_R → PS
  | .x0 v_x1088 v_w1089 => ⟨(.srf 1 :: .d (.v (.int .i64 v_a347)) :: .d (.v (.int .i64 v_b348)) :: .d (.v (.int .i64 v_z977)) :: .d (.clo v_cmp346_g v_cmp346_c) :: dd :: dd :: dd :: dd :: dd :: .d (.v (.bool v_wasBalanced350)) :: .d (.v (.bool v_wasPartitioned351)) :: .d (.v (.int .i64 (wi .i64 (v_b348 - v_a347)))) :: .d (.v (.int .i64 v_z990)) :: (dds 83 (.d (.v (.bool v_x1088)) :: (dds 50 [])))), [.gh 0 (.srf 1), .row 26 3 (v_w1089.map eS_lift_Req)]⟩
def G_slices_pdqsortCmpFunc_lift_Req_h_C6_hd (v_a347 : Int) (v_b348 : Int) (v_z977 : Int) (v_cmp346 : (S_lift_Req → S_lift_Req → Option (Int))) (v_wasBalanced350 : Bool) (v_wasPartitioned351 : Bool) (v_z990 : Int) (v_z992 : (List S_lift_Req)) (v_cmp346_g : FuncId) (v_cmp346_c : (List PV))  : PS := ⟨(.srf 1 :: .d (.v (.int .i64 v_a347)) :: .d (.v (.int .i64 v_b348)) :: .d (.v (.int .i64 v_z977)) :: .d (.clo v_cmp346_g v_cmp346_c) :: dd :: dd :: dd :: dd :: dd :: .d (.v (.bool v_wasBalanced350)) :: .d (.v (.bool v_wasPartitioned351)) :: .d (.v (.int .i64 (wi .i64 (v_b348 - v_a347)))) :: .d (.v (.int .i64 v_z990)) :: (dds 134 [])), [.gh 0 (.srf 1), .row 26 3 (v_z992.map eS_lift_Req)]⟩
def G_slices_pdqsortCmpFunc_lift_Req_h_C6 (n : Nat) (v_a347 : Int) (v_b348 : Int) (v_z977 : Int) (v_cmp346 : (S_lift_Req → S_lift_Req → Option (Int))) (v_wasBalanced350 : Bool) (v_wasPartitioned351 : Bool) (v_z990 : Int) (v_z992 : (List S_lift_Req)) : Option G_slices_pdqsortCmpFunc_lift_Req_h_C6_R :=
  if v_a347 > 0 then
   if 0 ≤ (wi .i64 (v_a347 - 1)) ∧ ((wi .i64 (v_a347 - 1))).toNat < v_z992.length then
    (v_z992[((wi .i64 (v_a347 - 1))).toNat]?).bind fun (v_y1085 : S_lift_Req) =>
    if 0 ≤ v_z990 ∧ (v_z990).toNat < v_z992.length then
     (v_z992[(v_z990).toNat]?).bind fun (v_y1086 : S_lift_Req) =>
     (v_cmp346 v_y1085 v_y1086).bind fun (v_r1087 : (Int)) =>
     some (.x0 (!(decide (v_r1087 < 0))) v_z992)
    else none
   else none
  else
   some (.x0 false v_z992)
theorem G_slices_pdqsortCmpFunc_lift_Req_h_C6_ok {Fi : Ex → PS → Prop} (hF : KC 148 Fi) (ks : List Fr) (n : Nat) (v_a347 : Int) (v_b348 : Int) (v_z977 : Int) (v_cmp346 : (S_lift_Req → S_lift_Req → Option (Int))) (v_wasBalanced350 : Bool) (v_wasPartitioned351 : Bool) (v_z990 : Int) (v_z992 : (List S_lift_Req)) (v_cmp346_g : FuncId) (v_cmp346_c : (List PV)) (v_cmp346_h : ∀ (x0 : S_lift_Req) (x1 : S_lift_Req) (r : Int), v_cmp346 x0 x1 = some r → Ret Try.prog v_cmp346_g ([eS_lift_Req x0, eS_lift_Req x1] ++ v_cmp346_c) ((eI .i64) r)) (o : G_slices_pdqsortCmpFunc_lift_Req_h_C6_R) (h : G_slices_pdqsortCmpFunc_lift_Req_h_C6 n v_a347 v_b348 v_z977 v_cmp346 v_wasBalanced350 v_wasPartitioned351 v_z990 v_z992 = some o) (q : RunE Try.prog 148 Fi ks (G_slices_pdqsortCmpFunc_lift_Req_h_C6_ex o) (G_slices_pdqsortCmpFunc_lift_Req_h_C6_st v_a347 v_b348 v_z977 v_cmp346 v_wasBalanced350 v_wasPartitioned351 v_z990 v_z992 v_cmp346_g v_cmp346_c o)) : RunE Try.prog 148 Fi (.s (cL (cL (cR (cR (cR (cR (cR (cR (cR (cB (cP (cB (cR (cR (bodyOf Try.f39))))))))))))))) :: ks) .normal (G_slices_pdqsortCmpFunc_lift_Req_h_C6_hd v_a347 v_b348 v_z977 v_cmp346 v_wasBalanced350 v_wasPartitioned351 v_z990 v_z992 v_cmp346_g v_cmp346_c) := by
  unfold G_slices_pdqsortCmpFunc_lift_Req_h_C6 at h
  by_cases h895 : v_a347 > 0
  · rw [if_pos h895] at h
    by_cases h896 : 0 ≤ (wi .i64 (v_a347 - 1)) ∧ ((wi .i64 (v_a347 - 1))).toNat < v_z992.length
    · rw [if_pos h896] at h
      obtain ⟨v_y1085, h897, h⟩ := bind_some h
      by_cases h898 : 0 ≤ v_z990 ∧ (v_z990).toNat < v_z992.length
      · rw [if_pos h898] at h
        obtain ⟨v_y1086, h899, h⟩ := bind_some h
        obtain ⟨v_r1087, h900, h⟩ := bind_some h
        cases h
        exact pkk_sound TTok mix hF 1 (hs := [.t true, .c, .c, .c, .c, .c, .y (eS_lift_Req v_y1085), .c, .c, .c, .c, .y (eS_lift_Req v_y1086), .c, .r ((eI .i64) v_r1087), .c, .c]) (ts := []) (s := [0, 1]) (l := [0, 1, 2, 3, 4, 10, 11, 12, 13, 97]) (by kernel_rfl) (by kernel_rfl) (.cons (dt h895) (.cons (idx_ob (f := eS_lift_Req) h896) (.cons (get_ob (f := eS_lift_Req) h897) (.cons (idx_ob (f := eS_lift_Req) h898) (.cons (get_ob (f := eS_lift_Req) h899) (.cons (v_cmp346_h v_y1085 v_y1086 _ h900) .nil)))))) q
      · rw [if_neg h898] at h; cases h
    · rw [if_neg h896] at h; cases h
  · rw [if_neg h895] at h
    cases h
    exact pkk_sound TTok mix hF 1 (hs := [.t false, .c, .c, .c, .c, .c, .c, .c, .c, .c, .c, .c, .c]) (ts := []) (s := [0, 1]) (l := [0, 1, 2, 3, 4, 10, 11, 12, 13, 97]) (by kernel_rfl) (by kernel_rfl) (.cons (df h895) .nil) q
inductive G_slices_pdqsortCmpFunc_lift_Req_h_C7_R where
  | x0 (v_w965 : (List S_lift_Req))
  | x1 (v_a1019 : Int) (v_b1020 : Int) (v_limit1021 : Int) (v_wasBalanced1022 : Bool) (v_wasPartitioned1023 : Bool) (v_w1024 : (List S_lift_Req))
def G_slices_pdqsortCmpFunc_lift_Req_h_C7_ex : G_slices_pdqsortCmpFunc_lift_Req_h_C7_R → Ex
  | .x0 _ => .ret
  | .x1 _ _ _ _ _ _ => .normal
def G_slices_pdqsortCmpFunc_lift_Req_h_C7_st (v_a347 : Int) (v_b348 : Int) (v_limit349 : Int) (v_cmp346 : (S_lift_Req → S_lift_Req → Option (Int))) (v_wasBalanced350 : Bool) (v_wasPartitioned351 : Bool) (v_w352 : (List S_lift_Req)) (v_rec915 : ((List S_lift_Req) → Int → Int → Int → Option ((List S_lift_Req)))) (v_cmp346_g : FuncId) (v_cmp346_c : (List PV)) : G_slices_pdqsortCmpFunc_lift_Req_h_C7_R → PS
  | .x0 v_w965 => ⟨(dds 148 []), [.gh 0 (.srf 1), .row 26 3 (v_w965.map eS_lift_Req)]⟩
  | .x1 v_a1019 v_b1020 v_limit1021 v_wasBalanced1022 v_wasPartitioned1023 v_w1024 => ⟨(.srf 1 :: .d (.v (.int .i64 v_a1019)) :: .d (.v (.int .i64 v_b1020)) :: .d (.v (.int .i64 v_limit1021)) :: .d (.clo v_cmp346_g v_cmp346_c) :: dd :: dd :: dd :: dd :: dd :: .d (.v (.bool v_wasBalanced1022)) :: .d (.v (.bool v_wasPartitioned1023)) :: (dds 136 [])), [.gh 0 (.srf 1), .row 26 3 (v_w1024.map eS_lift_Req)]⟩
def G_slices_pdqsortCmpFunc_lift_Req_h_C7_hd (v_a347 : Int) (v_b348 : Int) (v_limit349 : Int) (v_cmp346 : (S_lift_Req → S_lift_Req → Option (Int))) (v_wasBalanced350 : Bool) (v_wasPartitioned351 : Bool) (v_w352 : (List S_lift_Req)) (v_rec915 : ((List S_lift_Req) → Int → Int → Int → Option ((List S_lift_Req)))) (v_cmp346_g : FuncId) (v_cmp346_c : (List PV))  : PS := ⟨(.srf 1 :: .d (.v (.int .i64 v_a347)) :: .d (.v (.int .i64 v_b348)) :: .d (.v (.int .i64 v_limit349)) :: .d (.clo v_cmp346_g v_cmp346_c) :: dd :: dd :: dd :: dd :: dd :: .d (.v (.bool v_wasBalanced350)) :: .d (.v (.bool v_wasPartitioned351)) :: (dds 136 [])), [.gh 0 (.srf 1), .row 26 3 (v_w352.map eS_lift_Req)]⟩
def G_slices_pdqsortCmpFunc_lift_Req_h_C7 (n : Nat) (v_a347 : Int) (v_b348 : Int) (v_limit349 : Int) (v_cmp346 : (S_lift_Req → S_lift_Req → Option (Int))) (v_wasBalanced350 : Bool) (v_wasPartitioned351 : Bool) (v_w352 : (List S_lift_Req)) (v_rec915 : ((List S_lift_Req) → Int → Int → Int → Option ((List S_lift_Req)))) : Option G_slices_pdqsortCmpFunc_lift_Req_h_C7_R :=
  if (wi .i64 (v_b348 - v_a347)) ≤ 12 then
   (G_slices_insertionSortCmpFunc_lift_Req_h n v_w352 v_a347 v_b348 v_cmp346).bind fun (v_r964 : ((List S_lift_Req))) =>
   some (.x0 v_r964)
  else
   if v_limit349 = 0 then
    (G_slices_heapSortCmpFunc_lift_Req_h n v_w352 v_a347 v_b348 v_cmp346).bind fun (v_r967 : ((List S_lift_Req))) =>
    some (.x0 v_r967)
   else
    (G_slices_pdqsortCmpFunc_lift_Req_h_C1 n v_a347 v_b348 v_limit349 v_cmp346 v_wasBalanced350 v_wasPartitioned351 v_w352).bind fun v_o976 => match v_o976 with
    | .x0 v_z977 v_z978 =>
      (G_slices_choosePivotCmpFunc_lift_Req n v_z978 v_a347 v_b348 v_cmp346).bind fun (v_r979 : (Int × Int)) =>
      (G_slices_pdqsortCmpFunc_lift_Req_h_C2 n v_a347 v_b348 v_z977 v_cmp346 v_wasBalanced350 v_wasPartitioned351 v_r979 v_z978).bind fun v_o989 => match v_o989 with
      | .x0 v_z990 v_z991 v_z992 =>
        if v_wasBalanced350 = true then
         if v_wasPartitioned351 = true then
          (G_slices_pdqsortCmpFunc_lift_Req_h_C3 n v_a347 v_b348 v_z977 v_cmp346 v_wasBalanced350 v_wasPartitioned351 v_z990 v_z991 v_z992).bind fun v_o999 => match v_o999 with
          | .x0 v_z1000 =>
            some (.x0 v_z1000)
          | .x1 v_z1002 =>
            (G_slices_pdqsortCmpFunc_lift_Req_h_C4 n v_a347 v_b348 v_z977 v_cmp346 v_wasBalanced350 v_wasPartitioned351 v_z990 v_z1002).bind fun v_o1014 => match v_o1014 with
            | .x0 v_z1015 v_z1016 =>
              if v_z1015 = true then
               (G_slices_partitionEqualCmpFunc_lift_Req_h n v_z1016 v_a347 v_b348 v_z990 v_cmp346).bind fun (v_r1018 : (Int × (List S_lift_Req))) =>
               some (.x1 v_r1018.1 v_b348 v_z977 v_wasBalanced350 v_wasPartitioned351 v_r1018.2)
              else
               (G_slices_partitionCmpFunc_lift_Req_h n v_z1016 v_a347 v_b348 v_z990 v_cmp346).bind fun (v_r1025 : (Int × Bool × (List S_lift_Req))) =>
               if (wi .i64 (v_r1025.1 - v_a347)) < (wi .i64 (v_b348 - v_r1025.1)) then
                (v_rec915 v_r1025.2.2 v_a347 v_r1025.1 v_z977).bind fun (v_r1028 : ((List S_lift_Req))) =>
                some (.x1 (wi .i64 (v_r1025.1 + 1)) v_b348 v_z977 (decide ((wi .i64 (v_r1025.1 - v_a347)) ≥ (quoI .i64 (wi .i64 (v_b348 - v_a347)) 8))) v_r1025.2.1 v_r1028)
               else
                (v_rec915 v_r1025.2.2 (wi .i64 (v_r1025.1 + 1)) v_b348 v_z977).bind fun (v_r1035 : ((List S_lift_Req))) =>
                some (.x1 v_a347 v_r1025.1 v_z977 (decide ((wi .i64 (v_b348 - v_r1025.1)) ≥ (quoI .i64 (wi .i64 (v_b348 - v_a347)) 8))) v_r1025.2.1 v_r1035)
         else
          (G_slices_pdqsortCmpFunc_lift_Req_h_C5 n v_a347 v_b348 v_z977 v_cmp346 v_wasBalanced350 v_wasPartitioned351 v_z990 v_z992).bind fun v_o1053 => match v_o1053 with
          | .x0 v_z1054 v_z1055 =>
            if v_z1054 = true then
             (G_slices_partitionEqualCmpFunc_lift_Req_h n v_z1055 v_a347 v_b348 v_z990 v_cmp346).bind fun (v_r1057 : (Int × (List S_lift_Req))) =>
             some (.x1 v_r1057.1 v_b348 v_z977 v_wasBalanced350 v_wasPartitioned351 v_r1057.2)
            else
             (G_slices_partitionCmpFunc_lift_Req_h n v_z1055 v_a347 v_b348 v_z990 v_cmp346).bind fun (v_r1064 : (Int × Bool × (List S_lift_Req))) =>
             if (wi .i64 (v_r1064.1 - v_a347)) < (wi .i64 (v_b348 - v_r1064.1)) then
              (v_rec915 v_r1064.2.2 v_a347 v_r1064.1 v_z977).bind fun (v_r1067 : ((List S_lift_Req))) =>
              some (.x1 (wi .i64 (v_r1064.1 + 1)) v_b348 v_z977 (decide ((wi .i64 (v_r1064.1 - v_a347)) ≥ (quoI .i64 (wi .i64 (v_b348 - v_a347)) 8))) v_r1064.2.1 v_r1067)
             else
              (v_rec915 v_r1064.2.2 (wi .i64 (v_r1064.1 + 1)) v_b348 v_z977).bind fun (v_r1074 : ((List S_lift_Req))) =>
              some (.x1 v_a347 v_r1064.1 v_z977 (decide ((wi .i64 (v_b348 - v_r1064.1)) ≥ (quoI .i64 (wi .i64 (v_b348 - v_a347)) 8))) v_r1064.2.1 v_r1074)
        else
         (G_slices_pdqsortCmpFunc_lift_Req_h_C6 n v_a347 v_b348 v_z977 v_cmp346 v_wasBalanced350 v_wasPartitioned351 v_z990 v_z992).bind fun v_o1092 => match v_o1092 with
         | .x0 v_z1093 v_z1094 =>
           if v_z1093 = true then
            (G_slices_partitionEqualCmpFunc_lift_Req_h n v_z1094 v_a347 v_b348 v_z990 v_cmp346).bind fun (v_r1096 : (Int × (List S_lift_Req))) =>
            some (.x1 v_r1096.1 v_b348 v_z977 v_wasBalanced350 v_wasPartitioned351 v_r1096.2)
           else
            (G_slices_partitionCmpFunc_lift_Req_h n v_z1094 v_a347 v_b348 v_z990 v_cmp346).bind fun (v_r1103 : (Int × Bool × (List S_lift_Req))) =>
            if (wi .i64 (v_r1103.1 - v_a347)) < (wi .i64 (v_b348 - v_r1103.1)) then
             (v_rec915 v_r1103.2.2 v_a347 v_r1103.1 v_z977).bind fun (v_r1106 : ((List S_lift_Req))) =>
             some (.x1 (wi .i64 (v_r1103.1 + 1)) v_b348 v_z977 (decide ((wi .i64 (v_r1103.1 - v_a347)) ≥ (quoI .i64 (wi .i64 (v_b348 - v_a347)) 8))) v_r1103.2.1 v_r1106)
            else
             (v_rec915 v_r1103.2.2 (wi .i64 (v_r1103.1 + 1)) v_b348 v_z977).bind fun (v_r1113 : ((List S_lift_Req))) =>
             some (.x1 v_a347 v_r1103.1 v_z977 (decide ((wi .i64 (v_b348 - v_r1103.1)) ≥ (quoI .i64 (wi .i64 (v_b348 - v_a347)) 8))) v_r1103.2.1 v_r1113)
theorem G_slices_pdqsortCmpFunc_lift_Req_h_C7_ok {Fi : Ex → PS → Prop} (hF : KC 148 Fi) (ks : List Fr) (n : Nat) (v_a347 : Int) (v_b348 : Int) (v_limit349 : Int) (v_cmp346 : (S_lift_Req → S_lift_Req → Option (Int))) (v_wasBalanced350 : Bool) (v_wasPartitioned351 : Bool) (v_w352 : (List S_lift_Req)) (v_rec915 : ((List S_lift_Req) → Int → Int → Int → Option ((List S_lift_Req)))) (v_cmp346_g : FuncId) (v_cmp346_c : (List PV)) (v_cmp346_h : ∀ (x0 : S_lift_Req) (x1 : S_lift_Req) (r : Int), v_cmp346 x0 x1 = some r → Ret Try.prog v_cmp346_g ([eS_lift_Req x0, eS_lift_Req x1] ++ v_cmp346_c) ((eI .i64) r)) (v_rec915_h : ∀ (x0 : (List S_lift_Req)) (x1 : Int) (x2 : Int) (x3 : Int) (r : (List S_lift_Req)), v_rec915 x0 x1 x2 x3 = some r → RetH Try.prog 39 [.srf 0, .d ((eI .i64) x1), .d ((eI .i64) x2), .d ((eI .i64) x3), .d ((.clo v_cmp346_g v_cmp346_c))] [.row 26 3 (x0.map eS_lift_Req)] (.tup []) [.row 26 3 (r.map eS_lift_Req)]) (o : G_slices_pdqsortCmpFunc_lift_Req_h_C7_R) (h : G_slices_pdqsortCmpFunc_lift_Req_h_C7 n v_a347 v_b348 v_limit349 v_cmp346 v_wasBalanced350 v_wasPartitioned351 v_w352 v_rec915 = some o) (q : RunE Try.prog 148 Fi ks (G_slices_pdqsortCmpFunc_lift_Req_h_C7_ex o) (G_slices_pdqsortCmpFunc_lift_Req_h_C7_st v_a347 v_b348 v_limit349 v_cmp346 v_wasBalanced350 v_wasPartitioned351 v_w352 v_rec915 v_cmp346_g v_cmp346_c o)) : RunE Try.prog 148 Fi (.s (cP (cB (cR (cR (bodyOf Try.f39))))) :: ks) .normal (G_slices_pdqsortCmpFunc_lift_Req_h_C7_hd v_a347 v_b348 v_limit349 v_cmp346 v_wasBalanced350 v_wasPartitioned351 v_w352 v_rec915 v_cmp346_g v_cmp346_c) := by
  unfold G_slices_pdqsortCmpFunc_lift_Req_h_C7 at h
  by_cases h813 : (wi .i64 (v_b348 - v_a347)) ≤ 12
  · rw [if_pos h813] at h
    obtain ⟨v_r964, h814, h⟩ := bind_some h
    cases h
    exact pkk_sound TTok mix hF 12 (hs := [.t true, .h [1] [] [.row 26 3 (v_r964.map eS_lift_Req)] (.tup [])]) (ts := []) (s := [0, 1]) (l := []) (by kernel_rfl) (by kernel_rfl) (.cons (dt h813) (.cons (G_slices_insertionSortCmpFunc_lift_Req_h_ok n v_w352 v_a347 v_b348 v_cmp346 v_cmp346_g v_cmp346_c v_cmp346_h _ h814) .nil)) q
  · rw [if_neg h813] at h
    by_cases h817 : v_limit349 = 0
    · rw [if_pos h817] at h
      obtain ⟨v_r967, h818, h⟩ := bind_some h
      cases h
      exact pkk_sound TTok mix hF 17 (hs := [.t false, .t true, .h [1] [] [.row 26 3 (v_r967.map eS_lift_Req)] (.tup [])]) (ts := []) (s := [0, 1]) (l := []) (by kernel_rfl) (by kernel_rfl) (.cons (df h813) (.cons (bt h817) (.cons (G_slices_heapSortCmpFunc_lift_Req_h_ok n v_w352 v_a347 v_b348 v_cmp346 v_cmp346_g v_cmp346_c v_cmp346_h _ h818) .nil))) q
    · rw [if_neg h817] at h
      obtain ⟨v_o976, h823, h⟩ := bind_some h
      refine pkk_sound TTok mix hF 16 (hs := [.t false, .t false]) (ts := []) (s := [0, 1]) (l := [0, 1, 2, 3, 4, 10, 11, 12, 39]) (by kernel_rfl) (by kernel_rfl) (.cons (df h813) (.cons (bf h817) .nil)) (G_slices_pdqsortCmpFunc_lift_Req_h_C1_ok hF (.s (cR (cR (cR (cR (cB (cP (cB (cR (cR (bodyOf Try.f39)))))))))) :: .b 1 :: ks) n v_a347 v_b348 v_limit349 v_cmp346 v_wasBalanced350 v_wasPartitioned351 v_w352 v_cmp346_g v_cmp346_c v_cmp346_h _ h823 ?_)
      cases v_o976 with
      | x0 v_z977 v_z978 =>
        try dsimp only at h
        obtain ⟨v_r979, h824, h⟩ := bind_some h
        obtain ⟨v_o989, h829, h⟩ := bind_some h
        refine pkk_sound TTok mix hF 5 (hs := [.c, .r (.tup [(eI .i64) v_r979.1, (eI .i64) v_r979.2])]) (ts := []) (s := [0, 1]) (l := [0, 1, 2, 3, 4, 10, 11, 12, 13, 14, 56]) (by kernel_rfl) (by kernel_rfl) (.cons (G_slices_choosePivotCmpFunc_lift_Req_ok n v_z978 v_a347 v_b348 v_cmp346 v_cmp346_g v_cmp346_c v_cmp346_h _ h824) .nil) (G_slices_pdqsortCmpFunc_lift_Req_h_C2_ok hF (.s (cR (cR (cR (cR (cR (cR (cB (cP (cB (cR (cR (bodyOf Try.f39)))))))))))) :: .b 1 :: ks) n v_a347 v_b348 v_z977 v_cmp346 v_wasBalanced350 v_wasPartitioned351 v_r979 v_z978 v_cmp346_g v_cmp346_c v_cmp346_h _ h829 ?_)
        cases v_o989 with
        | x0 v_z990 v_z991 v_z992 =>
          try dsimp only at h
          by_cases h830 : v_wasBalanced350 = true
          · rw [if_pos h830] at h
            by_cases h831 : v_wasPartitioned351 = true
            · rw [if_pos h831] at h
              obtain ⟨v_o999, h838, h⟩ := bind_some h
              refine pkk_sound TTok mix hF 3 (hs := [.t true, .t true, .c]) (ts := []) (s := [0, 1]) (l := [0, 1, 2, 3, 4, 10, 11, 12, 13, 75]) (by kernel_rfl) (by kernel_rfl) (.cons h830 (.cons h831 .nil)) (G_slices_pdqsortCmpFunc_lift_Req_h_C3_ok hF (.s (cR (cR (cR (cR (cR (cR (cR (cB (cP (cB (cR (cR (bodyOf Try.f39))))))))))))) :: .b 1 :: ks) n v_a347 v_b348 v_z977 v_cmp346 v_wasBalanced350 v_wasPartitioned351 v_z990 v_z991 v_z992 v_cmp346_g v_cmp346_c v_cmp346_h _ h838 ?_)
              cases v_o999 with
              | x0 v_z1000 =>
                try dsimp only at h
                cases h
                exact pkk_sound TTok mix hF 2 (hs := []) (ts := []) (s := [0, 1]) (l := []) (by kernel_rfl) (by kernel_rfl) .nil q
              | x1 v_z1002 =>
                try dsimp only at h
                obtain ⟨v_o1014, h851, h⟩ := bind_some h
                refine pkk_sound TTok mix hF 2 (hs := []) (ts := []) (s := [0, 1]) (l := [0, 1, 2, 3, 4, 10, 11, 12, 13]) (by kernel_rfl) (by kernel_rfl) .nil (G_slices_pdqsortCmpFunc_lift_Req_h_C4_ok hF (.s (cR (cL (cR (cR (cR (cR (cR (cR (cR (cB (cP (cB (cR (cR (bodyOf Try.f39))))))))))))))) :: .s (cR (cR (cR (cR (cR (cR (cR (cR (cB (cP (cB (cR (cR (bodyOf Try.f39)))))))))))))) :: .b 1 :: ks) n v_a347 v_b348 v_z977 v_cmp346 v_wasBalanced350 v_wasPartitioned351 v_z990 v_z1002 v_cmp346_g v_cmp346_c v_cmp346_h _ h851 ?_)
                cases v_o1014 with
                | x0 v_z1015 v_z1016 =>
                  try dsimp only at h
                  by_cases h854 : v_z1015 = true
                  · rw [if_pos h854] at h
                    obtain ⟨v_r1018, h855, h⟩ := bind_some h
                    cases h
                    exact pkk_sound TTok mix hF 8 (hs := [.t true, .h [1] [] [.row 26 3 (v_r1018.2.map eS_lift_Req)] (.d (.v (.int .i64 v_r1018.1)))]) (ts := []) (s := [0, 1]) (l := [0, 1, 2, 3, 4, 10, 11]) (by kernel_rfl) (by kernel_rfl) (.cons h854 (.cons (G_slices_partitionEqualCmpFunc_lift_Req_h_ok n v_z1016 v_a347 v_b348 v_z990 v_cmp346 v_cmp346_g v_cmp346_c v_cmp346_h _ h855) .nil)) q
                  · rw [if_neg h854] at h
                    obtain ⟨v_r1025, h856, h⟩ := bind_some h
                    by_cases h861 : (wi .i64 (v_r1025.1 - v_a347)) < (wi .i64 (v_b348 - v_r1025.1))
                    · rw [if_pos h861] at h
                      obtain ⟨v_r1028, h862, h⟩ := bind_some h
                      cases h
                      exact pkk_sound TTok mix hF 19 (hs := [.t false, .h [1] [] [.row 26 3 (v_r1025.2.2.map eS_lift_Req)] (.tup [.d (.v (.int .i64 v_r1025.1)), .d (.v (.bool v_r1025.2.1))]), .t true, .h [1] [] [.row 26 3 (v_r1028.map eS_lift_Req)] (.tup [])]) (ts := []) (s := [0, 1]) (l := [0, 1, 2, 3, 4, 10, 11]) (by kernel_rfl) (by kernel_rfl) (.cons (vf h854) (.cons (G_slices_partitionCmpFunc_lift_Req_h_ok n v_z1016 v_a347 v_b348 v_z990 v_cmp346 v_cmp346_g v_cmp346_c v_cmp346_h _ h856) (.cons (show (8 : Int) ≠ 0 by decide) (.cons (dt h861) (.cons (v_rec915_h v_r1025.2.2 v_a347 v_r1025.1 v_z977 _ h862) .nil))))) q
                    · rw [if_neg h861] at h
                      obtain ⟨v_r1035, h863, h⟩ := bind_some h
                      cases h
                      exact pkk_sound TTok mix hF 19 (hs := [.t false, .h [1] [] [.row 26 3 (v_r1025.2.2.map eS_lift_Req)] (.tup [.d (.v (.int .i64 v_r1025.1)), .d (.v (.bool v_r1025.2.1))]), .t false, .h [1] [] [.row 26 3 (v_r1035.map eS_lift_Req)] (.tup [])]) (ts := []) (s := [0, 1]) (l := [0, 1, 2, 3, 4, 10, 11]) (by kernel_rfl) (by kernel_rfl) (.cons (vf h854) (.cons (G_slices_partitionCmpFunc_lift_Req_h_ok n v_z1016 v_a347 v_b348 v_z990 v_cmp346 v_cmp346_g v_cmp346_c v_cmp346_h _ h856) (.cons (show (8 : Int) ≠ 0 by decide) (.cons (df h861) (.cons (v_rec915_h v_r1025.2.2 (wi .i64 (v_r1025.1 + 1)) v_b348 v_z977 _ h863) .nil))))) q
            · rw [if_neg h831] at h
              obtain ⟨v_o1053, h876, h⟩ := bind_some h
              refine pkk_sound TTok mix hF 7 (hs := [.t true, .t false, .c, .c]) (ts := []) (s := [0, 1]) (l := [0, 1, 2, 3, 4, 10, 11, 12, 13]) (by kernel_rfl) (by kernel_rfl) (.cons h830 (.cons (vf h831) .nil)) (G_slices_pdqsortCmpFunc_lift_Req_h_C5_ok hF (.s (cR (cL (cR (cR (cR (cR (cR (cR (cR (cB (cP (cB (cR (cR (bodyOf Try.f39))))))))))))))) :: .s (cR (cR (cR (cR (cR (cR (cR (cR (cB (cP (cB (cR (cR (bodyOf Try.f39)))))))))))))) :: .b 1 :: ks) n v_a347 v_b348 v_z977 v_cmp346 v_wasBalanced350 v_wasPartitioned351 v_z990 v_z992 v_cmp346_g v_cmp346_c v_cmp346_h _ h876 ?_)
              cases v_o1053 with
              | x0 v_z1054 v_z1055 =>
                try dsimp only at h
                by_cases h879 : v_z1054 = true
                · rw [if_pos h879] at h
                  obtain ⟨v_r1057, h880, h⟩ := bind_some h
                  cases h
                  exact pkk_sound TTok mix hF 8 (hs := [.t true, .h [1] [] [.row 26 3 (v_r1057.2.map eS_lift_Req)] (.d (.v (.int .i64 v_r1057.1)))]) (ts := []) (s := [0, 1]) (l := [0, 1, 2, 3, 4, 10, 11]) (by kernel_rfl) (by kernel_rfl) (.cons h879 (.cons (G_slices_partitionEqualCmpFunc_lift_Req_h_ok n v_z1055 v_a347 v_b348 v_z990 v_cmp346 v_cmp346_g v_cmp346_c v_cmp346_h _ h880) .nil)) q
                · rw [if_neg h879] at h
                  obtain ⟨v_r1064, h881, h⟩ := bind_some h
                  by_cases h886 : (wi .i64 (v_r1064.1 - v_a347)) < (wi .i64 (v_b348 - v_r1064.1))
                  · rw [if_pos h886] at h
                    obtain ⟨v_r1067, h887, h⟩ := bind_some h
                    cases h
                    exact pkk_sound TTok mix hF 19 (hs := [.t false, .h [1] [] [.row 26 3 (v_r1064.2.2.map eS_lift_Req)] (.tup [.d (.v (.int .i64 v_r1064.1)), .d (.v (.bool v_r1064.2.1))]), .t true, .h [1] [] [.row 26 3 (v_r1067.map eS_lift_Req)] (.tup [])]) (ts := []) (s := [0, 1]) (l := [0, 1, 2, 3, 4, 10, 11]) (by kernel_rfl) (by kernel_rfl) (.cons (vf h879) (.cons (G_slices_partitionCmpFunc_lift_Req_h_ok n v_z1055 v_a347 v_b348 v_z990 v_cmp346 v_cmp346_g v_cmp346_c v_cmp346_h _ h881) (.cons (show (8 : Int) ≠ 0 by decide) (.cons (dt h886) (.cons (v_rec915_h v_r1064.2.2 v_a347 v_r1064.1 v_z977 _ h887) .nil))))) q
                  · rw [if_neg h886] at h
                    obtain ⟨v_r1074, h888, h⟩ := bind_some h
                    cases h
                    exact pkk_sound TTok mix hF 19 (hs := [.t false, .h [1] [] [.row 26 3 (v_r1064.2.2.map eS_lift_Req)] (.tup [.d (.v (.int .i64 v_r1064.1)), .d (.v (.bool v_r1064.2.1))]), .t false, .h [1] [] [.row 26 3 (v_r1074.map eS_lift_Req)] (.tup [])]) (ts := []) (s := [0, 1]) (l := [0, 1, 2, 3, 4, 10, 11]) (by kernel_rfl) (by kernel_rfl) (.cons (vf h879) (.cons (G_slices_partitionCmpFunc_lift_Req_h_ok n v_z1055 v_a347 v_b348 v_z990 v_cmp346 v_cmp346_g v_cmp346_c v_cmp346_h _ h881) (.cons (show (8 : Int) ≠ 0 by decide) (.cons (df h886) (.cons (v_rec915_h v_r1064.2.2 (wi .i64 (v_r1064.1 + 1)) v_b348 v_z977 _ h888) .nil))))) q
          · rw [if_neg h830] at h
            obtain ⟨v_o1092, h901, h⟩ := bind_some h
            refine pkk_sound TTok mix hF 7 (hs := [.t false, .c, .c, .c]) (ts := []) (s := [0, 1]) (l := [0, 1, 2, 3, 4, 10, 11, 12, 13]) (by kernel_rfl) (by kernel_rfl) (.cons (vf h830) .nil) (G_slices_pdqsortCmpFunc_lift_Req_h_C6_ok hF (.s (cR (cL (cR (cR (cR (cR (cR (cR (cR (cB (cP (cB (cR (cR (bodyOf Try.f39))))))))))))))) :: .s (cR (cR (cR (cR (cR (cR (cR (cR (cB (cP (cB (cR (cR (bodyOf Try.f39)))))))))))))) :: .b 1 :: ks) n v_a347 v_b348 v_z977 v_cmp346 v_wasBalanced350 v_wasPartitioned351 v_z990 v_z992 v_cmp346_g v_cmp346_c v_cmp346_h _ h901 ?_)
            cases v_o1092 with
            | x0 v_z1093 v_z1094 =>
              try dsimp only at h
              by_cases h904 : v_z1093 = true
              · rw [if_pos h904] at h
                obtain ⟨v_r1096, h905, h⟩ := bind_some h
                cases h
                exact pkk_sound TTok mix hF 8 (hs := [.t true, .h [1] [] [.row 26 3 (v_r1096.2.map eS_lift_Req)] (.d (.v (.int .i64 v_r1096.1)))]) (ts := []) (s := [0, 1]) (l := [0, 1, 2, 3, 4, 10, 11]) (by kernel_rfl) (by kernel_rfl) (.cons h904 (.cons (G_slices_partitionEqualCmpFunc_lift_Req_h_ok n v_z1094 v_a347 v_b348 v_z990 v_cmp346 v_cmp346_g v_cmp346_c v_cmp346_h _ h905) .nil)) q
              · rw [if_neg h904] at h
                obtain ⟨v_r1103, h906, h⟩ := bind_some h
                by_cases h911 : (wi .i64 (v_r1103.1 - v_a347)) < (wi .i64 (v_b348 - v_r1103.1))
                · rw [if_pos h911] at h
                  obtain ⟨v_r1106, h912, h⟩ := bind_some h
                  cases h
                  exact pkk_sound TTok mix hF 19 (hs := [.t false, .h [1] [] [.row 26 3 (v_r1103.2.2.map eS_lift_Req)] (.tup [.d (.v (.int .i64 v_r1103.1)), .d (.v (.bool v_r1103.2.1))]), .t true, .h [1] [] [.row 26 3 (v_r1106.map eS_lift_Req)] (.tup [])]) (ts := []) (s := [0, 1]) (l := [0, 1, 2, 3, 4, 10, 11]) (by kernel_rfl) (by kernel_rfl) (.cons (vf h904) (.cons (G_slices_partitionCmpFunc_lift_Req_h_ok n v_z1094 v_a347 v_b348 v_z990 v_cmp346 v_cmp346_g v_cmp346_c v_cmp346_h _ h906) (.cons (show (8 : Int) ≠ 0 by decide) (.cons (dt h911) (.cons (v_rec915_h v_r1103.2.2 v_a347 v_r1103.1 v_z977 _ h912) .nil))))) q
                · rw [if_neg h911] at h
                  obtain ⟨v_r1113, h913, h⟩ := bind_some h
                  cases h
                  exact pkk_sound TTok mix hF 19 (hs := [.t false, .h [1] [] [.row 26 3 (v_r1103.2.2.map eS_lift_Req)] (.tup [.d (.v (.int .i64 v_r1103.1)), .d (.v (.bool v_r1103.2.1))]), .t false, .h [1] [] [.row 26 3 (v_r1113.map eS_lift_Req)] (.tup [])]) (ts := []) (s := [0, 1]) (l := [0, 1, 2, 3, 4, 10, 11]) (by kernel_rfl) (by kernel_rfl) (.cons (vf h904) (.cons (G_slices_partitionCmpFunc_lift_Req_h_ok n v_z1094 v_a347 v_b348 v_z990 v_cmp346 v_cmp346_g v_cmp346_c v_cmp346_h _ h906) (.cons (show (8 : Int) ≠ 0 by decide) (.cons (df h911) (.cons (v_rec915_h v_r1103.2.2 (wi .i64 (v_r1103.1 + 1)) v_b348 v_z977 _ h913) .nil))))) q
inductive G_slices_pdqsortCmpFunc_lift_Req_h_L8_R where
  | x0 (v_w1122 : (List S_lift_Req))
def G_slices_pdqsortCmpFunc_lift_Req_h_L8_ex : G_slices_pdqsortCmpFunc_lift_Req_h_L8_R → Ex
  | .x0 _ => .ret
def G_slices_pdqsortCmpFunc_lift_Req_h_L8_st (v_cmp346 : (S_lift_Req → S_lift_Req → Option (Int))) (v_rec915 : ((List S_lift_Req) → Int → Int → Int → Option ((List S_lift_Req)))) (v_cmp346_g : FuncId) (v_cmp346_c : (List PV)) : G_slices_pdqsortCmpFunc_lift_Req_h_L8_R → PS
  | .x0 v_w1122 => ⟨(dds 148 []), [.gh 0 (.srf 1), .row 26 3 (v_w1122.map eS_lift_Req)]⟩
def G_slices_pdqsortCmpFunc_lift_Req_h_L8_hd (v_cmp346 : (S_lift_Req → S_lift_Req → Option (Int))) (v_rec915 : ((List S_lift_Req) → Int → Int → Int → Option ((List S_lift_Req)))) (v_cmp346_g : FuncId) (v_cmp346_c : (List PV)) (v_a347 : Int) (v_b348 : Int) (v_limit349 : Int) (v_wasBalanced350 : Bool) (v_wasPartitioned351 : Bool) (v_w352 : (List S_lift_Req)) : PS := ⟨(.srf 1 :: .d (.v (.int .i64 v_a347)) :: .d (.v (.int .i64 v_b348)) :: .d (.v (.int .i64 v_limit349)) :: .d (.clo v_cmp346_g v_cmp346_c) :: dd :: dd :: dd :: dd :: dd :: .d (.v (.bool v_wasBalanced350)) :: .d (.v (.bool v_wasPartitioned351)) :: (dds 136 [])), [.gh 0 (.srf 1), .row 26 3 (v_w352.map eS_lift_Req)]⟩
def G_slices_pdqsortCmpFunc_lift_Req_h_L8 (n : Nat) (v_cmp346 : (S_lift_Req → S_lift_Req → Option (Int))) (v_rec915 : ((List S_lift_Req) → Int → Int → Int → Option ((List S_lift_Req)))) : Nat → Int → Int → Int → Bool → Bool → (List S_lift_Req) → Option G_slices_pdqsortCmpFunc_lift_Req_h_L8_R
  | 0, _, _, _, _, _, _ => none
  | k + 1, v_a347, v_b348, v_limit349, v_wasBalanced350, v_wasPartitioned351, v_w352 =>
    (G_slices_pdqsortCmpFunc_lift_Req_h_C7 n v_a347 v_b348 v_limit349 v_cmp346 v_wasBalanced350 v_wasPartitioned351 v_w352 v_rec915).bind fun v_o1120 => match v_o1120 with
    | .x0 v_z1121 =>
      some (.x0 v_z1121)
    | .x1 v_z1123 v_z1124 v_z1125 v_z1126 v_z1127 v_z1128 =>
      G_slices_pdqsortCmpFunc_lift_Req_h_L8 n v_cmp346 v_rec915 k v_z1123 v_z1124 v_z1125 v_z1126 v_z1127 v_z1128
theorem G_slices_pdqsortCmpFunc_lift_Req_h_L8_ok {Fi : Ex → PS → Prop} (hF : KC 148 Fi) (ks : List Fr) (n : Nat) (v_cmp346 : (S_lift_Req → S_lift_Req → Option (Int))) (v_rec915 : ((List S_lift_Req) → Int → Int → Int → Option ((List S_lift_Req)))) (v_cmp346_g : FuncId) (v_cmp346_c : (List PV)) (v_cmp346_h : ∀ (x0 : S_lift_Req) (x1 : S_lift_Req) (r : Int), v_cmp346 x0 x1 = some r → Ret Try.prog v_cmp346_g ([eS_lift_Req x0, eS_lift_Req x1] ++ v_cmp346_c) ((eI .i64) r)) (v_rec915_h : ∀ (x0 : (List S_lift_Req)) (x1 : Int) (x2 : Int) (x3 : Int) (r : (List S_lift_Req)), v_rec915 x0 x1 x2 x3 = some r → RetH Try.prog 39 [.srf 0, .d ((eI .i64) x1), .d ((eI .i64) x2), .d ((eI .i64) x3), .d ((.clo v_cmp346_g v_cmp346_c))] [.row 26 3 (x0.map eS_lift_Req)] (.tup []) [.row 26 3 (r.map eS_lift_Req)]) : ∀ (k : Nat) (v_a347 : Int) (v_b348 : Int) (v_limit349 : Int) (v_wasBalanced350 : Bool) (v_wasPartitioned351 : Bool) (v_w352 : (List S_lift_Req)) (o : G_slices_pdqsortCmpFunc_lift_Req_h_L8_R), G_slices_pdqsortCmpFunc_lift_Req_h_L8 n v_cmp346 v_rec915 k v_a347 v_b348 v_limit349 v_wasBalanced350 v_wasPartitioned351 v_w352 = some o → RunE Try.prog 148 Fi ks (G_slices_pdqsortCmpFunc_lift_Req_h_L8_ex o) (G_slices_pdqsortCmpFunc_lift_Req_h_L8_st v_cmp346 v_rec915 v_cmp346_g v_cmp346_c o) → RunE Try.prog 148 Fi (.l k (cP (cB (cR (cR (bodyOf Try.f39))))) :: ks) .normal (G_slices_pdqsortCmpFunc_lift_Req_h_L8_hd v_cmp346 v_rec915 v_cmp346_g v_cmp346_c v_a347 v_b348 v_limit349 v_wasBalanced350 v_wasPartitioned351 v_w352)
  | 0, v_a347, v_b348, v_limit349, v_wasBalanced350, v_wasPartitioned351, v_w352, o, h, q => by rw [G_slices_pdqsortCmpFunc_lift_Req_h_L8] at h; cases h
  | k + 1, v_a347, v_b348, v_limit349, v_wasBalanced350, v_wasPartitioned351, v_w352, o, h, q => by
    rw [G_slices_pdqsortCmpFunc_lift_Req_h_L8] at h
    obtain ⟨v_o1120, h914, h⟩ := bind_some h
    refine pkk_sound TTok mix hF 1 (hs := []) (ts := []) (s := [0, 1]) (l := [0, 1, 2, 3, 4, 10, 11]) (by kernel_rfl) (by kernel_rfl) .nil (G_slices_pdqsortCmpFunc_lift_Req_h_C7_ok hF (.l k (cP (cB (cR (cR (bodyOf Try.f39))))) :: ks) n v_a347 v_b348 v_limit349 v_cmp346 v_wasBalanced350 v_wasPartitioned351 v_w352 v_rec915 v_cmp346_g v_cmp346_c v_cmp346_h v_rec915_h _ h914 ?_)
    cases v_o1120 with
    | x0 v_z1121 =>
      try dsimp only at h
      cases h
      exact pkk_sound TTok mix hF 1 (hs := []) (ts := []) (s := [0, 1]) (l := []) (by kernel_rfl) (by kernel_rfl) .nil q
    | x1 v_z1123 v_z1124 v_z1125 v_z1126 v_z1127 v_z1128 =>
      try dsimp only at h
      exact pkk_sound TTok mix hF 0 (hs := []) (ts := []) (s := [0, 1]) (l := [0, 1, 2, 3, 4, 10, 11]) (by kernel_rfl) (by kernel_rfl) .nil (G_slices_pdqsortCmpFunc_lift_Req_h_L8_ok hF ks n v_cmp346 v_rec915 v_cmp346_g v_cmp346_c v_cmp346_h v_rec915_h k v_z1123 v_z1124 v_z1125 v_z1126 v_z1127 v_z1128 _ h q)
/- slices.pdqsortCmpFunc[ringhall/lift.Req] -/
def G_slices_pdqsortCmpFunc_lift_Req_h : Nat → (List S_lift_Req) → Int → Int → Int → (S_lift_Req → S_lift_Req → Option (Int)) → Option ((List S_lift_Req))
  | 0, _, _, _, _, _ => none
  | n + 1, v_data342, v_a343, v_b344, v_limit345, v_cmp346 =>
  (G_slices_pdqsortCmpFunc_lift_Req_h_L8 n v_cmp346 (fun x0 x1 x2 x3 => G_slices_pdqsortCmpFunc_lift_Req_h n x0 x1 x2 x3 v_cmp346) n v_a343 v_b344 v_limit345 true true v_data342).bind fun v_o1129 => match v_o1129 with
  | .x0 v_z1130 =>
    some v_z1130
theorem G_slices_pdqsortCmpFunc_lift_Req_h_ok : ∀ (n : Nat) (v_data342 : (List S_lift_Req)) (v_a343 : Int) (v_b344 : Int) (v_limit345 : Int) (v_cmp346 : (S_lift_Req → S_lift_Req → Option (Int))) (v_cmp346_g : FuncId) (v_cmp346_c : List PV) (v_cmp346_h : ∀ (x0 : S_lift_Req) (x1 : S_lift_Req) (r : Int), v_cmp346 x0 x1 = some r → Ret Try.prog v_cmp346_g ([eS_lift_Req x0, eS_lift_Req x1] ++ v_cmp346_c) ((eI .i64) r)) (r : (List S_lift_Req)) (h : G_slices_pdqsortCmpFunc_lift_Req_h n v_data342 v_a343 v_b344 v_limit345 v_cmp346 = some r), RetH Try.prog 39 [.srf 0, .d ((eI .i64) v_a343), .d ((eI .i64) v_b344), .d ((eI .i64) v_limit345), .d ((.clo v_cmp346_g v_cmp346_c))] [.row 26 3 (v_data342.map eS_lift_Req)] (.tup []) [.row 26 3 (r.map eS_lift_Req)]
  | 0, v_data342, v_a343, v_b344, v_limit345, v_cmp346, v_cmp346_g, v_cmp346_c, v_cmp346_h, r, h => by rw [G_slices_pdqsortCmpFunc_lift_Req_h] at h; cases h
  | n + 1, v_data342, v_a343, v_b344, v_limit345, v_cmp346, v_cmp346_g, v_cmp346_c, v_cmp346_h, r, h => by
    refine retH_run (n := 148) (fn := Try.f39) (c := bodyOf Try.f39) (by kernel_rfl) (by kernel_rfl) (by kernel_rfl) (by kernel_rfl) ?_
    have hF : KC 148 (FinH Try.prog Try.f39 [.row 26 3 (v_data342.map eS_lift_Req)] (.tup []) [.row 26 3 (r.map eS_lift_Req)]) := FinH.kc' (by kernel_rfl)
    rw [G_slices_pdqsortCmpFunc_lift_Req_h] at h
    obtain ⟨v_o1129, h915, h⟩ := bind_some h
    refine pkk_sound TTok mix hF 6 (hs := [.n n]) (ts := []) (s := [1, 0]) (l := [0, 1, 2, 3, 4, 10, 11]) (by kernel_rfl) (by kernel_rfl) .nil (G_slices_pdqsortCmpFunc_lift_Req_h_L8_ok hF (.b 0 :: []) n v_cmp346 (fun x0 x1 x2 x3 => G_slices_pdqsortCmpFunc_lift_Req_h n x0 x1 x2 x3 v_cmp346) v_cmp346_g v_cmp346_c v_cmp346_h (fun x0 x1 x2 x3 r h => G_slices_pdqsortCmpFunc_lift_Req_h_ok n x0 x1 x2 x3 v_cmp346 v_cmp346_g v_cmp346_c v_cmp346_h r h) n v_a343 v_b344 v_limit345 true true v_data342 _ h915 ?_)
    cases v_o1129 with
    | x0 v_z1130 =>
      try dsimp only at h
      obtain rfl := Option.some.inj h
      exact pendH_sound TTok mix 1 (hs := []) [1] (by kernel_rfl) (by kernel_rfl) (by kernel_rfl) .nil
/- slices.SortFunc[[]ringhall/lift.Req,ringhall/lift.Req] -/
def G_slices_SortFunc_lift_Req_lift_Req_h (n : Nat) (v_x328 : (List S_lift_Req)) (v_cmp329 : (S_lift_Req → S_lift_Req → Option (Int))) : Option ((List S_lift_Req)) :=
  (G_math_bits_Len n (wi .u64 (v_x328.length : Int))).bind fun (v_r341 : (Int)) =>
  (G_slices_pdqsortCmpFunc_lift_Req_h n v_x328 0 (v_x328.length : Int) v_r341 v_cmp329).bind fun (v_r1131 : ((List S_lift_Req))) =>
  some v_r1131
theorem G_slices_SortFunc_lift_Req_lift_Req_h_ok (n : Nat) (v_x328 : (List S_lift_Req)) (v_cmp329 : (S_lift_Req → S_lift_Req → Option (Int))) (v_cmp329_g : FuncId) (v_cmp329_c : List PV) (v_cmp329_h : ∀ (x0 : S_lift_Req) (x1 : S_lift_Req) (r : Int), v_cmp329 x0 x1 = some r → Ret Try.prog v_cmp329_g ([eS_lift_Req x0, eS_lift_Req x1] ++ v_cmp329_c) ((eI .i64) r)) (r : (List S_lift_Req)) (h : G_slices_SortFunc_lift_Req_lift_Req_h n v_x328 v_cmp329 = some r) : RetH Try.prog 35 [.srf 0, .d ((.clo v_cmp329_g v_cmp329_c))] [.row 26 3 (v_x328.map eS_lift_Req)] (.tup []) [.row 26 3 (r.map eS_lift_Req)] := by
  refine retH_run (n := 14) (fn := Try.f35) (c := bodyOf Try.f35) (by kernel_rfl) (by kernel_rfl) (by kernel_rfl) (by kernel_rfl) ?_
  have hF : KC 14 (FinH Try.prog Try.f35 [.row 26 3 (v_x328.map eS_lift_Req)] (.tup []) [.row 26 3 (r.map eS_lift_Req)]) := FinH.kc' (by kernel_rfl)
  unfold G_slices_SortFunc_lift_Req_lift_Req_h at h
  obtain ⟨v_r341, h175, h⟩ := bind_some h
  obtain ⟨v_r1131, h916, h⟩ := bind_some h
  obtain rfl := Option.some.inj h
  exact pendH_sound TTok mix 3 (hs := [.u (.d (.v (.int .i64 (v_x328.length : Int)))), .r ((eI .i64) v_r341), .h [0] [] [.row 26 3 (v_r1131.map eS_lift_Req)] (.tup [])]) [0] (by kernel_rfl) (by kernel_rfl) (by kernel_rfl) (.cons (len_ob (f := eS_lift_Req) (l := v_x328)) (.cons (G_math_bits_Len_ok n (wi .u64 (v_x328.length : Int)) _ h175) (.cons (G_slices_pdqsortCmpFunc_lift_Req_h_ok n v_x328 0 (v_x328.length : Int) v_r341 v_cmp329 v_cmp329_g v_cmp329_c v_cmp329_h _ h916) .nil)))
/- ringhall/lift.far -/
def G_lift_far (n : Nat) (v_head1135 : Int) (v_n1136 : Int) : Option (Int) :=
  some (remI (wi .i64 ((remI (wi .i64 (v_n1136 - v_head1135)) 256) + 256)) 256)
theorem G_lift_far_ok (n : Nat) (v_head1135 : Int) (v_n1136 : Int) (r : Int) (h : G_lift_far n v_head1135 v_n1136 = some r) : Ret Try.prog 27 [(eI .i64) v_head1135, (eI .i64) v_n1136] ((eI .i64) r) := by
  refine ret_run (n := 11) (fn := Try.f27) (c := bodyOf Try.f27) (by kernel_rfl) (by kernel_rfl) (by kernel_rfl) (by kernel_rfl) ?_
  have hF : KC 11 (FinR Try.prog Try.f27 ((eI .i64) r)) := FinR.kc' (by kernel_rfl)
  unfold G_lift_far at h
  obtain rfl := Option.some.inj h
  exact pend_sound TTok mix 5 (hs := []) (by kernel_rfl) (by kernel_rfl) (by kernel_rfl) (.cons (show (256 : Int) ≠ 0 by decide) (.cons (show (256 : Int) ≠ 0 by decide) .nil))
/- ringhall/lift.part$1 -/
def G_lift_part_1 (n : Nat) (v_a1132 : S_lift_Req) (v_b1133 : S_lift_Req) (v_c1134 : Int) : Option (Int) :=
  (G_lift_far n v_c1134 v_a1132.fSector).bind fun (v_r1137 : (Int)) =>
  (G_lift_far n v_c1134 v_b1133.fSector).bind fun (v_r1138 : (Int)) =>
  some (wi .i64 (v_r1137 - v_r1138))
theorem G_lift_part_1_ok (n : Nat) (v_a1132 : S_lift_Req) (v_b1133 : S_lift_Req) (v_c1134 : Int) (r : Int) (h : G_lift_part_1 n v_a1132 v_b1133 v_c1134 = some r) : Ret Try.prog 36 [eS_lift_Req v_a1132, eS_lift_Req v_b1133, .iptr [.v (.int .i64 v_c1134)] 0] ((eI .i64) r) := by
  refine ret_run (n := 15) (fn := Try.f36) (c := bodyOf Try.f36) (by kernel_rfl) (by kernel_rfl) (by kernel_rfl) (by kernel_rfl) ?_
  have hF : KC 15 (FinR Try.prog Try.f36 ((eI .i64) r)) := FinR.kc' (by kernel_rfl)
  unfold G_lift_part_1 at h
  obtain ⟨v_r1137, h919, h⟩ := bind_some h
  obtain ⟨v_r1138, h920, h⟩ := bind_some h
  obtain rfl := Option.some.inj h
  exact pend_sound TTok mix 5 (hs := [.c, .c, .r ((eI .i64) v_r1137), .c, .c, .r ((eI .i64) v_r1138)]) (by kernel_rfl) (by kernel_rfl) (by kernel_rfl) (.cons (G_lift_far_ok n v_c1134 v_a1132.fSector _ h919) (.cons (G_lift_far_ok n v_c1134 v_b1133.fSector _ h920) .nil))
inductive G_lift_part_L1_R where
  | x0 (v_w305 : (List (Int × (List Int))))
def G_lift_part_L1_ex : G_lift_part_L1_R → Ex
  | .x0 _ => .exit 0
def G_lift_part_L1_st (v_l298 : (List S_lift_Req)) (v_head299 : Int) : G_lift_part_L1_R → PS
  | .x0 v_w305 => ⟨(dd :: dd :: dd :: .ref 0 0 :: dd :: dd :: .srf 1 :: (dds 47 [])), [.box [.d (.v (.int .i64 v_head299))], .cu (mapR (fun x : Int => Value.int .i64 x) ((eL (eI .u8))) v_w305) []]⟩
def G_lift_part_L1_hd (v_l298 : (List S_lift_Req)) (v_head299 : Int) (v_x300 : Int) (v_w301 : (List (Int × (List Int)))) : PS := ⟨(dd :: dd :: dd :: .ref 0 0 :: dd :: dd :: .srf 1 :: dd :: dd :: dd :: dd :: dd :: dd :: .d (.sl (v_l298.map eS_lift_Req)) :: .d (.v (.int .i64 (v_l298.length : Int))) :: .d (.v (.int .i64 v_x300)) :: (dds 38 [])), [.box [.d (.v (.int .i64 v_head299))], .cu (mapR (fun x : Int => Value.int .i64 x) ((eL (eI .u8))) v_w301) []]⟩
def G_lift_part_L1 (n : Nat) (v_l298 : (List S_lift_Req)) (v_head299 : Int) : Nat → Int → (List (Int × (List Int))) → Option G_lift_part_L1_R
  | 0, _, _ => none
  | k + 1, v_x300, v_w301 =>
    if v_x300 < (v_l298.length : Int) then
     (getI v_l298 v_x300).bind fun (v_y304 : S_lift_Req) =>
     G_lift_part_L1 n v_l298 v_head299 k (wi .i64 (v_x300 + 1)) (mput v_w301 v_y304.fSector v_y304.fData)
    else
     some (.x0 v_w301)
theorem G_lift_part_L1_ok {Fi : Ex → PS → Prop} (hF : KC 54 Fi) (ks : List Fr) (n : Nat) (v_l298 : (List S_lift_Req)) (v_head299 : Int)  : ∀ (k : Nat) (v_x300 : Int) (v_w301 : (List (Int × (List Int)))) (o : G_lift_part_L1_R), G_lift_part_L1 n v_l298 v_head299 k v_x300 v_w301 = some o → RunE Try.prog 54 Fi ks (G_lift_part_L1_ex o) (G_lift_part_L1_st v_l298 v_head299 o) → RunE Try.prog 54 Fi (.l k (cP (cB (cR (cL (cR (cR (bodyOf Try.f26))))))) :: ks) .normal (G_lift_part_L1_hd v_l298 v_head299 v_x300 v_w301)
  | 0, v_x300, v_w301, o, h, q => by rw [G_lift_part_L1] at h; cases h
  | k + 1, v_x300, v_w301, o, h, q => by
    rw [G_lift_part_L1] at h
    by_cases h127 : v_x300 < (v_l298.length : Int)
    · rw [if_pos h127] at h
      obtain ⟨v_y304, h129, h⟩ := bind_some h
      exact pkk_sound TTok mix hF 13 (hs := [.t true, .y (eS_lift_Req v_y304), .c, .c, .c, .e 52 [1] (dd) [(1, .cu (mapR (fun x : Int => Value.int .i64 x) ((eL (eI .u8))) (mput v_w301 v_y304.fSector v_y304.fData)) [])]]) (ts := []) (s := [0, 1]) (l := [3, 6, 13, 14, 15]) (by kernel_rfl) (by kernel_rfl) (.cons (dt h127) (.cons (getI_ob (f := eS_lift_Req) h129) (.cons (show 0 + 3 ≤ 3 by decide) (.cons (rput (P := Try.prog) (T := TT) (t := 73) (kt := 3) (et := 24) (l := 1) (x := (.tmp 19)) (y := (.tmp 21)) (z := (.tmp 23)) (f := (fun x : Int => Value.int .i64 x)) (g := ((eL (eI .u8)))) (E := v_w301) (k := v_y304.fSector) (v := v_y304.fData) (kv_v _) (by kernel_rfl) (KOk.kw (KOk.int (by kernel_rfl))) (fun ow w u h => slone ow w u h)) .nil)))) (G_lift_part_L1_ok hF ks n v_l298 v_head299 k (wi .i64 (v_x300 + 1)) (mput v_w301 v_y304.fSector v_y304.fData) _ h q)
    · rw [if_neg h127] at h
      cases h
      exact pkk_sound TTok mix hF 8 (hs := [.t false]) (ts := []) (s := [0, 1]) (l := [3, 6]) (by kernel_rfl) (by kernel_rfl) (.cons (df h127) .nil) q
inductive G_lift_part_L2_R where
  | x0 (v_w314 : (List S_lift_Req))
def G_lift_part_L2_ex : G_lift_part_L2_R → Ex
  | .x0 _ => .exit 2
def G_lift_part_L2_st (v_head299 : Int) : G_lift_part_L2_R → PS
  | .x0 v_w314 => ⟨(dd :: dd :: dd :: .ref 0 0 :: dd :: dd :: dd :: dd :: dd :: .srf 1 :: (dds 44 [])), [.box [.d (.v (.int .i64 v_head299))], .row 26 3 (v_w314.map eS_lift_Req)]⟩
def G_lift_part_L2_hd (v_head299 : Int) (v_w308 : (List S_lift_Req)) (v_w309 : (List (Int × (List Int)))) : PS := ⟨(dd :: dd :: dd :: .ref 0 0 :: dd :: dd :: dd :: dd :: dd :: .srf 1 :: (dds 16 (.ref 2 0 :: (dds 27 [])))), [.box [.d (.v (.int .i64 v_head299))], .row 26 3 (v_w308.map eS_lift_Req), .cu (itR (fun x : Int => Value.int .i64 x) ((eL (eI .u8))) v_w309 none) []]⟩
def G_lift_part_L2 (n : Nat) (v_head299 : Int) : Nat → (List S_lift_Req) → (List (Int × (List Int))) → Option G_lift_part_L2_R
  | 0, _, _ => none
  | k + 1, v_w308, [] =>
    some (.x0 v_w308)
  | k + 1, v_w308, (v_m311, v_m312) :: v_m313 =>
    (G_slices_Clone_byte_byte n v_m312).bind fun (v_r324 : ((List Int))) =>
    (app 40 v_w308 ([(S_lift_Req.mk v_m311 v_r324 false)])).bind fun (v_a325 : (List S_lift_Req)) =>
    G_lift_part_L2 n v_head299 k v_a325 v_m313
theorem G_lift_part_L2_ok {Fi : Ex → PS → Prop} (hF : KC 54 Fi) (ks : List Fr) (n : Nat) (v_head299 : Int)  : ∀ (k : Nat) (v_w308 : (List S_lift_Req)) (v_w309 : (List (Int × (List Int)))), (∀ ord, ord.Perm v_w309 → ∃ o, G_lift_part_L2 n v_head299 k v_w308 ord = some o ∧ RunE Try.prog 54 Fi ks (G_lift_part_L2_ex o) (G_lift_part_L2_st v_head299 o)) → RunE Try.prog 54 Fi (.l k (cP (cB (cR (cL (cR (cR (cR (cR (bodyOf Try.f26))))))))) :: ks) .normal (G_lift_part_L2_hd v_head299 v_w308 v_w309)
  | 0, v_w308, v_w309, h => by obtain ⟨o, h, _⟩ := h _ (List.Perm.refl _); rw [G_lift_part_L2] at h; cases h
  | k + 1, v_w308, v_w309, h => by
    refine pkk_sound TTok mix hF 2 (hs := []) (ts := []) (s := [0, 1, 2]) (l := [3, 9, 26]) (by kernel_rfl) (by kernel_rfl) .nil (nd_next (c := cL (cP (cB (cR (cL (cR (cR (cR (cR (bodyOf Try.f26)))))))))) (st := ⟨(dd :: dd :: dd :: .ref 0 0 :: dd :: dd :: dd :: dd :: dd :: .srf 1 :: (dds 16 (.ref 2 0 :: (dds 27 [])))), [.box [.d (.v (.int .i64 v_head299))], .row 26 3 (v_w308.map eS_lift_Req), .cu (itR (fun x : Int => Value.int .i64 x) ((eL (eI .u8))) v_w309 none) []]⟩) (f := (fun x : Int => Value.int .i64 x)) (g := ((eL (eI .u8)))) (it := 26) (d1 := 27) (d2 := 28) (l := 2) (rest := v_w309) (cur := none) (ks := (.s (cR (cP (cB (cR (cL (cR (cR (cR (cR (bodyOf Try.f26)))))))))) :: .l k (cP (cB (cR (cL (cR (cR (cR (cR (bodyOf Try.f26))))))))) :: ks)) (by kernel_rfl) (by kernel_rfl) (by kernel_rfl) (by kernel_rfl) (fun hr => ?_) (fun A p B hr => ?_))
    · obtain ⟨o, h, q⟩ := h [] (by rw [hr])
      rw [G_lift_part_L2] at h
      cases h
      exact pkk_sound TTok mix hF 5 (hs := [.c]) (ts := []) (s := [0, 1]) (l := [3, 9]) (by kernel_rfl) (by kernel_rfl) .nil q
    · obtain ⟨v_m311, v_m312⟩ := p
      obtain ⟨v_m313, hvt⟩ : ∃ q, q = A ++ B := ⟨_, rfl⟩
      rw [← hvt]
      have h : ∀ ord, ord.Perm v_m313 → ∃ o, G_lift_part_L2 n v_head299 (k + 1) v_w308 ((v_m311, v_m312) :: ord) = some o ∧ RunE Try.prog 54 Fi ks (G_lift_part_L2_ex o) (G_lift_part_L2_st v_head299 o) := fun ord hp => h _ (by rw [hr]; rw [hvt] at hp; exact (List.Perm.cons _ hp).trans List.perm_middle.symm)
      simp only [G_lift_part_L2] at h
      obtain ⟨v_r324, h135⟩ : ∃ q, G_slices_Clone_byte_byte n v_m312 = some q := by
        obtain ⟨o, ho, _⟩ := h _ (List.Perm.refl _)
        obtain ⟨q, hq, _⟩ := bind_some ho
        exact ⟨q, hq⟩
      simp only [h135, Option.bind_some] at h
      obtain ⟨v_a325, h136⟩ : ∃ q, app 40 v_w308 ([(S_lift_Req.mk v_m311 v_r324 false)]) = some q := by
        obtain ⟨o, ho, _⟩ := h _ (List.Perm.refl _)
        obtain ⟨q, hq, _⟩ := bind_some ho
        exact ⟨q, hq⟩
      simp only [h136, Option.bind_some] at h
      exact pkk_sound TTok mix hF 8 (hs := [.c, .e 3 [2] (.d (.tup [.v (.int .i64 v_m311), .sl (v_m312.map (eI .u8))])) [(2, .cu (itR (fun x : Int => Value.int .i64 x) ((eL (eI .u8))) v_m313 none) [])], .r ((eL (eI .u8)) v_r324), .bd, .w (v_a325.map eS_lift_Req)]) (ts := []) (s := [0, 58, 2]) (l := [3, 9, 26]) (by kernel_rfl) (by kernel_rfl) (.cons (rentry (P := Try.prog) (T := TT) (l := 2) (x := (.tmp 26)) (f := (fun x : Int => Value.int .i64 x)) (g := ((eL (eI .u8)))) (rest := v_m313) (k := v_m311) (v := v_m312) rfl) (.cons (G_slices_Clone_byte_byte_okD n v_m312 _ h135) (.cons (app_ob (f := eS_lift_Req) (s := 3) h136 (fun _ => rfl)).1 (.cons (app_ob (f := eS_lift_Req) (s := 3) h136 (fun _ => rfl)).2.1 (.cons (app_ob (f := eS_lift_Req) (s := 3) h136 (fun _ => rfl)).2.2.1 (.cons (app_ob (f := eS_lift_Req) (s := 3) h136 (fun _ => rfl)).2.2.2 .nil)))))) (G_lift_part_L2_ok hF ks n v_head299 k v_a325 v_m313 h)
/- ringhall/lift.part -/
def G_lift_part_E (n : Nat) (v_l298 : (List S_lift_Req)) (v_head299 : Int) : Option (List (Int × (List Int))) :=
  (G_lift_part_L1 n v_l298 v_head299 n 0 ([] : (List (Int × (List Int))))).bind fun v_o306 => match v_o306 with
  | .x0 v_z307 =>
    some v_z307
def G_lift_part_o (n : Nat) (v_l298 : (List S_lift_Req)) (v_head299 : Int) (v_ord : (List (Int × (List Int)))) : Option ((List S_lift_Req) × Int) :=
  (G_lift_part_L1 n v_l298 v_head299 n 0 ([] : (List (Int × (List Int))))).bind fun v_o306 => match v_o306 with
  | .x0 v_z307 =>
    (G_lift_part_L2 n v_head299 n ([] : List S_lift_Req) v_ord).bind fun v_o326 => match v_o326 with
    | .x0 v_z327 =>
      (G_slices_SortFunc_lift_Req_lift_Req_h n v_z327 (fun (y0 : S_lift_Req) (y1 : S_lift_Req) => G_lift_part_1 n y0 y1 v_head299)).bind fun (v_r1139 : ((List S_lift_Req))) =>
      if (v_r1139.length : Int) > 0 then
       if 0 ≤ (wi .i64 ((v_r1139.length : Int) - 1)) ∧ ((wi .i64 ((v_r1139.length : Int) - 1))).toNat < v_r1139.length then
        (v_r1139[((wi .i64 ((v_r1139.length : Int) - 1))).toNat]?).bind fun (v_y1141 : S_lift_Req) =>
        some (v_r1139, v_y1141.fSector)
       else none
      else
       some (v_r1139, v_head299)
theorem G_lift_part_oo (n : Nat) (v_l298 : (List S_lift_Req)) (v_head299 : Int) (E : (List (Int × (List Int)))) (r : (List S_lift_Req) × Int) (h1 : G_lift_part_E n v_l298 v_head299 = some E) (h : ∀ ord, ord.Perm E → G_lift_part_o n v_l298 v_head299 ord = some r) : Ret Try.prog 26 [(eL eS_lift_Req) v_l298, (eI .i64) v_head299] (.tup [(eL eS_lift_Req) r.1, (eI .i64) r.2]) := by
  refine ret_run (n := 54) (fn := Try.f26) (c := bodyOf Try.f26) (by kernel_rfl) (by kernel_rfl) (by kernel_rfl) (by kernel_rfl) ?_
  have hF : KC 54 (FinR Try.prog Try.f26 (.tup [(eL eS_lift_Req) r.1, (eI .i64) r.2])) := FinR.kc' (by kernel_rfl)
  unfold G_lift_part_E at h1
  simp only [G_lift_part_o] at h
  obtain ⟨v_o306, h130, h1⟩ := bind_some h1
  simp only [h130, Option.bind_some] at h
  refine pkk_sound TTok mix hF 9 (hs := [.e 15 [15] (.srf 15) [(15, .cu (mapR (fun x : Int => Value.int .i64 x) ((eL (eI .u8))) ([] : (List (Int × (List Int))))) [])], .u (.d (.v (.int .i64 (v_l298.length : Int)))), .n n]) (ts := []) (s := [0, 15]) (l := [3, 6, 13, 14, 15]) (by kernel_rfl) (by kernel_rfl) (.cons (rmake (P := Try.prog) (T := TT) (t := 73) (nl := 15) (fun x : Int => Value.int .i64 x) ((eL (eI .u8)))) (.cons (len_ob (f := eS_lift_Req) (l := v_l298)) .nil)) (G_lift_part_L1_ok hF (.b 0 :: .s (cR (cR (cR (bodyOf Try.f26)))) :: []) n v_l298 v_head299 n 0 ([] : (List (Int × (List Int)))) _ h130 ?_)
  cases v_o306 with
  | x0 v_z307 =>
    try dsimp only at h1 h
    obtain hE := Option.some.inj h1; subst hE
    refine pkk_sound TTok mix hF 8 (hs := [.e 12 [1, 12] (.ref 12 0) [(1, .none), (12, .cu (itR (fun x : Int => Value.int .i64 x) ((eL (eI .u8))) v_z307 none) [])], .n n]) (ts := [(9, 26, 3)]) (s := [0, 17, 12]) (l := [3, 9, 26]) (by kernel_rfl) (by kernel_rfl) (.cons (rrange (P := Try.prog) (T := TT) (t := 73) (kt := 3) (et := 24) (l := 1) (nl := 12) (x := (.tmp 25)) (f := (fun x : Int => Value.int .i64 x)) (g := ((eL (eI .u8)))) (E := v_z307) (by kernel_rfl) (by decide)) .nil) (G_lift_part_L2_ok hF (.b 2 :: .s (cR (cR (cR (cR (cR (bodyOf Try.f26)))))) :: []) n v_head299 n ([] : List S_lift_Req) v_z307 (fun ord hp => ?_))
    obtain ⟨v_o326, h137, h⟩ := bind_some (h ord hp)
    refine ⟨v_o326, h137, ?_⟩
    cases v_o326 with
    | x0 v_z327 =>
      try dsimp only at h
      obtain ⟨v_r1139, h921, h⟩ := bind_some h
      by_cases h925 : (v_r1139.length : Int) > 0
      · rw [if_pos h925] at h
        by_cases h926 : 0 ≤ (wi .i64 ((v_r1139.length : Int) - 1)) ∧ ((wi .i64 ((v_r1139.length : Int) - 1))).toNat < v_r1139.length
        · rw [if_pos h926] at h
          obtain ⟨v_y1141, h927, h⟩ := bind_some h
          obtain rfl := Option.some.inj h
          exact pend_sound TTok mix 11 (hs := [.e 12 [1, 0] (.d (.tup [])) [(1, .row 26 3 (v_r1139.map eS_lift_Req))], .u (.d (.v (.int .i64 (v_r1139.length : Int)))), .t true, .u (.d (.v (.int .i64 (v_r1139.length : Int)))), .y (eS_lift_Req v_y1141), .c, .c]) (by kernel_rfl) (by kernel_rfl) (by kernel_rfl) (.cons (hlook (P := Try.prog) (T := TT) (f := .func 35) (x := (.tmp 39)) (y := (.tmp 40)) (tys := #[22, 75]) (g := 35) (g2 := 36) (l := 1) (L := 0) (e := 26) (s := 3) (h := v_head299) (xs := (v_z327.map eS_lift_Req)) (ys := (v_r1139.map eS_lift_Req)) (G_slices_SortFunc_lift_Req_lift_Req_h_ok n v_z327 (fun (y0 : S_lift_Req) (y1 : S_lift_Req) => G_lift_part_1 n y0 y1 v_head299) 36 [.iptr [.v (.int .i64 v_head299)] 0] (fun y0 y1 r h => G_lift_part_1_ok n y0 y1 v_head299 r h) _ h921) (all_clean (fun x => by simp [clean, cleanL, isU8, eI, eS_lift_Req])) (by decide)) (.cons (len_ob (f := eS_lift_Req) (l := v_r1139)) (.cons (dt h925) (.cons (len_ob (f := eS_lift_Req) (l := v_r1139)) (.cons (idx_ob (f := eS_lift_Req) h926) (.cons (get_ob (f := eS_lift_Req) h927) (.cons (show 0 + 1 ≤ 1 by decide) .nil)))))))
        · rw [if_neg h926] at h; cases h
      · rw [if_neg h925] at h
        obtain rfl := Option.some.inj h
        exact pend_sound TTok mix 11 (hs := [.e 12 [1, 0] (.d (.tup [])) [(1, .row 26 3 (v_r1139.map eS_lift_Req))], .u (.d (.v (.int .i64 (v_r1139.length : Int)))), .t false, .c]) (by kernel_rfl) (by kernel_rfl) (by kernel_rfl) (.cons (hlook (P := Try.prog) (T := TT) (f := .func 35) (x := (.tmp 39)) (y := (.tmp 40)) (tys := #[22, 75]) (g := 35) (g2 := 36) (l := 1) (L := 0) (e := 26) (s := 3) (h := v_head299) (xs := (v_z327.map eS_lift_Req)) (ys := (v_r1139.map eS_lift_Req)) (G_slices_SortFunc_lift_Req_lift_Req_h_ok n v_z327 (fun (y0 : S_lift_Req) (y1 : S_lift_Req) => G_lift_part_1 n y0 y1 v_head299) 36 [.iptr [.v (.int .i64 v_head299)] 0] (fun y0 y1 r h => G_lift_part_1_ok n y0 y1 v_head299 r h) _ h921) (all_clean (fun x => by simp [clean, cleanL, isU8, eI, eS_lift_Req])) (by decide)) (.cons (len_ob (f := eS_lift_Req) (l := v_r1139)) (.cons (df h925) .nil)))
instance : DecidableEq S_lift_Req := fun a b => if h : a.fSector = b.fSector ∧ a.fData = b.fData ∧ a.fBarrier = b.fBarrier then isTrue (by cases a; cases b; simp_all) else isFalse (fun e => h (by subst e; simp))
def G_lift_part (n : Nat) (v_l298 : (List S_lift_Req)) (v_head299 : Int) : Option ((List S_lift_Req) × Int) := (G_lift_part_E n v_l298 v_head299).bind fun E => (G_lift_part_o n v_l298 v_head299 E).bind fun r => if (perms E).all (fun q => decide (G_lift_part_o n v_l298 v_head299 q = some r)) = true then some r else none
theorem G_lift_part_ok (n : Nat) (v_l298 : (List S_lift_Req)) (v_head299 : Int) (r : (List S_lift_Req) × Int) (h : G_lift_part n v_l298 v_head299 = some r) : Ret Try.prog 26 [(eL eS_lift_Req) v_l298, (eI .i64) v_head299] (.tup [(eL eS_lift_Req) r.1, (eI .i64) r.2]) := by
  unfold G_lift_part at h
  obtain ⟨E, h1, h⟩ := bind_some h
  obtain ⟨r', h2, h⟩ := bind_some h
  by_cases h3 : (perms E).all (fun q => decide (G_lift_part_o n v_l298 v_head299 q = some r')) = true
  · rw [if_pos h3] at h
    obtain rfl := Option.some.inj h
    exact G_lift_part_oo n v_l298 v_head299 E _ h1 (fun ord hp => of_decide_eq_true (List.all_eq_true.1 h3 ord (mem_perms hp)))
  · rw [if_neg h3] at h; cases h
inductive G_lift_Order_C1_R where
  | x0 (v_n1150 : Int) (v_w1151 : (List S_lift_Req))
def G_lift_Order_C1_ex : G_lift_Order_C1_R → Ex
  | .x0 _ _ => .normal
def G_lift_Order_C1_st (v_l283 : (List S_lift_Req)) (v_head284 : Int) (v_r1148 : (Int)) (v_w285 : (List S_lift_Req)) : G_lift_Order_C1_R → PS
  | .x0 v_n1150 v_w1151 => ⟨(.d (.sl (v_l283.map eS_lift_Req)) :: .d (.v (.int .i64 v_head284)) :: dd :: dd :: dd :: dd :: dd :: .srf 0 :: .d (.v (.int .i64 v_n1150)) :: (dds 46 [])), [.row 26 3 (v_w1151.map eS_lift_Req)]⟩
def G_lift_Order_C1_hd (v_l283 : (List S_lift_Req)) (v_head284 : Int) (v_r1148 : (Int)) (v_w285 : (List S_lift_Req))  : PS := ⟨(.d (.sl (v_l283.map eS_lift_Req)) :: .d (.v (.int .i64 v_head284)) :: dd :: dd :: dd :: dd :: dd :: .srf 0 :: .d (.v (.int .i64 v_r1148)) :: (dds 18 (.d (.v (.bool (decide (v_r1148 < 0)))) :: (dds 27 [])))), [.row 26 3 (v_w285.map eS_lift_Req)]⟩
def G_lift_Order_C1 (n : Nat) (v_l283 : (List S_lift_Req)) (v_head284 : Int) (v_r1148 : (Int)) (v_w285 : (List S_lift_Req)) : Option G_lift_Order_C1_R :=
  if v_r1148 < 0 then
   some (.x0 (v_l283.length : Int) v_w285)
  else
   some (.x0 v_r1148 v_w285)
theorem G_lift_Order_C1_ok {Fi : Ex → PS → Prop} (hF : KC 55 Fi) (ks : List Fr) (n : Nat) (v_l283 : (List S_lift_Req)) (v_head284 : Int) (v_r1148 : (Int)) (v_w285 : (List S_lift_Req))  (o : G_lift_Order_C1_R) (h : G_lift_Order_C1 n v_l283 v_head284 v_r1148 v_w285 = some o) (q : RunE Try.prog 55 Fi ks (G_lift_Order_C1_ex o) (G_lift_Order_C1_st v_l283 v_head284 v_r1148 v_w285 o)) : RunE Try.prog 55 Fi (.s (cR (cL (cR (cB (cR (cP (cB (cL (cR (cR (cR (cR (bodyOf Try.f6))))))))))))) :: ks) .normal (G_lift_Order_C1_hd v_l283 v_head284 v_r1148 v_w285) := by
  unfold G_lift_Order_C1 at h
  by_cases h938 : v_r1148 < 0
  · rw [if_pos h938] at h
    cases h
    exact pkk_sound TTok mix hF 2 (hs := [.t true, .u (.d (.v (.int .i64 (v_l283.length : Int))))]) (ts := []) (s := [0]) (l := [0, 1, 7, 8]) (by kernel_rfl) (by kernel_rfl) (.cons (dt h938) (.cons (len_ob (f := eS_lift_Req) (l := v_l283)) .nil)) q
  · rw [if_neg h938] at h
    cases h
    exact pkk_sound TTok mix hF 2 (hs := [.t false]) (ts := []) (s := [0]) (l := [0, 1, 7, 8]) (by kernel_rfl) (by kernel_rfl) (.cons (df h938) .nil) q
inductive G_lift_Order_L2_R where
  | x0 (v_w1164 : (List S_lift_Req))
def G_lift_Order_L2_ex : G_lift_Order_L2_R → Ex
  | .x0 _ => .exit 0
def G_lift_Order_L2_st  : G_lift_Order_L2_R → PS
  | .x0 v_w1164 => ⟨(dd :: dd :: dd :: dd :: dd :: dd :: dd :: .srf 0 :: (dds 47 [])), [.row 26 3 (v_w1164.map eS_lift_Req)]⟩
def G_lift_Order_L2_hd  (v_l283 : (List S_lift_Req)) (v_head284 : Int) (v_w285 : (List S_lift_Req)) : PS := ⟨(.d (.sl (v_l283.map eS_lift_Req)) :: .d (.v (.int .i64 v_head284)) :: dd :: dd :: dd :: dd :: dd :: .srf 0 :: (dds 47 [])), [.row 26 3 (v_w285.map eS_lift_Req)]⟩
def G_lift_Order_L2 (n : Nat)  : Nat → (List S_lift_Req) → Int → (List S_lift_Req) → Option G_lift_Order_L2_R
  | 0, _, _, _ => none
  | k + 1, v_l283, v_head284, v_w285 =>
    if (v_l283.length : Int) > 0 then
     (G_slices_IndexFunc_lift_Req_lift_Req n v_l283 (fun (y0 : S_lift_Req) => G_lift_Order_1 n y0)).bind fun (v_r1148 : (Int)) =>
     (G_lift_Order_C1 n v_l283 v_head284 v_r1148 v_w285).bind fun v_o1154 => match v_o1154 with
     | .x0 v_z1155 v_z1156 =>
       (sub v_l283 0 v_z1155).bind fun (v_s1157 : (List S_lift_Req)) =>
       (G_lift_part n v_s1157 v_head284).bind fun (v_r1158 : ((List S_lift_Req) × Int)) =>
       (app 40 v_z1156 v_r1158.1).bind fun (v_a1159 : (List S_lift_Req)) =>
       if v_z1155 < (v_l283.length : Int) then
        (app 40 v_a1159 ([(S_lift_Req.mk 0 ([] : (List Int)) true)])).bind fun (v_a1161 : (List S_lift_Req)) =>
        (sub v_l283 (wi .i64 (v_z1155 + 1)) (v_l283.length : Int)).bind fun (v_s1162 : (List S_lift_Req)) =>
        G_lift_Order_L2 n  k v_s1162 v_r1158.2 v_a1161
       else
        (sub v_l283 v_z1155 (v_l283.length : Int)).bind fun (v_s1163 : (List S_lift_Req)) =>
        G_lift_Order_L2 n  k v_s1163 v_r1158.2 v_a1159
    else
     some (.x0 v_w285)
theorem G_lift_Order_L2_ok {Fi : Ex → PS → Prop} (hF : KC 55 Fi) (ks : List Fr) (n : Nat)   : ∀ (k : Nat) (v_l283 : (List S_lift_Req)) (v_head284 : Int) (v_w285 : (List S_lift_Req)) (o : G_lift_Order_L2_R), G_lift_Order_L2 n  k v_l283 v_head284 v_w285 = some o → RunE Try.prog 55 Fi ks (G_lift_Order_L2_ex o) (G_lift_Order_L2_st  o) → RunE Try.prog 55 Fi (.l k (cP (cB (cL (cR (cR (cR (cR (bodyOf Try.f6)))))))) :: ks) .normal (G_lift_Order_L2_hd  v_l283 v_head284 v_w285)
  | 0, v_l283, v_head284, v_w285, o, h, q => by rw [G_lift_Order_L2] at h; cases h
  | k + 1, v_l283, v_head284, v_w285, o, h, q => by
    rw [G_lift_Order_L2] at h
    by_cases h121 : (v_l283.length : Int) > 0
    · rw [if_pos h121] at h
      obtain ⟨v_r1148, h936, h⟩ := bind_some h
      obtain ⟨v_o1154, h939, h⟩ := bind_some h
      refine pkk_sound TTok mix hF 12 (hs := [.u (.d (.v (.int .i64 (v_l283.length : Int)))), .t true, .r ((eI .i64) v_r1148)]) (ts := []) (s := [0]) (l := [0, 1, 7, 8, 27]) (by kernel_rfl) (by kernel_rfl) (.cons (len_ob (f := eS_lift_Req) (l := v_l283)) (.cons (dt h121) (.cons (G_slices_IndexFunc_lift_Req_lift_Req_ok n v_l283 (fun (y0 : S_lift_Req) => G_lift_Order_1 n y0) 25 [] (fun y0 r h => G_lift_Order_1_ok n y0 r h) _ h936) .nil))) (G_lift_Order_C1_ok hF (.s (cR (cR (cB (cR (cP (cB (cL (cR (cR (cR (cR (bodyOf Try.f6)))))))))))) :: .b 1 :: .l k (cP (cB (cL (cR (cR (cR (cR (bodyOf Try.f6)))))))) :: ks) n v_l283 v_head284 v_r1148 v_w285 _ h939 ?_)
      cases v_o1154 with
      | x0 v_z1155 v_z1156 =>
        try dsimp only at h
        obtain ⟨v_s1157, h940, h⟩ := bind_some h
        obtain ⟨v_r1158, h941, h⟩ := bind_some h
        obtain ⟨v_a1159, h942, h⟩ := bind_some h
        by_cases h945 : v_z1155 < (v_l283.length : Int)
        · rw [if_pos h945] at h
          obtain ⟨v_a1161, h946, h⟩ := bind_some h
          obtain ⟨v_s1162, h947, h⟩ := bind_some h
          exact pkk_sound TTok mix hF 15 (hs := [.w (v_s1157.map eS_lift_Req), .r (.tup [(eL eS_lift_Req) v_r1158.1, (eI .i64) v_r1158.2]), .w (v_a1159.map eS_lift_Req), .u (.d (.v (.int .i64 (v_l283.length : Int)))), .t true, .bd, .w (v_a1161.map eS_lift_Req), .w (v_s1162.map eS_lift_Req)]) (ts := []) (s := [111]) (l := [0, 1, 7]) (by kernel_rfl) (by kernel_rfl) (.cons (sub_ob (f := eS_lift_Req) (s := 3) h940 (fun _ => rfl)).1 (.cons (sub_ob (f := eS_lift_Req) (s := 3) h940 (fun _ => rfl)).2.1 (.cons (sub_ob (f := eS_lift_Req) (s := 3) h940 (fun _ => rfl)).2.2.1 (.cons (sub_ob (f := eS_lift_Req) (s := 3) h940 (fun _ => rfl)).2.2.2.1 (.cons (sub_ob (f := eS_lift_Req) (s := 3) h940 (fun _ => rfl)).2.2.2.2 (.cons (G_lift_part_ok n v_s1157 v_head284 _ h941) (.cons (app_ob (f := eS_lift_Req) (s := 3) h942 (fun _ => rfl)).1 (.cons (app_ob (f := eS_lift_Req) (s := 3) h942 (fun _ => rfl)).2.1 (.cons (app_ob (f := eS_lift_Req) (s := 3) h942 (fun _ => rfl)).2.2.1 (.cons (app_ob (f := eS_lift_Req) (s := 3) h942 (fun _ => rfl)).2.2.2 (.cons (len_ob (f := eS_lift_Req) (l := v_l283)) (.cons (dt h945) (.cons (app_ob (f := eS_lift_Req) (s := 3) h946 (fun _ => rfl)).1 (.cons (app_ob (f := eS_lift_Req) (s := 3) h946 (fun _ => rfl)).2.1 (.cons (app_ob (f := eS_lift_Req) (s := 3) h946 (fun _ => rfl)).2.2.1 (.cons (app_ob (f := eS_lift_Req) (s := 3) h946 (fun _ => rfl)).2.2.2 (.cons (sub_ob' (f := eS_lift_Req) (s := 3) h947 (fun _ => rfl)).1 (.cons (sub_ob' (f := eS_lift_Req) (s := 3) h947 (fun _ => rfl)).2.1 (.cons (sub_ob' (f := eS_lift_Req) (s := 3) h947 (fun _ => rfl)).2.2.1 (.cons (sub_ob' (f := eS_lift_Req) (s := 3) h947 (fun _ => rfl)).2.2.2.1 (.cons (sub_ob' (f := eS_lift_Req) (s := 3) h947 (fun _ => rfl)).2.2.2.2 .nil))))))))))))))))))))) (G_lift_Order_L2_ok hF ks n  k v_s1162 v_r1158.2 v_a1161 _ h q)
        · rw [if_neg h945] at h
          obtain ⟨v_s1163, h948, h⟩ := bind_some h
          exact pkk_sound TTok mix hF 13 (hs := [.w (v_s1157.map eS_lift_Req), .r (.tup [(eL eS_lift_Req) v_r1158.1, (eI .i64) v_r1158.2]), .w (v_a1159.map eS_lift_Req), .u (.d (.v (.int .i64 (v_l283.length : Int)))), .t false, .w (v_s1163.map eS_lift_Req)]) (ts := []) (s := [66]) (l := [0, 1, 7]) (by kernel_rfl) (by kernel_rfl) (.cons (sub_ob (f := eS_lift_Req) (s := 3) h940 (fun _ => rfl)).1 (.cons (sub_ob (f := eS_lift_Req) (s := 3) h940 (fun _ => rfl)).2.1 (.cons (sub_ob (f := eS_lift_Req) (s := 3) h940 (fun _ => rfl)).2.2.1 (.cons (sub_ob (f := eS_lift_Req) (s := 3) h940 (fun _ => rfl)).2.2.2.1 (.cons (sub_ob (f := eS_lift_Req) (s := 3) h940 (fun _ => rfl)).2.2.2.2 (.cons (G_lift_part_ok n v_s1157 v_head284 _ h941) (.cons (app_ob (f := eS_lift_Req) (s := 3) h942 (fun _ => rfl)).1 (.cons (app_ob (f := eS_lift_Req) (s := 3) h942 (fun _ => rfl)).2.1 (.cons (app_ob (f := eS_lift_Req) (s := 3) h942 (fun _ => rfl)).2.2.1 (.cons (app_ob (f := eS_lift_Req) (s := 3) h942 (fun _ => rfl)).2.2.2 (.cons (len_ob (f := eS_lift_Req) (l := v_l283)) (.cons (df h945) (.cons (sub_ob' (f := eS_lift_Req) (s := 3) h948 (fun _ => rfl)).1 (.cons (sub_ob' (f := eS_lift_Req) (s := 3) h948 (fun _ => rfl)).2.1 (.cons (sub_ob' (f := eS_lift_Req) (s := 3) h948 (fun _ => rfl)).2.2.1 (.cons (sub_ob' (f := eS_lift_Req) (s := 3) h948 (fun _ => rfl)).2.2.2.1 (.cons (sub_ob' (f := eS_lift_Req) (s := 3) h948 (fun _ => rfl)).2.2.2.2 .nil))))))))))))))))) (G_lift_Order_L2_ok hF ks n  k v_s1163 v_r1158.2 v_a1159 _ h q)
    · rw [if_neg h121] at h
      cases h
      exact pkk_sound TTok mix hF 8 (hs := [.u (.d (.v (.int .i64 (v_l283.length : Int)))), .t false]) (ts := []) (s := [0]) (l := [7]) (by kernel_rfl) (by kernel_rfl) (.cons (len_ob (f := eS_lift_Req) (l := v_l283)) (.cons (df h121) .nil)) q
/- ringhall/lift.Order -/
def G_lift_Order (n : Nat) (v_l280 : (List S_lift_Req)) (v_head281 : Int) : Option ((List S_lift_Req) × Int) :=
  if v_head281 < 0 then
   some (([] : (List S_lift_Req)), 1)
  else
   if v_head281 ≥ 256 then
    some (([] : (List S_lift_Req)), 1)
   else
    (G_lift_Right n v_l280).bind fun (v_r282 : (Int)) =>
    if v_r282 = 0 then
     (G_lift_Order_L2 n  n v_l280 v_head281 ([] : List S_lift_Req)).bind fun v_o1165 => match v_o1165 with
     | .x0 v_z1166 =>
       some (v_z1166, 0)
    else
     some (([] : (List S_lift_Req)), v_r282)
theorem G_lift_Order_ok (n : Nat) (v_l280 : (List S_lift_Req)) (v_head281 : Int) (r : (List S_lift_Req) × Int) (h : G_lift_Order n v_l280 v_head281 = some r) : Ret Try.prog 6 [(eL eS_lift_Req) v_l280, (eI .i64) v_head281] (.tup [(eL eS_lift_Req) r.1, (eI .i64) r.2]) := by
  refine ret_run (n := 55) (fn := Try.f6) (c := bodyOf Try.f6) (by kernel_rfl) (by kernel_rfl) (by kernel_rfl) (by kernel_rfl) ?_
  have hF : KC 55 (FinR Try.prog Try.f6 (.tup [(eL eS_lift_Req) r.1, (eI .i64) r.2])) := FinR.kc' (by kernel_rfl)
  unfold G_lift_Order at h
  by_cases h116 : v_head281 < 0
  · rw [if_pos h116] at h
    obtain rfl := Option.some.inj h
    exact pend_sound TTok mix 10 (hs := [.t true, .c, .c]) (by kernel_rfl) (by kernel_rfl) (by kernel_rfl) (.cons (dt h116) .nil)
  · rw [if_neg h116] at h
    by_cases h117 : v_head281 ≥ 256
    · rw [if_pos h117] at h
      obtain rfl := Option.some.inj h
      exact pend_sound TTok mix 10 (hs := [.t false, .c, .t true]) (by kernel_rfl) (by kernel_rfl) (by kernel_rfl) (.cons (df h116) (.cons (dt h117) .nil))
    · rw [if_neg h117] at h
      obtain ⟨v_r282, h118, h⟩ := bind_some h
      by_cases h120 : v_r282 = 0
      · rw [if_pos h120] at h
        obtain ⟨v_o1165, h949, h⟩ := bind_some h
        refine pkk_sound TTok mix hF 19 (hs := [.t false, .c, .t false, .r ((eI .i64) v_r282), .t false, .n n]) (ts := [(7, 26, 3)]) (s := [70]) (l := [0, 1, 7]) (by kernel_rfl) (by kernel_rfl) (.cons (df h116) (.cons (df h117) (.cons (G_lift_Right_ok n v_l280 _ h118) (.cons (nf h120) .nil)))) (G_lift_Order_L2_ok hF (.b 0 :: .s (cR (cR (cR (cR (cR (bodyOf Try.f6)))))) :: []) n  n v_l280 v_head281 ([] : List S_lift_Req) _ h949 ?_)
        cases v_o1165 with
        | x0 v_z1166 =>
          try dsimp only at h
          obtain rfl := Option.some.inj h
          exact pend_sound TTok mix 4 (hs := []) (by kernel_rfl) (by kernel_rfl) (by kernel_rfl) .nil
      · rw [if_neg h120] at h
        obtain rfl := Option.some.inj h
        exact pend_sound TTok mix 17 (hs := [.t false, .c, .t false, .r ((eI .i64) v_r282), .t true]) (by kernel_rfl) (by kernel_rfl) (by kernel_rfl) (.cons (df h116) (.cons (df h117) (.cons (G_lift_Right_ok n v_l280 _ h118) (.cons (nt h120) .nil))))
/- (*ringhall/disk.Disk).goes -/
def G_disk_Disk_goes_h (n : Nat) (v_d1175 : S_disk_Disk) : Option (Bool × S_disk_Disk) :=
  if v_d1175.ffuse = 0 then
   some (false, v_d1175)
  else
   if v_d1175.ffuse > 0 then
    some (true, (S_disk_Disk.mk v_d1175.fsafe v_d1175.fnow v_d1175.fwait (wi .i64 (v_d1175.ffuse - 1))))
   else
    some (true, v_d1175)
theorem G_disk_Disk_goes_h_ok (n : Nat) (v_d1175 : S_disk_Disk) (r : Bool × S_disk_Disk) (h : G_disk_Disk_goes_h n v_d1175 = some r) : RetH Try.prog 37 [.ref 0 0] [.box [.srf 1, .srf 2, .srf 3, .d (.v (.int .i64 v_d1175.ffuse))], .row 5 1 (v_d1175.fsafe.map (eI .u8)), .row 5 1 (v_d1175.fnow.map (eI .u8)), .row 70 2 (v_d1175.fwait.map eS_disk_write)] (.d (eB r.1)) [.box [.srf 4, .srf 5, .srf 6, .d (.v (.int .i64 r.2.ffuse))], .none, .none, .none, .row 5 1 (r.2.fsafe.map (eI .u8)), .row 5 1 (r.2.fnow.map (eI .u8)), .row 70 2 (r.2.fwait.map eS_disk_write)] := by
  refine retH_run (n := 20) (fn := Try.f37) (c := bodyOf Try.f37) (by kernel_rfl) (by kernel_rfl) (by kernel_rfl) (by kernel_rfl) ?_
  have hF : KC 20 (FinH Try.prog Try.f37 [.box [.srf 1, .srf 2, .srf 3, .d (.v (.int .i64 v_d1175.ffuse))], .row 5 1 (v_d1175.fsafe.map (eI .u8)), .row 5 1 (v_d1175.fnow.map (eI .u8)), .row 70 2 (v_d1175.fwait.map eS_disk_write)] (.d (eB r.1)) [.box [.srf 4, .srf 5, .srf 6, .d (.v (.int .i64 r.2.ffuse))], .none, .none, .none, .row 5 1 (r.2.fsafe.map (eI .u8)), .row 5 1 (r.2.fnow.map (eI .u8)), .row 70 2 (r.2.fwait.map eS_disk_write)]) := FinH.kc' (by kernel_rfl)
  unfold G_disk_Disk_goes_h at h
  by_cases h955 : v_d1175.ffuse = 0
  · rw [if_pos h955] at h
    obtain rfl := Option.some.inj h
    exact pendH_sound TTok mix 13 (hs := [.c, .t true, .dl 4, .mv 1, .mv 2, .mv 3]) [0, 1, 2, 3, 43, 44, 45] (by kernel_rfl) (by kernel_rfl) (by kernel_rfl) (.cons (bt h955) .nil)
  · rw [if_neg h955] at h
    by_cases h957 : v_d1175.ffuse > 0
    · rw [if_pos h957] at h
      obtain rfl := Option.some.inj h
      exact pendH_sound TTok mix 18 (hs := [.c, .t false, .c, .t true, .c, .c, .dl 3, .mv 1, .mv 2, .mv 3]) [0, 1, 2, 3, 108, 109, 110] (by kernel_rfl) (by kernel_rfl) (by kernel_rfl) (.cons (bf h955) (.cons (dt h957) (.cons (show 3 + 1 ≤ 4 by decide) .nil)))
    · rw [if_neg h957] at h
      obtain rfl := Option.some.inj h
      exact pendH_sound TTok mix 18 (hs := [.c, .t false, .c, .t false, .dl 4, .mv 1, .mv 2, .mv 3]) [0, 1, 2, 3, 68, 69, 70] (by kernel_rfl) (by kernel_rfl) (by kernel_rfl) (.cons (bf h955) (.cons (df h957) .nil))
/- (*ringhall/disk.Disk).Flush -/
def G_disk_Disk_Flush_h (n : Nat) (v_d1174 : S_disk_Disk) : Option (S_disk_Disk) :=
  (G_disk_Disk_goes_h n v_d1174).bind fun (v_r1176 : (Bool × S_disk_Disk)) =>
  if v_r1176.1 = true then
   some (S_disk_Disk.mk (cpyR v_r1176.2.fsafe 0 v_r1176.2.fsafe.length v_r1176.2.fnow) v_r1176.2.fnow ([] : List S_disk_write) v_r1176.2.ffuse)
  else
   some v_r1176.2
theorem G_disk_Disk_Flush_h_ok (n : Nat) (v_d1174 : S_disk_Disk) (r : S_disk_Disk) (h : G_disk_Disk_Flush_h n v_d1174 = some r) : RetH Try.prog 30 [.ref 0 0] [.box [.srf 1, .srf 2, .srf 3, .d (.v (.int .i64 v_d1174.ffuse))], .row 5 1 (v_d1174.fsafe.map (eI .u8)), .row 5 1 (v_d1174.fnow.map (eI .u8)), .row 70 2 (v_d1174.fwait.map eS_disk_write)] (.tup []) [.box [.srf 4, .srf 5, .srf 6, .d (.v (.int .i64 r.ffuse))], .none, .none, .none, .row 5 1 (r.fsafe.map (eI .u8)), .row 5 1 (r.fnow.map (eI .u8)), .row 70 2 (r.fwait.map eS_disk_write)] := by
  refine retH_run (n := 16) (fn := Try.f30) (c := bodyOf Try.f30) (by kernel_rfl) (by kernel_rfl) (by kernel_rfl) (by kernel_rfl) ?_
  have hF : KC 16 (FinH Try.prog Try.f30 [.box [.srf 1, .srf 2, .srf 3, .d (.v (.int .i64 v_d1174.ffuse))], .row 5 1 (v_d1174.fsafe.map (eI .u8)), .row 5 1 (v_d1174.fnow.map (eI .u8)), .row 70 2 (v_d1174.fwait.map eS_disk_write)] (.tup []) [.box [.srf 4, .srf 5, .srf 6, .d (.v (.int .i64 r.ffuse))], .none, .none, .none, .row 5 1 (r.fsafe.map (eI .u8)), .row 5 1 (r.fnow.map (eI .u8)), .row 70 2 (r.fwait.map eS_disk_write)]) := FinH.kc' (by kernel_rfl)
  unfold G_disk_Disk_Flush_h at h
  obtain ⟨v_r1176, h958, h⟩ := bind_some h
  by_cases h959 : v_r1176.1 = true
  · rw [if_pos h959] at h
    obtain rfl := Option.some.inj h
    exact pendH_sound TTok mix 7 (hs := [.h [0, 1, 2, 3] [] [.box [.srf 4, .srf 5, .srf 6, .d (.v (.int .i64 v_r1176.2.ffuse))], .none, .none, .none, .row 5 1 (v_r1176.2.fsafe.map (eI .u8)), .row 5 1 (v_r1176.2.fnow.map (eI .u8)), .row 70 2 (v_r1176.2.fwait.map eS_disk_write)] (.d (.v (.bool v_r1176.1))), .t true, .c, .c, .e 58 [13, 14] (.d (.v (.int .i64 ((Nat.min v_r1176.2.fnow.length (v_r1176.2.fsafe.length - 0) : Nat) : Int)))) [(13, .row 5 1 ((cpyR v_r1176.2.fsafe 0 v_r1176.2.fsafe.length v_r1176.2.fnow).map (eI .u8)))], .c, .tb 0 2 70 2]) [0, 1, 2, 3, 13, 14, 83] (by kernel_rfl) (by kernel_rfl) (by kernel_rfl) (.cons (G_disk_Disk_goes_h_ok n v_d1174 _ h958) (.cons h959 (.cons (xcpR0 (P := Try.prog) (T := TT) (f := (eI .u8)) (t := 24) (t' := 24) (e := 5) (s := 1) (l := 13) (x := (.tmp 7)) (y := (.tmp 11)) (ti := ⟨1, 1, .int .u8, [.i .u8]⟩) (L := v_r1176.2.fsafe) (Y := v_r1176.2.fnow) (l' := 14) (by kernel_rfl) (by kernel_rfl) (fun _ => rfl)) (.cons (show 2 + 1 ≤ 4 by decide) .nil))))
  · rw [if_neg h959] at h
    obtain rfl := Option.some.inj h
    exact pendH_sound TTok mix 4 (hs := [.h [0, 1, 2, 3] [] [.box [.srf 4, .srf 5, .srf 6, .d (.v (.int .i64 v_r1176.2.ffuse))], .none, .none, .none, .row 5 1 (v_r1176.2.fsafe.map (eI .u8)), .row 5 1 (v_r1176.2.fnow.map (eI .u8)), .row 70 2 (v_r1176.2.fwait.map eS_disk_write)] (.d (.v (.bool v_r1176.1))), .t false]) [0, 1, 2, 3, 13, 14, 15] (by kernel_rfl) (by kernel_rfl) (by kernel_rfl) (.cons (G_disk_Disk_goes_h_ok n v_d1174 _ h958) (.cons (vf h959) .nil))
inductive G_disk_Disk_Write_h_C1_R where
  | x0 (v_x1183 : Bool) (v_w1184 : (List Int)) (v_w1185 : (List Int)) (v_w1186 : (List S_disk_write))
  | x1 (v_x1188 : Bool) (v_b1189 : Int) (v_w1190 : (List Int)) (v_w1191 : (List Int)) (v_w1192 : (List S_disk_write))
def G_disk_Disk_Write_h_C1_ex : G_disk_Disk_Write_h_C1_R → Ex
  | .x0 _ _ _ _ => .normal
  | .x1 _ _ _ _ _ => .normal
def G_disk_Disk_Write_h_C1_st (v_n1179 : Int) (v_data1180 : (List Int)) (v_d1178 : S_disk_Disk) : G_disk_Disk_Write_h_C1_R → PS
  | .x0 v_x1183 v_w1184 v_w1185 v_w1186 => ⟨(.ref 4 0 :: .d (.v (.int .i64 v_n1179)) :: .d (.sl (v_data1180.map (eI .u8))) :: (dds 16 (.d (.v (.bool v_x1183)) :: (dds 24 [])))), [.gh 0 (.ref 4 0), .gh 1 (.srf 5), .gh 2 (.srf 6), .gh 3 (.srf 7), .box [.srf 5, .srf 6, .srf 7, .d (.v (.int .i64 v_d1178.ffuse))], .row 5 1 (v_w1184.map (eI .u8)), .row 5 1 (v_w1185.map (eI .u8)), .row 70 2 (v_w1186.map eS_disk_write)]⟩
  | .x1 v_x1188 v_b1189 v_w1190 v_w1191 v_w1192 => ⟨(.ref 4 0 :: .d (.v (.int .i64 v_n1179)) :: .d (.sl (v_data1180.map (eI .u8))) :: (dds 16 (.d (.v (.bool v_x1188)) :: (dds 24 [])))), [.gh 0 (.ref 4 0), .gh 1 (.srf 8), .gh 2 (.srf 9), .gh 3 (.srf 10), .box [.srf 5, .srf 6, .srf 7, .d (.v (.int .i64 v_b1189))], .row 5 1 (v_w1190.map (eI .u8)), .row 5 1 (v_w1191.map (eI .u8)), .row 70 2 (v_w1192.map eS_disk_write), .none, .none, .none]⟩
def G_disk_Disk_Write_h_C1_hd (v_n1179 : Int) (v_data1180 : (List Int)) (v_d1178 : S_disk_Disk)  : PS := ⟨(.ref 4 0 :: .d (.v (.int .i64 v_n1179)) :: .d (.sl (v_data1180.map (eI .u8))) :: (dds 41 [])), [.gh 0 (.ref 4 0), .gh 1 (.srf 5), .gh 2 (.srf 6), .gh 3 (.srf 7), .box [.srf 5, .srf 6, .srf 7, .d (.v (.int .i64 v_d1178.ffuse))], .row 5 1 (v_d1178.fsafe.map (eI .u8)), .row 5 1 (v_d1178.fnow.map (eI .u8)), .row 70 2 (v_d1178.fwait.map eS_disk_write)]⟩
def G_disk_Disk_Write_h_C1 (n : Nat) (v_n1179 : Int) (v_data1180 : (List Int)) (v_d1178 : S_disk_Disk) : Option G_disk_Disk_Write_h_C1_R :=
  if v_n1179 < 0 then
   some (.x0 true v_d1178.fsafe v_d1178.fnow v_d1178.fwait)
  else
   (G_disk_Disk_Size_h n v_d1178).bind fun (v_r1187 : (Int × S_disk_Disk)) =>
   if v_n1179 ≥ v_r1187.1 then
    some (.x1 true v_r1187.2.ffuse v_r1187.2.fsafe v_r1187.2.fnow v_r1187.2.fwait)
   else
    some (.x1 ((v_data1180.length : Int) != 64) v_r1187.2.ffuse v_r1187.2.fsafe v_r1187.2.fnow v_r1187.2.fwait)
theorem G_disk_Disk_Write_h_C1_ok {Fi : Ex → PS → Prop} (hF : KC 44 Fi) (ks : List Fr) (n : Nat) (v_n1179 : Int) (v_data1180 : (List Int)) (v_d1178 : S_disk_Disk)  (o : G_disk_Disk_Write_h_C1_R) (h : G_disk_Disk_Write_h_C1 n v_n1179 v_data1180 v_d1178 = some o) (q : RunE Try.prog 44 Fi ks (G_disk_Disk_Write_h_C1_ex o) (G_disk_Disk_Write_h_C1_st v_n1179 v_data1180 v_d1178 o)) : RunE Try.prog 44 Fi (.s (cL (cL (cR (bodyOf Try.f31)))) :: ks) .normal (G_disk_Disk_Write_h_C1_hd v_n1179 v_data1180 v_d1178) := by
  unfold G_disk_Disk_Write_h_C1 at h
  by_cases h964 : v_n1179 < 0
  · rw [if_pos h964] at h
    cases h
    exact pkk_sound TTok mix hF 1 (hs := [.t true, .c, .c, .c, .c, .c, .c]) (ts := []) (s := [0, 1, 2, 3, 4, 5, 6, 7]) (l := [0, 1, 2, 19]) (by kernel_rfl) (by kernel_rfl) (.cons (dt h964) .nil) q
  · rw [if_neg h964] at h
    obtain ⟨v_r1187, h965, h⟩ := bind_some h
    by_cases h966 : v_n1179 ≥ v_r1187.1
    · rw [if_pos h966] at h
      cases h
      exact pkk_sound TTok mix hF 1 (hs := [.t false, .c, .c, .h [4, 5, 6, 7] [] [.box [.srf 4, .srf 5, .srf 6, .d (.v (.int .i64 v_r1187.2.ffuse))], .none, .none, .none, .row 5 1 (v_r1187.2.fsafe.map (eI .u8)), .row 5 1 (v_r1187.2.fnow.map (eI .u8)), .row 70 2 (v_r1187.2.fwait.map eS_disk_write)] (.d (.v (.int .i64 v_r1187.1))), .c, .t true, .c, .c]) (ts := []) (s := [0, 1, 2, 3, 4, 33, 34, 35, 5, 6, 7]) (l := [0, 1, 2, 19]) (by kernel_rfl) (by kernel_rfl) (.cons (df h964) (.cons (G_disk_Disk_Size_h_ok n v_d1178 _ h965) (.cons (dt h966) .nil))) q
    · rw [if_neg h966] at h
      cases h
      exact pkk_sound TTok mix hF 1 (hs := [.t false, .c, .c, .h [4, 5, 6, 7] [] [.box [.srf 4, .srf 5, .srf 6, .d (.v (.int .i64 v_r1187.2.ffuse))], .none, .none, .none, .row 5 1 (v_r1187.2.fsafe.map (eI .u8)), .row 5 1 (v_r1187.2.fnow.map (eI .u8)), .row 70 2 (v_r1187.2.fwait.map eS_disk_write)] (.d (.v (.int .i64 v_r1187.1))), .c, .t false, .c, .u (.d (.v (.int .i64 (v_data1180.length : Int)))), .c]) (ts := []) (s := [0, 1, 2, 3, 4, 33, 34, 35, 5, 6, 7]) (l := [0, 1, 2, 19]) (by kernel_rfl) (by kernel_rfl) (.cons (df h964) (.cons (G_disk_Disk_Size_h_ok n v_d1178 _ h965) (.cons (df h966) (.cons (len_ob (f := (eI .u8)) (l := v_data1180)) .nil)))) q
/- (*ringhall/disk.Disk).Write -/
def G_disk_Disk_Write_h (n : Nat) (v_d1178 : S_disk_Disk) (v_n1179 : Int) (v_data1180 : (List Int)) : Option (Int × S_disk_Disk) :=
  (G_disk_Disk_Write_h_C1 n v_n1179 v_data1180 v_d1178).bind fun v_o1198 => match v_o1198 with
  | .x0 v_z1199 v_z1200 v_z1201 v_z1202 =>
    if v_z1199 = true then
     some (1, (S_disk_Disk.mk v_z1200 v_z1201 v_z1202 v_d1178.ffuse))
    else
     (G_disk_Disk_goes_h n (S_disk_Disk.mk v_z1200 v_z1201 v_z1202 v_d1178.ffuse)).bind fun (v_r1203 : (Bool × S_disk_Disk)) =>
     if v_r1203.1 = true then
      (G_slices_Clone_byte_byte n v_data1180).bind fun (v_r1206 : ((List Int))) =>
      (app 32 v_r1203.2.fwait ([(S_disk_write.mk v_n1179 v_r1206)])).bind fun (v_a1207 : (List S_disk_write)) =>
      if ((0 : Int) ≤ (wi .i64 (v_n1179 * 64)) ∧ (wi .i64 (v_n1179 * 64)) ≤ (v_r1203.2.fnow.length : Int)) then
       if v_r1203.2.fnow.length ≤ v_r1203.2.fnow.length then
        some (0, (S_disk_Disk.mk v_r1203.2.fsafe (cpyR v_r1203.2.fnow ((wi .i64 (v_n1179 * 64)).toNat) v_r1203.2.fnow.length v_data1180) v_a1207 v_r1203.2.ffuse))
       else none
      else none
     else
      some (0, v_r1203.2)
  | .x1 v_z1208 v_z1209 v_z1210 v_z1211 v_z1212 =>
    if v_z1208 = true then
     some (1, (S_disk_Disk.mk v_z1210 v_z1211 v_z1212 v_z1209))
    else
     (G_disk_Disk_goes_h n (S_disk_Disk.mk v_z1210 v_z1211 v_z1212 v_z1209)).bind fun (v_r1213 : (Bool × S_disk_Disk)) =>
     if v_r1213.1 = true then
      (G_slices_Clone_byte_byte n v_data1180).bind fun (v_r1216 : ((List Int))) =>
      (app 32 v_r1213.2.fwait ([(S_disk_write.mk v_n1179 v_r1216)])).bind fun (v_a1217 : (List S_disk_write)) =>
      if ((0 : Int) ≤ (wi .i64 (v_n1179 * 64)) ∧ (wi .i64 (v_n1179 * 64)) ≤ (v_r1213.2.fnow.length : Int)) then
       if v_r1213.2.fnow.length ≤ v_r1213.2.fnow.length then
        some (0, (S_disk_Disk.mk v_r1213.2.fsafe (cpyR v_r1213.2.fnow ((wi .i64 (v_n1179 * 64)).toNat) v_r1213.2.fnow.length v_data1180) v_a1217 v_r1213.2.ffuse))
       else none
      else none
     else
      some (0, v_r1213.2)
theorem G_disk_Disk_Write_h_ok (n : Nat) (v_d1178 : S_disk_Disk) (v_n1179 : Int) (v_data1180 : (List Int)) (r : Int × S_disk_Disk) (h : G_disk_Disk_Write_h n v_d1178 v_n1179 v_data1180 = some r) : RetH Try.prog 31 [.ref 0 0, .d ((eI .i64) v_n1179), .d ((eL (eI .u8)) v_data1180)] [.box [.srf 1, .srf 2, .srf 3, .d (.v (.int .i64 v_d1178.ffuse))], .row 5 1 (v_d1178.fsafe.map (eI .u8)), .row 5 1 (v_d1178.fnow.map (eI .u8)), .row 70 2 (v_d1178.fwait.map eS_disk_write)] (.d ((eI .i64) r.1)) [.box [.srf 4, .srf 5, .srf 6, .d (.v (.int .i64 r.2.ffuse))], .none, .none, .none, .row 5 1 (r.2.fsafe.map (eI .u8)), .row 5 1 (r.2.fnow.map (eI .u8)), .row 70 2 (r.2.fwait.map eS_disk_write)] := by
  refine retH_run (n := 44) (fn := Try.f31) (c := bodyOf Try.f31) (by kernel_rfl) (by kernel_rfl) (by kernel_rfl) (by kernel_rfl) ?_
  have hF : KC 44 (FinH Try.prog Try.f31 [.box [.srf 1, .srf 2, .srf 3, .d (.v (.int .i64 v_d1178.ffuse))], .row 5 1 (v_d1178.fsafe.map (eI .u8)), .row 5 1 (v_d1178.fnow.map (eI .u8)), .row 70 2 (v_d1178.fwait.map eS_disk_write)] (.d ((eI .i64) r.1)) [.box [.srf 4, .srf 5, .srf 6, .d (.v (.int .i64 r.2.ffuse))], .none, .none, .none, .row 5 1 (r.2.fsafe.map (eI .u8)), .row 5 1 (r.2.fnow.map (eI .u8)), .row 70 2 (r.2.fwait.map eS_disk_write)]) := FinH.kc' (by kernel_rfl)
  unfold G_disk_Disk_Write_h at h
  obtain ⟨v_o1198, h967, h⟩ := bind_some h
  refine pkk_sound TTok mix hF 4 (hs := []) (ts := []) (s := [4, 5, 6, 7, 0, 1, 2, 3]) (l := [0, 1, 2]) (by kernel_rfl) (by kernel_rfl) .nil (G_disk_Disk_Write_h_C1_ok hF (.s (cR (cL (cR (bodyOf Try.f31)))) :: .s (cR (cR (bodyOf Try.f31))) :: []) n v_n1179 v_data1180 v_d1178 _ h967 ?_)
  cases v_o1198 with
  | x0 v_z1199 v_z1200 v_z1201 v_z1202 =>
    try dsimp only at h
    by_cases h968 : v_z1199 = true
    · rw [if_pos h968] at h
      obtain rfl := Option.some.inj h
      exact pendH_sound TTok mix 8 (hs := [.t true, .dl 4, .mv 5, .mv 6, .mv 7]) [4, 5, 6, 7, 13, 14, 15] (by kernel_rfl) (by kernel_rfl) (by kernel_rfl) (.cons h968 .nil)
    · rw [if_neg h968] at h
      obtain ⟨v_r1203, h969, h⟩ := bind_some h
      by_cases h975 : v_r1203.1 = true
      · rw [if_pos h975] at h
        obtain ⟨v_r1206, h976, h⟩ := bind_some h
        obtain ⟨v_a1207, h977, h⟩ := bind_some h
        by_cases h978 : ((0 : Int) ≤ (wi .i64 (v_n1179 * 64)) ∧ (wi .i64 (v_n1179 * 64)) ≤ (v_r1203.2.fnow.length : Int))
        · rw [if_pos h978] at h
          by_cases h979 : v_r1203.2.fnow.length ≤ v_r1203.2.fnow.length
          · rw [if_pos h979] at h
            obtain rfl := Option.some.inj h
            exact pendH_sound TTok mix 12 (hs := [.t false, .h [4, 5, 6, 7] [] [.box [.srf 4, .srf 5, .srf 6, .d (.v (.int .i64 v_r1203.2.ffuse))], .none, .none, .none, .row 5 1 (v_r1203.2.fsafe.map (eI .u8)), .row 5 1 (v_r1203.2.fnow.map (eI .u8)), .row 70 2 (v_r1203.2.fwait.map eS_disk_write)] (.d (.v (.bool v_r1203.1))), .t true, .c, .r ((eL (eI .u8)) v_r1206), .bd, .w (v_a1207.map eS_disk_write), .c, .c, .e 118 [14] (.ssl 14 ((wi .i64 (v_n1179 * 64)).toNat) v_r1203.2.fnow.length 1) [], .e 128 [14] (.d (.v (.int .i64 ((Nat.min v_data1180.length (v_r1203.2.fnow.length - (wi .i64 (v_n1179 * 64)).toNat) : Nat) : Int)))) [(14, .row 5 1 ((cpyR v_r1203.2.fnow ((wi .i64 (v_n1179 * 64)).toNat) v_r1203.2.fnow.length v_data1180).map (eI .u8)))]]) [4, 5, 6, 7, 13, 14, 68] (by kernel_rfl) (by kernel_rfl) (by kernel_rfl) (.cons (vf h968) (.cons (G_disk_Disk_goes_h_ok n (S_disk_Disk.mk v_z1200 v_z1201 v_z1202 v_d1178.ffuse) _ h969) (.cons h975 (.cons (G_slices_Clone_byte_byte_okD n v_data1180 _ h976) (.cons (app_ob (f := eS_disk_write) (s := 2) h977 (fun _ => rfl)).1 (.cons (app_ob (f := eS_disk_write) (s := 2) h977 (fun _ => rfl)).2.1 (.cons (app_ob (f := eS_disk_write) (s := 2) h977 (fun _ => rfl)).2.2.1 (.cons (app_ob (f := eS_disk_write) (s := 2) h977 (fun _ => rfl)).2.2.2 (.cons (show 2 + 1 ≤ 4 by decide) (.cons (xs10 (P := Try.prog) (T := TT) (f := (eI .u8)) (t := 24) (e := 5) (s := 1) (l := 14) (L := v_r1203.2.fnow) (x := (.tmp 38)) (lo := (.tmp 40)) (a := (wi .i64 (v_n1179 * 64))) (ka := .i64) (by kernel_rfl) h978) (.cons (xcpD (P := Try.prog) (T := TT) (f := (eI .u8)) (t := 24) (t' := 24) (e := 5) (s := 1) (l := 14) (x := (.tmp 41)) (y := (.tmp 42)) (ti := ⟨1, 1, .int .u8, [.i .u8]⟩) (L := v_r1203.2.fnow) (Y := v_data1180) (i := (wi .i64 (v_n1179 * 64)).toNat) (j := v_r1203.2.fnow.length) (by kernel_rfl) (by kernel_rfl) h979 (fun _ => rfl)) .nil)))))))))))
          · rw [if_neg h979] at h; cases h
        · rw [if_neg h978] at h; cases h
      · rw [if_neg h975] at h
        obtain rfl := Option.some.inj h
        exact pendH_sound TTok mix 10 (hs := [.t false, .h [4, 5, 6, 7] [] [.box [.srf 4, .srf 5, .srf 6, .d (.v (.int .i64 v_r1203.2.ffuse))], .none, .none, .none, .row 5 1 (v_r1203.2.fsafe.map (eI .u8)), .row 5 1 (v_r1203.2.fnow.map (eI .u8)), .row 70 2 (v_r1203.2.fwait.map eS_disk_write)] (.d (.v (.bool v_r1203.1))), .t false]) [4, 5, 6, 7, 13, 14, 15] (by kernel_rfl) (by kernel_rfl) (by kernel_rfl) (.cons (vf h968) (.cons (G_disk_Disk_goes_h_ok n (S_disk_Disk.mk v_z1200 v_z1201 v_z1202 v_d1178.ffuse) _ h969) (.cons (vf h975) .nil)))
  | x1 v_z1208 v_z1209 v_z1210 v_z1211 v_z1212 =>
    try dsimp only at h
    by_cases h980 : v_z1208 = true
    · rw [if_pos h980] at h
      obtain rfl := Option.some.inj h
      exact pendH_sound TTok mix 5 (hs := [.t true]) [4, 8, 9, 10, 5, 6, 7] (by kernel_rfl) (by kernel_rfl) (by kernel_rfl) (.cons h980 .nil)
    · rw [if_neg h980] at h
      obtain ⟨v_r1213, h981, h⟩ := bind_some h
      by_cases h987 : v_r1213.1 = true
      · rw [if_pos h987] at h
        obtain ⟨v_r1216, h988, h⟩ := bind_some h
        obtain ⟨v_a1217, h989, h⟩ := bind_some h
        by_cases h990 : ((0 : Int) ≤ (wi .i64 (v_n1179 * 64)) ∧ (wi .i64 (v_n1179 * 64)) ≤ (v_r1213.2.fnow.length : Int))
        · rw [if_pos h990] at h
          by_cases h991 : v_r1213.2.fnow.length ≤ v_r1213.2.fnow.length
          · rw [if_pos h991] at h
            obtain rfl := Option.some.inj h
            exact pendH_sound TTok mix 12 (hs := [.t false, .h [4, 5, 6, 7] [] [.box [.srf 4, .srf 5, .srf 6, .d (.v (.int .i64 v_r1213.2.ffuse))], .none, .none, .none, .row 5 1 (v_r1213.2.fsafe.map (eI .u8)), .row 5 1 (v_r1213.2.fnow.map (eI .u8)), .row 70 2 (v_r1213.2.fwait.map eS_disk_write)] (.d (.v (.bool v_r1213.1))), .t true, .c, .r ((eL (eI .u8)) v_r1216), .bd, .w (v_a1217.map eS_disk_write), .c, .c, .e 121 [17] (.ssl 17 ((wi .i64 (v_n1179 * 64)).toNat) v_r1213.2.fnow.length 1) [], .e 131 [17] (.d (.v (.int .i64 ((Nat.min v_data1180.length (v_r1213.2.fnow.length - (wi .i64 (v_n1179 * 64)).toNat) : Nat) : Int)))) [(17, .row 5 1 ((cpyR v_r1213.2.fnow ((wi .i64 (v_n1179 * 64)).toNat) v_r1213.2.fnow.length v_data1180).map (eI .u8)))]]) [4, 8, 9, 10, 16, 17, 71] (by kernel_rfl) (by kernel_rfl) (by kernel_rfl) (.cons (vf h980) (.cons (G_disk_Disk_goes_h_ok n (S_disk_Disk.mk v_z1210 v_z1211 v_z1212 v_z1209) _ h981) (.cons h987 (.cons (G_slices_Clone_byte_byte_okD n v_data1180 _ h988) (.cons (app_ob (f := eS_disk_write) (s := 2) h989 (fun _ => rfl)).1 (.cons (app_ob (f := eS_disk_write) (s := 2) h989 (fun _ => rfl)).2.1 (.cons (app_ob (f := eS_disk_write) (s := 2) h989 (fun _ => rfl)).2.2.1 (.cons (app_ob (f := eS_disk_write) (s := 2) h989 (fun _ => rfl)).2.2.2 (.cons (show 2 + 1 ≤ 4 by decide) (.cons (xs10 (P := Try.prog) (T := TT) (f := (eI .u8)) (t := 24) (e := 5) (s := 1) (l := 17) (L := v_r1213.2.fnow) (x := (.tmp 38)) (lo := (.tmp 40)) (a := (wi .i64 (v_n1179 * 64))) (ka := .i64) (by kernel_rfl) h990) (.cons (xcpD (P := Try.prog) (T := TT) (f := (eI .u8)) (t := 24) (t' := 24) (e := 5) (s := 1) (l := 17) (x := (.tmp 41)) (y := (.tmp 42)) (ti := ⟨1, 1, .int .u8, [.i .u8]⟩) (L := v_r1213.2.fnow) (Y := v_data1180) (i := (wi .i64 (v_n1179 * 64)).toNat) (j := v_r1213.2.fnow.length) (by kernel_rfl) (by kernel_rfl) h991 (fun _ => rfl)) .nil)))))))))))
          · rw [if_neg h991] at h; cases h
        · rw [if_neg h990] at h; cases h
      · rw [if_neg h987] at h
        obtain rfl := Option.some.inj h
        exact pendH_sound TTok mix 10 (hs := [.t false, .h [4, 5, 6, 7] [] [.box [.srf 4, .srf 5, .srf 6, .d (.v (.int .i64 v_r1213.2.ffuse))], .none, .none, .none, .row 5 1 (v_r1213.2.fsafe.map (eI .u8)), .row 5 1 (v_r1213.2.fnow.map (eI .u8)), .row 70 2 (v_r1213.2.fwait.map eS_disk_write)] (.d (.v (.bool v_r1213.1))), .t false]) [4, 8, 9, 10, 16, 17, 18] (by kernel_rfl) (by kernel_rfl) (by kernel_rfl) (.cons (vf h980) (.cons (G_disk_Disk_goes_h_ok n (S_disk_Disk.mk v_z1210 v_z1211 v_z1212 v_z1209) _ h981) (.cons (vf h987) .nil)))
inductive G_lift_Run_h_C2_R where
  | x0 (v_x232 : Bool) (v_w233 : (List Int)) (v_w234 : (List Int)) (v_w235 : (List S_disk_write))
  | x1 (v_x237 : Bool) (v_b238 : Int) (v_w239 : (List Int)) (v_w240 : (List Int)) (v_w241 : (List S_disk_write))
def G_lift_Run_h_C2_ex : G_lift_Run_h_C2_R → Ex
  | .x0 _ _ _ _ => .normal
  | .x1 _ _ _ _ _ => .normal
def G_lift_Run_h_C2_st (v_l58 : (List S_lift_Req)) (v_x196 : Int) (v_b197 : Int) (v_w198 : (List Int)) (v_w199 : (List Int)) (v_w200 : (List S_disk_write)) (v_y229 : S_lift_Req) : G_lift_Run_h_C2_R → PS
  | .x0 v_x232 v_w233 v_w234 v_w235 => ⟨(.ref 4 0 :: .d (.sl (v_l58.map eS_lift_Req)) :: (dds 10 (.d (.sl (v_l58.map eS_lift_Req)) :: .d (.v (.int .i64 (v_l58.length : Int))) :: .d (.v (.int .i64 v_x196)) :: (dds 17 (.d (.v (.bool v_x232)) :: (dds 29 [])))))), [.gh 0 (.ref 4 0), .gh 1 (.srf 8), .gh 2 (.srf 9), .gh 3 (.srf 10), .box [.srf 5, .srf 6, .srf 7, .d (.v (.int .i64 v_b197))], .row 5 1 (v_w233.map (eI .u8)), .row 5 1 (v_w234.map (eI .u8)), .row 70 2 (v_w235.map eS_disk_write), .none, .none, .none]⟩
  | .x1 v_x237 v_b238 v_w239 v_w240 v_w241 => ⟨(.ref 4 0 :: .d (.sl (v_l58.map eS_lift_Req)) :: (dds 10 (.d (.sl (v_l58.map eS_lift_Req)) :: .d (.v (.int .i64 (v_l58.length : Int))) :: .d (.v (.int .i64 v_x196)) :: (dds 17 (.d (.v (.bool v_x237)) :: (dds 29 [])))))), [.gh 0 (.ref 4 0), .gh 1 (.srf 8), .gh 2 (.srf 9), .gh 3 (.srf 10), .box [.srf 5, .srf 6, .srf 7, .d (.v (.int .i64 v_b238))], .row 5 1 (v_w239.map (eI .u8)), .row 5 1 (v_w240.map (eI .u8)), .row 70 2 (v_w241.map eS_disk_write), .none, .none, .none]⟩
def G_lift_Run_h_C2_hd (v_l58 : (List S_lift_Req)) (v_x196 : Int) (v_b197 : Int) (v_w198 : (List Int)) (v_w199 : (List Int)) (v_w200 : (List S_disk_write)) (v_y229 : S_lift_Req)  : PS := ⟨(.ref 4 0 :: .d (.sl (v_l58.map eS_lift_Req)) :: dd :: dd :: dd :: dd :: .ref 11 0 :: dd :: dd :: dd :: dd :: dd :: .d (.sl (v_l58.map eS_lift_Req)) :: .d (.v (.int .i64 (v_l58.length : Int))) :: .d (.v (.int .i64 v_x196)) :: (dds 47 [])), [.gh 0 (.ref 4 0), .gh 1 (.srf 8), .gh 2 (.srf 9), .gh 3 (.srf 10), .box [.srf 5, .srf 6, .srf 7, .d (.v (.int .i64 v_b197))], .row 5 1 (v_w198.map (eI .u8)), .row 5 1 (v_w199.map (eI .u8)), .row 70 2 (v_w200.map eS_disk_write), .none, .none, .none, .box [.d (.v (.int .i64 v_y229.fSector)), .d (.sl (v_y229.fData.map (eI .u8))), .d (.v (.bool v_y229.fBarrier))]]⟩
def G_lift_Run_h_C2 (n : Nat) (v_l58 : (List S_lift_Req)) (v_x196 : Int) (v_b197 : Int) (v_w198 : (List Int)) (v_w199 : (List Int)) (v_w200 : (List S_disk_write)) (v_y229 : S_lift_Req) : Option G_lift_Run_h_C2_R :=
  if v_y229.fBarrier = true then
   some (.x0 false v_w198 v_w199 v_w200)
  else
   if v_y229.fSector < 0 then
    some (.x0 true v_w198 v_w199 v_w200)
   else
    (G_disk_Disk_Size_h n (S_disk_Disk.mk v_w198 v_w199 v_w200 v_b197)).bind fun (v_r236 : (Int × S_disk_Disk)) =>
    some (.x1 (decide (v_y229.fSector ≥ v_r236.1)) v_r236.2.ffuse v_r236.2.fsafe v_r236.2.fnow v_r236.2.fwait)
theorem G_lift_Run_h_C2_ok {Fi : Ex → PS → Prop} (hF : KC 62 Fi) (ks : List Fr) (n : Nat) (v_l58 : (List S_lift_Req)) (v_x196 : Int) (v_b197 : Int) (v_w198 : (List Int)) (v_w199 : (List Int)) (v_w200 : (List S_disk_write)) (v_y229 : S_lift_Req)  (o : G_lift_Run_h_C2_R) (h : G_lift_Run_h_C2 n v_l58 v_x196 v_b197 v_w198 v_w199 v_w200 v_y229 = some o) (q : RunE Try.prog 62 Fi ks (G_lift_Run_h_C2_ex o) (G_lift_Run_h_C2_st v_l58 v_x196 v_b197 v_w198 v_w199 v_w200 v_y229 o)) : RunE Try.prog 62 Fi (.s (cL (cR (cB (cL (cR (cR (cP (cB (cR (cL (cR (bodyOf Try.f16)))))))))))) :: ks) .normal (G_lift_Run_h_C2_hd v_l58 v_x196 v_b197 v_w198 v_w199 v_w200 v_y229) := by
  unfold G_lift_Run_h_C2 at h
  by_cases h109 : v_y229.fBarrier = true
  · rw [if_pos h109] at h
    cases h
    exact pkk_sound TTok mix hF 1 (hs := [.c, .t false, .c, .c, .c, .c]) (ts := []) (s := [0, 1, 2, 3, 4, 5, 6, 7, 8, 9, 10]) (l := [0, 1, 12, 13, 14, 32]) (by kernel_rfl) (by kernel_rfl) (.cons (bnf h109) .nil) q
  · rw [if_neg h109] at h
    by_cases h110 : v_y229.fSector < 0
    · rw [if_pos h110] at h
      cases h
      exact pkk_sound TTok mix hF 1 (hs := [.c, .t true, .c, .c, .c, .c, .t true, .c, .c, .c, .c, .c]) (ts := []) (s := [0, 1, 2, 3, 4, 5, 6, 7, 8, 9, 10]) (l := [0, 1, 12, 13, 14, 32]) (by kernel_rfl) (by kernel_rfl) (.cons (bnt (vf h109)) (.cons (dt h110) .nil)) q
    · rw [if_neg h110] at h
      obtain ⟨v_r236, h111, h⟩ := bind_some h
      cases h
      exact pkk_sound TTok mix hF 1 (hs := [.c, .t true, .c, .c, .c, .c, .t false, .c, .c, .c, .c, .h [4, 5, 6, 7] [] [.box [.srf 4, .srf 5, .srf 6, .d (.v (.int .i64 v_r236.2.ffuse))], .none, .none, .none, .row 5 1 (v_r236.2.fsafe.map (eI .u8)), .row 5 1 (v_r236.2.fnow.map (eI .u8)), .row 70 2 (v_r236.2.fwait.map eS_disk_write)] (.d (.v (.int .i64 v_r236.1))), .c, .c]) (ts := []) (s := [0, 1, 2, 3, 4, 67, 68, 69, 8, 9, 10]) (l := [0, 1, 12, 13, 14, 32]) (by kernel_rfl) (by kernel_rfl) (.cons (bnt (vf h109)) (.cons (df h110) (.cons (G_disk_Disk_Size_h_ok n (S_disk_Disk.mk v_w198 v_w199 v_w200 v_b197) _ h111) .nil))) q
inductive G_lift_Run_h_L3_R where
  | x0 (v_x251 : Int) (v_b252 : Int) (v_w253 : (List Int)) (v_w254 : (List Int)) (v_w255 : (List S_disk_write))
  | x1 (v_b266 : Int) (v_w267 : (List Int)) (v_w268 : (List Int)) (v_w269 : (List S_disk_write))
def G_lift_Run_h_L3_ex : G_lift_Run_h_L3_R → Ex
  | .x0 _ _ _ _ _ => .ret
  | .x1 _ _ _ _ => .exit 0
def G_lift_Run_h_L3_st (v_l58 : (List S_lift_Req)) : G_lift_Run_h_L3_R → PS
  | .x0 v_x251 v_b252 v_w253 v_w254 v_w255 => ⟨(dd :: dd :: dd :: dd :: .d (.v (.int .i64 v_x251)) :: (dds 57 [])), [.gh 0 (.ref 4 0), .gh 1 (.srf 8), .gh 2 (.srf 9), .gh 3 (.srf 10), .box [.srf 5, .srf 6, .srf 7, .d (.v (.int .i64 v_b252))], .row 5 1 (v_w253.map (eI .u8)), .row 5 1 (v_w254.map (eI .u8)), .row 70 2 (v_w255.map eS_disk_write), .none, .none, .none]⟩
  | .x1 v_b266 v_w267 v_w268 v_w269 => ⟨(.ref 4 0 :: .d (.sl (v_l58.map eS_lift_Req)) :: (dds 60 [])), [.gh 0 (.ref 4 0), .gh 1 (.srf 8), .gh 2 (.srf 9), .gh 3 (.srf 10), .box [.srf 5, .srf 6, .srf 7, .d (.v (.int .i64 v_b266))], .row 5 1 (v_w267.map (eI .u8)), .row 5 1 (v_w268.map (eI .u8)), .row 70 2 (v_w269.map eS_disk_write), .none, .none, .none]⟩
def G_lift_Run_h_L3_hd (v_l58 : (List S_lift_Req)) (v_x196 : Int) (v_b197 : Int) (v_w198 : (List Int)) (v_w199 : (List Int)) (v_w200 : (List S_disk_write)) : PS := ⟨(.ref 4 0 :: .d (.sl (v_l58.map eS_lift_Req)) :: (dds 10 (.d (.sl (v_l58.map eS_lift_Req)) :: .d (.v (.int .i64 (v_l58.length : Int))) :: .d (.v (.int .i64 v_x196)) :: (dds 47 [])))), [.gh 0 (.ref 4 0), .gh 1 (.srf 8), .gh 2 (.srf 9), .gh 3 (.srf 10), .box [.srf 5, .srf 6, .srf 7, .d (.v (.int .i64 v_b197))], .row 5 1 (v_w198.map (eI .u8)), .row 5 1 (v_w199.map (eI .u8)), .row 70 2 (v_w200.map eS_disk_write), .none, .none, .none]⟩
def G_lift_Run_h_L3 (n : Nat) (v_l58 : (List S_lift_Req)) : Nat → Int → Int → (List Int) → (List Int) → (List S_disk_write) → Option G_lift_Run_h_L3_R
  | 0, _, _, _, _, _ => none
  | k + 1, v_x196, v_b197, v_w198, v_w199, v_w200 =>
    if v_x196 < (v_l58.length : Int) then
     (getI v_l58 v_x196).bind fun (v_y229 : S_lift_Req) =>
     (G_lift_Run_h_C2 n v_l58 v_x196 v_b197 v_w198 v_w199 v_w200 v_y229).bind fun v_o246 => match v_o246 with
     | .x0 v_z247 v_z248 v_z249 v_z250 =>
       if v_z247 = true then
        some (.x0 1 v_b197 v_z248 v_z249 v_z250)
       else
        G_lift_Run_h_L3 n v_l58 k (wi .i64 (v_x196 + 1)) v_b197 v_z248 v_z249 v_z250
     | .x1 v_z256 v_z257 v_z258 v_z259 v_z260 =>
       if v_z256 = true then
        some (.x0 1 v_z257 v_z258 v_z259 v_z260)
       else
        G_lift_Run_h_L3 n v_l58 k (wi .i64 (v_x196 + 1)) v_z257 v_z258 v_z259 v_z260
    else
     some (.x1 v_b197 v_w198 v_w199 v_w200)
theorem G_lift_Run_h_L3_ok {Fi : Ex → PS → Prop} (hF : KC 62 Fi) (ks : List Fr) (n : Nat) (v_l58 : (List S_lift_Req))  : ∀ (k : Nat) (v_x196 : Int) (v_b197 : Int) (v_w198 : (List Int)) (v_w199 : (List Int)) (v_w200 : (List S_disk_write)) (o : G_lift_Run_h_L3_R), G_lift_Run_h_L3 n v_l58 k v_x196 v_b197 v_w198 v_w199 v_w200 = some o → RunE Try.prog 62 Fi ks (G_lift_Run_h_L3_ex o) (G_lift_Run_h_L3_st v_l58 o) → RunE Try.prog 62 Fi (.l k (cP (cB (cR (cL (cR (bodyOf Try.f16)))))) :: ks) .normal (G_lift_Run_h_L3_hd v_l58 v_x196 v_b197 v_w198 v_w199 v_w200)
  | 0, v_x196, v_b197, v_w198, v_w199, v_w200, o, h, q => by rw [G_lift_Run_h_L3] at h; cases h
  | k + 1, v_x196, v_b197, v_w198, v_w199, v_w200, o, h, q => by
    rw [G_lift_Run_h_L3] at h
    by_cases h94 : v_x196 < (v_l58.length : Int)
    · rw [if_pos h94] at h
      obtain ⟨v_y229, h105, h⟩ := bind_some h
      obtain ⟨v_o246, h112, h⟩ := bind_some h
      refine pkk_sound TTok mix hF 11 (hs := [.t true, .y (eS_lift_Req v_y229), .c]) (ts := []) (s := [0, 1, 2, 3, 4, 5, 6, 7, 8, 9, 10, 26]) (l := [0, 1, 6, 12, 13, 14]) (by kernel_rfl) (by kernel_rfl) (.cons (dt h94) (.cons (getI_ob (f := eS_lift_Req) h105) (.cons (show 0 + 3 ≤ 3 by decide) .nil))) (G_lift_Run_h_C2_ok hF (.s (cR (cR (cB (cL (cR (cR (cP (cB (cR (cL (cR (bodyOf Try.f16)))))))))))) :: .b 1 :: .s (cR (cR (cR (cP (cB (cR (cL (cR (bodyOf Try.f16))))))))) :: .l k (cP (cB (cR (cL (cR (bodyOf Try.f16)))))) :: ks) n v_l58 v_x196 v_b197 v_w198 v_w199 v_w200 v_y229 _ h112 ?_)
      cases v_o246 with
      | x0 v_z247 v_z248 v_z249 v_z250 =>
        try dsimp only at h
        by_cases h113 : v_z247 = true
        · rw [if_pos h113] at h
          cases h
          exact pkk_sound TTok mix hF 7 (hs := [.t true]) (ts := []) (s := [0, 1, 2, 3, 4, 5, 6, 7, 8, 9, 10]) (l := [4]) (by kernel_rfl) (by kernel_rfl) (.cons h113 .nil) q
        · rw [if_neg h113] at h
          exact pkk_sound TTok mix hF 4 (hs := [.t false]) (ts := []) (s := [0, 1, 2, 3, 4, 5, 6, 7, 8, 9, 10]) (l := [0, 1, 12, 13, 14]) (by kernel_rfl) (by kernel_rfl) (.cons (vf h113) .nil) (G_lift_Run_h_L3_ok hF ks n v_l58 k (wi .i64 (v_x196 + 1)) v_b197 v_z248 v_z249 v_z250 _ h q)
      | x1 v_z256 v_z257 v_z258 v_z259 v_z260 =>
        try dsimp only at h
        by_cases h114 : v_z256 = true
        · rw [if_pos h114] at h
          cases h
          exact pkk_sound TTok mix hF 7 (hs := [.t true]) (ts := []) (s := [0, 1, 2, 3, 4, 5, 6, 7, 8, 9, 10]) (l := [4]) (by kernel_rfl) (by kernel_rfl) (.cons h114 .nil) q
        · rw [if_neg h114] at h
          exact pkk_sound TTok mix hF 4 (hs := [.t false]) (ts := []) (s := [0, 1, 2, 3, 4, 5, 6, 7, 8, 9, 10]) (l := [0, 1, 12, 13, 14]) (by kernel_rfl) (by kernel_rfl) (.cons (vf h114) .nil) (G_lift_Run_h_L3_ok hF ks n v_l58 k (wi .i64 (v_x196 + 1)) v_z257 v_z258 v_z259 v_z260 _ h q)
    · rw [if_neg h94] at h
      cases h
      exact pkk_sound TTok mix hF 8 (hs := [.t false]) (ts := []) (s := [0, 1, 2, 3, 4, 5, 6, 7, 8, 9, 10]) (l := [0, 1]) (by kernel_rfl) (by kernel_rfl) (.cons (df h94) .nil) q
inductive G_lift_Run_h_L4_R where
  | x0 (v_x1241 : Int) (v_b1242 : Int) (v_w1243 : (List Int)) (v_w1244 : (List Int)) (v_w1245 : (List S_disk_write))
  | x1 (v_b1246 : Int) (v_w1247 : (List Int)) (v_w1248 : (List Int)) (v_w1249 : (List S_disk_write))
def G_lift_Run_h_L4_ex : G_lift_Run_h_L4_R → Ex
  | .x0 _ _ _ _ _ => .ret
  | .x1 _ _ _ _ => .exit 2
def G_lift_Run_h_L4_st (v_r1167 : ((List S_lift_Req) × Int)) : G_lift_Run_h_L4_R → PS
  | .x0 v_x1241 v_b1242 v_w1243 v_w1244 v_w1245 => ⟨(dd :: dd :: dd :: dd :: .d (.v (.int .i64 v_x1241)) :: (dds 57 [])), [.gh 0 (.ref 4 0), .gh 1 (.srf 8), .gh 2 (.srf 9), .gh 3 (.srf 10), .box [.srf 5, .srf 6, .srf 7, .d (.v (.int .i64 v_b1242))], .row 5 1 (v_w1243.map (eI .u8)), .row 5 1 (v_w1244.map (eI .u8)), .row 70 2 (v_w1245.map eS_disk_write), .none, .none, .none]⟩
  | .x1 v_b1246 v_w1247 v_w1248 v_w1249 => ⟨(dds 62 []), [.gh 0 (.ref 4 0), .gh 1 (.srf 8), .gh 2 (.srf 9), .gh 3 (.srf 10), .box [.srf 5, .srf 6, .srf 7, .d (.v (.int .i64 v_b1246))], .row 5 1 (v_w1247.map (eI .u8)), .row 5 1 (v_w1248.map (eI .u8)), .row 70 2 (v_w1249.map eS_disk_write), .none, .none, .none]⟩
def G_lift_Run_h_L4_hd (v_r1167 : ((List S_lift_Req) × Int)) (v_x1225 : Int) (v_b1226 : Int) (v_w1227 : (List Int)) (v_w1228 : (List Int)) (v_w1229 : (List S_disk_write)) : PS := ⟨(.ref 4 0 :: (dds 41 (.d (.sl (v_r1167.1.map eS_lift_Req)) :: .d (.v (.int .i64 (v_r1167.1.length : Int))) :: .d (.v (.int .i64 v_x1225)) :: (dds 17 [])))), [.gh 0 (.ref 4 0), .gh 1 (.srf 8), .gh 2 (.srf 9), .gh 3 (.srf 10), .box [.srf 5, .srf 6, .srf 7, .d (.v (.int .i64 v_b1226))], .row 5 1 (v_w1227.map (eI .u8)), .row 5 1 (v_w1228.map (eI .u8)), .row 70 2 (v_w1229.map eS_disk_write), .none, .none, .none]⟩
def G_lift_Run_h_L4 (n : Nat) (v_r1167 : ((List S_lift_Req) × Int)) : Nat → Int → Int → (List Int) → (List Int) → (List S_disk_write) → Option G_lift_Run_h_L4_R
  | 0, _, _, _, _, _ => none
  | k + 1, v_x1225, v_b1226, v_w1227, v_w1228, v_w1229 =>
    if v_x1225 < (v_r1167.1.length : Int) then
     (getI v_r1167.1 v_x1225).bind fun (v_y1236 : S_lift_Req) =>
     if v_y1236.fBarrier = true then
      (G_disk_Disk_Flush_h n (S_disk_Disk.mk v_w1227 v_w1228 v_w1229 v_b1226)).bind fun (v_r1239 : (S_disk_Disk)) =>
      G_lift_Run_h_L4 n v_r1167 k (wi .i64 (v_x1225 + 1)) v_r1239.ffuse v_r1239.fsafe v_r1239.fnow v_r1239.fwait
     else
      (G_disk_Disk_Write_h n (S_disk_Disk.mk v_w1227 v_w1228 v_w1229 v_b1226) v_y1236.fSector v_y1236.fData).bind fun (v_r1240 : (Int × S_disk_Disk)) =>
      if v_r1240.1 = 0 then
       G_lift_Run_h_L4 n v_r1167 k (wi .i64 (v_x1225 + 1)) v_r1240.2.ffuse v_r1240.2.fsafe v_r1240.2.fnow v_r1240.2.fwait
      else
       some (.x0 v_r1240.1 v_r1240.2.ffuse v_r1240.2.fsafe v_r1240.2.fnow v_r1240.2.fwait)
    else
     some (.x1 v_b1226 v_w1227 v_w1228 v_w1229)
theorem G_lift_Run_h_L4_ok {Fi : Ex → PS → Prop} (hF : KC 62 Fi) (ks : List Fr) (n : Nat) (v_r1167 : ((List S_lift_Req) × Int))  : ∀ (k : Nat) (v_x1225 : Int) (v_b1226 : Int) (v_w1227 : (List Int)) (v_w1228 : (List Int)) (v_w1229 : (List S_disk_write)) (o : G_lift_Run_h_L4_R), G_lift_Run_h_L4 n v_r1167 k v_x1225 v_b1226 v_w1227 v_w1228 v_w1229 = some o → RunE Try.prog 62 Fi ks (G_lift_Run_h_L4_ex o) (G_lift_Run_h_L4_st v_r1167 o) → RunE Try.prog 62 Fi (.l k (cP (cB (cR (cL (cR (cR (cR (cR (bodyOf Try.f16))))))))) :: ks) .normal (G_lift_Run_h_L4_hd v_r1167 v_x1225 v_b1226 v_w1227 v_w1228 v_w1229)
  | 0, v_x1225, v_b1226, v_w1227, v_w1228, v_w1229, o, h, q => by rw [G_lift_Run_h_L4] at h; cases h
  | k + 1, v_x1225, v_b1226, v_w1227, v_w1228, v_w1229, o, h, q => by
    rw [G_lift_Run_h_L4] at h
    by_cases h1005 : v_x1225 < (v_r1167.1.length : Int)
    · rw [if_pos h1005] at h
      obtain ⟨v_y1236, h1015, h⟩ := bind_some h
      by_cases h1020 : v_y1236.fBarrier = true
      · rw [if_pos h1020] at h
        obtain ⟨v_r1239, h1021, h⟩ := bind_some h
        exact pkk_sound TTok mix hF 16 (hs := [.t true, .y (eS_lift_Req v_y1236), .c, .c, .t true, .h [4, 5, 6, 7] [] [.box [.srf 4, .srf 5, .srf 6, .d (.v (.int .i64 v_r1239.ffuse))], .none, .none, .none, .row 5 1 (v_r1239.fsafe.map (eI .u8)), .row 5 1 (v_r1239.fnow.map (eI .u8)), .row 70 2 (v_r1239.fwait.map eS_disk_write)] (.tup [])]) (ts := []) (s := [0, 1, 2, 3, 4, 51, 52, 53, 8, 9, 10]) (l := [0, 42, 43, 44]) (by kernel_rfl) (by kernel_rfl) (.cons (dt h1005) (.cons (getI_ob (f := eS_lift_Req) h1015) (.cons (show 0 + 3 ≤ 3 by decide) (.cons h1020 (.cons (G_disk_Disk_Flush_h_ok n (S_disk_Disk.mk v_w1227 v_w1228 v_w1229 v_b1226) _ h1021) .nil))))) (G_lift_Run_h_L4_ok hF ks n v_r1167 k (wi .i64 (v_x1225 + 1)) v_r1239.ffuse v_r1239.fsafe v_r1239.fnow v_r1239.fwait _ h q)
      · rw [if_neg h1020] at h
        obtain ⟨v_r1240, h1022, h⟩ := bind_some h
        by_cases h1023 : v_r1240.1 = 0
        · rw [if_pos h1023] at h
          exact pkk_sound TTok mix hF 21 (hs := [.t true, .y (eS_lift_Req v_y1236), .c, .c, .t false, .c, .c, .h [4, 5, 6, 7] [] [.box [.srf 4, .srf 5, .srf 6, .d (.v (.int .i64 v_r1240.2.ffuse))], .none, .none, .none, .row 5 1 (v_r1240.2.fsafe.map (eI .u8)), .row 5 1 (v_r1240.2.fnow.map (eI .u8)), .row 70 2 (v_r1240.2.fwait.map eS_disk_write)] (.d (.v (.int .i64 v_r1240.1))), .t false]) (ts := []) (s := [0, 1, 2, 3, 4, 71, 72, 73, 8, 9, 10]) (l := [0, 42, 43, 44]) (by kernel_rfl) (by kernel_rfl) (.cons (dt h1005) (.cons (getI_ob (f := eS_lift_Req) h1015) (.cons (show 0 + 3 ≤ 3 by decide) (.cons (vf h1020) (.cons (G_disk_Disk_Write_h_ok n (S_disk_Disk.mk v_w1227 v_w1228 v_w1229 v_b1226) v_y1236.fSector v_y1236.fData _ h1022) (.cons (nf h1023) .nil)))))) (G_lift_Run_h_L4_ok hF ks n v_r1167 k (wi .i64 (v_x1225 + 1)) v_r1240.2.ffuse v_r1240.2.fsafe v_r1240.2.fnow v_r1240.2.fwait _ h q)
        · rw [if_neg h1023] at h
          cases h
          exact pkk_sound TTok mix hF 24 (hs := [.t true, .y (eS_lift_Req v_y1236), .c, .c, .t false, .c, .c, .h [4, 5, 6, 7] [] [.box [.srf 4, .srf 5, .srf 6, .d (.v (.int .i64 v_r1240.2.ffuse))], .none, .none, .none, .row 5 1 (v_r1240.2.fsafe.map (eI .u8)), .row 5 1 (v_r1240.2.fnow.map (eI .u8)), .row 70 2 (v_r1240.2.fwait.map eS_disk_write)] (.d (.v (.int .i64 v_r1240.1))), .t true]) (ts := []) (s := [0, 1, 2, 3, 4, 71, 72, 73, 8, 9, 10]) (l := [4]) (by kernel_rfl) (by kernel_rfl) (.cons (dt h1005) (.cons (getI_ob (f := eS_lift_Req) h1015) (.cons (show 0 + 3 ≤ 3 by decide) (.cons (vf h1020) (.cons (G_disk_Disk_Write_h_ok n (S_disk_Disk.mk v_w1227 v_w1228 v_w1229 v_b1226) v_y1236.fSector v_y1236.fData _ h1022) (.cons (nt h1023) .nil)))))) q
    · rw [if_neg h1005] at h
      cases h
      exact pkk_sound TTok mix hF 8 (hs := [.t false]) (ts := []) (s := [0, 1, 2, 3, 4, 5, 6, 7, 8, 9, 10]) (l := []) (by kernel_rfl) (by kernel_rfl) (.cons (df h1005) .nil) q
/- ringhall/lift.Run -/
def G_lift_Run_h (n : Nat) (v_d57 : S_disk_Disk) (v_l58 : (List S_lift_Req)) : Option (Int × S_disk_Disk) :=
  (G_lift_Run_h_L3 n v_l58 n 0 v_d57.ffuse v_d57.fsafe v_d57.fnow v_d57.fwait).bind fun v_o270 => match v_o270 with
  | .x0 v_z271 v_z272 v_z273 v_z274 v_z275 =>
    some (v_z271, (S_disk_Disk.mk v_z273 v_z274 v_z275 v_z272))
  | .x1 v_z276 v_z277 v_z278 v_z279 =>
    (G_lift_Order n v_l58 0).bind fun (v_r1167 : ((List S_lift_Req) × Int)) =>
    if v_r1167.2 = 0 then
     (G_lift_Run_h_L4 n v_r1167 n 0 v_z276 v_z277 v_z278 v_z279).bind fun v_o1250 => match v_o1250 with
     | .x0 v_z1251 v_z1252 v_z1253 v_z1254 v_z1255 =>
       some (v_z1251, (S_disk_Disk.mk v_z1253 v_z1254 v_z1255 v_z1252))
     | .x1 v_z1256 v_z1257 v_z1258 v_z1259 =>
       some (0, (S_disk_Disk.mk v_z1257 v_z1258 v_z1259 v_z1256))
    else
     some (v_r1167.2, (S_disk_Disk.mk v_z277 v_z278 v_z279 v_z276))
theorem G_lift_Run_h_ok (n : Nat) (v_d57 : S_disk_Disk) (v_l58 : (List S_lift_Req)) (r : Int × S_disk_Disk) (h : G_lift_Run_h n v_d57 v_l58 = some r) : RetH Try.prog 16 [.ref 0 0, .d ((eL eS_lift_Req) v_l58)] [.box [.srf 1, .srf 2, .srf 3, .d (.v (.int .i64 v_d57.ffuse))], .row 5 1 (v_d57.fsafe.map (eI .u8)), .row 5 1 (v_d57.fnow.map (eI .u8)), .row 70 2 (v_d57.fwait.map eS_disk_write)] (.d ((eI .i64) r.1)) [.box [.srf 4, .srf 5, .srf 6, .d (.v (.int .i64 r.2.ffuse))], .none, .none, .none, .row 5 1 (r.2.fsafe.map (eI .u8)), .row 5 1 (r.2.fnow.map (eI .u8)), .row 70 2 (r.2.fwait.map eS_disk_write)] := by
  refine retH_run (n := 62) (fn := Try.f16) (c := bodyOf Try.f16) (by kernel_rfl) (by kernel_rfl) (by kernel_rfl) (by kernel_rfl) ?_
  have hF : KC 62 (FinH Try.prog Try.f16 [.box [.srf 1, .srf 2, .srf 3, .d (.v (.int .i64 v_d57.ffuse))], .row 5 1 (v_d57.fsafe.map (eI .u8)), .row 5 1 (v_d57.fnow.map (eI .u8)), .row 70 2 (v_d57.fwait.map eS_disk_write)] (.d ((eI .i64) r.1)) [.box [.srf 4, .srf 5, .srf 6, .d (.v (.int .i64 r.2.ffuse))], .none, .none, .none, .row 5 1 (r.2.fsafe.map (eI .u8)), .row 5 1 (r.2.fnow.map (eI .u8)), .row 70 2 (r.2.fwait.map eS_disk_write)]) := FinH.kc' (by kernel_rfl)
  unfold G_lift_Run_h at h
  obtain ⟨v_o270, h115, h⟩ := bind_some h
  refine pkk_sound TTok mix hF 10 (hs := [.u (.d (.v (.int .i64 (v_l58.length : Int)))), .dl 1, .mv 1, .mv 2, .mv 3, .n n]) (ts := []) (s := [4, 5, 6, 7, 0, 28, 29, 30, 1, 2, 3]) (l := [0, 1, 12, 13, 14]) (by kernel_rfl) (by kernel_rfl) (.cons (len_ob (f := eS_lift_Req) (l := v_l58)) .nil) (G_lift_Run_h_L3_ok hF (.b 0 :: .s (cR (cR (bodyOf Try.f16))) :: []) n v_l58 n 0 v_d57.ffuse v_d57.fsafe v_d57.fnow v_d57.fwait _ h115 ?_)
  cases v_o270 with
  | x0 v_z271 v_z272 v_z273 v_z274 v_z275 =>
    try dsimp only at h
    obtain rfl := Option.some.inj h
    exact pendH_sound TTok mix 2 (hs := []) [4, 8, 9, 10, 5, 6, 7] (by kernel_rfl) (by kernel_rfl) (by kernel_rfl) .nil
  | x1 v_z276 v_z277 v_z278 v_z279 =>
    try dsimp only at h
    obtain ⟨v_r1167, h950, h⟩ := bind_some h
    by_cases h951 : v_r1167.2 = 0
    · rw [if_pos h951] at h
      obtain ⟨v_o1250, h1024, h⟩ := bind_some h
      refine pkk_sound TTok mix hF 13 (hs := [.r (.tup [(eL eS_lift_Req) v_r1167.1, (eI .i64) v_r1167.2]), .t false, .u (.d (.v (.int .i64 (v_r1167.1.length : Int)))), .n n]) (ts := []) (s := [0, 1, 2, 3, 4, 5, 6, 7, 8, 9, 10]) (l := [0, 42, 43, 44]) (by kernel_rfl) (by kernel_rfl) (.cons (G_lift_Order_ok n v_l58 0 _ h950) (.cons (nf h951) (.cons (len_ob (f := eS_lift_Req) (l := v_r1167.1)) .nil))) (G_lift_Run_h_L4_ok hF (.b 2 :: .s (cR (cR (cR (cR (cR (bodyOf Try.f16)))))) :: []) n v_r1167 n 0 v_z276 v_z277 v_z278 v_z279 _ h1024 ?_)
      cases v_o1250 with
      | x0 v_z1251 v_z1252 v_z1253 v_z1254 v_z1255 =>
        try dsimp only at h
        obtain rfl := Option.some.inj h
        exact pendH_sound TTok mix 2 (hs := []) [4, 8, 9, 10, 5, 6, 7] (by kernel_rfl) (by kernel_rfl) (by kernel_rfl) .nil
      | x1 v_z1256 v_z1257 v_z1258 v_z1259 =>
        try dsimp only at h
        obtain rfl := Option.some.inj h
        exact pendH_sound TTok mix 4 (hs := []) [4, 8, 9, 10, 5, 6, 7] (by kernel_rfl) (by kernel_rfl) (by kernel_rfl) .nil
    · rw [if_neg h951] at h
      obtain rfl := Option.some.inj h
      exact pendH_sound TTok mix 11 (hs := [.r (.tup [(eL eS_lift_Req) v_r1167.1, (eI .i64) v_r1167.2]), .t true]) [4, 8, 9, 10, 5, 6, 7] (by kernel_rfl) (by kernel_rfl) (by kernel_rfl) (.cons (G_lift_Order_ok n v_l58 0 _ h950) (.cons (nt h951) .nil))
/- (*ringhall/disk.Disk).Waiting -/
def G_disk_Disk_Waiting_h (n : Nat) (v_d1261 : S_disk_Disk) : Option (Int × S_disk_Disk) :=
  some ((v_d1261.fwait.length : Int), v_d1261)
theorem G_disk_Disk_Waiting_h_ok (n : Nat) (v_d1261 : S_disk_Disk) (r : Int × S_disk_Disk) (h : G_disk_Disk_Waiting_h n v_d1261 = some r) : RetH Try.prog 17 [.ref 0 0] [.box [.srf 1, .srf 2, .srf 3, .d (.v (.int .i64 v_d1261.ffuse))], .row 5 1 (v_d1261.fsafe.map (eI .u8)), .row 5 1 (v_d1261.fnow.map (eI .u8)), .row 70 2 (v_d1261.fwait.map eS_disk_write)] (.d ((eI .i64) r.1)) [.box [.srf 4, .srf 5, .srf 6, .d (.v (.int .i64 r.2.ffuse))], .none, .none, .none, .row 5 1 (r.2.fsafe.map (eI .u8)), .row 5 1 (r.2.fnow.map (eI .u8)), .row 70 2 (r.2.fwait.map eS_disk_write)] := by
  refine retH_run (n := 8) (fn := Try.f17) (c := bodyOf Try.f17) (by kernel_rfl) (by kernel_rfl) (by kernel_rfl) (by kernel_rfl) ?_
  have hF : KC 8 (FinH Try.prog Try.f17 [.box [.srf 1, .srf 2, .srf 3, .d (.v (.int .i64 v_d1261.ffuse))], .row 5 1 (v_d1261.fsafe.map (eI .u8)), .row 5 1 (v_d1261.fnow.map (eI .u8)), .row 70 2 (v_d1261.fwait.map eS_disk_write)] (.d ((eI .i64) r.1)) [.box [.srf 4, .srf 5, .srf 6, .d (.v (.int .i64 r.2.ffuse))], .none, .none, .none, .row 5 1 (r.2.fsafe.map (eI .u8)), .row 5 1 (r.2.fnow.map (eI .u8)), .row 70 2 (r.2.fwait.map eS_disk_write)]) := FinH.kc' (by kernel_rfl)
  unfold G_disk_Disk_Waiting_h at h
  obtain rfl := Option.some.inj h
  exact pendH_sound TTok mix 8 (hs := [.c, .u (.d (.v (.int .i64 (v_d1261.fwait.length : Int)))), .dl 1, .mv 1, .mv 2, .mv 3]) [0, 1, 2, 3, 43, 44, 45] (by kernel_rfl) (by kernel_rfl) (by kernel_rfl) (.cons (len_ob (f := eS_disk_write) (l := v_d1261.fwait)) .nil)
inductive G_ringlaw3_requests_L1_R where
  | x0 (v_w1274 : (List S_ringref3_Req))
def G_ringlaw3_requests_L1_ex : G_ringlaw3_requests_L1_R → Ex
  | .x0 _ => .exit 0
def G_ringlaw3_requests_L1_st (v_l1264 : (List S_lift_Req)) : G_ringlaw3_requests_L1_R → PS
  | .x0 v_w1274 => ⟨(dd :: dd :: dd :: .srf 0 :: (dds 24 [])), [.row 35 2 (v_w1274.map eS_ringref3_Req)]⟩
def G_ringlaw3_requests_L1_hd (v_l1264 : (List S_lift_Req)) (v_x1265 : Int) (v_w1266 : (List S_ringref3_Req)) : PS := ⟨(dd :: dd :: dd :: .srf 0 :: dd :: dd :: dd :: .d (.sl (v_l1264.map eS_lift_Req)) :: .d (.v (.int .i64 (v_l1264.length : Int))) :: .d (.v (.int .i64 v_x1265)) :: (dds 18 [])), [.row 35 2 (v_w1266.map eS_ringref3_Req)]⟩
def G_ringlaw3_requests_L1 (n : Nat) (v_l1264 : (List S_lift_Req)) : Nat → Int → (List S_ringref3_Req) → Option G_ringlaw3_requests_L1_R
  | 0, _, _ => none
  | k + 1, v_x1265, v_w1266 =>
    if v_x1265 < (v_l1264.length : Int) then
     (getI v_l1264 v_x1265).bind fun (v_y1271 : S_lift_Req) =>
     if v_y1271.fBarrier = true then
      (app 24 v_w1266 ([(S_ringref3_Req.mk (-1) (ByteArray.mk #[]))])).bind fun (v_a1272 : (List S_ringref3_Req)) =>
      G_ringlaw3_requests_L1 n v_l1264 k (wi .i64 (v_x1265 + 1)) v_a1272
     else
      (app 24 v_w1266 ([(S_ringref3_Req.mk v_y1271.fSector (b2s v_y1271.fData))])).bind fun (v_a1273 : (List S_ringref3_Req)) =>
      G_ringlaw3_requests_L1 n v_l1264 k (wi .i64 (v_x1265 + 1)) v_a1273
    else
     some (.x0 v_w1266)
theorem G_ringlaw3_requests_L1_ok {Fi : Ex → PS → Prop} (hF : KC 28 Fi) (ks : List Fr) (n : Nat) (v_l1264 : (List S_lift_Req))  : ∀ (k : Nat) (v_x1265 : Int) (v_w1266 : (List S_ringref3_Req)) (o : G_ringlaw3_requests_L1_R), G_ringlaw3_requests_L1 n v_l1264 k v_x1265 v_w1266 = some o → RunE Try.prog 28 Fi ks (G_ringlaw3_requests_L1_ex o) (G_ringlaw3_requests_L1_st v_l1264 o) → RunE Try.prog 28 Fi (.l k (cP (cB (cR (cL (cR (cR (bodyOf Try.f9))))))) :: ks) .normal (G_ringlaw3_requests_L1_hd v_l1264 v_x1265 v_w1266)
  | 0, v_x1265, v_w1266, o, h, q => by rw [G_ringlaw3_requests_L1] at h; cases h
  | k + 1, v_x1265, v_w1266, o, h, q => by
    rw [G_ringlaw3_requests_L1] at h
    by_cases h1032 : v_x1265 < (v_l1264.length : Int)
    · rw [if_pos h1032] at h
      obtain ⟨v_y1271, h1037, h⟩ := bind_some h
      by_cases h1038 : v_y1271.fBarrier = true
      · rw [if_pos h1038] at h
        obtain ⟨v_a1272, h1039, h⟩ := bind_some h
        exact pkk_sound TTok mix hF 20 (hs := [.t true, .y (eS_lift_Req v_y1271), .c, .c, .c, .e 46 [] (.d (.v (.string (b2s v_y1271.fData)))) [], .c, .c, .t true, .c, .c, .bd, .w (v_a1272.map eS_ringref3_Req)]) (ts := []) (s := [101]) (l := [3, 7, 8, 9]) (by kernel_rfl) (by kernel_rfl) (.cons (dt h1032) (.cons (getI_ob (f := eS_lift_Req) h1037) (.cons (show 0 + 3 ≤ 3 by decide) (.cons (xb2sD (L := v_y1271.fData) (P := Try.prog) (T := TT) (src := 24) (dst := 9) (e := 5) (s := 1) (x := (.tmp 16)) (by kernel_rfl) (by kernel_rfl) (by kernel_rfl)) (.cons (show 0 + 2 ≤ 2 by decide) (.cons h1038 (.cons (show 0 + 2 ≤ 2 by decide) (.cons (app_ob (f := eS_ringref3_Req) (s := 2) h1039 (fun _ => rfl)).1 (.cons (app_ob (f := eS_ringref3_Req) (s := 2) h1039 (fun _ => rfl)).2.1 (.cons (app_ob (f := eS_ringref3_Req) (s := 2) h1039 (fun _ => rfl)).2.2.1 (.cons (app_ob (f := eS_ringref3_Req) (s := 2) h1039 (fun _ => rfl)).2.2.2 .nil))))))))))) (G_ringlaw3_requests_L1_ok hF ks n v_l1264 k (wi .i64 (v_x1265 + 1)) v_a1272 _ h q)
      · rw [if_neg h1038] at h
        obtain ⟨v_a1273, h1040, h⟩ := bind_some h
        exact pkk_sound TTok mix hF 20 (hs := [.t true, .y (eS_lift_Req v_y1271), .c, .c, .c, .e 46 [] (.d (.v (.string (b2s v_y1271.fData)))) [], .c, .c, .t false, .c, .bd, .w (v_a1273.map eS_ringref3_Req)]) (ts := []) (s := [91]) (l := [3, 7, 8, 9]) (by kernel_rfl) (by kernel_rfl) (.cons (dt h1032) (.cons (getI_ob (f := eS_lift_Req) h1037) (.cons (show 0 + 3 ≤ 3 by decide) (.cons (xb2sD (L := v_y1271.fData) (P := Try.prog) (T := TT) (src := 24) (dst := 9) (e := 5) (s := 1) (x := (.tmp 16)) (by kernel_rfl) (by kernel_rfl) (by kernel_rfl)) (.cons (show 0 + 2 ≤ 2 by decide) (.cons (vf h1038) (.cons (app_ob (f := eS_ringref3_Req) (s := 2) h1040 (fun _ => rfl)).1 (.cons (app_ob (f := eS_ringref3_Req) (s := 2) h1040 (fun _ => rfl)).2.1 (.cons (app_ob (f := eS_ringref3_Req) (s := 2) h1040 (fun _ => rfl)).2.2.1 (.cons (app_ob (f := eS_ringref3_Req) (s := 2) h1040 (fun _ => rfl)).2.2.2 .nil)))))))))) (G_ringlaw3_requests_L1_ok hF ks n v_l1264 k (wi .i64 (v_x1265 + 1)) v_a1273 _ h q)
    · rw [if_neg h1032] at h
      cases h
      exact pkk_sound TTok mix hF 8 (hs := [.t false]) (ts := []) (s := [0]) (l := [3]) (by kernel_rfl) (by kernel_rfl) (.cons (df h1032) .nil) q
/- ringhall/ringlaw3.requests -/
def G_ringlaw3_requests (n : Nat) (v_l1264 : (List S_lift_Req)) : Option ((List S_ringref3_Req)) :=
  (G_ringlaw3_requests_L1 n v_l1264 n 0 ([] : List S_ringref3_Req)).bind fun v_o1275 => match v_o1275 with
  | .x0 v_z1276 =>
    some v_z1276
theorem G_ringlaw3_requests_ok (n : Nat) (v_l1264 : (List S_lift_Req)) (r : (List S_ringref3_Req)) (h : G_ringlaw3_requests n v_l1264 = some r) : Ret Try.prog 9 [(eL eS_lift_Req) v_l1264] ((eL eS_ringref3_Req) r) := by
  refine ret_run (n := 28) (fn := Try.f9) (c := bodyOf Try.f9) (by kernel_rfl) (by kernel_rfl) (by kernel_rfl) (by kernel_rfl) ?_
  have hF : KC 28 (FinR Try.prog Try.f9 ((eL eS_ringref3_Req) r)) := FinR.kc' (by kernel_rfl)
  unfold G_ringlaw3_requests at h
  obtain ⟨v_o1275, h1041, h⟩ := bind_some h
  refine pkk_sound TTok mix hF 9 (hs := [.u (.d (.v (.int .i64 (v_l1264.length : Int)))), .n n]) (ts := [(3, 35, 2)]) (s := [25]) (l := [3, 7, 8, 9]) (by kernel_rfl) (by kernel_rfl) (.cons (len_ob (f := eS_lift_Req) (l := v_l1264)) .nil) (G_ringlaw3_requests_L1_ok hF (.b 0 :: .s (cR (cR (cR (bodyOf Try.f9)))) :: []) n v_l1264 n 0 ([] : List S_ringref3_Req) _ h1041 ?_)
  cases v_o1275 with
  | x0 v_z1276 =>
    try dsimp only at h
    obtain rfl := Option.some.inj h
    exact pend_sound TTok mix 4 (hs := []) (by kernel_rfl) (by kernel_rfl) (by kernel_rfl) .nil
inductive G_ringref3_Lift_1_h_L2_R where
  | x0 (v_w1379 : (List S_ringref3_Req)) (v_w1380 : (List S_ringref3_Req))
  | x1 (v_w1381 : (List S_ringref3_Req)) (v_w1382 : (List S_ringref3_Req))
def G_ringref3_Lift_1_h_L2_ex : G_ringref3_Lift_1_h_L2_R → Ex
  | .x0 _ _ => .exit 2
  | .x1 _ _ => .exit 2
def G_ringref3_Lift_1_h_L2_st (v_at1359 : Int) (v_x1360 : Int) (v_b1361 : Int) : G_ringref3_Lift_1_h_L2_R → PS
  | .x0 v_w1379 v_w1380 => ⟨(.ref 5 0 :: .ref 6 0 :: .ref 9 0 :: .d (.v (.int .i64 v_at1359)) :: dd :: dd :: .d (.v (.int .i64 v_x1360)) :: (dds 27 [])), [.gh 0 (.ref 5 0), .gh 1 (.ref 6 0), .gh 2 (.srf 8), .gh 3 (.ref 9 0), .gh 4 (.srf 11), .box [.d (.v (.int .i64 v_at1359))], .box [.srf 7], .row 35 2 (v_w1379.map eS_ringref3_Req), .none, .box [.srf 10], .row 35 2 (v_w1380.map eS_ringref3_Req), .none]⟩
  | .x1 v_w1381 v_w1382 => ⟨(.ref 5 0 :: .ref 6 0 :: .ref 9 0 :: .d (.v (.int .i64 v_at1359)) :: dd :: dd :: .d (.v (.int .i64 v_x1360)) :: (dds 27 [])), [.gh 0 (.ref 5 0), .gh 1 (.ref 6 0), .gh 2 (.srf 8), .gh 3 (.ref 9 0), .gh 4 (.srf 11), .box [.d (.v (.int .i64 v_b1361))], .box [.srf 7], .row 35 2 (v_w1381.map eS_ringref3_Req), .none, .box [.srf 10], .row 35 2 (v_w1382.map eS_ringref3_Req), .none]⟩
def G_ringref3_Lift_1_h_L2_hd (v_at1359 : Int) (v_x1360 : Int) (v_b1361 : Int) (v_i1365 : Int) (v_w1366 : (List S_ringref3_Req)) (v_w1367 : (List S_ringref3_Req)) : PS := ⟨(.ref 5 0 :: .ref 6 0 :: .ref 9 0 :: .d (.v (.int .i64 v_at1359)) :: .d (.v (.int .i64 v_i1365)) :: dd :: .d (.v (.int .i64 v_x1360)) :: (dds 27 [])), [.gh 0 (.ref 5 0), .gh 1 (.ref 6 0), .gh 2 (.srf 8), .gh 3 (.ref 9 0), .gh 4 (.srf 11), .box [.d (.v (.int .i64 v_b1361))], .box [.srf 7], .row 35 2 (v_w1366.map eS_ringref3_Req), .none, .box [.srf 10], .row 35 2 (v_w1367.map eS_ringref3_Req), .none]⟩
def G_ringref3_Lift_1_h_L2 (n : Nat) (v_at1359 : Int) (v_x1360 : Int) (v_b1361 : Int) : Nat → Int → (List S_ringref3_Req) → (List S_ringref3_Req) → Option G_ringref3_Lift_1_h_L2_R
  | 0, _, _, _ => none
  | k + 1, v_i1365, v_w1366, v_w1367 =>
    if v_i1365 ≥ 0 then
     if 0 ≤ v_i1365 ∧ (v_i1365).toNat < v_w1366.length then
      (v_w1366[(v_i1365).toNat]?).bind fun (v_y1374 : S_ringref3_Req) =>
      if v_y1374.fN = v_at1359 then
       if 0 ≤ v_i1365 ∧ (v_i1365).toNat < v_w1366.length then
        (v_w1366[(v_i1365).toNat]?).bind fun (v_y1377 : S_ringref3_Req) =>
        (app 24 v_w1367 ([v_y1377])).bind fun (v_a1378 : (List S_ringref3_Req)) =>
        some (.x0 v_w1366 v_a1378)
       else none
      else
       G_ringref3_Lift_1_h_L2 n v_at1359 v_x1360 v_b1361 k (wi .i64 (v_i1365 - 1)) v_w1366 v_w1367
     else none
    else
     some (.x1 v_w1366 v_w1367)
theorem G_ringref3_Lift_1_h_L2_ok {Fi : Ex → PS → Prop} (hF : KC 34 Fi) (ks : List Fr) (n : Nat) (v_at1359 : Int) (v_x1360 : Int) (v_b1361 : Int)  : ∀ (k : Nat) (v_i1365 : Int) (v_w1366 : (List S_ringref3_Req)) (v_w1367 : (List S_ringref3_Req)) (o : G_ringref3_Lift_1_h_L2_R), G_ringref3_Lift_1_h_L2 n v_at1359 v_x1360 v_b1361 k v_i1365 v_w1366 v_w1367 = some o → RunE Try.prog 34 Fi ks (G_ringref3_Lift_1_h_L2_ex o) (G_ringref3_Lift_1_h_L2_st v_at1359 v_x1360 v_b1361 o) → RunE Try.prog 34 Fi (.l k (cP (cB (cR (cL (cB (cL (cR (cR (cP (cB (cR (cL (cR (bodyOf Try.f28)))))))))))))) :: ks) .normal (G_ringref3_Lift_1_h_L2_hd v_at1359 v_x1360 v_b1361 v_i1365 v_w1366 v_w1367)
  | 0, v_i1365, v_w1366, v_w1367, o, h, q => by rw [G_ringref3_Lift_1_h_L2] at h; cases h
  | k + 1, v_i1365, v_w1366, v_w1367, o, h, q => by
    rw [G_ringref3_Lift_1_h_L2] at h
    by_cases h1118 : v_i1365 ≥ 0
    · rw [if_pos h1118] at h
      by_cases h1129 : 0 ≤ v_i1365 ∧ (v_i1365).toNat < v_w1366.length
      · rw [if_pos h1129] at h
        obtain ⟨v_y1374, h1130, h⟩ := bind_some h
        by_cases h1135 : v_y1374.fN = v_at1359
        · rw [if_pos h1135] at h
          by_cases h1136 : 0 ≤ v_i1365 ∧ (v_i1365).toNat < v_w1366.length
          · rw [if_pos h1136] at h
            obtain ⟨v_y1377, h1137, h⟩ := bind_some h
            obtain ⟨v_a1378, h1138, h⟩ := bind_some h
            cases h
            exact pkk_sound TTok mix hF 19 (hs := [.t true, .c, .y (eS_ringref3_Req v_y1374), .t true, .c, .c, .y (eS_ringref3_Req v_y1377), .bd, .w (v_a1378.map eS_ringref3_Req), .c, .c]) (ts := []) (s := [0, 1, 2, 3, 4, 5, 6, 7, 8, 9, 87, 11]) (l := [0, 1, 2, 3, 6]) (by kernel_rfl) (by kernel_rfl) (.cons (dt h1118) (.cons (idx_ob (f := eS_ringref3_Req) h1129) (.cons (get_ob (f := eS_ringref3_Req) h1130) (.cons (bt h1135) (.cons (idx_ob (f := eS_ringref3_Req) h1136) (.cons (get_ob (f := eS_ringref3_Req) h1137) (.cons (app_ob (f := eS_ringref3_Req) (s := 2) h1138 (fun _ => rfl)).1 (.cons (app_ob (f := eS_ringref3_Req) (s := 2) h1138 (fun _ => rfl)).2.1 (.cons (app_ob (f := eS_ringref3_Req) (s := 2) h1138 (fun _ => rfl)).2.2.1 (.cons (app_ob (f := eS_ringref3_Req) (s := 2) h1138 (fun _ => rfl)).2.2.2 (.cons (show 0 + 1 ≤ 1 by decide) (.cons (show 0 + 1 ≤ 1 by decide) .nil)))))))))))) q
          · rw [if_neg h1136] at h; cases h
        · rw [if_neg h1135] at h
          exact pkk_sound TTok mix hF 14 (hs := [.t true, .c, .y (eS_ringref3_Req v_y1374), .t false]) (ts := []) (s := [0, 1, 2, 3, 4, 5, 6, 7, 8, 9, 10, 11]) (l := [0, 1, 2, 3, 4, 6]) (by kernel_rfl) (by kernel_rfl) (.cons (dt h1118) (.cons (idx_ob (f := eS_ringref3_Req) h1129) (.cons (get_ob (f := eS_ringref3_Req) h1130) (.cons (bf h1135) .nil)))) (G_ringref3_Lift_1_h_L2_ok hF ks n v_at1359 v_x1360 v_b1361 k (wi .i64 (v_i1365 - 1)) v_w1366 v_w1367 _ h q)
      · rw [if_neg h1129] at h; cases h
    · rw [if_neg h1118] at h
      cases h
      exact pkk_sound TTok mix hF 8 (hs := [.t false]) (ts := []) (s := [0, 1, 2, 3, 4, 5, 6, 7, 8, 9, 10, 11]) (l := [0, 1, 2, 3, 6]) (by kernel_rfl) (by kernel_rfl) (.cons (df h1118) .nil) q
inductive G_ringref3_Lift_1_h_L3_R where
  | x0 (v_b1388 : Int) (v_w1389 : (List S_ringref3_Req)) (v_w1390 : (List S_ringref3_Req))
def G_ringref3_Lift_1_h_L3_ex : G_ringref3_Lift_1_h_L3_R → Ex
  | .x0 _ _ _ => .exit 0
def G_ringref3_Lift_1_h_L3_st  : G_ringref3_Lift_1_h_L3_R → PS
  | .x0 v_b1388 v_w1389 v_w1390 => ⟨(dd :: .ref 6 0 :: (dds 32 [])), [.gh 0 (.ref 5 0), .gh 1 (.ref 6 0), .gh 2 (.srf 8), .gh 3 (.ref 9 0), .gh 4 (.srf 11), .box [.d (.v (.int .i64 v_b1388))], .box [.srf 7], .row 35 2 (v_w1389.map eS_ringref3_Req), .none, .box [.srf 10], .row 35 2 (v_w1390.map eS_ringref3_Req), .none]⟩
def G_ringref3_Lift_1_h_L3_hd  (v_at1359 : Int) (v_x1360 : Int) (v_b1361 : Int) (v_w1362 : (List S_ringref3_Req)) (v_w1363 : (List S_ringref3_Req)) : PS := ⟨(.ref 5 0 :: .ref 6 0 :: .ref 9 0 :: .d (.v (.int .i64 v_at1359)) :: dd :: dd :: .d (.v (.int .i64 v_x1360)) :: (dds 27 [])), [.gh 0 (.ref 5 0), .gh 1 (.ref 6 0), .gh 2 (.srf 8), .gh 3 (.ref 9 0), .gh 4 (.srf 11), .box [.d (.v (.int .i64 v_b1361))], .box [.srf 7], .row 35 2 (v_w1362.map eS_ringref3_Req), .none, .box [.srf 10], .row 35 2 (v_w1363.map eS_ringref3_Req), .none]⟩
def G_ringref3_Lift_1_h_L3 (n : Nat)  : Nat → Int → Int → Int → (List S_ringref3_Req) → (List S_ringref3_Req) → Option G_ringref3_Lift_1_h_L3_R
  | 0, _, _, _, _, _ => none
  | k + 1, v_at1359, v_x1360, v_b1361, v_w1362, v_w1363 =>
    if v_x1360 < 256 then
     (G_ringref3_Lift_1_h_L2 n v_at1359 v_x1360 v_b1361 n (wi .i64 ((v_w1362.length : Int) - 1)) v_w1362 v_w1363).bind fun v_o1383 => match v_o1383 with
     | .x0 v_z1384 v_z1385 =>
       G_ringref3_Lift_1_h_L3 n  k (remI (wi .i64 (v_at1359 + 1)) 256) (wi .i64 (v_x1360 + 1)) v_at1359 v_z1384 v_z1385
     | .x1 v_z1386 v_z1387 =>
       G_ringref3_Lift_1_h_L3 n  k (remI (wi .i64 (v_at1359 + 1)) 256) (wi .i64 (v_x1360 + 1)) v_b1361 v_z1386 v_z1387
    else
     some (.x0 v_b1361 v_w1362 v_w1363)
theorem G_ringref3_Lift_1_h_L3_ok {Fi : Ex → PS → Prop} (hF : KC 34 Fi) (ks : List Fr) (n : Nat)   : ∀ (k : Nat) (v_at1359 : Int) (v_x1360 : Int) (v_b1361 : Int) (v_w1362 : (List S_ringref3_Req)) (v_w1363 : (List S_ringref3_Req)) (o : G_ringref3_Lift_1_h_L3_R), G_ringref3_Lift_1_h_L3 n  k v_at1359 v_x1360 v_b1361 v_w1362 v_w1363 = some o → RunE Try.prog 34 Fi ks (G_ringref3_Lift_1_h_L3_ex o) (G_ringref3_Lift_1_h_L3_st  o) → RunE Try.prog 34 Fi (.l k (cP (cB (cR (cL (cR (bodyOf Try.f28)))))) :: ks) .normal (G_ringref3_Lift_1_h_L3_hd  v_at1359 v_x1360 v_b1361 v_w1362 v_w1363)
  | 0, v_at1359, v_x1360, v_b1361, v_w1362, v_w1363, o, h, q => by rw [G_ringref3_Lift_1_h_L3] at h; cases h
  | k + 1, v_at1359, v_x1360, v_b1361, v_w1362, v_w1363, o, h, q => by
    rw [G_ringref3_Lift_1_h_L3] at h
    by_cases h1117 : v_x1360 < 256
    · rw [if_pos h1117] at h
      obtain ⟨v_o1383, h1139, h⟩ := bind_some h
      refine pkk_sound TTok mix hF 13 (hs := [.t true, .c, .u (.d (.v (.int .i64 (v_w1362.length : Int)))), .n n]) (ts := []) (s := [0, 1, 2, 3, 4, 5, 6, 7, 8, 9, 10, 11]) (l := [0, 1, 2, 3, 4, 6]) (by kernel_rfl) (by kernel_rfl) (.cons (dt h1117) (.cons (len_ob (f := eS_ringref3_Req) (l := v_w1362)) .nil)) (G_ringref3_Lift_1_h_L2_ok hF (.b 2 :: .s (cR (cB (cL (cR (cR (cP (cB (cR (cL (cR (bodyOf Try.f28))))))))))) :: .b 1 :: .s (cR (cR (cR (cP (cB (cR (cL (cR (bodyOf Try.f28))))))))) :: .l k (cP (cB (cR (cL (cR (bodyOf Try.f28)))))) :: ks) n v_at1359 v_x1360 v_b1361 n (wi .i64 ((v_w1362.length : Int) - 1)) v_w1362 v_w1363 _ h1139 ?_)
      cases v_o1383 with
      | x0 v_z1384 v_z1385 =>
        try dsimp only at h
        exact pkk_sound TTok mix hF 4 (hs := []) (ts := []) (s := [0, 1, 2, 3, 4, 5, 6, 7, 8, 9, 10, 11]) (l := [0, 1, 2, 3, 6]) (by kernel_rfl) (by kernel_rfl) (.cons (show (256 : Int) ≠ 0 by decide) .nil) (G_ringref3_Lift_1_h_L3_ok hF ks n  k (remI (wi .i64 (v_at1359 + 1)) 256) (wi .i64 (v_x1360 + 1)) v_at1359 v_z1384 v_z1385 _ h q)
      | x1 v_z1386 v_z1387 =>
        try dsimp only at h
        exact pkk_sound TTok mix hF 4 (hs := []) (ts := []) (s := [0, 1, 2, 3, 4, 5, 6, 7, 8, 9, 10, 11]) (l := [0, 1, 2, 3, 6]) (by kernel_rfl) (by kernel_rfl) (.cons (show (256 : Int) ≠ 0 by decide) .nil) (G_ringref3_Lift_1_h_L3_ok hF ks n  k (remI (wi .i64 (v_at1359 + 1)) 256) (wi .i64 (v_x1360 + 1)) v_b1361 v_z1386 v_z1387 _ h q)
    · rw [if_neg h1117] at h
      cases h
      exact pkk_sound TTok mix hF 8 (hs := [.t false]) (ts := []) (s := [0, 1, 2, 3, 4, 5, 6, 7, 8, 9, 10, 11]) (l := [1]) (by kernel_rfl) (by kernel_rfl) (.cons (df h1117) .nil) q
/- ringhall/ringref3.Lift$1 -/
def G_ringref3_Lift_1_h (n : Nat) (v_x1283 : Int) (v_x1284 : (List S_ringref3_Req)) (v_x1285 : (List S_ringref3_Req)) : Option (Int × (List S_ringref3_Req) × (List S_ringref3_Req)) :=
  (G_ringref3_Lift_1_h_L3 n  n v_x1283 0 v_x1283 v_x1284 v_x1285).bind fun v_o1391 => match v_o1391 with
  | .x0 v_z1392 v_z1393 v_z1394 =>
    some (v_z1392, ([] : List S_ringref3_Req), v_z1394)
theorem G_ringref3_Lift_1_h_ok (n : Nat) (v_x1283 : Int) (v_x1284 : (List S_ringref3_Req)) (v_x1285 : (List S_ringref3_Req)) (r : Int × (List S_ringref3_Req) × (List S_ringref3_Req)) (h : G_ringref3_Lift_1_h n v_x1283 v_x1284 v_x1285 = some r) : RetH Try.prog 28 [.ref 0 0, .ref 1 0, .ref 3 0] [.box [.d (.v (.int .i64 v_x1283))], .box [.srf 2], .row 35 2 (v_x1284.map eS_ringref3_Req), .box [.srf 4], .row 35 2 (v_x1285.map eS_ringref3_Req)] (.tup []) [.box [.d (.v (.int .i64 r.1))], .box [.srf 5], .none, .box [.srf 6], .none, .row 35 2 (r.2.1.map eS_ringref3_Req), .row 35 2 (r.2.2.map eS_ringref3_Req)] := by
  refine retH_run (n := 34) (fn := Try.f28) (c := bodyOf Try.f28) (by kernel_rfl) (by kernel_rfl) (by kernel_rfl) (by kernel_rfl) ?_
  have hF : KC 34 (FinH Try.prog Try.f28 [.box [.d (.v (.int .i64 v_x1283))], .box [.srf 2], .row 35 2 (v_x1284.map eS_ringref3_Req), .box [.srf 4], .row 35 2 (v_x1285.map eS_ringref3_Req)] (.tup []) [.box [.d (.v (.int .i64 r.1))], .box [.srf 5], .none, .box [.srf 6], .none, .row 35 2 (r.2.1.map eS_ringref3_Req), .row 35 2 (r.2.2.map eS_ringref3_Req)]) := FinH.kc' (by kernel_rfl)
  unfold G_ringref3_Lift_1_h at h
  obtain ⟨v_o1391, h1142, h⟩ := bind_some h
  refine pkk_sound TTok mix hF 9 (hs := [.c, .dl 4, .mv 2, .mv 4, .n n]) (ts := []) (s := [5, 6, 7, 8, 9, 0, 1, 25, 2, 3, 26, 4]) (l := [0, 1, 2, 3, 6]) (by kernel_rfl) (by kernel_rfl) .nil (G_ringref3_Lift_1_h_L3_ok hF (.b 0 :: .s (cR (cR (bodyOf Try.f28))) :: []) n  n v_x1283 0 v_x1283 v_x1284 v_x1285 _ h1142 ?_)
  cases v_o1391 with
  | x0 v_z1392 v_z1393 v_z1394 =>
    try dsimp only at h
    obtain rfl := Option.some.inj h
    exact pendH_sound TTok mix 3 (hs := [.c, .tb 6 0 35 2]) [5, 6, 8, 9, 11, 17, 10] (by kernel_rfl) (by kernel_rfl) (by kernel_rfl) (.cons (show 0 + 1 ≤ 1 by decide) .nil)
inductive G_ringref3_Lift_L1_R where
  | x0 (v_w1443 : (List S_ringref3_Req)) (v_b1444 : Int) (v_w1445 : (List S_ringref3_Req))
def G_ringref3_Lift_L1_ex : G_ringref3_Lift_L1_R → Ex
  | .x0 _ _ _ => .exit 0
def G_ringref3_Lift_L1_st (v_l1278 : (List S_ringref3_Req)) : G_ringref3_Lift_L1_R → PS
  | .x0 v_w1443 v_b1444 v_w1445 => ⟨(dd :: dd :: dd :: dd :: dd :: .ref 0 0 :: dd :: .clo 28 [.ref 2 0, .ref 3 0, .ref 0 0] :: (dds 26 [])), [.box [.srf 1], .row 35 2 (v_w1443.map eS_ringref3_Req), .box [.d (.v (.int .i64 v_b1444))], .box [.srf 4], .row 35 2 (v_w1445.map eS_ringref3_Req)]⟩
def G_ringref3_Lift_L1_hd (v_l1278 : (List S_ringref3_Req)) (v_x1424 : Int) (v_w1425 : (List S_ringref3_Req)) (v_w1426 : (List S_ringref3_Req)) (v_b1427 : Int) : PS := ⟨(dd :: dd :: dd :: dd :: dd :: .ref 0 0 :: .ref 2 0 :: .clo 28 [.ref 4 0, .ref 2 0, .ref 0 0] :: dd :: dd :: dd :: .d (.sl (v_l1278.map eS_ringref3_Req)) :: .d (.v (.int .i64 (v_l1278.length : Int))) :: .d (.v (.int .i64 v_x1424)) :: (dds 20 [])), [.box [.srf 1], .row 35 2 (v_w1425.map eS_ringref3_Req), .box [.srf 3], .row 35 2 (v_w1426.map eS_ringref3_Req), .box [.d (.v (.int .i64 v_b1427))]]⟩
def G_ringref3_Lift_L1 (n : Nat) (v_l1278 : (List S_ringref3_Req)) : Nat → Int → (List S_ringref3_Req) → (List S_ringref3_Req) → Int → Option G_ringref3_Lift_L1_R
  | 0, _, _, _, _ => none
  | k + 1, v_x1424, v_w1425, v_w1426, v_b1427 =>
    if v_x1424 < (v_l1278.length : Int) then
     (getI v_l1278 v_x1424).bind fun (v_y1436 : S_ringref3_Req) =>
     if v_y1436.fN < 0 then
      (G_ringref3_Lift_1_h n v_b1427 v_w1426 v_w1425).bind fun (v_r1440 : (Int × (List S_ringref3_Req) × (List S_ringref3_Req))) =>
      (app 24 v_r1440.2.2 ([(S_ringref3_Req.mk (-1) (ByteArray.mk #[]))])).bind fun (v_a1441 : (List S_ringref3_Req)) =>
      G_ringref3_Lift_L1 n v_l1278 k (wi .i64 (v_x1424 + 1)) v_a1441 v_r1440.2.1 v_r1440.1
     else
      (app 24 v_w1426 ([v_y1436])).bind fun (v_a1442 : (List S_ringref3_Req)) =>
      G_ringref3_Lift_L1 n v_l1278 k (wi .i64 (v_x1424 + 1)) v_w1425 v_a1442 v_b1427
    else
     some (.x0 v_w1425 v_b1427 v_w1426)
theorem G_ringref3_Lift_L1_ok {Fi : Ex → PS → Prop} (hF : KC 34 Fi) (ks : List Fr) (n : Nat) (v_l1278 : (List S_ringref3_Req))  : ∀ (k : Nat) (v_x1424 : Int) (v_w1425 : (List S_ringref3_Req)) (v_w1426 : (List S_ringref3_Req)) (v_b1427 : Int) (o : G_ringref3_Lift_L1_R), G_ringref3_Lift_L1 n v_l1278 k v_x1424 v_w1425 v_w1426 v_b1427 = some o → RunE Try.prog 34 Fi ks (G_ringref3_Lift_L1_ex o) (G_ringref3_Lift_L1_st v_l1278 o) → RunE Try.prog 34 Fi (.l k (cP (cB (cR (cL (cR (cR (cR (bodyOf Try.f10)))))))) :: ks) .normal (G_ringref3_Lift_L1_hd v_l1278 v_x1424 v_w1425 v_w1426 v_b1427)
  | 0, v_x1424, v_w1425, v_w1426, v_b1427, o, h, q => by rw [G_ringref3_Lift_L1] at h; cases h
  | k + 1, v_x1424, v_w1425, v_w1426, v_b1427, o, h, q => by
    rw [G_ringref3_Lift_L1] at h
    by_cases h1176 : v_x1424 < (v_l1278.length : Int)
    · rw [if_pos h1176] at h
      obtain ⟨v_y1436, h1186, h⟩ := bind_some h
      by_cases h1191 : v_y1436.fN < 0
      · rw [if_pos h1191] at h
        obtain ⟨v_r1440, h1192, h⟩ := bind_some h
        obtain ⟨v_a1441, h1193, h⟩ := bind_some h
        exact pkk_sound TTok mix hF 18 (hs := [.t true, .y (eS_ringref3_Req v_y1436), .c, .c, .t true, .h [4, 2, 3, 0, 1] [] [.box [.d (.v (.int .i64 v_r1440.1))], .box [.srf 5], .none, .box [.srf 6], .none, .row 35 2 (v_r1440.2.1.map eS_ringref3_Req), .row 35 2 (v_r1440.2.2.map eS_ringref3_Req)] (.tup []), .c, .bd, .w (v_a1441.map eS_ringref3_Req), .c]) (ts := []) (s := [0, 70, 2, 50, 4]) (l := [5, 6, 7, 11, 12, 13]) (by kernel_rfl) (by kernel_rfl) (.cons (dt h1176) (.cons (getI_ob (f := eS_ringref3_Req) h1186) (.cons (show 0 + 2 ≤ 2 by decide) (.cons (dt h1191) (.cons (G_ringref3_Lift_1_h_ok n v_b1427 v_w1426 v_w1425 _ h1192) (.cons (app_ob (f := eS_ringref3_Req) (s := 2) h1193 (fun _ => rfl)).1 (.cons (app_ob (f := eS_ringref3_Req) (s := 2) h1193 (fun _ => rfl)).2.1 (.cons (app_ob (f := eS_ringref3_Req) (s := 2) h1193 (fun _ => rfl)).2.2.1 (.cons (app_ob (f := eS_ringref3_Req) (s := 2) h1193 (fun _ => rfl)).2.2.2 (.cons (show 0 + 1 ≤ 1 by decide) .nil)))))))))) (G_ringref3_Lift_L1_ok hF ks n v_l1278 k (wi .i64 (v_x1424 + 1)) v_a1441 v_r1440.2.1 v_r1440.1 _ h q)
      · rw [if_neg h1191] at h
        obtain ⟨v_a1442, h1194, h⟩ := bind_some h
        exact pkk_sound TTok mix hF 16 (hs := [.t true, .y (eS_ringref3_Req v_y1436), .c, .c, .t false, .c, .c, .bd, .w (v_a1442.map eS_ringref3_Req), .c]) (ts := []) (s := [0, 1, 2, 60, 4]) (l := [5, 6, 7, 11, 12, 13]) (by kernel_rfl) (by kernel_rfl) (.cons (dt h1176) (.cons (getI_ob (f := eS_ringref3_Req) h1186) (.cons (show 0 + 2 ≤ 2 by decide) (.cons (df h1191) (.cons (app_ob (f := eS_ringref3_Req) (s := 2) h1194 (fun _ => rfl)).1 (.cons (app_ob (f := eS_ringref3_Req) (s := 2) h1194 (fun _ => rfl)).2.1 (.cons (app_ob (f := eS_ringref3_Req) (s := 2) h1194 (fun _ => rfl)).2.2.1 (.cons (app_ob (f := eS_ringref3_Req) (s := 2) h1194 (fun _ => rfl)).2.2.2 (.cons (show 0 + 1 ≤ 1 by decide) .nil))))))))) (G_ringref3_Lift_L1_ok hF ks n v_l1278 k (wi .i64 (v_x1424 + 1)) v_w1425 v_a1442 v_b1427 _ h q)
    · rw [if_neg h1176] at h
      cases h
      exact pkk_sound TTok mix hF 8 (hs := [.t false]) (ts := []) (s := [0, 1, 4, 2, 3]) (l := [5, 7]) (by kernel_rfl) (by kernel_rfl) (.cons (df h1176) .nil) q
/- ringhall/ringref3.Lift -/
def G_ringref3_Lift (n : Nat) (v_l1278 : (List S_ringref3_Req)) (v_head1279 : Int) : Option ((List S_ringref3_Req)) :=
  (G_ringref3_Lift_L1 n v_l1278 n 0 ([] : List S_ringref3_Req) ([] : List S_ringref3_Req) v_head1279).bind fun v_o1446 => match v_o1446 with
  | .x0 v_z1447 v_z1448 v_z1449 =>
    (G_ringref3_Lift_1_h n v_z1448 v_z1449 v_z1447).bind fun (v_r1450 : (Int × (List S_ringref3_Req) × (List S_ringref3_Req))) =>
    some v_r1450.2.2
theorem G_ringref3_Lift_ok (n : Nat) (v_l1278 : (List S_ringref3_Req)) (v_head1279 : Int) (r : (List S_ringref3_Req)) (h : G_ringref3_Lift n v_l1278 v_head1279 = some r) : Ret Try.prog 10 [(eL eS_ringref3_Req) v_l1278, (eI .i64) v_head1279] ((eL eS_ringref3_Req) r) := by
  refine ret_run (n := 34) (fn := Try.f10) (c := bodyOf Try.f10) (by kernel_rfl) (by kernel_rfl) (by kernel_rfl) (by kernel_rfl) ?_
  have hF : KC 34 (FinR Try.prog Try.f10 ((eL eS_ringref3_Req) r)) := FinR.kc' (by kernel_rfl)
  unfold G_ringref3_Lift at h
  obtain ⟨v_o1446, h1195, h⟩ := bind_some h
  refine pkk_sound TTok mix hF 13 (hs := [.u (.d (.v (.int .i64 (v_l1278.length : Int)))), .dl 1, .tb 10 0 35 2, .tb 15 0 35 2, .n n]) (ts := []) (s := [10, 45, 15, 46, 0]) (l := [5, 6, 7, 11, 12, 13]) (by kernel_rfl) (by kernel_rfl) (.cons (len_ob (f := eS_ringref3_Req) (l := v_l1278)) .nil) (G_ringref3_Lift_L1_ok hF (.b 0 :: .s (cR (cR (cR (cR (bodyOf Try.f10))))) :: []) n v_l1278 n 0 ([] : List S_ringref3_Req) ([] : List S_ringref3_Req) v_head1279 _ h1195 ?_)
  cases v_o1446 with
  | x0 v_z1447 v_z1448 v_z1449 =>
    try dsimp only at h
    obtain ⟨v_r1450, h1196, h⟩ := bind_some h
    obtain rfl := Option.some.inj h
    exact pend_sound TTok mix 6 (hs := [.h [2, 3, 4, 0, 1] [] [.box [.d (.v (.int .i64 v_r1450.1))], .box [.srf 5], .none, .box [.srf 6], .none, .row 35 2 (v_r1450.2.1.map eS_ringref3_Req), .row 35 2 (v_r1450.2.2.map eS_ringref3_Req)] (.tup []), .c]) (by kernel_rfl) (by kernel_rfl) (by kernel_rfl) (.cons (G_ringref3_Lift_1_h_ok n v_z1448 v_z1449 v_z1447 _ h1196) .nil)
/- (*ringhall/ringref3.Disk).goes -/
def G_ringref3_Disk_goes_h (n : Nat) (v_d1460 : S_ringref3_Disk) : Option (Bool × S_ringref3_Disk) :=
  if v_d1460.fFuse > 0 then
   some (true, (S_ringref3_Disk.mk v_d1460.fSectors v_d1460.fMark (wi .i64 (v_d1460.fFuse - 1)) v_d1460.fAll))
  else
   some ((decide (v_d1460.fFuse < 0)), v_d1460)
theorem G_ringref3_Disk_goes_h_ok (n : Nat) (v_d1460 : S_ringref3_Disk) (r : Bool × S_ringref3_Disk) (h : G_ringref3_Disk_goes_h n v_d1460 = some r) : RetH Try.prog 32 [.ref 0 0] [.box [.d (.v (.int .i64 v_d1460.fSectors)), .d (.v (.int .i64 v_d1460.fMark)), .d (.v (.int .i64 v_d1460.fFuse)), .srf 1], .cu (rowF 68 2 (v_d1460.fAll.map eS_ringref3_Put)) []] (.d (eB r.1)) [.box [.d (.v (.int .i64 r.2.fSectors)), .d (.v (.int .i64 r.2.fMark)), .d (.v (.int .i64 r.2.fFuse)), .srf 2], .none, .cu (rowF 68 2 (r.2.fAll.map eS_ringref3_Put)) []] := by
  refine retH_run (n := 20) (fn := Try.f32) (c := bodyOf Try.f32) (by kernel_rfl) (by kernel_rfl) (by kernel_rfl) (by kernel_rfl) ?_
  have hF : KC 20 (FinH Try.prog Try.f32 [.box [.d (.v (.int .i64 v_d1460.fSectors)), .d (.v (.int .i64 v_d1460.fMark)), .d (.v (.int .i64 v_d1460.fFuse)), .srf 1], .cu (rowF 68 2 (v_d1460.fAll.map eS_ringref3_Put)) []] (.d (eB r.1)) [.box [.d (.v (.int .i64 r.2.fSectors)), .d (.v (.int .i64 r.2.fMark)), .d (.v (.int .i64 r.2.fFuse)), .srf 2], .none, .cu (rowF 68 2 (r.2.fAll.map eS_ringref3_Put)) []]) := FinH.kc' (by kernel_rfl)
  unfold G_ringref3_Disk_goes_h at h
  by_cases h1202 : v_d1460.fFuse > 0
  · rw [if_pos h1202] at h
    obtain rfl := Option.some.inj h
    exact pendH_sound TTok mix 13 (hs := [.c, .t true, .c, .c, .dl 4, .sx [1] (fmvS 1 68 2 (v_d1460.fAll.map eS_ringref3_Put))]) [0, 1, 79] (by kernel_rfl) (by kernel_rfl) (by kernel_rfl) (.cons (dt h1202) (.cons (show 2 + 1 ≤ 4 by decide) (.cons (fmv (l := 1) (e := 68) (s := 2) (xs := (v_d1460.fAll.map eS_ringref3_Put))) .nil)))
  · rw [if_neg h1202] at h
    obtain rfl := Option.some.inj h
    exact pendH_sound TTok mix 11 (hs := [.c, .t false, .c, .dl 1, .sx [1] (fmvS 1 68 2 (v_d1460.fAll.map eS_ringref3_Put))]) [0, 1, 64] (by kernel_rfl) (by kernel_rfl) (by kernel_rfl) (.cons (df h1202) (.cons (fmv (l := 1) (e := 68) (s := 2) (xs := (v_d1460.fAll.map eS_ringref3_Put))) .nil))
/- (*ringhall/ringref3.Disk).Flush -/
def G_ringref3_Disk_Flush_h (n : Nat) (v_d1459 : S_ringref3_Disk) : Option (S_ringref3_Disk) :=
  (G_ringref3_Disk_goes_h n v_d1459).bind fun (v_r1461 : (Bool × S_ringref3_Disk)) =>
  if v_r1461.1 = true then
   some (S_ringref3_Disk.mk v_r1461.2.fSectors (v_r1461.2.fAll.length : Int) v_r1461.2.fFuse v_r1461.2.fAll)
  else
   some v_r1461.2
theorem G_ringref3_Disk_Flush_h_ok (n : Nat) (v_d1459 : S_ringref3_Disk) (r : S_ringref3_Disk) (h : G_ringref3_Disk_Flush_h n v_d1459 = some r) : RetH Try.prog 18 [.ref 0 0] [.box [.d (.v (.int .i64 v_d1459.fSectors)), .d (.v (.int .i64 v_d1459.fMark)), .d (.v (.int .i64 v_d1459.fFuse)), .srf 1], .cu (rowF 68 2 (v_d1459.fAll.map eS_ringref3_Put)) []] (.tup []) [.box [.d (.v (.int .i64 r.fSectors)), .d (.v (.int .i64 r.fMark)), .d (.v (.int .i64 r.fFuse)), .srf 2], .none, .cu (rowF 68 2 (r.fAll.map eS_ringref3_Put)) []] := by
  refine retH_run (n := 12) (fn := Try.f18) (c := bodyOf Try.f18) (by kernel_rfl) (by kernel_rfl) (by kernel_rfl) (by kernel_rfl) ?_
  have hF : KC 12 (FinH Try.prog Try.f18 [.box [.d (.v (.int .i64 v_d1459.fSectors)), .d (.v (.int .i64 v_d1459.fMark)), .d (.v (.int .i64 v_d1459.fFuse)), .srf 1], .cu (rowF 68 2 (v_d1459.fAll.map eS_ringref3_Put)) []] (.tup []) [.box [.d (.v (.int .i64 r.fSectors)), .d (.v (.int .i64 r.fMark)), .d (.v (.int .i64 r.fFuse)), .srf 2], .none, .cu (rowF 68 2 (r.fAll.map eS_ringref3_Put)) []]) := FinH.kc' (by kernel_rfl)
  unfold G_ringref3_Disk_Flush_h at h
  obtain ⟨v_r1461, h1203, h⟩ := bind_some h
  by_cases h1204 : v_r1461.1 = true
  · rw [if_pos h1204] at h
    obtain rfl := Option.some.inj h
    exact pendH_sound TTok mix 4 (hs := [.h [0, 1] [] [.box [.d (.v (.int .i64 v_r1461.2.fSectors)), .d (.v (.int .i64 v_r1461.2.fMark)), .d (.v (.int .i64 v_r1461.2.fFuse)), .srf 2], .none, .cu (rowF 68 2 (v_r1461.2.fAll.map eS_ringref3_Put)) []] (.d (.v (.bool v_r1461.1))), .t true, .c, .e 39 [9] (.d (.v (.int .i64 (v_r1461.2.fAll.length : Int)))) [], .c]) [0, 1, 9] (by kernel_rfl) (by kernel_rfl) (by kernel_rfl) (.cons (G_ringref3_Disk_goes_h_ok n v_d1459 _ h1203) (.cons h1204 (.cons (lmap' (flen (P := Try.prog) (T := TT) (t := 52) (l := 9) (e := 68) (s := 2) (xs := (v_r1461.2.fAll.map eS_ringref3_Put)) (x := (.tmp 8)) (by kernel_rfl))) (.cons (show 1 + 1 ≤ 4 by decide) .nil))))
  · rw [if_neg h1204] at h
    obtain rfl := Option.some.inj h
    exact pendH_sound TTok mix 4 (hs := [.h [0, 1] [] [.box [.d (.v (.int .i64 v_r1461.2.fSectors)), .d (.v (.int .i64 v_r1461.2.fMark)), .d (.v (.int .i64 v_r1461.2.fFuse)), .srf 2], .none, .cu (rowF 68 2 (v_r1461.2.fAll.map eS_ringref3_Put)) []] (.d (.v (.bool v_r1461.1))), .t false]) [0, 1, 9] (by kernel_rfl) (by kernel_rfl) (by kernel_rfl) (.cons (G_ringref3_Disk_goes_h_ok n v_d1459 _ h1203) (.cons (vf h1204) .nil))
inductive G_ringref3_Disk_Write_h_C1_R where
  | x0 (v_x1467 : Bool) (v_w1468 : (List S_ringref3_Put))
def G_ringref3_Disk_Write_h_C1_ex : G_ringref3_Disk_Write_h_C1_R → Ex
  | .x0 _ _ => .normal
def G_ringref3_Disk_Write_h_C1_st (v_n1464 : Int) (v_s1465 : ByteArray) (v_d1463 : S_ringref3_Disk) : G_ringref3_Disk_Write_h_C1_R → PS
  | .x0 v_x1467 v_w1468 => ⟨(.ref 2 0 :: .d (.v (.int .i64 v_n1464)) :: .d (.v (.string v_s1465)) :: (dds 18 (.d (.v (.bool v_x1467)) :: (dds 14 [])))), [.gh 0 (.ref 2 0), .gh 1 (.srf 3), .box [.d (.v (.int .i64 v_d1463.fSectors)), .d (.v (.int .i64 v_d1463.fMark)), .d (.v (.int .i64 v_d1463.fFuse)), .srf 3], .cu (rowF 68 2 (v_w1468.map eS_ringref3_Put)) []]⟩
def G_ringref3_Disk_Write_h_C1_hd (v_n1464 : Int) (v_s1465 : ByteArray) (v_d1463 : S_ringref3_Disk)  : PS := ⟨(.ref 2 0 :: .d (.v (.int .i64 v_n1464)) :: .d (.v (.string v_s1465)) :: (dds 33 [])), [.gh 0 (.ref 2 0), .gh 1 (.srf 3), .box [.d (.v (.int .i64 v_d1463.fSectors)), .d (.v (.int .i64 v_d1463.fMark)), .d (.v (.int .i64 v_d1463.fFuse)), .srf 3], .cu (rowF 68 2 (v_d1463.fAll.map eS_ringref3_Put)) []]⟩
def G_ringref3_Disk_Write_h_C1 (n : Nat) (v_n1464 : Int) (v_s1465 : ByteArray) (v_d1463 : S_ringref3_Disk) : Option G_ringref3_Disk_Write_h_C1_R :=
  if v_n1464 < 0 then
   some (.x0 true v_d1463.fAll)
  else
   if v_n1464 ≥ v_d1463.fSectors then
    some (.x0 true v_d1463.fAll)
   else
    some (.x0 ((v_s1465.size : Int) != 64) v_d1463.fAll)
theorem G_ringref3_Disk_Write_h_C1_ok {Fi : Ex → PS → Prop} (hF : KC 36 Fi) (ks : List Fr) (n : Nat) (v_n1464 : Int) (v_s1465 : ByteArray) (v_d1463 : S_ringref3_Disk)  (o : G_ringref3_Disk_Write_h_C1_R) (h : G_ringref3_Disk_Write_h_C1 n v_n1464 v_s1465 v_d1463 = some o) (q : RunE Try.prog 36 Fi ks (G_ringref3_Disk_Write_h_C1_ex o) (G_ringref3_Disk_Write_h_C1_st v_n1464 v_s1465 v_d1463 o)) : RunE Try.prog 36 Fi (.s (cL (cL (cR (bodyOf Try.f19)))) :: ks) .normal (G_ringref3_Disk_Write_h_C1_hd v_n1464 v_s1465 v_d1463) := by
  unfold G_ringref3_Disk_Write_h_C1 at h
  by_cases h1208 : v_n1464 < 0
  · rw [if_pos h1208] at h
    cases h
    exact pkk_sound TTok mix hF 1 (hs := [.t true, .c, .c, .c, .c, .c, .c, .c, .c]) (ts := []) (s := [0, 1, 2, 3]) (l := [0, 1, 2, 21]) (by kernel_rfl) (by kernel_rfl) (.cons (dt h1208) .nil) q
  · rw [if_neg h1208] at h
    by_cases h1209 : v_n1464 ≥ v_d1463.fSectors
    · rw [if_pos h1209] at h
      cases h
      exact pkk_sound TTok mix hF 1 (hs := [.t false, .c, .c, .c, .c, .c, .c, .t true, .c, .c]) (ts := []) (s := [0, 1, 2, 3]) (l := [0, 1, 2, 21]) (by kernel_rfl) (by kernel_rfl) (.cons (df h1208) (.cons (dt h1209) .nil)) q
    · rw [if_neg h1209] at h
      cases h
      exact pkk_sound TTok mix hF 1 (hs := [.t false, .c, .c, .c, .c, .c, .c, .t false, .c, .c]) (ts := []) (s := [0, 1, 2, 3]) (l := [0, 1, 2, 21]) (by kernel_rfl) (by kernel_rfl) (.cons (df h1208) (.cons (df h1209) .nil)) q
/- (*ringhall/ringref3.Disk).Write -/
def G_ringref3_Disk_Write_h (n : Nat) (v_d1463 : S_ringref3_Disk) (v_n1464 : Int) (v_s1465 : ByteArray) : Option (Int × S_ringref3_Disk) :=
  (G_ringref3_Disk_Write_h_C1 n v_n1464 v_s1465 v_d1463).bind fun v_o1473 => match v_o1473 with
  | .x0 v_z1474 v_z1475 =>
    if v_z1474 = true then
     some (1, (S_ringref3_Disk.mk v_d1463.fSectors v_d1463.fMark v_d1463.fFuse v_z1475))
    else
     (G_ringref3_Disk_goes_h n (S_ringref3_Disk.mk v_d1463.fSectors v_d1463.fMark v_d1463.fFuse v_z1475)).bind fun (v_r1476 : (Bool × S_ringref3_Disk)) =>
     if v_r1476.1 = true then
      (app 24 v_r1476.2.fAll ([(S_ringref3_Put.mk v_n1464 v_s1465)])).bind fun (v_a1478 : (List S_ringref3_Put)) =>
      some (0, (S_ringref3_Disk.mk v_r1476.2.fSectors v_r1476.2.fMark v_r1476.2.fFuse v_a1478))
     else
      some (0, v_r1476.2)
theorem G_ringref3_Disk_Write_h_ok (n : Nat) (v_d1463 : S_ringref3_Disk) (v_n1464 : Int) (v_s1465 : ByteArray) (r : Int × S_ringref3_Disk) (h : G_ringref3_Disk_Write_h n v_d1463 v_n1464 v_s1465 = some r) : RetH Try.prog 19 [.ref 0 0, .d ((eI .i64) v_n1464), .d (eS v_s1465)] [.box [.d (.v (.int .i64 v_d1463.fSectors)), .d (.v (.int .i64 v_d1463.fMark)), .d (.v (.int .i64 v_d1463.fFuse)), .srf 1], .cu (rowF 68 2 (v_d1463.fAll.map eS_ringref3_Put)) []] (.d ((eI .i64) r.1)) [.box [.d (.v (.int .i64 r.2.fSectors)), .d (.v (.int .i64 r.2.fMark)), .d (.v (.int .i64 r.2.fFuse)), .srf 2], .none, .cu (rowF 68 2 (r.2.fAll.map eS_ringref3_Put)) []] := by
  refine retH_run (n := 36) (fn := Try.f19) (c := bodyOf Try.f19) (by kernel_rfl) (by kernel_rfl) (by kernel_rfl) (by kernel_rfl) ?_
  have hF : KC 36 (FinH Try.prog Try.f19 [.box [.d (.v (.int .i64 v_d1463.fSectors)), .d (.v (.int .i64 v_d1463.fMark)), .d (.v (.int .i64 v_d1463.fFuse)), .srf 1], .cu (rowF 68 2 (v_d1463.fAll.map eS_ringref3_Put)) []] (.d ((eI .i64) r.1)) [.box [.d (.v (.int .i64 r.2.fSectors)), .d (.v (.int .i64 r.2.fMark)), .d (.v (.int .i64 r.2.fFuse)), .srf 2], .none, .cu (rowF 68 2 (r.2.fAll.map eS_ringref3_Put)) []]) := FinH.kc' (by kernel_rfl)
  unfold G_ringref3_Disk_Write_h at h
  obtain ⟨v_o1473, h1210, h⟩ := bind_some h
  refine pkk_sound TTok mix hF 4 (hs := []) (ts := []) (s := [2, 3, 0, 1]) (l := [0, 1, 2]) (by kernel_rfl) (by kernel_rfl) .nil (G_ringref3_Disk_Write_h_C1_ok hF (.s (cR (cL (cR (bodyOf Try.f19)))) :: .s (cR (cR (bodyOf Try.f19))) :: []) n v_n1464 v_s1465 v_d1463 _ h1210 ?_)
  cases v_o1473 with
  | x0 v_z1474 v_z1475 =>
    try dsimp only at h
    by_cases h1211 : v_z1474 = true
    · rw [if_pos h1211] at h
      obtain rfl := Option.some.inj h
      exact pendH_sound TTok mix 6 (hs := [.t true, .dl 4, .sx [3] (fmvS 3 68 2 (v_z1475.map eS_ringref3_Put))]) [2, 3, 9] (by kernel_rfl) (by kernel_rfl) (by kernel_rfl) (.cons h1211 (.cons (fmv (l := 3) (e := 68) (s := 2) (xs := (v_z1475.map eS_ringref3_Put))) .nil))
    · rw [if_neg h1211] at h
      obtain ⟨v_r1476, h1212, h⟩ := bind_some h
      by_cases h1215 : v_r1476.1 = true
      · rw [if_pos h1215] at h
        obtain ⟨v_a1478, h1216, h⟩ := bind_some h
        obtain rfl := Option.some.inj h
        exact pendH_sound TTok mix 11 (hs := [.t false, .h [2, 3] [] [.box [.d (.v (.int .i64 v_r1476.2.fSectors)), .d (.v (.int .i64 v_r1476.2.fMark)), .d (.v (.int .i64 v_r1476.2.fFuse)), .srf 2], .none, .cu (rowF 68 2 (v_r1476.2.fAll.map eS_ringref3_Put)) []] (.d (.v (.bool v_r1476.1))), .t true, .c, .bd, .e 59 [9, 59] (.srf 59) [(9, .none), (59, .row 68 2 (v_a1478.map eS_ringref3_Put))], .c, .dl 3, .sx [59] (toF 59 68 2 (v_a1478.map eS_ringref3_Put))]) [2, 3, 59] (by kernel_rfl) (by kernel_rfl) (by kernel_rfl) (.cons (vf h1211) (.cons (G_ringref3_Disk_goes_h_ok n (S_ringref3_Disk.mk v_d1463.fSectors v_d1463.fMark v_d1463.fFuse v_z1475) _ h1212) (.cons h1215 (.cons (fapp (P := Try.prog) (T := TT) (t := 52) (e := 68) (s := 2) (nl := 59) (ti := ⟨2, 24, .st [(0, 3), (1, 9)], [.i .i64, .s]⟩) (zs := (v_a1478.map eS_ringref3_Put)) (x := (.tmp 28)) (y := (.tmp 32)) (l := 9) (xs := (v_r1476.2.fAll.map eS_ringref3_Put)) (ys := (([(S_ringref3_Put.mk v_n1464 v_s1465)]).map eS_ringref3_Put)) (app_ob (f := eS_ringref3_Put) (s := 2) h1216 (fun _ => rfl)).2.2.2 (by kernel_rfl) (by kernel_rfl) (by kernel_rfl) (by decide) (app_ob (f := eS_ringref3_Put) (s := 2) h1216 (fun _ => rfl)).1 (by simp) (app_ob (f := eS_ringref3_Put) (s := 2) h1216 (fun _ => rfl)).2.1 (app_ob (f := eS_ringref3_Put) (s := 2) h1216 (fun _ => rfl)).2.2.1 (by decide)) (.cons (show 3 + 1 ≤ 4 by decide) (.cons (row_toF (l := 59) (e := 68) (s := 2) (xs := (v_a1478.map eS_ringref3_Put))) .nil))))))
      · rw [if_neg h1215] at h
        obtain rfl := Option.some.inj h
        exact pendH_sound TTok mix 10 (hs := [.t false, .h [2, 3] [] [.box [.d (.v (.int .i64 v_r1476.2.fSectors)), .d (.v (.int .i64 v_r1476.2.fMark)), .d (.v (.int .i64 v_r1476.2.fFuse)), .srf 2], .none, .cu (rowF 68 2 (v_r1476.2.fAll.map eS_ringref3_Put)) []] (.d (.v (.bool v_r1476.1))), .t false]) [2, 3, 9] (by kernel_rfl) (by kernel_rfl) (by kernel_rfl) (.cons (vf h1211) (.cons (G_ringref3_Disk_goes_h_ok n (S_ringref3_Disk.mk v_d1463.fSectors v_d1463.fMark v_d1463.fFuse v_z1475) _ h1212) (.cons (vf h1215) .nil)))
inductive G_disk_Disk_Crash_h_C1_R where
  | x0 (v_w1536 : (List Int)) (v_w1537 : (List Int)) (v_w1538 : (List S_disk_write))
def G_disk_Disk_Crash_h_C1_ex : G_disk_Disk_Crash_h_C1_R → Ex
  | .x0 _ _ _ => .normal
def G_disk_Disk_Crash_h_C1_st (v_kept1523 : (List Bool)) (v_d1522 : S_disk_Disk) (v_x1524 : Int) (v_w1525 : (List Int)) (v_w1526 : (List Int)) (v_w1527 : (List S_disk_write)) : G_disk_Disk_Crash_h_C1_R → PS
  | .x0 v_w1536 v_w1537 v_w1538 => ⟨(.ref 4 0 :: .d (.sl (v_kept1523.map eB)) :: dd :: dd :: dd :: dd :: dd :: dd :: dd :: .srf 7 :: .d (.v (.int .i64 (v_d1522.fwait.length : Int))) :: .d (.v (.int .i64 v_x1524)) :: (dds 41 [])), [.gh 0 (.ref 4 0), .gh 1 (.srf 5), .gh 2 (.srf 6), .gh 3 (.srf 7), .box [.srf 5, .srf 6, .srf 7, .d (.v (.int .i64 v_d1522.ffuse))], .row 5 1 (v_w1536.map (eI .u8)), .row 5 1 (v_w1537.map (eI .u8)), .row 70 2 (v_w1538.map eS_disk_write)]⟩
def G_disk_Disk_Crash_h_C1_hd (v_kept1523 : (List Bool)) (v_d1522 : S_disk_Disk) (v_x1524 : Int) (v_w1525 : (List Int)) (v_w1526 : (List Int)) (v_w1527 : (List S_disk_write))  : PS := ⟨(.ref 4 0 :: .d (.sl (v_kept1523.map eB)) :: dd :: dd :: dd :: dd :: dd :: dd :: dd :: .srf 7 :: .d (.v (.int .i64 (v_d1522.fwait.length : Int))) :: .d (.v (.int .i64 v_x1524)) :: (dds 41 [])), [.gh 0 (.ref 4 0), .gh 1 (.srf 5), .gh 2 (.srf 6), .gh 3 (.srf 7), .box [.srf 5, .srf 6, .srf 7, .d (.v (.int .i64 v_d1522.ffuse))], .row 5 1 (v_w1525.map (eI .u8)), .row 5 1 (v_w1526.map (eI .u8)), .row 70 2 (v_w1527.map eS_disk_write)]⟩
def G_disk_Disk_Crash_h_C1 (n : Nat) (v_kept1523 : (List Bool)) (v_d1522 : S_disk_Disk) (v_x1524 : Int) (v_w1525 : (List Int)) (v_w1526 : (List Int)) (v_w1527 : (List S_disk_write)) : Option G_disk_Disk_Crash_h_C1_R :=
  if 0 ≤ v_x1524 ∧ (v_x1524).toNat < v_w1527.length then
   (v_w1527[(v_x1524).toNat]?).bind fun (v_y1533 : S_disk_write) =>
   if v_x1524 < (v_kept1523.length : Int) then
    (getI v_kept1523 v_x1524).bind fun (v_y1535 : Bool) =>
    if v_y1535 = true then
     if ((0 : Int) ≤ (wi .i64 (v_y1533.fn * 64)) ∧ (wi .i64 (v_y1533.fn * 64)) ≤ (v_w1525.length : Int)) then
      if v_w1525.length ≤ v_w1525.length then
       some (.x0 (cpyR v_w1525 ((wi .i64 (v_y1533.fn * 64)).toNat) v_w1525.length v_y1533.fdata) v_w1526 v_w1527)
      else none
     else none
    else
     some (.x0 v_w1525 v_w1526 v_w1527)
   else
    some (.x0 v_w1525 v_w1526 v_w1527)
  else none
theorem G_disk_Disk_Crash_h_C1_ok {Fi : Ex → PS → Prop} (hF : KC 53 Fi) (ks : List Fr) (n : Nat) (v_kept1523 : (List Bool)) (v_d1522 : S_disk_Disk) (v_x1524 : Int) (v_w1525 : (List Int)) (v_w1526 : (List Int)) (v_w1527 : (List S_disk_write))  (o : G_disk_Disk_Crash_h_C1_R) (h : G_disk_Disk_Crash_h_C1 n v_kept1523 v_d1522 v_x1524 v_w1525 v_w1526 v_w1527 = some o) (q : RunE Try.prog 53 Fi ks (G_disk_Disk_Crash_h_C1_ex o) (G_disk_Disk_Crash_h_C1_st v_kept1523 v_d1522 v_x1524 v_w1525 v_w1526 v_w1527 o)) : RunE Try.prog 53 Fi (.s (cL (cR (cR (cP (cB (cR (cL (bodyOf Try.f20)))))))) :: ks) .normal (G_disk_Disk_Crash_h_C1_hd v_kept1523 v_d1522 v_x1524 v_w1525 v_w1526 v_w1527) := by
  unfold G_disk_Disk_Crash_h_C1 at h
  by_cases h1261 : 0 ≤ v_x1524 ∧ (v_x1524).toNat < v_w1527.length
  · rw [if_pos h1261] at h
    obtain ⟨v_y1533, h1262, h⟩ := bind_some h
    by_cases h1265 : v_x1524 < (v_kept1523.length : Int)
    · rw [if_pos h1265] at h
      obtain ⟨v_y1535, h1266, h⟩ := bind_some h
      by_cases h1270 : v_y1535 = true
      · rw [if_pos h1270] at h
        by_cases h1271 : ((0 : Int) ≤ (wi .i64 (v_y1533.fn * 64)) ∧ (wi .i64 (v_y1533.fn * 64)) ≤ (v_w1525.length : Int))
        · rw [if_pos h1271] at h
          by_cases h1272 : v_w1525.length ≤ v_w1525.length
          · rw [if_pos h1272] at h
            cases h
            exact pkk_sound TTok mix hF 8 (hs := [.y (eS_disk_write v_y1533), .c, .u (.d (.v (.int .i64 (v_kept1523.length : Int)))), .t true, .c, .c, .y (eB v_y1535), .c, .c, .t true, .c, .c, .e 123 [5] (.ssl 5 ((wi .i64 (v_y1533.fn * 64)).toNat) v_w1525.length 1) [], .c, .e 138 [5] (.d (.v (.int .i64 ((Nat.min v_y1533.fdata.length (v_w1525.length - (wi .i64 (v_y1533.fn * 64)).toNat) : Nat) : Int)))) [(5, .row 5 1 ((cpyR v_w1525 ((wi .i64 (v_y1533.fn * 64)).toNat) v_w1525.length v_y1533.fdata).map (eI .u8)))]]) (ts := []) (s := [0, 1, 2, 3, 4, 5, 6, 7]) (l := [0, 1, 9, 10, 11]) (by kernel_rfl) (by kernel_rfl) (.cons (idx_ob (f := eS_disk_write) h1261) (.cons (get_ob (f := eS_disk_write) h1262) (.cons (show 0 + 2 ≤ 2 by decide) (.cons (len_ob (f := eB) (l := v_kept1523)) (.cons (dt h1265) (.cons (getI_ob (f := eB) h1266) (.cons h1270 (.cons (xs10 (P := Try.prog) (T := TT) (f := (eI .u8)) (t := 24) (e := 5) (s := 1) (l := 5) (L := v_w1525) (x := (.tmp 29)) (lo := (.tmp 32)) (a := (wi .i64 (v_y1533.fn * 64))) (ka := .i64) (by kernel_rfl) h1271) (.cons (xcpD (P := Try.prog) (T := TT) (f := (eI .u8)) (t := 24) (t' := 24) (e := 5) (s := 1) (l := 5) (x := (.tmp 33)) (y := (.tmp 35)) (ti := ⟨1, 1, .int .u8, [.i .u8]⟩) (L := v_w1525) (Y := v_y1533.fdata) (i := (wi .i64 (v_y1533.fn * 64)).toNat) (j := v_w1525.length) (by kernel_rfl) (by kernel_rfl) h1272 (fun _ => rfl)) .nil))))))))) q
          · rw [if_neg h1272] at h; cases h
        · rw [if_neg h1271] at h; cases h
      · rw [if_neg h1270] at h
        cases h
        exact pkk_sound TTok mix hF 8 (hs := [.y (eS_disk_write v_y1533), .c, .u (.d (.v (.int .i64 (v_kept1523.length : Int)))), .t true, .c, .c, .y (eB v_y1535), .c, .c, .t false]) (ts := []) (s := [0, 1, 2, 3, 4, 5, 6, 7]) (l := [0, 1, 9, 10, 11]) (by kernel_rfl) (by kernel_rfl) (.cons (idx_ob (f := eS_disk_write) h1261) (.cons (get_ob (f := eS_disk_write) h1262) (.cons (show 0 + 2 ≤ 2 by decide) (.cons (len_ob (f := eB) (l := v_kept1523)) (.cons (dt h1265) (.cons (getI_ob (f := eB) h1266) (.cons (vf h1270) .nil))))))) q
    · rw [if_neg h1265] at h
      cases h
      exact pkk_sound TTok mix hF 8 (hs := [.y (eS_disk_write v_y1533), .c, .u (.d (.v (.int .i64 (v_kept1523.length : Int)))), .t false, .c, .c, .c, .c]) (ts := []) (s := [0, 1, 2, 3, 4, 5, 6, 7]) (l := [0, 1, 9, 10, 11]) (by kernel_rfl) (by kernel_rfl) (.cons (idx_ob (f := eS_disk_write) h1261) (.cons (get_ob (f := eS_disk_write) h1262) (.cons (show 0 + 2 ≤ 2 by decide) (.cons (len_ob (f := eB) (l := v_kept1523)) (.cons (df h1265) .nil))))) q
  · rw [if_neg h1261] at h; cases h
inductive G_disk_Disk_Crash_h_L2_R where
  | x0 (v_w1549 : (List Int)) (v_w1550 : (List Int)) (v_w1551 : (List S_disk_write))
def G_disk_Disk_Crash_h_L2_ex : G_disk_Disk_Crash_h_L2_R → Ex
  | .x0 _ _ _ => .exit 0
def G_disk_Disk_Crash_h_L2_st (v_kept1523 : (List Bool)) (v_d1522 : S_disk_Disk) : G_disk_Disk_Crash_h_L2_R → PS
  | .x0 v_w1549 v_w1550 v_w1551 => ⟨(.ref 4 0 :: (dds 52 [])), [.gh 0 (.ref 4 0), .gh 1 (.srf 5), .gh 2 (.srf 6), .gh 3 (.srf 7), .box [.srf 5, .srf 6, .srf 7, .d (.v (.int .i64 v_d1522.ffuse))], .row 5 1 (v_w1549.map (eI .u8)), .row 5 1 (v_w1550.map (eI .u8)), .row 70 2 (v_w1551.map eS_disk_write)]⟩
def G_disk_Disk_Crash_h_L2_hd (v_kept1523 : (List Bool)) (v_d1522 : S_disk_Disk) (v_x1524 : Int) (v_w1525 : (List Int)) (v_w1526 : (List Int)) (v_w1527 : (List S_disk_write)) : PS := ⟨(.ref 4 0 :: .d (.sl (v_kept1523.map eB)) :: dd :: dd :: dd :: dd :: dd :: dd :: dd :: .srf 7 :: .d (.v (.int .i64 (v_d1522.fwait.length : Int))) :: .d (.v (.int .i64 v_x1524)) :: (dds 41 [])), [.gh 0 (.ref 4 0), .gh 1 (.srf 5), .gh 2 (.srf 6), .gh 3 (.srf 7), .box [.srf 5, .srf 6, .srf 7, .d (.v (.int .i64 v_d1522.ffuse))], .row 5 1 (v_w1525.map (eI .u8)), .row 5 1 (v_w1526.map (eI .u8)), .row 70 2 (v_w1527.map eS_disk_write)]⟩
def G_disk_Disk_Crash_h_L2 (n : Nat) (v_kept1523 : (List Bool)) (v_d1522 : S_disk_Disk) : Nat → Int → (List Int) → (List Int) → (List S_disk_write) → Option G_disk_Disk_Crash_h_L2_R
  | 0, _, _, _, _ => none
  | k + 1, v_x1524, v_w1525, v_w1526, v_w1527 =>
    if v_x1524 < (v_d1522.fwait.length : Int) then
     (G_disk_Disk_Crash_h_C1 n v_kept1523 v_d1522 v_x1524 v_w1525 v_w1526 v_w1527).bind fun v_o1545 => match v_o1545 with
     | .x0 v_z1546 v_z1547 v_z1548 =>
       G_disk_Disk_Crash_h_L2 n v_kept1523 v_d1522 k (wi .i64 (v_x1524 + 1)) v_z1546 v_z1547 v_z1548
    else
     some (.x0 v_w1525 v_w1526 v_w1527)
theorem G_disk_Disk_Crash_h_L2_ok {Fi : Ex → PS → Prop} (hF : KC 53 Fi) (ks : List Fr) (n : Nat) (v_kept1523 : (List Bool)) (v_d1522 : S_disk_Disk)  : ∀ (k : Nat) (v_x1524 : Int) (v_w1525 : (List Int)) (v_w1526 : (List Int)) (v_w1527 : (List S_disk_write)) (o : G_disk_Disk_Crash_h_L2_R), G_disk_Disk_Crash_h_L2 n v_kept1523 v_d1522 k v_x1524 v_w1525 v_w1526 v_w1527 = some o → RunE Try.prog 53 Fi ks (G_disk_Disk_Crash_h_L2_ex o) (G_disk_Disk_Crash_h_L2_st v_kept1523 v_d1522 o) → RunE Try.prog 53 Fi (.l k (cP (cB (cR (cL (bodyOf Try.f20))))) :: ks) .normal (G_disk_Disk_Crash_h_L2_hd v_kept1523 v_d1522 v_x1524 v_w1525 v_w1526 v_w1527)
  | 0, v_x1524, v_w1525, v_w1526, v_w1527, o, h, q => by rw [G_disk_Disk_Crash_h_L2] at h; cases h
  | k + 1, v_x1524, v_w1525, v_w1526, v_w1527, o, h, q => by
    rw [G_disk_Disk_Crash_h_L2] at h
    by_cases h1248 : v_x1524 < (v_d1522.fwait.length : Int)
    · rw [if_pos h1248] at h
      obtain ⟨v_o1545, h1273, h⟩ := bind_some h
      refine pkk_sound TTok mix hF 7 (hs := [.t true]) (ts := []) (s := [0, 1, 2, 3, 4, 5, 6, 7]) (l := [0, 1, 9, 10, 11]) (by kernel_rfl) (by kernel_rfl) (.cons (dt h1248) .nil) (G_disk_Disk_Crash_h_C1_ok hF (.s (cR (cR (cR (cP (cB (cR (cL (bodyOf Try.f20)))))))) :: .l k (cP (cB (cR (cL (bodyOf Try.f20))))) :: ks) n v_kept1523 v_d1522 v_x1524 v_w1525 v_w1526 v_w1527 _ h1273 ?_)
      cases v_o1545 with
      | x0 v_z1546 v_z1547 v_z1548 =>
        try dsimp only at h
        exact pkk_sound TTok mix hF 1 (hs := []) (ts := []) (s := [0, 1, 2, 3, 4, 5, 6, 7]) (l := [0, 1, 9, 10, 11]) (by kernel_rfl) (by kernel_rfl) .nil (G_disk_Disk_Crash_h_L2_ok hF ks n v_kept1523 v_d1522 k (wi .i64 (v_x1524 + 1)) v_z1546 v_z1547 v_z1548 _ h q)
    · rw [if_neg h1248] at h
      cases h
      exact pkk_sound TTok mix hF 8 (hs := [.t false]) (ts := []) (s := [0, 1, 2, 3, 4, 5, 6, 7]) (l := [0]) (by kernel_rfl) (by kernel_rfl) (.cons (df h1248) .nil) q
/- (*ringhall/disk.Disk).Crash -/
def G_disk_Disk_Crash_h (n : Nat) (v_d1522 : S_disk_Disk) (v_kept1523 : (List Bool)) : Option (S_disk_Disk) :=
  (G_disk_Disk_Crash_h_L2 n v_kept1523 v_d1522 n 0 v_d1522.fsafe v_d1522.fnow v_d1522.fwait).bind fun v_o1552 => match v_o1552 with
  | .x0 v_z1553 v_z1554 v_z1555 =>
    some (S_disk_Disk.mk v_z1553 (cpyR v_z1554 0 v_z1554.length v_z1553) ([] : List S_disk_write) (-1))
theorem G_disk_Disk_Crash_h_ok (n : Nat) (v_d1522 : S_disk_Disk) (v_kept1523 : (List Bool)) (r : S_disk_Disk) (h : G_disk_Disk_Crash_h n v_d1522 v_kept1523 = some r) : RetH Try.prog 20 [.ref 0 0, .d ((eL eB) v_kept1523)] [.box [.srf 1, .srf 2, .srf 3, .d (.v (.int .i64 v_d1522.ffuse))], .row 5 1 (v_d1522.fsafe.map (eI .u8)), .row 5 1 (v_d1522.fnow.map (eI .u8)), .row 70 2 (v_d1522.fwait.map eS_disk_write)] (.tup []) [.box [.srf 4, .srf 5, .srf 6, .d (.v (.int .i64 r.ffuse))], .none, .none, .none, .row 5 1 (r.fsafe.map (eI .u8)), .row 5 1 (r.fnow.map (eI .u8)), .row 70 2 (r.fwait.map eS_disk_write)] := by
  refine retH_run (n := 53) (fn := Try.f20) (c := bodyOf Try.f20) (by kernel_rfl) (by kernel_rfl) (by kernel_rfl) (by kernel_rfl) ?_
  have hF : KC 53 (FinH Try.prog Try.f20 [.box [.srf 1, .srf 2, .srf 3, .d (.v (.int .i64 v_d1522.ffuse))], .row 5 1 (v_d1522.fsafe.map (eI .u8)), .row 5 1 (v_d1522.fnow.map (eI .u8)), .row 70 2 (v_d1522.fwait.map eS_disk_write)] (.tup []) [.box [.srf 4, .srf 5, .srf 6, .d (.v (.int .i64 r.ffuse))], .none, .none, .none, .row 5 1 (r.fsafe.map (eI .u8)), .row 5 1 (r.fnow.map (eI .u8)), .row 70 2 (r.fwait.map eS_disk_write)]) := FinH.kc' (by kernel_rfl)
  unfold G_disk_Disk_Crash_h at h
  obtain ⟨v_o1552, h1274, h⟩ := bind_some h
  refine pkk_sound TTok mix hF 5 (hs := [.c, .u (.d (.v (.int .i64 (v_d1522.fwait.length : Int)))), .n n]) (ts := []) (s := [4, 5, 6, 7, 0, 1, 2, 3]) (l := [0, 1, 9, 10, 11]) (by kernel_rfl) (by kernel_rfl) (.cons (len_ob (f := eS_disk_write) (l := v_d1522.fwait)) .nil) (G_disk_Disk_Crash_h_L2_ok hF (.b 0 :: .s (cR (bodyOf Try.f20)) :: []) n v_kept1523 v_d1522 n 0 v_d1522.fsafe v_d1522.fnow v_d1522.fwait _ h1274 ?_)
  cases v_o1552 with
  | x0 v_z1553 v_z1554 v_z1555 =>
    try dsimp only at h
    obtain rfl := Option.some.inj h
    exact pendH_sound TTok mix 8 (hs := [.c, .c, .e 48 [6, 5] (.d (.v (.int .i64 ((Nat.min v_z1553.length (v_z1554.length - 0) : Nat) : Int)))) [(6, .row 5 1 ((cpyR v_z1554 0 v_z1554.length v_z1553).map (eI .u8)))], .c, .c, .mv 5, .mv 6, .tb 4 2 70 2, .fz 7]) [4, 5, 6, 7, 93, 94, 95] (by kernel_rfl) (by kernel_rfl) (by kernel_rfl) (.cons (xcpR0 (P := Try.prog) (T := TT) (f := (eI .u8)) (t := 24) (t' := 24) (e := 5) (s := 1) (l := 6) (x := (.tmp 41)) (y := (.tmp 45)) (ti := ⟨1, 1, .int .u8, [.i .u8]⟩) (L := v_z1554) (Y := v_z1553) (l' := 5) (by kernel_rfl) (by kernel_rfl) (fun _ => rfl)) (.cons (show 2 + 1 ≤ 4 by decide) (.cons (show 3 + 1 ≤ 4 by decide) .nil)))
inductive G_ringref3_Disk_Crash_h_C1_R where
  | x0 (v_w1573 : (List S_ringref3_Put))
def G_ringref3_Disk_Crash_h_C1_ex : G_ringref3_Disk_Crash_h_C1_R → Ex
  | .x0 _ => .normal
def G_ringref3_Disk_Crash_h_C1_st (v_kept1558 : (List Bool)) (v_d1557 : S_ringref3_Disk) (v_x1559 : Int) (v_w1560 : (List S_ringref3_Put)) : G_ringref3_Disk_Crash_h_C1_R → PS
  | .x0 v_w1573 => ⟨(.ref 2 0 :: .d (.sl (v_kept1558.map eB)) :: (dds 30 (.ssl 4 v_d1557.fMark.toNat v_d1557.fAll.length 2 :: .d (.v (.int .i64 ((v_d1557.fAll.length - v_d1557.fMark.toNat : Nat) : Int))) :: .d (.v (.int .i64 v_x1559)) :: (dds 36 [])))), [.gh 0 (.ref 2 0), .gh 1 (.srf 4), .box [.d (.v (.int .i64 v_d1557.fSectors)), .d (.v (.int .i64 v_d1557.fMark)), .d (.v (.int .i64 v_d1557.fFuse)), .srf 3], .cu (splC 68 2 (v_d1557.fAll.map eS_ringref3_Put) (v_w1573.map eS_ringref3_Put)) [.srf 4], .none]⟩
def G_ringref3_Disk_Crash_h_C1_hd (v_kept1558 : (List Bool)) (v_d1557 : S_ringref3_Disk) (v_x1559 : Int) (v_w1560 : (List S_ringref3_Put))  : PS := ⟨(.ref 2 0 :: .d (.sl (v_kept1558.map eB)) :: (dds 30 (.ssl 4 v_d1557.fMark.toNat v_d1557.fAll.length 2 :: .d (.v (.int .i64 ((v_d1557.fAll.length - v_d1557.fMark.toNat : Nat) : Int))) :: .d (.v (.int .i64 v_x1559)) :: (dds 36 [])))), [.gh 0 (.ref 2 0), .gh 1 (.srf 4), .box [.d (.v (.int .i64 v_d1557.fSectors)), .d (.v (.int .i64 v_d1557.fMark)), .d (.v (.int .i64 v_d1557.fFuse)), .srf 3], .cu (splC 68 2 (v_d1557.fAll.map eS_ringref3_Put) (v_w1560.map eS_ringref3_Put)) [.srf 4], .none]⟩
def G_ringref3_Disk_Crash_h_C1 (n : Nat) (v_kept1558 : (List Bool)) (v_d1557 : S_ringref3_Disk) (v_x1559 : Int) (v_w1560 : (List S_ringref3_Put)) : Option G_ringref3_Disk_Crash_h_C1_R :=
  if 0 ≤ v_x1559 ∧ v_x1559 < ((v_d1557.fAll.length - v_d1557.fMark.toNat : Nat) : Int) ∧ v_d1557.fAll.length ≤ v_d1557.fAll.length then
   (v_d1557.fAll[(v_d1557.fMark.toNat + (v_x1559).toNat)]?).bind fun (v_y1568 : S_ringref3_Put) =>
   if v_x1559 < (v_kept1558.length : Int) then
    (getI v_kept1558 v_x1559).bind fun (v_y1570 : Bool) =>
    if v_y1570 = true then
     (app 24 v_w1560 ([v_y1568])).bind fun (v_a1572 : (List S_ringref3_Put)) =>
     some (.x0 v_a1572)
    else
     some (.x0 v_w1560)
   else
    some (.x0 v_w1560)
  else none
theorem G_ringref3_Disk_Crash_h_C1_ok {Fi : Ex → PS → Prop} (hF : KC 71 Fi) (ks : List Fr) (n : Nat) (v_kept1558 : (List Bool)) (v_d1557 : S_ringref3_Disk) (v_x1559 : Int) (v_w1560 : (List S_ringref3_Put))  (o : G_ringref3_Disk_Crash_h_C1_R) (h : G_ringref3_Disk_Crash_h_C1 n v_kept1558 v_d1557 v_x1559 v_w1560 = some o) (q : RunE Try.prog 71 Fi ks (G_ringref3_Disk_Crash_h_C1_ex o) (G_ringref3_Disk_Crash_h_C1_st v_kept1558 v_d1557 v_x1559 v_w1560 o)) : RunE Try.prog 71 Fi (.s (cL (cR (cR (cP (cB (cR (cL (cR (cR (bodyOf Try.f21)))))))))) :: ks) .normal (G_ringref3_Disk_Crash_h_C1_hd v_kept1558 v_d1557 v_x1559 v_w1560) := by
  unfold G_ringref3_Disk_Crash_h_C1 at h
  by_cases h1289 : 0 ≤ v_x1559 ∧ v_x1559 < ((v_d1557.fAll.length - v_d1557.fMark.toNat : Nat) : Int) ∧ v_d1557.fAll.length ≤ v_d1557.fAll.length
  · rw [if_pos h1289] at h
    obtain ⟨v_y1568, h1290, h⟩ := bind_some h
    by_cases h1293 : v_x1559 < (v_kept1558.length : Int)
    · rw [if_pos h1293] at h
      obtain ⟨v_y1570, h1294, h⟩ := bind_some h
      by_cases h1297 : v_y1570 = true
      · rw [if_pos h1297] at h
        obtain ⟨v_a1572, h1298, h⟩ := bind_some h
        cases h
        exact pkk_sound TTok mix hF 8 (hs := [.e 10 [3] (.ept 4 2 (v_d1557.fMark.toNat + (v_x1559).toNat) 0) [], .e 15 [3] (.d (.agg [.v (.int .i64 v_y1568.fN), .v (.string v_y1568.fData)])) [], .c, .u (.d (.v (.int .i64 (v_kept1558.length : Int)))), .t true, .c, .c, .y (eB v_y1570), .c, .c, .t true, .c, .c, .bd, .e 120 [3, 120] (.srf 120) [(3, .none), (120, .cu (splC 68 2 (v_d1557.fAll.map eS_ringref3_Put) (v_a1572.map eS_ringref3_Put)) [.srf 4])], .c]) (ts := []) (s := [0, 1, 2, 120, 4]) (l := [0, 1, 32, 33, 34]) (by kernel_rfl) (by kernel_rfl) (.cons (sidx (P := Try.prog) (T := TT) (t := 52) (A := 3) (l := 4) (e := 68) (s := 2) (i0 := v_d1557.fMark.toNat) (N := v_d1557.fAll.length) (xs := (v_d1557.fAll.map eS_ringref3_Put)) (ys := (v_w1560.map eS_ringref3_Put)) (x := (.tmp 32)) (i := (.tmp 34)) (ik := .i64) (j := v_x1559) (by kernel_rfl) h1289.1 h1289.2.1 (by rw [List.length_map]; exact h1289.2.2)) (.cons (sload (P := Try.prog) (T := TT) (t := 68) (A := 3) (l := 4) (e := 68) (s := 2) (i := (v_d1557.fMark.toNat + (v_x1559).toNat)) (xs := (v_d1557.fAll.map eS_ringref3_Put)) (ys := (v_w1560.map eS_ringref3_Put)) (y := (eS_ringref3_Put v_y1568)) (x := (.tmp 37)) (by kernel_rfl) (by kernel_rfl) (get_ob (f := eS_ringref3_Put) h1290) rfl rfl) (.cons (show 0 + 2 ≤ 2 by decide) (.cons (len_ob (f := eB) (l := v_kept1558)) (.cons (dt h1293) (.cons (getI_ob (f := eB) h1294) (.cons h1297 (.cons (sapp (P := Try.prog) (T := TT) (t := 52) (e := 68) (s := 2) (nl := 120) (ti := ⟨2, 24, .st [(0, 3), (1, 9)], [.i .i64, .s]⟩) (zs := (v_a1572.map eS_ringref3_Put)) (x := (.tmp 53)) (y := (.tmp 55)) (A := 3) (l := 4) (xs := (v_d1557.fAll.map eS_ringref3_Put)) (ys := (v_w1560.map eS_ringref3_Put)) (us := (([v_y1568]).map eS_ringref3_Put)) (app_ob (f := eS_ringref3_Put) (s := 2) h1298 (fun _ => rfl)).2.2.2 (by kernel_rfl) (by kernel_rfl) (by kernel_rfl) (by decide) (app_ob (f := eS_ringref3_Put) (s := 2) h1298 (fun _ => rfl)).1 (by simp) (app_ob (f := eS_ringref3_Put) (s := 2) h1298 (fun _ => rfl)).2.1 (app_ob (f := eS_ringref3_Put) (s := 2) h1298 (fun _ => rfl)).2.2.1 (by decide)) (.cons (show 3 + 1 ≤ 4 by decide) .nil))))))))) q
      · rw [if_neg h1297] at h
        cases h
        exact pkk_sound TTok mix hF 8 (hs := [.e 10 [3] (.ept 4 2 (v_d1557.fMark.toNat + (v_x1559).toNat) 0) [], .e 15 [3] (.d (.agg [.v (.int .i64 v_y1568.fN), .v (.string v_y1568.fData)])) [], .c, .u (.d (.v (.int .i64 (v_kept1558.length : Int)))), .t true, .c, .c, .y (eB v_y1570), .c, .c, .t false]) (ts := []) (s := [0, 1, 2, 3, 4]) (l := [0, 1, 32, 33, 34]) (by kernel_rfl) (by kernel_rfl) (.cons (sidx (P := Try.prog) (T := TT) (t := 52) (A := 3) (l := 4) (e := 68) (s := 2) (i0 := v_d1557.fMark.toNat) (N := v_d1557.fAll.length) (xs := (v_d1557.fAll.map eS_ringref3_Put)) (ys := (v_w1560.map eS_ringref3_Put)) (x := (.tmp 32)) (i := (.tmp 34)) (ik := .i64) (j := v_x1559) (by kernel_rfl) h1289.1 h1289.2.1 (by rw [List.length_map]; exact h1289.2.2)) (.cons (sload (P := Try.prog) (T := TT) (t := 68) (A := 3) (l := 4) (e := 68) (s := 2) (i := (v_d1557.fMark.toNat + (v_x1559).toNat)) (xs := (v_d1557.fAll.map eS_ringref3_Put)) (ys := (v_w1560.map eS_ringref3_Put)) (y := (eS_ringref3_Put v_y1568)) (x := (.tmp 37)) (by kernel_rfl) (by kernel_rfl) (get_ob (f := eS_ringref3_Put) h1290) rfl rfl) (.cons (show 0 + 2 ≤ 2 by decide) (.cons (len_ob (f := eB) (l := v_kept1558)) (.cons (dt h1293) (.cons (getI_ob (f := eB) h1294) (.cons (vf h1297) .nil))))))) q
    · rw [if_neg h1293] at h
      cases h
      exact pkk_sound TTok mix hF 8 (hs := [.e 10 [3] (.ept 4 2 (v_d1557.fMark.toNat + (v_x1559).toNat) 0) [], .e 15 [3] (.d (.agg [.v (.int .i64 v_y1568.fN), .v (.string v_y1568.fData)])) [], .c, .u (.d (.v (.int .i64 (v_kept1558.length : Int)))), .t false, .c, .c, .c, .c]) (ts := []) (s := [0, 1, 2, 3, 4]) (l := [0, 1, 32, 33, 34]) (by kernel_rfl) (by kernel_rfl) (.cons (sidx (P := Try.prog) (T := TT) (t := 52) (A := 3) (l := 4) (e := 68) (s := 2) (i0 := v_d1557.fMark.toNat) (N := v_d1557.fAll.length) (xs := (v_d1557.fAll.map eS_ringref3_Put)) (ys := (v_w1560.map eS_ringref3_Put)) (x := (.tmp 32)) (i := (.tmp 34)) (ik := .i64) (j := v_x1559) (by kernel_rfl) h1289.1 h1289.2.1 (by rw [List.length_map]; exact h1289.2.2)) (.cons (sload (P := Try.prog) (T := TT) (t := 68) (A := 3) (l := 4) (e := 68) (s := 2) (i := (v_d1557.fMark.toNat + (v_x1559).toNat)) (xs := (v_d1557.fAll.map eS_ringref3_Put)) (ys := (v_w1560.map eS_ringref3_Put)) (y := (eS_ringref3_Put v_y1568)) (x := (.tmp 37)) (by kernel_rfl) (by kernel_rfl) (get_ob (f := eS_ringref3_Put) h1290) rfl rfl) (.cons (show 0 + 2 ≤ 2 by decide) (.cons (len_ob (f := eB) (l := v_kept1558)) (.cons (df h1293) .nil))))) q
  · rw [if_neg h1289] at h; cases h
inductive G_ringref3_Disk_Crash_h_L2_R where
  | x0 (v_w1578 : (List S_ringref3_Put))
def G_ringref3_Disk_Crash_h_L2_ex : G_ringref3_Disk_Crash_h_L2_R → Ex
  | .x0 _ => .exit 0
def G_ringref3_Disk_Crash_h_L2_st (v_kept1558 : (List Bool)) (v_d1557 : S_ringref3_Disk) : G_ringref3_Disk_Crash_h_L2_R → PS
  | .x0 v_w1578 => ⟨(.ref 2 0 :: (dds 70 [])), [.gh 0 (.ref 2 0), .gh 1 (.srf 4), .box [.d (.v (.int .i64 v_d1557.fSectors)), .d (.v (.int .i64 v_d1557.fMark)), .d (.v (.int .i64 v_d1557.fFuse)), .srf 3], .cu (splC 68 2 (v_d1557.fAll.map eS_ringref3_Put) (v_w1578.map eS_ringref3_Put)) [.srf 4], .none]⟩
def G_ringref3_Disk_Crash_h_L2_hd (v_kept1558 : (List Bool)) (v_d1557 : S_ringref3_Disk) (v_x1559 : Int) (v_w1560 : (List S_ringref3_Put)) : PS := ⟨(.ref 2 0 :: .d (.sl (v_kept1558.map eB)) :: (dds 30 (.ssl 4 v_d1557.fMark.toNat v_d1557.fAll.length 2 :: .d (.v (.int .i64 ((v_d1557.fAll.length - v_d1557.fMark.toNat : Nat) : Int))) :: .d (.v (.int .i64 v_x1559)) :: (dds 36 [])))), [.gh 0 (.ref 2 0), .gh 1 (.srf 4), .box [.d (.v (.int .i64 v_d1557.fSectors)), .d (.v (.int .i64 v_d1557.fMark)), .d (.v (.int .i64 v_d1557.fFuse)), .srf 3], .cu (splC 68 2 (v_d1557.fAll.map eS_ringref3_Put) (v_w1560.map eS_ringref3_Put)) [.srf 4], .none]⟩
def G_ringref3_Disk_Crash_h_L2 (n : Nat) (v_kept1558 : (List Bool)) (v_d1557 : S_ringref3_Disk) : Nat → Int → (List S_ringref3_Put) → Option G_ringref3_Disk_Crash_h_L2_R
  | 0, _, _ => none
  | k + 1, v_x1559, v_w1560 =>
    if v_x1559 < ((v_d1557.fAll.length - v_d1557.fMark.toNat : Nat) : Int) then
     (G_ringref3_Disk_Crash_h_C1 n v_kept1558 v_d1557 v_x1559 v_w1560).bind fun v_o1576 => match v_o1576 with
     | .x0 v_z1577 =>
       G_ringref3_Disk_Crash_h_L2 n v_kept1558 v_d1557 k (wi .i64 (v_x1559 + 1)) v_z1577
    else
     some (.x0 v_w1560)
theorem G_ringref3_Disk_Crash_h_L2_ok {Fi : Ex → PS → Prop} (hF : KC 71 Fi) (ks : List Fr) (n : Nat) (v_kept1558 : (List Bool)) (v_d1557 : S_ringref3_Disk)  : ∀ (k : Nat) (v_x1559 : Int) (v_w1560 : (List S_ringref3_Put)) (o : G_ringref3_Disk_Crash_h_L2_R), G_ringref3_Disk_Crash_h_L2 n v_kept1558 v_d1557 k v_x1559 v_w1560 = some o → RunE Try.prog 71 Fi ks (G_ringref3_Disk_Crash_h_L2_ex o) (G_ringref3_Disk_Crash_h_L2_st v_kept1558 v_d1557 o) → RunE Try.prog 71 Fi (.l k (cP (cB (cR (cL (cR (cR (bodyOf Try.f21))))))) :: ks) .normal (G_ringref3_Disk_Crash_h_L2_hd v_kept1558 v_d1557 v_x1559 v_w1560)
  | 0, v_x1559, v_w1560, o, h, q => by rw [G_ringref3_Disk_Crash_h_L2] at h; cases h
  | k + 1, v_x1559, v_w1560, o, h, q => by
    rw [G_ringref3_Disk_Crash_h_L2] at h
    by_cases h1278 : v_x1559 < ((v_d1557.fAll.length - v_d1557.fMark.toNat : Nat) : Int)
    · rw [if_pos h1278] at h
      obtain ⟨v_o1576, h1299, h⟩ := bind_some h
      refine pkk_sound TTok mix hF 7 (hs := [.t true]) (ts := []) (s := [0, 1, 2, 3, 4]) (l := [0, 1, 32, 33, 34]) (by kernel_rfl) (by kernel_rfl) (.cons (dt h1278) .nil) (G_ringref3_Disk_Crash_h_C1_ok hF (.s (cR (cR (cR (cP (cB (cR (cL (cR (cR (bodyOf Try.f21)))))))))) :: .l k (cP (cB (cR (cL (cR (cR (bodyOf Try.f21))))))) :: ks) n v_kept1558 v_d1557 v_x1559 v_w1560 _ h1299 ?_)
      cases v_o1576 with
      | x0 v_z1577 =>
        try dsimp only at h
        exact pkk_sound TTok mix hF 1 (hs := []) (ts := []) (s := [0, 1, 2, 3, 4]) (l := [0, 1, 32, 33, 34]) (by kernel_rfl) (by kernel_rfl) .nil (G_ringref3_Disk_Crash_h_L2_ok hF ks n v_kept1558 v_d1557 k (wi .i64 (v_x1559 + 1)) v_z1577 _ h q)
    · rw [if_neg h1278] at h
      cases h
      exact pkk_sound TTok mix hF 8 (hs := [.t false]) (ts := []) (s := [0, 1, 2, 3, 4]) (l := [0]) (by kernel_rfl) (by kernel_rfl) (.cons (df h1278) .nil) q
/- (*ringhall/ringref3.Disk).Crash -/
def G_ringref3_Disk_Crash_h (n : Nat) (v_d1557 : S_ringref3_Disk) (v_kept1558 : (List Bool)) : Option (S_ringref3_Disk) :=
  if 0 ≤ v_d1557.fMark ∧ v_d1557.fMark ≤ (v_d1557.fAll.length : Int) then
   if 0 ≤ v_d1557.fMark ∧ v_d1557.fMark ≤ (v_d1557.fAll.length : Int) then
    (G_ringref3_Disk_Crash_h_L2 n v_kept1558 v_d1557 n 0 (v_d1557.fAll.take v_d1557.fMark.toNat)).bind fun v_o1579 => match v_o1579 with
    | .x0 v_z1580 =>
      some (S_ringref3_Disk.mk v_d1557.fSectors (v_z1580.length : Int) (-1) v_z1580)
   else none
  else none
theorem G_ringref3_Disk_Crash_h_ok (n : Nat) (v_d1557 : S_ringref3_Disk) (v_kept1558 : (List Bool)) (r : S_ringref3_Disk) (h : G_ringref3_Disk_Crash_h n v_d1557 v_kept1558 = some r) : RetH Try.prog 21 [.ref 0 0, .d ((eL eB) v_kept1558)] [.box [.d (.v (.int .i64 v_d1557.fSectors)), .d (.v (.int .i64 v_d1557.fMark)), .d (.v (.int .i64 v_d1557.fFuse)), .srf 1], .cu (rowF 68 2 (v_d1557.fAll.map eS_ringref3_Put)) []] (.tup []) [.box [.d (.v (.int .i64 r.fSectors)), .d (.v (.int .i64 r.fMark)), .d (.v (.int .i64 r.fFuse)), .srf 2], .none, .cu (rowF 68 2 (r.fAll.map eS_ringref3_Put)) []] := by
  refine retH_run (n := 71) (fn := Try.f21) (c := bodyOf Try.f21) (by kernel_rfl) (by kernel_rfl) (by kernel_rfl) (by kernel_rfl) ?_
  have hF : KC 71 (FinH Try.prog Try.f21 [.box [.d (.v (.int .i64 v_d1557.fSectors)), .d (.v (.int .i64 v_d1557.fMark)), .d (.v (.int .i64 v_d1557.fFuse)), .srf 1], .cu (rowF 68 2 (v_d1557.fAll.map eS_ringref3_Put)) []] (.tup []) [.box [.d (.v (.int .i64 r.fSectors)), .d (.v (.int .i64 r.fMark)), .d (.v (.int .i64 r.fFuse)), .srf 2], .none, .cu (rowF 68 2 (r.fAll.map eS_ringref3_Put)) []]) := FinH.kc' (by kernel_rfl)
  unfold G_ringref3_Disk_Crash_h at h
  by_cases h1276 : 0 ≤ v_d1557.fMark ∧ v_d1557.fMark ≤ (v_d1557.fAll.length : Int)
  · rw [if_pos h1276] at h
    by_cases h1277 : 0 ≤ v_d1557.fMark ∧ v_d1557.fMark ≤ (v_d1557.fAll.length : Int)
    · rw [if_pos h1277] at h
      obtain ⟨v_o1579, h1300, h⟩ := bind_some h
      refine pkk_sound TTok mix hF 9 (hs := [.c, .c, .e 44 [1] (.ssl 1 v_d1557.fMark.toNat v_d1557.fAll.length 2) [], .c, .c, .c, .e 119 [1, 119] (.srf 119) [(1, .none), (119, .cu (splC 68 2 (v_d1557.fAll.map eS_ringref3_Put) ((v_d1557.fAll.take v_d1557.fMark.toNat).map eS_ringref3_Put)) [.srf 1])], .c, .e 144 [] (.d (.v (.int .i64 ((v_d1557.fAll.length - v_d1557.fMark.toNat : Nat) : Int)))) [], .n n]) (ts := []) (s := [2, 3, 0, 119, 1]) (l := [0, 1, 32, 33, 34]) (by kernel_rfl) (by kernel_rfl) (.cons (lmap (fsl10 (P := Try.prog) (T := TT) (t := 52) (e := 68) (s := 2) (l := 1) (xs := (v_d1557.fAll.map eS_ringref3_Put)) (x := (.tmp 10)) (lo := (.tmp 14)) (ka := .i64) (i := v_d1557.fMark) (by kernel_rfl) (by rw [List.length_map]; exact h1276))) (.cons (fclip (P := Try.prog) (T := TT) (t := 52) (e := 68) (s := 2) (l := 1) (xs := (v_d1557.fAll.map eS_ringref3_Put)) (x := (.tmp 20)) (nl := 119) (ys := ((v_d1557.fAll.take v_d1557.fMark.toNat).map eS_ringref3_Put)) (hi := (.tmp 24)) (mx := (.tmp 28)) (kb := .i64) (kc := .i64) (i := v_d1557.fMark) (by kernel_rfl) (by rw [List.length_map]; exact h1277) (by rw [List.map_take]) (by decide)) (.cons (show 3 + 1 ≤ 4 by decide) (.cons (xlen (P := Try.prog) (T := TT) (t := 52) (e := 68) (s := 2) (l := 1) (i := v_d1557.fMark.toNat) (j := v_d1557.fAll.length) (x := (.tmp 32)) (by kernel_rfl)) .nil)))) (G_ringref3_Disk_Crash_h_L2_ok hF (.b 0 :: .s (cR (cR (cR (bodyOf Try.f21)))) :: []) n v_kept1558 v_d1557 n 0 (v_d1557.fAll.take v_d1557.fMark.toNat) _ h1300 ?_)
      cases v_o1579 with
      | x0 v_z1580 =>
        try dsimp only at h
        obtain rfl := Option.some.inj h
        exact pendH_sound TTok mix 3 (hs := [.c, .e 35 [3] (.d (.v (.int .i64 (v_z1580.length : Int)))) [], .c, .c, .sx [3] (toF 3 68 2 (v_z1580.map eS_ringref3_Put))]) [2, 4, 3] (by kernel_rfl) (by kernel_rfl) (by kernel_rfl) (.cons (lmap' (slen (P := Try.prog) (T := TT) (t := 52) (A := 3) (l := 4) (e := 68) (s := 2) (xs := (v_d1557.fAll.map eS_ringref3_Put)) (ys := (v_z1580.map eS_ringref3_Put)) (x := (.tmp 65)) (by kernel_rfl))) (.cons (show 1 + 1 ≤ 4 by decide) (.cons (show 2 + 1 ≤ 4 by decide) (.cons (spl_toF (l := 3) (L := 4) (e := 68) (s := 2) (xs := (v_d1557.fAll.map eS_ringref3_Put)) (ys := (v_z1580.map eS_ringref3_Put))) .nil))))
    · rw [if_neg h1277] at h; cases h
  · rw [if_neg h1276] at h; cases h
/- (*ringhall/disk.Disk).Image -/
def G_disk_Disk_Image_h (n : Nat) (v_d1582 : S_disk_Disk) : Option ((List Int) × S_disk_Disk) :=
  (G_slices_Clone_byte_byte n v_d1582.fsafe).bind fun (v_r1583 : (List Int)) =>
  some (v_r1583, v_d1582)
theorem G_disk_Disk_Image_h_ok (n : Nat) (v_d1582 : S_disk_Disk) (r : (List Int) × S_disk_Disk) (h : G_disk_Disk_Image_h n v_d1582 = some r) : RetH Try.prog 22 [.ref 0 0] [.box [.srf 1, .srf 2, .srf 3, .d (.v (.int .i64 v_d1582.ffuse))], .row 5 1 (v_d1582.fsafe.map (eI .u8)), .row 5 1 (v_d1582.fnow.map (eI .u8)), .row 70 2 (v_d1582.fwait.map eS_disk_write)] (.d ((eL (eI .u8)) r.1)) [.box [.srf 4, .srf 5, .srf 6, .d (.v (.int .i64 r.2.ffuse))], .none, .none, .none, .row 5 1 (r.2.fsafe.map (eI .u8)), .row 5 1 (r.2.fnow.map (eI .u8)), .row 70 2 (r.2.fwait.map eS_disk_write)] := by
  refine retH_run (n := 8) (fn := Try.f22) (c := bodyOf Try.f22) (by kernel_rfl) (by kernel_rfl) (by kernel_rfl) (by kernel_rfl) ?_
  have hF : KC 8 (FinH Try.prog Try.f22 [.box [.srf 1, .srf 2, .srf 3, .d (.v (.int .i64 v_d1582.ffuse))], .row 5 1 (v_d1582.fsafe.map (eI .u8)), .row 5 1 (v_d1582.fnow.map (eI .u8)), .row 70 2 (v_d1582.fwait.map eS_disk_write)] (.d ((eL (eI .u8)) r.1)) [.box [.srf 4, .srf 5, .srf 6, .d (.v (.int .i64 r.2.ffuse))], .none, .none, .none, .row 5 1 (r.2.fsafe.map (eI .u8)), .row 5 1 (r.2.fnow.map (eI .u8)), .row 70 2 (r.2.fwait.map eS_disk_write)]) := FinH.kc' (by kernel_rfl)
  unfold G_disk_Disk_Image_h at h
  obtain ⟨v_r1583, h1302, h⟩ := bind_some h
  obtain rfl := Option.some.inj h
  exact pendH_sound TTok mix 9 (hs := [.c, .e 33 [1, 33] (.srf 33) [(33, .row 5 1 (v_r1583.map (eI .u8)))], .dl 1, .fz 33, .mv 1, .mv 2, .mv 3]) [0, 1, 2, 3, 43, 44, 45] (by kernel_rfl) (by kernel_rfl) (by kernel_rfl) (.cons (cwhole (P := Try.prog) (T := TT) (f := .func 33) (args := #[(.tmp 6)]) (tys := #[24]) (g := 33) (l := 1) (e := 5) (s := 1) (nl := 33) (xs := (v_d1582.fsafe.map (eI .u8))) (G_slices_Clone_byte_byte_ok n _ _ h1302) (flat_map _ (fun _ => rfl))) .nil)
def G_strings_Repeat (n : Nat) (s : ByteArray) (c : Int) : Option ByteArray := if 0 ≤ c ∧ c ≤ 9223372036854775807 ∧ s.size * c.toNat ≤ 140737488355328 then some ⟨(Lib.repeatL s.data.toList c.toNat).toArray⟩ else none
theorem G_strings_Repeat_ok (n : Nat) (s : ByteArray) (c : Int) (r : ByteArray) (h : G_strings_Repeat n s c = some r) : Ret Try.prog 41 [eS s, eI .i64 c] (eS r) := by
  unfold G_strings_Repeat at h
  split at h
  · rename_i q
    obtain ⟨q1, q2, q3⟩ := q
    obtain rfl := Option.some.inj h
    obtain ⟨c, rfl⟩ := Int.eq_ofNat_of_zero_le q1
    refine ⟨⟨Try.f41, by kernel_rfl, by kernel_rfl, by kernel_rfl⟩, fun ow w vs _ hv => ?_⟩
    simp only [RT, R, eS, eI] at hv
    obtain ⟨_, _, rfl, ⟨rfl, _⟩, _, _, rfl, ⟨rfl, _⟩, rfl⟩ := hv
    refine (Try.strings_Repeat s c w (by omega) (by simpa using q3)).mono ?_
    rintro e w' ⟨rfl, hb⟩
    exact ⟨_, rfl, hb, rfl, rfl⟩
  · cases h
inductive G_ringref3_last_L1_R where
  | x0 (v_x1602 : ByteArray)
  | x1 
def G_ringref3_last_L1_ex : G_ringref3_last_L1_R → Ex
  | .x0 _ => .ret
  | .x1  => .exit 0
def G_ringref3_last_L1_st (v_l1592 : (List S_ringref3_Put)) (v_n1593 : Int) : G_ringref3_last_L1_R → PS
  | .x0 v_x1602 => ⟨(dd :: dd :: dd :: dd :: .d (.v (.string v_x1602)) :: (dds 21 [])), []⟩
  | .x1  => ⟨(dds 26 []), []⟩
def G_ringref3_last_L1_hd (v_l1592 : (List S_ringref3_Put)) (v_n1593 : Int) (v_i1594 : Int) : PS := ⟨(.d (.sl (v_l1592.map eS_ringref3_Put)) :: .d (.v (.int .i64 v_n1593)) :: dd :: dd :: dd :: .d (.v (.int .i64 v_i1594)) :: (dds 20 [])), []⟩
def G_ringref3_last_L1 (n : Nat) (v_l1592 : (List S_ringref3_Put)) (v_n1593 : Int) : Nat → Int → Option G_ringref3_last_L1_R
  | 0, _ => none
  | k + 1, v_i1594 =>
    if v_i1594 ≥ 0 then
     (getI v_l1592 v_i1594).bind fun (v_y1599 : S_ringref3_Put) =>
     if v_y1599.fN = v_n1593 then
      (getI v_l1592 v_i1594).bind fun (v_y1601 : S_ringref3_Put) =>
      some (.x0 v_y1601.fData)
     else
      G_ringref3_last_L1 n v_l1592 v_n1593 k (wi .i64 (v_i1594 - 1))
    else
     some (.x1 )
theorem G_ringref3_last_L1_ok {Fi : Ex → PS → Prop} (hF : KC 26 Fi) (ks : List Fr) (n : Nat) (v_l1592 : (List S_ringref3_Put)) (v_n1593 : Int)  : ∀ (k : Nat) (v_i1594 : Int) (o : G_ringref3_last_L1_R), G_ringref3_last_L1 n v_l1592 v_n1593 k v_i1594 = some o → RunE Try.prog 26 Fi ks (G_ringref3_last_L1_ex o) (G_ringref3_last_L1_st v_l1592 v_n1593 o) → RunE Try.prog 26 Fi (.l k (cP (cB (cR (cL (cR (bodyOf Try.f38)))))) :: ks) .normal (G_ringref3_last_L1_hd v_l1592 v_n1593 v_i1594)
  | 0, v_i1594, o, h, q => by rw [G_ringref3_last_L1] at h; cases h
  | k + 1, v_i1594, o, h, q => by
    rw [G_ringref3_last_L1] at h
    by_cases h1306 : v_i1594 ≥ 0
    · rw [if_pos h1306] at h
      obtain ⟨v_y1599, h1312, h⟩ := bind_some h
      by_cases h1315 : v_y1599.fN = v_n1593
      · rw [if_pos h1315] at h
        obtain ⟨v_y1601, h1316, h⟩ := bind_some h
        cases h
        exact pkk_sound TTok mix hF 17 (hs := [.t true, .y (eS_ringref3_Put v_y1599), .c, .t true, .y (eS_ringref3_Put v_y1601), .c]) (ts := []) (s := []) (l := [4]) (by kernel_rfl) (by kernel_rfl) (.cons (dt h1306) (.cons (getI_ob (f := eS_ringref3_Put) h1312) (.cons (bt h1315) (.cons (getI_ob (f := eS_ringref3_Put) h1316) .nil)))) q
      · rw [if_neg h1315] at h
        exact pkk_sound TTok mix hF 14 (hs := [.t true, .y (eS_ringref3_Put v_y1599), .c, .t false]) (ts := []) (s := []) (l := [0, 1, 5]) (by kernel_rfl) (by kernel_rfl) (.cons (dt h1306) (.cons (getI_ob (f := eS_ringref3_Put) h1312) (.cons (bf h1315) .nil))) (G_ringref3_last_L1_ok hF ks n v_l1592 v_n1593 k (wi .i64 (v_i1594 - 1)) _ h q)
    · rw [if_neg h1306] at h
      cases h
      exact pkk_sound TTok mix hF 8 (hs := [.t false]) (ts := []) (s := []) (l := []) (by kernel_rfl) (by kernel_rfl) (.cons (df h1306) .nil) q
/- ringhall/ringref3.last -/
def G_ringref3_last (n : Nat) (v_l1592 : (List S_ringref3_Put)) (v_n1593 : Int) : Option (ByteArray) :=
  (G_ringref3_last_L1 n v_l1592 v_n1593 n (wi .i64 ((v_l1592.length : Int) - 1))).bind fun v_o1603 => match v_o1603 with
  | .x0 v_z1604 =>
    some v_z1604
  | .x1  =>
    (G_strings_Repeat n (ByteArray.mk #[0]) 64).bind fun (v_r1605 : (ByteArray)) =>
    some v_r1605
theorem G_ringref3_last_ok (n : Nat) (v_l1592 : (List S_ringref3_Put)) (v_n1593 : Int) (r : ByteArray) (h : G_ringref3_last n v_l1592 v_n1593 = some r) : Ret Try.prog 38 [(eL eS_ringref3_Put) v_l1592, (eI .i64) v_n1593] (eS r) := by
  refine ret_run (n := 26) (fn := Try.f38) (c := bodyOf Try.f38) (by kernel_rfl) (by kernel_rfl) (by kernel_rfl) (by kernel_rfl) ?_
  have hF : KC 26 (FinR Try.prog Try.f38 (eS r)) := FinR.kc' (by kernel_rfl)
  unfold G_ringref3_last at h
  obtain ⟨v_o1603, h1317, h⟩ := bind_some h
  refine pkk_sound TTok mix hF 7 (hs := [.u (.d (.v (.int .i64 (v_l1592.length : Int)))), .n n]) (ts := []) (s := []) (l := [0, 1, 5]) (by kernel_rfl) (by kernel_rfl) (.cons (len_ob (f := eS_ringref3_Put) (l := v_l1592)) .nil) (G_ringref3_last_L1_ok hF (.b 0 :: .s (cR (cR (bodyOf Try.f38))) :: []) n v_l1592 v_n1593 n (wi .i64 ((v_l1592.length : Int) - 1)) _ h1317 ?_)
  cases v_o1603 with
  | x0 v_z1604 =>
    try dsimp only at h
    obtain rfl := Option.some.inj h
    exact pend_sound TTok mix 2 (hs := []) (by kernel_rfl) (by kernel_rfl) (by kernel_rfl) .nil
  | x1  =>
    try dsimp only at h
    obtain ⟨v_r1605, h1318, h⟩ := bind_some h
    obtain rfl := Option.some.inj h
    exact pend_sound TTok mix 4 (hs := [.r (eS v_r1605)]) (by kernel_rfl) (by kernel_rfl) (by kernel_rfl) (.cons (G_strings_Repeat_ok n (ByteArray.mk #[0]) 64 _ h1318) .nil)
/- (*ringhall/ringref3.Disk).Safe -/
def G_ringref3_Disk_Safe_h (n : Nat) (v_d1590 : S_ringref3_Disk) (v_n1591 : Int) : Option (ByteArray × S_ringref3_Disk) :=
  if 0 ≤ v_d1590.fMark ∧ v_d1590.fMark ≤ (v_d1590.fAll.length : Int) then
   if 0 ≤ v_d1590.fMark.toNat ∧ v_d1590.fMark.toNat ≤ v_d1590.fAll.length then
    (G_ringref3_last n ((v_d1590.fAll.take v_d1590.fMark.toNat).drop 0) v_n1591).bind fun (v_r1606 : (ByteArray)) =>
    some (v_r1606, v_d1590)
   else none
  else none
theorem G_ringref3_Disk_Safe_h_ok (n : Nat) (v_d1590 : S_ringref3_Disk) (v_n1591 : Int) (r : ByteArray × S_ringref3_Disk) (h : G_ringref3_Disk_Safe_h n v_d1590 v_n1591 = some r) : RetH Try.prog 34 [.ref 0 0, .d ((eI .i64) v_n1591)] [.box [.d (.v (.int .i64 v_d1590.fSectors)), .d (.v (.int .i64 v_d1590.fMark)), .d (.v (.int .i64 v_d1590.fFuse)), .srf 1], .cu (rowF 68 2 (v_d1590.fAll.map eS_ringref3_Put)) []] (.d (eS r.1)) [.box [.d (.v (.int .i64 r.2.fSectors)), .d (.v (.int .i64 r.2.fMark)), .d (.v (.int .i64 r.2.fFuse)), .srf 2], .none, .cu (rowF 68 2 (r.2.fAll.map eS_ringref3_Put)) []] := by
  refine retH_run (n := 16) (fn := Try.f34) (c := bodyOf Try.f34) (by kernel_rfl) (by kernel_rfl) (by kernel_rfl) (by kernel_rfl) ?_
  have hF : KC 16 (FinH Try.prog Try.f34 [.box [.d (.v (.int .i64 v_d1590.fSectors)), .d (.v (.int .i64 v_d1590.fMark)), .d (.v (.int .i64 v_d1590.fFuse)), .srf 1], .cu (rowF 68 2 (v_d1590.fAll.map eS_ringref3_Put)) []] (.d (eS r.1)) [.box [.d (.v (.int .i64 r.2.fSectors)), .d (.v (.int .i64 r.2.fMark)), .d (.v (.int .i64 r.2.fFuse)), .srf 2], .none, .cu (rowF 68 2 (r.2.fAll.map eS_ringref3_Put)) []]) := FinH.kc' (by kernel_rfl)
  unfold G_ringref3_Disk_Safe_h at h
  by_cases h1305 : 0 ≤ v_d1590.fMark ∧ v_d1590.fMark ≤ (v_d1590.fAll.length : Int)
  · rw [if_pos h1305] at h
    by_cases h1319 : 0 ≤ v_d1590.fMark.toNat ∧ v_d1590.fMark.toNat ≤ v_d1590.fAll.length
    · rw [if_pos h1319] at h
      obtain ⟨v_r1606, h1320, h⟩ := bind_some h
      obtain rfl := Option.some.inj h
      exact pendH_sound TTok mix 6 (hs := [.c, .c, .e 49 [1] (.ssl 1 0 v_d1590.fMark.toNat 2) [], .e 59 [1] (.d (.v (.string v_r1606))) [], .dl 1, .sx [1] (fmvS 1 68 2 (v_d1590.fAll.map eS_ringref3_Put))]) [0, 1, 69] (by kernel_rfl) (by kernel_rfl) (by kernel_rfl) (.cons (fsl01 (P := Try.prog) (T := TT) (t := 52) (e := 68) (s := 2) (l := 1) (xs := (v_d1590.fAll.map eS_ringref3_Put)) (x := (.tmp 8)) (hi := (.tmp 12)) (ka := .i64) (i := v_d1590.fMark) (by kernel_rfl) (by rw [List.length_map]; exact h1305)) (.cons (pcall (P := Try.prog) (T := TT) (f := .func 38) (args := #[(.tmp 13), (.tmp 14)]) (tys := #[52, 3]) (g := 38) (l := 1) (e := 68) (s := 2) (i := 0) (j := v_d1590.fMark.toNat) (xs := (v_d1590.fAll.map eS_ringref3_Put)) (ys := (((v_d1590.fAll.take v_d1590.fMark.toNat).drop 0).map eS_ringref3_Put)) (ps := [.v (.int .i64 v_n1591)]) (by simp only [List.map_drop, List.map_take]) (by rw [List.length_map]; exact h1319) (G_ringref3_last_ok n ((v_d1590.fAll.take v_d1590.fMark.toNat).drop 0) v_n1591 _ h1320) (by rfl)) (.cons (fmv (l := 1) (e := 68) (s := 2) (xs := (v_d1590.fAll.map eS_ringref3_Put))) .nil)))
    · rw [if_neg h1319] at h; cases h
  · rw [if_neg h1305] at h; cases h
inductive G_ringref3_Disk_Image_h_L1_R where
  | x0 (v_s1630 : ByteArray) (v_b1631 : Int) (v_b1632 : Int) (v_b1633 : Int) (v_w1634 : (List S_ringref3_Put))
def G_ringref3_Disk_Image_h_L1_ex : G_ringref3_Disk_Image_h_L1_R → Ex
  | .x0 _ _ _ _ _ => .exit 0
def G_ringref3_Disk_Image_h_L1_st (v_d1585 : S_ringref3_Disk) : G_ringref3_Disk_Image_h_L1_R → PS
  | .x0 v_s1630 v_b1631 v_b1632 v_b1633 v_w1634 => ⟨(dd :: dd :: dd :: .d (.v (.string v_s1630)) :: (dds 15 [])), [.gh 0 (.ref 2 0), .gh 1 (.srf 4), .box [.d (.v (.int .i64 v_b1631)), .d (.v (.int .i64 v_b1632)), .d (.v (.int .i64 v_b1633)), .srf 3], .cu (rowF 68 2 (v_w1634.map eS_ringref3_Put)) [], .none]⟩
def G_ringref3_Disk_Image_h_L1_hd (v_d1585 : S_ringref3_Disk) (v_s1619 : ByteArray) (v_x1620 : Int) (v_b1621 : Int) (v_b1622 : Int) (v_b1623 : Int) (v_w1624 : (List S_ringref3_Put)) : PS := ⟨(.ref 2 0 :: dd :: dd :: .d (.v (.string v_s1619)) :: dd :: dd :: dd :: dd :: .d (.v (.int .i64 v_d1585.fSectors)) :: .d (.v (.int .i64 v_x1620)) :: (dds 9 [])), [.gh 0 (.ref 2 0), .gh 1 (.srf 4), .box [.d (.v (.int .i64 v_b1621)), .d (.v (.int .i64 v_b1622)), .d (.v (.int .i64 v_b1623)), .srf 3], .cu (rowF 68 2 (v_w1624.map eS_ringref3_Put)) [], .none]⟩
def G_ringref3_Disk_Image_h_L1 (n : Nat) (v_d1585 : S_ringref3_Disk) : Nat → ByteArray → Int → Int → Int → Int → (List S_ringref3_Put) → Option G_ringref3_Disk_Image_h_L1_R
  | 0, _, _, _, _, _, _ => none
  | k + 1, v_s1619, v_x1620, v_b1621, v_b1622, v_b1623, v_w1624 =>
    if v_x1620 < v_d1585.fSectors then
     (G_ringref3_Disk_Safe_h n (S_ringref3_Disk.mk v_b1621 v_b1622 v_b1623 v_w1624) v_x1620).bind fun (v_r1628 : (ByteArray × S_ringref3_Disk)) =>
     (catS v_s1619 v_r1628.1).bind fun (v_s1629 : ByteArray) =>
     G_ringref3_Disk_Image_h_L1 n v_d1585 k v_s1629 (wi .i64 (v_x1620 + 1)) v_r1628.2.fSectors v_r1628.2.fMark v_r1628.2.fFuse v_r1628.2.fAll
    else
     some (.x0 v_s1619 v_b1621 v_b1622 v_b1623 v_w1624)
theorem G_ringref3_Disk_Image_h_L1_ok {Fi : Ex → PS → Prop} (hF : KC 19 Fi) (ks : List Fr) (n : Nat) (v_d1585 : S_ringref3_Disk)  : ∀ (k : Nat) (v_s1619 : ByteArray) (v_x1620 : Int) (v_b1621 : Int) (v_b1622 : Int) (v_b1623 : Int) (v_w1624 : (List S_ringref3_Put)) (o : G_ringref3_Disk_Image_h_L1_R), G_ringref3_Disk_Image_h_L1 n v_d1585 k v_s1619 v_x1620 v_b1621 v_b1622 v_b1623 v_w1624 = some o → RunE Try.prog 19 Fi ks (G_ringref3_Disk_Image_h_L1_ex o) (G_ringref3_Disk_Image_h_L1_st v_d1585 o) → RunE Try.prog 19 Fi (.l k (cP (cB (cR (cL (cR (cR (bodyOf Try.f23))))))) :: ks) .normal (G_ringref3_Disk_Image_h_L1_hd v_d1585 v_s1619 v_x1620 v_b1621 v_b1622 v_b1623 v_w1624)
  | 0, v_s1619, v_x1620, v_b1621, v_b1622, v_b1623, v_w1624, o, h, q => by rw [G_ringref3_Disk_Image_h_L1] at h; cases h
  | k + 1, v_s1619, v_x1620, v_b1621, v_b1622, v_b1623, v_w1624, o, h, q => by
    rw [G_ringref3_Disk_Image_h_L1] at h
    by_cases h1330 : v_x1620 < v_d1585.fSectors
    · rw [if_pos h1330] at h
      obtain ⟨v_r1628, h1333, h⟩ := bind_some h
      obtain ⟨v_s1629, h1334, h⟩ := bind_some h
      exact pkk_sound TTok mix hF 13 (hs := [.t true, .h [2, 3] [] [.box [.d (.v (.int .i64 v_r1628.2.fSectors)), .d (.v (.int .i64 v_r1628.2.fMark)), .d (.v (.int .i64 v_r1628.2.fFuse)), .srf 2], .none, .cu (rowF 68 2 (v_r1628.2.fAll.map eS_ringref3_Put)) []] (.d (.v (.string v_r1628.1))), .e 40 [] (.d (.v (.string v_s1629))) []]) (ts := []) (s := [0, 1, 2, 35, 4]) (l := [0, 3, 8, 9]) (by kernel_rfl) (by kernel_rfl) (.cons (dt h1330) (.cons (G_ringref3_Disk_Safe_h_ok n (S_ringref3_Disk.mk v_b1621 v_b1622 v_b1623 v_w1624) v_x1620 _ h1333) (.cons (xcatS (P := Try.prog) (T := TT) (t := 9) (ty' := 9) (x := (.tmp 12)) (y := (.tmp 15)) (p := v_s1619) (q := v_r1628.1) (r := v_s1629) h1334) .nil))) (G_ringref3_Disk_Image_h_L1_ok hF ks n v_d1585 k v_s1629 (wi .i64 (v_x1620 + 1)) v_r1628.2.fSectors v_r1628.2.fMark v_r1628.2.fFuse v_r1628.2.fAll _ h q)
    · rw [if_neg h1330] at h
      cases h
      exact pkk_sound TTok mix hF 8 (hs := [.t false]) (ts := []) (s := [0, 1, 2, 3, 4]) (l := [3]) (by kernel_rfl) (by kernel_rfl) (.cons (df h1330) .nil) q
/- (*ringhall/ringref3.Disk).Image -/
def G_ringref3_Disk_Image_h (n : Nat) (v_d1585 : S_ringref3_Disk) : Option (ByteArray × S_ringref3_Disk) :=
  (G_ringref3_Disk_Image_h_L1 n v_d1585 n (ByteArray.mk #[]) 0 v_d1585.fSectors v_d1585.fMark v_d1585.fFuse v_d1585.fAll).bind fun v_o1635 => match v_o1635 with
  | .x0 v_z1636 v_z1637 v_z1638 v_z1639 v_z1640 =>
    some (v_z1636, (S_ringref3_Disk.mk v_z1637 v_z1638 v_z1639 v_z1640))
theorem G_ringref3_Disk_Image_h_ok (n : Nat) (v_d1585 : S_ringref3_Disk) (r : ByteArray × S_ringref3_Disk) (h : G_ringref3_Disk_Image_h n v_d1585 = some r) : RetH Try.prog 23 [.ref 0 0] [.box [.d (.v (.int .i64 v_d1585.fSectors)), .d (.v (.int .i64 v_d1585.fMark)), .d (.v (.int .i64 v_d1585.fFuse)), .srf 1], .cu (rowF 68 2 (v_d1585.fAll.map eS_ringref3_Put)) []] (.d (eS r.1)) [.box [.d (.v (.int .i64 r.2.fSectors)), .d (.v (.int .i64 r.2.fMark)), .d (.v (.int .i64 r.2.fFuse)), .srf 2], .none, .cu (rowF 68 2 (r.2.fAll.map eS_ringref3_Put)) []] := by
  refine retH_run (n := 19) (fn := Try.f23) (c := bodyOf Try.f23) (by kernel_rfl) (by kernel_rfl) (by kernel_rfl) (by kernel_rfl) ?_
  have hF : KC 19 (FinH Try.prog Try.f23 [.box [.d (.v (.int .i64 v_d1585.fSectors)), .d (.v (.int .i64 v_d1585.fMark)), .d (.v (.int .i64 v_d1585.fFuse)), .srf 1], .cu (rowF 68 2 (v_d1585.fAll.map eS_ringref3_Put)) []] (.d (eS r.1)) [.box [.d (.v (.int .i64 r.2.fSectors)), .d (.v (.int .i64 r.2.fMark)), .d (.v (.int .i64 r.2.fFuse)), .srf 2], .none, .cu (rowF 68 2 (r.2.fAll.map eS_ringref3_Put)) []]) := FinH.kc' (by kernel_rfl)
  unfold G_ringref3_Disk_Image_h at h
  obtain ⟨v_o1635, h1335, h⟩ := bind_some h
  refine pkk_sound TTok mix hF 10 (hs := [.c, .dl 1, .sx [1] (fmvS 1 68 2 (v_d1585.fAll.map eS_ringref3_Put)), .n n]) (ts := []) (s := [2, 3, 0, 39, 1]) (l := [0, 3, 8, 9]) (by kernel_rfl) (by kernel_rfl) (.cons (fmv (l := 1) (e := 68) (s := 2) (xs := (v_d1585.fAll.map eS_ringref3_Put))) .nil) (G_ringref3_Disk_Image_h_L1_ok hF (.b 0 :: .s (cR (cR (cR (bodyOf Try.f23)))) :: []) n v_d1585 n (ByteArray.mk #[]) 0 v_d1585.fSectors v_d1585.fMark v_d1585.fFuse v_d1585.fAll _ h1335 ?_)
  cases v_o1635 with
  | x0 v_z1636 v_z1637 v_z1638 v_z1639 v_z1640 =>
    try dsimp only at h
    obtain rfl := Option.some.inj h
    exact pendH_sound TTok mix 4 (hs := []) [2, 4, 3] (by kernel_rfl) (by kernel_rfl) (by kernel_rfl) .nil
inductive G_ringlaw3_LiftRuns_C1_R where
  | x0 (v_x28 : Bool)
def G_ringlaw3_LiftRuns_C1_ex : G_ringlaw3_LiftRuns_C1_R → Ex
  | .x0 _ => .normal
def G_ringlaw3_LiftRuns_C1_st (v_l2 : (List S_lift_Req)) (v_kept3 : (List Bool)) (v_sectors1 : Int) : G_ringlaw3_LiftRuns_C1_R → PS
  | .x0 v_x28 => ⟨(dd :: .d (.sl (v_l2.map eS_lift_Req)) :: .d (.sl (v_kept3.map eB)) :: .ref 0 0 :: (dds 26 (.d (.v (.bool v_x28)) :: (dds 76 [])))), [.box [.d (.v (.int .i64 (wi .i64 (16 + (wi .i64 (remI (wi .u64 v_sectors1) 241))))))]]⟩
def G_ringlaw3_LiftRuns_C1_hd (v_l2 : (List S_lift_Req)) (v_kept3 : (List Bool)) (v_sectors1 : Int)  : PS := ⟨(dd :: .d (.sl (v_l2.map eS_lift_Req)) :: .d (.sl (v_kept3.map eB)) :: .ref 0 0 :: (dds 103 [])), [.box [.d (.v (.int .i64 (wi .i64 (16 + (wi .i64 (remI (wi .u64 v_sectors1) 241))))))]]⟩
def G_ringlaw3_LiftRuns_C1 (n : Nat) (v_l2 : (List S_lift_Req)) (v_kept3 : (List Bool)) (v_sectors1 : Int) : Option G_ringlaw3_LiftRuns_C1_R :=
  if (v_l2.length : Int) > 60 then
   some (.x0 true)
  else
   if (v_kept3.length : Int) > 100 then
    some (.x0 true)
   else
    (G_lift_Right n v_l2).bind fun (v_r30 : (Int)) =>
    some (.x0 (v_r30 != 0))
theorem G_ringlaw3_LiftRuns_C1_ok {Fi : Ex → PS → Prop} (hF : KC 107 Fi) (ks : List Fr) (n : Nat) (v_l2 : (List S_lift_Req)) (v_kept3 : (List Bool)) (v_sectors1 : Int)  (o : G_ringlaw3_LiftRuns_C1_R) (h : G_ringlaw3_LiftRuns_C1 n v_l2 v_kept3 v_sectors1 = some o) (q : RunE Try.prog 107 Fi ks (G_ringlaw3_LiftRuns_C1_ex o) (G_ringlaw3_LiftRuns_C1_st v_l2 v_kept3 v_sectors1 o)) : RunE Try.prog 107 Fi (.s (cL (cL (cR (cR (bodyOf Try.f4))))) :: ks) .normal (G_ringlaw3_LiftRuns_C1_hd v_l2 v_kept3 v_sectors1) := by
  unfold G_ringlaw3_LiftRuns_C1 at h
  by_cases h26 : (v_l2.length : Int) > 60
  · rw [if_pos h26] at h
    cases h
    exact pkk_sound TTok mix hF 1 (hs := [.u (.d (.v (.int .i64 (v_l2.length : Int)))), .t true, .c, .c, .c, .c, .c]) (ts := []) (s := [0]) (l := [1, 2, 3, 30]) (by kernel_rfl) (by kernel_rfl) (.cons (len_ob (f := eS_lift_Req) (l := v_l2)) (.cons (dt h26) .nil)) q
  · rw [if_neg h26] at h
    by_cases h27 : (v_kept3.length : Int) > 100
    · rw [if_pos h27] at h
      cases h
      exact pkk_sound TTok mix hF 1 (hs := [.u (.d (.v (.int .i64 (v_l2.length : Int)))), .t false, .c, .u (.d (.v (.int .i64 (v_kept3.length : Int)))), .c, .t true, .c, .c]) (ts := []) (s := [0]) (l := [1, 2, 3, 30]) (by kernel_rfl) (by kernel_rfl) (.cons (len_ob (f := eS_lift_Req) (l := v_l2)) (.cons (df h26) (.cons (len_ob (f := eB) (l := v_kept3)) (.cons (dt h27) .nil)))) q
    · rw [if_neg h27] at h
      obtain ⟨v_r30, h28, h⟩ := bind_some h
      cases h
      exact pkk_sound TTok mix hF 1 (hs := [.u (.d (.v (.int .i64 (v_l2.length : Int)))), .t false, .c, .u (.d (.v (.int .i64 (v_kept3.length : Int)))), .c, .t false, .c, .r ((eI .i64) v_r30), .c]) (ts := []) (s := [0]) (l := [1, 2, 3, 30]) (by kernel_rfl) (by kernel_rfl) (.cons (len_ob (f := eS_lift_Req) (l := v_l2)) (.cons (df h26) (.cons (len_ob (f := eB) (l := v_kept3)) (.cons (df h27) (.cons (G_lift_Right_ok n v_l2 _ h28) .nil))))) q
inductive G_ringlaw3_LiftRuns_L2_R where
  | x0 (v_w1505 : (List Int)) (v_w1506 : (List Int)) (v_w1507 : (List S_disk_write)) (v_b1508 : Int) (v_b1509 : Int) (v_b1510 : Int) (v_w1511 : (List S_ringref3_Put))
def G_ringlaw3_LiftRuns_L2_ex : G_ringlaw3_LiftRuns_L2_R → Ex
  | .x0 _ _ _ _ _ _ _ => .exit 0
def G_ringlaw3_LiftRuns_L2_st (v_kept3 : (List Bool)) (v_r1260 : (Int × S_disk_Disk)) (v_r1451 : ((List S_ringref3_Req))) : G_ringlaw3_LiftRuns_L2_R → PS
  | .x0 v_w1505 v_w1506 v_w1507 v_b1508 v_b1509 v_b1510 v_w1511 => ⟨(dd :: dd :: .d (.sl (v_kept3.map eB)) :: dd :: dd :: dd :: dd :: .ref 0 0 :: .d (.v (.int .i64 v_r1260.1)) :: .ref 4 0 :: (dds 97 [])), [.box [.srf 1, .srf 2, .srf 3, .d (.v (.int .i64 v_r1260.2.ffuse))], .row 5 1 (v_w1505.map (eI .u8)), .row 5 1 (v_w1506.map (eI .u8)), .row 70 2 (v_w1507.map eS_disk_write), .box [.d (.v (.int .i64 v_b1508)), .d (.v (.int .i64 v_b1509)), .d (.v (.int .i64 v_b1510)), .srf 5], .cu (rowF 68 2 (v_w1511.map eS_ringref3_Put)) []]⟩
def G_ringlaw3_LiftRuns_L2_hd (v_kept3 : (List Bool)) (v_r1260 : (Int × S_disk_Disk)) (v_r1451 : ((List S_ringref3_Req))) (v_x1486 : Int) (v_w1487 : (List Int)) (v_w1488 : (List Int)) (v_w1489 : (List S_disk_write)) (v_b1490 : Int) (v_b1491 : Int) (v_b1492 : Int) (v_w1493 : (List S_ringref3_Put)) : PS := ⟨(dd :: dd :: .d (.sl (v_kept3.map eB)) :: dd :: dd :: dd :: dd :: .ref 0 0 :: .d (.v (.int .i64 v_r1260.1)) :: .ref 4 0 :: (dds 50 (.d (.sl (v_r1451.map eS_ringref3_Req)) :: .d (.v (.int .i64 (v_r1451.length : Int))) :: .d (.v (.int .i64 v_x1486)) :: (dds 44 [])))), [.box [.srf 1, .srf 2, .srf 3, .d (.v (.int .i64 v_r1260.2.ffuse))], .row 5 1 (v_w1487.map (eI .u8)), .row 5 1 (v_w1488.map (eI .u8)), .row 70 2 (v_w1489.map eS_disk_write), .box [.d (.v (.int .i64 v_b1490)), .d (.v (.int .i64 v_b1491)), .d (.v (.int .i64 v_b1492)), .srf 5], .cu (rowF 68 2 (v_w1493.map eS_ringref3_Put)) []]⟩
def G_ringlaw3_LiftRuns_L2 (n : Nat) (v_kept3 : (List Bool)) (v_r1260 : (Int × S_disk_Disk)) (v_r1451 : ((List S_ringref3_Req))) : Nat → Int → (List Int) → (List Int) → (List S_disk_write) → Int → Int → Int → (List S_ringref3_Put) → Option G_ringlaw3_LiftRuns_L2_R
  | 0, _, _, _, _, _, _, _, _ => none
  | k + 1, v_x1486, v_w1487, v_w1488, v_w1489, v_b1490, v_b1491, v_b1492, v_w1493 =>
    if v_x1486 < (v_r1451.length : Int) then
     (getI v_r1451 v_x1486).bind fun (v_y1500 : S_ringref3_Req) =>
     if v_y1500.fN < 0 then
      (G_ringref3_Disk_Flush_h n (S_ringref3_Disk.mk v_b1490 v_b1491 v_b1492 v_w1493)).bind fun (v_r1503 : (S_ringref3_Disk)) =>
      G_ringlaw3_LiftRuns_L2 n v_kept3 v_r1260 v_r1451 k (wi .i64 (v_x1486 + 1)) v_w1487 v_w1488 v_w1489 v_r1503.fSectors v_r1503.fMark v_r1503.fFuse v_r1503.fAll
     else
      (G_ringref3_Disk_Write_h n (S_ringref3_Disk.mk v_b1490 v_b1491 v_b1492 v_w1493) v_y1500.fN v_y1500.fData).bind fun (v_r1504 : (Int × S_ringref3_Disk)) =>
      G_ringlaw3_LiftRuns_L2 n v_kept3 v_r1260 v_r1451 k (wi .i64 (v_x1486 + 1)) v_w1487 v_w1488 v_w1489 v_r1504.2.fSectors v_r1504.2.fMark v_r1504.2.fFuse v_r1504.2.fAll
    else
     some (.x0 v_w1487 v_w1488 v_w1489 v_b1490 v_b1491 v_b1492 v_w1493)
theorem G_ringlaw3_LiftRuns_L2_ok {Fi : Ex → PS → Prop} (hF : KC 107 Fi) (ks : List Fr) (n : Nat) (v_kept3 : (List Bool)) (v_r1260 : (Int × S_disk_Disk)) (v_r1451 : ((List S_ringref3_Req)))  : ∀ (k : Nat) (v_x1486 : Int) (v_w1487 : (List Int)) (v_w1488 : (List Int)) (v_w1489 : (List S_disk_write)) (v_b1490 : Int) (v_b1491 : Int) (v_b1492 : Int) (v_w1493 : (List S_ringref3_Put)) (o : G_ringlaw3_LiftRuns_L2_R), G_ringlaw3_LiftRuns_L2 n v_kept3 v_r1260 v_r1451 k v_x1486 v_w1487 v_w1488 v_w1489 v_b1490 v_b1491 v_b1492 v_w1493 = some o → RunE Try.prog 107 Fi ks (G_ringlaw3_LiftRuns_L2_ex o) (G_ringlaw3_LiftRuns_L2_st v_kept3 v_r1260 v_r1451 o) → RunE Try.prog 107 Fi (.l k (cP (cB (cR (cL (cR (cR (cR (cR (cR (cR (cR (cR (cR (bodyOf Try.f4)))))))))))))) :: ks) .normal (G_ringlaw3_LiftRuns_L2_hd v_kept3 v_r1260 v_r1451 v_x1486 v_w1487 v_w1488 v_w1489 v_b1490 v_b1491 v_b1492 v_w1493)
  | 0, v_x1486, v_w1487, v_w1488, v_w1489, v_b1490, v_b1491, v_b1492, v_w1493, o, h, q => by rw [G_ringlaw3_LiftRuns_L2] at h; cases h
  | k + 1, v_x1486, v_w1487, v_w1488, v_w1489, v_b1490, v_b1491, v_b1492, v_w1493, o, h, q => by
    rw [G_ringlaw3_LiftRuns_L2] at h
    by_cases h1227 : v_x1486 < (v_r1451.length : Int)
    · rw [if_pos h1227] at h
      obtain ⟨v_y1500, h1235, h⟩ := bind_some h
      by_cases h1239 : v_y1500.fN < 0
      · rw [if_pos h1239] at h
        obtain ⟨v_r1503, h1240, h⟩ := bind_some h
        exact pkk_sound TTok mix hF 16 (hs := [.t true, .y (eS_ringref3_Req v_y1500), .c, .c, .t true, .h [4, 5] [] [.box [.d (.v (.int .i64 v_r1503.fSectors)), .d (.v (.int .i64 v_r1503.fMark)), .d (.v (.int .i64 v_r1503.fFuse)), .srf 2], .none, .cu (rowF 68 2 (v_r1503.fAll.map eS_ringref3_Put)) []] (.tup [])]) (ts := []) (s := [0, 1, 2, 3, 4, 51]) (l := [2, 7, 8, 9, 60, 61, 62]) (by kernel_rfl) (by kernel_rfl) (.cons (dt h1227) (.cons (getI_ob (f := eS_ringref3_Req) h1235) (.cons (show 0 + 2 ≤ 2 by decide) (.cons (dt h1239) (.cons (G_ringref3_Disk_Flush_h_ok n (S_ringref3_Disk.mk v_b1490 v_b1491 v_b1492 v_w1493) _ h1240) .nil))))) (G_ringlaw3_LiftRuns_L2_ok hF ks n v_kept3 v_r1260 v_r1451 k (wi .i64 (v_x1486 + 1)) v_w1487 v_w1488 v_w1489 v_r1503.fSectors v_r1503.fMark v_r1503.fFuse v_r1503.fAll _ h q)
      · rw [if_neg h1239] at h
        obtain ⟨v_r1504, h1241, h⟩ := bind_some h
        exact pkk_sound TTok mix hF 16 (hs := [.t true, .y (eS_ringref3_Req v_y1500), .c, .c, .t false, .c, .c, .h [4, 5] [] [.box [.d (.v (.int .i64 v_r1504.2.fSectors)), .d (.v (.int .i64 v_r1504.2.fMark)), .d (.v (.int .i64 v_r1504.2.fFuse)), .srf 2], .none, .cu (rowF 68 2 (v_r1504.2.fAll.map eS_ringref3_Put)) []] (.d (.v (.int .i64 v_r1504.1)))]) (ts := []) (s := [0, 1, 2, 3, 4, 71]) (l := [2, 7, 8, 9, 60, 61, 62]) (by kernel_rfl) (by kernel_rfl) (.cons (dt h1227) (.cons (getI_ob (f := eS_ringref3_Req) h1235) (.cons (show 0 + 2 ≤ 2 by decide) (.cons (df h1239) (.cons (G_ringref3_Disk_Write_h_ok n (S_ringref3_Disk.mk v_b1490 v_b1491 v_b1492 v_w1493) v_y1500.fN v_y1500.fData _ h1241) .nil))))) (G_ringlaw3_LiftRuns_L2_ok hF ks n v_kept3 v_r1260 v_r1451 k (wi .i64 (v_x1486 + 1)) v_w1487 v_w1488 v_w1489 v_r1504.2.fSectors v_r1504.2.fMark v_r1504.2.fFuse v_r1504.2.fAll _ h q)
    · rw [if_neg h1227] at h
      cases h
      exact pkk_sound TTok mix hF 8 (hs := [.t false]) (ts := []) (s := [0, 1, 2, 3, 4, 5]) (l := [2, 7, 8, 9]) (by kernel_rfl) (by kernel_rfl) (.cons (df h1227) .nil) q
/- ringhall/ringlaw3.LiftRuns -/
def G_ringlaw3_LiftRuns (n : Nat) (v_sectors1 : Int) (v_l2 : (List S_lift_Req)) (v_kept3 : (List Bool)) : Option (Bool) :=
  (G_ringlaw3_LiftRuns_C1 n v_l2 v_kept3 v_sectors1).bind fun v_o32 => match v_o32 with
  | .x0 v_z33 =>
    if v_z33 = true then
     some true
    else
     (G_disk_New_h n (wi .i64 (16 + (wi .i64 (remI (wi .u64 v_sectors1) 241))))).bind fun (v_r37 : (Option S_disk_Disk) × Int) => match v_r37 with
     | (none, v_r37_1) =>
       if v_r37_1 = 0 then
        some false
       else
        some false
     | (some v_r37_0, v_r37_1) =>
       if v_r37_1 = 0 then
        (G_ringref3_NewDisk_h n (wi .i64 (16 + (wi .i64 (remI (wi .u64 v_sectors1) 241))))).bind fun (v_r39 : (S_ringref3_Disk)) =>
        (G_slices_ContainsFunc_lift_Req_lift_Req n v_l2 (fun (y0 : S_lift_Req) => G_ringlaw3_LiftRuns_1 n y0 (wi .i64 (16 + (wi .i64 (remI (wi .u64 v_sectors1) 241)))))).bind fun (v_r56 : (Bool)) =>
        (G_lift_Run_h n v_r37_0 v_l2).bind fun (v_r1260 : (Int × S_disk_Disk)) =>
        if v_r56 = true then
         if v_r1260.1 = 1 then
          (G_disk_Disk_Waiting_h n v_r1260.2).bind fun (v_r1263 : (Int × S_disk_Disk)) =>
          some (v_r1263.1 == 0)
         else
          some false
        else
         (G_ringlaw3_requests n v_l2).bind fun (v_r1277 : ((List S_ringref3_Req))) =>
         (G_ringref3_Lift n v_r1277 0).bind fun (v_r1451 : ((List S_ringref3_Req))) =>
         (G_ringlaw3_LiftRuns_L2 n v_kept3 v_r1260 v_r1451 n 0 v_r1260.2.fsafe v_r1260.2.fnow v_r1260.2.fwait v_r39.fSectors v_r39.fMark v_r39.fFuse v_r39.fAll).bind fun v_o1512 => match v_o1512 with
         | .x0 v_z1513 v_z1514 v_z1515 v_z1516 v_z1517 v_z1518 v_z1519 =>
           if v_r1260.1 = 0 then
            (G_disk_Disk_Waiting_h n (S_disk_Disk.mk v_z1513 v_z1514 v_z1515 v_r1260.2.ffuse)).bind fun (v_r1521 : (Int × S_disk_Disk)) =>
            if v_r1521.1 = (wi .i64 ((v_z1519.length : Int) - v_z1517)) then
             (G_disk_Disk_Crash_h n v_r1521.2 v_kept3).bind fun (v_r1556 : (S_disk_Disk)) =>
             (G_ringref3_Disk_Crash_h n (S_ringref3_Disk.mk v_z1516 v_z1517 v_z1518 v_z1519) v_kept3).bind fun (v_r1581 : (S_ringref3_Disk)) =>
             (G_disk_Disk_Image_h n v_r1556).bind fun (v_r1584 : ((List Int) × S_disk_Disk)) =>
             (G_ringref3_Disk_Image_h n v_r1581).bind fun (v_r1641 : (ByteArray × S_ringref3_Disk)) =>
             some ((b2s v_r1584.1).toList == v_r1641.1.toList)
            else
             some false
           else
            some false
       else
        some false
theorem G_ringlaw3_LiftRuns_ok (n : Nat) (v_sectors1 : Int) (v_l2 : (List S_lift_Req)) (v_kept3 : (List Bool)) (r : Bool) (h : G_ringlaw3_LiftRuns n v_sectors1 v_l2 v_kept3 = some r) : Ret Try.prog 4 [(eI .i64) v_sectors1, (eL eS_lift_Req) v_l2, (eL eB) v_kept3] (eB r) := by
  refine ret_run (n := 107) (fn := Try.f4) (c := bodyOf Try.f4) (by kernel_rfl) (by kernel_rfl) (by kernel_rfl) (by kernel_rfl) ?_
  have hF : KC 107 (FinR Try.prog Try.f4 (eB r)) := FinR.kc' (by kernel_rfl)
  unfold G_ringlaw3_LiftRuns at h
  obtain ⟨v_o32, h29, h⟩ := bind_some h
  refine pkk_sound TTok mix hF 6 (hs := [.c, .c]) (ts := []) (s := [0]) (l := [1, 2, 3]) (by kernel_rfl) (by kernel_rfl) (.cons (show (241 : Int) ≠ 0 by decide) (.cons (show 0 + 1 ≤ 1 by decide) .nil)) (G_ringlaw3_LiftRuns_C1_ok hF (.s (cR (cL (cR (cR (bodyOf Try.f4))))) :: .s (cR (cR (cR (bodyOf Try.f4)))) :: []) n v_l2 v_kept3 v_sectors1 _ h29 ?_)
  cases v_o32 with
  | x0 v_z33 =>
    try dsimp only at h
    by_cases h30 : v_z33 = true
    · rw [if_pos h30] at h
      obtain rfl := Option.some.inj h
      exact pend_sound TTok mix 5 (hs := [.t true]) (by kernel_rfl) (by kernel_rfl) (by kernel_rfl) (.cons h30 .nil)
    · rw [if_neg h30] at h
      obtain ⟨v_r37, h35, h⟩ := bind_some h
      match v_r37, h35, h with
      | (none, v_r37_1), h35, h =>
        try dsimp only at h
        by_cases h36 : v_r37_1 = 0
        · rw [if_pos h36] at h
          obtain rfl := Option.some.inj h
          exact pend_sound TTok mix 12 (hs := [.t false, .c, .h [] [] [] (.tup [.d (.v (.pointer none)), .d (.v (.int .i64 v_r37_1))]), .t false, .c, .e 56 [] (.d (.v (.bool true))) [], .c]) (by kernel_rfl) (by kernel_rfl) (by kernel_rfl) (.cons (vf h30) (.cons (G_disk_New_h_ok n (wi .i64 (16 + (wi .i64 (remI (wi .u64 v_sectors1) 241)))) _ h35) (.cons (nf h36) (.cons (xnilN (P := Try.prog) (T := TT) (op := .eql) (t := 42) (e := 65) (ty' := 42) (x := (.tmp 39)) (y := (.const (.pointer none))) rfl (by kernel_rfl)) .nil))))
        · rw [if_neg h36] at h
          obtain rfl := Option.some.inj h
          exact pend_sound TTok mix 12 (hs := [.t false, .c, .h [] [] [] (.tup [.d (.v (.pointer none)), .d (.v (.int .i64 v_r37_1))]), .t true, .c, .c]) (by kernel_rfl) (by kernel_rfl) (by kernel_rfl) (.cons (vf h30) (.cons (G_disk_New_h_ok n (wi .i64 (16 + (wi .i64 (remI (wi .u64 v_sectors1) 241)))) _ h35) (.cons (nt h36) .nil)))
      | (some v_r37_0, v_r37_1), h35, h =>
        try dsimp only at h
        by_cases h37 : v_r37_1 = 0
        · rw [if_pos h37] at h
          obtain ⟨v_r39, h38, h⟩ := bind_some h
          obtain ⟨v_r56, h50, h⟩ := bind_some h
          obtain ⟨v_r1260, h1025, h⟩ := bind_some h
          by_cases h1029 : v_r56 = true
          · rw [if_pos h1029] at h
            by_cases h1030 : v_r1260.1 = 1
            · rw [if_pos h1030] at h
              obtain ⟨v_r1263, h1031, h⟩ := bind_some h
              obtain rfl := Option.some.inj h
              exact pend_sound TTok mix 23 (hs := [.t false, .c, .h [] [] [.box [.srf 1, .srf 2, .srf 3, .d (.v (.int .i64 v_r37_0.ffuse))], .row 5 1 (v_r37_0.fsafe.map (eI .u8)), .row 5 1 (v_r37_0.fnow.map (eI .u8)), .row 70 2 (v_r37_0.fwait.map eS_disk_write)] (.tup [.ref 0 0, .d (.v (.int .i64 v_r37_1))]), .t false, .c, .e 56 [] (.d (.v (.bool false))) [], .c, .c, .h [] [] [.box [.d (.v (.int .i64 v_r39.fSectors)), .d (.v (.int .i64 v_r39.fMark)), .d (.v (.int .i64 v_r39.fFuse)), .srf 1], .cu (rowF 68 2 (v_r39.fAll.map eS_ringref3_Put)) []] (.ref 0 0), .c, .r (eB v_r56), .h [6, 7, 8, 9] [] [.box [.srf 4, .srf 5, .srf 6, .d (.v (.int .i64 v_r1260.2.ffuse))], .none, .none, .none, .row 5 1 (v_r1260.2.fsafe.map (eI .u8)), .row 5 1 (v_r1260.2.fnow.map (eI .u8)), .row 70 2 (v_r1260.2.fwait.map eS_disk_write)] (.d (.v (.int .i64 v_r1260.1))), .t true, .t true, .c, .h [6, 111, 112, 113] [] [.box [.srf 4, .srf 5, .srf 6, .d (.v (.int .i64 v_r1263.2.ffuse))], .none, .none, .none, .row 5 1 (v_r1263.2.fsafe.map (eI .u8)), .row 5 1 (v_r1263.2.fnow.map (eI .u8)), .row 70 2 (v_r1263.2.fwait.map eS_disk_write)] (.d (.v (.int .i64 v_r1263.1))), .c]) (by kernel_rfl) (by kernel_rfl) (by kernel_rfl) (.cons (vf h30) (.cons (G_disk_New_h_ok n (wi .i64 (16 + (wi .i64 (remI (wi .u64 v_sectors1) 241)))) _ h35) (.cons (nf h37) (.cons (xnilP (P := Try.prog) (T := TT) (op := .eql) (t := 42) (e := 65) (ty' := 42) (x := (.tmp 39)) (y := (.const (.pointer none))) (l := 6) (off := 0) rfl (by kernel_rfl)) (.cons (G_ringref3_NewDisk_h_ok n (wi .i64 (16 + (wi .i64 (remI (wi .u64 v_sectors1) 241)))) _ h38) (.cons (G_slices_ContainsFunc_lift_Req_lift_Req_ok n v_l2 (fun (y0 : S_lift_Req) => G_ringlaw3_LiftRuns_1 n y0 (wi .i64 (16 + (wi .i64 (remI (wi .u64 v_sectors1) 241))))) 15 [.iptr [.v (.int .i64 (wi .i64 (16 + (wi .i64 (remI (wi .u64 v_sectors1) 241)))))] 0] (fun y0 r h => G_ringlaw3_LiftRuns_1_ok n y0 (wi .i64 (16 + (wi .i64 (remI (wi .u64 v_sectors1) 241)))) r h) _ h50) (.cons (G_lift_Run_h_ok n v_r37_0 v_l2 _ h1025) (.cons h1029 (.cons (bt h1030) (.cons (G_disk_Disk_Waiting_h_ok n v_r1260.2 _ h1031) .nil))))))))))
            · rw [if_neg h1030] at h
              obtain rfl := Option.some.inj h
              exact pend_sound TTok mix 23 (hs := [.t false, .c, .h [] [] [.box [.srf 1, .srf 2, .srf 3, .d (.v (.int .i64 v_r37_0.ffuse))], .row 5 1 (v_r37_0.fsafe.map (eI .u8)), .row 5 1 (v_r37_0.fnow.map (eI .u8)), .row 70 2 (v_r37_0.fwait.map eS_disk_write)] (.tup [.ref 0 0, .d (.v (.int .i64 v_r37_1))]), .t false, .c, .e 56 [] (.d (.v (.bool false))) [], .c, .c, .h [] [] [.box [.d (.v (.int .i64 v_r39.fSectors)), .d (.v (.int .i64 v_r39.fMark)), .d (.v (.int .i64 v_r39.fFuse)), .srf 1], .cu (rowF 68 2 (v_r39.fAll.map eS_ringref3_Put)) []] (.ref 0 0), .c, .r (eB v_r56), .h [6, 7, 8, 9] [] [.box [.srf 4, .srf 5, .srf 6, .d (.v (.int .i64 v_r1260.2.ffuse))], .none, .none, .none, .row 5 1 (v_r1260.2.fsafe.map (eI .u8)), .row 5 1 (v_r1260.2.fnow.map (eI .u8)), .row 70 2 (v_r1260.2.fwait.map eS_disk_write)] (.d (.v (.int .i64 v_r1260.1))), .t true, .t false, .c, .c]) (by kernel_rfl) (by kernel_rfl) (by kernel_rfl) (.cons (vf h30) (.cons (G_disk_New_h_ok n (wi .i64 (16 + (wi .i64 (remI (wi .u64 v_sectors1) 241)))) _ h35) (.cons (nf h37) (.cons (xnilP (P := Try.prog) (T := TT) (op := .eql) (t := 42) (e := 65) (ty' := 42) (x := (.tmp 39)) (y := (.const (.pointer none))) (l := 6) (off := 0) rfl (by kernel_rfl)) (.cons (G_ringref3_NewDisk_h_ok n (wi .i64 (16 + (wi .i64 (remI (wi .u64 v_sectors1) 241)))) _ h38) (.cons (G_slices_ContainsFunc_lift_Req_lift_Req_ok n v_l2 (fun (y0 : S_lift_Req) => G_ringlaw3_LiftRuns_1 n y0 (wi .i64 (16 + (wi .i64 (remI (wi .u64 v_sectors1) 241))))) 15 [.iptr [.v (.int .i64 (wi .i64 (16 + (wi .i64 (remI (wi .u64 v_sectors1) 241)))))] 0] (fun y0 r h => G_ringlaw3_LiftRuns_1_ok n y0 (wi .i64 (16 + (wi .i64 (remI (wi .u64 v_sectors1) 241)))) r h) _ h50) (.cons (G_lift_Run_h_ok n v_r37_0 v_l2 _ h1025) (.cons h1029 (.cons (bf h1030) .nil)))))))))
          · rw [if_neg h1029] at h
            obtain ⟨v_r1277, h1042, h⟩ := bind_some h
            obtain ⟨v_r1451, h1197, h⟩ := bind_some h
            obtain ⟨v_o1512, h1242, h⟩ := bind_some h
            refine pkk_sound TTok mix hF 25 (hs := [.t false, .c, .h [] [] [.box [.srf 1, .srf 2, .srf 3, .d (.v (.int .i64 v_r37_0.ffuse))], .row 5 1 (v_r37_0.fsafe.map (eI .u8)), .row 5 1 (v_r37_0.fnow.map (eI .u8)), .row 70 2 (v_r37_0.fwait.map eS_disk_write)] (.tup [.ref 0 0, .d (.v (.int .i64 v_r37_1))]), .t false, .c, .e 56 [] (.d (.v (.bool false))) [], .c, .c, .h [] [] [.box [.d (.v (.int .i64 v_r39.fSectors)), .d (.v (.int .i64 v_r39.fMark)), .d (.v (.int .i64 v_r39.fFuse)), .srf 1], .cu (rowF 68 2 (v_r39.fAll.map eS_ringref3_Put)) []] (.ref 0 0), .c, .r (eB v_r56), .h [6, 7, 8, 9] [] [.box [.srf 4, .srf 5, .srf 6, .d (.v (.int .i64 v_r1260.2.ffuse))], .none, .none, .none, .row 5 1 (v_r1260.2.fsafe.map (eI .u8)), .row 5 1 (v_r1260.2.fnow.map (eI .u8)), .row 70 2 (v_r1260.2.fwait.map eS_disk_write)] (.d (.v (.int .i64 v_r1260.1))), .t false, .r ((eL eS_ringref3_Req) v_r1277), .r ((eL eS_ringref3_Req) v_r1451), .u (.d (.v (.int .i64 (v_r1451.length : Int)))), .n n]) (ts := []) (s := [6, 111, 112, 113, 71, 72]) (l := [2, 7, 8, 9, 60, 61, 62]) (by kernel_rfl) (by kernel_rfl) (.cons (vf h30) (.cons (G_disk_New_h_ok n (wi .i64 (16 + (wi .i64 (remI (wi .u64 v_sectors1) 241)))) _ h35) (.cons (nf h37) (.cons (xnilP (P := Try.prog) (T := TT) (op := .eql) (t := 42) (e := 65) (ty' := 42) (x := (.tmp 39)) (y := (.const (.pointer none))) (l := 6) (off := 0) rfl (by kernel_rfl)) (.cons (G_ringref3_NewDisk_h_ok n (wi .i64 (16 + (wi .i64 (remI (wi .u64 v_sectors1) 241)))) _ h38) (.cons (G_slices_ContainsFunc_lift_Req_lift_Req_ok n v_l2 (fun (y0 : S_lift_Req) => G_ringlaw3_LiftRuns_1 n y0 (wi .i64 (16 + (wi .i64 (remI (wi .u64 v_sectors1) 241))))) 15 [.iptr [.v (.int .i64 (wi .i64 (16 + (wi .i64 (remI (wi .u64 v_sectors1) 241)))))] 0] (fun y0 r h => G_ringlaw3_LiftRuns_1_ok n y0 (wi .i64 (16 + (wi .i64 (remI (wi .u64 v_sectors1) 241)))) r h) _ h50) (.cons (G_lift_Run_h_ok n v_r37_0 v_l2 _ h1025) (.cons (vf h1029) (.cons (G_ringlaw3_requests_ok n v_l2 _ h1042) (.cons (G_ringref3_Lift_ok n v_r1277 0 _ h1197) (.cons (len_ob (f := eS_ringref3_Req) (l := v_r1451)) .nil))))))))))) (G_ringlaw3_LiftRuns_L2_ok hF (.b 0 :: .s (cR (cR (cR (cR (cR (cR (cR (cR (cR (cR (bodyOf Try.f4))))))))))) :: []) n v_kept3 v_r1260 v_r1451 n 0 v_r1260.2.fsafe v_r1260.2.fnow v_r1260.2.fwait v_r39.fSectors v_r39.fMark v_r39.fFuse v_r39.fAll _ h1242 ?_)
            cases v_o1512 with
            | x0 v_z1513 v_z1514 v_z1515 v_z1516 v_z1517 v_z1518 v_z1519 =>
              try dsimp only at h
              by_cases h1245 : v_r1260.1 = 0
              · rw [if_pos h1245] at h
                obtain ⟨v_r1521, h1246, h⟩ := bind_some h
                by_cases h1247 : v_r1521.1 = (wi .i64 ((v_z1519.length : Int) - v_z1517))
                · rw [if_pos h1247] at h
                  obtain ⟨v_r1556, h1275, h⟩ := bind_some h
                  obtain ⟨v_r1581, h1301, h⟩ := bind_some h
                  obtain ⟨v_r1584, h1303, h⟩ := bind_some h
                  obtain ⟨v_r1641, h1336, h⟩ := bind_some h
                  obtain rfl := Option.some.inj h
                  exact pend_sound TTok mix 13 (hs := [.t false, .c, .h [0, 1, 2, 3] [] [.box [.srf 4, .srf 5, .srf 6, .d (.v (.int .i64 v_r1521.2.ffuse))], .none, .none, .none, .row 5 1 (v_r1521.2.fsafe.map (eI .u8)), .row 5 1 (v_r1521.2.fnow.map (eI .u8)), .row 70 2 (v_r1521.2.fwait.map eS_disk_write)] (.d (.v (.int .i64 v_r1521.1))), .c, .c, .c, .c, .c, .c, .e 51 [5] (.d (.v (.int .i64 (v_z1519.length : Int)))) [], .c, .c, .c, .c, .c, .c, .c, .t false, .h [0, 26, 27, 28] [] [.box [.srf 4, .srf 5, .srf 6, .d (.v (.int .i64 v_r1556.ffuse))], .none, .none, .none, .row 5 1 (v_r1556.fsafe.map (eI .u8)), .row 5 1 (v_r1556.fnow.map (eI .u8)), .row 70 2 (v_r1556.fwait.map eS_disk_write)] (.tup []), .h [4, 5] [] [.box [.d (.v (.int .i64 v_r1581.fSectors)), .d (.v (.int .i64 v_r1581.fMark)), .d (.v (.int .i64 v_r1581.fFuse)), .srf 2], .none, .cu (rowF 68 2 (v_r1581.fAll.map eS_ringref3_Put)) []] (.tup []), .h [0, 101, 102, 103] [] [.box [.srf 4, .srf 5, .srf 6, .d (.v (.int .i64 v_r1584.2.ffuse))], .none, .none, .none, .row 5 1 (v_r1584.2.fsafe.map (eI .u8)), .row 5 1 (v_r1584.2.fnow.map (eI .u8)), .row 70 2 (v_r1584.2.fwait.map eS_disk_write)] (.d (.sl (v_r1584.1.map (eI .u8)))), .e 131 [] (.d (.v (.string (b2s v_r1584.1)))) [], .h [4, 116] [] [.box [.d (.v (.int .i64 v_r1641.2.fSectors)), .d (.v (.int .i64 v_r1641.2.fMark)), .d (.v (.int .i64 v_r1641.2.fFuse)), .srf 2], .none, .cu (rowF 68 2 (v_r1641.2.fAll.map eS_ringref3_Put)) []] (.d (.v (.string v_r1641.1)))]) (by kernel_rfl) (by kernel_rfl) (by kernel_rfl) (.cons (nf h1245) (.cons (G_disk_Disk_Waiting_h_ok n (S_disk_Disk.mk v_z1513 v_z1514 v_z1515 v_r1260.2.ffuse) _ h1246) (.cons (lmap' (flen (P := Try.prog) (T := TT) (t := 52) (l := 5) (e := 68) (s := 2) (xs := (v_z1519.map eS_ringref3_Put)) (x := (.tmp 86)) (by kernel_rfl))) (.cons (nf h1247) (.cons (G_disk_Disk_Crash_h_ok n v_r1521.2 v_kept3 _ h1275) (.cons (G_ringref3_Disk_Crash_h_ok n (S_ringref3_Disk.mk v_z1516 v_z1517 v_z1518 v_z1519) v_kept3 _ h1301) (.cons (G_disk_Disk_Image_h_ok n v_r1556 _ h1303) (.cons (xb2sD (L := v_r1584.1) (P := Try.prog) (T := TT) (src := 24) (dst := 9) (e := 5) (s := 1) (x := (.tmp 102)) (by kernel_rfl) (by kernel_rfl) (by kernel_rfl)) (.cons (G_ringref3_Disk_Image_h_ok n v_r1581 _ h1336) .nil)))))))))
                · rw [if_neg h1247] at h
                  obtain rfl := Option.some.inj h
                  exact pend_sound TTok mix 9 (hs := [.t false, .c, .h [0, 1, 2, 3] [] [.box [.srf 4, .srf 5, .srf 6, .d (.v (.int .i64 v_r1521.2.ffuse))], .none, .none, .none, .row 5 1 (v_r1521.2.fsafe.map (eI .u8)), .row 5 1 (v_r1521.2.fnow.map (eI .u8)), .row 70 2 (v_r1521.2.fwait.map eS_disk_write)] (.d (.v (.int .i64 v_r1521.1))), .c, .c, .c, .c, .c, .c, .e 51 [5] (.d (.v (.int .i64 (v_z1519.length : Int)))) [], .c, .c, .c, .c, .c, .c, .c, .t true]) (by kernel_rfl) (by kernel_rfl) (by kernel_rfl) (.cons (nf h1245) (.cons (G_disk_Disk_Waiting_h_ok n (S_disk_Disk.mk v_z1513 v_z1514 v_z1515 v_r1260.2.ffuse) _ h1246) (.cons (lmap' (flen (P := Try.prog) (T := TT) (t := 52) (l := 5) (e := 68) (s := 2) (xs := (v_z1519.map eS_ringref3_Put)) (x := (.tmp 86)) (by kernel_rfl))) (.cons (nt h1247) .nil))))
              · rw [if_neg h1245] at h
                obtain rfl := Option.some.inj h
                exact pend_sound TTok mix 9 (hs := [.t true, .c, .c, .c, .c, .c, .c, .c, .c, .c, .c, .c, .c, .c]) (by kernel_rfl) (by kernel_rfl) (by kernel_rfl) (.cons (nt h1245) .nil)
        · rw [if_neg h37] at h
          obtain rfl := Option.some.inj h
          exact pend_sound TTok mix 12 (hs := [.t false, .c, .h [] [] [.box [.srf 1, .srf 2, .srf 3, .d (.v (.int .i64 v_r37_0.ffuse))], .row 5 1 (v_r37_0.fsafe.map (eI .u8)), .row 5 1 (v_r37_0.fnow.map (eI .u8)), .row 70 2 (v_r37_0.fwait.map eS_disk_write)] (.tup [.ref 0 0, .d (.v (.int .i64 v_r37_1))]), .t true, .c, .c]) (by kernel_rfl) (by kernel_rfl) (by kernel_rfl) (.cons (vf h30) (.cons (G_disk_New_h_ok n (wi .i64 (16 + (wi .i64 (remI (wi .u64 v_sectors1) 241)))) _ h35) (.cons (nt h37) .nil)))
def okS_lift_Req (x : S_lift_Req) : Prop := (fun a => (Lit.int .i64 a).wf = true) x.fSector ∧ (okL 1 (fun a => (Lit.int .u8 a).wf = true)) x.fData ∧ (fun _ => True) x.fBarrier ∧ True
theorem brS_lift_Req : Br (.pair (.int .i64) (.pair (.slice 1 (.int .u8)) (.pair .bool .unit))) (fun x : S_lift_Req => [.v (.int .i64 x.fSector), .sl (x.fData.map (eI .u8)), .v (.bool x.fBarrier)]) okS_lift_Req := br_map (br_pair (br_int .i64) (br_pair (br_slice (f := (eI .u8)) (ok := (fun a => (Lit.int .u8 a).wf = true)) (br_int .u8) (fun _ => rfl) (by decide)) (br_pair br_bool br_unit))) (fun p => S_lift_Req.mk p.1 p.2.1 p.2.2.1) (fun p h => ⟨rfl, h⟩)
theorem LiftRuns_walk (H : ∀ (a0 : Int) (a1 : (List S_lift_Req)) (a2 : (List Bool)), (fun a => (Lit.int .i64 a).wf = true) a0 → (okL 40 okS_lift_Req) a1 → (okL 1 (fun _ => True)) a2 → ∃ n, G_ringlaw3_LiftRuns n a0 a1 a2 = some true) (w : World) (v0 : Value) (v1 : Value) (v2 : Value) (h0 : rep.Arg w (.int .i64) v0) (h1 : rep.Arg w (.slice 40 (.pair (.int .i64) (.pair (.slice 1 (.int .u8)) (.pair .bool .unit)))) v1) (h2 : rep.Arg w (.slice 1 .bool) v2) : Calls Try.prog 4 #[v0, v1, v2] w (help.Ret (.bool true) w) := by
  obtain ⟨a0, o0, r0⟩ := arg_one (br_int .i64) (by rfl) h0
  obtain ⟨a1, o1, r1⟩ := arg_one (br_slice (f := eS_lift_Req) (ok := okS_lift_Req) brS_lift_Req (fun _ => rfl) (by decide)) (by rfl) h1
  obtain ⟨a2, o2, r2⟩ := arg_one (br_slice (f := eB) (ok := (fun _ => True)) br_bool (fun _ => rfl) (by decide)) (by rfl) h2
  obtain ⟨n, hn⟩ := H a0 a1 a2 o0 o1 o2
  exact walk_of (G_ringlaw3_LiftRuns_ok n a0 a1 a2 true hn) (RT_cons r0 (RT_cons r1 (RT_cons r2 RT_nil)))
/- FRAME LiftRuns; ringhall/ringlaw3.LiftRuns; (.int .i64) | (.slice 40 (.pair (.int .i64) (.pair (.slice 1 (.int .u8)) (.pair .bool .unit)))) | (.slice 1 .bool); .int .i64 0 | .slice none 0 0 | .slice none 0 0 -/
end Go.Proofs.Ytdimcmpkhbfcnaa.pv
