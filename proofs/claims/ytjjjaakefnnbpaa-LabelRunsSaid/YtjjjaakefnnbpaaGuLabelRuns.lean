/- What the functions compute (part 2): written by gen.py. -/
import Derived.Test.YtjjjaakefnnbpaaGuLabelRunsP1
set_option maxRecDepth 100000
set_option linter.all false
namespace Go.Proofs.Ytjjjaakefnnbpaa.pv
open Go.RowKit
theorem G_ringlaw5_LabelRuns_C6_ok {Fi : Ex → PS → Prop} (hF : KC 217 Fi) (ks : List Fr) (n : Nat) (v_acts3 : (List S_label_Act)) (v_from4 : Int) (v_r93 : ((List Bool) × Int)) (v_r406 : ((List Int) × (List Int) × Int)) (v_z501 : Bool) (v_who1 : (List S_label_Label)) (v_what2 : (List S_label_Label))  (o : G_ringlaw5_LabelRuns_C6_R) (h : G_ringlaw5_LabelRuns_C6 n v_acts3 v_from4 v_r93 v_r406 v_z501 v_who1 v_what2 = some o) (q : RunE Try.prog 217 Fi ks (G_ringlaw5_LabelRuns_C6_ex o) (G_ringlaw5_LabelRuns_C6_st v_acts3 v_from4 v_r93 v_r406 v_z501 v_who1 v_what2 o)) : RunE Try.prog 217 Fi (.s (cR (cL (cR (cR (cR (cR (cR (cR (cR (cR (bodyOf Try.f5))))))))))) :: ks) .normal (G_ringlaw5_LabelRuns_C6_hd v_acts3 v_from4 v_r93 v_r406 v_z501 v_who1 v_what2) := by
  unfold G_ringlaw5_LabelRuns_C6 at h
  by_cases h692 : v_z501 = true
  · rw [if_pos h692] at h
    cases h
    exact pkk_sound TTok mix hF 2 (hs := [.t true, .w ([v_from4].map (eI .i64))]) (ts := []) (s := [0, 1, 5]) (l := [2, 4, 5, 9, 11, 12, 13, 15, 16]) (by kernel_rfl) (by kernel_rfl) (.cons h692 (.cons (Eq.refl ([v_from4].map (eI .i64))) .nil)) q
  · rw [if_neg h692] at h
    cases h
    exact pkk_sound TTok mix hF 2 (hs := [.t false]) (ts := []) (s := [0, 1]) (l := [2, 4, 5, 9, 11, 12, 13, 15, 16]) (by kernel_rfl) (by kernel_rfl) (.cons (vf h692) .nil) q
inductive G_ringlaw5_LabelRuns_C7_R where
  | x0 (v_w656 : (List Int)) (v_w657 : (List Int))
  | x1 (v_w658 : (List Int)) (v_w659 : (List Int))
def G_ringlaw5_LabelRuns_C7_ex : G_ringlaw5_LabelRuns_C7_R → Ex
  | .x0 _ _ => .normal
  | .x1 _ _ => .normal
def G_ringlaw5_LabelRuns_C7_st (v_r93 : ((List Bool) × Int)) (v_r406 : ((List Int) × (List Int) × Int)) (v_x505 : Int) (v_acts3 : (List S_label_Act)) (v_y653 : S_label_Act) (v_who1 : (List S_label_Label)) (v_what2 : (List S_label_Label)) (v_w506 : (List Int)) (v_w507 : (List Int)) (v_y654 : S_label_Label) (v_y655 : S_label_Label) : G_ringlaw5_LabelRuns_C7_R → PS
  | .x0 v_w656 v_w657 => ⟨[dd, dd, dd, dd, .ref 0 0, .ref 1 0, dd, dd, dd, .d (.sl (v_r93.1.map eB)), dd, .d (.sl (v_r406.1.map (eI .i64))), .d (.sl (v_r406.2.1.map (eI .i64))), .d (.v (.int .i64 v_r406.2.2)), dd, .srf 2, .srf 3, .d (.v (.int .i64 v_x505)), .ref 4 0, .ref 5 0, .ref 6 0, dd, dd, dd, dd, dd, dd, dd, dd, dd, dd, dd, dd, dd, dd, dd, dd, dd, dd, dd, dd, dd, dd, dd, dd, dd, dd, dd, dd, dd, dd, dd, dd, dd, dd, dd, dd, dd, dd, dd, dd, dd, dd, dd, dd, dd, dd, dd, dd, dd, dd, dd, dd, dd, dd, dd, dd, dd, dd, dd, dd, dd, dd, dd, dd, dd, dd, dd, dd, dd, dd, dd, dd, dd, dd, dd, dd, dd, .d (.sl (v_acts3.map eS_label_Act)), .d (.v (.int .i64 (v_acts3.length : Int))), .d (.v (.int .i64 v_x505)), dd, dd, dd, dd, dd, dd, dd, dd, dd, dd, dd, dd, dd, dd, dd, dd, dd, dd, dd, dd, dd, dd, dd, dd, dd, dd, dd, dd, dd, dd, dd, dd, dd, dd, dd, dd, dd, dd, dd, dd, dd, dd, dd, dd, dd, dd, dd, dd, dd, dd, dd, dd, dd, dd, dd, dd, dd, dd, dd, dd, dd, dd, dd, dd, dd, dd, dd, dd, dd, dd, dd, dd, dd, dd, dd, dd, dd, dd, dd, dd, dd, dd, dd, dd, dd, dd, dd, dd, dd, dd, dd, dd, dd, dd, dd, dd, dd, dd, dd, dd, dd, dd, dd, dd, dd, dd, dd, dd, dd, dd, dd, dd, dd, dd, dd, dd], [.box [.d (.sl (v_who1.map eS_label_Label))], .box [.d (.sl (v_what2.map eS_label_Label))], .row 3 1 (v_w656.map (eI .i64)), .row 3 1 (v_w657.map (eI .i64)), .box [.d (.v (.int .i64 v_y653.fWho)), .d (.v (.int .i64 v_y653.fWhat)), .d (.v (.bool v_y653.fWrite))], .box [.d (.v (.int .i64 v_y655.fLevel)), .d (.v (.int .i64 v_y655.fKind))], .box [.d (.v (.int .i64 v_y654.fLevel)), .d (.v (.int .i64 v_y654.fKind))]]⟩
  | .x1 v_w658 v_w659 => ⟨[dd, dd, dd, dd, .ref 0 0, .ref 1 0, dd, dd, dd, .d (.sl (v_r93.1.map eB)), dd, .d (.sl (v_r406.1.map (eI .i64))), .d (.sl (v_r406.2.1.map (eI .i64))), .d (.v (.int .i64 v_r406.2.2)), dd, .srf 2, .srf 3, .d (.v (.int .i64 v_x505)), .ref 4 0, .ref 5 0, .ref 6 0, dd, dd, dd, dd, dd, dd, dd, dd, dd, dd, dd, dd, dd, dd, dd, dd, dd, dd, dd, dd, dd, dd, dd, dd, dd, dd, dd, dd, dd, dd, dd, dd, dd, dd, dd, dd, dd, dd, dd, dd, dd, dd, dd, dd, dd, dd, dd, dd, dd, dd, dd, dd, dd, dd, dd, dd, dd, dd, dd, dd, dd, dd, dd, dd, dd, dd, dd, dd, dd, dd, dd, dd, dd, dd, dd, dd, dd, .d (.sl (v_acts3.map eS_label_Act)), .d (.v (.int .i64 (v_acts3.length : Int))), .d (.v (.int .i64 v_x505)), dd, dd, dd, dd, dd, dd, dd, dd, dd, dd, dd, dd, dd, dd, dd, dd, dd, dd, dd, dd, dd, dd, dd, dd, dd, dd, dd, dd, dd, dd, dd, dd, dd, dd, dd, dd, dd, dd, dd, dd, dd, dd, dd, dd, dd, dd, dd, dd, dd, dd, dd, dd, dd, dd, dd, dd, dd, dd, dd, dd, dd, dd, dd, dd, dd, dd, dd, dd, dd, dd, dd, dd, dd, dd, dd, dd, dd, dd, dd, dd, dd, dd, dd, dd, dd, dd, dd, dd, dd, dd, dd, dd, dd, dd, dd, dd, dd, dd, dd, dd, dd, dd, dd, dd, dd, dd, dd, dd, dd, dd, dd, dd, dd, dd, dd, dd], [.box [.d (.sl (v_who1.map eS_label_Label))], .box [.d (.sl (v_what2.map eS_label_Label))], .row 3 1 (v_w658.map (eI .i64)), .row 3 1 (v_w659.map (eI .i64)), .box [.d (.v (.int .i64 v_y653.fWho)), .d (.v (.int .i64 v_y653.fWhat)), .d (.v (.bool v_y653.fWrite))], .box [.d (.v (.int .i64 v_y654.fLevel)), .d (.v (.int .i64 v_y654.fKind))], .box [.d (.v (.int .i64 v_y655.fLevel)), .d (.v (.int .i64 v_y655.fKind))]]⟩
def G_ringlaw5_LabelRuns_C7_hd (v_r93 : ((List Bool) × Int)) (v_r406 : ((List Int) × (List Int) × Int)) (v_x505 : Int) (v_acts3 : (List S_label_Act)) (v_y653 : S_label_Act) (v_who1 : (List S_label_Label)) (v_what2 : (List S_label_Label)) (v_w506 : (List Int)) (v_w507 : (List Int)) (v_y654 : S_label_Label) (v_y655 : S_label_Label)  : PS := ⟨[dd, dd, dd, dd, .ref 0 0, .ref 1 0, dd, dd, dd, .d (.sl (v_r93.1.map eB)), dd, .d (.sl (v_r406.1.map (eI .i64))), .d (.sl (v_r406.2.1.map (eI .i64))), .d (.v (.int .i64 v_r406.2.2)), dd, .srf 2, .srf 3, .d (.v (.int .i64 v_x505)), .ref 4 0, .ref 5 0, .ref 6 0, dd, dd, dd, dd, dd, dd, dd, dd, dd, dd, dd, dd, dd, dd, dd, dd, dd, dd, dd, dd, dd, dd, dd, dd, dd, dd, dd, dd, dd, dd, dd, dd, dd, dd, dd, dd, dd, dd, dd, dd, dd, dd, dd, dd, dd, dd, dd, dd, dd, dd, dd, dd, dd, dd, dd, dd, dd, dd, dd, dd, dd, dd, dd, dd, dd, dd, dd, dd, dd, dd, dd, dd, dd, dd, dd, dd, dd, .d (.sl (v_acts3.map eS_label_Act)), .d (.v (.int .i64 (v_acts3.length : Int))), .d (.v (.int .i64 v_x505)), dd, dd, dd, dd, dd, dd, dd, dd, dd, dd, dd, dd, dd, dd, dd, dd, .d (.v (.bool (!v_y653.fWrite))), dd, dd, dd, dd, dd, dd, dd, dd, dd, dd, dd, dd, dd, dd, dd, dd, dd, dd, dd, dd, dd, dd, dd, dd, dd, dd, dd, dd, dd, dd, dd, dd, dd, dd, dd, dd, dd, dd, dd, dd, dd, dd, dd, dd, dd, dd, dd, dd, dd, dd, dd, dd, dd, dd, dd, dd, dd, dd, dd, dd, dd, dd, dd, dd, dd, dd, dd, dd, dd, dd, dd, dd, dd, dd, dd, dd, dd, dd, dd, dd, dd, dd, dd, dd, dd, dd, dd, dd, dd, dd, dd, dd, dd, dd, dd, dd, dd, dd, dd], [.box [.d (.sl (v_who1.map eS_label_Label))], .box [.d (.sl (v_what2.map eS_label_Label))], .row 3 1 (v_w506.map (eI .i64)), .row 3 1 (v_w507.map (eI .i64)), .box [.d (.v (.int .i64 v_y653.fWho)), .d (.v (.int .i64 v_y653.fWhat)), .d (.v (.bool v_y653.fWrite))], .box [.d (.v (.int .i64 v_y654.fLevel)), .d (.v (.int .i64 v_y654.fKind))], .box [.d (.v (.int .i64 v_y655.fLevel)), .d (.v (.int .i64 v_y655.fKind))]]⟩
def G_ringlaw5_LabelRuns_C7 (n : Nat) (v_r93 : ((List Bool) × Int)) (v_r406 : ((List Int) × (List Int) × Int)) (v_x505 : Int) (v_acts3 : (List S_label_Act)) (v_y653 : S_label_Act) (v_who1 : (List S_label_Label)) (v_what2 : (List S_label_Label)) (v_w506 : (List Int)) (v_w507 : (List Int)) (v_y654 : S_label_Label) (v_y655 : S_label_Label) : Option G_ringlaw5_LabelRuns_C7_R :=
  if v_y653.fWrite = true then
   some (.x1 v_w506 v_w507)
  else
   some (.x0 v_w506 v_w507)
theorem G_ringlaw5_LabelRuns_C7_ok {Fi : Ex → PS → Prop} (hF : KC 217 Fi) (ks : List Fr) (n : Nat) (v_r93 : ((List Bool) × Int)) (v_r406 : ((List Int) × (List Int) × Int)) (v_x505 : Int) (v_acts3 : (List S_label_Act)) (v_y653 : S_label_Act) (v_who1 : (List S_label_Label)) (v_what2 : (List S_label_Label)) (v_w506 : (List Int)) (v_w507 : (List Int)) (v_y654 : S_label_Label) (v_y655 : S_label_Label)  (o : G_ringlaw5_LabelRuns_C7_R) (h : G_ringlaw5_LabelRuns_C7 n v_r93 v_r406 v_x505 v_acts3 v_y653 v_who1 v_what2 v_w506 v_w507 v_y654 v_y655 = some o) (q : RunE Try.prog 217 Fi ks (G_ringlaw5_LabelRuns_C7_ex o) (G_ringlaw5_LabelRuns_C7_st v_r93 v_r406 v_x505 v_acts3 v_y653 v_who1 v_what2 v_w506 v_w507 v_y654 v_y655 o)) : RunE Try.prog 217 Fi (.s (cR (cL (cR (cR (cB (cL (cR (cR (cP (cB (cR (cL (cR (cR (cR (cR (cR (cR (cR (cR (cR (bodyOf Try.f5)))))))))))))))))))))) :: ks) .normal (G_ringlaw5_LabelRuns_C7_hd v_r93 v_r406 v_x505 v_acts3 v_y653 v_who1 v_what2 v_w506 v_w507 v_y654 v_y655) := by
  unfold G_ringlaw5_LabelRuns_C7 at h
  by_cases h804 : v_y653.fWrite = true
  · rw [if_pos h804] at h
    cases h
    exact pkk_sound TTok mix hF 2 (hs := [.t false]) (ts := []) (s := [0, 1, 2, 3, 4, 5, 6]) (l := [4, 5, 9, 11, 12, 13, 15, 16, 17, 18, 19, 20, 98, 99, 100]) (by kernel_rfl) (by kernel_rfl) (.cons (bnf h804) .nil) q
  · rw [if_neg h804] at h
    cases h
    exact pkk_sound TTok mix hF 2 (hs := [.t true, .c, .c, .c, .c]) (ts := []) (s := [0, 1, 2, 3, 4, 5, 6]) (l := [4, 5, 9, 11, 12, 13, 15, 16, 17, 18, 19, 20, 98, 99, 100]) (by kernel_rfl) (by kernel_rfl) (.cons (bnt (vf h804)) (.cons (show 0 + 2 ≤ 2 by decide) (.cons (show 0 + 2 ≤ 2 by decide) .nil))) q
inductive G_ringlaw5_LabelRuns_C8_R where
  | x0 (v_x672 : Bool) (v_w673 : (List Int)) (v_w674 : (List Int))
def G_ringlaw5_LabelRuns_C8_ex : G_ringlaw5_LabelRuns_C8_R → Ex
  | .x0 _ _ _ => .normal
def G_ringlaw5_LabelRuns_C8_st (v_r93 : ((List Bool) × Int)) (v_r406 : ((List Int) × (List Int) × Int)) (v_x505 : Int) (v_acts3 : (List S_label_Act)) (v_who1 : (List S_label_Label)) (v_what2 : (List S_label_Label)) (v_z661 : (List Int)) (v_z662 : (List Int)) (v_y653 : S_label_Act) : G_ringlaw5_LabelRuns_C8_R → PS
  | .x0 v_x672 v_w673 v_w674 => ⟨[dd, dd, dd, dd, .ref 0 0, .ref 1 0, dd, dd, dd, .d (.sl (v_r93.1.map eB)), dd, .d (.sl (v_r406.1.map (eI .i64))), .d (.sl (v_r406.2.1.map (eI .i64))), .d (.v (.int .i64 v_r406.2.2)), dd, .srf 2, .srf 3, .d (.v (.int .i64 v_x505)), .ref 4 0, dd, dd, dd, dd, dd, dd, dd, dd, dd, dd, dd, dd, dd, dd, dd, dd, dd, dd, dd, dd, dd, dd, dd, dd, dd, dd, dd, dd, dd, dd, dd, dd, dd, dd, dd, dd, dd, dd, dd, dd, dd, dd, dd, dd, dd, dd, dd, dd, dd, dd, dd, dd, dd, dd, dd, dd, dd, dd, dd, dd, dd, dd, dd, dd, dd, dd, dd, dd, dd, dd, dd, dd, dd, dd, dd, dd, dd, dd, dd, .d (.sl (v_acts3.map eS_label_Act)), .d (.v (.int .i64 (v_acts3.length : Int))), .d (.v (.int .i64 v_x505)), dd, dd, dd, dd, dd, dd, dd, dd, dd, dd, dd, dd, dd, dd, dd, dd, dd, dd, dd, dd, dd, dd, dd, dd, dd, dd, dd, dd, dd, dd, dd, dd, dd, dd, dd, dd, dd, dd, dd, dd, dd, dd, dd, dd, dd, dd, dd, dd, dd, dd, dd, dd, dd, .d (.v (.bool v_x672)), dd, dd, dd, dd, dd, dd, dd, dd, dd, dd, dd, dd, dd, dd, dd, dd, dd, dd, dd, dd, dd, dd, dd, dd, dd, dd, dd, dd, dd, dd, dd, dd, dd, dd, dd, dd, dd, dd, dd, dd, dd, dd, dd, dd, dd, dd, dd, dd, dd, dd, dd, dd, dd, dd, dd, dd, dd, dd, dd, dd, dd, dd], [.box [.d (.sl (v_who1.map eS_label_Label))], .box [.d (.sl (v_what2.map eS_label_Label))], .row 3 1 (v_w673.map (eI .i64)), .row 3 1 (v_w674.map (eI .i64)), .box [.d (.v (.int .i64 v_y653.fWho)), .d (.v (.int .i64 v_y653.fWhat)), .d (.v (.bool v_y653.fWrite))]]⟩
def G_ringlaw5_LabelRuns_C8_hd (v_r93 : ((List Bool) × Int)) (v_r406 : ((List Int) × (List Int) × Int)) (v_x505 : Int) (v_acts3 : (List S_label_Act)) (v_who1 : (List S_label_Label)) (v_what2 : (List S_label_Label)) (v_z661 : (List Int)) (v_z662 : (List Int)) (v_y653 : S_label_Act)  : PS := ⟨[dd, dd, dd, dd, .ref 0 0, .ref 1 0, dd, dd, dd, .d (.sl (v_r93.1.map eB)), dd, .d (.sl (v_r406.1.map (eI .i64))), .d (.sl (v_r406.2.1.map (eI .i64))), .d (.v (.int .i64 v_r406.2.2)), dd, .srf 2, .srf 3, .d (.v (.int .i64 v_x505)), .ref 4 0, dd, dd, dd, dd, dd, dd, dd, dd, dd, dd, dd, dd, dd, dd, dd, dd, dd, dd, dd, dd, dd, dd, dd, dd, dd, dd, dd, dd, dd, dd, dd, dd, dd, dd, dd, dd, dd, dd, dd, dd, dd, dd, dd, dd, dd, dd, dd, dd, dd, dd, dd, dd, dd, dd, dd, dd, dd, dd, dd, dd, dd, dd, dd, dd, dd, dd, dd, dd, dd, dd, dd, dd, dd, dd, dd, dd, dd, dd, dd, .d (.sl (v_acts3.map eS_label_Act)), .d (.v (.int .i64 (v_acts3.length : Int))), .d (.v (.int .i64 v_x505)), dd, dd, dd, dd, dd, dd, dd, dd, dd, dd, dd, dd, dd, dd, dd, dd, dd, dd, dd, dd, dd, dd, dd, dd, dd, dd, dd, dd, dd, dd, dd, dd, dd, dd, dd, dd, dd, dd, dd, dd, dd, dd, dd, dd, dd, dd, dd, dd, dd, dd, dd, dd, dd, dd, dd, dd, dd, dd, dd, dd, dd, dd, dd, dd, dd, dd, dd, dd, dd, dd, dd, dd, dd, dd, dd, dd, dd, dd, dd, dd, dd, dd, dd, dd, dd, dd, dd, dd, dd, dd, dd, dd, dd, dd, dd, dd, dd, dd, dd, dd, dd, dd, dd, dd, dd, dd, dd, dd, dd, dd, dd, dd, dd, dd, dd, dd], [.box [.d (.sl (v_who1.map eS_label_Label))], .box [.d (.sl (v_what2.map eS_label_Label))], .row 3 1 (v_z661.map (eI .i64)), .row 3 1 (v_z662.map (eI .i64)), .box [.d (.v (.int .i64 v_y653.fWho)), .d (.v (.int .i64 v_y653.fWhat)), .d (.v (.bool v_y653.fWrite))]]⟩
def G_ringlaw5_LabelRuns_C8 (n : Nat) (v_r93 : ((List Bool) × Int)) (v_r406 : ((List Int) × (List Int) × Int)) (v_x505 : Int) (v_acts3 : (List S_label_Act)) (v_who1 : (List S_label_Label)) (v_what2 : (List S_label_Label)) (v_z661 : (List Int)) (v_z662 : (List Int)) (v_y653 : S_label_Act) : Option G_ringlaw5_LabelRuns_C8_R :=
  (getI v_r93.1 v_x505).bind fun (v_y669 : Bool) =>
  if v_y669 = true then
   if v_y653.fWrite = true then
    (G_slices_Contains_int_int n v_z661 v_y653.fWho).bind fun (v_r670 : (Bool)) =>
    if v_r670 = true then
     (G_slices_Contains_int_int n v_z662 v_y653.fWhat).bind fun (v_r671 : (Bool)) =>
     some (.x0 (!v_r671) v_z661 v_z662)
    else
     some (.x0 false v_z661 v_z662)
   else
    some (.x0 false v_z661 v_z662)
  else
   some (.x0 false v_z661 v_z662)
theorem G_ringlaw5_LabelRuns_C8_ok {Fi : Ex → PS → Prop} (hF : KC 217 Fi) (ks : List Fr) (n : Nat) (v_r93 : ((List Bool) × Int)) (v_r406 : ((List Int) × (List Int) × Int)) (v_x505 : Int) (v_acts3 : (List S_label_Act)) (v_who1 : (List S_label_Label)) (v_what2 : (List S_label_Label)) (v_z661 : (List Int)) (v_z662 : (List Int)) (v_y653 : S_label_Act)  (o : G_ringlaw5_LabelRuns_C8_R) (h : G_ringlaw5_LabelRuns_C8 n v_r93 v_r406 v_x505 v_acts3 v_who1 v_what2 v_z661 v_z662 v_y653 = some o) (q : RunE Try.prog 217 Fi ks (G_ringlaw5_LabelRuns_C8_ex o) (G_ringlaw5_LabelRuns_C8_st v_r93 v_r406 v_x505 v_acts3 v_who1 v_what2 v_z661 v_z662 v_y653 o)) : RunE Try.prog 217 Fi (.s (cL (cL (cR (cR (cR (cR (cB (cL (cR (cR (cP (cB (cR (cL (cR (cR (cR (cR (cR (cR (cR (cR (cR (bodyOf Try.f5)))))))))))))))))))))))) :: ks) .normal (G_ringlaw5_LabelRuns_C8_hd v_r93 v_r406 v_x505 v_acts3 v_who1 v_what2 v_z661 v_z662 v_y653) := by
  unfold G_ringlaw5_LabelRuns_C8 at h
  obtain ⟨v_y669, h815, h⟩ := bind_some h
  by_cases h816 : v_y669 = true
  · rw [if_pos h816] at h
    by_cases h817 : v_y653.fWrite = true
    · rw [if_pos h817] at h
      obtain ⟨v_r670, h818, h⟩ := bind_some h
      by_cases h819 : v_r670 = true
      · rw [if_pos h819] at h
        obtain ⟨v_r671, h820, h⟩ := bind_some h
        cases h
        exact pkk_sound TTok mix hF 1 (hs := [.y (eB v_y669), .c, .t true, .c, .c, .t true, .c, .c, .c, .c, .c, .r (eB v_r670), .t true, .c, .c, .c, .c, .c, .r (eB v_r671), .c]) (ts := []) (s := [0, 1, 2, 3, 4]) (l := [4, 5, 9, 11, 12, 13, 15, 16, 17, 18, 98, 99, 100, 154]) (by kernel_rfl) (by kernel_rfl) (.cons (getI_ob (f := eB) h815) (.cons h816 (.cons h817 (.cons (G_slices_Contains_int_int_ok n v_z661 v_y653.fWho _ h818) (.cons h819 (.cons (G_slices_Contains_int_int_ok n v_z662 v_y653.fWhat _ h820) .nil)))))) q
      · rw [if_neg h819] at h
        cases h
        exact pkk_sound TTok mix hF 1 (hs := [.y (eB v_y669), .c, .t true, .c, .c, .t true, .c, .c, .c, .c, .c, .r (eB v_r670), .t false, .c, .c, .c, .c]) (ts := []) (s := [0, 1, 2, 3, 4]) (l := [4, 5, 9, 11, 12, 13, 15, 16, 17, 18, 98, 99, 100, 154]) (by kernel_rfl) (by kernel_rfl) (.cons (getI_ob (f := eB) h815) (.cons h816 (.cons h817 (.cons (G_slices_Contains_int_int_ok n v_z661 v_y653.fWho _ h818) (.cons (vf h819) .nil))))) q
    · rw [if_neg h817] at h
      cases h
      exact pkk_sound TTok mix hF 1 (hs := [.y (eB v_y669), .c, .t true, .c, .c, .t false, .c, .c, .c, .c, .c, .c, .c, .c]) (ts := []) (s := [0, 1, 2, 3, 4]) (l := [4, 5, 9, 11, 12, 13, 15, 16, 17, 18, 98, 99, 100, 154]) (by kernel_rfl) (by kernel_rfl) (.cons (getI_ob (f := eB) h815) (.cons h816 (.cons (vf h817) .nil))) q
  · rw [if_neg h816] at h
    cases h
    exact pkk_sound TTok mix hF 1 (hs := [.y (eB v_y669), .c, .t false, .c, .c, .c, .c, .c, .c, .c, .c, .c, .c]) (ts := []) (s := [0, 1, 2, 3, 4]) (l := [4, 5, 9, 11, 12, 13, 15, 16, 17, 18, 98, 99, 100, 154]) (by kernel_rfl) (by kernel_rfl) (.cons (getI_ob (f := eB) h815) (.cons (vf h816) .nil)) q
inductive G_ringlaw5_LabelRuns_C9_R where
  | x0 (v_w690 : (List Int)) (v_w691 : (List Int))
def G_ringlaw5_LabelRuns_C9_ex : G_ringlaw5_LabelRuns_C9_R → Ex
  | .x0 _ _ => .normal
def G_ringlaw5_LabelRuns_C9_st (v_r93 : ((List Bool) × Int)) (v_r406 : ((List Int) × (List Int) × Int)) (v_x505 : Int) (v_acts3 : (List S_label_Act)) (v_z685 : Bool) (v_who1 : (List S_label_Label)) (v_what2 : (List S_label_Label)) (v_z686 : (List Int)) (v_z687 : (List Int)) (v_y653 : S_label_Act) : G_ringlaw5_LabelRuns_C9_R → PS
  | .x0 v_w690 v_w691 => ⟨[dd, dd, dd, dd, .ref 0 0, .ref 1 0, dd, dd, dd, .d (.sl (v_r93.1.map eB)), dd, .d (.sl (v_r406.1.map (eI .i64))), .d (.sl (v_r406.2.1.map (eI .i64))), .d (.v (.int .i64 v_r406.2.2)), dd, .srf 2, .srf 3, .d (.v (.int .i64 v_x505)), .ref 4 0, dd, dd, dd, dd, dd, dd, dd, dd, dd, dd, dd, dd, dd, dd, dd, dd, dd, dd, dd, dd, dd, dd, dd, dd, dd, dd, dd, dd, dd, dd, dd, dd, dd, dd, dd, dd, dd, dd, dd, dd, dd, dd, dd, dd, dd, dd, dd, dd, dd, dd, dd, dd, dd, dd, dd, dd, dd, dd, dd, dd, dd, dd, dd, dd, dd, dd, dd, dd, dd, dd, dd, dd, dd, dd, dd, dd, dd, dd, dd, .d (.sl (v_acts3.map eS_label_Act)), .d (.v (.int .i64 (v_acts3.length : Int))), .d (.v (.int .i64 v_x505)), dd, dd, dd, dd, dd, dd, dd, dd, dd, dd, dd, dd, dd, dd, dd, dd, dd, dd, dd, dd, dd, dd, dd, dd, dd, dd, dd, dd, dd, dd, dd, dd, dd, dd, dd, dd, dd, dd, dd, dd, dd, dd, dd, dd, dd, dd, dd, dd, dd, dd, dd, dd, dd, dd, dd, dd, dd, dd, dd, dd, dd, dd, dd, dd, dd, dd, dd, dd, dd, dd, dd, dd, dd, dd, dd, dd, dd, dd, dd, dd, dd, dd, dd, dd, dd, dd, dd, dd, dd, dd, dd, dd, dd, dd, dd, dd, dd, dd, dd, dd, dd, dd, dd, dd, dd, dd, dd, dd, dd, dd, dd, dd, dd, dd, dd, dd], [.box [.d (.sl (v_who1.map eS_label_Label))], .box [.d (.sl (v_what2.map eS_label_Label))], .row 3 1 (v_w690.map (eI .i64)), .row 3 1 (v_w691.map (eI .i64)), .box [.d (.v (.int .i64 v_y653.fWho)), .d (.v (.int .i64 v_y653.fWhat)), .d (.v (.bool v_y653.fWrite))]]⟩
def G_ringlaw5_LabelRuns_C9_hd (v_r93 : ((List Bool) × Int)) (v_r406 : ((List Int) × (List Int) × Int)) (v_x505 : Int) (v_acts3 : (List S_label_Act)) (v_z685 : Bool) (v_who1 : (List S_label_Label)) (v_what2 : (List S_label_Label)) (v_z686 : (List Int)) (v_z687 : (List Int)) (v_y653 : S_label_Act)  : PS := ⟨[dd, dd, dd, dd, .ref 0 0, .ref 1 0, dd, dd, dd, .d (.sl (v_r93.1.map eB)), dd, .d (.sl (v_r406.1.map (eI .i64))), .d (.sl (v_r406.2.1.map (eI .i64))), .d (.v (.int .i64 v_r406.2.2)), dd, .srf 2, .srf 3, .d (.v (.int .i64 v_x505)), .ref 4 0, dd, dd, dd, dd, dd, dd, dd, dd, dd, dd, dd, dd, dd, dd, dd, dd, dd, dd, dd, dd, dd, dd, dd, dd, dd, dd, dd, dd, dd, dd, dd, dd, dd, dd, dd, dd, dd, dd, dd, dd, dd, dd, dd, dd, dd, dd, dd, dd, dd, dd, dd, dd, dd, dd, dd, dd, dd, dd, dd, dd, dd, dd, dd, dd, dd, dd, dd, dd, dd, dd, dd, dd, dd, dd, dd, dd, dd, dd, dd, .d (.sl (v_acts3.map eS_label_Act)), .d (.v (.int .i64 (v_acts3.length : Int))), .d (.v (.int .i64 v_x505)), dd, dd, dd, dd, dd, dd, dd, dd, dd, dd, dd, dd, dd, dd, dd, dd, dd, dd, dd, dd, dd, dd, dd, dd, dd, dd, dd, dd, dd, dd, dd, dd, dd, dd, dd, dd, dd, dd, dd, dd, dd, dd, dd, dd, dd, dd, dd, dd, dd, dd, dd, dd, dd, .d (.v (.bool v_z685)), dd, dd, dd, dd, dd, dd, dd, dd, dd, dd, dd, dd, dd, dd, dd, dd, dd, dd, dd, dd, dd, dd, dd, dd, dd, dd, dd, dd, dd, dd, dd, dd, dd, dd, dd, dd, dd, dd, dd, dd, dd, dd, dd, dd, dd, dd, dd, dd, dd, dd, dd, dd, dd, dd, dd, dd, dd, dd, dd, dd, dd, dd], [.box [.d (.sl (v_who1.map eS_label_Label))], .box [.d (.sl (v_what2.map eS_label_Label))], .row 3 1 (v_z686.map (eI .i64)), .row 3 1 (v_z687.map (eI .i64)), .box [.d (.v (.int .i64 v_y653.fWho)), .d (.v (.int .i64 v_y653.fWhat)), .d (.v (.bool v_y653.fWrite))]]⟩
def G_ringlaw5_LabelRuns_C9 (n : Nat) (v_r93 : ((List Bool) × Int)) (v_r406 : ((List Int) × (List Int) × Int)) (v_x505 : Int) (v_acts3 : (List S_label_Act)) (v_z685 : Bool) (v_who1 : (List S_label_Label)) (v_what2 : (List S_label_Label)) (v_z686 : (List Int)) (v_z687 : (List Int)) (v_y653 : S_label_Act) : Option G_ringlaw5_LabelRuns_C9_R :=
  if v_z685 = true then
   (app 8 v_z687 ([v_y653.fWhat])).bind fun (v_a689 : (List Int)) =>
   some (.x0 v_z686 v_a689)
  else
   some (.x0 v_z686 v_z687)
theorem G_ringlaw5_LabelRuns_C9_ok {Fi : Ex → PS → Prop} (hF : KC 217 Fi) (ks : List Fr) (n : Nat) (v_r93 : ((List Bool) × Int)) (v_r406 : ((List Int) × (List Int) × Int)) (v_x505 : Int) (v_acts3 : (List S_label_Act)) (v_z685 : Bool) (v_who1 : (List S_label_Label)) (v_what2 : (List S_label_Label)) (v_z686 : (List Int)) (v_z687 : (List Int)) (v_y653 : S_label_Act)  (o : G_ringlaw5_LabelRuns_C9_R) (h : G_ringlaw5_LabelRuns_C9 n v_r93 v_r406 v_x505 v_acts3 v_z685 v_who1 v_what2 v_z686 v_z687 v_y653 = some o) (q : RunE Try.prog 217 Fi ks (G_ringlaw5_LabelRuns_C9_ex o) (G_ringlaw5_LabelRuns_C9_st v_r93 v_r406 v_x505 v_acts3 v_z685 v_who1 v_what2 v_z686 v_z687 v_y653 o)) : RunE Try.prog 217 Fi (.s (cR (cL (cR (cR (cR (cR (cB (cL (cR (cR (cP (cB (cR (cL (cR (cR (cR (cR (cR (cR (cR (cR (cR (bodyOf Try.f5)))))))))))))))))))))))) :: ks) .normal (G_ringlaw5_LabelRuns_C9_hd v_r93 v_r406 v_x505 v_acts3 v_z685 v_who1 v_what2 v_z686 v_z687 v_y653) := by
  unfold G_ringlaw5_LabelRuns_C9 at h
  by_cases h824 : v_z685 = true
  · rw [if_pos h824] at h
    obtain ⟨v_a689, h825, h⟩ := bind_some h
    cases h
    exact pkk_sound TTok mix hF 2 (hs := [.t true, .c, .bd, .w (v_a689.map (eI .i64))]) (ts := []) (s := [0, 1, 2, 17, 4]) (l := [4, 5, 9, 11, 12, 13, 15, 16, 17, 18, 98, 99, 100]) (by kernel_rfl) (by kernel_rfl) (.cons h824 (.cons (app_ob (f := (eI .i64)) (s := 1) h825 (fun _ => rfl)).1 (.cons (app_ob (f := (eI .i64)) (s := 1) h825 (fun _ => rfl)).2.1 (.cons (app_ob (f := (eI .i64)) (s := 1) h825 (fun _ => rfl)).2.2.1 (.cons (app_ob (f := (eI .i64)) (s := 1) h825 (fun _ => rfl)).2.2.2 .nil))))) q
  · rw [if_neg h824] at h
    cases h
    exact pkk_sound TTok mix hF 2 (hs := [.t false]) (ts := []) (s := [0, 1, 2, 3, 4]) (l := [4, 5, 9, 11, 12, 13, 15, 16, 17, 18, 98, 99, 100]) (by kernel_rfl) (by kernel_rfl) (.cons (vf h824) .nil) q
inductive G_ringlaw5_LabelRuns_C10_R where
  | x0 (v_x703 : Bool) (v_w704 : (List Int)) (v_w705 : (List Int))
def G_ringlaw5_LabelRuns_C10_ex : G_ringlaw5_LabelRuns_C10_R → Ex
  | .x0 _ _ _ => .normal
def G_ringlaw5_LabelRuns_C10_st (v_r93 : ((List Bool) × Int)) (v_r406 : ((List Int) × (List Int) × Int)) (v_x505 : Int) (v_acts3 : (List S_label_Act)) (v_who1 : (List S_label_Label)) (v_what2 : (List S_label_Label)) (v_z695 : (List Int)) (v_z696 : (List Int)) (v_y653 : S_label_Act) : G_ringlaw5_LabelRuns_C10_R → PS
  | .x0 v_x703 v_w704 v_w705 => ⟨[dd, dd, dd, dd, .ref 0 0, .ref 1 0, dd, dd, dd, .d (.sl (v_r93.1.map eB)), dd, .d (.sl (v_r406.1.map (eI .i64))), .d (.sl (v_r406.2.1.map (eI .i64))), .d (.v (.int .i64 v_r406.2.2)), dd, .srf 2, .srf 3, dd, .ref 4 0, dd, dd, dd, dd, dd, dd, dd, dd, dd, dd, dd, dd, dd, dd, dd, dd, dd, dd, dd, dd, dd, dd, dd, dd, dd, dd, dd, dd, dd, dd, dd, dd, dd, dd, dd, dd, dd, dd, dd, dd, dd, dd, dd, dd, dd, dd, dd, dd, dd, dd, dd, dd, dd, dd, dd, dd, dd, dd, dd, dd, dd, dd, dd, dd, dd, dd, dd, dd, dd, dd, dd, dd, dd, dd, dd, dd, dd, dd, dd, .d (.sl (v_acts3.map eS_label_Act)), .d (.v (.int .i64 (v_acts3.length : Int))), .d (.v (.int .i64 v_x505)), dd, dd, dd, dd, dd, dd, dd, dd, dd, dd, dd, dd, dd, dd, dd, dd, dd, dd, dd, dd, dd, dd, dd, dd, dd, dd, dd, dd, dd, dd, dd, dd, dd, dd, dd, dd, dd, dd, dd, dd, dd, dd, dd, dd, dd, dd, dd, dd, dd, dd, dd, dd, dd, dd, dd, dd, dd, dd, dd, dd, dd, dd, dd, dd, dd, dd, dd, dd, dd, dd, dd, dd, dd, dd, dd, dd, dd, dd, dd, dd, .d (.v (.bool v_x703)), dd, dd, dd, dd, dd, dd, dd, dd, dd, dd, dd, dd, dd, dd, dd, dd, dd, dd, dd, dd, dd, dd, dd, dd, dd, dd, dd, dd, dd, dd, dd, dd, dd, dd, dd], [.box [.d (.sl (v_who1.map eS_label_Label))], .box [.d (.sl (v_what2.map eS_label_Label))], .row 3 1 (v_w704.map (eI .i64)), .row 3 1 (v_w705.map (eI .i64)), .box [.d (.v (.int .i64 v_y653.fWho)), .d (.v (.int .i64 v_y653.fWhat)), .d (.v (.bool v_y653.fWrite))]]⟩
def G_ringlaw5_LabelRuns_C10_hd (v_r93 : ((List Bool) × Int)) (v_r406 : ((List Int) × (List Int) × Int)) (v_x505 : Int) (v_acts3 : (List S_label_Act)) (v_who1 : (List S_label_Label)) (v_what2 : (List S_label_Label)) (v_z695 : (List Int)) (v_z696 : (List Int)) (v_y653 : S_label_Act)  : PS := ⟨[dd, dd, dd, dd, .ref 0 0, .ref 1 0, dd, dd, dd, .d (.sl (v_r93.1.map eB)), dd, .d (.sl (v_r406.1.map (eI .i64))), .d (.sl (v_r406.2.1.map (eI .i64))), .d (.v (.int .i64 v_r406.2.2)), dd, .srf 2, .srf 3, .d (.v (.int .i64 v_x505)), .ref 4 0, dd, dd, dd, dd, dd, dd, dd, dd, dd, dd, dd, dd, dd, dd, dd, dd, dd, dd, dd, dd, dd, dd, dd, dd, dd, dd, dd, dd, dd, dd, dd, dd, dd, dd, dd, dd, dd, dd, dd, dd, dd, dd, dd, dd, dd, dd, dd, dd, dd, dd, dd, dd, dd, dd, dd, dd, dd, dd, dd, dd, dd, dd, dd, dd, dd, dd, dd, dd, dd, dd, dd, dd, dd, dd, dd, dd, dd, dd, dd, .d (.sl (v_acts3.map eS_label_Act)), .d (.v (.int .i64 (v_acts3.length : Int))), .d (.v (.int .i64 v_x505)), dd, dd, dd, dd, dd, dd, dd, dd, dd, dd, dd, dd, dd, dd, dd, dd, dd, dd, dd, dd, dd, dd, dd, dd, dd, dd, dd, dd, dd, dd, dd, dd, dd, dd, dd, dd, dd, dd, dd, dd, dd, dd, dd, dd, dd, dd, dd, dd, dd, dd, dd, dd, dd, dd, dd, dd, dd, dd, dd, dd, dd, dd, dd, dd, dd, dd, dd, dd, dd, dd, dd, dd, dd, dd, dd, dd, dd, dd, dd, dd, dd, dd, dd, dd, dd, dd, dd, dd, dd, dd, dd, dd, dd, dd, dd, dd, dd, dd, dd, dd, dd, dd, dd, dd, dd, dd, dd, dd, dd, dd, dd, dd, dd, dd, dd, dd], [.box [.d (.sl (v_who1.map eS_label_Label))], .box [.d (.sl (v_what2.map eS_label_Label))], .row 3 1 (v_z695.map (eI .i64)), .row 3 1 (v_z696.map (eI .i64)), .box [.d (.v (.int .i64 v_y653.fWho)), .d (.v (.int .i64 v_y653.fWhat)), .d (.v (.bool v_y653.fWrite))]]⟩
def G_ringlaw5_LabelRuns_C10 (n : Nat) (v_r93 : ((List Bool) × Int)) (v_r406 : ((List Int) × (List Int) × Int)) (v_x505 : Int) (v_acts3 : (List S_label_Act)) (v_who1 : (List S_label_Label)) (v_what2 : (List S_label_Label)) (v_z695 : (List Int)) (v_z696 : (List Int)) (v_y653 : S_label_Act) : Option G_ringlaw5_LabelRuns_C10_R :=
  (getI v_r93.1 v_x505).bind fun (v_y700 : Bool) =>
  if v_y700 = true then
   if v_y653.fWrite = true then
    some (.x0 false v_z695 v_z696)
   else
    (G_slices_Contains_int_int n v_z696 v_y653.fWhat).bind fun (v_r701 : (Bool)) =>
    if v_r701 = true then
     (G_slices_Contains_int_int n v_z695 v_y653.fWho).bind fun (v_r702 : (Bool)) =>
     some (.x0 (!v_r702) v_z695 v_z696)
    else
     some (.x0 false v_z695 v_z696)
  else
   some (.x0 false v_z695 v_z696)
theorem G_ringlaw5_LabelRuns_C10_ok {Fi : Ex → PS → Prop} (hF : KC 217 Fi) (ks : List Fr) (n : Nat) (v_r93 : ((List Bool) × Int)) (v_r406 : ((List Int) × (List Int) × Int)) (v_x505 : Int) (v_acts3 : (List S_label_Act)) (v_who1 : (List S_label_Label)) (v_what2 : (List S_label_Label)) (v_z695 : (List Int)) (v_z696 : (List Int)) (v_y653 : S_label_Act)  (o : G_ringlaw5_LabelRuns_C10_R) (h : G_ringlaw5_LabelRuns_C10 n v_r93 v_r406 v_x505 v_acts3 v_who1 v_what2 v_z695 v_z696 v_y653 = some o) (q : RunE Try.prog 217 Fi ks (G_ringlaw5_LabelRuns_C10_ex o) (G_ringlaw5_LabelRuns_C10_st v_r93 v_r406 v_x505 v_acts3 v_who1 v_what2 v_z695 v_z696 v_y653 o)) : RunE Try.prog 217 Fi (.s (cL (cR (cR (cR (cR (cR (cB (cL (cR (cR (cP (cB (cR (cL (cR (cR (cR (cR (cR (cR (cR (cR (cR (bodyOf Try.f5)))))))))))))))))))))))) :: ks) .normal (G_ringlaw5_LabelRuns_C10_hd v_r93 v_r406 v_x505 v_acts3 v_who1 v_what2 v_z695 v_z696 v_y653) := by
  unfold G_ringlaw5_LabelRuns_C10 at h
  obtain ⟨v_y700, h833, h⟩ := bind_some h
  by_cases h834 : v_y700 = true
  · rw [if_pos h834] at h
    by_cases h835 : v_y653.fWrite = true
    · rw [if_pos h835] at h
      cases h
      exact pkk_sound TTok mix hF 1 (hs := [.y (eB v_y700), .c, .t true, .c, .c, .c, .t false, .c, .c, .c, .c, .c, .c, .c, .c]) (ts := []) (s := [0, 1, 2, 3, 4]) (l := [4, 5, 9, 11, 12, 13, 15, 16, 18, 98, 99, 100, 181]) (by kernel_rfl) (by kernel_rfl) (.cons (getI_ob (f := eB) h833) (.cons h834 (.cons (bnf h835) .nil))) q
    · rw [if_neg h835] at h
      obtain ⟨v_r701, h836, h⟩ := bind_some h
      by_cases h837 : v_r701 = true
      · rw [if_pos h837] at h
        obtain ⟨v_r702, h838, h⟩ := bind_some h
        cases h
        exact pkk_sound TTok mix hF 1 (hs := [.y (eB v_y700), .c, .t true, .c, .c, .c, .t true, .c, .c, .c, .c, .c, .r (eB v_r701), .t true, .c, .c, .c, .c, .c, .r (eB v_r702), .c]) (ts := []) (s := [0, 1, 2, 3, 4]) (l := [4, 5, 9, 11, 12, 13, 15, 16, 18, 98, 99, 100, 181]) (by kernel_rfl) (by kernel_rfl) (.cons (getI_ob (f := eB) h833) (.cons h834 (.cons (bnt (vf h835)) (.cons (G_slices_Contains_int_int_ok n v_z696 v_y653.fWhat _ h836) (.cons h837 (.cons (G_slices_Contains_int_int_ok n v_z695 v_y653.fWho _ h838) .nil)))))) q
      · rw [if_neg h837] at h
        cases h
        exact pkk_sound TTok mix hF 1 (hs := [.y (eB v_y700), .c, .t true, .c, .c, .c, .t true, .c, .c, .c, .c, .c, .r (eB v_r701), .t false, .c, .c, .c, .c]) (ts := []) (s := [0, 1, 2, 3, 4]) (l := [4, 5, 9, 11, 12, 13, 15, 16, 18, 98, 99, 100, 181]) (by kernel_rfl) (by kernel_rfl) (.cons (getI_ob (f := eB) h833) (.cons h834 (.cons (bnt (vf h835)) (.cons (G_slices_Contains_int_int_ok n v_z696 v_y653.fWhat _ h836) (.cons (vf h837) .nil))))) q
  · rw [if_neg h834] at h
    cases h
    exact pkk_sound TTok mix hF 1 (hs := [.y (eB v_y700), .c, .t false, .c, .c, .c, .c, .c, .c, .c, .c, .c, .c, .c]) (ts := []) (s := [0, 1, 2, 3, 4]) (l := [4, 5, 9, 11, 12, 13, 15, 16, 18, 98, 99, 100, 181]) (by kernel_rfl) (by kernel_rfl) (.cons (getI_ob (f := eB) h833) (.cons (vf h834) .nil)) q
inductive G_ringlaw5_LabelRuns_C11_R where
  | x0 (v_x736 : Bool) (v_w737 : (List Int)) (v_w738 : (List Int))
def G_ringlaw5_LabelRuns_C11_ex : G_ringlaw5_LabelRuns_C11_R → Ex
  | .x0 _ _ _ => .normal
def G_ringlaw5_LabelRuns_C11_st (v_r93 : ((List Bool) × Int)) (v_r406 : ((List Int) × (List Int) × Int)) (v_x505 : Int) (v_acts3 : (List S_label_Act)) (v_who1 : (List S_label_Label)) (v_what2 : (List S_label_Label)) (v_z725 : (List Int)) (v_z726 : (List Int)) (v_y653 : S_label_Act) : G_ringlaw5_LabelRuns_C11_R → PS
  | .x0 v_x736 v_w737 v_w738 => ⟨[dd, dd, dd, dd, .ref 0 0, .ref 1 0, dd, dd, dd, .d (.sl (v_r93.1.map eB)), dd, .d (.sl (v_r406.1.map (eI .i64))), .d (.sl (v_r406.2.1.map (eI .i64))), .d (.v (.int .i64 v_r406.2.2)), dd, .srf 2, .srf 3, .d (.v (.int .i64 v_x505)), .ref 4 0, dd, dd, dd, dd, dd, dd, dd, dd, dd, dd, dd, dd, dd, dd, dd, dd, dd, dd, dd, dd, dd, dd, dd, dd, dd, dd, dd, dd, dd, dd, dd, dd, dd, dd, dd, dd, dd, dd, dd, dd, dd, dd, dd, dd, dd, dd, dd, dd, dd, dd, dd, dd, dd, dd, dd, dd, dd, dd, dd, dd, dd, dd, dd, dd, dd, dd, dd, dd, dd, dd, dd, dd, dd, dd, dd, dd, dd, dd, dd, .d (.sl (v_acts3.map eS_label_Act)), .d (.v (.int .i64 (v_acts3.length : Int))), .d (.v (.int .i64 v_x505)), dd, dd, dd, dd, dd, dd, dd, dd, dd, dd, dd, dd, dd, dd, dd, dd, dd, dd, dd, dd, dd, dd, dd, dd, dd, dd, dd, dd, dd, dd, dd, dd, dd, dd, dd, dd, dd, dd, dd, dd, dd, dd, dd, dd, dd, dd, dd, dd, dd, dd, dd, dd, dd, .d (.v (.bool v_x736)), dd, dd, dd, dd, dd, dd, dd, dd, dd, dd, dd, dd, dd, dd, dd, dd, dd, dd, dd, dd, dd, dd, dd, dd, dd, dd, dd, dd, dd, dd, dd, dd, dd, dd, dd, dd, dd, dd, dd, dd, dd, dd, dd, dd, dd, dd, dd, dd, dd, dd, dd, dd, dd, dd, dd, dd, dd, dd, dd, dd, dd, dd], [.box [.d (.sl (v_who1.map eS_label_Label))], .box [.d (.sl (v_what2.map eS_label_Label))], .row 3 1 (v_w737.map (eI .i64)), .row 3 1 (v_w738.map (eI .i64)), .box [.d (.v (.int .i64 v_y653.fWho)), .d (.v (.int .i64 v_y653.fWhat)), .d (.v (.bool v_y653.fWrite))]]⟩
def G_ringlaw5_LabelRuns_C11_hd (v_r93 : ((List Bool) × Int)) (v_r406 : ((List Int) × (List Int) × Int)) (v_x505 : Int) (v_acts3 : (List S_label_Act)) (v_who1 : (List S_label_Label)) (v_what2 : (List S_label_Label)) (v_z725 : (List Int)) (v_z726 : (List Int)) (v_y653 : S_label_Act)  : PS := ⟨[dd, dd, dd, dd, .ref 0 0, .ref 1 0, dd, dd, dd, .d (.sl (v_r93.1.map eB)), dd, .d (.sl (v_r406.1.map (eI .i64))), .d (.sl (v_r406.2.1.map (eI .i64))), .d (.v (.int .i64 v_r406.2.2)), dd, .srf 2, .srf 3, .d (.v (.int .i64 v_x505)), .ref 4 0, dd, dd, dd, dd, dd, dd, dd, dd, dd, dd, dd, dd, dd, dd, dd, dd, dd, dd, dd, dd, dd, dd, dd, dd, dd, dd, dd, dd, dd, dd, dd, dd, dd, dd, dd, dd, dd, dd, dd, dd, dd, dd, dd, dd, dd, dd, dd, dd, dd, dd, dd, dd, dd, dd, dd, dd, dd, dd, dd, dd, dd, dd, dd, dd, dd, dd, dd, dd, dd, dd, dd, dd, dd, dd, dd, dd, dd, dd, dd, .d (.sl (v_acts3.map eS_label_Act)), .d (.v (.int .i64 (v_acts3.length : Int))), .d (.v (.int .i64 v_x505)), dd, dd, dd, dd, dd, dd, dd, dd, dd, dd, dd, dd, dd, dd, dd, dd, dd, dd, dd, dd, dd, dd, dd, dd, dd, dd, dd, dd, dd, dd, dd, dd, dd, dd, dd, dd, dd, dd, dd, dd, dd, dd, dd, dd, dd, dd, dd, dd, dd, dd, dd, dd, dd, dd, dd, dd, dd, dd, dd, dd, dd, dd, dd, dd, dd, dd, dd, dd, dd, dd, dd, dd, dd, dd, dd, dd, dd, dd, dd, dd, dd, dd, dd, dd, dd, dd, dd, dd, dd, dd, dd, dd, dd, dd, dd, dd, dd, dd, dd, dd, dd, dd, dd, dd, dd, dd, dd, dd, dd, dd, dd, dd, dd, dd, dd, dd], [.box [.d (.sl (v_who1.map eS_label_Label))], .box [.d (.sl (v_what2.map eS_label_Label))], .row 3 1 (v_z725.map (eI .i64)), .row 3 1 (v_z726.map (eI .i64)), .box [.d (.v (.int .i64 v_y653.fWho)), .d (.v (.int .i64 v_y653.fWhat)), .d (.v (.bool v_y653.fWrite))]]⟩
def G_ringlaw5_LabelRuns_C11 (n : Nat) (v_r93 : ((List Bool) × Int)) (v_r406 : ((List Int) × (List Int) × Int)) (v_x505 : Int) (v_acts3 : (List S_label_Act)) (v_who1 : (List S_label_Label)) (v_what2 : (List S_label_Label)) (v_z725 : (List Int)) (v_z726 : (List Int)) (v_y653 : S_label_Act) : Option G_ringlaw5_LabelRuns_C11_R :=
  (getI v_r93.1 v_x505).bind fun (v_y733 : Bool) =>
  if v_y733 = true then
   if v_y653.fWrite = true then
    (G_slices_Contains_int_int n v_z725 v_y653.fWho).bind fun (v_r734 : (Bool)) =>
    if v_r734 = true then
     (G_slices_Contains_int_int n v_z726 v_y653.fWhat).bind fun (v_r735 : (Bool)) =>
     some (.x0 (!v_r735) v_z725 v_z726)
    else
     some (.x0 false v_z725 v_z726)
   else
    some (.x0 false v_z725 v_z726)
  else
   some (.x0 false v_z725 v_z726)
theorem G_ringlaw5_LabelRuns_C11_ok {Fi : Ex → PS → Prop} (hF : KC 217 Fi) (ks : List Fr) (n : Nat) (v_r93 : ((List Bool) × Int)) (v_r406 : ((List Int) × (List Int) × Int)) (v_x505 : Int) (v_acts3 : (List S_label_Act)) (v_who1 : (List S_label_Label)) (v_what2 : (List S_label_Label)) (v_z725 : (List Int)) (v_z726 : (List Int)) (v_y653 : S_label_Act)  (o : G_ringlaw5_LabelRuns_C11_R) (h : G_ringlaw5_LabelRuns_C11 n v_r93 v_r406 v_x505 v_acts3 v_who1 v_what2 v_z725 v_z726 v_y653 = some o) (q : RunE Try.prog 217 Fi ks (G_ringlaw5_LabelRuns_C11_ex o) (G_ringlaw5_LabelRuns_C11_st v_r93 v_r406 v_x505 v_acts3 v_who1 v_what2 v_z725 v_z726 v_y653 o)) : RunE Try.prog 217 Fi (.s (cL (cL (cR (cR (cR (cR (cB (cL (cR (cR (cP (cB (cR (cL (cR (cR (cR (cR (cR (cR (cR (cR (cR (bodyOf Try.f5)))))))))))))))))))))))) :: ks) .normal (G_ringlaw5_LabelRuns_C11_hd v_r93 v_r406 v_x505 v_acts3 v_who1 v_what2 v_z725 v_z726 v_y653) := by
  unfold G_ringlaw5_LabelRuns_C11 at h
  obtain ⟨v_y733, h853, h⟩ := bind_some h
  by_cases h854 : v_y733 = true
  · rw [if_pos h854] at h
    by_cases h855 : v_y653.fWrite = true
    · rw [if_pos h855] at h
      obtain ⟨v_r734, h856, h⟩ := bind_some h
      by_cases h857 : v_r734 = true
      · rw [if_pos h857] at h
        obtain ⟨v_r735, h858, h⟩ := bind_some h
        cases h
        exact pkk_sound TTok mix hF 1 (hs := [.y (eB v_y733), .c, .t true, .c, .c, .t true, .c, .c, .c, .c, .c, .r (eB v_r734), .t true, .c, .c, .c, .c, .c, .r (eB v_r735), .c]) (ts := []) (s := [0, 1, 2, 3, 4]) (l := [4, 5, 9, 11, 12, 13, 15, 16, 17, 18, 98, 99, 100, 154]) (by kernel_rfl) (by kernel_rfl) (.cons (getI_ob (f := eB) h853) (.cons h854 (.cons h855 (.cons (G_slices_Contains_int_int_ok n v_z725 v_y653.fWho _ h856) (.cons h857 (.cons (G_slices_Contains_int_int_ok n v_z726 v_y653.fWhat _ h858) .nil)))))) q
      · rw [if_neg h857] at h
        cases h
        exact pkk_sound TTok mix hF 1 (hs := [.y (eB v_y733), .c, .t true, .c, .c, .t true, .c, .c, .c, .c, .c, .r (eB v_r734), .t false, .c, .c, .c, .c]) (ts := []) (s := [0, 1, 2, 3, 4]) (l := [4, 5, 9, 11, 12, 13, 15, 16, 17, 18, 98, 99, 100, 154]) (by kernel_rfl) (by kernel_rfl) (.cons (getI_ob (f := eB) h853) (.cons h854 (.cons h855 (.cons (G_slices_Contains_int_int_ok n v_z725 v_y653.fWho _ h856) (.cons (vf h857) .nil))))) q
    · rw [if_neg h855] at h
      cases h
      exact pkk_sound TTok mix hF 1 (hs := [.y (eB v_y733), .c, .t true, .c, .c, .t false, .c, .c, .c, .c, .c, .c, .c, .c]) (ts := []) (s := [0, 1, 2, 3, 4]) (l := [4, 5, 9, 11, 12, 13, 15, 16, 17, 18, 98, 99, 100, 154]) (by kernel_rfl) (by kernel_rfl) (.cons (getI_ob (f := eB) h853) (.cons h854 (.cons (vf h855) .nil))) q
  · rw [if_neg h854] at h
    cases h
    exact pkk_sound TTok mix hF 1 (hs := [.y (eB v_y733), .c, .t false, .c, .c, .c, .c, .c, .c, .c, .c, .c, .c]) (ts := []) (s := [0, 1, 2, 3, 4]) (l := [4, 5, 9, 11, 12, 13, 15, 16, 17, 18, 98, 99, 100, 154]) (by kernel_rfl) (by kernel_rfl) (.cons (getI_ob (f := eB) h853) (.cons (vf h854) .nil)) q
inductive G_ringlaw5_LabelRuns_C12_R where
  | x0 (v_w754 : (List Int)) (v_w755 : (List Int))
def G_ringlaw5_LabelRuns_C12_ex : G_ringlaw5_LabelRuns_C12_R → Ex
  | .x0 _ _ => .normal
def G_ringlaw5_LabelRuns_C12_st (v_r93 : ((List Bool) × Int)) (v_r406 : ((List Int) × (List Int) × Int)) (v_x505 : Int) (v_acts3 : (List S_label_Act)) (v_z749 : Bool) (v_who1 : (List S_label_Label)) (v_what2 : (List S_label_Label)) (v_z750 : (List Int)) (v_z751 : (List Int)) (v_y653 : S_label_Act) : G_ringlaw5_LabelRuns_C12_R → PS
  | .x0 v_w754 v_w755 => ⟨[dd, dd, dd, dd, .ref 0 0, .ref 1 0, dd, dd, dd, .d (.sl (v_r93.1.map eB)), dd, .d (.sl (v_r406.1.map (eI .i64))), .d (.sl (v_r406.2.1.map (eI .i64))), .d (.v (.int .i64 v_r406.2.2)), dd, .srf 2, .srf 3, .d (.v (.int .i64 v_x505)), .ref 4 0, dd, dd, dd, dd, dd, dd, dd, dd, dd, dd, dd, dd, dd, dd, dd, dd, dd, dd, dd, dd, dd, dd, dd, dd, dd, dd, dd, dd, dd, dd, dd, dd, dd, dd, dd, dd, dd, dd, dd, dd, dd, dd, dd, dd, dd, dd, dd, dd, dd, dd, dd, dd, dd, dd, dd, dd, dd, dd, dd, dd, dd, dd, dd, dd, dd, dd, dd, dd, dd, dd, dd, dd, dd, dd, dd, dd, dd, dd, dd, .d (.sl (v_acts3.map eS_label_Act)), .d (.v (.int .i64 (v_acts3.length : Int))), .d (.v (.int .i64 v_x505)), dd, dd, dd, dd, dd, dd, dd, dd, dd, dd, dd, dd, dd, dd, dd, dd, dd, dd, dd, dd, dd, dd, dd, dd, dd, dd, dd, dd, dd, dd, dd, dd, dd, dd, dd, dd, dd, dd, dd, dd, dd, dd, dd, dd, dd, dd, dd, dd, dd, dd, dd, dd, dd, dd, dd, dd, dd, dd, dd, dd, dd, dd, dd, dd, dd, dd, dd, dd, dd, dd, dd, dd, dd, dd, dd, dd, dd, dd, dd, dd, dd, dd, dd, dd, dd, dd, dd, dd, dd, dd, dd, dd, dd, dd, dd, dd, dd, dd, dd, dd, dd, dd, dd, dd, dd, dd, dd, dd, dd, dd, dd, dd, dd, dd, dd, dd], [.box [.d (.sl (v_who1.map eS_label_Label))], .box [.d (.sl (v_what2.map eS_label_Label))], .row 3 1 (v_w754.map (eI .i64)), .row 3 1 (v_w755.map (eI .i64)), .box [.d (.v (.int .i64 v_y653.fWho)), .d (.v (.int .i64 v_y653.fWhat)), .d (.v (.bool v_y653.fWrite))]]⟩
def G_ringlaw5_LabelRuns_C12_hd (v_r93 : ((List Bool) × Int)) (v_r406 : ((List Int) × (List Int) × Int)) (v_x505 : Int) (v_acts3 : (List S_label_Act)) (v_z749 : Bool) (v_who1 : (List S_label_Label)) (v_what2 : (List S_label_Label)) (v_z750 : (List Int)) (v_z751 : (List Int)) (v_y653 : S_label_Act)  : PS := ⟨[dd, dd, dd, dd, .ref 0 0, .ref 1 0, dd, dd, dd, .d (.sl (v_r93.1.map eB)), dd, .d (.sl (v_r406.1.map (eI .i64))), .d (.sl (v_r406.2.1.map (eI .i64))), .d (.v (.int .i64 v_r406.2.2)), dd, .srf 2, .srf 3, .d (.v (.int .i64 v_x505)), .ref 4 0, dd, dd, dd, dd, dd, dd, dd, dd, dd, dd, dd, dd, dd, dd, dd, dd, dd, dd, dd, dd, dd, dd, dd, dd, dd, dd, dd, dd, dd, dd, dd, dd, dd, dd, dd, dd, dd, dd, dd, dd, dd, dd, dd, dd, dd, dd, dd, dd, dd, dd, dd, dd, dd, dd, dd, dd, dd, dd, dd, dd, dd, dd, dd, dd, dd, dd, dd, dd, dd, dd, dd, dd, dd, dd, dd, dd, dd, dd, dd, .d (.sl (v_acts3.map eS_label_Act)), .d (.v (.int .i64 (v_acts3.length : Int))), .d (.v (.int .i64 v_x505)), dd, dd, dd, dd, dd, dd, dd, dd, dd, dd, dd, dd, dd, dd, dd, dd, dd, dd, dd, dd, dd, dd, dd, dd, dd, dd, dd, dd, dd, dd, dd, dd, dd, dd, dd, dd, dd, dd, dd, dd, dd, dd, dd, dd, dd, dd, dd, dd, dd, dd, dd, dd, dd, .d (.v (.bool v_z749)), dd, dd, dd, dd, dd, dd, dd, dd, dd, dd, dd, dd, dd, dd, dd, dd, dd, dd, dd, dd, dd, dd, dd, dd, dd, dd, dd, dd, dd, dd, dd, dd, dd, dd, dd, dd, dd, dd, dd, dd, dd, dd, dd, dd, dd, dd, dd, dd, dd, dd, dd, dd, dd, dd, dd, dd, dd, dd, dd, dd, dd, dd], [.box [.d (.sl (v_who1.map eS_label_Label))], .box [.d (.sl (v_what2.map eS_label_Label))], .row 3 1 (v_z750.map (eI .i64)), .row 3 1 (v_z751.map (eI .i64)), .box [.d (.v (.int .i64 v_y653.fWho)), .d (.v (.int .i64 v_y653.fWhat)), .d (.v (.bool v_y653.fWrite))]]⟩
def G_ringlaw5_LabelRuns_C12 (n : Nat) (v_r93 : ((List Bool) × Int)) (v_r406 : ((List Int) × (List Int) × Int)) (v_x505 : Int) (v_acts3 : (List S_label_Act)) (v_z749 : Bool) (v_who1 : (List S_label_Label)) (v_what2 : (List S_label_Label)) (v_z750 : (List Int)) (v_z751 : (List Int)) (v_y653 : S_label_Act) : Option G_ringlaw5_LabelRuns_C12_R :=
  if v_z749 = true then
   (app 8 v_z751 ([v_y653.fWhat])).bind fun (v_a753 : (List Int)) =>
   some (.x0 v_z750 v_a753)
  else
   some (.x0 v_z750 v_z751)
theorem G_ringlaw5_LabelRuns_C12_ok {Fi : Ex → PS → Prop} (hF : KC 217 Fi) (ks : List Fr) (n : Nat) (v_r93 : ((List Bool) × Int)) (v_r406 : ((List Int) × (List Int) × Int)) (v_x505 : Int) (v_acts3 : (List S_label_Act)) (v_z749 : Bool) (v_who1 : (List S_label_Label)) (v_what2 : (List S_label_Label)) (v_z750 : (List Int)) (v_z751 : (List Int)) (v_y653 : S_label_Act)  (o : G_ringlaw5_LabelRuns_C12_R) (h : G_ringlaw5_LabelRuns_C12 n v_r93 v_r406 v_x505 v_acts3 v_z749 v_who1 v_what2 v_z750 v_z751 v_y653 = some o) (q : RunE Try.prog 217 Fi ks (G_ringlaw5_LabelRuns_C12_ex o) (G_ringlaw5_LabelRuns_C12_st v_r93 v_r406 v_x505 v_acts3 v_z749 v_who1 v_what2 v_z750 v_z751 v_y653 o)) : RunE Try.prog 217 Fi (.s (cR (cL (cR (cR (cR (cR (cB (cL (cR (cR (cP (cB (cR (cL (cR (cR (cR (cR (cR (cR (cR (cR (cR (bodyOf Try.f5)))))))))))))))))))))))) :: ks) .normal (G_ringlaw5_LabelRuns_C12_hd v_r93 v_r406 v_x505 v_acts3 v_z749 v_who1 v_what2 v_z750 v_z751 v_y653) := by
  unfold G_ringlaw5_LabelRuns_C12 at h
  by_cases h862 : v_z749 = true
  · rw [if_pos h862] at h
    obtain ⟨v_a753, h863, h⟩ := bind_some h
    cases h
    exact pkk_sound TTok mix hF 2 (hs := [.t true, .c, .bd, .w (v_a753.map (eI .i64))]) (ts := []) (s := [0, 1, 2, 17, 4]) (l := [4, 5, 9, 11, 12, 13, 15, 16, 17, 18, 98, 99, 100]) (by kernel_rfl) (by kernel_rfl) (.cons h862 (.cons (app_ob (f := (eI .i64)) (s := 1) h863 (fun _ => rfl)).1 (.cons (app_ob (f := (eI .i64)) (s := 1) h863 (fun _ => rfl)).2.1 (.cons (app_ob (f := (eI .i64)) (s := 1) h863 (fun _ => rfl)).2.2.1 (.cons (app_ob (f := (eI .i64)) (s := 1) h863 (fun _ => rfl)).2.2.2 .nil))))) q
  · rw [if_neg h862] at h
    cases h
    exact pkk_sound TTok mix hF 2 (hs := [.t false]) (ts := []) (s := [0, 1, 2, 3, 4]) (l := [4, 5, 9, 11, 12, 13, 15, 16, 17, 18, 98, 99, 100]) (by kernel_rfl) (by kernel_rfl) (.cons (vf h862) .nil) q
inductive G_ringlaw5_LabelRuns_C13_R where
  | x0 (v_x767 : Bool) (v_w768 : (List Int)) (v_w769 : (List Int))
def G_ringlaw5_LabelRuns_C13_ex : G_ringlaw5_LabelRuns_C13_R → Ex
  | .x0 _ _ _ => .normal
def G_ringlaw5_LabelRuns_C13_st (v_r93 : ((List Bool) × Int)) (v_r406 : ((List Int) × (List Int) × Int)) (v_x505 : Int) (v_acts3 : (List S_label_Act)) (v_who1 : (List S_label_Label)) (v_what2 : (List S_label_Label)) (v_z759 : (List Int)) (v_z760 : (List Int)) (v_y653 : S_label_Act) : G_ringlaw5_LabelRuns_C13_R → PS
  | .x0 v_x767 v_w768 v_w769 => ⟨[dd, dd, dd, dd, .ref 0 0, .ref 1 0, dd, dd, dd, .d (.sl (v_r93.1.map eB)), dd, .d (.sl (v_r406.1.map (eI .i64))), .d (.sl (v_r406.2.1.map (eI .i64))), .d (.v (.int .i64 v_r406.2.2)), dd, .srf 2, .srf 3, dd, .ref 4 0, dd, dd, dd, dd, dd, dd, dd, dd, dd, dd, dd, dd, dd, dd, dd, dd, dd, dd, dd, dd, dd, dd, dd, dd, dd, dd, dd, dd, dd, dd, dd, dd, dd, dd, dd, dd, dd, dd, dd, dd, dd, dd, dd, dd, dd, dd, dd, dd, dd, dd, dd, dd, dd, dd, dd, dd, dd, dd, dd, dd, dd, dd, dd, dd, dd, dd, dd, dd, dd, dd, dd, dd, dd, dd, dd, dd, dd, dd, dd, .d (.sl (v_acts3.map eS_label_Act)), .d (.v (.int .i64 (v_acts3.length : Int))), .d (.v (.int .i64 v_x505)), dd, dd, dd, dd, dd, dd, dd, dd, dd, dd, dd, dd, dd, dd, dd, dd, dd, dd, dd, dd, dd, dd, dd, dd, dd, dd, dd, dd, dd, dd, dd, dd, dd, dd, dd, dd, dd, dd, dd, dd, dd, dd, dd, dd, dd, dd, dd, dd, dd, dd, dd, dd, dd, dd, dd, dd, dd, dd, dd, dd, dd, dd, dd, dd, dd, dd, dd, dd, dd, dd, dd, dd, dd, dd, dd, dd, dd, dd, dd, dd, .d (.v (.bool v_x767)), dd, dd, dd, dd, dd, dd, dd, dd, dd, dd, dd, dd, dd, dd, dd, dd, dd, dd, dd, dd, dd, dd, dd, dd, dd, dd, dd, dd, dd, dd, dd, dd, dd, dd, dd], [.box [.d (.sl (v_who1.map eS_label_Label))], .box [.d (.sl (v_what2.map eS_label_Label))], .row 3 1 (v_w768.map (eI .i64)), .row 3 1 (v_w769.map (eI .i64)), .box [.d (.v (.int .i64 v_y653.fWho)), .d (.v (.int .i64 v_y653.fWhat)), .d (.v (.bool v_y653.fWrite))]]⟩
def G_ringlaw5_LabelRuns_C13_hd (v_r93 : ((List Bool) × Int)) (v_r406 : ((List Int) × (List Int) × Int)) (v_x505 : Int) (v_acts3 : (List S_label_Act)) (v_who1 : (List S_label_Label)) (v_what2 : (List S_label_Label)) (v_z759 : (List Int)) (v_z760 : (List Int)) (v_y653 : S_label_Act)  : PS := ⟨[dd, dd, dd, dd, .ref 0 0, .ref 1 0, dd, dd, dd, .d (.sl (v_r93.1.map eB)), dd, .d (.sl (v_r406.1.map (eI .i64))), .d (.sl (v_r406.2.1.map (eI .i64))), .d (.v (.int .i64 v_r406.2.2)), dd, .srf 2, .srf 3, .d (.v (.int .i64 v_x505)), .ref 4 0, dd, dd, dd, dd, dd, dd, dd, dd, dd, dd, dd, dd, dd, dd, dd, dd, dd, dd, dd, dd, dd, dd, dd, dd, dd, dd, dd, dd, dd, dd, dd, dd, dd, dd, dd, dd, dd, dd, dd, dd, dd, dd, dd, dd, dd, dd, dd, dd, dd, dd, dd, dd, dd, dd, dd, dd, dd, dd, dd, dd, dd, dd, dd, dd, dd, dd, dd, dd, dd, dd, dd, dd, dd, dd, dd, dd, dd, dd, dd, .d (.sl (v_acts3.map eS_label_Act)), .d (.v (.int .i64 (v_acts3.length : Int))), .d (.v (.int .i64 v_x505)), dd, dd, dd, dd, dd, dd, dd, dd, dd, dd, dd, dd, dd, dd, dd, dd, dd, dd, dd, dd, dd, dd, dd, dd, dd, dd, dd, dd, dd, dd, dd, dd, dd, dd, dd, dd, dd, dd, dd, dd, dd, dd, dd, dd, dd, dd, dd, dd, dd, dd, dd, dd, dd, dd, dd, dd, dd, dd, dd, dd, dd, dd, dd, dd, dd, dd, dd, dd, dd, dd, dd, dd, dd, dd, dd, dd, dd, dd, dd, dd, dd, dd, dd, dd, dd, dd, dd, dd, dd, dd, dd, dd, dd, dd, dd, dd, dd, dd, dd, dd, dd, dd, dd, dd, dd, dd, dd, dd, dd, dd, dd, dd, dd, dd, dd, dd], [.box [.d (.sl (v_who1.map eS_label_Label))], .box [.d (.sl (v_what2.map eS_label_Label))], .row 3 1 (v_z759.map (eI .i64)), .row 3 1 (v_z760.map (eI .i64)), .box [.d (.v (.int .i64 v_y653.fWho)), .d (.v (.int .i64 v_y653.fWhat)), .d (.v (.bool v_y653.fWrite))]]⟩
def G_ringlaw5_LabelRuns_C13 (n : Nat) (v_r93 : ((List Bool) × Int)) (v_r406 : ((List Int) × (List Int) × Int)) (v_x505 : Int) (v_acts3 : (List S_label_Act)) (v_who1 : (List S_label_Label)) (v_what2 : (List S_label_Label)) (v_z759 : (List Int)) (v_z760 : (List Int)) (v_y653 : S_label_Act) : Option G_ringlaw5_LabelRuns_C13_R :=
  (getI v_r93.1 v_x505).bind fun (v_y764 : Bool) =>
  if v_y764 = true then
   if v_y653.fWrite = true then
    some (.x0 false v_z759 v_z760)
   else
    (G_slices_Contains_int_int n v_z760 v_y653.fWhat).bind fun (v_r765 : (Bool)) =>
    if v_r765 = true then
     (G_slices_Contains_int_int n v_z759 v_y653.fWho).bind fun (v_r766 : (Bool)) =>
     some (.x0 (!v_r766) v_z759 v_z760)
    else
     some (.x0 false v_z759 v_z760)
  else
   some (.x0 false v_z759 v_z760)
theorem G_ringlaw5_LabelRuns_C13_ok {Fi : Ex → PS → Prop} (hF : KC 217 Fi) (ks : List Fr) (n : Nat) (v_r93 : ((List Bool) × Int)) (v_r406 : ((List Int) × (List Int) × Int)) (v_x505 : Int) (v_acts3 : (List S_label_Act)) (v_who1 : (List S_label_Label)) (v_what2 : (List S_label_Label)) (v_z759 : (List Int)) (v_z760 : (List Int)) (v_y653 : S_label_Act)  (o : G_ringlaw5_LabelRuns_C13_R) (h : G_ringlaw5_LabelRuns_C13 n v_r93 v_r406 v_x505 v_acts3 v_who1 v_what2 v_z759 v_z760 v_y653 = some o) (q : RunE Try.prog 217 Fi ks (G_ringlaw5_LabelRuns_C13_ex o) (G_ringlaw5_LabelRuns_C13_st v_r93 v_r406 v_x505 v_acts3 v_who1 v_what2 v_z759 v_z760 v_y653 o)) : RunE Try.prog 217 Fi (.s (cL (cR (cR (cR (cR (cR (cB (cL (cR (cR (cP (cB (cR (cL (cR (cR (cR (cR (cR (cR (cR (cR (cR (bodyOf Try.f5)))))))))))))))))))))))) :: ks) .normal (G_ringlaw5_LabelRuns_C13_hd v_r93 v_r406 v_x505 v_acts3 v_who1 v_what2 v_z759 v_z760 v_y653) := by
  unfold G_ringlaw5_LabelRuns_C13 at h
  obtain ⟨v_y764, h871, h⟩ := bind_some h
  by_cases h872 : v_y764 = true
  · rw [if_pos h872] at h
    by_cases h873 : v_y653.fWrite = true
    · rw [if_pos h873] at h
      cases h
      exact pkk_sound TTok mix hF 1 (hs := [.y (eB v_y764), .c, .t true, .c, .c, .c, .t false, .c, .c, .c, .c, .c, .c, .c, .c]) (ts := []) (s := [0, 1, 2, 3, 4]) (l := [4, 5, 9, 11, 12, 13, 15, 16, 18, 98, 99, 100, 181]) (by kernel_rfl) (by kernel_rfl) (.cons (getI_ob (f := eB) h871) (.cons h872 (.cons (bnf h873) .nil))) q
    · rw [if_neg h873] at h
      obtain ⟨v_r765, h874, h⟩ := bind_some h
      by_cases h875 : v_r765 = true
      · rw [if_pos h875] at h
        obtain ⟨v_r766, h876, h⟩ := bind_some h
        cases h
        exact pkk_sound TTok mix hF 1 (hs := [.y (eB v_y764), .c, .t true, .c, .c, .c, .t true, .c, .c, .c, .c, .c, .r (eB v_r765), .t true, .c, .c, .c, .c, .c, .r (eB v_r766), .c]) (ts := []) (s := [0, 1, 2, 3, 4]) (l := [4, 5, 9, 11, 12, 13, 15, 16, 18, 98, 99, 100, 181]) (by kernel_rfl) (by kernel_rfl) (.cons (getI_ob (f := eB) h871) (.cons h872 (.cons (bnt (vf h873)) (.cons (G_slices_Contains_int_int_ok n v_z760 v_y653.fWhat _ h874) (.cons h875 (.cons (G_slices_Contains_int_int_ok n v_z759 v_y653.fWho _ h876) .nil)))))) q
      · rw [if_neg h875] at h
        cases h
        exact pkk_sound TTok mix hF 1 (hs := [.y (eB v_y764), .c, .t true, .c, .c, .c, .t true, .c, .c, .c, .c, .c, .r (eB v_r765), .t false, .c, .c, .c, .c]) (ts := []) (s := [0, 1, 2, 3, 4]) (l := [4, 5, 9, 11, 12, 13, 15, 16, 18, 98, 99, 100, 181]) (by kernel_rfl) (by kernel_rfl) (.cons (getI_ob (f := eB) h871) (.cons h872 (.cons (bnt (vf h873)) (.cons (G_slices_Contains_int_int_ok n v_z760 v_y653.fWhat _ h874) (.cons (vf h875) .nil))))) q
  · rw [if_neg h872] at h
    cases h
    exact pkk_sound TTok mix hF 1 (hs := [.y (eB v_y764), .c, .t false, .c, .c, .c, .c, .c, .c, .c, .c, .c, .c, .c]) (ts := []) (s := [0, 1, 2, 3, 4]) (l := [4, 5, 9, 11, 12, 13, 15, 16, 18, 98, 99, 100, 181]) (by kernel_rfl) (by kernel_rfl) (.cons (getI_ob (f := eB) h871) (.cons (vf h872) .nil)) q
inductive G_ringlaw5_LabelRuns_C14_R where
  | x0 (v_x665 : Bool)
  | x1 (v_w721 : (List Int)) (v_w722 : (List Int))
def G_ringlaw5_LabelRuns_C14_ex : G_ringlaw5_LabelRuns_C14_R → Ex
  | .x0 _ => .ret
  | .x1 _ _ => .normal
def G_ringlaw5_LabelRuns_C14_st (v_r93 : ((List Bool) × Int)) (v_r406 : ((List Int) × (List Int) × Int)) (v_acts3 : (List S_label_Act)) (v_x505 : Int) (v_who1 : (List S_label_Label)) (v_what2 : (List S_label_Label)) (v_w506 : (List Int)) (v_w507 : (List Int)) : G_ringlaw5_LabelRuns_C14_R → PS
  | .x0 v_x665 => ⟨[dd, dd, dd, dd, dd, dd, dd, dd, .d (.v (.bool v_x665)), dd, dd, dd, dd, dd, dd, dd, dd, dd, dd, dd, dd, dd, dd, dd, dd, dd, dd, dd, dd, dd, dd, dd, dd, dd, dd, dd, dd, dd, dd, dd, dd, dd, dd, dd, dd, dd, dd, dd, dd, dd, dd, dd, dd, dd, dd, dd, dd, dd, dd, dd, dd, dd, dd, dd, dd, dd, dd, dd, dd, dd, dd, dd, dd, dd, dd, dd, dd, dd, dd, dd, dd, dd, dd, dd, dd, dd, dd, dd, dd, dd, dd, dd, dd, dd, dd, dd, dd, dd, dd, dd, dd, dd, dd, dd, dd, dd, dd, dd, dd, dd, dd, dd, dd, dd, dd, dd, dd, dd, dd, dd, dd, dd, dd, dd, dd, dd, dd, dd, dd, dd, dd, dd, dd, dd, dd, dd, dd, dd, dd, dd, dd, dd, dd, dd, dd, dd, dd, dd, dd, dd, dd, dd, dd, dd, dd, dd, dd, dd, dd, dd, dd, dd, dd, dd, dd, dd, dd, dd, dd, dd, dd, dd, dd, dd, dd, dd, dd, dd, dd, dd, dd, dd, dd, dd, dd, dd, dd, dd, dd, dd, dd, dd, dd, dd, dd, dd, dd, dd, dd, dd, dd, dd, dd, dd, dd, dd, dd, dd, dd, dd, dd, dd, dd, dd, dd, dd, dd], []⟩
  | .x1 v_w721 v_w722 => ⟨[dd, dd, dd, dd, .ref 0 0, .ref 1 0, dd, dd, dd, .d (.sl (v_r93.1.map eB)), dd, .d (.sl (v_r406.1.map (eI .i64))), .d (.sl (v_r406.2.1.map (eI .i64))), .d (.v (.int .i64 v_r406.2.2)), dd, .srf 2, .srf 3, dd, dd, dd, dd, dd, dd, dd, dd, dd, dd, dd, dd, dd, dd, dd, dd, dd, dd, dd, dd, dd, dd, dd, dd, dd, dd, dd, dd, dd, dd, dd, dd, dd, dd, dd, dd, dd, dd, dd, dd, dd, dd, dd, dd, dd, dd, dd, dd, dd, dd, dd, dd, dd, dd, dd, dd, dd, dd, dd, dd, dd, dd, dd, dd, dd, dd, dd, dd, dd, dd, dd, dd, dd, dd, dd, dd, dd, dd, dd, dd, dd, .d (.sl (v_acts3.map eS_label_Act)), .d (.v (.int .i64 (v_acts3.length : Int))), .d (.v (.int .i64 v_x505)), dd, dd, dd, dd, dd, dd, dd, dd, dd, dd, dd, dd, dd, dd, dd, dd, dd, dd, dd, dd, dd, dd, dd, dd, dd, dd, dd, dd, dd, dd, dd, dd, dd, dd, dd, dd, dd, dd, dd, dd, dd, dd, dd, dd, dd, dd, dd, dd, dd, dd, dd, dd, dd, dd, dd, dd, dd, dd, dd, dd, dd, dd, dd, dd, dd, dd, dd, dd, dd, dd, dd, dd, dd, dd, dd, dd, dd, dd, dd, dd, dd, dd, dd, dd, dd, dd, dd, dd, dd, dd, dd, dd, dd, dd, dd, dd, dd, dd, dd, dd, dd, dd, dd, dd, dd, dd, dd, dd, dd, dd, dd, dd, dd, dd, dd, dd], [.box [.d (.sl (v_who1.map eS_label_Label))], .box [.d (.sl (v_what2.map eS_label_Label))], .row 3 1 (v_w721.map (eI .i64)), .row 3 1 (v_w722.map (eI .i64))]⟩
def G_ringlaw5_LabelRuns_C14_hd (v_r93 : ((List Bool) × Int)) (v_r406 : ((List Int) × (List Int) × Int)) (v_acts3 : (List S_label_Act)) (v_x505 : Int) (v_who1 : (List S_label_Label)) (v_what2 : (List S_label_Label)) (v_w506 : (List Int)) (v_w507 : (List Int))  : PS := ⟨[dd, dd, dd, dd, .ref 0 0, .ref 1 0, dd, dd, dd, .d (.sl (v_r93.1.map eB)), dd, .d (.sl (v_r406.1.map (eI .i64))), .d (.sl (v_r406.2.1.map (eI .i64))), .d (.v (.int .i64 v_r406.2.2)), dd, .srf 2, .srf 3, dd, dd, dd, dd, dd, dd, dd, dd, dd, dd, dd, dd, dd, dd, dd, dd, dd, dd, dd, dd, dd, dd, dd, dd, dd, dd, dd, dd, dd, dd, dd, dd, dd, dd, dd, dd, dd, dd, dd, dd, dd, dd, dd, dd, dd, dd, dd, dd, dd, dd, dd, dd, dd, dd, dd, dd, dd, dd, dd, dd, dd, dd, dd, dd, dd, dd, dd, dd, dd, dd, dd, dd, dd, dd, dd, dd, dd, dd, dd, dd, dd, .d (.sl (v_acts3.map eS_label_Act)), .d (.v (.int .i64 (v_acts3.length : Int))), .d (.v (.int .i64 v_x505)), dd, dd, dd, dd, dd, dd, dd, dd, dd, dd, dd, dd, dd, dd, dd, dd, dd, dd, dd, dd, dd, dd, dd, dd, dd, dd, dd, dd, dd, dd, dd, dd, dd, dd, dd, dd, dd, dd, dd, dd, dd, dd, dd, dd, dd, dd, dd, dd, dd, dd, dd, dd, dd, dd, dd, dd, dd, dd, dd, dd, dd, dd, dd, dd, dd, dd, dd, dd, dd, dd, dd, dd, dd, dd, dd, dd, dd, dd, dd, dd, dd, dd, dd, dd, dd, dd, dd, dd, dd, dd, dd, dd, dd, dd, dd, dd, dd, dd, dd, dd, dd, dd, dd, dd, dd, dd, dd, dd, dd, dd, dd, dd, dd, dd, dd, dd], [.box [.d (.sl (v_who1.map eS_label_Label))], .box [.d (.sl (v_what2.map eS_label_Label))], .row 3 1 (v_w506.map (eI .i64)), .row 3 1 (v_w507.map (eI .i64))]⟩
def G_ringlaw5_LabelRuns_C14 (n : Nat) (v_r93 : ((List Bool) × Int)) (v_r406 : ((List Int) × (List Int) × Int)) (v_acts3 : (List S_label_Act)) (v_x505 : Int) (v_who1 : (List S_label_Label)) (v_what2 : (List S_label_Label)) (v_w506 : (List Int)) (v_w507 : (List Int)) : Option G_ringlaw5_LabelRuns_C14_R :=
  (getI v_acts3 v_x505).bind fun (v_y653 : S_label_Act) =>
  (getI v_who1 v_y653.fWho).bind fun (v_y654 : S_label_Label) =>
  (getI v_what2 v_y653.fWhat).bind fun (v_y655 : S_label_Label) =>
  (G_ringlaw5_LabelRuns_C7 n v_r93 v_r406 v_x505 v_acts3 v_y653 v_who1 v_what2 v_w506 v_w507 v_y654 v_y655).bind fun v_o660 => match v_o660 with
  | .x0 v_z661 v_z662 =>
    (getI v_r93.1 v_x505).bind fun (v_y663 : Bool) =>
    (G_ringref5_FlowsOf n v_y655.fLevel v_y655.fKind v_y654.fLevel v_y654.fKind).bind fun (v_r664 : (Bool)) =>
    if (eqRes .neq (v_y663 == v_r664)) = true then
     some (.x0 false)
    else
     (G_ringlaw5_LabelRuns_C8 n v_r93 v_r406 v_x505 v_acts3 v_who1 v_what2 v_z661 v_z662 v_y653).bind fun v_o684 => match v_o684 with
     | .x0 v_z685 v_z686 v_z687 =>
       (G_ringlaw5_LabelRuns_C9 n v_r93 v_r406 v_x505 v_acts3 v_z685 v_who1 v_what2 v_z686 v_z687 v_y653).bind fun v_o694 => match v_o694 with
       | .x0 v_z695 v_z696 =>
         (G_ringlaw5_LabelRuns_C10 n v_r93 v_r406 v_x505 v_acts3 v_who1 v_what2 v_z695 v_z696 v_y653).bind fun v_o715 => match v_o715 with
         | .x0 v_z716 v_z717 v_z718 =>
           if v_z716 = true then
            (app 8 v_z717 ([v_y653.fWho])).bind fun (v_a720 : (List Int)) =>
            some (.x1 v_a720 v_z718)
           else
            some (.x1 v_z717 v_z718)
  | .x1 v_z725 v_z726 =>
    (getI v_r93.1 v_x505).bind fun (v_y727 : Bool) =>
    (G_ringref5_FlowsOf n v_y654.fLevel v_y654.fKind v_y655.fLevel v_y655.fKind).bind fun (v_r728 : (Bool)) =>
    if (eqRes .neq (v_y727 == v_r728)) = true then
     some (.x0 false)
    else
     (G_ringlaw5_LabelRuns_C11 n v_r93 v_r406 v_x505 v_acts3 v_who1 v_what2 v_z725 v_z726 v_y653).bind fun v_o748 => match v_o748 with
     | .x0 v_z749 v_z750 v_z751 =>
       (G_ringlaw5_LabelRuns_C12 n v_r93 v_r406 v_x505 v_acts3 v_z749 v_who1 v_what2 v_z750 v_z751 v_y653).bind fun v_o758 => match v_o758 with
       | .x0 v_z759 v_z760 =>
         (G_ringlaw5_LabelRuns_C13 n v_r93 v_r406 v_x505 v_acts3 v_who1 v_what2 v_z759 v_z760 v_y653).bind fun v_o779 => match v_o779 with
         | .x0 v_z780 v_z781 v_z782 =>
           if v_z780 = true then
            (app 8 v_z781 ([v_y653.fWho])).bind fun (v_a784 : (List Int)) =>
            some (.x1 v_a784 v_z782)
           else
            some (.x1 v_z781 v_z782)
theorem G_ringlaw5_LabelRuns_C14_ok {Fi : Ex → PS → Prop} (hF : KC 217 Fi) (ks : List Fr) (n : Nat) (v_r93 : ((List Bool) × Int)) (v_r406 : ((List Int) × (List Int) × Int)) (v_acts3 : (List S_label_Act)) (v_x505 : Int) (v_who1 : (List S_label_Label)) (v_what2 : (List S_label_Label)) (v_w506 : (List Int)) (v_w507 : (List Int))  (o : G_ringlaw5_LabelRuns_C14_R) (h : G_ringlaw5_LabelRuns_C14 n v_r93 v_r406 v_acts3 v_x505 v_who1 v_what2 v_w506 v_w507 = some o) (q : RunE Try.prog 217 Fi ks (G_ringlaw5_LabelRuns_C14_ex o) (G_ringlaw5_LabelRuns_C14_st v_r93 v_r406 v_acts3 v_x505 v_who1 v_what2 v_w506 v_w507 o)) : RunE Try.prog 217 Fi (.s (cL (cR (cR (cP (cB (cR (cL (cR (cR (cR (cR (cR (cR (cR (cR (cR (bodyOf Try.f5))))))))))))))))) :: ks) .normal (G_ringlaw5_LabelRuns_C14_hd v_r93 v_r406 v_acts3 v_x505 v_who1 v_what2 v_w506 v_w507) := by
  unfold G_ringlaw5_LabelRuns_C14 at h
  obtain ⟨v_y653, h800, h⟩ := bind_some h
  obtain ⟨v_y654, h801, h⟩ := bind_some h
  obtain ⟨v_y655, h802, h⟩ := bind_some h
  obtain ⟨v_o660, h805, h⟩ := bind_some h
  refine pkk_sound TTok mix hF 8 (hs := [.y (eS_label_Act v_y653), .c, .c, .c, .y (eS_label_Label v_y654), .c, .c, .y (eS_label_Label v_y655), .c, .c, .c]) (ts := []) (s := [0, 1, 2, 3, 13, 52, 55]) (l := [4, 5, 9, 11, 12, 13, 15, 16, 17, 18, 19, 20, 98, 99, 100, 117]) (by kernel_rfl) (by kernel_rfl) (.cons (getI_ob (f := eS_label_Act) h800) (.cons (show 0 + 3 ≤ 3 by decide) (.cons (getI_ob (f := eS_label_Label) h801) (.cons (getI_ob (f := eS_label_Label) h802) (.cons (show 0 + 2 ≤ 2 by decide) (.cons (show 0 + 2 ≤ 2 by decide) .nil)))))) (G_ringlaw5_LabelRuns_C7_ok hF (.s (cR (cR (cR (cB (cL (cR (cR (cP (cB (cR (cL (cR (cR (cR (cR (cR (cR (cR (cR (cR (bodyOf Try.f5))))))))))))))))))))) :: .b 1 :: ks) n v_r93 v_r406 v_x505 v_acts3 v_y653 v_who1 v_what2 v_w506 v_w507 v_y654 v_y655 _ h805 ?_)
  cases v_o660 with
  | x0 v_z661 v_z662 =>
    try dsimp only at h
    obtain ⟨v_y663, h806, h⟩ := bind_some h
    obtain ⟨v_r664, h807, h⟩ := bind_some h
    by_cases h808 : (eqRes .neq (v_y663 == v_r664)) = true
    · rw [if_pos h808] at h
      cases h
      exact pkk_sound TTok mix hF 9 (hs := [.y (eB v_y663), .c, .c, .c, .c, .c, .r (eB v_r664), .t true]) (ts := []) (s := []) (l := [8]) (by kernel_rfl) (by kernel_rfl) (.cons (getI_ob (f := eB) h806) (.cons (G_ringref5_FlowsOf_ok n v_y655.fLevel v_y655.fKind v_y654.fLevel v_y654.fKind _ h807) (.cons h808 .nil))) q
    · rw [if_neg h808] at h
      obtain ⟨v_o684, h821, h⟩ := bind_some h
      refine pkk_sound TTok mix hF 7 (hs := [.y (eB v_y663), .c, .c, .c, .c, .c, .r (eB v_r664), .t false]) (ts := []) (s := [0, 1, 2, 3, 4]) (l := [4, 5, 9, 11, 12, 13, 15, 16, 17, 18, 98, 99, 100]) (by kernel_rfl) (by kernel_rfl) (.cons (getI_ob (f := eB) h806) (.cons (G_ringref5_FlowsOf_ok n v_y655.fLevel v_y655.fKind v_y654.fLevel v_y654.fKind _ h807) (.cons (vf h808) .nil))) (G_ringlaw5_LabelRuns_C8_ok hF (.s (cR (cL (cR (cR (cR (cR (cB (cL (cR (cR (cP (cB (cR (cL (cR (cR (cR (cR (cR (cR (cR (cR (cR (bodyOf Try.f5)))))))))))))))))))))))) :: .s (cR (cR (cR (cR (cR (cB (cL (cR (cR (cP (cB (cR (cL (cR (cR (cR (cR (cR (cR (cR (cR (cR (bodyOf Try.f5))))))))))))))))))))))) :: .b 1 :: ks) n v_r93 v_r406 v_x505 v_acts3 v_who1 v_what2 v_z661 v_z662 v_y653 _ h821 ?_)
      cases v_o684 with
      | x0 v_z685 v_z686 v_z687 =>
        try dsimp only at h
        obtain ⟨v_o694, h826, h⟩ := bind_some h
        refine pkk_sound TTok mix hF 0 (hs := []) (ts := []) (s := [0, 1, 2, 3, 4]) (l := [4, 5, 9, 11, 12, 13, 15, 16, 17, 18, 98, 99, 100, 154]) (by kernel_rfl) (by kernel_rfl) .nil (G_ringlaw5_LabelRuns_C9_ok hF (.s (cR (cR (cR (cR (cR (cB (cL (cR (cR (cP (cB (cR (cL (cR (cR (cR (cR (cR (cR (cR (cR (cR (bodyOf Try.f5))))))))))))))))))))))) :: .b 1 :: ks) n v_r93 v_r406 v_x505 v_acts3 v_z685 v_who1 v_what2 v_z686 v_z687 v_y653 _ h826 ?_)
        cases v_o694 with
        | x0 v_z695 v_z696 =>
          try dsimp only at h
          obtain ⟨v_o715, h839, h⟩ := bind_some h
          refine pkk_sound TTok mix hF 1 (hs := []) (ts := []) (s := [0, 1, 2, 3, 4]) (l := [4, 5, 9, 11, 12, 13, 15, 16, 17, 18, 98, 99, 100]) (by kernel_rfl) (by kernel_rfl) .nil (G_ringlaw5_LabelRuns_C10_ok hF (.s (cR (cR (cR (cR (cR (cR (cB (cL (cR (cR (cP (cB (cR (cL (cR (cR (cR (cR (cR (cR (cR (cR (cR (bodyOf Try.f5)))))))))))))))))))))))) :: .b 1 :: ks) n v_r93 v_r406 v_x505 v_acts3 v_who1 v_what2 v_z695 v_z696 v_y653 _ h839 ?_)
          cases v_o715 with
          | x0 v_z716 v_z717 v_z718 =>
            try dsimp only at h
            by_cases h842 : v_z716 = true
            · rw [if_pos h842] at h
              obtain ⟨v_a720, h843, h⟩ := bind_some h
              cases h
              exact pkk_sound TTok mix hF 3 (hs := [.t true, .c, .bd, .w (v_a720.map (eI .i64))]) (ts := []) (s := [0, 1, 17, 3]) (l := [4, 5, 9, 11, 12, 13, 15, 16, 98, 99, 100]) (by kernel_rfl) (by kernel_rfl) (.cons h842 (.cons (app_ob (f := (eI .i64)) (s := 1) h843 (fun _ => rfl)).1 (.cons (app_ob (f := (eI .i64)) (s := 1) h843 (fun _ => rfl)).2.1 (.cons (app_ob (f := (eI .i64)) (s := 1) h843 (fun _ => rfl)).2.2.1 (.cons (app_ob (f := (eI .i64)) (s := 1) h843 (fun _ => rfl)).2.2.2 .nil))))) q
            · rw [if_neg h842] at h
              cases h
              exact pkk_sound TTok mix hF 3 (hs := [.t false]) (ts := []) (s := [0, 1, 2, 3]) (l := [4, 5, 9, 11, 12, 13, 15, 16, 98, 99, 100]) (by kernel_rfl) (by kernel_rfl) (.cons (vf h842) .nil) q
  | x1 v_z725 v_z726 =>
    try dsimp only at h
    obtain ⟨v_y727, h844, h⟩ := bind_some h
    obtain ⟨v_r728, h845, h⟩ := bind_some h
    by_cases h846 : (eqRes .neq (v_y727 == v_r728)) = true
    · rw [if_pos h846] at h
      cases h
      exact pkk_sound TTok mix hF 9 (hs := [.y (eB v_y727), .c, .c, .c, .c, .c, .r (eB v_r728), .t true]) (ts := []) (s := []) (l := [8]) (by kernel_rfl) (by kernel_rfl) (.cons (getI_ob (f := eB) h844) (.cons (G_ringref5_FlowsOf_ok n v_y654.fLevel v_y654.fKind v_y655.fLevel v_y655.fKind _ h845) (.cons h846 .nil))) q
    · rw [if_neg h846] at h
      obtain ⟨v_o748, h859, h⟩ := bind_some h
      refine pkk_sound TTok mix hF 7 (hs := [.y (eB v_y727), .c, .c, .c, .c, .c, .r (eB v_r728), .t false]) (ts := []) (s := [0, 1, 2, 3, 4]) (l := [4, 5, 9, 11, 12, 13, 15, 16, 17, 18, 98, 99, 100]) (by kernel_rfl) (by kernel_rfl) (.cons (getI_ob (f := eB) h844) (.cons (G_ringref5_FlowsOf_ok n v_y654.fLevel v_y654.fKind v_y655.fLevel v_y655.fKind _ h845) (.cons (vf h846) .nil))) (G_ringlaw5_LabelRuns_C11_ok hF (.s (cR (cL (cR (cR (cR (cR (cB (cL (cR (cR (cP (cB (cR (cL (cR (cR (cR (cR (cR (cR (cR (cR (cR (bodyOf Try.f5)))))))))))))))))))))))) :: .s (cR (cR (cR (cR (cR (cB (cL (cR (cR (cP (cB (cR (cL (cR (cR (cR (cR (cR (cR (cR (cR (cR (bodyOf Try.f5))))))))))))))))))))))) :: .b 1 :: ks) n v_r93 v_r406 v_x505 v_acts3 v_who1 v_what2 v_z725 v_z726 v_y653 _ h859 ?_)
      cases v_o748 with
      | x0 v_z749 v_z750 v_z751 =>
        try dsimp only at h
        obtain ⟨v_o758, h864, h⟩ := bind_some h
        refine pkk_sound TTok mix hF 0 (hs := []) (ts := []) (s := [0, 1, 2, 3, 4]) (l := [4, 5, 9, 11, 12, 13, 15, 16, 17, 18, 98, 99, 100, 154]) (by kernel_rfl) (by kernel_rfl) .nil (G_ringlaw5_LabelRuns_C12_ok hF (.s (cR (cR (cR (cR (cR (cB (cL (cR (cR (cP (cB (cR (cL (cR (cR (cR (cR (cR (cR (cR (cR (cR (bodyOf Try.f5))))))))))))))))))))))) :: .b 1 :: ks) n v_r93 v_r406 v_x505 v_acts3 v_z749 v_who1 v_what2 v_z750 v_z751 v_y653 _ h864 ?_)
        cases v_o758 with
        | x0 v_z759 v_z760 =>
          try dsimp only at h
          obtain ⟨v_o779, h877, h⟩ := bind_some h
          refine pkk_sound TTok mix hF 1 (hs := []) (ts := []) (s := [0, 1, 2, 3, 4]) (l := [4, 5, 9, 11, 12, 13, 15, 16, 17, 18, 98, 99, 100]) (by kernel_rfl) (by kernel_rfl) .nil (G_ringlaw5_LabelRuns_C13_ok hF (.s (cR (cR (cR (cR (cR (cR (cB (cL (cR (cR (cP (cB (cR (cL (cR (cR (cR (cR (cR (cR (cR (cR (cR (bodyOf Try.f5)))))))))))))))))))))))) :: .b 1 :: ks) n v_r93 v_r406 v_x505 v_acts3 v_who1 v_what2 v_z759 v_z760 v_y653 _ h877 ?_)
          cases v_o779 with
          | x0 v_z780 v_z781 v_z782 =>
            try dsimp only at h
            by_cases h880 : v_z780 = true
            · rw [if_pos h880] at h
              obtain ⟨v_a784, h881, h⟩ := bind_some h
              cases h
              exact pkk_sound TTok mix hF 3 (hs := [.t true, .c, .bd, .w (v_a784.map (eI .i64))]) (ts := []) (s := [0, 1, 17, 3]) (l := [4, 5, 9, 11, 12, 13, 15, 16, 98, 99, 100]) (by kernel_rfl) (by kernel_rfl) (.cons h880 (.cons (app_ob (f := (eI .i64)) (s := 1) h881 (fun _ => rfl)).1 (.cons (app_ob (f := (eI .i64)) (s := 1) h881 (fun _ => rfl)).2.1 (.cons (app_ob (f := (eI .i64)) (s := 1) h881 (fun _ => rfl)).2.2.1 (.cons (app_ob (f := (eI .i64)) (s := 1) h881 (fun _ => rfl)).2.2.2 .nil))))) q
            · rw [if_neg h880] at h
              cases h
              exact pkk_sound TTok mix hF 3 (hs := [.t false]) (ts := []) (s := [0, 1, 2, 3]) (l := [4, 5, 9, 11, 12, 13, 15, 16, 98, 99, 100]) (by kernel_rfl) (by kernel_rfl) (.cons (vf h880) .nil) q
inductive G_ringlaw5_LabelRuns_L15_R where
  | x0 (v_x791 : Bool)
  | x1 (v_w794 : (List Int)) (v_w795 : (List Int))
def G_ringlaw5_LabelRuns_L15_ex : G_ringlaw5_LabelRuns_L15_R → Ex
  | .x0 _ => .ret
  | .x1 _ _ => .exit 0
def G_ringlaw5_LabelRuns_L15_st (v_r93 : ((List Bool) × Int)) (v_r406 : ((List Int) × (List Int) × Int)) (v_acts3 : (List S_label_Act)) (v_who1 : (List S_label_Label)) (v_what2 : (List S_label_Label)) : G_ringlaw5_LabelRuns_L15_R → PS
  | .x0 v_x791 => ⟨[dd, dd, dd, dd, dd, dd, dd, dd, .d (.v (.bool v_x791)), dd, dd, dd, dd, dd, dd, dd, dd, dd, dd, dd, dd, dd, dd, dd, dd, dd, dd, dd, dd, dd, dd, dd, dd, dd, dd, dd, dd, dd, dd, dd, dd, dd, dd, dd, dd, dd, dd, dd, dd, dd, dd, dd, dd, dd, dd, dd, dd, dd, dd, dd, dd, dd, dd, dd, dd, dd, dd, dd, dd, dd, dd, dd, dd, dd, dd, dd, dd, dd, dd, dd, dd, dd, dd, dd, dd, dd, dd, dd, dd, dd, dd, dd, dd, dd, dd, dd, dd, dd, dd, dd, dd, dd, dd, dd, dd, dd, dd, dd, dd, dd, dd, dd, dd, dd, dd, dd, dd, dd, dd, dd, dd, dd, dd, dd, dd, dd, dd, dd, dd, dd, dd, dd, dd, dd, dd, dd, dd, dd, dd, dd, dd, dd, dd, dd, dd, dd, dd, dd, dd, dd, dd, dd, dd, dd, dd, dd, dd, dd, dd, dd, dd, dd, dd, dd, dd, dd, dd, dd, dd, dd, dd, dd, dd, dd, dd, dd, dd, dd, dd, dd, dd, dd, dd, dd, dd, dd, dd, dd, dd, dd, dd, dd, dd, dd, dd, dd, dd, dd, dd, dd, dd, dd, dd, dd, dd, dd, dd, dd, dd, dd, dd, dd, dd, dd, dd, dd, dd], []⟩
  | .x1 v_w794 v_w795 => ⟨[dd, dd, dd, dd, dd, dd, dd, dd, dd, dd, dd, .d (.sl (v_r406.1.map (eI .i64))), .d (.sl (v_r406.2.1.map (eI .i64))), .d (.v (.int .i64 v_r406.2.2)), dd, .srf 0, .srf 1, dd, dd, dd, dd, dd, dd, dd, dd, dd, dd, dd, dd, dd, dd, dd, dd, dd, dd, dd, dd, dd, dd, dd, dd, dd, dd, dd, dd, dd, dd, dd, dd, dd, dd, dd, dd, dd, dd, dd, dd, dd, dd, dd, dd, dd, dd, dd, dd, dd, dd, dd, dd, dd, dd, dd, dd, dd, dd, dd, dd, dd, dd, dd, dd, dd, dd, dd, dd, dd, dd, dd, dd, dd, dd, dd, dd, dd, dd, dd, dd, dd, dd, dd, dd, dd, dd, dd, dd, dd, dd, dd, dd, dd, dd, dd, dd, dd, dd, dd, dd, dd, dd, dd, dd, dd, dd, dd, dd, dd, dd, dd, dd, dd, dd, dd, dd, dd, dd, dd, dd, dd, dd, dd, dd, dd, dd, dd, dd, dd, dd, dd, dd, dd, dd, dd, dd, dd, dd, dd, dd, dd, dd, dd, dd, dd, dd, dd, dd, dd, dd, dd, dd, dd, dd, dd, dd, dd, dd, dd, dd, dd, dd, dd, dd, dd, dd, dd, dd, dd, dd, dd, dd, dd, dd, dd, dd, dd, dd, dd, dd, dd, dd, dd, dd, dd, dd, dd, dd, dd, dd, dd, dd, dd, dd, dd, dd, dd, dd, dd, dd], [.row 3 1 (v_w794.map (eI .i64)), .row 3 1 (v_w795.map (eI .i64))]⟩
def G_ringlaw5_LabelRuns_L15_hd (v_r93 : ((List Bool) × Int)) (v_r406 : ((List Int) × (List Int) × Int)) (v_acts3 : (List S_label_Act)) (v_who1 : (List S_label_Label)) (v_what2 : (List S_label_Label)) (v_x505 : Int) (v_w506 : (List Int)) (v_w507 : (List Int)) : PS := ⟨[dd, dd, dd, dd, .ref 0 0, .ref 1 0, dd, dd, dd, .d (.sl (v_r93.1.map eB)), dd, .d (.sl (v_r406.1.map (eI .i64))), .d (.sl (v_r406.2.1.map (eI .i64))), .d (.v (.int .i64 v_r406.2.2)), dd, .srf 2, .srf 3, dd, dd, dd, dd, dd, dd, dd, dd, dd, dd, dd, dd, dd, dd, dd, dd, dd, dd, dd, dd, dd, dd, dd, dd, dd, dd, dd, dd, dd, dd, dd, dd, dd, dd, dd, dd, dd, dd, dd, dd, dd, dd, dd, dd, dd, dd, dd, dd, dd, dd, dd, dd, dd, dd, dd, dd, dd, dd, dd, dd, dd, dd, dd, dd, dd, dd, dd, dd, dd, dd, dd, dd, dd, dd, dd, dd, dd, dd, dd, dd, dd, .d (.sl (v_acts3.map eS_label_Act)), .d (.v (.int .i64 (v_acts3.length : Int))), .d (.v (.int .i64 v_x505)), dd, dd, dd, dd, dd, dd, dd, dd, dd, dd, dd, dd, dd, dd, dd, dd, dd, dd, dd, dd, dd, dd, dd, dd, dd, dd, dd, dd, dd, dd, dd, dd, dd, dd, dd, dd, dd, dd, dd, dd, dd, dd, dd, dd, dd, dd, dd, dd, dd, dd, dd, dd, dd, dd, dd, dd, dd, dd, dd, dd, dd, dd, dd, dd, dd, dd, dd, dd, dd, dd, dd, dd, dd, dd, dd, dd, dd, dd, dd, dd, dd, dd, dd, dd, dd, dd, dd, dd, dd, dd, dd, dd, dd, dd, dd, dd, dd, dd, dd, dd, dd, dd, dd, dd, dd, dd, dd, dd, dd, dd, dd, dd, dd, dd, dd, dd], [.box [.d (.sl (v_who1.map eS_label_Label))], .box [.d (.sl (v_what2.map eS_label_Label))], .row 3 1 (v_w506.map (eI .i64)), .row 3 1 (v_w507.map (eI .i64))]⟩
def G_ringlaw5_LabelRuns_L15 (n : Nat) (v_r93 : ((List Bool) × Int)) (v_r406 : ((List Int) × (List Int) × Int)) (v_acts3 : (List S_label_Act)) (v_who1 : (List S_label_Label)) (v_what2 : (List S_label_Label)) : Nat → Int → (List Int) → (List Int) → Option G_ringlaw5_LabelRuns_L15_R
  | 0, _, _, _ => none
  | k + 1, v_x505, v_w506, v_w507 =>
    if v_x505 < (v_acts3.length : Int) then
     (G_ringlaw5_LabelRuns_C14 n v_r93 v_r406 v_acts3 v_x505 v_who1 v_what2 v_w506 v_w507).bind fun v_o789 => match v_o789 with
     | .x0 v_z790 =>
       some (.x0 v_z790)
     | .x1 v_z792 v_z793 =>
       G_ringlaw5_LabelRuns_L15 n v_r93 v_r406 v_acts3 v_who1 v_what2 k (wi .i64 (v_x505 + 1)) v_z792 v_z793
    else
     some (.x1 v_w506 v_w507)
theorem G_ringlaw5_LabelRuns_L15_ok {Fi : Ex → PS → Prop} (hF : KC 217 Fi) (ks : List Fr) (n : Nat) (v_r93 : ((List Bool) × Int)) (v_r406 : ((List Int) × (List Int) × Int)) (v_acts3 : (List S_label_Act)) (v_who1 : (List S_label_Label)) (v_what2 : (List S_label_Label))  : ∀ (k : Nat) (v_x505 : Int) (v_w506 : (List Int)) (v_w507 : (List Int)) (o : G_ringlaw5_LabelRuns_L15_R), G_ringlaw5_LabelRuns_L15 n v_r93 v_r406 v_acts3 v_who1 v_what2 k v_x505 v_w506 v_w507 = some o → RunE Try.prog 217 Fi ks (G_ringlaw5_LabelRuns_L15_ex o) (G_ringlaw5_LabelRuns_L15_st v_r93 v_r406 v_acts3 v_who1 v_what2 o) → RunE Try.prog 217 Fi (.l k (cP (cB (cR (cL (cR (cR (cR (cR (cR (cR (cR (cR (cR (bodyOf Try.f5)))))))))))))) :: ks) .normal (G_ringlaw5_LabelRuns_L15_hd v_r93 v_r406 v_acts3 v_who1 v_what2 v_x505 v_w506 v_w507)
  | 0, v_x505, v_w506, v_w507, o, h, q => by rw [G_ringlaw5_LabelRuns_L15] at h; cases h
  | k + 1, v_x505, v_w506, v_w507, o, h, q => by
    rw [G_ringlaw5_LabelRuns_L15] at h
    by_cases h694 : v_x505 < (v_acts3.length : Int)
    · rw [if_pos h694] at h
      obtain ⟨v_o789, h882, h⟩ := bind_some h
      refine pkk_sound TTok mix hF 7 (hs := [.t true]) (ts := []) (s := [0, 1, 2, 3]) (l := [4, 5, 9, 11, 12, 13, 15, 16, 98, 99, 100]) (by kernel_rfl) (by kernel_rfl) (.cons (dt h694) .nil) (G_ringlaw5_LabelRuns_C14_ok hF (.s (cR (cR (cR (cP (cB (cR (cL (cR (cR (cR (cR (cR (cR (cR (cR (cR (bodyOf Try.f5))))))))))))))))) :: .l k (cP (cB (cR (cL (cR (cR (cR (cR (cR (cR (cR (cR (cR (bodyOf Try.f5)))))))))))))) :: ks) n v_r93 v_r406 v_acts3 v_x505 v_who1 v_what2 v_w506 v_w507 _ h882 ?_)
      cases v_o789 with
      | x0 v_z790 =>
        try dsimp only at h
        cases h
        exact pkk_sound TTok mix hF 2 (hs := []) (ts := []) (s := []) (l := [8]) (by kernel_rfl) (by kernel_rfl) .nil q
      | x1 v_z792 v_z793 =>
        try dsimp only at h
        exact pkk_sound TTok mix hF 1 (hs := []) (ts := []) (s := [0, 1, 2, 3]) (l := [4, 5, 9, 11, 12, 13, 15, 16, 98, 99, 100]) (by kernel_rfl) (by kernel_rfl) .nil (G_ringlaw5_LabelRuns_L15_ok hF ks n v_r93 v_r406 v_acts3 v_who1 v_what2 k (wi .i64 (v_x505 + 1)) v_z792 v_z793 _ h q)
    · rw [if_neg h694] at h
      cases h
      exact pkk_sound TTok mix hF 8 (hs := [.t false]) (ts := []) (s := [2, 3]) (l := [11, 12, 13, 15, 16]) (by kernel_rfl) (by kernel_rfl) (.cons (df h694) .nil) q
inductive G_ringlaw5_LabelRuns_C16_R where
  | x0 (v_x887 : Bool)
def G_ringlaw5_LabelRuns_C16_ex : G_ringlaw5_LabelRuns_C16_R → Ex
  | .x0 _ => .normal
def G_ringlaw5_LabelRuns_C16_st (v_r406 : ((List Int) × (List Int) × Int)) (v_r871 : ((List Int))) (v_r872 : ((List Int))) : G_ringlaw5_LabelRuns_C16_R → PS
  | .x0 v_x887 => ⟨[dd, dd, dd, dd, dd, dd, dd, dd, .d (.v (.bool v_x887)), dd, dd, dd, dd, dd, dd, dd, dd, dd, dd, dd, dd, dd, dd, dd, dd, dd, dd, dd, dd, dd, dd, dd, dd, dd, dd, dd, dd, dd, dd, dd, dd, dd, dd, dd, dd, dd, dd, dd, dd, dd, dd, dd, dd, dd, dd, dd, dd, dd, dd, dd, dd, dd, dd, dd, dd, dd, dd, dd, dd, dd, dd, dd, dd, dd, dd, dd, dd, dd, dd, dd, dd, dd, dd, dd, dd, dd, dd, dd, dd, dd, dd, dd, dd, dd, dd, dd, dd, dd, dd, dd, dd, dd, dd, dd, dd, dd, dd, dd, dd, dd, dd, dd, dd, dd, dd, dd, dd, dd, dd, dd, dd, dd, dd, dd, dd, dd, dd, dd, dd, dd, dd, dd, dd, dd, dd, dd, dd, dd, dd, dd, dd, dd, dd, dd, dd, dd, dd, dd, dd, dd, dd, dd, dd, dd, dd, dd, dd, dd, dd, dd, dd, dd, dd, dd, dd, dd, dd, dd, dd, dd, dd, dd, dd, dd, dd, dd, dd, dd, dd, dd, dd, dd, dd, dd, dd, dd, dd, dd, dd, dd, dd, dd, dd, dd, dd, dd, dd, dd, dd, dd, dd, dd, dd, dd, dd, dd, dd, dd, dd, dd, dd, dd, dd, dd, dd, dd, dd], []⟩
def G_ringlaw5_LabelRuns_C16_hd (v_r406 : ((List Int) × (List Int) × Int)) (v_r871 : ((List Int))) (v_r872 : ((List Int)))  : PS := ⟨[dd, dd, dd, dd, dd, dd, dd, dd, dd, dd, dd, .d (.sl (v_r406.1.map (eI .i64))), .d (.sl (v_r406.2.1.map (eI .i64))), .d (.v (.int .i64 v_r406.2.2)), dd, .srf 0, .srf 1, dd, dd, dd, dd, dd, dd, dd, dd, dd, dd, dd, dd, dd, dd, dd, dd, dd, dd, dd, dd, dd, dd, dd, dd, dd, dd, dd, dd, dd, dd, dd, dd, dd, dd, dd, dd, dd, dd, dd, dd, dd, dd, dd, dd, dd, dd, dd, dd, dd, dd, dd, dd, dd, dd, dd, dd, dd, dd, dd, dd, dd, dd, dd, dd, dd, dd, dd, dd, dd, dd, dd, dd, dd, dd, dd, dd, dd, dd, dd, dd, dd, dd, dd, dd, dd, dd, dd, dd, dd, dd, dd, dd, dd, dd, dd, dd, dd, dd, dd, dd, dd, dd, dd, dd, dd, dd, dd, dd, dd, dd, dd, dd, dd, dd, dd, dd, dd, dd, dd, dd, dd, dd, dd, dd, dd, dd, dd, dd, dd, dd, dd, dd, dd, dd, dd, dd, dd, dd, dd, dd, dd, dd, dd, dd, dd, dd, dd, dd, dd, dd, dd, dd, dd, dd, dd, dd, dd, dd, dd, dd, dd, dd, dd, dd, dd, dd, dd, dd, dd, dd, dd, dd, dd, dd, dd, dd, dd, dd, dd, dd, dd, dd, dd, dd, dd, dd, dd, dd, dd, dd, dd, dd, dd, dd, dd, dd, dd, dd, dd, dd], [.row 3 1 (v_r871.map (eI .i64)), .row 3 1 (v_r872.map (eI .i64))]⟩
def G_ringlaw5_LabelRuns_C16 (n : Nat) (v_r406 : ((List Int) × (List Int) × Int)) (v_r871 : ((List Int))) (v_r872 : ((List Int))) : Option G_ringlaw5_LabelRuns_C16_R :=
  if v_r406.2.2 = 0 then
   (G_slices_Equal_int_int n v_r406.1 v_r871).bind fun (v_r885 : (Bool)) =>
   if v_r885 = true then
    (G_slices_Equal_int_int n v_r406.2.1 v_r872).bind fun (v_r886 : (Bool)) =>
    some (.x0 v_r886)
   else
    some (.x0 false)
  else
   some (.x0 false)
theorem G_ringlaw5_LabelRuns_C16_ok {Fi : Ex → PS → Prop} (hF : KC 217 Fi) (ks : List Fr) (n : Nat) (v_r406 : ((List Int) × (List Int) × Int)) (v_r871 : ((List Int))) (v_r872 : ((List Int)))  (o : G_ringlaw5_LabelRuns_C16_R) (h : G_ringlaw5_LabelRuns_C16 n v_r406 v_r871 v_r872 = some o) (q : RunE Try.prog 217 Fi ks (G_ringlaw5_LabelRuns_C16_ex o) (G_ringlaw5_LabelRuns_C16_st v_r406 v_r871 v_r872 o)) : RunE Try.prog 217 Fi (.s (cL (cR (cR (cR (cR (cR (cR (cR (cR (cR (cR (cR (cR (cR (bodyOf Try.f5))))))))))))))) :: ks) .normal (G_ringlaw5_LabelRuns_C16_hd v_r406 v_r871 v_r872) := by
  unfold G_ringlaw5_LabelRuns_C16 at h
  by_cases h994 : v_r406.2.2 = 0
  · rw [if_pos h994] at h
    obtain ⟨v_r885, h995, h⟩ := bind_some h
    by_cases h996 : v_r885 = true
    · rw [if_pos h996] at h
      obtain ⟨v_r886, h997, h⟩ := bind_some h
      cases h
      exact pkk_sound TTok mix hF 1 (hs := [.t true, .c, .c, .c, .r (eB v_r885), .t true, .c, .c, .c, .r (eB v_r886)]) (ts := []) (s := []) (l := [8]) (by kernel_rfl) (by kernel_rfl) (.cons (bt h994) (.cons (G_slices_Equal_int_int_ok n v_r406.1 v_r871 _ h995) (.cons h996 (.cons (G_slices_Equal_int_int_ok n v_r406.2.1 v_r872 _ h997) .nil)))) q
    · rw [if_neg h996] at h
      cases h
      exact pkk_sound TTok mix hF 1 (hs := [.t true, .c, .c, .c, .r (eB v_r885), .t false, .c, .c]) (ts := []) (s := []) (l := [8]) (by kernel_rfl) (by kernel_rfl) (.cons (bt h994) (.cons (G_slices_Equal_int_int_ok n v_r406.1 v_r871 _ h995) (.cons (vf h996) .nil))) q
  · rw [if_neg h994] at h
    cases h
    exact pkk_sound TTok mix hF 1 (hs := [.t false, .c, .c, .c, .c, .c]) (ts := []) (s := []) (l := [8]) (by kernel_rfl) (by kernel_rfl) (.cons (bf h994) .nil) q
inductive G_ringlaw5_LabelRuns_C17_R where
  | x0 (v_w1024 : (List Int)) (v_w1025 : (List Int))
  | x1 (v_w1026 : (List Int)) (v_w1027 : (List Int))
def G_ringlaw5_LabelRuns_C17_ex : G_ringlaw5_LabelRuns_C17_R → Ex
  | .x0 _ _ => .normal
  | .x1 _ _ => .normal
def G_ringlaw5_LabelRuns_C17_st (v_r93 : ((List Bool) × Int)) (v_r406 : ((List Int) × (List Int) × Int)) (v_x892 : Int) (v_acts3 : (List S_label_Act)) (v_y1021 : S_label_Act) (v_who1 : (List S_label_Label)) (v_what2 : (List S_label_Label)) (v_w893 : (List Int)) (v_w894 : (List Int)) (v_y1022 : S_label_Label) (v_y1023 : S_label_Label) : G_ringlaw5_LabelRuns_C17_R → PS
  | .x0 v_w1024 v_w1025 => ⟨[dd, dd, dd, dd, .ref 0 0, .ref 1 0, dd, dd, dd, .d (.sl (v_r93.1.map eB)), dd, .d (.sl (v_r406.1.map (eI .i64))), .d (.sl (v_r406.2.1.map (eI .i64))), .d (.v (.int .i64 v_r406.2.2)), dd, .srf 2, .srf 3, .d (.v (.int .i64 v_x892)), .ref 4 0, .ref 5 0, .ref 6 0, dd, dd, dd, dd, dd, dd, dd, dd, dd, dd, dd, dd, dd, dd, dd, dd, dd, dd, dd, dd, dd, dd, dd, dd, dd, dd, dd, dd, dd, dd, dd, dd, dd, dd, dd, dd, dd, dd, dd, dd, dd, dd, dd, dd, dd, dd, dd, dd, dd, dd, dd, dd, dd, dd, dd, dd, dd, dd, dd, dd, dd, dd, dd, dd, dd, dd, dd, dd, dd, dd, dd, dd, dd, dd, dd, dd, dd, .d (.sl (v_acts3.map eS_label_Act)), .d (.v (.int .i64 (v_acts3.length : Int))), .d (.v (.int .i64 v_x892)), dd, dd, dd, dd, dd, dd, dd, dd, dd, dd, dd, dd, dd, dd, dd, dd, dd, dd, dd, dd, dd, dd, dd, dd, dd, dd, dd, dd, dd, dd, dd, dd, dd, dd, dd, dd, dd, dd, dd, dd, dd, dd, dd, dd, dd, dd, dd, dd, dd, dd, dd, dd, dd, dd, dd, dd, dd, dd, dd, dd, dd, dd, dd, dd, dd, dd, dd, dd, dd, dd, dd, dd, dd, dd, dd, dd, dd, dd, dd, dd, dd, dd, dd, dd, dd, dd, dd, dd, dd, dd, dd, dd, dd, dd, dd, dd, dd, dd, dd, dd, dd, dd, dd, dd, dd, dd, dd, dd, dd, dd, dd, dd, dd, dd, dd, dd], [.box [.d (.sl (v_who1.map eS_label_Label))], .box [.d (.sl (v_what2.map eS_label_Label))], .row 3 1 (v_w1024.map (eI .i64)), .row 3 1 (v_w1025.map (eI .i64)), .box [.d (.v (.int .i64 v_y1021.fWho)), .d (.v (.int .i64 v_y1021.fWhat)), .d (.v (.bool v_y1021.fWrite))], .box [.d (.v (.int .i64 v_y1023.fLevel)), .d (.v (.int .i64 v_y1023.fKind))], .box [.d (.v (.int .i64 v_y1022.fLevel)), .d (.v (.int .i64 v_y1022.fKind))]]⟩
  | .x1 v_w1026 v_w1027 => ⟨[dd, dd, dd, dd, .ref 0 0, .ref 1 0, dd, dd, dd, .d (.sl (v_r93.1.map eB)), dd, .d (.sl (v_r406.1.map (eI .i64))), .d (.sl (v_r406.2.1.map (eI .i64))), .d (.v (.int .i64 v_r406.2.2)), dd, .srf 2, .srf 3, .d (.v (.int .i64 v_x892)), .ref 4 0, .ref 5 0, .ref 6 0, dd, dd, dd, dd, dd, dd, dd, dd, dd, dd, dd, dd, dd, dd, dd, dd, dd, dd, dd, dd, dd, dd, dd, dd, dd, dd, dd, dd, dd, dd, dd, dd, dd, dd, dd, dd, dd, dd, dd, dd, dd, dd, dd, dd, dd, dd, dd, dd, dd, dd, dd, dd, dd, dd, dd, dd, dd, dd, dd, dd, dd, dd, dd, dd, dd, dd, dd, dd, dd, dd, dd, dd, dd, dd, dd, dd, dd, .d (.sl (v_acts3.map eS_label_Act)), .d (.v (.int .i64 (v_acts3.length : Int))), .d (.v (.int .i64 v_x892)), dd, dd, dd, dd, dd, dd, dd, dd, dd, dd, dd, dd, dd, dd, dd, dd, dd, dd, dd, dd, dd, dd, dd, dd, dd, dd, dd, dd, dd, dd, dd, dd, dd, dd, dd, dd, dd, dd, dd, dd, dd, dd, dd, dd, dd, dd, dd, dd, dd, dd, dd, dd, dd, dd, dd, dd, dd, dd, dd, dd, dd, dd, dd, dd, dd, dd, dd, dd, dd, dd, dd, dd, dd, dd, dd, dd, dd, dd, dd, dd, dd, dd, dd, dd, dd, dd, dd, dd, dd, dd, dd, dd, dd, dd, dd, dd, dd, dd, dd, dd, dd, dd, dd, dd, dd, dd, dd, dd, dd, dd, dd, dd, dd, dd, dd, dd], [.box [.d (.sl (v_who1.map eS_label_Label))], .box [.d (.sl (v_what2.map eS_label_Label))], .row 3 1 (v_w1026.map (eI .i64)), .row 3 1 (v_w1027.map (eI .i64)), .box [.d (.v (.int .i64 v_y1021.fWho)), .d (.v (.int .i64 v_y1021.fWhat)), .d (.v (.bool v_y1021.fWrite))], .box [.d (.v (.int .i64 v_y1022.fLevel)), .d (.v (.int .i64 v_y1022.fKind))], .box [.d (.v (.int .i64 v_y1023.fLevel)), .d (.v (.int .i64 v_y1023.fKind))]]⟩
def G_ringlaw5_LabelRuns_C17_hd (v_r93 : ((List Bool) × Int)) (v_r406 : ((List Int) × (List Int) × Int)) (v_x892 : Int) (v_acts3 : (List S_label_Act)) (v_y1021 : S_label_Act) (v_who1 : (List S_label_Label)) (v_what2 : (List S_label_Label)) (v_w893 : (List Int)) (v_w894 : (List Int)) (v_y1022 : S_label_Label) (v_y1023 : S_label_Label)  : PS := ⟨[dd, dd, dd, dd, .ref 0 0, .ref 1 0, dd, dd, dd, .d (.sl (v_r93.1.map eB)), dd, .d (.sl (v_r406.1.map (eI .i64))), .d (.sl (v_r406.2.1.map (eI .i64))), .d (.v (.int .i64 v_r406.2.2)), dd, .srf 2, .srf 3, .d (.v (.int .i64 v_x892)), .ref 4 0, .ref 5 0, .ref 6 0, dd, dd, dd, dd, dd, dd, dd, dd, dd, dd, dd, dd, dd, dd, dd, dd, dd, dd, dd, dd, dd, dd, dd, dd, dd, dd, dd, dd, dd, dd, dd, dd, dd, dd, dd, dd, dd, dd, dd, dd, dd, dd, dd, dd, dd, dd, dd, dd, dd, dd, dd, dd, dd, dd, dd, dd, dd, dd, dd, dd, dd, dd, dd, dd, dd, dd, dd, dd, dd, dd, dd, dd, dd, dd, dd, dd, dd, .d (.sl (v_acts3.map eS_label_Act)), .d (.v (.int .i64 (v_acts3.length : Int))), .d (.v (.int .i64 v_x892)), dd, dd, dd, dd, dd, dd, dd, dd, dd, dd, dd, dd, dd, dd, dd, dd, .d (.v (.bool (!v_y1021.fWrite))), dd, dd, dd, dd, dd, dd, dd, dd, dd, dd, dd, dd, dd, dd, dd, dd, dd, dd, dd, dd, dd, dd, dd, dd, dd, dd, dd, dd, dd, dd, dd, dd, dd, dd, dd, dd, dd, dd, dd, dd, dd, dd, dd, dd, dd, dd, dd, dd, dd, dd, dd, dd, dd, dd, dd, dd, dd, dd, dd, dd, dd, dd, dd, dd, dd, dd, dd, dd, dd, dd, dd, dd, dd, dd, dd, dd, dd, dd, dd, dd, dd, dd, dd, dd, dd, dd, dd, dd, dd, dd, dd, dd, dd, dd, dd, dd, dd, dd, dd], [.box [.d (.sl (v_who1.map eS_label_Label))], .box [.d (.sl (v_what2.map eS_label_Label))], .row 3 1 (v_w893.map (eI .i64)), .row 3 1 (v_w894.map (eI .i64)), .box [.d (.v (.int .i64 v_y1021.fWho)), .d (.v (.int .i64 v_y1021.fWhat)), .d (.v (.bool v_y1021.fWrite))], .box [.d (.v (.int .i64 v_y1022.fLevel)), .d (.v (.int .i64 v_y1022.fKind))], .box [.d (.v (.int .i64 v_y1023.fLevel)), .d (.v (.int .i64 v_y1023.fKind))]]⟩
def G_ringlaw5_LabelRuns_C17 (n : Nat) (v_r93 : ((List Bool) × Int)) (v_r406 : ((List Int) × (List Int) × Int)) (v_x892 : Int) (v_acts3 : (List S_label_Act)) (v_y1021 : S_label_Act) (v_who1 : (List S_label_Label)) (v_what2 : (List S_label_Label)) (v_w893 : (List Int)) (v_w894 : (List Int)) (v_y1022 : S_label_Label) (v_y1023 : S_label_Label) : Option G_ringlaw5_LabelRuns_C17_R :=
  if v_y1021.fWrite = true then
   some (.x1 v_w893 v_w894)
  else
   some (.x0 v_w893 v_w894)
theorem G_ringlaw5_LabelRuns_C17_ok {Fi : Ex → PS → Prop} (hF : KC 217 Fi) (ks : List Fr) (n : Nat) (v_r93 : ((List Bool) × Int)) (v_r406 : ((List Int) × (List Int) × Int)) (v_x892 : Int) (v_acts3 : (List S_label_Act)) (v_y1021 : S_label_Act) (v_who1 : (List S_label_Label)) (v_what2 : (List S_label_Label)) (v_w893 : (List Int)) (v_w894 : (List Int)) (v_y1022 : S_label_Label) (v_y1023 : S_label_Label)  (o : G_ringlaw5_LabelRuns_C17_R) (h : G_ringlaw5_LabelRuns_C17 n v_r93 v_r406 v_x892 v_acts3 v_y1021 v_who1 v_what2 v_w893 v_w894 v_y1022 v_y1023 = some o) (q : RunE Try.prog 217 Fi ks (G_ringlaw5_LabelRuns_C17_ex o) (G_ringlaw5_LabelRuns_C17_st v_r93 v_r406 v_x892 v_acts3 v_y1021 v_who1 v_what2 v_w893 v_w894 v_y1022 v_y1023 o)) : RunE Try.prog 217 Fi (.s (cR (cL (cR (cR (cB (cL (cR (cR (cP (cB (cR (cL (cR (cR (cR (cR (cR (cR (cR (cR (cR (bodyOf Try.f5)))))))))))))))))))))) :: ks) .normal (G_ringlaw5_LabelRuns_C17_hd v_r93 v_r406 v_x892 v_acts3 v_y1021 v_who1 v_what2 v_w893 v_w894 v_y1022 v_y1023) := by
  unfold G_ringlaw5_LabelRuns_C17 at h
  by_cases h1086 : v_y1021.fWrite = true
  · rw [if_pos h1086] at h
    cases h
    exact pkk_sound TTok mix hF 2 (hs := [.t false]) (ts := []) (s := [0, 1, 2, 3, 4, 5, 6]) (l := [4, 5, 9, 11, 12, 13, 15, 16, 17, 18, 19, 20, 98, 99, 100]) (by kernel_rfl) (by kernel_rfl) (.cons (bnf h1086) .nil) q
  · rw [if_neg h1086] at h
    cases h
    exact pkk_sound TTok mix hF 2 (hs := [.t true, .c, .c, .c, .c]) (ts := []) (s := [0, 1, 2, 3, 4, 5, 6]) (l := [4, 5, 9, 11, 12, 13, 15, 16, 17, 18, 19, 20, 98, 99, 100]) (by kernel_rfl) (by kernel_rfl) (.cons (bnt (vf h1086)) (.cons (show 0 + 2 ≤ 2 by decide) (.cons (show 0 + 2 ≤ 2 by decide) .nil))) q
inductive G_ringlaw5_LabelRuns_C18_R where
  | x0 (v_x1040 : Bool) (v_w1041 : (List Int)) (v_w1042 : (List Int))
def G_ringlaw5_LabelRuns_C18_ex : G_ringlaw5_LabelRuns_C18_R → Ex
  | .x0 _ _ _ => .normal
def G_ringlaw5_LabelRuns_C18_st (v_r93 : ((List Bool) × Int)) (v_r406 : ((List Int) × (List Int) × Int)) (v_x892 : Int) (v_acts3 : (List S_label_Act)) (v_who1 : (List S_label_Label)) (v_what2 : (List S_label_Label)) (v_z1029 : (List Int)) (v_z1030 : (List Int)) (v_y1021 : S_label_Act) : G_ringlaw5_LabelRuns_C18_R → PS
  | .x0 v_x1040 v_w1041 v_w1042 => ⟨[dd, dd, dd, dd, .ref 0 0, .ref 1 0, dd, dd, dd, .d (.sl (v_r93.1.map eB)), dd, .d (.sl (v_r406.1.map (eI .i64))), .d (.sl (v_r406.2.1.map (eI .i64))), .d (.v (.int .i64 v_r406.2.2)), dd, .srf 2, .srf 3, .d (.v (.int .i64 v_x892)), .ref 4 0, dd, dd, dd, dd, dd, dd, dd, dd, dd, dd, dd, dd, dd, dd, dd, dd, dd, dd, dd, dd, dd, dd, dd, dd, dd, dd, dd, dd, dd, dd, dd, dd, dd, dd, dd, dd, dd, dd, dd, dd, dd, dd, dd, dd, dd, dd, dd, dd, dd, dd, dd, dd, dd, dd, dd, dd, dd, dd, dd, dd, dd, dd, dd, dd, dd, dd, dd, dd, dd, dd, dd, dd, dd, dd, dd, dd, dd, dd, dd, .d (.sl (v_acts3.map eS_label_Act)), .d (.v (.int .i64 (v_acts3.length : Int))), .d (.v (.int .i64 v_x892)), dd, dd, dd, dd, dd, dd, dd, dd, dd, dd, dd, dd, dd, dd, dd, dd, dd, dd, dd, dd, dd, dd, dd, dd, dd, dd, dd, dd, dd, dd, dd, dd, dd, dd, dd, dd, dd, dd, dd, dd, dd, dd, dd, dd, dd, dd, dd, dd, dd, dd, dd, dd, dd, .d (.v (.bool v_x1040)), dd, dd, dd, dd, dd, dd, dd, dd, dd, dd, dd, dd, dd, dd, dd, dd, dd, dd, dd, dd, dd, dd, dd, dd, dd, dd, dd, dd, dd, dd, dd, dd, dd, dd, dd, dd, dd, dd, dd, dd, dd, dd, dd, dd, dd, dd, dd, dd, dd, dd, dd, dd, dd, dd, dd, dd, dd, dd, dd, dd, dd, dd], [.box [.d (.sl (v_who1.map eS_label_Label))], .box [.d (.sl (v_what2.map eS_label_Label))], .row 3 1 (v_w1041.map (eI .i64)), .row 3 1 (v_w1042.map (eI .i64)), .box [.d (.v (.int .i64 v_y1021.fWho)), .d (.v (.int .i64 v_y1021.fWhat)), .d (.v (.bool v_y1021.fWrite))]]⟩
def G_ringlaw5_LabelRuns_C18_hd (v_r93 : ((List Bool) × Int)) (v_r406 : ((List Int) × (List Int) × Int)) (v_x892 : Int) (v_acts3 : (List S_label_Act)) (v_who1 : (List S_label_Label)) (v_what2 : (List S_label_Label)) (v_z1029 : (List Int)) (v_z1030 : (List Int)) (v_y1021 : S_label_Act)  : PS := ⟨[dd, dd, dd, dd, .ref 0 0, .ref 1 0, dd, dd, dd, .d (.sl (v_r93.1.map eB)), dd, .d (.sl (v_r406.1.map (eI .i64))), .d (.sl (v_r406.2.1.map (eI .i64))), .d (.v (.int .i64 v_r406.2.2)), dd, .srf 2, .srf 3, .d (.v (.int .i64 v_x892)), .ref 4 0, dd, dd, dd, dd, dd, dd, dd, dd, dd, dd, dd, dd, dd, dd, dd, dd, dd, dd, dd, dd, dd, dd, dd, dd, dd, dd, dd, dd, dd, dd, dd, dd, dd, dd, dd, dd, dd, dd, dd, dd, dd, dd, dd, dd, dd, dd, dd, dd, dd, dd, dd, dd, dd, dd, dd, dd, dd, dd, dd, dd, dd, dd, dd, dd, dd, dd, dd, dd, dd, dd, dd, dd, dd, dd, dd, dd, dd, dd, dd, .d (.sl (v_acts3.map eS_label_Act)), .d (.v (.int .i64 (v_acts3.length : Int))), .d (.v (.int .i64 v_x892)), dd, dd, dd, dd, dd, dd, dd, dd, dd, dd, dd, dd, dd, dd, dd, dd, dd, dd, dd, dd, dd, dd, dd, dd, dd, dd, dd, dd, dd, dd, dd, dd, dd, dd, dd, dd, dd, dd, dd, dd, dd, dd, dd, dd, dd, dd, dd, dd, dd, dd, dd, dd, dd, dd, dd, dd, dd, dd, dd, dd, dd, dd, dd, dd, dd, dd, dd, dd, dd, dd, dd, dd, dd, dd, dd, dd, dd, dd, dd, dd, dd, dd, dd, dd, dd, dd, dd, dd, dd, dd, dd, dd, dd, dd, dd, dd, dd, dd, dd, dd, dd, dd, dd, dd, dd, dd, dd, dd, dd, dd, dd, dd, dd, dd, dd, dd], [.box [.d (.sl (v_who1.map eS_label_Label))], .box [.d (.sl (v_what2.map eS_label_Label))], .row 3 1 (v_z1029.map (eI .i64)), .row 3 1 (v_z1030.map (eI .i64)), .box [.d (.v (.int .i64 v_y1021.fWho)), .d (.v (.int .i64 v_y1021.fWhat)), .d (.v (.bool v_y1021.fWrite))]]⟩
def G_ringlaw5_LabelRuns_C18 (n : Nat) (v_r93 : ((List Bool) × Int)) (v_r406 : ((List Int) × (List Int) × Int)) (v_x892 : Int) (v_acts3 : (List S_label_Act)) (v_who1 : (List S_label_Label)) (v_what2 : (List S_label_Label)) (v_z1029 : (List Int)) (v_z1030 : (List Int)) (v_y1021 : S_label_Act) : Option G_ringlaw5_LabelRuns_C18_R :=
  (getI v_r93.1 v_x892).bind fun (v_y1037 : Bool) =>
  if v_y1037 = true then
   if v_y1021.fWrite = true then
    (G_slices_Contains_int_int n v_z1029 v_y1021.fWho).bind fun (v_r1038 : (Bool)) =>
    if v_r1038 = true then
     (G_slices_Contains_int_int n v_z1030 v_y1021.fWhat).bind fun (v_r1039 : (Bool)) =>
     some (.x0 (!v_r1039) v_z1029 v_z1030)
    else
     some (.x0 false v_z1029 v_z1030)
   else
    some (.x0 false v_z1029 v_z1030)
  else
   some (.x0 false v_z1029 v_z1030)
theorem G_ringlaw5_LabelRuns_C18_ok {Fi : Ex → PS → Prop} (hF : KC 217 Fi) (ks : List Fr) (n : Nat) (v_r93 : ((List Bool) × Int)) (v_r406 : ((List Int) × (List Int) × Int)) (v_x892 : Int) (v_acts3 : (List S_label_Act)) (v_who1 : (List S_label_Label)) (v_what2 : (List S_label_Label)) (v_z1029 : (List Int)) (v_z1030 : (List Int)) (v_y1021 : S_label_Act)  (o : G_ringlaw5_LabelRuns_C18_R) (h : G_ringlaw5_LabelRuns_C18 n v_r93 v_r406 v_x892 v_acts3 v_who1 v_what2 v_z1029 v_z1030 v_y1021 = some o) (q : RunE Try.prog 217 Fi ks (G_ringlaw5_LabelRuns_C18_ex o) (G_ringlaw5_LabelRuns_C18_st v_r93 v_r406 v_x892 v_acts3 v_who1 v_what2 v_z1029 v_z1030 v_y1021 o)) : RunE Try.prog 217 Fi (.s (cL (cL (cR (cR (cR (cR (cB (cL (cR (cR (cP (cB (cR (cL (cR (cR (cR (cR (cR (cR (cR (cR (cR (bodyOf Try.f5)))))))))))))))))))))))) :: ks) .normal (G_ringlaw5_LabelRuns_C18_hd v_r93 v_r406 v_x892 v_acts3 v_who1 v_what2 v_z1029 v_z1030 v_y1021) := by
  unfold G_ringlaw5_LabelRuns_C18 at h
  obtain ⟨v_y1037, h1097, h⟩ := bind_some h
  by_cases h1098 : v_y1037 = true
  · rw [if_pos h1098] at h
    by_cases h1099 : v_y1021.fWrite = true
    · rw [if_pos h1099] at h
      obtain ⟨v_r1038, h1100, h⟩ := bind_some h
      by_cases h1101 : v_r1038 = true
      · rw [if_pos h1101] at h
        obtain ⟨v_r1039, h1102, h⟩ := bind_some h
        cases h
        exact pkk_sound TTok mix hF 1 (hs := [.y (eB v_y1037), .c, .t true, .c, .c, .t true, .c, .c, .c, .c, .c, .r (eB v_r1038), .t true, .c, .c, .c, .c, .c, .r (eB v_r1039), .c]) (ts := []) (s := [0, 1, 2, 3, 4]) (l := [4, 5, 9, 11, 12, 13, 15, 16, 17, 18, 98, 99, 100, 154]) (by kernel_rfl) (by kernel_rfl) (.cons (getI_ob (f := eB) h1097) (.cons h1098 (.cons h1099 (.cons (G_slices_Contains_int_int_ok n v_z1029 v_y1021.fWho _ h1100) (.cons h1101 (.cons (G_slices_Contains_int_int_ok n v_z1030 v_y1021.fWhat _ h1102) .nil)))))) q
      · rw [if_neg h1101] at h
        cases h
        exact pkk_sound TTok mix hF 1 (hs := [.y (eB v_y1037), .c, .t true, .c, .c, .t true, .c, .c, .c, .c, .c, .r (eB v_r1038), .t false, .c, .c, .c, .c]) (ts := []) (s := [0, 1, 2, 3, 4]) (l := [4, 5, 9, 11, 12, 13, 15, 16, 17, 18, 98, 99, 100, 154]) (by kernel_rfl) (by kernel_rfl) (.cons (getI_ob (f := eB) h1097) (.cons h1098 (.cons h1099 (.cons (G_slices_Contains_int_int_ok n v_z1029 v_y1021.fWho _ h1100) (.cons (vf h1101) .nil))))) q
    · rw [if_neg h1099] at h
      cases h
      exact pkk_sound TTok mix hF 1 (hs := [.y (eB v_y1037), .c, .t true, .c, .c, .t false, .c, .c, .c, .c, .c, .c, .c, .c]) (ts := []) (s := [0, 1, 2, 3, 4]) (l := [4, 5, 9, 11, 12, 13, 15, 16, 17, 18, 98, 99, 100, 154]) (by kernel_rfl) (by kernel_rfl) (.cons (getI_ob (f := eB) h1097) (.cons h1098 (.cons (vf h1099) .nil))) q
  · rw [if_neg h1098] at h
    cases h
    exact pkk_sound TTok mix hF 1 (hs := [.y (eB v_y1037), .c, .t false, .c, .c, .c, .c, .c, .c, .c, .c, .c, .c]) (ts := []) (s := [0, 1, 2, 3, 4]) (l := [4, 5, 9, 11, 12, 13, 15, 16, 17, 18, 98, 99, 100, 154]) (by kernel_rfl) (by kernel_rfl) (.cons (getI_ob (f := eB) h1097) (.cons (vf h1098) .nil)) q
inductive G_ringlaw5_LabelRuns_C19_R where
  | x0 (v_w1058 : (List Int)) (v_w1059 : (List Int))
def G_ringlaw5_LabelRuns_C19_ex : G_ringlaw5_LabelRuns_C19_R → Ex
  | .x0 _ _ => .normal
def G_ringlaw5_LabelRuns_C19_st (v_r93 : ((List Bool) × Int)) (v_r406 : ((List Int) × (List Int) × Int)) (v_x892 : Int) (v_acts3 : (List S_label_Act)) (v_z1053 : Bool) (v_who1 : (List S_label_Label)) (v_what2 : (List S_label_Label)) (v_z1054 : (List Int)) (v_z1055 : (List Int)) (v_y1021 : S_label_Act) : G_ringlaw5_LabelRuns_C19_R → PS
  | .x0 v_w1058 v_w1059 => ⟨[dd, dd, dd, dd, .ref 0 0, .ref 1 0, dd, dd, dd, .d (.sl (v_r93.1.map eB)), dd, .d (.sl (v_r406.1.map (eI .i64))), .d (.sl (v_r406.2.1.map (eI .i64))), .d (.v (.int .i64 v_r406.2.2)), dd, .srf 2, .srf 3, .d (.v (.int .i64 v_x892)), .ref 4 0, dd, dd, dd, dd, dd, dd, dd, dd, dd, dd, dd, dd, dd, dd, dd, dd, dd, dd, dd, dd, dd, dd, dd, dd, dd, dd, dd, dd, dd, dd, dd, dd, dd, dd, dd, dd, dd, dd, dd, dd, dd, dd, dd, dd, dd, dd, dd, dd, dd, dd, dd, dd, dd, dd, dd, dd, dd, dd, dd, dd, dd, dd, dd, dd, dd, dd, dd, dd, dd, dd, dd, dd, dd, dd, dd, dd, dd, dd, dd, .d (.sl (v_acts3.map eS_label_Act)), .d (.v (.int .i64 (v_acts3.length : Int))), .d (.v (.int .i64 v_x892)), dd, dd, dd, dd, dd, dd, dd, dd, dd, dd, dd, dd, dd, dd, dd, dd, dd, dd, dd, dd, dd, dd, dd, dd, dd, dd, dd, dd, dd, dd, dd, dd, dd, dd, dd, dd, dd, dd, dd, dd, dd, dd, dd, dd, dd, dd, dd, dd, dd, dd, dd, dd, dd, dd, dd, dd, dd, dd, dd, dd, dd, dd, dd, dd, dd, dd, dd, dd, dd, dd, dd, dd, dd, dd, dd, dd, dd, dd, dd, dd, dd, dd, dd, dd, dd, dd, dd, dd, dd, dd, dd, dd, dd, dd, dd, dd, dd, dd, dd, dd, dd, dd, dd, dd, dd, dd, dd, dd, dd, dd, dd, dd, dd, dd, dd, dd], [.box [.d (.sl (v_who1.map eS_label_Label))], .box [.d (.sl (v_what2.map eS_label_Label))], .row 3 1 (v_w1058.map (eI .i64)), .row 3 1 (v_w1059.map (eI .i64)), .box [.d (.v (.int .i64 v_y1021.fWho)), .d (.v (.int .i64 v_y1021.fWhat)), .d (.v (.bool v_y1021.fWrite))]]⟩
def G_ringlaw5_LabelRuns_C19_hd (v_r93 : ((List Bool) × Int)) (v_r406 : ((List Int) × (List Int) × Int)) (v_x892 : Int) (v_acts3 : (List S_label_Act)) (v_z1053 : Bool) (v_who1 : (List S_label_Label)) (v_what2 : (List S_label_Label)) (v_z1054 : (List Int)) (v_z1055 : (List Int)) (v_y1021 : S_label_Act)  : PS := ⟨[dd, dd, dd, dd, .ref 0 0, .ref 1 0, dd, dd, dd, .d (.sl (v_r93.1.map eB)), dd, .d (.sl (v_r406.1.map (eI .i64))), .d (.sl (v_r406.2.1.map (eI .i64))), .d (.v (.int .i64 v_r406.2.2)), dd, .srf 2, .srf 3, .d (.v (.int .i64 v_x892)), .ref 4 0, dd, dd, dd, dd, dd, dd, dd, dd, dd, dd, dd, dd, dd, dd, dd, dd, dd, dd, dd, dd, dd, dd, dd, dd, dd, dd, dd, dd, dd, dd, dd, dd, dd, dd, dd, dd, dd, dd, dd, dd, dd, dd, dd, dd, dd, dd, dd, dd, dd, dd, dd, dd, dd, dd, dd, dd, dd, dd, dd, dd, dd, dd, dd, dd, dd, dd, dd, dd, dd, dd, dd, dd, dd, dd, dd, dd, dd, dd, dd, .d (.sl (v_acts3.map eS_label_Act)), .d (.v (.int .i64 (v_acts3.length : Int))), .d (.v (.int .i64 v_x892)), dd, dd, dd, dd, dd, dd, dd, dd, dd, dd, dd, dd, dd, dd, dd, dd, dd, dd, dd, dd, dd, dd, dd, dd, dd, dd, dd, dd, dd, dd, dd, dd, dd, dd, dd, dd, dd, dd, dd, dd, dd, dd, dd, dd, dd, dd, dd, dd, dd, dd, dd, dd, dd, .d (.v (.bool v_z1053)), dd, dd, dd, dd, dd, dd, dd, dd, dd, dd, dd, dd, dd, dd, dd, dd, dd, dd, dd, dd, dd, dd, dd, dd, dd, dd, dd, dd, dd, dd, dd, dd, dd, dd, dd, dd, dd, dd, dd, dd, dd, dd, dd, dd, dd, dd, dd, dd, dd, dd, dd, dd, dd, dd, dd, dd, dd, dd, dd, dd, dd, dd], [.box [.d (.sl (v_who1.map eS_label_Label))], .box [.d (.sl (v_what2.map eS_label_Label))], .row 3 1 (v_z1054.map (eI .i64)), .row 3 1 (v_z1055.map (eI .i64)), .box [.d (.v (.int .i64 v_y1021.fWho)), .d (.v (.int .i64 v_y1021.fWhat)), .d (.v (.bool v_y1021.fWrite))]]⟩
def G_ringlaw5_LabelRuns_C19 (n : Nat) (v_r93 : ((List Bool) × Int)) (v_r406 : ((List Int) × (List Int) × Int)) (v_x892 : Int) (v_acts3 : (List S_label_Act)) (v_z1053 : Bool) (v_who1 : (List S_label_Label)) (v_what2 : (List S_label_Label)) (v_z1054 : (List Int)) (v_z1055 : (List Int)) (v_y1021 : S_label_Act) : Option G_ringlaw5_LabelRuns_C19_R :=
  if v_z1053 = true then
   (app 8 v_z1055 ([v_y1021.fWhat])).bind fun (v_a1057 : (List Int)) =>
   some (.x0 v_z1054 v_a1057)
  else
   some (.x0 v_z1054 v_z1055)
theorem G_ringlaw5_LabelRuns_C19_ok {Fi : Ex → PS → Prop} (hF : KC 217 Fi) (ks : List Fr) (n : Nat) (v_r93 : ((List Bool) × Int)) (v_r406 : ((List Int) × (List Int) × Int)) (v_x892 : Int) (v_acts3 : (List S_label_Act)) (v_z1053 : Bool) (v_who1 : (List S_label_Label)) (v_what2 : (List S_label_Label)) (v_z1054 : (List Int)) (v_z1055 : (List Int)) (v_y1021 : S_label_Act)  (o : G_ringlaw5_LabelRuns_C19_R) (h : G_ringlaw5_LabelRuns_C19 n v_r93 v_r406 v_x892 v_acts3 v_z1053 v_who1 v_what2 v_z1054 v_z1055 v_y1021 = some o) (q : RunE Try.prog 217 Fi ks (G_ringlaw5_LabelRuns_C19_ex o) (G_ringlaw5_LabelRuns_C19_st v_r93 v_r406 v_x892 v_acts3 v_z1053 v_who1 v_what2 v_z1054 v_z1055 v_y1021 o)) : RunE Try.prog 217 Fi (.s (cR (cL (cR (cR (cR (cR (cB (cL (cR (cR (cP (cB (cR (cL (cR (cR (cR (cR (cR (cR (cR (cR (cR (bodyOf Try.f5)))))))))))))))))))))))) :: ks) .normal (G_ringlaw5_LabelRuns_C19_hd v_r93 v_r406 v_x892 v_acts3 v_z1053 v_who1 v_what2 v_z1054 v_z1055 v_y1021) := by
  unfold G_ringlaw5_LabelRuns_C19 at h
  by_cases h1106 : v_z1053 = true
  · rw [if_pos h1106] at h
    obtain ⟨v_a1057, h1107, h⟩ := bind_some h
    cases h
    exact pkk_sound TTok mix hF 2 (hs := [.t true, .c, .bd, .w (v_a1057.map (eI .i64))]) (ts := []) (s := [0, 1, 2, 17, 4]) (l := [4, 5, 9, 11, 12, 13, 15, 16, 17, 18, 98, 99, 100]) (by kernel_rfl) (by kernel_rfl) (.cons h1106 (.cons (app_ob (f := (eI .i64)) (s := 1) h1107 (fun _ => rfl)).1 (.cons (app_ob (f := (eI .i64)) (s := 1) h1107 (fun _ => rfl)).2.1 (.cons (app_ob (f := (eI .i64)) (s := 1) h1107 (fun _ => rfl)).2.2.1 (.cons (app_ob (f := (eI .i64)) (s := 1) h1107 (fun _ => rfl)).2.2.2 .nil))))) q
  · rw [if_neg h1106] at h
    cases h
    exact pkk_sound TTok mix hF 2 (hs := [.t false]) (ts := []) (s := [0, 1, 2, 3, 4]) (l := [4, 5, 9, 11, 12, 13, 15, 16, 17, 18, 98, 99, 100]) (by kernel_rfl) (by kernel_rfl) (.cons (vf h1106) .nil) q
inductive G_ringlaw5_LabelRuns_C20_R where
  | x0 (v_x1071 : Bool) (v_w1072 : (List Int)) (v_w1073 : (List Int))
def G_ringlaw5_LabelRuns_C20_ex : G_ringlaw5_LabelRuns_C20_R → Ex
  | .x0 _ _ _ => .normal
def G_ringlaw5_LabelRuns_C20_st (v_r93 : ((List Bool) × Int)) (v_r406 : ((List Int) × (List Int) × Int)) (v_x892 : Int) (v_acts3 : (List S_label_Act)) (v_who1 : (List S_label_Label)) (v_what2 : (List S_label_Label)) (v_z1063 : (List Int)) (v_z1064 : (List Int)) (v_y1021 : S_label_Act) : G_ringlaw5_LabelRuns_C20_R → PS
  | .x0 v_x1071 v_w1072 v_w1073 => ⟨[dd, dd, dd, dd, .ref 0 0, .ref 1 0, dd, dd, dd, .d (.sl (v_r93.1.map eB)), dd, .d (.sl (v_r406.1.map (eI .i64))), .d (.sl (v_r406.2.1.map (eI .i64))), .d (.v (.int .i64 v_r406.2.2)), dd, .srf 2, .srf 3, dd, .ref 4 0, dd, dd, dd, dd, dd, dd, dd, dd, dd, dd, dd, dd, dd, dd, dd, dd, dd, dd, dd, dd, dd, dd, dd, dd, dd, dd, dd, dd, dd, dd, dd, dd, dd, dd, dd, dd, dd, dd, dd, dd, dd, dd, dd, dd, dd, dd, dd, dd, dd, dd, dd, dd, dd, dd, dd, dd, dd, dd, dd, dd, dd, dd, dd, dd, dd, dd, dd, dd, dd, dd, dd, dd, dd, dd, dd, dd, dd, dd, dd, .d (.sl (v_acts3.map eS_label_Act)), .d (.v (.int .i64 (v_acts3.length : Int))), .d (.v (.int .i64 v_x892)), dd, dd, dd, dd, dd, dd, dd, dd, dd, dd, dd, dd, dd, dd, dd, dd, dd, dd, dd, dd, dd, dd, dd, dd, dd, dd, dd, dd, dd, dd, dd, dd, dd, dd, dd, dd, dd, dd, dd, dd, dd, dd, dd, dd, dd, dd, dd, dd, dd, dd, dd, dd, dd, dd, dd, dd, dd, dd, dd, dd, dd, dd, dd, dd, dd, dd, dd, dd, dd, dd, dd, dd, dd, dd, dd, dd, dd, dd, dd, dd, .d (.v (.bool v_x1071)), dd, dd, dd, dd, dd, dd, dd, dd, dd, dd, dd, dd, dd, dd, dd, dd, dd, dd, dd, dd, dd, dd, dd, dd, dd, dd, dd, dd, dd, dd, dd, dd, dd, dd, dd], [.box [.d (.sl (v_who1.map eS_label_Label))], .box [.d (.sl (v_what2.map eS_label_Label))], .row 3 1 (v_w1072.map (eI .i64)), .row 3 1 (v_w1073.map (eI .i64)), .box [.d (.v (.int .i64 v_y1021.fWho)), .d (.v (.int .i64 v_y1021.fWhat)), .d (.v (.bool v_y1021.fWrite))]]⟩
def G_ringlaw5_LabelRuns_C20_hd (v_r93 : ((List Bool) × Int)) (v_r406 : ((List Int) × (List Int) × Int)) (v_x892 : Int) (v_acts3 : (List S_label_Act)) (v_who1 : (List S_label_Label)) (v_what2 : (List S_label_Label)) (v_z1063 : (List Int)) (v_z1064 : (List Int)) (v_y1021 : S_label_Act)  : PS := ⟨[dd, dd, dd, dd, .ref 0 0, .ref 1 0, dd, dd, dd, .d (.sl (v_r93.1.map eB)), dd, .d (.sl (v_r406.1.map (eI .i64))), .d (.sl (v_r406.2.1.map (eI .i64))), .d (.v (.int .i64 v_r406.2.2)), dd, .srf 2, .srf 3, .d (.v (.int .i64 v_x892)), .ref 4 0, dd, dd, dd, dd, dd, dd, dd, dd, dd, dd, dd, dd, dd, dd, dd, dd, dd, dd, dd, dd, dd, dd, dd, dd, dd, dd, dd, dd, dd, dd, dd, dd, dd, dd, dd, dd, dd, dd, dd, dd, dd, dd, dd, dd, dd, dd, dd, dd, dd, dd, dd, dd, dd, dd, dd, dd, dd, dd, dd, dd, dd, dd, dd, dd, dd, dd, dd, dd, dd, dd, dd, dd, dd, dd, dd, dd, dd, dd, dd, .d (.sl (v_acts3.map eS_label_Act)), .d (.v (.int .i64 (v_acts3.length : Int))), .d (.v (.int .i64 v_x892)), dd, dd, dd, dd, dd, dd, dd, dd, dd, dd, dd, dd, dd, dd, dd, dd, dd, dd, dd, dd, dd, dd, dd, dd, dd, dd, dd, dd, dd, dd, dd, dd, dd, dd, dd, dd, dd, dd, dd, dd, dd, dd, dd, dd, dd, dd, dd, dd, dd, dd, dd, dd, dd, dd, dd, dd, dd, dd, dd, dd, dd, dd, dd, dd, dd, dd, dd, dd, dd, dd, dd, dd, dd, dd, dd, dd, dd, dd, dd, dd, dd, dd, dd, dd, dd, dd, dd, dd, dd, dd, dd, dd, dd, dd, dd, dd, dd, dd, dd, dd, dd, dd, dd, dd, dd, dd, dd, dd, dd, dd, dd, dd, dd, dd, dd, dd], [.box [.d (.sl (v_who1.map eS_label_Label))], .box [.d (.sl (v_what2.map eS_label_Label))], .row 3 1 (v_z1063.map (eI .i64)), .row 3 1 (v_z1064.map (eI .i64)), .box [.d (.v (.int .i64 v_y1021.fWho)), .d (.v (.int .i64 v_y1021.fWhat)), .d (.v (.bool v_y1021.fWrite))]]⟩
def G_ringlaw5_LabelRuns_C20 (n : Nat) (v_r93 : ((List Bool) × Int)) (v_r406 : ((List Int) × (List Int) × Int)) (v_x892 : Int) (v_acts3 : (List S_label_Act)) (v_who1 : (List S_label_Label)) (v_what2 : (List S_label_Label)) (v_z1063 : (List Int)) (v_z1064 : (List Int)) (v_y1021 : S_label_Act) : Option G_ringlaw5_LabelRuns_C20_R :=
  (getI v_r93.1 v_x892).bind fun (v_y1068 : Bool) =>
  if v_y1068 = true then
   if v_y1021.fWrite = true then
    some (.x0 false v_z1063 v_z1064)
   else
    (G_slices_Contains_int_int n v_z1064 v_y1021.fWhat).bind fun (v_r1069 : (Bool)) =>
    if v_r1069 = true then
     (G_slices_Contains_int_int n v_z1063 v_y1021.fWho).bind fun (v_r1070 : (Bool)) =>
     some (.x0 (!v_r1070) v_z1063 v_z1064)
    else
     some (.x0 false v_z1063 v_z1064)
  else
   some (.x0 false v_z1063 v_z1064)
theorem G_ringlaw5_LabelRuns_C20_ok {Fi : Ex → PS → Prop} (hF : KC 217 Fi) (ks : List Fr) (n : Nat) (v_r93 : ((List Bool) × Int)) (v_r406 : ((List Int) × (List Int) × Int)) (v_x892 : Int) (v_acts3 : (List S_label_Act)) (v_who1 : (List S_label_Label)) (v_what2 : (List S_label_Label)) (v_z1063 : (List Int)) (v_z1064 : (List Int)) (v_y1021 : S_label_Act)  (o : G_ringlaw5_LabelRuns_C20_R) (h : G_ringlaw5_LabelRuns_C20 n v_r93 v_r406 v_x892 v_acts3 v_who1 v_what2 v_z1063 v_z1064 v_y1021 = some o) (q : RunE Try.prog 217 Fi ks (G_ringlaw5_LabelRuns_C20_ex o) (G_ringlaw5_LabelRuns_C20_st v_r93 v_r406 v_x892 v_acts3 v_who1 v_what2 v_z1063 v_z1064 v_y1021 o)) : RunE Try.prog 217 Fi (.s (cL (cR (cR (cR (cR (cR (cB (cL (cR (cR (cP (cB (cR (cL (cR (cR (cR (cR (cR (cR (cR (cR (cR (bodyOf Try.f5)))))))))))))))))))))))) :: ks) .normal (G_ringlaw5_LabelRuns_C20_hd v_r93 v_r406 v_x892 v_acts3 v_who1 v_what2 v_z1063 v_z1064 v_y1021) := by
  unfold G_ringlaw5_LabelRuns_C20 at h
  obtain ⟨v_y1068, h1115, h⟩ := bind_some h
  by_cases h1116 : v_y1068 = true
  · rw [if_pos h1116] at h
    by_cases h1117 : v_y1021.fWrite = true
    · rw [if_pos h1117] at h
      cases h
      exact pkk_sound TTok mix hF 1 (hs := [.y (eB v_y1068), .c, .t true, .c, .c, .c, .t false, .c, .c, .c, .c, .c, .c, .c, .c]) (ts := []) (s := [0, 1, 2, 3, 4]) (l := [4, 5, 9, 11, 12, 13, 15, 16, 18, 98, 99, 100, 181]) (by kernel_rfl) (by kernel_rfl) (.cons (getI_ob (f := eB) h1115) (.cons h1116 (.cons (bnf h1117) .nil))) q
    · rw [if_neg h1117] at h
      obtain ⟨v_r1069, h1118, h⟩ := bind_some h
      by_cases h1119 : v_r1069 = true
      · rw [if_pos h1119] at h
        obtain ⟨v_r1070, h1120, h⟩ := bind_some h
        cases h
        exact pkk_sound TTok mix hF 1 (hs := [.y (eB v_y1068), .c, .t true, .c, .c, .c, .t true, .c, .c, .c, .c, .c, .r (eB v_r1069), .t true, .c, .c, .c, .c, .c, .r (eB v_r1070), .c]) (ts := []) (s := [0, 1, 2, 3, 4]) (l := [4, 5, 9, 11, 12, 13, 15, 16, 18, 98, 99, 100, 181]) (by kernel_rfl) (by kernel_rfl) (.cons (getI_ob (f := eB) h1115) (.cons h1116 (.cons (bnt (vf h1117)) (.cons (G_slices_Contains_int_int_ok n v_z1064 v_y1021.fWhat _ h1118) (.cons h1119 (.cons (G_slices_Contains_int_int_ok n v_z1063 v_y1021.fWho _ h1120) .nil)))))) q
      · rw [if_neg h1119] at h
        cases h
        exact pkk_sound TTok mix hF 1 (hs := [.y (eB v_y1068), .c, .t true, .c, .c, .c, .t true, .c, .c, .c, .c, .c, .r (eB v_r1069), .t false, .c, .c, .c, .c]) (ts := []) (s := [0, 1, 2, 3, 4]) (l := [4, 5, 9, 11, 12, 13, 15, 16, 18, 98, 99, 100, 181]) (by kernel_rfl) (by kernel_rfl) (.cons (getI_ob (f := eB) h1115) (.cons h1116 (.cons (bnt (vf h1117)) (.cons (G_slices_Contains_int_int_ok n v_z1064 v_y1021.fWhat _ h1118) (.cons (vf h1119) .nil))))) q
  · rw [if_neg h1116] at h
    cases h
    exact pkk_sound TTok mix hF 1 (hs := [.y (eB v_y1068), .c, .t false, .c, .c, .c, .c, .c, .c, .c, .c, .c, .c, .c]) (ts := []) (s := [0, 1, 2, 3, 4]) (l := [4, 5, 9, 11, 12, 13, 15, 16, 18, 98, 99, 100, 181]) (by kernel_rfl) (by kernel_rfl) (.cons (getI_ob (f := eB) h1115) (.cons (vf h1116) .nil)) q
inductive G_ringlaw5_LabelRuns_C21_R where
  | x0 (v_x1104 : Bool) (v_w1105 : (List Int)) (v_w1106 : (List Int))
def G_ringlaw5_LabelRuns_C21_ex : G_ringlaw5_LabelRuns_C21_R → Ex
  | .x0 _ _ _ => .normal
def G_ringlaw5_LabelRuns_C21_st (v_r93 : ((List Bool) × Int)) (v_r406 : ((List Int) × (List Int) × Int)) (v_x892 : Int) (v_acts3 : (List S_label_Act)) (v_who1 : (List S_label_Label)) (v_what2 : (List S_label_Label)) (v_z1093 : (List Int)) (v_z1094 : (List Int)) (v_y1021 : S_label_Act) : G_ringlaw5_LabelRuns_C21_R → PS
  | .x0 v_x1104 v_w1105 v_w1106 => ⟨[dd, dd, dd, dd, .ref 0 0, .ref 1 0, dd, dd, dd, .d (.sl (v_r93.1.map eB)), dd, .d (.sl (v_r406.1.map (eI .i64))), .d (.sl (v_r406.2.1.map (eI .i64))), .d (.v (.int .i64 v_r406.2.2)), dd, .srf 2, .srf 3, .d (.v (.int .i64 v_x892)), .ref 4 0, dd, dd, dd, dd, dd, dd, dd, dd, dd, dd, dd, dd, dd, dd, dd, dd, dd, dd, dd, dd, dd, dd, dd, dd, dd, dd, dd, dd, dd, dd, dd, dd, dd, dd, dd, dd, dd, dd, dd, dd, dd, dd, dd, dd, dd, dd, dd, dd, dd, dd, dd, dd, dd, dd, dd, dd, dd, dd, dd, dd, dd, dd, dd, dd, dd, dd, dd, dd, dd, dd, dd, dd, dd, dd, dd, dd, dd, dd, dd, .d (.sl (v_acts3.map eS_label_Act)), .d (.v (.int .i64 (v_acts3.length : Int))), .d (.v (.int .i64 v_x892)), dd, dd, dd, dd, dd, dd, dd, dd, dd, dd, dd, dd, dd, dd, dd, dd, dd, dd, dd, dd, dd, dd, dd, dd, dd, dd, dd, dd, dd, dd, dd, dd, dd, dd, dd, dd, dd, dd, dd, dd, dd, dd, dd, dd, dd, dd, dd, dd, dd, dd, dd, dd, dd, .d (.v (.bool v_x1104)), dd, dd, dd, dd, dd, dd, dd, dd, dd, dd, dd, dd, dd, dd, dd, dd, dd, dd, dd, dd, dd, dd, dd, dd, dd, dd, dd, dd, dd, dd, dd, dd, dd, dd, dd, dd, dd, dd, dd, dd, dd, dd, dd, dd, dd, dd, dd, dd, dd, dd, dd, dd, dd, dd, dd, dd, dd, dd, dd, dd, dd, dd], [.box [.d (.sl (v_who1.map eS_label_Label))], .box [.d (.sl (v_what2.map eS_label_Label))], .row 3 1 (v_w1105.map (eI .i64)), .row 3 1 (v_w1106.map (eI .i64)), .box [.d (.v (.int .i64 v_y1021.fWho)), .d (.v (.int .i64 v_y1021.fWhat)), .d (.v (.bool v_y1021.fWrite))]]⟩
def G_ringlaw5_LabelRuns_C21_hd (v_r93 : ((List Bool) × Int)) (v_r406 : ((List Int) × (List Int) × Int)) (v_x892 : Int) (v_acts3 : (List S_label_Act)) (v_who1 : (List S_label_Label)) (v_what2 : (List S_label_Label)) (v_z1093 : (List Int)) (v_z1094 : (List Int)) (v_y1021 : S_label_Act)  : PS := ⟨[dd, dd, dd, dd, .ref 0 0, .ref 1 0, dd, dd, dd, .d (.sl (v_r93.1.map eB)), dd, .d (.sl (v_r406.1.map (eI .i64))), .d (.sl (v_r406.2.1.map (eI .i64))), .d (.v (.int .i64 v_r406.2.2)), dd, .srf 2, .srf 3, .d (.v (.int .i64 v_x892)), .ref 4 0, dd, dd, dd, dd, dd, dd, dd, dd, dd, dd, dd, dd, dd, dd, dd, dd, dd, dd, dd, dd, dd, dd, dd, dd, dd, dd, dd, dd, dd, dd, dd, dd, dd, dd, dd, dd, dd, dd, dd, dd, dd, dd, dd, dd, dd, dd, dd, dd, dd, dd, dd, dd, dd, dd, dd, dd, dd, dd, dd, dd, dd, dd, dd, dd, dd, dd, dd, dd, dd, dd, dd, dd, dd, dd, dd, dd, dd, dd, dd, .d (.sl (v_acts3.map eS_label_Act)), .d (.v (.int .i64 (v_acts3.length : Int))), .d (.v (.int .i64 v_x892)), dd, dd, dd, dd, dd, dd, dd, dd, dd, dd, dd, dd, dd, dd, dd, dd, dd, dd, dd, dd, dd, dd, dd, dd, dd, dd, dd, dd, dd, dd, dd, dd, dd, dd, dd, dd, dd, dd, dd, dd, dd, dd, dd, dd, dd, dd, dd, dd, dd, dd, dd, dd, dd, dd, dd, dd, dd, dd, dd, dd, dd, dd, dd, dd, dd, dd, dd, dd, dd, dd, dd, dd, dd, dd, dd, dd, dd, dd, dd, dd, dd, dd, dd, dd, dd, dd, dd, dd, dd, dd, dd, dd, dd, dd, dd, dd, dd, dd, dd, dd, dd, dd, dd, dd, dd, dd, dd, dd, dd, dd, dd, dd, dd, dd, dd, dd], [.box [.d (.sl (v_who1.map eS_label_Label))], .box [.d (.sl (v_what2.map eS_label_Label))], .row 3 1 (v_z1093.map (eI .i64)), .row 3 1 (v_z1094.map (eI .i64)), .box [.d (.v (.int .i64 v_y1021.fWho)), .d (.v (.int .i64 v_y1021.fWhat)), .d (.v (.bool v_y1021.fWrite))]]⟩
def G_ringlaw5_LabelRuns_C21 (n : Nat) (v_r93 : ((List Bool) × Int)) (v_r406 : ((List Int) × (List Int) × Int)) (v_x892 : Int) (v_acts3 : (List S_label_Act)) (v_who1 : (List S_label_Label)) (v_what2 : (List S_label_Label)) (v_z1093 : (List Int)) (v_z1094 : (List Int)) (v_y1021 : S_label_Act) : Option G_ringlaw5_LabelRuns_C21_R :=
  (getI v_r93.1 v_x892).bind fun (v_y1101 : Bool) =>
  if v_y1101 = true then
   if v_y1021.fWrite = true then
    (G_slices_Contains_int_int n v_z1093 v_y1021.fWho).bind fun (v_r1102 : (Bool)) =>
    if v_r1102 = true then
     (G_slices_Contains_int_int n v_z1094 v_y1021.fWhat).bind fun (v_r1103 : (Bool)) =>
     some (.x0 (!v_r1103) v_z1093 v_z1094)
    else
     some (.x0 false v_z1093 v_z1094)
   else
    some (.x0 false v_z1093 v_z1094)
  else
   some (.x0 false v_z1093 v_z1094)
theorem G_ringlaw5_LabelRuns_C21_ok {Fi : Ex → PS → Prop} (hF : KC 217 Fi) (ks : List Fr) (n : Nat) (v_r93 : ((List Bool) × Int)) (v_r406 : ((List Int) × (List Int) × Int)) (v_x892 : Int) (v_acts3 : (List S_label_Act)) (v_who1 : (List S_label_Label)) (v_what2 : (List S_label_Label)) (v_z1093 : (List Int)) (v_z1094 : (List Int)) (v_y1021 : S_label_Act)  (o : G_ringlaw5_LabelRuns_C21_R) (h : G_ringlaw5_LabelRuns_C21 n v_r93 v_r406 v_x892 v_acts3 v_who1 v_what2 v_z1093 v_z1094 v_y1021 = some o) (q : RunE Try.prog 217 Fi ks (G_ringlaw5_LabelRuns_C21_ex o) (G_ringlaw5_LabelRuns_C21_st v_r93 v_r406 v_x892 v_acts3 v_who1 v_what2 v_z1093 v_z1094 v_y1021 o)) : RunE Try.prog 217 Fi (.s (cL (cL (cR (cR (cR (cR (cB (cL (cR (cR (cP (cB (cR (cL (cR (cR (cR (cR (cR (cR (cR (cR (cR (bodyOf Try.f5)))))))))))))))))))))))) :: ks) .normal (G_ringlaw5_LabelRuns_C21_hd v_r93 v_r406 v_x892 v_acts3 v_who1 v_what2 v_z1093 v_z1094 v_y1021) := by
  unfold G_ringlaw5_LabelRuns_C21 at h
  obtain ⟨v_y1101, h1135, h⟩ := bind_some h
  by_cases h1136 : v_y1101 = true
  · rw [if_pos h1136] at h
    by_cases h1137 : v_y1021.fWrite = true
    · rw [if_pos h1137] at h
      obtain ⟨v_r1102, h1138, h⟩ := bind_some h
      by_cases h1139 : v_r1102 = true
      · rw [if_pos h1139] at h
        obtain ⟨v_r1103, h1140, h⟩ := bind_some h
        cases h
        exact pkk_sound TTok mix hF 1 (hs := [.y (eB v_y1101), .c, .t true, .c, .c, .t true, .c, .c, .c, .c, .c, .r (eB v_r1102), .t true, .c, .c, .c, .c, .c, .r (eB v_r1103), .c]) (ts := []) (s := [0, 1, 2, 3, 4]) (l := [4, 5, 9, 11, 12, 13, 15, 16, 17, 18, 98, 99, 100, 154]) (by kernel_rfl) (by kernel_rfl) (.cons (getI_ob (f := eB) h1135) (.cons h1136 (.cons h1137 (.cons (G_slices_Contains_int_int_ok n v_z1093 v_y1021.fWho _ h1138) (.cons h1139 (.cons (G_slices_Contains_int_int_ok n v_z1094 v_y1021.fWhat _ h1140) .nil)))))) q
      · rw [if_neg h1139] at h
        cases h
        exact pkk_sound TTok mix hF 1 (hs := [.y (eB v_y1101), .c, .t true, .c, .c, .t true, .c, .c, .c, .c, .c, .r (eB v_r1102), .t false, .c, .c, .c, .c]) (ts := []) (s := [0, 1, 2, 3, 4]) (l := [4, 5, 9, 11, 12, 13, 15, 16, 17, 18, 98, 99, 100, 154]) (by kernel_rfl) (by kernel_rfl) (.cons (getI_ob (f := eB) h1135) (.cons h1136 (.cons h1137 (.cons (G_slices_Contains_int_int_ok n v_z1093 v_y1021.fWho _ h1138) (.cons (vf h1139) .nil))))) q
    · rw [if_neg h1137] at h
      cases h
      exact pkk_sound TTok mix hF 1 (hs := [.y (eB v_y1101), .c, .t true, .c, .c, .t false, .c, .c, .c, .c, .c, .c, .c, .c]) (ts := []) (s := [0, 1, 2, 3, 4]) (l := [4, 5, 9, 11, 12, 13, 15, 16, 17, 18, 98, 99, 100, 154]) (by kernel_rfl) (by kernel_rfl) (.cons (getI_ob (f := eB) h1135) (.cons h1136 (.cons (vf h1137) .nil))) q
  · rw [if_neg h1136] at h
    cases h
    exact pkk_sound TTok mix hF 1 (hs := [.y (eB v_y1101), .c, .t false, .c, .c, .c, .c, .c, .c, .c, .c, .c, .c]) (ts := []) (s := [0, 1, 2, 3, 4]) (l := [4, 5, 9, 11, 12, 13, 15, 16, 17, 18, 98, 99, 100, 154]) (by kernel_rfl) (by kernel_rfl) (.cons (getI_ob (f := eB) h1135) (.cons (vf h1136) .nil)) q
inductive G_ringlaw5_LabelRuns_C22_R where
  | x0 (v_w1122 : (List Int)) (v_w1123 : (List Int))
def G_ringlaw5_LabelRuns_C22_ex : G_ringlaw5_LabelRuns_C22_R → Ex
  | .x0 _ _ => .normal
def G_ringlaw5_LabelRuns_C22_st (v_r93 : ((List Bool) × Int)) (v_r406 : ((List Int) × (List Int) × Int)) (v_x892 : Int) (v_acts3 : (List S_label_Act)) (v_z1117 : Bool) (v_who1 : (List S_label_Label)) (v_what2 : (List S_label_Label)) (v_z1118 : (List Int)) (v_z1119 : (List Int)) (v_y1021 : S_label_Act) : G_ringlaw5_LabelRuns_C22_R → PS
  | .x0 v_w1122 v_w1123 => ⟨[dd, dd, dd, dd, .ref 0 0, .ref 1 0, dd, dd, dd, .d (.sl (v_r93.1.map eB)), dd, .d (.sl (v_r406.1.map (eI .i64))), .d (.sl (v_r406.2.1.map (eI .i64))), .d (.v (.int .i64 v_r406.2.2)), dd, .srf 2, .srf 3, .d (.v (.int .i64 v_x892)), .ref 4 0, dd, dd, dd, dd, dd, dd, dd, dd, dd, dd, dd, dd, dd, dd, dd, dd, dd, dd, dd, dd, dd, dd, dd, dd, dd, dd, dd, dd, dd, dd, dd, dd, dd, dd, dd, dd, dd, dd, dd, dd, dd, dd, dd, dd, dd, dd, dd, dd, dd, dd, dd, dd, dd, dd, dd, dd, dd, dd, dd, dd, dd, dd, dd, dd, dd, dd, dd, dd, dd, dd, dd, dd, dd, dd, dd, dd, dd, dd, dd, .d (.sl (v_acts3.map eS_label_Act)), .d (.v (.int .i64 (v_acts3.length : Int))), .d (.v (.int .i64 v_x892)), dd, dd, dd, dd, dd, dd, dd, dd, dd, dd, dd, dd, dd, dd, dd, dd, dd, dd, dd, dd, dd, dd, dd, dd, dd, dd, dd, dd, dd, dd, dd, dd, dd, dd, dd, dd, dd, dd, dd, dd, dd, dd, dd, dd, dd, dd, dd, dd, dd, dd, dd, dd, dd, dd, dd, dd, dd, dd, dd, dd, dd, dd, dd, dd, dd, dd, dd, dd, dd, dd, dd, dd, dd, dd, dd, dd, dd, dd, dd, dd, dd, dd, dd, dd, dd, dd, dd, dd, dd, dd, dd, dd, dd, dd, dd, dd, dd, dd, dd, dd, dd, dd, dd, dd, dd, dd, dd, dd, dd, dd, dd, dd, dd, dd, dd, dd], [.box [.d (.sl (v_who1.map eS_label_Label))], .box [.d (.sl (v_what2.map eS_label_Label))], .row 3 1 (v_w1122.map (eI .i64)), .row 3 1 (v_w1123.map (eI .i64)), .box [.d (.v (.int .i64 v_y1021.fWho)), .d (.v (.int .i64 v_y1021.fWhat)), .d (.v (.bool v_y1021.fWrite))]]⟩
def G_ringlaw5_LabelRuns_C22_hd (v_r93 : ((List Bool) × Int)) (v_r406 : ((List Int) × (List Int) × Int)) (v_x892 : Int) (v_acts3 : (List S_label_Act)) (v_z1117 : Bool) (v_who1 : (List S_label_Label)) (v_what2 : (List S_label_Label)) (v_z1118 : (List Int)) (v_z1119 : (List Int)) (v_y1021 : S_label_Act)  : PS := ⟨[dd, dd, dd, dd, .ref 0 0, .ref 1 0, dd, dd, dd, .d (.sl (v_r93.1.map eB)), dd, .d (.sl (v_r406.1.map (eI .i64))), .d (.sl (v_r406.2.1.map (eI .i64))), .d (.v (.int .i64 v_r406.2.2)), dd, .srf 2, .srf 3, .d (.v (.int .i64 v_x892)), .ref 4 0, dd, dd, dd, dd, dd, dd, dd, dd, dd, dd, dd, dd, dd, dd, dd, dd, dd, dd, dd, dd, dd, dd, dd, dd, dd, dd, dd, dd, dd, dd, dd, dd, dd, dd, dd, dd, dd, dd, dd, dd, dd, dd, dd, dd, dd, dd, dd, dd, dd, dd, dd, dd, dd, dd, dd, dd, dd, dd, dd, dd, dd, dd, dd, dd, dd, dd, dd, dd, dd, dd, dd, dd, dd, dd, dd, dd, dd, dd, dd, .d (.sl (v_acts3.map eS_label_Act)), .d (.v (.int .i64 (v_acts3.length : Int))), .d (.v (.int .i64 v_x892)), dd, dd, dd, dd, dd, dd, dd, dd, dd, dd, dd, dd, dd, dd, dd, dd, dd, dd, dd, dd, dd, dd, dd, dd, dd, dd, dd, dd, dd, dd, dd, dd, dd, dd, dd, dd, dd, dd, dd, dd, dd, dd, dd, dd, dd, dd, dd, dd, dd, dd, dd, dd, dd, .d (.v (.bool v_z1117)), dd, dd, dd, dd, dd, dd, dd, dd, dd, dd, dd, dd, dd, dd, dd, dd, dd, dd, dd, dd, dd, dd, dd, dd, dd, dd, dd, dd, dd, dd, dd, dd, dd, dd, dd, dd, dd, dd, dd, dd, dd, dd, dd, dd, dd, dd, dd, dd, dd, dd, dd, dd, dd, dd, dd, dd, dd, dd, dd, dd, dd, dd], [.box [.d (.sl (v_who1.map eS_label_Label))], .box [.d (.sl (v_what2.map eS_label_Label))], .row 3 1 (v_z1118.map (eI .i64)), .row 3 1 (v_z1119.map (eI .i64)), .box [.d (.v (.int .i64 v_y1021.fWho)), .d (.v (.int .i64 v_y1021.fWhat)), .d (.v (.bool v_y1021.fWrite))]]⟩
def G_ringlaw5_LabelRuns_C22 (n : Nat) (v_r93 : ((List Bool) × Int)) (v_r406 : ((List Int) × (List Int) × Int)) (v_x892 : Int) (v_acts3 : (List S_label_Act)) (v_z1117 : Bool) (v_who1 : (List S_label_Label)) (v_what2 : (List S_label_Label)) (v_z1118 : (List Int)) (v_z1119 : (List Int)) (v_y1021 : S_label_Act) : Option G_ringlaw5_LabelRuns_C22_R :=
  if v_z1117 = true then
   (app 8 v_z1119 ([v_y1021.fWhat])).bind fun (v_a1121 : (List Int)) =>
   some (.x0 v_z1118 v_a1121)
  else
   some (.x0 v_z1118 v_z1119)
theorem G_ringlaw5_LabelRuns_C22_ok {Fi : Ex → PS → Prop} (hF : KC 217 Fi) (ks : List Fr) (n : Nat) (v_r93 : ((List Bool) × Int)) (v_r406 : ((List Int) × (List Int) × Int)) (v_x892 : Int) (v_acts3 : (List S_label_Act)) (v_z1117 : Bool) (v_who1 : (List S_label_Label)) (v_what2 : (List S_label_Label)) (v_z1118 : (List Int)) (v_z1119 : (List Int)) (v_y1021 : S_label_Act)  (o : G_ringlaw5_LabelRuns_C22_R) (h : G_ringlaw5_LabelRuns_C22 n v_r93 v_r406 v_x892 v_acts3 v_z1117 v_who1 v_what2 v_z1118 v_z1119 v_y1021 = some o) (q : RunE Try.prog 217 Fi ks (G_ringlaw5_LabelRuns_C22_ex o) (G_ringlaw5_LabelRuns_C22_st v_r93 v_r406 v_x892 v_acts3 v_z1117 v_who1 v_what2 v_z1118 v_z1119 v_y1021 o)) : RunE Try.prog 217 Fi (.s (cR (cL (cR (cR (cR (cR (cB (cL (cR (cR (cP (cB (cR (cL (cR (cR (cR (cR (cR (cR (cR (cR (cR (bodyOf Try.f5)))))))))))))))))))))))) :: ks) .normal (G_ringlaw5_LabelRuns_C22_hd v_r93 v_r406 v_x892 v_acts3 v_z1117 v_who1 v_what2 v_z1118 v_z1119 v_y1021) := by
  unfold G_ringlaw5_LabelRuns_C22 at h
  by_cases h1144 : v_z1117 = true
  · rw [if_pos h1144] at h
    obtain ⟨v_a1121, h1145, h⟩ := bind_some h
    cases h
    exact pkk_sound TTok mix hF 2 (hs := [.t true, .c, .bd, .w (v_a1121.map (eI .i64))]) (ts := []) (s := [0, 1, 2, 17, 4]) (l := [4, 5, 9, 11, 12, 13, 15, 16, 17, 18, 98, 99, 100]) (by kernel_rfl) (by kernel_rfl) (.cons h1144 (.cons (app_ob (f := (eI .i64)) (s := 1) h1145 (fun _ => rfl)).1 (.cons (app_ob (f := (eI .i64)) (s := 1) h1145 (fun _ => rfl)).2.1 (.cons (app_ob (f := (eI .i64)) (s := 1) h1145 (fun _ => rfl)).2.2.1 (.cons (app_ob (f := (eI .i64)) (s := 1) h1145 (fun _ => rfl)).2.2.2 .nil))))) q
  · rw [if_neg h1144] at h
    cases h
    exact pkk_sound TTok mix hF 2 (hs := [.t false]) (ts := []) (s := [0, 1, 2, 3, 4]) (l := [4, 5, 9, 11, 12, 13, 15, 16, 17, 18, 98, 99, 100]) (by kernel_rfl) (by kernel_rfl) (.cons (vf h1144) .nil) q
inductive G_ringlaw5_LabelRuns_C23_R where
  | x0 (v_x1135 : Bool) (v_w1136 : (List Int)) (v_w1137 : (List Int))
def G_ringlaw5_LabelRuns_C23_ex : G_ringlaw5_LabelRuns_C23_R → Ex
  | .x0 _ _ _ => .normal
def G_ringlaw5_LabelRuns_C23_st (v_r93 : ((List Bool) × Int)) (v_r406 : ((List Int) × (List Int) × Int)) (v_x892 : Int) (v_acts3 : (List S_label_Act)) (v_who1 : (List S_label_Label)) (v_what2 : (List S_label_Label)) (v_z1127 : (List Int)) (v_z1128 : (List Int)) (v_y1021 : S_label_Act) : G_ringlaw5_LabelRuns_C23_R → PS
  | .x0 v_x1135 v_w1136 v_w1137 => ⟨[dd, dd, dd, dd, .ref 0 0, .ref 1 0, dd, dd, dd, .d (.sl (v_r93.1.map eB)), dd, .d (.sl (v_r406.1.map (eI .i64))), .d (.sl (v_r406.2.1.map (eI .i64))), .d (.v (.int .i64 v_r406.2.2)), dd, .srf 2, .srf 3, dd, .ref 4 0, dd, dd, dd, dd, dd, dd, dd, dd, dd, dd, dd, dd, dd, dd, dd, dd, dd, dd, dd, dd, dd, dd, dd, dd, dd, dd, dd, dd, dd, dd, dd, dd, dd, dd, dd, dd, dd, dd, dd, dd, dd, dd, dd, dd, dd, dd, dd, dd, dd, dd, dd, dd, dd, dd, dd, dd, dd, dd, dd, dd, dd, dd, dd, dd, dd, dd, dd, dd, dd, dd, dd, dd, dd, dd, dd, dd, dd, dd, dd, .d (.sl (v_acts3.map eS_label_Act)), .d (.v (.int .i64 (v_acts3.length : Int))), .d (.v (.int .i64 v_x892)), dd, dd, dd, dd, dd, dd, dd, dd, dd, dd, dd, dd, dd, dd, dd, dd, dd, dd, dd, dd, dd, dd, dd, dd, dd, dd, dd, dd, dd, dd, dd, dd, dd, dd, dd, dd, dd, dd, dd, dd, dd, dd, dd, dd, dd, dd, dd, dd, dd, dd, dd, dd, dd, dd, dd, dd, dd, dd, dd, dd, dd, dd, dd, dd, dd, dd, dd, dd, dd, dd, dd, dd, dd, dd, dd, dd, dd, dd, dd, dd, .d (.v (.bool v_x1135)), dd, dd, dd, dd, dd, dd, dd, dd, dd, dd, dd, dd, dd, dd, dd, dd, dd, dd, dd, dd, dd, dd, dd, dd, dd, dd, dd, dd, dd, dd, dd, dd, dd, dd, dd], [.box [.d (.sl (v_who1.map eS_label_Label))], .box [.d (.sl (v_what2.map eS_label_Label))], .row 3 1 (v_w1136.map (eI .i64)), .row 3 1 (v_w1137.map (eI .i64)), .box [.d (.v (.int .i64 v_y1021.fWho)), .d (.v (.int .i64 v_y1021.fWhat)), .d (.v (.bool v_y1021.fWrite))]]⟩
def G_ringlaw5_LabelRuns_C23_hd (v_r93 : ((List Bool) × Int)) (v_r406 : ((List Int) × (List Int) × Int)) (v_x892 : Int) (v_acts3 : (List S_label_Act)) (v_who1 : (List S_label_Label)) (v_what2 : (List S_label_Label)) (v_z1127 : (List Int)) (v_z1128 : (List Int)) (v_y1021 : S_label_Act)  : PS := ⟨[dd, dd, dd, dd, .ref 0 0, .ref 1 0, dd, dd, dd, .d (.sl (v_r93.1.map eB)), dd, .d (.sl (v_r406.1.map (eI .i64))), .d (.sl (v_r406.2.1.map (eI .i64))), .d (.v (.int .i64 v_r406.2.2)), dd, .srf 2, .srf 3, .d (.v (.int .i64 v_x892)), .ref 4 0, dd, dd, dd, dd, dd, dd, dd, dd, dd, dd, dd, dd, dd, dd, dd, dd, dd, dd, dd, dd, dd, dd, dd, dd, dd, dd, dd, dd, dd, dd, dd, dd, dd, dd, dd, dd, dd, dd, dd, dd, dd, dd, dd, dd, dd, dd, dd, dd, dd, dd, dd, dd, dd, dd, dd, dd, dd, dd, dd, dd, dd, dd, dd, dd, dd, dd, dd, dd, dd, dd, dd, dd, dd, dd, dd, dd, dd, dd, dd, .d (.sl (v_acts3.map eS_label_Act)), .d (.v (.int .i64 (v_acts3.length : Int))), .d (.v (.int .i64 v_x892)), dd, dd, dd, dd, dd, dd, dd, dd, dd, dd, dd, dd, dd, dd, dd, dd, dd, dd, dd, dd, dd, dd, dd, dd, dd, dd, dd, dd, dd, dd, dd, dd, dd, dd, dd, dd, dd, dd, dd, dd, dd, dd, dd, dd, dd, dd, dd, dd, dd, dd, dd, dd, dd, dd, dd, dd, dd, dd, dd, dd, dd, dd, dd, dd, dd, dd, dd, dd, dd, dd, dd, dd, dd, dd, dd, dd, dd, dd, dd, dd, dd, dd, dd, dd, dd, dd, dd, dd, dd, dd, dd, dd, dd, dd, dd, dd, dd, dd, dd, dd, dd, dd, dd, dd, dd, dd, dd, dd, dd, dd, dd, dd, dd, dd, dd, dd], [.box [.d (.sl (v_who1.map eS_label_Label))], .box [.d (.sl (v_what2.map eS_label_Label))], .row 3 1 (v_z1127.map (eI .i64)), .row 3 1 (v_z1128.map (eI .i64)), .box [.d (.v (.int .i64 v_y1021.fWho)), .d (.v (.int .i64 v_y1021.fWhat)), .d (.v (.bool v_y1021.fWrite))]]⟩
def G_ringlaw5_LabelRuns_C23 (n : Nat) (v_r93 : ((List Bool) × Int)) (v_r406 : ((List Int) × (List Int) × Int)) (v_x892 : Int) (v_acts3 : (List S_label_Act)) (v_who1 : (List S_label_Label)) (v_what2 : (List S_label_Label)) (v_z1127 : (List Int)) (v_z1128 : (List Int)) (v_y1021 : S_label_Act) : Option G_ringlaw5_LabelRuns_C23_R :=
  (getI v_r93.1 v_x892).bind fun (v_y1132 : Bool) =>
  if v_y1132 = true then
   if v_y1021.fWrite = true then
    some (.x0 false v_z1127 v_z1128)
   else
    (G_slices_Contains_int_int n v_z1128 v_y1021.fWhat).bind fun (v_r1133 : (Bool)) =>
    if v_r1133 = true then
     (G_slices_Contains_int_int n v_z1127 v_y1021.fWho).bind fun (v_r1134 : (Bool)) =>
     some (.x0 (!v_r1134) v_z1127 v_z1128)
    else
     some (.x0 false v_z1127 v_z1128)
  else
   some (.x0 false v_z1127 v_z1128)
theorem G_ringlaw5_LabelRuns_C23_ok {Fi : Ex → PS → Prop} (hF : KC 217 Fi) (ks : List Fr) (n : Nat) (v_r93 : ((List Bool) × Int)) (v_r406 : ((List Int) × (List Int) × Int)) (v_x892 : Int) (v_acts3 : (List S_label_Act)) (v_who1 : (List S_label_Label)) (v_what2 : (List S_label_Label)) (v_z1127 : (List Int)) (v_z1128 : (List Int)) (v_y1021 : S_label_Act)  (o : G_ringlaw5_LabelRuns_C23_R) (h : G_ringlaw5_LabelRuns_C23 n v_r93 v_r406 v_x892 v_acts3 v_who1 v_what2 v_z1127 v_z1128 v_y1021 = some o) (q : RunE Try.prog 217 Fi ks (G_ringlaw5_LabelRuns_C23_ex o) (G_ringlaw5_LabelRuns_C23_st v_r93 v_r406 v_x892 v_acts3 v_who1 v_what2 v_z1127 v_z1128 v_y1021 o)) : RunE Try.prog 217 Fi (.s (cL (cR (cR (cR (cR (cR (cB (cL (cR (cR (cP (cB (cR (cL (cR (cR (cR (cR (cR (cR (cR (cR (cR (bodyOf Try.f5)))))))))))))))))))))))) :: ks) .normal (G_ringlaw5_LabelRuns_C23_hd v_r93 v_r406 v_x892 v_acts3 v_who1 v_what2 v_z1127 v_z1128 v_y1021) := by
  unfold G_ringlaw5_LabelRuns_C23 at h
  obtain ⟨v_y1132, h1153, h⟩ := bind_some h
  by_cases h1154 : v_y1132 = true
  · rw [if_pos h1154] at h
    by_cases h1155 : v_y1021.fWrite = true
    · rw [if_pos h1155] at h
      cases h
      exact pkk_sound TTok mix hF 1 (hs := [.y (eB v_y1132), .c, .t true, .c, .c, .c, .t false, .c, .c, .c, .c, .c, .c, .c, .c]) (ts := []) (s := [0, 1, 2, 3, 4]) (l := [4, 5, 9, 11, 12, 13, 15, 16, 18, 98, 99, 100, 181]) (by kernel_rfl) (by kernel_rfl) (.cons (getI_ob (f := eB) h1153) (.cons h1154 (.cons (bnf h1155) .nil))) q
    · rw [if_neg h1155] at h
      obtain ⟨v_r1133, h1156, h⟩ := bind_some h
      by_cases h1157 : v_r1133 = true
      · rw [if_pos h1157] at h
        obtain ⟨v_r1134, h1158, h⟩ := bind_some h
        cases h
        exact pkk_sound TTok mix hF 1 (hs := [.y (eB v_y1132), .c, .t true, .c, .c, .c, .t true, .c, .c, .c, .c, .c, .r (eB v_r1133), .t true, .c, .c, .c, .c, .c, .r (eB v_r1134), .c]) (ts := []) (s := [0, 1, 2, 3, 4]) (l := [4, 5, 9, 11, 12, 13, 15, 16, 18, 98, 99, 100, 181]) (by kernel_rfl) (by kernel_rfl) (.cons (getI_ob (f := eB) h1153) (.cons h1154 (.cons (bnt (vf h1155)) (.cons (G_slices_Contains_int_int_ok n v_z1128 v_y1021.fWhat _ h1156) (.cons h1157 (.cons (G_slices_Contains_int_int_ok n v_z1127 v_y1021.fWho _ h1158) .nil)))))) q
      · rw [if_neg h1157] at h
        cases h
        exact pkk_sound TTok mix hF 1 (hs := [.y (eB v_y1132), .c, .t true, .c, .c, .c, .t true, .c, .c, .c, .c, .c, .r (eB v_r1133), .t false, .c, .c, .c, .c]) (ts := []) (s := [0, 1, 2, 3, 4]) (l := [4, 5, 9, 11, 12, 13, 15, 16, 18, 98, 99, 100, 181]) (by kernel_rfl) (by kernel_rfl) (.cons (getI_ob (f := eB) h1153) (.cons h1154 (.cons (bnt (vf h1155)) (.cons (G_slices_Contains_int_int_ok n v_z1128 v_y1021.fWhat _ h1156) (.cons (vf h1157) .nil))))) q
  · rw [if_neg h1154] at h
    cases h
    exact pkk_sound TTok mix hF 1 (hs := [.y (eB v_y1132), .c, .t false, .c, .c, .c, .c, .c, .c, .c, .c, .c, .c, .c]) (ts := []) (s := [0, 1, 2, 3, 4]) (l := [4, 5, 9, 11, 12, 13, 15, 16, 18, 98, 99, 100, 181]) (by kernel_rfl) (by kernel_rfl) (.cons (getI_ob (f := eB) h1153) (.cons (vf h1154) .nil)) q
inductive G_ringlaw5_LabelRuns_C24_R where
  | x0 (v_x1033 : Bool)
  | x1 (v_w1089 : (List Int)) (v_w1090 : (List Int))
def G_ringlaw5_LabelRuns_C24_ex : G_ringlaw5_LabelRuns_C24_R → Ex
  | .x0 _ => .ret
  | .x1 _ _ => .normal
def G_ringlaw5_LabelRuns_C24_st (v_r93 : ((List Bool) × Int)) (v_r406 : ((List Int) × (List Int) × Int)) (v_acts3 : (List S_label_Act)) (v_x892 : Int) (v_who1 : (List S_label_Label)) (v_what2 : (List S_label_Label)) (v_w893 : (List Int)) (v_w894 : (List Int)) : G_ringlaw5_LabelRuns_C24_R → PS
  | .x0 v_x1033 => ⟨[dd, dd, dd, dd, dd, dd, dd, dd, .d (.v (.bool v_x1033)), dd, dd, dd, dd, dd, dd, dd, dd, dd, dd, dd, dd, dd, dd, dd, dd, dd, dd, dd, dd, dd, dd, dd, dd, dd, dd, dd, dd, dd, dd, dd, dd, dd, dd, dd, dd, dd, dd, dd, dd, dd, dd, dd, dd, dd, dd, dd, dd, dd, dd, dd, dd, dd, dd, dd, dd, dd, dd, dd, dd, dd, dd, dd, dd, dd, dd, dd, dd, dd, dd, dd, dd, dd, dd, dd, dd, dd, dd, dd, dd, dd, dd, dd, dd, dd, dd, dd, dd, dd, dd, dd, dd, dd, dd, dd, dd, dd, dd, dd, dd, dd, dd, dd, dd, dd, dd, dd, dd, dd, dd, dd, dd, dd, dd, dd, dd, dd, dd, dd, dd, dd, dd, dd, dd, dd, dd, dd, dd, dd, dd, dd, dd, dd, dd, dd, dd, dd, dd, dd, dd, dd, dd, dd, dd, dd, dd, dd, dd, dd, dd, dd, dd, dd, dd, dd, dd, dd, dd, dd, dd, dd, dd, dd, dd, dd, dd, dd, dd, dd, dd, dd, dd, dd, dd, dd, dd, dd, dd, dd, dd, dd, dd, dd, dd, dd, dd, dd, dd, dd, dd, dd, dd, dd, dd, dd, dd, dd, dd, dd, dd, dd, dd, dd, dd, dd, dd, dd, dd], []⟩
  | .x1 v_w1089 v_w1090 => ⟨[dd, dd, dd, dd, .ref 0 0, .ref 1 0, dd, dd, dd, .d (.sl (v_r93.1.map eB)), dd, .d (.sl (v_r406.1.map (eI .i64))), .d (.sl (v_r406.2.1.map (eI .i64))), .d (.v (.int .i64 v_r406.2.2)), dd, .srf 2, .srf 3, dd, dd, dd, dd, dd, dd, dd, dd, dd, dd, dd, dd, dd, dd, dd, dd, dd, dd, dd, dd, dd, dd, dd, dd, dd, dd, dd, dd, dd, dd, dd, dd, dd, dd, dd, dd, dd, dd, dd, dd, dd, dd, dd, dd, dd, dd, dd, dd, dd, dd, dd, dd, dd, dd, dd, dd, dd, dd, dd, dd, dd, dd, dd, dd, dd, dd, dd, dd, dd, dd, dd, dd, dd, dd, dd, dd, dd, dd, dd, dd, dd, .d (.sl (v_acts3.map eS_label_Act)), .d (.v (.int .i64 (v_acts3.length : Int))), .d (.v (.int .i64 v_x892)), dd, dd, dd, dd, dd, dd, dd, dd, dd, dd, dd, dd, dd, dd, dd, dd, dd, dd, dd, dd, dd, dd, dd, dd, dd, dd, dd, dd, dd, dd, dd, dd, dd, dd, dd, dd, dd, dd, dd, dd, dd, dd, dd, dd, dd, dd, dd, dd, dd, dd, dd, dd, dd, dd, dd, dd, dd, dd, dd, dd, dd, dd, dd, dd, dd, dd, dd, dd, dd, dd, dd, dd, dd, dd, dd, dd, dd, dd, dd, dd, dd, dd, dd, dd, dd, dd, dd, dd, dd, dd, dd, dd, dd, dd, dd, dd, dd, dd, dd, dd, dd, dd, dd, dd, dd, dd, dd, dd, dd, dd, dd, dd, dd, dd, dd, dd], [.box [.d (.sl (v_who1.map eS_label_Label))], .box [.d (.sl (v_what2.map eS_label_Label))], .row 3 1 (v_w1089.map (eI .i64)), .row 3 1 (v_w1090.map (eI .i64))]⟩
def G_ringlaw5_LabelRuns_C24_hd (v_r93 : ((List Bool) × Int)) (v_r406 : ((List Int) × (List Int) × Int)) (v_acts3 : (List S_label_Act)) (v_x892 : Int) (v_who1 : (List S_label_Label)) (v_what2 : (List S_label_Label)) (v_w893 : (List Int)) (v_w894 : (List Int))  : PS := ⟨[dd, dd, dd, dd, .ref 0 0, .ref 1 0, dd, dd, dd, .d (.sl (v_r93.1.map eB)), dd, .d (.sl (v_r406.1.map (eI .i64))), .d (.sl (v_r406.2.1.map (eI .i64))), .d (.v (.int .i64 v_r406.2.2)), dd, .srf 2, .srf 3, dd, dd, dd, dd, dd, dd, dd, dd, dd, dd, dd, dd, dd, dd, dd, dd, dd, dd, dd, dd, dd, dd, dd, dd, dd, dd, dd, dd, dd, dd, dd, dd, dd, dd, dd, dd, dd, dd, dd, dd, dd, dd, dd, dd, dd, dd, dd, dd, dd, dd, dd, dd, dd, dd, dd, dd, dd, dd, dd, dd, dd, dd, dd, dd, dd, dd, dd, dd, dd, dd, dd, dd, dd, dd, dd, dd, dd, dd, dd, dd, dd, .d (.sl (v_acts3.map eS_label_Act)), .d (.v (.int .i64 (v_acts3.length : Int))), .d (.v (.int .i64 v_x892)), dd, dd, dd, dd, dd, dd, dd, dd, dd, dd, dd, dd, dd, dd, dd, dd, dd, dd, dd, dd, dd, dd, dd, dd, dd, dd, dd, dd, dd, dd, dd, dd, dd, dd, dd, dd, dd, dd, dd, dd, dd, dd, dd, dd, dd, dd, dd, dd, dd, dd, dd, dd, dd, dd, dd, dd, dd, dd, dd, dd, dd, dd, dd, dd, dd, dd, dd, dd, dd, dd, dd, dd, dd, dd, dd, dd, dd, dd, dd, dd, dd, dd, dd, dd, dd, dd, dd, dd, dd, dd, dd, dd, dd, dd, dd, dd, dd, dd, dd, dd, dd, dd, dd, dd, dd, dd, dd, dd, dd, dd, dd, dd, dd, dd, dd, dd], [.box [.d (.sl (v_who1.map eS_label_Label))], .box [.d (.sl (v_what2.map eS_label_Label))], .row 3 1 (v_w893.map (eI .i64)), .row 3 1 (v_w894.map (eI .i64))]⟩
def G_ringlaw5_LabelRuns_C24 (n : Nat) (v_r93 : ((List Bool) × Int)) (v_r406 : ((List Int) × (List Int) × Int)) (v_acts3 : (List S_label_Act)) (v_x892 : Int) (v_who1 : (List S_label_Label)) (v_what2 : (List S_label_Label)) (v_w893 : (List Int)) (v_w894 : (List Int)) : Option G_ringlaw5_LabelRuns_C24_R :=
  (getI v_acts3 v_x892).bind fun (v_y1021 : S_label_Act) =>
  (getI v_who1 v_y1021.fWho).bind fun (v_y1022 : S_label_Label) =>
  (getI v_what2 v_y1021.fWhat).bind fun (v_y1023 : S_label_Label) =>
  (G_ringlaw5_LabelRuns_C17 n v_r93 v_r406 v_x892 v_acts3 v_y1021 v_who1 v_what2 v_w893 v_w894 v_y1022 v_y1023).bind fun v_o1028 => match v_o1028 with
  | .x0 v_z1029 v_z1030 =>
    (getI v_r93.1 v_x892).bind fun (v_y1031 : Bool) =>
    (G_ringref5_FlowsOf n v_y1023.fLevel v_y1023.fKind v_y1022.fLevel v_y1022.fKind).bind fun (v_r1032 : (Bool)) =>
    if (eqRes .neq (v_y1031 == v_r1032)) = true then
     some (.x0 false)
    else
     (G_ringlaw5_LabelRuns_C18 n v_r93 v_r406 v_x892 v_acts3 v_who1 v_what2 v_z1029 v_z1030 v_y1021).bind fun v_o1052 => match v_o1052 with
     | .x0 v_z1053 v_z1054 v_z1055 =>
       (G_ringlaw5_LabelRuns_C19 n v_r93 v_r406 v_x892 v_acts3 v_z1053 v_who1 v_what2 v_z1054 v_z1055 v_y1021).bind fun v_o1062 => match v_o1062 with
       | .x0 v_z1063 v_z1064 =>
         (G_ringlaw5_LabelRuns_C20 n v_r93 v_r406 v_x892 v_acts3 v_who1 v_what2 v_z1063 v_z1064 v_y1021).bind fun v_o1083 => match v_o1083 with
         | .x0 v_z1084 v_z1085 v_z1086 =>
           if v_z1084 = true then
            (app 8 v_z1085 ([v_y1021.fWho])).bind fun (v_a1088 : (List Int)) =>
            some (.x1 v_a1088 v_z1086)
           else
            some (.x1 v_z1085 v_z1086)
  | .x1 v_z1093 v_z1094 =>
    (getI v_r93.1 v_x892).bind fun (v_y1095 : Bool) =>
    (G_ringref5_FlowsOf n v_y1022.fLevel v_y1022.fKind v_y1023.fLevel v_y1023.fKind).bind fun (v_r1096 : (Bool)) =>
    if (eqRes .neq (v_y1095 == v_r1096)) = true then
     some (.x0 false)
    else
     (G_ringlaw5_LabelRuns_C21 n v_r93 v_r406 v_x892 v_acts3 v_who1 v_what2 v_z1093 v_z1094 v_y1021).bind fun v_o1116 => match v_o1116 with
     | .x0 v_z1117 v_z1118 v_z1119 =>
       (G_ringlaw5_LabelRuns_C22 n v_r93 v_r406 v_x892 v_acts3 v_z1117 v_who1 v_what2 v_z1118 v_z1119 v_y1021).bind fun v_o1126 => match v_o1126 with
       | .x0 v_z1127 v_z1128 =>
         (G_ringlaw5_LabelRuns_C23 n v_r93 v_r406 v_x892 v_acts3 v_who1 v_what2 v_z1127 v_z1128 v_y1021).bind fun v_o1147 => match v_o1147 with
         | .x0 v_z1148 v_z1149 v_z1150 =>
           if v_z1148 = true then
            (app 8 v_z1149 ([v_y1021.fWho])).bind fun (v_a1152 : (List Int)) =>
            some (.x1 v_a1152 v_z1150)
           else
            some (.x1 v_z1149 v_z1150)
theorem G_ringlaw5_LabelRuns_C24_ok {Fi : Ex → PS → Prop} (hF : KC 217 Fi) (ks : List Fr) (n : Nat) (v_r93 : ((List Bool) × Int)) (v_r406 : ((List Int) × (List Int) × Int)) (v_acts3 : (List S_label_Act)) (v_x892 : Int) (v_who1 : (List S_label_Label)) (v_what2 : (List S_label_Label)) (v_w893 : (List Int)) (v_w894 : (List Int))  (o : G_ringlaw5_LabelRuns_C24_R) (h : G_ringlaw5_LabelRuns_C24 n v_r93 v_r406 v_acts3 v_x892 v_who1 v_what2 v_w893 v_w894 = some o) (q : RunE Try.prog 217 Fi ks (G_ringlaw5_LabelRuns_C24_ex o) (G_ringlaw5_LabelRuns_C24_st v_r93 v_r406 v_acts3 v_x892 v_who1 v_what2 v_w893 v_w894 o)) : RunE Try.prog 217 Fi (.s (cL (cR (cR (cP (cB (cR (cL (cR (cR (cR (cR (cR (cR (cR (cR (cR (bodyOf Try.f5))))))))))))))))) :: ks) .normal (G_ringlaw5_LabelRuns_C24_hd v_r93 v_r406 v_acts3 v_x892 v_who1 v_what2 v_w893 v_w894) := by
  unfold G_ringlaw5_LabelRuns_C24 at h
  obtain ⟨v_y1021, h1082, h⟩ := bind_some h
  obtain ⟨v_y1022, h1083, h⟩ := bind_some h
  obtain ⟨v_y1023, h1084, h⟩ := bind_some h
  obtain ⟨v_o1028, h1087, h⟩ := bind_some h
  refine pkk_sound TTok mix hF 8 (hs := [.y (eS_label_Act v_y1021), .c, .c, .c, .y (eS_label_Label v_y1022), .c, .c, .y (eS_label_Label v_y1023), .c, .c, .c]) (ts := []) (s := [0, 1, 2, 3, 13, 52, 55]) (l := [4, 5, 9, 11, 12, 13, 15, 16, 17, 18, 19, 20, 98, 99, 100, 117]) (by kernel_rfl) (by kernel_rfl) (.cons (getI_ob (f := eS_label_Act) h1082) (.cons (show 0 + 3 ≤ 3 by decide) (.cons (getI_ob (f := eS_label_Label) h1083) (.cons (getI_ob (f := eS_label_Label) h1084) (.cons (show 0 + 2 ≤ 2 by decide) (.cons (show 0 + 2 ≤ 2 by decide) .nil)))))) (G_ringlaw5_LabelRuns_C17_ok hF (.s (cR (cR (cR (cB (cL (cR (cR (cP (cB (cR (cL (cR (cR (cR (cR (cR (cR (cR (cR (cR (bodyOf Try.f5))))))))))))))))))))) :: .b 1 :: ks) n v_r93 v_r406 v_x892 v_acts3 v_y1021 v_who1 v_what2 v_w893 v_w894 v_y1022 v_y1023 _ h1087 ?_)
  cases v_o1028 with
  | x0 v_z1029 v_z1030 =>
    try dsimp only at h
    obtain ⟨v_y1031, h1088, h⟩ := bind_some h
    obtain ⟨v_r1032, h1089, h⟩ := bind_some h
    by_cases h1090 : (eqRes .neq (v_y1031 == v_r1032)) = true
    · rw [if_pos h1090] at h
      cases h
      exact pkk_sound TTok mix hF 9 (hs := [.y (eB v_y1031), .c, .c, .c, .c, .c, .r (eB v_r1032), .t true]) (ts := []) (s := []) (l := [8]) (by kernel_rfl) (by kernel_rfl) (.cons (getI_ob (f := eB) h1088) (.cons (G_ringref5_FlowsOf_ok n v_y1023.fLevel v_y1023.fKind v_y1022.fLevel v_y1022.fKind _ h1089) (.cons h1090 .nil))) q
    · rw [if_neg h1090] at h
      obtain ⟨v_o1052, h1103, h⟩ := bind_some h
      refine pkk_sound TTok mix hF 7 (hs := [.y (eB v_y1031), .c, .c, .c, .c, .c, .r (eB v_r1032), .t false]) (ts := []) (s := [0, 1, 2, 3, 4]) (l := [4, 5, 9, 11, 12, 13, 15, 16, 17, 18, 98, 99, 100]) (by kernel_rfl) (by kernel_rfl) (.cons (getI_ob (f := eB) h1088) (.cons (G_ringref5_FlowsOf_ok n v_y1023.fLevel v_y1023.fKind v_y1022.fLevel v_y1022.fKind _ h1089) (.cons (vf h1090) .nil))) (G_ringlaw5_LabelRuns_C18_ok hF (.s (cR (cL (cR (cR (cR (cR (cB (cL (cR (cR (cP (cB (cR (cL (cR (cR (cR (cR (cR (cR (cR (cR (cR (bodyOf Try.f5)))))))))))))))))))))))) :: .s (cR (cR (cR (cR (cR (cB (cL (cR (cR (cP (cB (cR (cL (cR (cR (cR (cR (cR (cR (cR (cR (cR (bodyOf Try.f5))))))))))))))))))))))) :: .b 1 :: ks) n v_r93 v_r406 v_x892 v_acts3 v_who1 v_what2 v_z1029 v_z1030 v_y1021 _ h1103 ?_)
      cases v_o1052 with
      | x0 v_z1053 v_z1054 v_z1055 =>
        try dsimp only at h
        obtain ⟨v_o1062, h1108, h⟩ := bind_some h
        refine pkk_sound TTok mix hF 0 (hs := []) (ts := []) (s := [0, 1, 2, 3, 4]) (l := [4, 5, 9, 11, 12, 13, 15, 16, 17, 18, 98, 99, 100, 154]) (by kernel_rfl) (by kernel_rfl) .nil (G_ringlaw5_LabelRuns_C19_ok hF (.s (cR (cR (cR (cR (cR (cB (cL (cR (cR (cP (cB (cR (cL (cR (cR (cR (cR (cR (cR (cR (cR (cR (bodyOf Try.f5))))))))))))))))))))))) :: .b 1 :: ks) n v_r93 v_r406 v_x892 v_acts3 v_z1053 v_who1 v_what2 v_z1054 v_z1055 v_y1021 _ h1108 ?_)
        cases v_o1062 with
        | x0 v_z1063 v_z1064 =>
          try dsimp only at h
          obtain ⟨v_o1083, h1121, h⟩ := bind_some h
          refine pkk_sound TTok mix hF 1 (hs := []) (ts := []) (s := [0, 1, 2, 3, 4]) (l := [4, 5, 9, 11, 12, 13, 15, 16, 17, 18, 98, 99, 100]) (by kernel_rfl) (by kernel_rfl) .nil (G_ringlaw5_LabelRuns_C20_ok hF (.s (cR (cR (cR (cR (cR (cR (cB (cL (cR (cR (cP (cB (cR (cL (cR (cR (cR (cR (cR (cR (cR (cR (cR (bodyOf Try.f5)))))))))))))))))))))))) :: .b 1 :: ks) n v_r93 v_r406 v_x892 v_acts3 v_who1 v_what2 v_z1063 v_z1064 v_y1021 _ h1121 ?_)
          cases v_o1083 with
          | x0 v_z1084 v_z1085 v_z1086 =>
            try dsimp only at h
            by_cases h1124 : v_z1084 = true
            · rw [if_pos h1124] at h
              obtain ⟨v_a1088, h1125, h⟩ := bind_some h
              cases h
              exact pkk_sound TTok mix hF 3 (hs := [.t true, .c, .bd, .w (v_a1088.map (eI .i64))]) (ts := []) (s := [0, 1, 17, 3]) (l := [4, 5, 9, 11, 12, 13, 15, 16, 98, 99, 100]) (by kernel_rfl) (by kernel_rfl) (.cons h1124 (.cons (app_ob (f := (eI .i64)) (s := 1) h1125 (fun _ => rfl)).1 (.cons (app_ob (f := (eI .i64)) (s := 1) h1125 (fun _ => rfl)).2.1 (.cons (app_ob (f := (eI .i64)) (s := 1) h1125 (fun _ => rfl)).2.2.1 (.cons (app_ob (f := (eI .i64)) (s := 1) h1125 (fun _ => rfl)).2.2.2 .nil))))) q
            · rw [if_neg h1124] at h
              cases h
              exact pkk_sound TTok mix hF 3 (hs := [.t false]) (ts := []) (s := [0, 1, 2, 3]) (l := [4, 5, 9, 11, 12, 13, 15, 16, 98, 99, 100]) (by kernel_rfl) (by kernel_rfl) (.cons (vf h1124) .nil) q
  | x1 v_z1093 v_z1094 =>
    try dsimp only at h
    obtain ⟨v_y1095, h1126, h⟩ := bind_some h
    obtain ⟨v_r1096, h1127, h⟩ := bind_some h
    by_cases h1128 : (eqRes .neq (v_y1095 == v_r1096)) = true
    · rw [if_pos h1128] at h
      cases h
      exact pkk_sound TTok mix hF 9 (hs := [.y (eB v_y1095), .c, .c, .c, .c, .c, .r (eB v_r1096), .t true]) (ts := []) (s := []) (l := [8]) (by kernel_rfl) (by kernel_rfl) (.cons (getI_ob (f := eB) h1126) (.cons (G_ringref5_FlowsOf_ok n v_y1022.fLevel v_y1022.fKind v_y1023.fLevel v_y1023.fKind _ h1127) (.cons h1128 .nil))) q
    · rw [if_neg h1128] at h
      obtain ⟨v_o1116, h1141, h⟩ := bind_some h
      refine pkk_sound TTok mix hF 7 (hs := [.y (eB v_y1095), .c, .c, .c, .c, .c, .r (eB v_r1096), .t false]) (ts := []) (s := [0, 1, 2, 3, 4]) (l := [4, 5, 9, 11, 12, 13, 15, 16, 17, 18, 98, 99, 100]) (by kernel_rfl) (by kernel_rfl) (.cons (getI_ob (f := eB) h1126) (.cons (G_ringref5_FlowsOf_ok n v_y1022.fLevel v_y1022.fKind v_y1023.fLevel v_y1023.fKind _ h1127) (.cons (vf h1128) .nil))) (G_ringlaw5_LabelRuns_C21_ok hF (.s (cR (cL (cR (cR (cR (cR (cB (cL (cR (cR (cP (cB (cR (cL (cR (cR (cR (cR (cR (cR (cR (cR (cR (bodyOf Try.f5)))))))))))))))))))))))) :: .s (cR (cR (cR (cR (cR (cB (cL (cR (cR (cP (cB (cR (cL (cR (cR (cR (cR (cR (cR (cR (cR (cR (bodyOf Try.f5))))))))))))))))))))))) :: .b 1 :: ks) n v_r93 v_r406 v_x892 v_acts3 v_who1 v_what2 v_z1093 v_z1094 v_y1021 _ h1141 ?_)
      cases v_o1116 with
      | x0 v_z1117 v_z1118 v_z1119 =>
        try dsimp only at h
        obtain ⟨v_o1126, h1146, h⟩ := bind_some h
        refine pkk_sound TTok mix hF 0 (hs := []) (ts := []) (s := [0, 1, 2, 3, 4]) (l := [4, 5, 9, 11, 12, 13, 15, 16, 17, 18, 98, 99, 100, 154]) (by kernel_rfl) (by kernel_rfl) .nil (G_ringlaw5_LabelRuns_C22_ok hF (.s (cR (cR (cR (cR (cR (cB (cL (cR (cR (cP (cB (cR (cL (cR (cR (cR (cR (cR (cR (cR (cR (cR (bodyOf Try.f5))))))))))))))))))))))) :: .b 1 :: ks) n v_r93 v_r406 v_x892 v_acts3 v_z1117 v_who1 v_what2 v_z1118 v_z1119 v_y1021 _ h1146 ?_)
        cases v_o1126 with
        | x0 v_z1127 v_z1128 =>
          try dsimp only at h
          obtain ⟨v_o1147, h1159, h⟩ := bind_some h
          refine pkk_sound TTok mix hF 1 (hs := []) (ts := []) (s := [0, 1, 2, 3, 4]) (l := [4, 5, 9, 11, 12, 13, 15, 16, 17, 18, 98, 99, 100]) (by kernel_rfl) (by kernel_rfl) .nil (G_ringlaw5_LabelRuns_C23_ok hF (.s (cR (cR (cR (cR (cR (cR (cB (cL (cR (cR (cP (cB (cR (cL (cR (cR (cR (cR (cR (cR (cR (cR (cR (bodyOf Try.f5)))))))))))))))))))))))) :: .b 1 :: ks) n v_r93 v_r406 v_x892 v_acts3 v_who1 v_what2 v_z1127 v_z1128 v_y1021 _ h1159 ?_)
          cases v_o1147 with
          | x0 v_z1148 v_z1149 v_z1150 =>
            try dsimp only at h
            by_cases h1162 : v_z1148 = true
            · rw [if_pos h1162] at h
              obtain ⟨v_a1152, h1163, h⟩ := bind_some h
              cases h
              exact pkk_sound TTok mix hF 3 (hs := [.t true, .c, .bd, .w (v_a1152.map (eI .i64))]) (ts := []) (s := [0, 1, 17, 3]) (l := [4, 5, 9, 11, 12, 13, 15, 16, 98, 99, 100]) (by kernel_rfl) (by kernel_rfl) (.cons h1162 (.cons (app_ob (f := (eI .i64)) (s := 1) h1163 (fun _ => rfl)).1 (.cons (app_ob (f := (eI .i64)) (s := 1) h1163 (fun _ => rfl)).2.1 (.cons (app_ob (f := (eI .i64)) (s := 1) h1163 (fun _ => rfl)).2.2.1 (.cons (app_ob (f := (eI .i64)) (s := 1) h1163 (fun _ => rfl)).2.2.2 .nil))))) q
            · rw [if_neg h1162] at h
              cases h
              exact pkk_sound TTok mix hF 3 (hs := [.t false]) (ts := []) (s := [0, 1, 2, 3]) (l := [4, 5, 9, 11, 12, 13, 15, 16, 98, 99, 100]) (by kernel_rfl) (by kernel_rfl) (.cons (vf h1162) .nil) q
inductive G_ringlaw5_LabelRuns_L25_R where
  | x0 (v_x1159 : Bool)
  | x1 (v_w1162 : (List Int)) (v_w1163 : (List Int))
def G_ringlaw5_LabelRuns_L25_ex : G_ringlaw5_LabelRuns_L25_R → Ex
  | .x0 _ => .ret
  | .x1 _ _ => .exit 0
def G_ringlaw5_LabelRuns_L25_st (v_r93 : ((List Bool) × Int)) (v_r406 : ((List Int) × (List Int) × Int)) (v_acts3 : (List S_label_Act)) (v_who1 : (List S_label_Label)) (v_what2 : (List S_label_Label)) : G_ringlaw5_LabelRuns_L25_R → PS
  | .x0 v_x1159 => ⟨[dd, dd, dd, dd, dd, dd, dd, dd, .d (.v (.bool v_x1159)), dd, dd, dd, dd, dd, dd, dd, dd, dd, dd, dd, dd, dd, dd, dd, dd, dd, dd, dd, dd, dd, dd, dd, dd, dd, dd, dd, dd, dd, dd, dd, dd, dd, dd, dd, dd, dd, dd, dd, dd, dd, dd, dd, dd, dd, dd, dd, dd, dd, dd, dd, dd, dd, dd, dd, dd, dd, dd, dd, dd, dd, dd, dd, dd, dd, dd, dd, dd, dd, dd, dd, dd, dd, dd, dd, dd, dd, dd, dd, dd, dd, dd, dd, dd, dd, dd, dd, dd, dd, dd, dd, dd, dd, dd, dd, dd, dd, dd, dd, dd, dd, dd, dd, dd, dd, dd, dd, dd, dd, dd, dd, dd, dd, dd, dd, dd, dd, dd, dd, dd, dd, dd, dd, dd, dd, dd, dd, dd, dd, dd, dd, dd, dd, dd, dd, dd, dd, dd, dd, dd, dd, dd, dd, dd, dd, dd, dd, dd, dd, dd, dd, dd, dd, dd, dd, dd, dd, dd, dd, dd, dd, dd, dd, dd, dd, dd, dd, dd, dd, dd, dd, dd, dd, dd, dd, dd, dd, dd, dd, dd, dd, dd, dd, dd, dd, dd, dd, dd, dd, dd, dd, dd, dd, dd, dd, dd, dd, dd, dd, dd, dd, dd, dd, dd, dd, dd, dd, dd], []⟩
  | .x1 v_w1162 v_w1163 => ⟨[dd, dd, dd, dd, dd, dd, dd, dd, dd, dd, dd, .d (.sl (v_r406.1.map (eI .i64))), .d (.sl (v_r406.2.1.map (eI .i64))), .d (.v (.int .i64 v_r406.2.2)), dd, .srf 0, .srf 1, dd, dd, dd, dd, dd, dd, dd, dd, dd, dd, dd, dd, dd, dd, dd, dd, dd, dd, dd, dd, dd, dd, dd, dd, dd, dd, dd, dd, dd, dd, dd, dd, dd, dd, dd, dd, dd, dd, dd, dd, dd, dd, dd, dd, dd, dd, dd, dd, dd, dd, dd, dd, dd, dd, dd, dd, dd, dd, dd, dd, dd, dd, dd, dd, dd, dd, dd, dd, dd, dd, dd, dd, dd, dd, dd, dd, dd, dd, dd, dd, dd, dd, dd, dd, dd, dd, dd, dd, dd, dd, dd, dd, dd, dd, dd, dd, dd, dd, dd, dd, dd, dd, dd, dd, dd, dd, dd, dd, dd, dd, dd, dd, dd, dd, dd, dd, dd, dd, dd, dd, dd, dd, dd, dd, dd, dd, dd, dd, dd, dd, dd, dd, dd, dd, dd, dd, dd, dd, dd, dd, dd, dd, dd, dd, dd, dd, dd, dd, dd, dd, dd, dd, dd, dd, dd, dd, dd, dd, dd, dd, dd, dd, dd, dd, dd, dd, dd, dd, dd, dd, dd, dd, dd, dd, dd, dd, dd, dd, dd, dd, dd, dd, dd, dd, dd, dd, dd, dd, dd, dd, dd, dd, dd, dd, dd, dd, dd, dd, dd, dd], [.row 3 1 (v_w1162.map (eI .i64)), .row 3 1 (v_w1163.map (eI .i64))]⟩
def G_ringlaw5_LabelRuns_L25_hd (v_r93 : ((List Bool) × Int)) (v_r406 : ((List Int) × (List Int) × Int)) (v_acts3 : (List S_label_Act)) (v_who1 : (List S_label_Label)) (v_what2 : (List S_label_Label)) (v_x892 : Int) (v_w893 : (List Int)) (v_w894 : (List Int)) : PS := ⟨[dd, dd, dd, dd, .ref 0 0, .ref 1 0, dd, dd, dd, .d (.sl (v_r93.1.map eB)), dd, .d (.sl (v_r406.1.map (eI .i64))), .d (.sl (v_r406.2.1.map (eI .i64))), .d (.v (.int .i64 v_r406.2.2)), dd, .srf 2, .srf 3, dd, dd, dd, dd, dd, dd, dd, dd, dd, dd, dd, dd, dd, dd, dd, dd, dd, dd, dd, dd, dd, dd, dd, dd, dd, dd, dd, dd, dd, dd, dd, dd, dd, dd, dd, dd, dd, dd, dd, dd, dd, dd, dd, dd, dd, dd, dd, dd, dd, dd, dd, dd, dd, dd, dd, dd, dd, dd, dd, dd, dd, dd, dd, dd, dd, dd, dd, dd, dd, dd, dd, dd, dd, dd, dd, dd, dd, dd, dd, dd, dd, .d (.sl (v_acts3.map eS_label_Act)), .d (.v (.int .i64 (v_acts3.length : Int))), .d (.v (.int .i64 v_x892)), dd, dd, dd, dd, dd, dd, dd, dd, dd, dd, dd, dd, dd, dd, dd, dd, dd, dd, dd, dd, dd, dd, dd, dd, dd, dd, dd, dd, dd, dd, dd, dd, dd, dd, dd, dd, dd, dd, dd, dd, dd, dd, dd, dd, dd, dd, dd, dd, dd, dd, dd, dd, dd, dd, dd, dd, dd, dd, dd, dd, dd, dd, dd, dd, dd, dd, dd, dd, dd, dd, dd, dd, dd, dd, dd, dd, dd, dd, dd, dd, dd, dd, dd, dd, dd, dd, dd, dd, dd, dd, dd, dd, dd, dd, dd, dd, dd, dd, dd, dd, dd, dd, dd, dd, dd, dd, dd, dd, dd, dd, dd, dd, dd, dd, dd, dd], [.box [.d (.sl (v_who1.map eS_label_Label))], .box [.d (.sl (v_what2.map eS_label_Label))], .row 3 1 (v_w893.map (eI .i64)), .row 3 1 (v_w894.map (eI .i64))]⟩
def G_ringlaw5_LabelRuns_L25 (n : Nat) (v_r93 : ((List Bool) × Int)) (v_r406 : ((List Int) × (List Int) × Int)) (v_acts3 : (List S_label_Act)) (v_who1 : (List S_label_Label)) (v_what2 : (List S_label_Label)) : Nat → Int → (List Int) → (List Int) → Option G_ringlaw5_LabelRuns_L25_R
  | 0, _, _, _ => none
  | k + 1, v_x892, v_w893, v_w894 =>
    if v_x892 < (v_acts3.length : Int) then
     (G_ringlaw5_LabelRuns_C24 n v_r93 v_r406 v_acts3 v_x892 v_who1 v_what2 v_w893 v_w894).bind fun v_o1157 => match v_o1157 with
     | .x0 v_z1158 =>
       some (.x0 v_z1158)
     | .x1 v_z1160 v_z1161 =>
       G_ringlaw5_LabelRuns_L25 n v_r93 v_r406 v_acts3 v_who1 v_what2 k (wi .i64 (v_x892 + 1)) v_z1160 v_z1161
    else
     some (.x1 v_w893 v_w894)
theorem G_ringlaw5_LabelRuns_L25_ok {Fi : Ex → PS → Prop} (hF : KC 217 Fi) (ks : List Fr) (n : Nat) (v_r93 : ((List Bool) × Int)) (v_r406 : ((List Int) × (List Int) × Int)) (v_acts3 : (List S_label_Act)) (v_who1 : (List S_label_Label)) (v_what2 : (List S_label_Label))  : ∀ (k : Nat) (v_x892 : Int) (v_w893 : (List Int)) (v_w894 : (List Int)) (o : G_ringlaw5_LabelRuns_L25_R), G_ringlaw5_LabelRuns_L25 n v_r93 v_r406 v_acts3 v_who1 v_what2 k v_x892 v_w893 v_w894 = some o → RunE Try.prog 217 Fi ks (G_ringlaw5_LabelRuns_L25_ex o) (G_ringlaw5_LabelRuns_L25_st v_r93 v_r406 v_acts3 v_who1 v_what2 o) → RunE Try.prog 217 Fi (.l k (cP (cB (cR (cL (cR (cR (cR (cR (cR (cR (cR (cR (cR (bodyOf Try.f5)))))))))))))) :: ks) .normal (G_ringlaw5_LabelRuns_L25_hd v_r93 v_r406 v_acts3 v_who1 v_what2 v_x892 v_w893 v_w894)
  | 0, v_x892, v_w893, v_w894, o, h, q => by rw [G_ringlaw5_LabelRuns_L25] at h; cases h
  | k + 1, v_x892, v_w893, v_w894, o, h, q => by
    rw [G_ringlaw5_LabelRuns_L25] at h
    by_cases h999 : v_x892 < (v_acts3.length : Int)
    · rw [if_pos h999] at h
      obtain ⟨v_o1157, h1164, h⟩ := bind_some h
      refine pkk_sound TTok mix hF 7 (hs := [.t true]) (ts := []) (s := [0, 1, 2, 3]) (l := [4, 5, 9, 11, 12, 13, 15, 16, 98, 99, 100]) (by kernel_rfl) (by kernel_rfl) (.cons (dt h999) .nil) (G_ringlaw5_LabelRuns_C24_ok hF (.s (cR (cR (cR (cP (cB (cR (cL (cR (cR (cR (cR (cR (cR (cR (cR (cR (bodyOf Try.f5))))))))))))))))) :: .l k (cP (cB (cR (cL (cR (cR (cR (cR (cR (cR (cR (cR (cR (bodyOf Try.f5)))))))))))))) :: ks) n v_r93 v_r406 v_acts3 v_x892 v_who1 v_what2 v_w893 v_w894 _ h1164 ?_)
      cases v_o1157 with
      | x0 v_z1158 =>
        try dsimp only at h
        cases h
        exact pkk_sound TTok mix hF 2 (hs := []) (ts := []) (s := []) (l := [8]) (by kernel_rfl) (by kernel_rfl) .nil q
      | x1 v_z1160 v_z1161 =>
        try dsimp only at h
        exact pkk_sound TTok mix hF 1 (hs := []) (ts := []) (s := [0, 1, 2, 3]) (l := [4, 5, 9, 11, 12, 13, 15, 16, 98, 99, 100]) (by kernel_rfl) (by kernel_rfl) .nil (G_ringlaw5_LabelRuns_L25_ok hF ks n v_r93 v_r406 v_acts3 v_who1 v_what2 k (wi .i64 (v_x892 + 1)) v_z1160 v_z1161 _ h q)
    · rw [if_neg h999] at h
      cases h
      exact pkk_sound TTok mix hF 8 (hs := [.t false]) (ts := []) (s := [2, 3]) (l := [11, 12, 13, 15, 16]) (by kernel_rfl) (by kernel_rfl) (.cons (df h999) .nil) q
inductive G_ringlaw5_LabelRuns_C26_R where
  | x0 (v_x1174 : Bool)
def G_ringlaw5_LabelRuns_C26_ex : G_ringlaw5_LabelRuns_C26_R → Ex
  | .x0 _ => .normal
def G_ringlaw5_LabelRuns_C26_st (v_r406 : ((List Int) × (List Int) × Int)) (v_r1168 : ((List Int))) (v_r1169 : ((List Int))) : G_ringlaw5_LabelRuns_C26_R → PS
  | .x0 v_x1174 => ⟨[dd, dd, dd, dd, dd, dd, dd, dd, .d (.v (.bool v_x1174)), dd, dd, dd, dd, dd, dd, dd, dd, dd, dd, dd, dd, dd, dd, dd, dd, dd, dd, dd, dd, dd, dd, dd, dd, dd, dd, dd, dd, dd, dd, dd, dd, dd, dd, dd, dd, dd, dd, dd, dd, dd, dd, dd, dd, dd, dd, dd, dd, dd, dd, dd, dd, dd, dd, dd, dd, dd, dd, dd, dd, dd, dd, dd, dd, dd, dd, dd, dd, dd, dd, dd, dd, dd, dd, dd, dd, dd, dd, dd, dd, dd, dd, dd, dd, dd, dd, dd, dd, dd, dd, dd, dd, dd, dd, dd, dd, dd, dd, dd, dd, dd, dd, dd, dd, dd, dd, dd, dd, dd, dd, dd, dd, dd, dd, dd, dd, dd, dd, dd, dd, dd, dd, dd, dd, dd, dd, dd, dd, dd, dd, dd, dd, dd, dd, dd, dd, dd, dd, dd, dd, dd, dd, dd, dd, dd, dd, dd, dd, dd, dd, dd, dd, dd, dd, dd, dd, dd, dd, dd, dd, dd, dd, dd, dd, dd, dd, dd, dd, dd, dd, dd, dd, dd, dd, dd, dd, dd, dd, dd, dd, dd, dd, dd, dd, dd, dd, dd, dd, dd, dd, dd, dd, dd, dd, dd, dd, dd, dd, dd, dd, dd, dd, dd, dd, dd, dd, dd, dd], []⟩
def G_ringlaw5_LabelRuns_C26_hd (v_r406 : ((List Int) × (List Int) × Int)) (v_r1168 : ((List Int))) (v_r1169 : ((List Int)))  : PS := ⟨[dd, dd, dd, dd, dd, dd, dd, dd, dd, dd, dd, .d (.sl (v_r406.1.map (eI .i64))), .d (.sl (v_r406.2.1.map (eI .i64))), .d (.v (.int .i64 v_r406.2.2)), dd, .srf 0, .srf 1, dd, dd, dd, dd, dd, dd, dd, dd, dd, dd, dd, dd, dd, dd, dd, dd, dd, dd, dd, dd, dd, dd, dd, dd, dd, dd, dd, dd, dd, dd, dd, dd, dd, dd, dd, dd, dd, dd, dd, dd, dd, dd, dd, dd, dd, dd, dd, dd, dd, dd, dd, dd, dd, dd, dd, dd, dd, dd, dd, dd, dd, dd, dd, dd, dd, dd, dd, dd, dd, dd, dd, dd, dd, dd, dd, dd, dd, dd, dd, dd, dd, dd, dd, dd, dd, dd, dd, dd, dd, dd, dd, dd, dd, dd, dd, dd, dd, dd, dd, dd, dd, dd, dd, dd, dd, dd, dd, dd, dd, dd, dd, dd, dd, dd, dd, dd, dd, dd, dd, dd, dd, dd, dd, dd, dd, dd, dd, dd, dd, dd, dd, dd, dd, dd, dd, dd, dd, dd, dd, dd, dd, dd, dd, dd, dd, dd, dd, dd, dd, dd, dd, dd, dd, dd, dd, dd, dd, dd, dd, dd, dd, dd, dd, dd, dd, dd, dd, dd, dd, dd, dd, dd, dd, dd, dd, dd, dd, dd, dd, dd, dd, dd, dd, dd, dd, dd, dd, dd, dd, dd, dd, dd, dd, dd, dd, dd, dd, dd, dd, dd], [.row 3 1 (v_r1168.map (eI .i64)), .row 3 1 (v_r1169.map (eI .i64))]⟩
def G_ringlaw5_LabelRuns_C26 (n : Nat) (v_r406 : ((List Int) × (List Int) × Int)) (v_r1168 : ((List Int))) (v_r1169 : ((List Int))) : Option G_ringlaw5_LabelRuns_C26_R :=
  if v_r406.2.2 = 0 then
   (G_slices_Equal_int_int n v_r406.1 v_r1168).bind fun (v_r1172 : (Bool)) =>
   if v_r1172 = true then
    (G_slices_Equal_int_int n v_r406.2.1 v_r1169).bind fun (v_r1173 : (Bool)) =>
    some (.x0 v_r1173)
   else
    some (.x0 false)
  else
   some (.x0 false)
theorem G_ringlaw5_LabelRuns_C26_ok {Fi : Ex → PS → Prop} (hF : KC 217 Fi) (ks : List Fr) (n : Nat) (v_r406 : ((List Int) × (List Int) × Int)) (v_r1168 : ((List Int))) (v_r1169 : ((List Int)))  (o : G_ringlaw5_LabelRuns_C26_R) (h : G_ringlaw5_LabelRuns_C26 n v_r406 v_r1168 v_r1169 = some o) (q : RunE Try.prog 217 Fi ks (G_ringlaw5_LabelRuns_C26_ex o) (G_ringlaw5_LabelRuns_C26_st v_r406 v_r1168 v_r1169 o)) : RunE Try.prog 217 Fi (.s (cL (cR (cR (cR (cR (cR (cR (cR (cR (cR (cR (cR (cR (cR (bodyOf Try.f5))))))))))))))) :: ks) .normal (G_ringlaw5_LabelRuns_C26_hd v_r406 v_r1168 v_r1169) := by
  unfold G_ringlaw5_LabelRuns_C26 at h
  by_cases h1178 : v_r406.2.2 = 0
  · rw [if_pos h1178] at h
    obtain ⟨v_r1172, h1179, h⟩ := bind_some h
    by_cases h1180 : v_r1172 = true
    · rw [if_pos h1180] at h
      obtain ⟨v_r1173, h1181, h⟩ := bind_some h
      cases h
      exact pkk_sound TTok mix hF 1 (hs := [.t true, .c, .c, .c, .r (eB v_r1172), .t true, .c, .c, .c, .r (eB v_r1173)]) (ts := []) (s := []) (l := [8]) (by kernel_rfl) (by kernel_rfl) (.cons (bt h1178) (.cons (G_slices_Equal_int_int_ok n v_r406.1 v_r1168 _ h1179) (.cons h1180 (.cons (G_slices_Equal_int_int_ok n v_r406.2.1 v_r1169 _ h1181) .nil)))) q
    · rw [if_neg h1180] at h
      cases h
      exact pkk_sound TTok mix hF 1 (hs := [.t true, .c, .c, .c, .r (eB v_r1172), .t false, .c, .c]) (ts := []) (s := []) (l := [8]) (by kernel_rfl) (by kernel_rfl) (.cons (bt h1178) (.cons (G_slices_Equal_int_int_ok n v_r406.1 v_r1168 _ h1179) (.cons (vf h1180) .nil))) q
  · rw [if_neg h1178] at h
    cases h
    exact pkk_sound TTok mix hF 1 (hs := [.t false, .c, .c, .c, .c, .c]) (ts := []) (s := []) (l := [8]) (by kernel_rfl) (by kernel_rfl) (.cons (bf h1178) .nil) q
/- ringhall/ringlaw5.LabelRuns -/
def G_ringlaw5_LabelRuns (n : Nat) (v_who1 : (List S_label_Label)) (v_what2 : (List S_label_Label)) (v_acts3 : (List S_label_Act)) (v_from4 : Int) : Option (Bool) :=
  (G_label_Run n v_who1 v_what2 v_acts3).bind fun (v_r93 : ((List Bool) × Int)) =>
  (G_label_Taint n v_who1 v_what2 v_acts3 v_from4).bind fun (v_r406 : ((List Int) × (List Int) × Int)) =>
  (G_ringlaw5_LabelRuns_C1 n v_acts3 v_from4 v_r93 v_r406 v_who1 v_what2).bind fun v_o410 => match v_o410 with
  | .x0 v_z411 =>
    (G_ringlaw5_LabelRuns_C2 n v_acts3 v_from4 v_r93 v_r406 v_z411 v_who1 v_what2).bind fun v_o482 => match v_o482 with
    | .x0 v_z483 =>
      if v_z483 = 0 then
       (G_ringlaw5_LabelRuns_C4 n v_acts3 v_from4 v_r93 v_r406 v_who1 v_what2).bind fun v_o496 => match v_o496 with
       | .x0 v_z497 =>
         if v_z497 = true then
          some false
         else
          (G_ringlaw5_LabelRuns_C5 n v_acts3 v_from4 v_r93 v_r406 v_who1 v_what2).bind fun v_o500 => match v_o500 with
          | .x0 v_z501 =>
            (G_ringlaw5_LabelRuns_C6 n v_acts3 v_from4 v_r93 v_r406 v_z501 v_who1 v_what2).bind fun v_o503 => match v_o503 with
            | .x0 v_z504 =>
              (G_ringlaw5_LabelRuns_L15 n v_r93 v_r406 v_acts3 v_who1 v_what2 n 0 ([] : List Int) v_z504).bind fun v_o796 => match v_o796 with
              | .x0 v_z797 =>
                some v_z797
              | .x1 v_z798 v_z799 =>
                if (v_z799.length : Int) = 0 then
                 if v_r406.2.2 = 4 then
                  some ((wi .i64 ((v_r406.1.length : Int) + (v_r406.2.1.length : Int))) == 0)
                 else
                  some false
                else
                 (G_slices_Sort_int_int_h n v_z798).bind fun (v_r871 : ((List Int))) =>
                 (G_slices_Sort_int_int_h n v_z799).bind fun (v_r872 : ((List Int))) =>
                 (G_ringlaw5_LabelRuns_C16 n v_r406 v_r871 v_r872).bind fun v_o890 => match v_o890 with
                 | .x0 v_z891 =>
                   some v_z891
            | .x1  =>
              (G_ringlaw5_LabelRuns_L25 n v_r93 v_r406 v_acts3 v_who1 v_what2 n 0 ([] : List Int) ([] : List Int)).bind fun v_o1164 => match v_o1164 with
              | .x0 v_z1165 =>
                some v_z1165
              | .x1 v_z1166 v_z1167 =>
                if (v_z1167.length : Int) = 0 then
                 if v_r406.2.2 = 4 then
                  some ((wi .i64 ((v_r406.1.length : Int) + (v_r406.2.1.length : Int))) == 0)
                 else
                  some false
                else
                 (G_slices_Sort_int_int_h n v_z1166).bind fun (v_r1168 : ((List Int))) =>
                 (G_slices_Sort_int_int_h n v_z1167).bind fun (v_r1169 : ((List Int))) =>
                 (G_ringlaw5_LabelRuns_C26 n v_r406 v_r1168 v_r1169).bind fun v_o1177 => match v_o1177 with
                 | .x0 v_z1178 =>
                   some v_z1178
      else
       (G_ringlaw5_LabelRuns_C3 n v_r93 v_r406 v_z483).bind fun v_o492 => match v_o492 with
       | .x0 v_z493 =>
         some v_z493
theorem G_ringlaw5_LabelRuns_ok (n : Nat) (v_who1 : (List S_label_Label)) (v_what2 : (List S_label_Label)) (v_acts3 : (List S_label_Act)) (v_from4 : Int) (r : Bool) (h : G_ringlaw5_LabelRuns n v_who1 v_what2 v_acts3 v_from4 = some r) : Ret Try.prog 5 [(eL eS_label_Label) v_who1, (eL eS_label_Label) v_what2, (eL eS_label_Act) v_acts3, (eI .i64) v_from4] (eB r) := by
  refine ret_run (n := 217) (fn := Try.f5) (c := bodyOf Try.f5) (by kernel_rfl) (by kernel_rfl) (by kernel_rfl) (by kernel_rfl) ?_
  have hF : KC 217 (FinR Try.prog Try.f5 (eB r)) := FinR.kc' (by kernel_rfl)
  unfold G_ringlaw5_LabelRuns at h
  obtain ⟨v_r93, h82, h⟩ := bind_some h
  obtain ⟨v_r406, h607, h⟩ := bind_some h
  obtain ⟨v_o410, h612, h⟩ := bind_some h
  refine pkk_sound TTok mix hF 10 (hs := [.c, .c, .r (.tup [(eL eB) v_r93.1, (eI .i64) v_r93.2]), .c, .c, .r (.tup [(eL (eI .i64)) v_r406.1, (eL (eI .i64)) v_r406.2.1, (eI .i64) v_r406.2.2])]) (ts := []) (s := [0, 3]) (l := [2, 3, 4, 5, 9, 10, 11, 12, 13, 14]) (by kernel_rfl) (by kernel_rfl) (.cons (G_label_Run_ok n v_who1 v_what2 v_acts3 _ h82) (.cons (G_label_Taint_ok n v_who1 v_what2 v_acts3 v_from4 _ h607) .nil)) (G_ringlaw5_LabelRuns_C1_ok hF (.s (cR (cL (cR (cR (cR (cR (bodyOf Try.f5))))))) :: .s (cR (cR (cR (cR (cR (bodyOf Try.f5)))))) :: []) n v_acts3 v_from4 v_r93 v_r406 v_who1 v_what2 _ h612 ?_)
  cases v_o410 with
  | x0 v_z411 =>
    try dsimp only at h
    obtain ⟨v_o482, h671, h⟩ := bind_some h
    refine pkk_sound TTok mix hF 0 (hs := []) (ts := []) (s := [0, 1]) (l := [2, 3, 4, 5, 9, 10, 11, 12, 13, 14, 49]) (by kernel_rfl) (by kernel_rfl) .nil (G_ringlaw5_LabelRuns_C2_ok hF (.s (cR (cR (cR (cR (cR (bodyOf Try.f5)))))) :: []) n v_acts3 v_from4 v_r93 v_r406 v_z411 v_who1 v_what2 _ h671 ?_)
    cases v_o482 with
    | x0 v_z483 =>
      try dsimp only at h
      by_cases h678 : v_z483 = 0
      · rw [if_pos h678] at h
        obtain ⟨v_o496, h686, h⟩ := bind_some h
        refine pkk_sound TTok mix hF 7 (hs := [.t false]) (ts := []) (s := [0, 1]) (l := [2, 3, 4, 5, 9, 10, 11, 12, 13]) (by kernel_rfl) (by kernel_rfl) (.cons (nf h678) .nil) (G_ringlaw5_LabelRuns_C4_ok hF (.s (cR (cL (cR (cR (cR (cR (cR (cR (bodyOf Try.f5))))))))) :: .s (cR (cR (cR (cR (cR (cR (cR (bodyOf Try.f5)))))))) :: []) n v_acts3 v_from4 v_r93 v_r406 v_who1 v_what2 _ h686 ?_)
        cases v_o496 with
        | x0 v_z497 =>
          try dsimp only at h
          by_cases h687 : v_z497 = true
          · rw [if_pos h687] at h
            obtain rfl := Option.some.inj h
            exact pend_sound TTok mix 5 (hs := [.t true]) (by kernel_rfl) (by kernel_rfl) (by kernel_rfl) (.cons h687 .nil)
          · rw [if_neg h687] at h
            obtain ⟨v_o500, h690, h⟩ := bind_some h
            refine pkk_sound TTok mix hF 6 (hs := [.t false]) (ts := []) (s := [0, 1]) (l := [2, 3, 4, 5, 9, 11, 12, 13, 15, 16]) (by kernel_rfl) (by kernel_rfl) (.cons (vf h687) .nil) (G_ringlaw5_LabelRuns_C5_ok hF (.s (cR (cL (cR (cR (cR (cR (cR (cR (cR (cR (bodyOf Try.f5))))))))))) :: .s (cR (cR (cR (cR (cR (cR (cR (cR (cR (bodyOf Try.f5)))))))))) :: []) n v_acts3 v_from4 v_r93 v_r406 v_who1 v_what2 _ h690 ?_)
            cases v_o500 with
            | x0 v_z501 =>
              try dsimp only at h
              obtain ⟨v_o503, h693, h⟩ := bind_some h
              refine pkk_sound TTok mix hF 0 (hs := []) (ts := []) (s := [0, 1]) (l := [2, 3, 4, 5, 9, 11, 12, 13, 15, 16, 95]) (by kernel_rfl) (by kernel_rfl) .nil (G_ringlaw5_LabelRuns_C6_ok hF (.s (cR (cR (cR (cR (cR (cR (cR (cR (cR (bodyOf Try.f5)))))))))) :: []) n v_acts3 v_from4 v_r93 v_r406 v_z501 v_who1 v_what2 _ h693 ?_)
              cases v_o503 with
              | x0 v_z504 =>
                try dsimp only at h
                obtain ⟨v_o796, h883, h⟩ := bind_some h
                refine pkk_sound TTok mix hF 5 (hs := [.u (.d (.v (.int .i64 (v_acts3.length : Int)))), .n n]) (ts := [(15, 3, 1)]) (s := [0, 1, 12, 2]) (l := [4, 5, 9, 11, 12, 13, 15, 16, 98, 99, 100]) (by kernel_rfl) (by kernel_rfl) (.cons (len_ob (f := eS_label_Act) (l := v_acts3)) .nil) (G_ringlaw5_LabelRuns_L15_ok hF (.b 0 :: .s (cR (cR (cR (cR (cR (cR (cR (cR (cR (cR (bodyOf Try.f5))))))))))) :: []) n v_r93 v_r406 v_acts3 v_who1 v_what2 n 0 ([] : List Int) v_z504 _ h883 ?_)
                cases v_o796 with
                | x0 v_z797 =>
                  try dsimp only at h
                  obtain rfl := Option.some.inj h
                  exact pend_sound TTok mix 2 (hs := []) (by kernel_rfl) (by kernel_rfl) (by kernel_rfl) .nil
                | x1 v_z798 v_z799 =>
                  try dsimp only at h
                  by_cases h887 : (v_z799.length : Int) = 0
                  · rw [if_pos h887] at h
                    by_cases h889 : v_r406.2.2 = 4
                    · rw [if_pos h889] at h
                      obtain rfl := Option.some.inj h
                      exact pend_sound TTok mix 9 (hs := [.u (.d (.v (.int .i64 (v_z799.length : Int)))), .t true, .t true, .c, .u (.d (.v (.int .i64 (v_r406.1.length : Int)))), .c, .c, .u (.d (.v (.int .i64 (v_r406.2.1.length : Int)))), .c, .c]) (by kernel_rfl) (by kernel_rfl) (by kernel_rfl) (.cons (len_ob (f := (eI .i64)) (l := v_z799)) (.cons (bt h887) (.cons (bt h889) (.cons (len_ob (f := (eI .i64)) (l := v_r406.1)) (.cons (len_ob (f := (eI .i64)) (l := v_r406.2.1)) .nil)))))
                    · rw [if_neg h889] at h
                      obtain rfl := Option.some.inj h
                      exact pend_sound TTok mix 9 (hs := [.u (.d (.v (.int .i64 (v_z799.length : Int)))), .t true, .t false, .c, .c, .c, .c, .c]) (by kernel_rfl) (by kernel_rfl) (by kernel_rfl) (.cons (len_ob (f := (eI .i64)) (l := v_z799)) (.cons (bt h887) (.cons (bf h889) .nil)))
                  · rw [if_neg h887] at h
                    obtain ⟨v_r871, h979, h⟩ := bind_some h
                    obtain ⟨v_r872, h980, h⟩ := bind_some h
                    obtain ⟨v_o890, h998, h⟩ := bind_some h
                    refine pkk_sound TTok mix hF 11 (hs := [.u (.d (.v (.int .i64 (v_z799.length : Int)))), .t false, .h [0] [] [.row 3 1 (v_r871.map (eI .i64))] (.tup []), .h [1] [] [.row 3 1 (v_r872.map (eI .i64))] (.tup [])]) (ts := []) (s := [0, 1]) (l := [11, 12, 13, 15, 16]) (by kernel_rfl) (by kernel_rfl) (.cons (len_ob (f := (eI .i64)) (l := v_z799)) (.cons (bf h887) (.cons (G_slices_Sort_int_int_h_ok n v_z798 _ h979) (.cons (G_slices_Sort_int_int_h_ok n v_z799 _ h980) .nil)))) (G_ringlaw5_LabelRuns_C16_ok hF (.s (cR (cR (cR (cR (cR (cR (cR (cR (cR (cR (cR (cR (cR (cR (bodyOf Try.f5))))))))))))))) :: []) n v_r406 v_r871 v_r872 _ h998 ?_)
                    cases v_o890 with
                    | x0 v_z891 =>
                      try dsimp only at h
                      obtain rfl := Option.some.inj h
                      exact pend_sound TTok mix 1 (hs := []) (by kernel_rfl) (by kernel_rfl) (by kernel_rfl) .nil
              | x1  =>
                try dsimp only at h
                obtain ⟨v_o1164, h1165, h⟩ := bind_some h
                refine pkk_sound TTok mix hF 5 (hs := [.u (.d (.v (.int .i64 (v_acts3.length : Int)))), .n n]) (ts := [(15, 3, 1), (16, 3, 1)]) (s := [0, 1, 11, 12]) (l := [4, 5, 9, 11, 12, 13, 15, 16, 98, 99, 100]) (by kernel_rfl) (by kernel_rfl) (.cons (len_ob (f := eS_label_Act) (l := v_acts3)) .nil) (G_ringlaw5_LabelRuns_L25_ok hF (.b 0 :: .s (cR (cR (cR (cR (cR (cR (cR (cR (cR (cR (bodyOf Try.f5))))))))))) :: []) n v_r93 v_r406 v_acts3 v_who1 v_what2 n 0 ([] : List Int) ([] : List Int) _ h1165 ?_)
                cases v_o1164 with
                | x0 v_z1165 =>
                  try dsimp only at h
                  obtain rfl := Option.some.inj h
                  exact pend_sound TTok mix 2 (hs := []) (by kernel_rfl) (by kernel_rfl) (by kernel_rfl) .nil
                | x1 v_z1166 v_z1167 =>
                  try dsimp only at h
                  by_cases h1169 : (v_z1167.length : Int) = 0
                  · rw [if_pos h1169] at h
                    by_cases h1171 : v_r406.2.2 = 4
                    · rw [if_pos h1171] at h
                      obtain rfl := Option.some.inj h
                      exact pend_sound TTok mix 9 (hs := [.u (.d (.v (.int .i64 (v_z1167.length : Int)))), .t true, .t true, .c, .u (.d (.v (.int .i64 (v_r406.1.length : Int)))), .c, .c, .u (.d (.v (.int .i64 (v_r406.2.1.length : Int)))), .c, .c]) (by kernel_rfl) (by kernel_rfl) (by kernel_rfl) (.cons (len_ob (f := (eI .i64)) (l := v_z1167)) (.cons (bt h1169) (.cons (bt h1171) (.cons (len_ob (f := (eI .i64)) (l := v_r406.1)) (.cons (len_ob (f := (eI .i64)) (l := v_r406.2.1)) .nil)))))
                    · rw [if_neg h1171] at h
                      obtain rfl := Option.some.inj h
                      exact pend_sound TTok mix 9 (hs := [.u (.d (.v (.int .i64 (v_z1167.length : Int)))), .t true, .t false, .c, .c, .c, .c, .c]) (by kernel_rfl) (by kernel_rfl) (by kernel_rfl) (.cons (len_ob (f := (eI .i64)) (l := v_z1167)) (.cons (bt h1169) (.cons (bf h1171) .nil)))
                  · rw [if_neg h1169] at h
                    obtain ⟨v_r1168, h1172, h⟩ := bind_some h
                    obtain ⟨v_r1169, h1173, h⟩ := bind_some h
                    obtain ⟨v_o1177, h1182, h⟩ := bind_some h
                    refine pkk_sound TTok mix hF 11 (hs := [.u (.d (.v (.int .i64 (v_z1167.length : Int)))), .t false, .h [0] [] [.row 3 1 (v_r1168.map (eI .i64))] (.tup []), .h [1] [] [.row 3 1 (v_r1169.map (eI .i64))] (.tup [])]) (ts := []) (s := [0, 1]) (l := [11, 12, 13, 15, 16]) (by kernel_rfl) (by kernel_rfl) (.cons (len_ob (f := (eI .i64)) (l := v_z1167)) (.cons (bf h1169) (.cons (G_slices_Sort_int_int_h_ok n v_z1166 _ h1172) (.cons (G_slices_Sort_int_int_h_ok n v_z1167 _ h1173) .nil)))) (G_ringlaw5_LabelRuns_C26_ok hF (.s (cR (cR (cR (cR (cR (cR (cR (cR (cR (cR (cR (cR (cR (cR (bodyOf Try.f5))))))))))))))) :: []) n v_r406 v_r1168 v_r1169 _ h1182 ?_)
                    cases v_o1177 with
                    | x0 v_z1178 =>
                      try dsimp only at h
                      obtain rfl := Option.some.inj h
                      exact pend_sound TTok mix 1 (hs := []) (by kernel_rfl) (by kernel_rfl) (by kernel_rfl) .nil
      · rw [if_neg h678] at h
        obtain ⟨v_o492, h683, h⟩ := bind_some h
        refine pkk_sound TTok mix hF 5 (hs := [.t true]) (ts := []) (s := []) (l := [9, 10, 11, 12, 13, 14]) (by kernel_rfl) (by kernel_rfl) (.cons (nt h678) .nil) (G_ringlaw5_LabelRuns_C3_ok hF (.s (cR (cT (cR (cL (cR (cR (cR (cR (cR (bodyOf Try.f5)))))))))) :: .s (cR (cR (cR (cR (cR (cR (bodyOf Try.f5))))))) :: []) n v_r93 v_r406 v_z483 _ h683 ?_)
        cases v_o492 with
        | x0 v_z493 =>
          try dsimp only at h
          obtain rfl := Option.some.inj h
          exact pend_sound TTok mix 2 (hs := []) (by kernel_rfl) (by kernel_rfl) (by kernel_rfl) .nil
def okS_label_Label (x : S_label_Label) : Prop := (fun a => (Lit.int .i64 a).wf = true) x.fLevel ∧ (fun a => (Lit.int .i64 a).wf = true) x.fKind ∧ True
theorem brS_label_Label : Br (.pair (.int .i64) (.pair (.int .i64) .unit)) (fun x : S_label_Label => [.v (.int .i64 x.fLevel), .v (.int .i64 x.fKind)]) okS_label_Label := br_map (br_pair (br_int .i64) (br_pair (br_int .i64) br_unit)) (fun p => S_label_Label.mk p.1 p.2.1) (fun p h => ⟨rfl, h⟩)
def okS_label_Act (x : S_label_Act) : Prop := (fun a => (Lit.int .i64 a).wf = true) x.fWho ∧ (fun a => (Lit.int .i64 a).wf = true) x.fWhat ∧ (fun _ => True) x.fWrite ∧ True
theorem brS_label_Act : Br (.pair (.int .i64) (.pair (.int .i64) (.pair .bool .unit))) (fun x : S_label_Act => [.v (.int .i64 x.fWho), .v (.int .i64 x.fWhat), .v (.bool x.fWrite)]) okS_label_Act := br_map (br_pair (br_int .i64) (br_pair (br_int .i64) (br_pair br_bool br_unit))) (fun p => S_label_Act.mk p.1 p.2.1 p.2.2.1) (fun p h => ⟨rfl, h⟩)
theorem LabelRuns_walk (H : ∀ (a0 : (List S_label_Label)) (a1 : (List S_label_Label)) (a2 : (List S_label_Act)) (a3 : Int), (okL 16 okS_label_Label) a0 → (okL 16 okS_label_Label) a1 → (okL 24 okS_label_Act) a2 → (fun a => (Lit.int .i64 a).wf = true) a3 → ∃ n, G_ringlaw5_LabelRuns n a0 a1 a2 a3 = some true) (w : World) (v0 : Value) (v1 : Value) (v2 : Value) (v3 : Value) (h0 : rep.Arg w (.slice 16 (.pair (.int .i64) (.pair (.int .i64) .unit))) v0) (h1 : rep.Arg w (.slice 16 (.pair (.int .i64) (.pair (.int .i64) .unit))) v1) (h2 : rep.Arg w (.slice 24 (.pair (.int .i64) (.pair (.int .i64) (.pair .bool .unit)))) v2) (h3 : rep.Arg w (.int .i64) v3) : Calls Try.prog 5 #[v0, v1, v2, v3] w (help.Ret (.bool true) w) := by
  obtain ⟨a0, o0, r0⟩ := arg_one (br_slice (f := eS_label_Label) (ok := okS_label_Label) brS_label_Label (fun _ => rfl) (by decide)) (by rfl) h0
  obtain ⟨a1, o1, r1⟩ := arg_one (br_slice (f := eS_label_Label) (ok := okS_label_Label) brS_label_Label (fun _ => rfl) (by decide)) (by rfl) h1
  obtain ⟨a2, o2, r2⟩ := arg_one (br_slice (f := eS_label_Act) (ok := okS_label_Act) brS_label_Act (fun _ => rfl) (by decide)) (by rfl) h2
  obtain ⟨a3, o3, r3⟩ := arg_one (br_int .i64) (by rfl) h3
  obtain ⟨n, hn⟩ := H a0 a1 a2 a3 o0 o1 o2 o3
  exact walk_of (G_ringlaw5_LabelRuns_ok n a0 a1 a2 a3 true hn) (RT_cons r0 (RT_cons r1 (RT_cons r2 (RT_cons r3 RT_nil))))
/- FRAME LabelRuns; ringhall/ringlaw5.LabelRuns; (.slice 16 (.pair (.int .i64) (.pair (.int .i64) .unit))) | (.slice 16 (.pair (.int .i64) (.pair (.int .i64) .unit))) | (.slice 24 (.pair (.int .i64) (.pair (.int .i64) (.pair .bool .unit)))) | (.int .i64); .slice none 0 0 | .slice none 0 0 | .slice none 0 0 | .int .i64 0 -/
end Go.Proofs.Ytjjjaakefnnbpaa.pv
