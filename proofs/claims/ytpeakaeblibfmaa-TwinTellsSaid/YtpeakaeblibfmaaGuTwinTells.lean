/- What the functions compute (part 2): written by gen.py. -/
import Derived.Test.YtpeakaeblibfmaaGuTwinTellsP1
set_option maxRecDepth 100000
set_option linter.all false
namespace Go.Proofs.Ytpeakaeblibfmaa.pv
open Go.RowKit
def G_ringref2_TwinGive_L4_st (v_w1676 : (List S_twin_Room)) (v_t1565 : S_twin_Twin) (v_b1675 : S_twin_Room) : G_ringref2_TwinGive_L4_R → PS
  | .x0 v_again1744 v_b1745 v_w1746 => ⟨[dd, dd, .ref 0 0, .ref 1 0, .ref 2 0, .srf 3, .d (.v (.bool v_again1744)), dd, dd, dd, dd, dd, dd, dd, dd, dd, dd, dd, dd, dd, dd, dd, dd, dd, dd, dd, dd, dd, dd, dd, dd, dd, dd, dd, dd, dd, dd, dd, dd, dd, dd, dd, dd, dd, dd, dd, dd, dd, dd, dd, dd, dd, dd, dd, dd, dd, dd, dd, dd, dd, dd, dd, dd, dd, dd, dd, dd, dd, dd, dd, dd, dd, dd, dd, dd, dd, dd, dd, dd, dd, dd, dd, dd, dd, dd, dd, dd, dd, dd, dd, dd, dd, dd, dd, dd, dd, dd, dd, dd, dd, dd, dd, dd, dd, dd, dd, dd, dd, dd, dd], [.box [.d (.v (.int .i64 v_t1565.fOrder)), .d (.sl (v_t1565.fFree.map eS_twin_Room))], .box [.d (.v (.int .i64 v_b1745.fAt)), .d (.v (.int .i64 v_b1745.fOrder))], .box [.d (.v (.int .i64 0)), .d (vnil)], .row 112 2 (v_w1746.map eS_twin_Room)]⟩
  | .x1 v_again1747 v_w1748 => ⟨[dd, dd, .ref 0 0, .ref 1 0, .ref 2 0, .srf 3, .d (.v (.bool v_again1747)), dd, dd, dd, dd, dd, dd, dd, dd, dd, dd, dd, dd, dd, dd, dd, dd, dd, dd, dd, dd, dd, dd, dd, dd, dd, dd, dd, dd, dd, dd, dd, dd, dd, dd, dd, dd, dd, dd, dd, dd, dd, dd, dd, dd, dd, dd, dd, dd, dd, dd, dd, dd, dd, dd, dd, dd, dd, dd, dd, dd, dd, dd, dd, dd, dd, dd, dd, dd, dd, dd, dd, dd, dd, dd, dd, dd, dd, dd, dd, dd, dd, dd, dd, dd, dd, dd, dd, dd, dd, dd, dd, dd, dd, dd, dd, dd, dd, dd, dd, dd, dd, dd, dd], [.box [.d (.v (.int .i64 v_t1565.fOrder)), .d (.sl (v_t1565.fFree.map eS_twin_Room))], .box [.d (.v (.int .i64 v_b1675.fAt)), .d (.v (.int .i64 v_b1675.fOrder))], .box [.d (.v (.int .i64 0)), .d (vnil)], .row 112 2 (v_w1748.map eS_twin_Room)]⟩
def G_ringref2_TwinGive_L4_hd (v_w1676 : (List S_twin_Room)) (v_t1565 : S_twin_Twin) (v_b1675 : S_twin_Room) (v_again1677 : Bool) (v_x1678 : Int) (v_w1679 : (List S_twin_Room)) : PS := ⟨[dd, dd, .ref 0 0, .ref 1 0, .ref 2 0, .srf 3, .d (.v (.bool v_again1677)), dd, dd, dd, dd, dd, dd, dd, dd, dd, dd, dd, .srf 3, .d (.v (.int .i64 (v_w1676.length : Int))), .d (.v (.int .i64 v_x1678)), dd, dd, dd, dd, dd, dd, dd, dd, dd, dd, dd, dd, dd, dd, dd, dd, dd, dd, dd, dd, dd, dd, dd, dd, dd, dd, dd, dd, dd, dd, dd, dd, dd, dd, dd, dd, dd, dd, dd, dd, dd, dd, dd, dd, dd, dd, dd, dd, dd, dd, dd, dd, dd, dd, dd, dd, dd, dd, dd, dd, dd, dd, dd, dd, dd, dd, dd, dd, dd, dd, dd, dd, dd, dd, dd, dd, dd, dd, dd, dd, dd, dd, dd, dd, dd, dd, dd, dd, dd], [.box [.d (.v (.int .i64 v_t1565.fOrder)), .d (.sl (v_t1565.fFree.map eS_twin_Room))], .box [.d (.v (.int .i64 v_b1675.fAt)), .d (.v (.int .i64 v_b1675.fOrder))], .box [.d (.v (.int .i64 0)), .d (vnil)], .row 112 2 (v_w1679.map eS_twin_Room)]⟩
def G_ringref2_TwinGive_L4 (n : Nat) (v_w1676 : (List S_twin_Room)) (v_t1565 : S_twin_Twin) (v_b1675 : S_twin_Room) : Nat → Bool → Int → (List S_twin_Room) → Option G_ringref2_TwinGive_L4_R
  | 0, _, _, _ => none
  | k + 1, v_again1677, v_x1678, v_w1679 =>
    if v_x1678 < (v_w1676.length : Int) then
     if 0 ≤ v_x1678 ∧ (v_x1678).toNat < v_w1679.length then
      (v_w1679[(v_x1678).toNat]?).bind fun (v_y1712 : S_twin_Room) =>
      (G_ringref2_TwinGive_C3 n v_again1677 v_x1678 v_y1712 v_b1675 v_w1676 v_t1565 v_w1679).bind fun v_o1729 => match v_o1729 with
      | .x0 v_z1730 v_z1731 =>
        if v_z1730 = true then
         (sub v_z1731 0 v_x1678).bind fun (v_s1740 : (List S_twin_Room)) =>
         (app 16 ([] : (List S_twin_Room)) v_s1740).bind fun (v_a1741 : (List S_twin_Room)) =>
         (sub v_z1731 (wi .i64 (v_x1678 + 1)) (v_z1731.length : Int)).bind fun (v_s1742 : (List S_twin_Room)) =>
         (app 16 v_a1741 v_s1742).bind fun (v_a1743 : (List S_twin_Room)) =>
         some (.x0 true (S_twin_Room.mk (minI v_y1712.fAt v_b1675.fAt) (wi .i64 (v_b1675.fOrder + 1))) v_a1743)
        else
         G_ringref2_TwinGive_L4 n v_w1676 v_t1565 v_b1675 k v_again1677 (wi .i64 (v_x1678 + 1)) v_z1731
     else none
    else
     some (.x1 v_again1677 v_w1679)
theorem G_ringref2_TwinGive_L4_ok {Fi : Ex → PS → Prop} (hF : KC 110 Fi) (ks : List Fr) (n : Nat) (v_w1676 : (List S_twin_Room)) (v_t1565 : S_twin_Twin) (v_b1675 : S_twin_Room)  : ∀ (k : Nat) (v_again1677 : Bool) (v_x1678 : Int) (v_w1679 : (List S_twin_Room)) (o : G_ringref2_TwinGive_L4_R), G_ringref2_TwinGive_L4 n v_w1676 v_t1565 v_b1675 k v_again1677 v_x1678 v_w1679 = some o → RunE Try.prog 110 Fi ks (G_ringref2_TwinGive_L4_ex o) (G_ringref2_TwinGive_L4_st v_w1676 v_t1565 v_b1675 o) → RunE Try.prog 110 Fi (.l k (cP (cB (cR (cR (cB (cR (cP (cB (cR (cL (cR (cR (bodyOf Try.f58))))))))))))) :: ks) .normal (G_ringref2_TwinGive_L4_hd v_w1676 v_t1565 v_b1675 v_again1677 v_x1678 v_w1679)
  | 0, v_again1677, v_x1678, v_w1679, o, h, q => by rw [G_ringref2_TwinGive_L4] at h; cases h
  | k + 1, v_again1677, v_x1678, v_w1679, o, h, q => by
    rw [G_ringref2_TwinGive_L4] at h
    by_cases h832 : v_x1678 < (v_w1676.length : Int)
    · rw [if_pos h832] at h
      by_cases h864 : 0 ≤ v_x1678 ∧ (v_x1678).toNat < v_w1679.length
      · rw [if_pos h864] at h
        obtain ⟨v_y1712, h865, h⟩ := bind_some h
        obtain ⟨v_o1729, h880, h⟩ := bind_some h
        refine pkk_sound TTok mix hF 13 (hs := [.t true, .y (eS_twin_Room v_y1712), .c, .c, .c]) (ts := []) (s := [0, 1, 2, 3, 24]) (l := [2, 3, 4, 5, 6, 7, 8, 9, 18, 19, 20]) (by kernel_rfl) (by kernel_rfl) (.cons (dt h832) (.cons (idx_ob (f := eS_twin_Room) h864) (.cons (get_ob (f := eS_twin_Room) h865) (.cons (show 0 + 2 ≤ 2 by decide) .nil)))) (G_ringref2_TwinGive_C3_ok hF (.s (cR (cR (cR (cB (cL (cR (cR (cP (cB (cR (cR (cB (cR (cP (cB (cR (cL (cR (cR (bodyOf Try.f58)))))))))))))))))))) :: .b 3 :: .s (cR (cR (cR (cP (cB (cR (cR (cB (cR (cP (cB (cR (cL (cR (cR (bodyOf Try.f58)))))))))))))))) :: .l k (cP (cB (cR (cR (cB (cR (cP (cB (cR (cL (cR (cR (bodyOf Try.f58))))))))))))) :: ks) n v_again1677 v_x1678 v_y1712 v_b1675 v_w1676 v_t1565 v_w1679 _ h880 ?_)
        cases v_o1729 with
        | x0 v_z1730 v_z1731 =>
          try dsimp only at h
          by_cases h888 : v_z1730 = true
          · rw [if_pos h888] at h
            obtain ⟨v_s1740, h891, h⟩ := bind_some h
            obtain ⟨v_a1741, h892, h⟩ := bind_some h
            obtain ⟨v_s1742, h893, h⟩ := bind_some h
            obtain ⟨v_a1743, h894, h⟩ := bind_some h
            cases h
            exact pkk_sound TTok mix hF 12 (hs := [.t true, .dl 1, .fz 3, .w (v_s1740.map eS_twin_Room), .w (v_a1741.map eS_twin_Room), .w (v_s1742.map eS_twin_Room), .w (v_a1743.map eS_twin_Room), .c, .c]) (ts := []) (s := [0, 1, 2, 44]) (l := [2, 3, 4, 5, 6]) (by kernel_rfl) (by kernel_rfl) (.cons h888 (.cons (sub_ob (f := eS_twin_Room) (s := 2) h891 (fun _ => rfl)).1 (.cons (sub_ob (f := eS_twin_Room) (s := 2) h891 (fun _ => rfl)).2.1 (.cons (sub_ob (f := eS_twin_Room) (s := 2) h891 (fun _ => rfl)).2.2.1 (.cons (sub_ob (f := eS_twin_Room) (s := 2) h891 (fun _ => rfl)).2.2.2.1 (.cons (sub_ob (f := eS_twin_Room) (s := 2) h891 (fun _ => rfl)).2.2.2.2 (.cons (app_ob (f := eS_twin_Room) (s := 2) h892 (fun _ => rfl)).1 (.cons (app_ob (f := eS_twin_Room) (s := 2) h892 (fun _ => rfl)).2.1 (.cons (app_ob (f := eS_twin_Room) (s := 2) h892 (fun _ => rfl)).2.2.1 (.cons (app_ob (f := eS_twin_Room) (s := 2) h892 (fun _ => rfl)).2.2.2 (.cons (sub_ob' (f := eS_twin_Room) (s := 2) h893 (fun _ => rfl)).1 (.cons (sub_ob' (f := eS_twin_Room) (s := 2) h893 (fun _ => rfl)).2.1 (.cons (sub_ob' (f := eS_twin_Room) (s := 2) h893 (fun _ => rfl)).2.2.1 (.cons (sub_ob' (f := eS_twin_Room) (s := 2) h893 (fun _ => rfl)).2.2.2.1 (.cons (sub_ob' (f := eS_twin_Room) (s := 2) h893 (fun _ => rfl)).2.2.2.2 (.cons (app_ob (f := eS_twin_Room) (s := 2) h894 (fun _ => rfl)).1 (.cons (app_ob (f := eS_twin_Room) (s := 2) h894 (fun _ => rfl)).2.1 (.cons (app_ob (f := eS_twin_Room) (s := 2) h894 (fun _ => rfl)).2.2.1 (.cons (app_ob (f := eS_twin_Room) (s := 2) h894 (fun _ => rfl)).2.2.2 (.cons (show 0 + 2 ≤ 2 by decide) .nil)))))))))))))))))))) q
          · rw [if_neg h888] at h
            exact pkk_sound TTok mix hF 4 (hs := [.t false]) (ts := []) (s := [0, 1, 2, 3]) (l := [2, 3, 4, 5, 6, 18, 19, 20]) (by kernel_rfl) (by kernel_rfl) (.cons (vf h888) .nil) (G_ringref2_TwinGive_L4_ok hF ks n v_w1676 v_t1565 v_b1675 k v_again1677 (wi .i64 (v_x1678 + 1)) v_z1731 _ h q)
      · rw [if_neg h864] at h; cases h
    · rw [if_neg h832] at h
      cases h
      exact pkk_sound TTok mix hF 8 (hs := [.t false]) (ts := []) (s := [0, 1, 2, 3]) (l := [2, 3, 4, 5, 6]) (by kernel_rfl) (by kernel_rfl) (.cons (df h832) .nil) q
inductive G_ringref2_TwinGive_L5_R where
  | x0 (v_b1755 : S_twin_Room) (v_w1756 : (List S_twin_Room))
def G_ringref2_TwinGive_L5_ex : G_ringref2_TwinGive_L5_R → Ex
  | .x0 _ _ => .exit 0
def G_ringref2_TwinGive_L5_st (v_t1565 : S_twin_Twin) : G_ringref2_TwinGive_L5_R → PS
  | .x0 v_b1755 v_w1756 => ⟨[dd, dd, .ref 0 0, .ref 1 0, .ref 2 0, .srf 3, dd, dd, dd, dd, dd, dd, dd, dd, dd, dd, dd, dd, dd, dd, dd, dd, dd, dd, dd, dd, dd, dd, dd, dd, dd, dd, dd, dd, dd, dd, dd, dd, dd, dd, dd, dd, dd, dd, dd, dd, dd, dd, dd, dd, dd, dd, dd, dd, dd, dd, dd, dd, dd, dd, dd, dd, dd, dd, dd, dd, dd, dd, dd, dd, dd, dd, dd, dd, dd, dd, dd, dd, dd, dd, dd, dd, dd, dd, dd, dd, dd, dd, dd, dd, dd, dd, dd, dd, dd, dd, dd, dd, dd, dd, dd, dd, dd, dd, dd, dd, dd, dd, dd, dd], [.box [.d (.v (.int .i64 v_t1565.fOrder)), .d (.sl (v_t1565.fFree.map eS_twin_Room))], .box [.d (.v (.int .i64 v_b1755.fAt)), .d (.v (.int .i64 v_b1755.fOrder))], .box [.d (.v (.int .i64 0)), .d (vnil)], .row 112 2 (v_w1756.map eS_twin_Room)]⟩
def G_ringref2_TwinGive_L5_hd (v_t1565 : S_twin_Twin) (v_again1674 : Bool) (v_b1675 : S_twin_Room) (v_w1676 : (List S_twin_Room)) : PS := ⟨[dd, dd, .ref 0 0, .ref 1 0, .ref 2 0, .srf 3, .d (.v (.bool v_again1674)), dd, dd, dd, dd, dd, dd, dd, dd, dd, dd, dd, dd, dd, dd, dd, dd, dd, dd, dd, dd, dd, dd, dd, dd, dd, dd, dd, dd, dd, dd, dd, dd, dd, dd, dd, dd, dd, dd, dd, dd, dd, dd, dd, dd, dd, dd, dd, dd, dd, dd, dd, dd, dd, dd, dd, dd, dd, dd, dd, dd, dd, dd, dd, dd, dd, dd, dd, dd, dd, dd, dd, dd, dd, dd, dd, dd, dd, dd, dd, dd, dd, dd, dd, dd, dd, dd, dd, dd, dd, dd, dd, dd, dd, dd, dd, dd, dd, dd, dd, dd, dd, dd, dd], [.box [.d (.v (.int .i64 v_t1565.fOrder)), .d (.sl (v_t1565.fFree.map eS_twin_Room))], .box [.d (.v (.int .i64 v_b1675.fAt)), .d (.v (.int .i64 v_b1675.fOrder))], .box [.d (.v (.int .i64 0)), .d (vnil)], .row 112 2 (v_w1676.map eS_twin_Room)]⟩
def G_ringref2_TwinGive_L5 (n : Nat) (v_t1565 : S_twin_Twin) : Nat → Bool → S_twin_Room → (List S_twin_Room) → Option G_ringref2_TwinGive_L5_R
  | 0, _, _, _ => none
  | k + 1, v_again1674, v_b1675, v_w1676 =>
    if v_again1674 = true then
     (G_ringref2_TwinGive_L4 n v_w1676 v_t1565 v_b1675 n false 0 v_w1676).bind fun v_o1749 => match v_o1749 with
     | .x0 v_z1750 v_z1751 v_z1752 =>
       G_ringref2_TwinGive_L5 n v_t1565 k v_z1750 v_z1751 v_z1752
     | .x1 v_z1753 v_z1754 =>
       G_ringref2_TwinGive_L5 n v_t1565 k v_z1753 v_b1675 v_z1754
    else
     some (.x0 v_b1675 v_w1676)
theorem G_ringref2_TwinGive_L5_ok {Fi : Ex → PS → Prop} (hF : KC 110 Fi) (ks : List Fr) (n : Nat) (v_t1565 : S_twin_Twin)  : ∀ (k : Nat) (v_again1674 : Bool) (v_b1675 : S_twin_Room) (v_w1676 : (List S_twin_Room)) (o : G_ringref2_TwinGive_L5_R), G_ringref2_TwinGive_L5 n v_t1565 k v_again1674 v_b1675 v_w1676 = some o → RunE Try.prog 110 Fi ks (G_ringref2_TwinGive_L5_ex o) (G_ringref2_TwinGive_L5_st v_t1565 o) → RunE Try.prog 110 Fi (.l k (cP (cB (cR (cL (cR (cR (bodyOf Try.f58))))))) :: ks) .normal (G_ringref2_TwinGive_L5_hd v_t1565 v_again1674 v_b1675 v_w1676)
  | 0, v_again1674, v_b1675, v_w1676, o, h, q => by rw [G_ringref2_TwinGive_L5] at h; cases h
  | k + 1, v_again1674, v_b1675, v_w1676, o, h, q => by
    rw [G_ringref2_TwinGive_L5] at h
    by_cases h831 : v_again1674 = true
    · rw [if_pos h831] at h
      obtain ⟨v_o1749, h895, h⟩ := bind_some h
      refine pkk_sound TTok mix hF 13 (hs := [.t true, .u (.d (.v (.int .i64 (v_w1676.length : Int)))), .n n]) (ts := []) (s := [0, 1, 2, 3]) (l := [2, 3, 4, 5, 6, 18, 19, 20]) (by kernel_rfl) (by kernel_rfl) (.cons h831 (.cons (len_ob (f := eS_twin_Room) (l := v_w1676)) .nil)) (G_ringref2_TwinGive_L4_ok hF (.b 2 :: .b 1 :: .l k (cP (cB (cR (cL (cR (cR (bodyOf Try.f58))))))) :: ks) n v_w1676 v_t1565 v_b1675 n false 0 v_w1676 _ h895 ?_)
      cases v_o1749 with
      | x0 v_z1750 v_z1751 v_z1752 =>
        try dsimp only at h
        exact pkk_sound TTok mix hF 2 (hs := []) (ts := []) (s := [0, 1, 2, 3]) (l := [2, 3, 4, 5, 6]) (by kernel_rfl) (by kernel_rfl) .nil (G_ringref2_TwinGive_L5_ok hF ks n v_t1565 k v_z1750 v_z1751 v_z1752 _ h q)
      | x1 v_z1753 v_z1754 =>
        try dsimp only at h
        exact pkk_sound TTok mix hF 2 (hs := []) (ts := []) (s := [0, 1, 2, 3]) (l := [2, 3, 4, 5, 6]) (by kernel_rfl) (by kernel_rfl) .nil (G_ringref2_TwinGive_L5_ok hF ks n v_t1565 k v_z1753 v_b1675 v_z1754 _ h q)
    · rw [if_neg h831] at h
      cases h
      exact pkk_sound TTok mix hF 8 (hs := [.t false]) (ts := []) (s := [0, 1, 2, 3]) (l := [2, 3, 4, 5]) (by kernel_rfl) (by kernel_rfl) (.cons (vf h831) .nil) q
inductive G_ringref2_TwinGive_L6_R where
  | x0 (v_w1831 : (List S_twin_Room)) (v_w1832 : (List S_twin_Room))
def G_ringref2_TwinGive_L6_ex : G_ringref2_TwinGive_L6_R → Ex
  | .x0 _ _ => .exit 6
def G_ringref2_TwinGive_L6_st (v_x1817 : Int) (v_a1820 : (List S_twin_Room)) (v_z1758 : S_twin_Room) (v_t1565 : S_twin_Twin) : G_ringref2_TwinGive_L6_R → PS
  | .x0 v_w1831 v_w1832 => ⟨[dd, dd, dd, .ref 0 0, .ref 1 0, .srf 2, dd, dd, dd, dd, .ref 3 0, dd, dd, dd, dd, dd, dd, dd, dd, dd, dd, dd, dd, dd, dd, dd, dd, dd, dd, dd, dd, dd, dd, dd, dd, dd, dd, dd, dd, dd, dd, dd, dd, dd, dd, dd, dd, dd, dd, dd, dd, dd, dd, dd, dd, dd, dd, dd, dd, dd, dd, dd, dd, dd, dd, dd, dd, dd, dd, dd, dd, dd, dd, dd, dd, dd, dd, dd, dd, dd, dd, dd, dd, dd, dd, .d (.v (.int .i64 v_x1817)), dd, dd, dd, dd, dd, dd, dd, dd, dd, dd, dd, dd, dd, dd, dd, dd, dd, dd, dd, dd, dd, dd, dd, dd], [.box [.d (.v (.int .i64 v_z1758.fAt)), .d (.v (.int .i64 v_z1758.fOrder))], .box [.d (.v (.int .i64 0)), .d (vnil)], .row 112 2 (v_w1831.map eS_twin_Room), .box [.d (.v (.int .i64 v_t1565.fOrder)), .srf 4], .row 112 2 (v_w1832.map eS_twin_Room)]⟩
def G_ringref2_TwinGive_L6_hd (v_x1817 : Int) (v_a1820 : (List S_twin_Room)) (v_z1758 : S_twin_Room) (v_t1565 : S_twin_Twin) (v_x1821 : Int) (v_w1822 : (List S_twin_Room)) (v_w1823 : (List S_twin_Room)) (v_w1824 : (List S_twin_Room)) : PS := ⟨[dd, dd, dd, .ref 0 0, .ref 1 0, .srf 2, dd, dd, dd, dd, .ref 3 0, .d (.v (.int .i64 v_x1817)), dd, dd, dd, dd, dd, dd, dd, dd, dd, dd, dd, dd, dd, dd, dd, dd, dd, dd, dd, dd, dd, dd, dd, dd, dd, dd, dd, dd, dd, dd, dd, dd, dd, dd, dd, dd, dd, dd, dd, dd, dd, dd, dd, dd, dd, dd, dd, dd, dd, dd, dd, dd, dd, dd, dd, dd, dd, dd, dd, dd, dd, dd, dd, dd, dd, dd, dd, dd, dd, dd, dd, dd, dd, .d (.v (.int .i64 v_x1817)), dd, dd, dd, dd, dd, .srf 5, .d (.v (.int .i64 (v_a1820.length : Int))), .d (.v (.int .i64 v_x1821)), dd, dd, dd, dd, dd, dd, dd, dd, dd, dd, dd, dd, dd, dd, dd, dd], [.box [.d (.v (.int .i64 v_z1758.fAt)), .d (.v (.int .i64 v_z1758.fOrder))], .box [.d (.v (.int .i64 0)), .d (vnil)], .row 112 2 (v_w1822.map eS_twin_Room), .box [.d (.v (.int .i64 v_t1565.fOrder)), .srf 4], .row 112 2 (v_w1823.map eS_twin_Room), .row 112 2 (v_w1824.map eS_twin_Room)]⟩
def G_ringref2_TwinGive_L6 (n : Nat) (v_x1817 : Int) (v_a1820 : (List S_twin_Room)) (v_z1758 : S_twin_Room) (v_t1565 : S_twin_Twin) : Nat → Int → (List S_twin_Room) → (List S_twin_Room) → (List S_twin_Room) → Option G_ringref2_TwinGive_L6_R
  | 0, _, _, _, _ => none
  | k + 1, v_x1821, v_w1822, v_w1823, v_w1824 =>
    if v_x1821 < (v_a1820.length : Int) then
     if 0 ≤ v_x1821 ∧ (v_x1821).toNat < v_w1824.length then
      (v_w1824[(v_x1821).toNat]?).bind fun (v_y1828 : S_twin_Room) =>
      if v_y1828.fAt = v_x1817 then
       (app 16 v_w1823 ([v_y1828])).bind fun (v_a1830 : (List S_twin_Room)) =>
       G_ringref2_TwinGive_L6 n v_x1817 v_a1820 v_z1758 v_t1565 k (wi .i64 (v_x1821 + 1)) v_w1822 v_a1830 v_w1824
      else
       G_ringref2_TwinGive_L6 n v_x1817 v_a1820 v_z1758 v_t1565 k (wi .i64 (v_x1821 + 1)) v_w1822 v_w1823 v_w1824
     else none
    else
     some (.x0 v_w1822 v_w1823)
theorem G_ringref2_TwinGive_L6_ok {Fi : Ex → PS → Prop} (hF : KC 110 Fi) (ks : List Fr) (n : Nat) (v_x1817 : Int) (v_a1820 : (List S_twin_Room)) (v_z1758 : S_twin_Room) (v_t1565 : S_twin_Twin)  : ∀ (k : Nat) (v_x1821 : Int) (v_w1822 : (List S_twin_Room)) (v_w1823 : (List S_twin_Room)) (v_w1824 : (List S_twin_Room)) (o : G_ringref2_TwinGive_L6_R), G_ringref2_TwinGive_L6 n v_x1817 v_a1820 v_z1758 v_t1565 k v_x1821 v_w1822 v_w1823 v_w1824 = some o → RunE Try.prog 110 Fi ks (G_ringref2_TwinGive_L6_ex o) (G_ringref2_TwinGive_L6_st v_x1817 v_a1820 v_z1758 v_t1565 o) → RunE Try.prog 110 Fi (.l k (cP (cB (cR (cR (cB (cL (cR (cR (cP (cB (cR (cL (cR (cR (cR (cR (bodyOf Try.f58))))))))))))))))) :: ks) .normal (G_ringref2_TwinGive_L6_hd v_x1817 v_a1820 v_z1758 v_t1565 v_x1821 v_w1822 v_w1823 v_w1824)
  | 0, v_x1821, v_w1822, v_w1823, v_w1824, o, h, q => by rw [G_ringref2_TwinGive_L6] at h; cases h
  | k + 1, v_x1821, v_w1822, v_w1823, v_w1824, o, h, q => by
    rw [G_ringref2_TwinGive_L6] at h
    by_cases h928 : v_x1821 < (v_a1820.length : Int)
    · rw [if_pos h928] at h
      by_cases h935 : 0 ≤ v_x1821 ∧ (v_x1821).toNat < v_w1824.length
      · rw [if_pos h935] at h
        obtain ⟨v_y1828, h936, h⟩ := bind_some h
        by_cases h939 : v_y1828.fAt = v_x1817
        · rw [if_pos h939] at h
          obtain ⟨v_a1830, h940, h⟩ := bind_some h
          exact pkk_sound TTok mix hF 16 (hs := [.t true, .y (eS_twin_Room v_y1828), .c, .c, .t true, .c, .c, .bd, .w (v_a1830.map eS_twin_Room), .c]) (ts := []) (s := [0, 1, 2, 3, 71, 5]) (l := [3, 4, 5, 10, 11, 85, 91, 92, 93]) (by kernel_rfl) (by kernel_rfl) (.cons (dt h928) (.cons (idx_ob (f := eS_twin_Room) h935) (.cons (get_ob (f := eS_twin_Room) h936) (.cons (show 0 + 2 ≤ 2 by decide) (.cons (bt h939) (.cons (app_ob (f := eS_twin_Room) (s := 2) h940 (fun _ => rfl)).1 (.cons (app_ob (f := eS_twin_Room) (s := 2) h940 (fun _ => rfl)).2.1 (.cons (app_ob (f := eS_twin_Room) (s := 2) h940 (fun _ => rfl)).2.2.1 (.cons (app_ob (f := eS_twin_Room) (s := 2) h940 (fun _ => rfl)).2.2.2 (.cons (show 1 + 1 ≤ 2 by decide) .nil)))))))))) (G_ringref2_TwinGive_L6_ok hF ks n v_x1817 v_a1820 v_z1758 v_t1565 k (wi .i64 (v_x1821 + 1)) v_w1822 v_a1830 v_w1824 _ h q)
        · rw [if_neg h939] at h
          exact pkk_sound TTok mix hF 16 (hs := [.t true, .y (eS_twin_Room v_y1828), .c, .c, .t false]) (ts := []) (s := [0, 1, 2, 3, 4, 5]) (l := [3, 4, 5, 10, 11, 85, 91, 92, 93]) (by kernel_rfl) (by kernel_rfl) (.cons (dt h928) (.cons (idx_ob (f := eS_twin_Room) h935) (.cons (get_ob (f := eS_twin_Room) h936) (.cons (show 0 + 2 ≤ 2 by decide) (.cons (bf h939) .nil))))) (G_ringref2_TwinGive_L6_ok hF ks n v_x1817 v_a1820 v_z1758 v_t1565 k (wi .i64 (v_x1821 + 1)) v_w1822 v_w1823 v_w1824 _ h q)
      · rw [if_neg h935] at h; cases h
    · rw [if_neg h928] at h
      cases h
      exact pkk_sound TTok mix hF 8 (hs := [.t false]) (ts := []) (s := [0, 1, 2, 3, 4]) (l := [3, 4, 5, 10, 85]) (by kernel_rfl) (by kernel_rfl) (.cons (df h928) .nil) q
inductive G_ringref2_TwinGive_L7_R where
  | x0 (v_w1836 : (List S_twin_Room))
def G_ringref2_TwinGive_L7_ex : G_ringref2_TwinGive_L7_R → Ex
  | .x0 _ => .exit 4
def G_ringref2_TwinGive_L7_st (v_z1758 : S_twin_Room) (v_t1565 : S_twin_Twin) : G_ringref2_TwinGive_L7_R → PS
  | .x0 v_w1836 => ⟨[dd, dd, dd, dd, .ref 0 0, dd, dd, dd, dd, dd, .ref 1 0, dd, dd, dd, dd, dd, dd, dd, dd, dd, dd, dd, dd, dd, dd, dd, dd, dd, dd, dd, dd, dd, dd, dd, dd, dd, dd, dd, dd, dd, dd, dd, dd, dd, dd, dd, dd, dd, dd, dd, dd, dd, dd, dd, dd, dd, dd, dd, dd, dd, dd, dd, dd, dd, dd, dd, dd, dd, dd, dd, dd, dd, dd, dd, dd, dd, dd, dd, dd, dd, dd, dd, dd, dd, dd, dd, dd, dd, dd, dd, dd, dd, dd, dd, dd, dd, dd, dd, dd, dd, dd, dd, dd, dd, dd, dd, dd, dd, dd, dd], [.box [.d (.v (.int .i64 0)), .d (vnil)], .box [.d (.v (.int .i64 v_t1565.fOrder)), .srf 2], .row 112 2 (v_w1836.map eS_twin_Room)]⟩
def G_ringref2_TwinGive_L7_hd (v_z1758 : S_twin_Room) (v_t1565 : S_twin_Twin) (v_x1817 : Int) (v_w1818 : (List S_twin_Room)) (v_w1819 : (List S_twin_Room)) : PS := ⟨[dd, dd, dd, .ref 0 0, .ref 1 0, .srf 2, dd, dd, dd, dd, .ref 3 0, dd, dd, dd, dd, dd, dd, dd, dd, dd, dd, dd, dd, dd, dd, dd, dd, dd, dd, dd, dd, dd, dd, dd, dd, dd, dd, dd, dd, dd, dd, dd, dd, dd, dd, dd, dd, dd, dd, dd, dd, dd, dd, dd, dd, dd, dd, dd, dd, dd, dd, dd, dd, dd, dd, dd, dd, dd, dd, dd, dd, dd, dd, dd, dd, dd, dd, dd, dd, dd, dd, dd, dd, dd, dd, .d (.v (.int .i64 v_x1817)), dd, dd, dd, dd, dd, dd, dd, dd, dd, dd, dd, dd, dd, dd, dd, dd, dd, dd, dd, dd, dd, dd, dd, dd], [.box [.d (.v (.int .i64 v_z1758.fAt)), .d (.v (.int .i64 v_z1758.fOrder))], .box [.d (.v (.int .i64 0)), .d (vnil)], .row 112 2 (v_w1818.map eS_twin_Room), .box [.d (.v (.int .i64 v_t1565.fOrder)), .srf 4], .row 112 2 (v_w1819.map eS_twin_Room)]⟩
def G_ringref2_TwinGive_L7 (n : Nat) (v_z1758 : S_twin_Room) (v_t1565 : S_twin_Twin) : Nat → Int → (List S_twin_Room) → (List S_twin_Room) → Option G_ringref2_TwinGive_L7_R
  | 0, _, _, _ => none
  | k + 1, v_x1817, v_w1818, v_w1819 =>
    if v_x1817 < 64 then
     (app 16 ([v_z1758]) v_w1818).bind fun (v_a1820 : (List S_twin_Room)) =>
     (G_ringref2_TwinGive_L6 n v_x1817 v_a1820 v_z1758 v_t1565 n 0 v_w1818 v_w1819 v_a1820).bind fun v_o1833 => match v_o1833 with
     | .x0 v_z1834 v_z1835 =>
       G_ringref2_TwinGive_L7 n v_z1758 v_t1565 k (wi .i64 (v_x1817 + 1)) v_z1834 v_z1835
    else
     some (.x0 v_w1819)
theorem G_ringref2_TwinGive_L7_ok {Fi : Ex → PS → Prop} (hF : KC 110 Fi) (ks : List Fr) (n : Nat) (v_z1758 : S_twin_Room) (v_t1565 : S_twin_Twin)  : ∀ (k : Nat) (v_x1817 : Int) (v_w1818 : (List S_twin_Room)) (v_w1819 : (List S_twin_Room)) (o : G_ringref2_TwinGive_L7_R), G_ringref2_TwinGive_L7 n v_z1758 v_t1565 k v_x1817 v_w1818 v_w1819 = some o → RunE Try.prog 110 Fi ks (G_ringref2_TwinGive_L7_ex o) (G_ringref2_TwinGive_L7_st v_z1758 v_t1565 o) → RunE Try.prog 110 Fi (.l k (cP (cB (cR (cL (cR (cR (cR (cR (bodyOf Try.f58))))))))) :: ks) .normal (G_ringref2_TwinGive_L7_hd v_z1758 v_t1565 v_x1817 v_w1818 v_w1819)
  | 0, v_x1817, v_w1818, v_w1819, o, h, q => by rw [G_ringref2_TwinGive_L7] at h; cases h
  | k + 1, v_x1817, v_w1818, v_w1819, o, h, q => by
    rw [G_ringref2_TwinGive_L7] at h
    by_cases h926 : v_x1817 < 64
    · rw [if_pos h926] at h
      obtain ⟨v_a1820, h927, h⟩ := bind_some h
      obtain ⟨v_o1833, h941, h⟩ := bind_some h
      refine pkk_sound TTok mix hF 14 (hs := [.t true, .c, .w ([v_z1758].map eS_twin_Room), .w (v_a1820.map eS_twin_Room), .u (.d (.v (.int .i64 (v_a1820.length : Int)))), .n n]) (ts := []) (s := [0, 1, 2, 3, 4, 35]) (l := [3, 4, 5, 10, 11, 85, 91, 92, 93]) (by kernel_rfl) (by kernel_rfl) (.cons (dt h926) (.cons (Eq.refl ([v_z1758].map eS_twin_Room)) (.cons (app_ob (f := eS_twin_Room) (s := 2) h927 (fun _ => rfl)).1 (.cons (app_ob (f := eS_twin_Room) (s := 2) h927 (fun _ => rfl)).2.1 (.cons (app_ob (f := eS_twin_Room) (s := 2) h927 (fun _ => rfl)).2.2.1 (.cons (app_ob (f := eS_twin_Room) (s := 2) h927 (fun _ => rfl)).2.2.2 (.cons (len_ob (f := eS_twin_Room) (l := v_a1820)) .nil))))))) (G_ringref2_TwinGive_L6_ok hF (.b 6 :: .b 5 :: .s (cR (cR (cR (cP (cB (cR (cL (cR (cR (cR (cR (bodyOf Try.f58)))))))))))) :: .l k (cP (cB (cR (cL (cR (cR (cR (cR (bodyOf Try.f58))))))))) :: ks) n v_x1817 v_a1820 v_z1758 v_t1565 n 0 v_w1818 v_w1819 v_a1820 _ h941 ?_)
      cases v_o1833 with
      | x0 v_z1834 v_z1835 =>
        try dsimp only at h
        exact pkk_sound TTok mix hF 3 (hs := []) (ts := []) (s := [0, 1, 2, 3, 4]) (l := [3, 4, 5, 10, 85]) (by kernel_rfl) (by kernel_rfl) .nil (G_ringref2_TwinGive_L7_ok hF ks n v_z1758 v_t1565 k (wi .i64 (v_x1817 + 1)) v_z1834 v_z1835 _ h q)
    · rw [if_neg h926] at h
      cases h
      exact pkk_sound TTok mix hF 8 (hs := [.t false]) (ts := []) (s := [1, 3, 4]) (l := [4, 10]) (by kernel_rfl) (by kernel_rfl) (.cons (df h926) .nil) q
/- ringhall/ringref2.TwinGive -/
def G_ringref2_TwinGive (n : Nat) (v_t1565 : S_twin_Twin) (v_r1566 : S_twin_Room) : Option (S_twin_Twin) :=
  (app 16 ([] : (List S_twin_Room)) v_t1565.fFree).bind fun (v_a1573 : (List S_twin_Room)) =>
  (G_ringref2_TwinGive_L5 n v_t1565 n true v_r1566 v_a1573).bind fun v_o1757 => match v_o1757 with
  | .x0 v_z1758 v_z1759 =>
    (G_ringref2_TwinGive_L7 n v_z1758 v_t1565 n 0 v_z1759 ([] : List S_twin_Room)).bind fun v_o1837 => match v_o1837 with
    | .x0 v_z1838 =>
      some (S_twin_Twin.mk v_t1565.fOrder v_z1838)
theorem G_ringref2_TwinGive_ok (n : Nat) (v_t1565 : S_twin_Twin) (v_r1566 : S_twin_Room) (r : S_twin_Twin) (h : G_ringref2_TwinGive n v_t1565 v_r1566 = some r) : Ret Try.prog 58 [eS_twin_Twin v_t1565, eS_twin_Room v_r1566] (eS_twin_Twin r) := by
  refine ret_run (n := 110) (fn := Try.f58) (c := bodyOf Try.f58) (by kernel_rfl) (by kernel_rfl) (by kernel_rfl) (by kernel_rfl) ?_
  have hF : KC 110 (FinR Try.prog Try.f58 (eS_twin_Twin r)) := FinR.kc' (by kernel_rfl)
  unfold G_ringref2_TwinGive at h
  obtain ⟨v_a1573, h765, h⟩ := bind_some h
  obtain ⟨v_o1757, h896, h⟩ := bind_some h
  refine pkk_sound TTok mix hF 9 (hs := [.c, .w (v_a1573.map eS_twin_Room), .n n]) (ts := []) (s := [0, 5, 10, 25]) (l := [2, 3, 4, 5, 6]) (by kernel_rfl) (by kernel_rfl) (.cons (app_ob (f := eS_twin_Room) (s := 2) h765 (fun _ => rfl)).1 (.cons (app_ob (f := eS_twin_Room) (s := 2) h765 (fun _ => rfl)).2.1 (.cons (app_ob (f := eS_twin_Room) (s := 2) h765 (fun _ => rfl)).2.2.1 (.cons (app_ob (f := eS_twin_Room) (s := 2) h765 (fun _ => rfl)).2.2.2 .nil)))) (G_ringref2_TwinGive_L5_ok hF (.b 0 :: .s (cR (cR (cR (bodyOf Try.f58)))) :: []) n v_t1565 n true v_r1566 v_a1573 _ h896 ?_)
  cases v_o1757 with
  | x0 v_z1758 v_z1759 =>
    try dsimp only at h
    obtain ⟨v_o1837, h942, h⟩ := bind_some h
    refine pkk_sound TTok mix hF 9 (hs := [.c, .c, .dl 4, .tb 19 1 112 2, .n n]) (ts := []) (s := [1, 2, 3, 19, 34]) (l := [3, 4, 5, 10, 85]) (by kernel_rfl) (by kernel_rfl) (.cons (show 0 + 2 ≤ 2 by decide) .nil) (G_ringref2_TwinGive_L7_ok hF (.b 4 :: .s (cR (cR (cR (cR (cR (bodyOf Try.f58)))))) :: []) n v_z1758 v_t1565 n 0 v_z1759 ([] : List S_twin_Room) _ h942 ?_)
    cases v_o1837 with
    | x0 v_z1838 =>
      try dsimp only at h
      obtain rfl := Option.some.inj h
      exact pend_sound TTok mix 4 (hs := [.c, .c]) (by kernel_rfl) (by kernel_rfl) (by kernel_rfl) (.cons (show 0 + 2 ≤ 2 by decide) .nil)
inductive G_ringref2_TwinTake_C2_R where
  | x0 (v_b1956 : S_twin_Room)
  | x1 
def G_ringref2_TwinTake_C2_ex : G_ringref2_TwinTake_C2_R → Ex
  | .x0 _ => .normal
  | .x1  => .normal
def G_ringref2_TwinTake_C2_st (v_order1924 : Int) (v_t1923 : S_twin_Twin) (v_x1952 : Int) (v_b1953 : S_twin_Room) : G_ringref2_TwinTake_C2_R → PS
  | .x0 v_b1956 => ⟨[dd, .d (.v (.int .i64 v_order1924)), .ref 0 0, dd, .ref 1 0, dd, dd, .ref 2 0, dd, dd, dd, dd, dd, dd, dd, dd, .d (.sl (v_t1923.fFree.map eS_twin_Room)), .d (.v (.int .i64 (v_t1923.fFree.length : Int))), .d (.v (.int .i64 v_x1952)), dd, dd, dd, dd, dd, dd, dd, dd, dd, dd, dd, dd, dd, dd, dd, dd, dd, dd, dd, dd, dd, dd, dd, dd, dd, dd, dd, dd, dd, dd, dd, dd, dd, dd, dd, dd, dd, dd, dd, dd, dd, dd, dd, dd, dd, dd, dd, dd, dd, dd, dd, dd, dd, dd, dd, dd, dd, dd, dd, dd, dd, dd], [.box [.d (.v (.int .i64 v_t1923.fOrder)), .d (.sl (v_t1923.fFree.map eS_twin_Room))], .box [.d (.v (.int .i64 0)), .d (vnil)], .box [.d (.v (.int .i64 v_b1956.fAt)), .d (.v (.int .i64 v_b1956.fOrder))]]⟩
  | .x1  => ⟨[dd, .d (.v (.int .i64 v_order1924)), .ref 0 0, dd, .ref 1 0, dd, dd, .ref 2 0, dd, dd, dd, dd, dd, dd, dd, dd, .d (.sl (v_t1923.fFree.map eS_twin_Room)), .d (.v (.int .i64 (v_t1923.fFree.length : Int))), .d (.v (.int .i64 v_x1952)), dd, dd, dd, dd, dd, dd, dd, dd, dd, dd, dd, dd, dd, dd, dd, dd, dd, dd, dd, dd, dd, dd, dd, dd, dd, dd, dd, dd, dd, dd, dd, dd, dd, dd, dd, dd, dd, dd, dd, dd, dd, dd, dd, dd, dd, dd, dd, dd, dd, dd, dd, dd, dd, dd, dd, dd, dd, dd, dd, dd, dd, dd], [.box [.d (.v (.int .i64 v_t1923.fOrder)), .d (.sl (v_t1923.fFree.map eS_twin_Room))], .box [.d (.v (.int .i64 0)), .d (vnil)], .box [.d (.v (.int .i64 v_b1953.fAt)), .d (.v (.int .i64 v_b1953.fOrder))]]⟩
def G_ringref2_TwinTake_C2_hd (v_order1924 : Int) (v_t1923 : S_twin_Twin) (v_x1952 : Int) (v_b1953 : S_twin_Room)  : PS := ⟨[dd, .d (.v (.int .i64 v_order1924)), .ref 0 0, dd, .ref 1 0, dd, dd, .ref 2 0, dd, dd, dd, dd, dd, dd, dd, dd, .d (.sl (v_t1923.fFree.map eS_twin_Room)), .d (.v (.int .i64 (v_t1923.fFree.length : Int))), .d (.v (.int .i64 v_x1952)), dd, dd, dd, dd, dd, dd, dd, dd, dd, dd, dd, dd, dd, dd, dd, dd, dd, dd, dd, dd, dd, dd, dd, dd, dd, dd, dd, dd, dd, dd, dd, dd, dd, dd, dd, dd, dd, dd, dd, dd, dd, dd, dd, dd, dd, dd, dd, dd, dd, dd, dd, dd, dd, dd, dd, dd, dd, dd, dd, dd, dd, dd], [.box [.d (.v (.int .i64 v_t1923.fOrder)), .d (.sl (v_t1923.fFree.map eS_twin_Room))], .box [.d (.v (.int .i64 0)), .d (vnil)], .box [.d (.v (.int .i64 v_b1953.fAt)), .d (.v (.int .i64 v_b1953.fOrder))]]⟩
def G_ringref2_TwinTake_C2 (n : Nat) (v_order1924 : Int) (v_t1923 : S_twin_Twin) (v_x1952 : Int) (v_b1953 : S_twin_Room) : Option G_ringref2_TwinTake_C2_R :=
  (getI v_t1923.fFree v_x1952).bind fun (v_y1955 : S_twin_Room) =>
  if v_y1955.fOrder ≥ v_order1924 then
   if v_y1955.fOrder < v_b1953.fOrder then
    some (.x0 v_y1955)
   else
    some (.x1 )
  else
   some (.x1 )
theorem G_ringref2_TwinTake_C2_ok {Fi : Ex → PS → Prop} (hF : KC 81 Fi) (ks : List Fr) (n : Nat) (v_order1924 : Int) (v_t1923 : S_twin_Twin) (v_x1952 : Int) (v_b1953 : S_twin_Room)  (o : G_ringref2_TwinTake_C2_R) (h : G_ringref2_TwinTake_C2 n v_order1924 v_t1923 v_x1952 v_b1953 = some o) (q : RunE Try.prog 81 Fi ks (G_ringref2_TwinTake_C2_ex o) (G_ringref2_TwinTake_C2_st v_order1924 v_t1923 v_x1952 v_b1953 o)) : RunE Try.prog 81 Fi (.s (cL (cR (cR (cP (cB (cR (cL (cR (cR (bodyOf Try.f59)))))))))) :: ks) .normal (G_ringref2_TwinTake_C2_hd v_order1924 v_t1923 v_x1952 v_b1953) := by
  unfold G_ringref2_TwinTake_C2 at h
  obtain ⟨v_y1955, h987, h⟩ := bind_some h
  by_cases h989 : v_y1955.fOrder ≥ v_order1924
  · rw [if_pos h989] at h
    by_cases h990 : v_y1955.fOrder < v_b1953.fOrder
    · rw [if_pos h990] at h
      cases h
      exact pkk_sound TTok mix hF 8 (hs := [.y (eS_twin_Room v_y1955), .c, .c, .t true, .c, .c, .c, .c, .c, .c, .t true, .c, .c]) (ts := []) (s := [0, 1, 2]) (l := [1, 2, 4, 7, 16, 17, 18]) (by kernel_rfl) (by kernel_rfl) (.cons (getI_ob (f := eS_twin_Room) h987) (.cons (show 0 + 2 ≤ 2 by decide) (.cons (dt h989) (.cons (dt h990) (.cons (show 0 + 2 ≤ 2 by decide) .nil))))) q
    · rw [if_neg h990] at h
      cases h
      exact pkk_sound TTok mix hF 8 (hs := [.y (eS_twin_Room v_y1955), .c, .c, .t true, .c, .c, .c, .c, .c, .c, .t false]) (ts := []) (s := [0, 1, 2]) (l := [1, 2, 4, 7, 16, 17, 18]) (by kernel_rfl) (by kernel_rfl) (.cons (getI_ob (f := eS_twin_Room) h987) (.cons (show 0 + 2 ≤ 2 by decide) (.cons (dt h989) (.cons (df h990) .nil)))) q
  · rw [if_neg h989] at h
    cases h
    exact pkk_sound TTok mix hF 8 (hs := [.y (eS_twin_Room v_y1955), .c, .c, .t false, .c, .c, .c, .c, .c]) (ts := []) (s := [0, 1, 2]) (l := [1, 2, 4, 7, 16, 17, 18]) (by kernel_rfl) (by kernel_rfl) (.cons (getI_ob (f := eS_twin_Room) h987) (.cons (show 0 + 2 ≤ 2 by decide) (.cons (df h989) .nil))) q
inductive G_ringref2_TwinTake_L3_R where
  | x0 (v_b1959 : S_twin_Room)
def G_ringref2_TwinTake_L3_ex : G_ringref2_TwinTake_L3_R → Ex
  | .x0 _ => .exit 0
def G_ringref2_TwinTake_L3_st (v_order1924 : Int) (v_t1923 : S_twin_Twin) : G_ringref2_TwinTake_L3_R → PS
  | .x0 v_b1959 => ⟨[dd, .d (.v (.int .i64 v_order1924)), .ref 0 0, dd, .ref 1 0, dd, dd, .ref 2 0, dd, dd, dd, dd, dd, dd, dd, dd, dd, dd, dd, dd, dd, dd, dd, dd, dd, dd, dd, dd, dd, dd, dd, dd, dd, dd, dd, dd, dd, dd, dd, dd, dd, dd, dd, dd, dd, dd, dd, dd, dd, dd, dd, dd, dd, dd, dd, dd, dd, dd, dd, dd, dd, dd, dd, dd, dd, dd, dd, dd, dd, dd, dd, dd, dd, dd, dd, dd, dd, dd, dd, dd, dd], [.box [.d (.v (.int .i64 v_t1923.fOrder)), .d (.sl (v_t1923.fFree.map eS_twin_Room))], .box [.d (.v (.int .i64 0)), .d (vnil)], .box [.d (.v (.int .i64 v_b1959.fAt)), .d (.v (.int .i64 v_b1959.fOrder))]]⟩
def G_ringref2_TwinTake_L3_hd (v_order1924 : Int) (v_t1923 : S_twin_Twin) (v_x1952 : Int) (v_b1953 : S_twin_Room) : PS := ⟨[dd, .d (.v (.int .i64 v_order1924)), .ref 0 0, dd, .ref 1 0, dd, dd, .ref 2 0, dd, dd, dd, dd, dd, dd, dd, dd, .d (.sl (v_t1923.fFree.map eS_twin_Room)), .d (.v (.int .i64 (v_t1923.fFree.length : Int))), .d (.v (.int .i64 v_x1952)), dd, dd, dd, dd, dd, dd, dd, dd, dd, dd, dd, dd, dd, dd, dd, dd, dd, dd, dd, dd, dd, dd, dd, dd, dd, dd, dd, dd, dd, dd, dd, dd, dd, dd, dd, dd, dd, dd, dd, dd, dd, dd, dd, dd, dd, dd, dd, dd, dd, dd, dd, dd, dd, dd, dd, dd, dd, dd, dd, dd, dd, dd], [.box [.d (.v (.int .i64 v_t1923.fOrder)), .d (.sl (v_t1923.fFree.map eS_twin_Room))], .box [.d (.v (.int .i64 0)), .d (vnil)], .box [.d (.v (.int .i64 v_b1953.fAt)), .d (.v (.int .i64 v_b1953.fOrder))]]⟩
def G_ringref2_TwinTake_L3 (n : Nat) (v_order1924 : Int) (v_t1923 : S_twin_Twin) : Nat → Int → S_twin_Room → Option G_ringref2_TwinTake_L3_R
  | 0, _, _ => none
  | k + 1, v_x1952, v_b1953 =>
    if v_x1952 < (v_t1923.fFree.length : Int) then
     (G_ringref2_TwinTake_C2 n v_order1924 v_t1923 v_x1952 v_b1953).bind fun v_o1957 => match v_o1957 with
     | .x0 v_z1958 =>
       G_ringref2_TwinTake_L3 n v_order1924 v_t1923 k (wi .i64 (v_x1952 + 1)) v_z1958
     | .x1  =>
       G_ringref2_TwinTake_L3 n v_order1924 v_t1923 k (wi .i64 (v_x1952 + 1)) v_b1953
    else
     some (.x0 v_b1953)
theorem G_ringref2_TwinTake_L3_ok {Fi : Ex → PS → Prop} (hF : KC 81 Fi) (ks : List Fr) (n : Nat) (v_order1924 : Int) (v_t1923 : S_twin_Twin)  : ∀ (k : Nat) (v_x1952 : Int) (v_b1953 : S_twin_Room) (o : G_ringref2_TwinTake_L3_R), G_ringref2_TwinTake_L3 n v_order1924 v_t1923 k v_x1952 v_b1953 = some o → RunE Try.prog 81 Fi ks (G_ringref2_TwinTake_L3_ex o) (G_ringref2_TwinTake_L3_st v_order1924 v_t1923 o) → RunE Try.prog 81 Fi (.l k (cP (cB (cR (cL (cR (cR (bodyOf Try.f59))))))) :: ks) .normal (G_ringref2_TwinTake_L3_hd v_order1924 v_t1923 v_x1952 v_b1953)
  | 0, v_x1952, v_b1953, o, h, q => by rw [G_ringref2_TwinTake_L3] at h; cases h
  | k + 1, v_x1952, v_b1953, o, h, q => by
    rw [G_ringref2_TwinTake_L3] at h
    by_cases h982 : v_x1952 < (v_t1923.fFree.length : Int)
    · rw [if_pos h982] at h
      obtain ⟨v_o1957, h991, h⟩ := bind_some h
      refine pkk_sound TTok mix hF 7 (hs := [.t true]) (ts := []) (s := [0, 1, 2]) (l := [1, 2, 4, 7, 16, 17, 18]) (by kernel_rfl) (by kernel_rfl) (.cons (dt h982) .nil) (G_ringref2_TwinTake_C2_ok hF (.s (cR (cR (cR (cP (cB (cR (cL (cR (cR (bodyOf Try.f59)))))))))) :: .l k (cP (cB (cR (cL (cR (cR (bodyOf Try.f59))))))) :: ks) n v_order1924 v_t1923 v_x1952 v_b1953 _ h991 ?_)
      cases v_o1957 with
      | x0 v_z1958 =>
        try dsimp only at h
        exact pkk_sound TTok mix hF 1 (hs := []) (ts := []) (s := [0, 1, 2]) (l := [1, 2, 4, 7, 16, 17, 18]) (by kernel_rfl) (by kernel_rfl) .nil (G_ringref2_TwinTake_L3_ok hF ks n v_order1924 v_t1923 k (wi .i64 (v_x1952 + 1)) v_z1958 _ h q)
      | x1  =>
        try dsimp only at h
        exact pkk_sound TTok mix hF 1 (hs := []) (ts := []) (s := [0, 1, 2]) (l := [1, 2, 4, 7, 16, 17, 18]) (by kernel_rfl) (by kernel_rfl) .nil (G_ringref2_TwinTake_L3_ok hF ks n v_order1924 v_t1923 k (wi .i64 (v_x1952 + 1)) v_b1953 _ h q)
    · rw [if_neg h982] at h
      cases h
      exact pkk_sound TTok mix hF 8 (hs := [.t false]) (ts := []) (s := [0, 1, 2]) (l := [1, 2, 4, 7]) (by kernel_rfl) (by kernel_rfl) (.cons (df h982) .nil) q
inductive G_ringref2_TwinTake_L4_R where
  | x0 (v_w2024 : (List S_twin_Room))
def G_ringref2_TwinTake_L4_ex : G_ringref2_TwinTake_L4_R → Ex
  | .x0 _ => .exit 4
def G_ringref2_TwinTake_L4_st (v_order1924 : Int) (v_t1923 : S_twin_Twin) (v_x2013 : Int) (v_z1961 : S_twin_Room) : G_ringref2_TwinTake_L4_R → PS
  | .x0 v_w2024 => ⟨[dd, .d (.v (.int .i64 v_order1924)), dd, dd, .ref 0 0, dd, dd, .ref 1 0, dd, dd, .ref 2 0, dd, dd, dd, dd, dd, dd, dd, dd, dd, dd, dd, dd, dd, dd, dd, dd, dd, dd, dd, dd, dd, dd, dd, dd, dd, dd, dd, dd, dd, dd, dd, dd, .d (.sl (v_t1923.fFree.map eS_twin_Room)), .d (.v (.int .i64 (v_t1923.fFree.length : Int))), .d (.v (.int .i64 v_x2013)), dd, dd, dd, dd, dd, dd, dd, dd, dd, dd, dd, dd, dd, dd, dd, dd, dd, dd, dd, dd, dd, dd, dd, dd, dd, dd, dd, dd, dd, dd, dd, dd, dd, dd, dd], [.box [.d (.v (.int .i64 0)), .d (vnil)], .box [.d (.v (.int .i64 v_z1961.fAt)), .d (.v (.int .i64 v_z1961.fOrder))], .box [.d (.v (.int .i64 v_t1923.fOrder)), .srf 3], .row 112 2 (v_w2024.map eS_twin_Room)]⟩
def G_ringref2_TwinTake_L4_hd (v_order1924 : Int) (v_t1923 : S_twin_Twin) (v_x2013 : Int) (v_z1961 : S_twin_Room) (v_k2018 : Int) (v_w2019 : (List S_twin_Room)) : PS := ⟨[dd, .d (.v (.int .i64 v_order1924)), dd, dd, .ref 0 0, dd, dd, .ref 1 0, dd, dd, .ref 2 0, dd, dd, .d (.v (.int .i64 v_k2018)), dd, dd, dd, dd, dd, dd, dd, dd, dd, dd, dd, dd, dd, dd, dd, dd, dd, dd, dd, dd, dd, dd, dd, dd, dd, dd, dd, dd, dd, .d (.sl (v_t1923.fFree.map eS_twin_Room)), .d (.v (.int .i64 (v_t1923.fFree.length : Int))), .d (.v (.int .i64 v_x2013)), dd, dd, dd, dd, dd, dd, dd, dd, dd, dd, dd, dd, dd, dd, dd, dd, dd, dd, dd, dd, dd, dd, dd, dd, dd, dd, dd, dd, dd, dd, dd, dd, dd, dd, dd], [.box [.d (.v (.int .i64 0)), .d (vnil)], .box [.d (.v (.int .i64 v_z1961.fAt)), .d (.v (.int .i64 v_z1961.fOrder))], .box [.d (.v (.int .i64 v_t1923.fOrder)), .srf 3], .row 112 2 (v_w2019.map eS_twin_Room)]⟩
def G_ringref2_TwinTake_L4 (n : Nat) (v_order1924 : Int) (v_t1923 : S_twin_Twin) (v_x2013 : Int) (v_z1961 : S_twin_Room) : Nat → Int → (List S_twin_Room) → Option G_ringref2_TwinTake_L4_R
  | 0, _, _ => none
  | k + 1, v_k2018, v_w2019 =>
    if v_k2018 < v_z1961.fOrder then
     (G_ringref2_Power n v_k2018).bind fun (v_r2022 : (Int)) =>
     (app 16 v_w2019 ([(S_twin_Room.mk (wi .i64 (v_z1961.fAt + v_r2022)) v_k2018)])).bind fun (v_a2023 : (List S_twin_Room)) =>
     G_ringref2_TwinTake_L4 n v_order1924 v_t1923 v_x2013 v_z1961 k (wi .i64 (v_k2018 + 1)) v_a2023
    else
     some (.x0 v_w2019)
theorem G_ringref2_TwinTake_L4_ok {Fi : Ex → PS → Prop} (hF : KC 81 Fi) (ks : List Fr) (n : Nat) (v_order1924 : Int) (v_t1923 : S_twin_Twin) (v_x2013 : Int) (v_z1961 : S_twin_Room)  : ∀ (k : Nat) (v_k2018 : Int) (v_w2019 : (List S_twin_Room)) (o : G_ringref2_TwinTake_L4_R), G_ringref2_TwinTake_L4 n v_order1924 v_t1923 v_x2013 v_z1961 k v_k2018 v_w2019 = some o → RunE Try.prog 81 Fi ks (G_ringref2_TwinTake_L4_ex o) (G_ringref2_TwinTake_L4_st v_order1924 v_t1923 v_x2013 v_z1961 o) → RunE Try.prog 81 Fi (.l k (cP (cB (cR (cR (cR (cB (cL (cR (cR (cP (cB (cR (cL (cR (cR (cR (cR (cR (bodyOf Try.f59))))))))))))))))))) :: ks) .normal (G_ringref2_TwinTake_L4_hd v_order1924 v_t1923 v_x2013 v_z1961 v_k2018 v_w2019)
  | 0, v_k2018, v_w2019, o, h, q => by rw [G_ringref2_TwinTake_L4] at h; cases h
  | k + 1, v_k2018, v_w2019, o, h, q => by
    rw [G_ringref2_TwinTake_L4] at h
    by_cases h1007 : v_k2018 < v_z1961.fOrder
    · rw [if_pos h1007] at h
      obtain ⟨v_r2022, h1010, h⟩ := bind_some h
      obtain ⟨v_a2023, h1011, h⟩ := bind_some h
      exact pkk_sound TTok mix hF 11 (hs := [.c, .t true, .c, .c, .r ((eI .i64) v_r2022), .bd, .w (v_a2023.map eS_twin_Room), .c]) (ts := []) (s := [0, 1, 2, 74]) (l := [1, 4, 7, 10, 13, 43, 44, 45]) (by kernel_rfl) (by kernel_rfl) (.cons (dt h1007) (.cons (G_ringref2_Power_ok n v_k2018 _ h1010) (.cons (app_ob (f := eS_twin_Room) (s := 2) h1011 (fun _ => rfl)).1 (.cons (app_ob (f := eS_twin_Room) (s := 2) h1011 (fun _ => rfl)).2.1 (.cons (app_ob (f := eS_twin_Room) (s := 2) h1011 (fun _ => rfl)).2.2.1 (.cons (app_ob (f := eS_twin_Room) (s := 2) h1011 (fun _ => rfl)).2.2.2 (.cons (show 1 + 1 ≤ 2 by decide) .nil))))))) (G_ringref2_TwinTake_L4_ok hF ks n v_order1924 v_t1923 v_x2013 v_z1961 k (wi .i64 (v_k2018 + 1)) v_a2023 _ h q)
    · rw [if_neg h1007] at h
      cases h
      exact pkk_sound TTok mix hF 8 (hs := [.c, .t false]) (ts := []) (s := [0, 1, 2, 3]) (l := [1, 4, 7, 10, 43, 44, 45]) (by kernel_rfl) (by kernel_rfl) (.cons (df h1007) .nil) q
inductive G_ringref2_TwinTake_L5_R where
  | x0 (v_w2027 : (List S_twin_Room))
def G_ringref2_TwinTake_L5_ex : G_ringref2_TwinTake_L5_R → Ex
  | .x0 _ => .exit 2
def G_ringref2_TwinTake_L5_st (v_order1924 : Int) (v_t1923 : S_twin_Twin) (v_z1961 : S_twin_Room) : G_ringref2_TwinTake_L5_R → PS
  | .x0 v_w2027 => ⟨[dd, dd, dd, dd, .ref 0 0, dd, dd, .ref 1 0, dd, dd, .ref 2 0, dd, dd, dd, dd, dd, dd, dd, dd, dd, dd, dd, dd, dd, dd, dd, dd, dd, dd, dd, dd, dd, dd, dd, dd, dd, dd, dd, dd, dd, dd, dd, dd, dd, dd, dd, dd, dd, dd, dd, dd, dd, dd, dd, dd, dd, dd, dd, dd, dd, dd, dd, dd, dd, dd, dd, dd, dd, dd, dd, dd, dd, dd, dd, dd, dd, dd, dd, dd, dd, dd], [.box [.d (.v (.int .i64 0)), .d (vnil)], .box [.d (.v (.int .i64 v_z1961.fAt)), .d (.v (.int .i64 v_z1961.fOrder))], .box [.d (.v (.int .i64 v_t1923.fOrder)), .srf 3], .row 112 2 (v_w2027.map eS_twin_Room)]⟩
def G_ringref2_TwinTake_L5_hd (v_order1924 : Int) (v_t1923 : S_twin_Twin) (v_z1961 : S_twin_Room) (v_x2013 : Int) (v_w2014 : (List S_twin_Room)) : PS := ⟨[dd, .d (.v (.int .i64 v_order1924)), dd, dd, .ref 0 0, dd, dd, .ref 1 0, dd, dd, .ref 2 0, dd, dd, dd, dd, dd, dd, dd, dd, dd, dd, dd, dd, dd, dd, dd, dd, dd, dd, dd, dd, dd, dd, dd, dd, dd, dd, dd, dd, dd, dd, dd, dd, .d (.sl (v_t1923.fFree.map eS_twin_Room)), .d (.v (.int .i64 (v_t1923.fFree.length : Int))), .d (.v (.int .i64 v_x2013)), dd, dd, dd, dd, dd, dd, dd, dd, dd, dd, dd, dd, dd, dd, dd, dd, dd, dd, dd, dd, dd, dd, dd, dd, dd, dd, dd, dd, dd, dd, dd, dd, dd, dd, dd], [.box [.d (.v (.int .i64 0)), .d (vnil)], .box [.d (.v (.int .i64 v_z1961.fAt)), .d (.v (.int .i64 v_z1961.fOrder))], .box [.d (.v (.int .i64 v_t1923.fOrder)), .srf 3], .row 112 2 (v_w2014.map eS_twin_Room)]⟩
def G_ringref2_TwinTake_L5 (n : Nat) (v_order1924 : Int) (v_t1923 : S_twin_Twin) (v_z1961 : S_twin_Room) : Nat → Int → (List S_twin_Room) → Option G_ringref2_TwinTake_L5_R
  | 0, _, _ => none
  | k + 1, v_x2013, v_w2014 =>
    if v_x2013 < (v_t1923.fFree.length : Int) then
     (getI v_t1923.fFree v_x2013).bind fun (v_y2015 : S_twin_Room) =>
     if (eqRes .neq (eqS_twin_Room v_y2015 v_z1961)) = true then
      (app 16 v_w2014 ([v_y2015])).bind fun (v_a2017 : (List S_twin_Room)) =>
      G_ringref2_TwinTake_L5 n v_order1924 v_t1923 v_z1961 k (wi .i64 (v_x2013 + 1)) v_a2017
     else
      (G_ringref2_TwinTake_L4 n v_order1924 v_t1923 v_x2013 v_z1961 n v_order1924 v_w2014).bind fun v_o2025 => match v_o2025 with
      | .x0 v_z2026 =>
        G_ringref2_TwinTake_L5 n v_order1924 v_t1923 v_z1961 k (wi .i64 (v_x2013 + 1)) v_z2026
    else
     some (.x0 v_w2014)
theorem G_ringref2_TwinTake_L5_ok {Fi : Ex → PS → Prop} (hF : KC 81 Fi) (ks : List Fr) (n : Nat) (v_order1924 : Int) (v_t1923 : S_twin_Twin) (v_z1961 : S_twin_Room)  : ∀ (k : Nat) (v_x2013 : Int) (v_w2014 : (List S_twin_Room)) (o : G_ringref2_TwinTake_L5_R), G_ringref2_TwinTake_L5 n v_order1924 v_t1923 v_z1961 k v_x2013 v_w2014 = some o → RunE Try.prog 81 Fi ks (G_ringref2_TwinTake_L5_ex o) (G_ringref2_TwinTake_L5_st v_order1924 v_t1923 v_z1961 o) → RunE Try.prog 81 Fi (.l k (cP (cB (cR (cL (cR (cR (cR (cR (cR (bodyOf Try.f59)))))))))) :: ks) .normal (G_ringref2_TwinTake_L5_hd v_order1924 v_t1923 v_z1961 v_x2013 v_w2014)
  | 0, v_x2013, v_w2014, o, h, q => by rw [G_ringref2_TwinTake_L5] at h; cases h
  | k + 1, v_x2013, v_w2014, o, h, q => by
    rw [G_ringref2_TwinTake_L5] at h
    by_cases h1001 : v_x2013 < (v_t1923.fFree.length : Int)
    · rw [if_pos h1001] at h
      obtain ⟨v_y2015, h1002, h⟩ := bind_some h
      by_cases h1005 : (eqRes .neq (eqS_twin_Room v_y2015 v_z1961)) = true
      · rw [if_pos h1005] at h
        obtain ⟨v_a2017, h1006, h⟩ := bind_some h
        exact pkk_sound TTok mix hF 20 (hs := [.t true, .y (eS_twin_Room v_y2015), .c, .c, .c, .q (eqS_twin_Room v_y2015 v_z1961), .t true, .c, .c, .bd, .w (v_a2017.map eS_twin_Room), .c]) (ts := []) (s := [0, 1, 2, 64]) (l := [1, 4, 7, 10, 43, 44, 45]) (by kernel_rfl) (by kernel_rfl) (.cons (dt h1001) (.cons (getI_ob (f := eS_twin_Room) h1002) (.cons (show 0 + 2 ≤ 2 by decide) (.cons (eqS_twin_Room_ok v_y2015 v_z1961) (.cons h1005 (.cons (app_ob (f := eS_twin_Room) (s := 2) h1006 (fun _ => rfl)).1 (.cons (app_ob (f := eS_twin_Room) (s := 2) h1006 (fun _ => rfl)).2.1 (.cons (app_ob (f := eS_twin_Room) (s := 2) h1006 (fun _ => rfl)).2.2.1 (.cons (app_ob (f := eS_twin_Room) (s := 2) h1006 (fun _ => rfl)).2.2.2 (.cons (show 1 + 1 ≤ 2 by decide) .nil)))))))))) (G_ringref2_TwinTake_L5_ok hF ks n v_order1924 v_t1923 v_z1961 k (wi .i64 (v_x2013 + 1)) v_a2017 _ h q)
      · rw [if_neg h1005] at h
        obtain ⟨v_o2025, h1012, h⟩ := bind_some h
        refine pkk_sound TTok mix hF 19 (hs := [.t true, .y (eS_twin_Room v_y2015), .c, .c, .c, .q (eqS_twin_Room v_y2015 v_z1961), .t false, .n n]) (ts := []) (s := [0, 1, 2, 3]) (l := [1, 4, 7, 10, 13, 43, 44, 45]) (by kernel_rfl) (by kernel_rfl) (.cons (dt h1001) (.cons (getI_ob (f := eS_twin_Room) h1002) (.cons (show 0 + 2 ≤ 2 by decide) (.cons (eqS_twin_Room_ok v_y2015 v_z1961) (.cons (vf h1005) .nil))))) (G_ringref2_TwinTake_L4_ok hF (.b 4 :: .b 3 :: .s (cR (cR (cR (cP (cB (cR (cL (cR (cR (cR (cR (cR (bodyOf Try.f59))))))))))))) :: .l k (cP (cB (cR (cL (cR (cR (cR (cR (cR (bodyOf Try.f59)))))))))) :: ks) n v_order1924 v_t1923 v_x2013 v_z1961 n v_order1924 v_w2014 _ h1012 ?_)
        cases v_o2025 with
        | x0 v_z2026 =>
          try dsimp only at h
          exact pkk_sound TTok mix hF 3 (hs := []) (ts := []) (s := [0, 1, 2, 3]) (l := [1, 4, 7, 10, 43, 44, 45]) (by kernel_rfl) (by kernel_rfl) .nil (G_ringref2_TwinTake_L5_ok hF ks n v_order1924 v_t1923 v_z1961 k (wi .i64 (v_x2013 + 1)) v_z2026 _ h q)
    · rw [if_neg h1001] at h
      cases h
      exact pkk_sound TTok mix hF 8 (hs := [.t false]) (ts := []) (s := [0, 1, 2, 3]) (l := [4, 7, 10]) (by kernel_rfl) (by kernel_rfl) (.cons (df h1001) .nil) q
/- ringhall/ringref2.TwinTake -/
def G_ringref2_TwinTake (n : Nat) (v_t1923 : S_twin_Twin) (v_order1924 : Int) : Option (S_twin_Twin × Int × Bool) :=
  (G_ringref2_TwinTake_L3 n v_order1924 v_t1923 n 0 (S_twin_Room.mk 0 99)).bind fun v_o1960 => match v_o1960 with
  | .x0 v_z1961 =>
    if v_z1961.fOrder = 99 then
     some ((S_twin_Twin.mk 0 ([] : (List S_twin_Room))), 0, false)
    else
     (G_ringref2_TwinTake_L5 n v_order1924 v_t1923 v_z1961 n 0 ([] : List S_twin_Room)).bind fun v_o2028 => match v_o2028 with
     | .x0 v_z2029 =>
       some ((S_twin_Twin.mk v_t1923.fOrder v_z2029), v_z1961.fAt, true)
theorem G_ringref2_TwinTake_ok (n : Nat) (v_t1923 : S_twin_Twin) (v_order1924 : Int) (r : S_twin_Twin × Int × Bool) (h : G_ringref2_TwinTake n v_t1923 v_order1924 = some r) : Ret Try.prog 59 [eS_twin_Twin v_t1923, (eI .i64) v_order1924] (.tup [eS_twin_Twin r.1, (eI .i64) r.2.1, eB r.2.2]) := by
  refine ret_run (n := 81) (fn := Try.f59) (c := bodyOf Try.f59) (by kernel_rfl) (by kernel_rfl) (by kernel_rfl) (by kernel_rfl) ?_
  have hF : KC 81 (FinR Try.prog Try.f59 (.tup [eS_twin_Twin r.1, (eI .i64) r.2.1, eB r.2.2])) := FinR.kc' (by kernel_rfl)
  unfold G_ringref2_TwinTake at h
  obtain ⟨v_o1960, h992, h⟩ := bind_some h
  refine pkk_sound TTok mix hF 9 (hs := [.c, .c, .u (.d (.v (.int .i64 (v_t1923.fFree.length : Int)))), .n n]) (ts := []) (s := [0, 5, 25]) (l := [1, 2, 4, 7, 16, 17, 18]) (by kernel_rfl) (by kernel_rfl) (.cons (show 0 + 2 ≤ 2 by decide) (.cons (len_ob (f := eS_twin_Room) (l := v_t1923.fFree)) .nil)) (G_ringref2_TwinTake_L3_ok hF (.b 0 :: .s (cR (cR (cR (bodyOf Try.f59)))) :: []) n v_order1924 v_t1923 n 0 (S_twin_Room.mk 0 99) _ h992 ?_)
  cases v_o1960 with
  | x0 v_z1961 =>
    try dsimp only at h
    by_cases h994 : v_z1961.fOrder = 99
    · rw [if_pos h994] at h
      obtain rfl := Option.some.inj h
      exact pend_sound TTok mix 9 (hs := [.c, .t true, .c]) (by kernel_rfl) (by kernel_rfl) (by kernel_rfl) (.cons (bt h994) (.cons (show 0 + 2 ≤ 2 by decide) .nil))
    · rw [if_neg h994] at h
      obtain ⟨v_o2028, h1013, h⟩ := bind_some h
      refine pkk_sound TTok mix hF 14 (hs := [.c, .t false, .c, .c, .c, .u (.d (.v (.int .i64 (v_t1923.fFree.length : Int)))), .dl 1, .tb 33 1 112 2, .n n]) (ts := []) (s := [1, 2, 33, 63]) (l := [1, 4, 7, 10, 43, 44, 45]) (by kernel_rfl) (by kernel_rfl) (.cons (bf h994) (.cons (show 0 + 2 ≤ 2 by decide) (.cons (len_ob (f := eS_twin_Room) (l := v_t1923.fFree)) .nil))) (G_ringref2_TwinTake_L5_ok hF (.b 2 :: .s (cR (cR (cR (cR (cR (cR (bodyOf Try.f59))))))) :: []) n v_order1924 v_t1923 v_z1961 n 0 ([] : List S_twin_Room) _ h1013 ?_)
      cases v_o2028 with
      | x0 v_z2029 =>
        try dsimp only at h
        obtain rfl := Option.some.inj h
        exact pend_sound TTok mix 4 (hs := [.c, .c, .c]) (by kernel_rfl) (by kernel_rfl) (by kernel_rfl) (.cons (show 0 + 2 ≤ 2 by decide) .nil)
inductive G_ringlaw2_TwinTells_C1_R where
  | x0 (v_x757 : Bool)
def G_ringlaw2_TwinTells_C1_ex : G_ringlaw2_TwinTells_C1_R → Ex
  | .x0 _ => .normal
def G_ringlaw2_TwinTells_C1_st (v_order2 : Int) (v_at3 : Int) (v_r10 : (S_twin_Twin × Int)) (v_r393 : (S_twin_Twin × Int × Int)) (v_r587 : (S_twin_Twin × Int)) (v_r649 : (Int × Int × Int)) (v_t1 : S_twin_Twin) : G_ringlaw2_TwinTells_C1_R → PS
  | .x0 v_x757 => ⟨[dd, .d (.v (.int .i64 v_order2)), .d (.v (.int .i64 v_at3)), .ref 0 0, dd, dd, dd, dd, dd, .ref 1 0, .d (.v (.int .i64 v_r393.2.1)), .d (.v (.int .i64 v_r393.2.2)), .ref 2 0, .d (.v (.int .i64 v_r587.2)), .d (.v (.int .i64 v_r649.1)), .d (.v (.int .i64 v_r649.2.1)), .d (.v (.int .i64 v_r649.2.2)), .ref 3 0, dd, dd, dd, dd, dd, dd, dd, dd, dd, dd, dd, dd, dd, dd, dd, dd, dd, dd, dd, dd, dd, dd, dd, dd, dd, dd, dd, dd, dd, dd, dd, dd, dd, dd, dd, dd, dd, dd, dd, dd, dd, dd, dd, dd, dd, dd, dd, dd, dd, dd, dd, dd, dd, dd, dd, dd, dd, dd, dd, dd, dd, dd, dd, dd, dd, dd, dd, dd, dd, dd, .d (.v (.bool v_x757)), dd, dd, dd, dd, dd, dd, dd, dd, dd, dd, dd, dd, dd, dd, dd, dd, dd, dd, dd, dd, dd, dd, dd, dd, dd, dd, dd, dd, dd, dd, dd, dd, dd, dd, dd, dd, dd, dd, dd, dd, dd, dd, dd, dd, dd, dd, dd, dd, dd, dd, dd, dd, dd, dd, dd, dd, dd, dd, dd, dd, dd, dd, dd, dd, dd, dd, dd, dd, dd, dd, dd, dd, dd, dd, dd, dd, dd, dd, dd, dd, dd, dd, dd, dd, dd, dd, dd, dd, dd, dd, dd, dd, dd, dd, dd, dd, dd, dd, dd, dd, dd, dd, dd, dd, dd, dd, dd, dd, dd, dd, dd, dd, dd, dd, dd, dd, dd, dd, dd, dd, dd, dd, dd, dd, dd, dd, dd, dd, dd, dd, dd, dd, dd, dd, dd, dd, dd, dd, dd, dd, dd, dd, dd, dd, dd, dd, dd, dd, dd, dd, dd, dd, dd, dd, dd, dd, dd, dd, dd, dd, dd, dd, dd, dd, dd, dd, dd, dd, dd, dd, dd, dd, dd, dd], [.box [.d (.v (.int .i64 v_t1.fOrder)), .d (.sl (v_t1.fFree.map eS_twin_Room))], .box [.d (.v (.int .i64 v_r393.1.fOrder)), .d (.sl (v_r393.1.fFree.map eS_twin_Room))], .box [.d (.v (.int .i64 v_r587.1.fOrder)), .d (.sl (v_r587.1.fFree.map eS_twin_Room))], .box [.d (.v (.int .i64 0)), .d (vnil)]]⟩
def G_ringlaw2_TwinTells_C1_hd (v_order2 : Int) (v_at3 : Int) (v_r10 : (S_twin_Twin × Int)) (v_r393 : (S_twin_Twin × Int × Int)) (v_r587 : (S_twin_Twin × Int)) (v_r649 : (Int × Int × Int)) (v_t1 : S_twin_Twin)  : PS := ⟨[dd, .d (.v (.int .i64 v_order2)), .d (.v (.int .i64 v_at3)), .ref 0 0, dd, dd, dd, .ref 1 0, .d (.v (.int .i64 v_r10.2)), .ref 2 0, .d (.v (.int .i64 v_r393.2.1)), .d (.v (.int .i64 v_r393.2.2)), .ref 3 0, .d (.v (.int .i64 v_r587.2)), .d (.v (.int .i64 v_r649.1)), .d (.v (.int .i64 v_r649.2.1)), .d (.v (.int .i64 v_r649.2.2)), .ref 4 0, dd, dd, dd, dd, dd, dd, dd, dd, dd, dd, dd, dd, dd, dd, dd, dd, dd, dd, dd, dd, dd, dd, dd, dd, dd, dd, dd, dd, dd, dd, dd, dd, dd, dd, dd, dd, dd, dd, dd, dd, dd, dd, dd, dd, dd, dd, dd, dd, dd, dd, dd, dd, dd, dd, dd, dd, dd, dd, dd, dd, dd, dd, dd, dd, dd, dd, dd, dd, dd, dd, dd, dd, dd, dd, dd, dd, dd, dd, dd, dd, dd, dd, dd, dd, dd, dd, dd, dd, dd, dd, dd, dd, dd, dd, dd, dd, dd, dd, dd, dd, dd, dd, dd, dd, dd, dd, dd, dd, dd, dd, dd, dd, dd, dd, dd, dd, dd, dd, dd, dd, dd, dd, dd, dd, dd, dd, dd, dd, dd, dd, dd, dd, dd, dd, dd, dd, dd, dd, dd, dd, dd, dd, dd, dd, dd, dd, dd, dd, dd, dd, dd, dd, dd, dd, dd, dd, dd, dd, dd, dd, dd, dd, dd, dd, dd, dd, dd, dd, dd, dd, dd, dd, dd, dd, dd, dd, dd, dd, dd, dd, dd, dd, dd, dd, dd, dd, dd, dd, dd, dd, dd, dd, dd, dd, dd, dd, dd, dd, dd, dd, dd, dd, dd, dd, dd, dd, dd, dd, dd, dd, dd, dd, dd, dd, dd, dd, dd, dd, dd, dd, dd, dd, dd, dd, dd, dd, dd, dd, dd, dd, dd, dd, dd, dd, dd, dd, dd, dd, dd, dd, dd, dd, dd, dd, dd], [.box [.d (.v (.int .i64 v_t1.fOrder)), .d (.sl (v_t1.fFree.map eS_twin_Room))], .box [.d (.v (.int .i64 v_r10.1.fOrder)), .d (.sl (v_r10.1.fFree.map eS_twin_Room))], .box [.d (.v (.int .i64 v_r393.1.fOrder)), .d (.sl (v_r393.1.fFree.map eS_twin_Room))], .box [.d (.v (.int .i64 v_r587.1.fOrder)), .d (.sl (v_r587.1.fFree.map eS_twin_Room))], .box [.d (.v (.int .i64 0)), .d (vnil)]]⟩
def G_ringlaw2_TwinTells_C1 (n : Nat) (v_order2 : Int) (v_at3 : Int) (v_r10 : (S_twin_Twin × Int)) (v_r393 : (S_twin_Twin × Int × Int)) (v_r587 : (S_twin_Twin × Int)) (v_r649 : (Int × Int × Int)) (v_t1 : S_twin_Twin) : Option G_ringlaw2_TwinTells_C1_R :=
  (G_ringref2_In n v_order2 0 6).bind fun (v_r755 : (Bool)) =>
  if v_r755 = true then
   (G_ringref2_In n v_order2 0 6).bind fun (v_r764 : (Bool)) =>
   if v_r764 = true then
    (G_ringref2_TwinSame n v_r10.1 (S_twin_Twin.mk v_order2 ([(S_twin_Room.mk 0 v_order2)]))).bind fun (v_r765 : (Bool)) =>
    if v_r765 = true then
     some (.x0 (v_r10.2 != 0))
    else
     some (.x0 true)
   else
    some (.x0 false)
  else
   (G_ringref2_TwinSame n v_r10.1 (S_twin_Twin.mk 0 ([] : (List S_twin_Room)))).bind fun (v_r756 : (Bool)) =>
   if v_r756 = true then
    if v_r10.2 = 1 then
     (G_ringref2_In n v_order2 0 6).bind fun (v_r759 : (Bool)) =>
     if v_r759 = true then
      (G_ringref2_TwinSame n v_r10.1 (S_twin_Twin.mk v_order2 ([(S_twin_Room.mk 0 v_order2)]))).bind fun (v_r760 : (Bool)) =>
      if v_r760 = true then
       some (.x0 (v_r10.2 != 0))
      else
       some (.x0 true)
     else
      some (.x0 false)
    else
     some (.x0 true)
   else
    some (.x0 true)
theorem G_ringlaw2_TwinTells_C1_e0 {Fi : Ex → PS → Prop} (hF : KC 263 Fi) (ks : List Fr) (n : Nat) (v_order2 : Int) (v_at3 : Int) (v_r10 : (S_twin_Twin × Int)) (v_r393 : (S_twin_Twin × Int × Int)) (v_r587 : (S_twin_Twin × Int)) (v_r649 : (Int × Int × Int)) (v_t1 : S_twin_Twin)  (v_r755 : (Bool)) (h522 : G_ringref2_In n v_order2 0 6 = some v_r755) (h523 : v_r755 = true) (v_r764 : (Bool)) (h531 : G_ringref2_In n v_order2 0 6 = some v_r764) (h532 : v_r764 = true) (v_r765 : (Bool)) (h533 : G_ringref2_TwinSame n v_r10.1 (S_twin_Twin.mk v_order2 ([(S_twin_Room.mk 0 v_order2)])) = some v_r765) (h534 : v_r765 = true) (q : RunE Try.prog 263 Fi ks (G_ringlaw2_TwinTells_C1_ex (.x0 (v_r10.2 != 0))) (G_ringlaw2_TwinTells_C1_st v_order2 v_at3 v_r10 v_r393 v_r587 v_r649 v_t1 (.x0 (v_r10.2 != 0)))) : RunE Try.prog 263 Fi (.s (cL (cL (cR (cR (cR (cR (cR (cR (bodyOf Try.f6))))))))) :: ks) .normal (G_ringlaw2_TwinTells_C1_hd v_order2 v_at3 v_r10 v_r393 v_r587 v_r649 v_t1) := pkk_sound TTok mix hF 1 (hs := [.r (eB v_r755), .t false, .c, .c, .c, .c, .c, .c, .c, .r (eB v_r764), .c, .t true, .c, .c, .c, .c, .c, .bd, .c, .c, .r (eB v_r765), .c, .c, .t false, .c, .c, .c]) (ts := []) (s := [0, 2, 3, 4]) (l := [1, 2, 3, 9, 10, 11, 12, 13, 14, 15, 16, 17, 88]) (by kernel_rfl) (by kernel_rfl) (.cons (G_ringref2_In_ok n v_order2 0 6 _ h522) (.cons (bnf h523) (.cons (G_ringref2_In_ok n v_order2 0 6 _ h531) (.cons h532 (.cons (G_ringref2_TwinSame_ok n v_r10.1 (S_twin_Twin.mk v_order2 ([(S_twin_Room.mk 0 v_order2)])) _ h533) (.cons (bnf h534) .nil)))))) q
theorem G_ringlaw2_TwinTells_C1_e1 {Fi : Ex → PS → Prop} (hF : KC 263 Fi) (ks : List Fr) (n : Nat) (v_order2 : Int) (v_at3 : Int) (v_r10 : (S_twin_Twin × Int)) (v_r393 : (S_twin_Twin × Int × Int)) (v_r587 : (S_twin_Twin × Int)) (v_r649 : (Int × Int × Int)) (v_t1 : S_twin_Twin)  (v_r755 : (Bool)) (h522 : G_ringref2_In n v_order2 0 6 = some v_r755) (h523 : v_r755 = true) (v_r764 : (Bool)) (h531 : G_ringref2_In n v_order2 0 6 = some v_r764) (h532 : v_r764 = true) (v_r765 : (Bool)) (h533 : G_ringref2_TwinSame n v_r10.1 (S_twin_Twin.mk v_order2 ([(S_twin_Room.mk 0 v_order2)])) = some v_r765) (h534 : ¬ (v_r765 = true)) (q : RunE Try.prog 263 Fi ks (G_ringlaw2_TwinTells_C1_ex (.x0 true)) (G_ringlaw2_TwinTells_C1_st v_order2 v_at3 v_r10 v_r393 v_r587 v_r649 v_t1 (.x0 true))) : RunE Try.prog 263 Fi (.s (cL (cL (cR (cR (cR (cR (cR (cR (bodyOf Try.f6))))))))) :: ks) .normal (G_ringlaw2_TwinTells_C1_hd v_order2 v_at3 v_r10 v_r393 v_r587 v_r649 v_t1) := pkk_sound TTok mix hF 1 (hs := [.r (eB v_r755), .t false, .c, .c, .c, .c, .c, .c, .c, .r (eB v_r764), .c, .t true, .c, .c, .c, .c, .c, .bd, .c, .c, .r (eB v_r765), .c, .c, .t true, .c, .c, .c]) (ts := []) (s := [0, 2, 3, 4]) (l := [1, 2, 3, 9, 10, 11, 12, 13, 14, 15, 16, 17, 88]) (by kernel_rfl) (by kernel_rfl) (.cons (G_ringref2_In_ok n v_order2 0 6 _ h522) (.cons (bnf h523) (.cons (G_ringref2_In_ok n v_order2 0 6 _ h531) (.cons h532 (.cons (G_ringref2_TwinSame_ok n v_r10.1 (S_twin_Twin.mk v_order2 ([(S_twin_Room.mk 0 v_order2)])) _ h533) (.cons (bnt (vf h534)) .nil)))))) q
theorem G_ringlaw2_TwinTells_C1_e2 {Fi : Ex → PS → Prop} (hF : KC 263 Fi) (ks : List Fr) (n : Nat) (v_order2 : Int) (v_at3 : Int) (v_r10 : (S_twin_Twin × Int)) (v_r393 : (S_twin_Twin × Int × Int)) (v_r587 : (S_twin_Twin × Int)) (v_r649 : (Int × Int × Int)) (v_t1 : S_twin_Twin)  (v_r755 : (Bool)) (h522 : G_ringref2_In n v_order2 0 6 = some v_r755) (h523 : v_r755 = true) (v_r764 : (Bool)) (h531 : G_ringref2_In n v_order2 0 6 = some v_r764) (h532 : ¬ (v_r764 = true)) (q : RunE Try.prog 263 Fi ks (G_ringlaw2_TwinTells_C1_ex (.x0 false)) (G_ringlaw2_TwinTells_C1_st v_order2 v_at3 v_r10 v_r393 v_r587 v_r649 v_t1 (.x0 false))) : RunE Try.prog 263 Fi (.s (cL (cL (cR (cR (cR (cR (cR (cR (bodyOf Try.f6))))))))) :: ks) .normal (G_ringlaw2_TwinTells_C1_hd v_order2 v_at3 v_r10 v_r393 v_r587 v_r649 v_t1) := pkk_sound TTok mix hF 1 (hs := [.r (eB v_r755), .t false, .c, .c, .c, .c, .c, .c, .c, .r (eB v_r764), .c, .t false, .c, .c, .c, .c, .c, .c, .c, .c, .c, .c]) (ts := []) (s := [0, 2, 3, 4]) (l := [1, 2, 3, 9, 10, 11, 12, 13, 14, 15, 16, 17, 88]) (by kernel_rfl) (by kernel_rfl) (.cons (G_ringref2_In_ok n v_order2 0 6 _ h522) (.cons (bnf h523) (.cons (G_ringref2_In_ok n v_order2 0 6 _ h531) (.cons (vf h532) .nil)))) q
theorem G_ringlaw2_TwinTells_C1_e3 {Fi : Ex → PS → Prop} (hF : KC 263 Fi) (ks : List Fr) (n : Nat) (v_order2 : Int) (v_at3 : Int) (v_r10 : (S_twin_Twin × Int)) (v_r393 : (S_twin_Twin × Int × Int)) (v_r587 : (S_twin_Twin × Int)) (v_r649 : (Int × Int × Int)) (v_t1 : S_twin_Twin)  (v_r755 : (Bool)) (h522 : G_ringref2_In n v_order2 0 6 = some v_r755) (h523 : ¬ (v_r755 = true)) (v_r756 : (Bool)) (h524 : G_ringref2_TwinSame n v_r10.1 (S_twin_Twin.mk 0 ([] : (List S_twin_Room))) = some v_r756) (h525 : v_r756 = true) (h526 : v_r10.2 = 1) (v_r759 : (Bool)) (h527 : G_ringref2_In n v_order2 0 6 = some v_r759) (h528 : v_r759 = true) (v_r760 : (Bool)) (h529 : G_ringref2_TwinSame n v_r10.1 (S_twin_Twin.mk v_order2 ([(S_twin_Room.mk 0 v_order2)])) = some v_r760) (h530 : v_r760 = true) (q : RunE Try.prog 263 Fi ks (G_ringlaw2_TwinTells_C1_ex (.x0 (v_r10.2 != 0))) (G_ringlaw2_TwinTells_C1_st v_order2 v_at3 v_r10 v_r393 v_r587 v_r649 v_t1 (.x0 (v_r10.2 != 0)))) : RunE Try.prog 263 Fi (.s (cL (cL (cR (cR (cR (cR (cR (cR (bodyOf Try.f6))))))))) :: ks) .normal (G_ringlaw2_TwinTells_C1_hd v_order2 v_at3 v_r10 v_r393 v_r587 v_r649 v_t1) := pkk_sound TTok mix hF 1 (hs := [.r (eB v_r755), .t true, .c, .c, .c, .c, .r (eB v_r756), .c, .c, .t false, .c, .c, .t false, .c, .r (eB v_r759), .c, .t true, .c, .c, .c, .c, .c, .bd, .c, .c, .r (eB v_r760), .c, .c, .t false, .c, .c, .c]) (ts := []) (s := [0, 2, 3, 4]) (l := [1, 2, 3, 9, 10, 11, 12, 13, 14, 15, 16, 17, 88]) (by kernel_rfl) (by kernel_rfl) (.cons (G_ringref2_In_ok n v_order2 0 6 _ h522) (.cons (bnt (vf h523)) (.cons (G_ringref2_TwinSame_ok n v_r10.1 (S_twin_Twin.mk 0 ([] : (List S_twin_Room))) _ h524) (.cons (bnf h525) (.cons (nf h526) (.cons (G_ringref2_In_ok n v_order2 0 6 _ h527) (.cons h528 (.cons (G_ringref2_TwinSame_ok n v_r10.1 (S_twin_Twin.mk v_order2 ([(S_twin_Room.mk 0 v_order2)])) _ h529) (.cons (bnf h530) .nil))))))))) q
theorem G_ringlaw2_TwinTells_C1_e4 {Fi : Ex → PS → Prop} (hF : KC 263 Fi) (ks : List Fr) (n : Nat) (v_order2 : Int) (v_at3 : Int) (v_r10 : (S_twin_Twin × Int)) (v_r393 : (S_twin_Twin × Int × Int)) (v_r587 : (S_twin_Twin × Int)) (v_r649 : (Int × Int × Int)) (v_t1 : S_twin_Twin)  (v_r755 : (Bool)) (h522 : G_ringref2_In n v_order2 0 6 = some v_r755) (h523 : ¬ (v_r755 = true)) (v_r756 : (Bool)) (h524 : G_ringref2_TwinSame n v_r10.1 (S_twin_Twin.mk 0 ([] : (List S_twin_Room))) = some v_r756) (h525 : v_r756 = true) (h526 : v_r10.2 = 1) (v_r759 : (Bool)) (h527 : G_ringref2_In n v_order2 0 6 = some v_r759) (h528 : v_r759 = true) (v_r760 : (Bool)) (h529 : G_ringref2_TwinSame n v_r10.1 (S_twin_Twin.mk v_order2 ([(S_twin_Room.mk 0 v_order2)])) = some v_r760) (h530 : ¬ (v_r760 = true)) (q : RunE Try.prog 263 Fi ks (G_ringlaw2_TwinTells_C1_ex (.x0 true)) (G_ringlaw2_TwinTells_C1_st v_order2 v_at3 v_r10 v_r393 v_r587 v_r649 v_t1 (.x0 true))) : RunE Try.prog 263 Fi (.s (cL (cL (cR (cR (cR (cR (cR (cR (bodyOf Try.f6))))))))) :: ks) .normal (G_ringlaw2_TwinTells_C1_hd v_order2 v_at3 v_r10 v_r393 v_r587 v_r649 v_t1) := pkk_sound TTok mix hF 1 (hs := [.r (eB v_r755), .t true, .c, .c, .c, .c, .r (eB v_r756), .c, .c, .t false, .c, .c, .t false, .c, .r (eB v_r759), .c, .t true, .c, .c, .c, .c, .c, .bd, .c, .c, .r (eB v_r760), .c, .c, .t true, .c, .c, .c]) (ts := []) (s := [0, 2, 3, 4]) (l := [1, 2, 3, 9, 10, 11, 12, 13, 14, 15, 16, 17, 88]) (by kernel_rfl) (by kernel_rfl) (.cons (G_ringref2_In_ok n v_order2 0 6 _ h522) (.cons (bnt (vf h523)) (.cons (G_ringref2_TwinSame_ok n v_r10.1 (S_twin_Twin.mk 0 ([] : (List S_twin_Room))) _ h524) (.cons (bnf h525) (.cons (nf h526) (.cons (G_ringref2_In_ok n v_order2 0 6 _ h527) (.cons h528 (.cons (G_ringref2_TwinSame_ok n v_r10.1 (S_twin_Twin.mk v_order2 ([(S_twin_Room.mk 0 v_order2)])) _ h529) (.cons (bnt (vf h530)) .nil))))))))) q
theorem G_ringlaw2_TwinTells_C1_e5 {Fi : Ex → PS → Prop} (hF : KC 263 Fi) (ks : List Fr) (n : Nat) (v_order2 : Int) (v_at3 : Int) (v_r10 : (S_twin_Twin × Int)) (v_r393 : (S_twin_Twin × Int × Int)) (v_r587 : (S_twin_Twin × Int)) (v_r649 : (Int × Int × Int)) (v_t1 : S_twin_Twin)  (v_r755 : (Bool)) (h522 : G_ringref2_In n v_order2 0 6 = some v_r755) (h523 : ¬ (v_r755 = true)) (v_r756 : (Bool)) (h524 : G_ringref2_TwinSame n v_r10.1 (S_twin_Twin.mk 0 ([] : (List S_twin_Room))) = some v_r756) (h525 : v_r756 = true) (h526 : v_r10.2 = 1) (v_r759 : (Bool)) (h527 : G_ringref2_In n v_order2 0 6 = some v_r759) (h528 : ¬ (v_r759 = true)) (q : RunE Try.prog 263 Fi ks (G_ringlaw2_TwinTells_C1_ex (.x0 false)) (G_ringlaw2_TwinTells_C1_st v_order2 v_at3 v_r10 v_r393 v_r587 v_r649 v_t1 (.x0 false))) : RunE Try.prog 263 Fi (.s (cL (cL (cR (cR (cR (cR (cR (cR (bodyOf Try.f6))))))))) :: ks) .normal (G_ringlaw2_TwinTells_C1_hd v_order2 v_at3 v_r10 v_r393 v_r587 v_r649 v_t1) := pkk_sound TTok mix hF 1 (hs := [.r (eB v_r755), .t true, .c, .c, .c, .c, .r (eB v_r756), .c, .c, .t false, .c, .c, .t false, .c, .r (eB v_r759), .c, .t false, .c, .c, .c, .c, .c, .c, .c, .c, .c, .c]) (ts := []) (s := [0, 2, 3, 4]) (l := [1, 2, 3, 9, 10, 11, 12, 13, 14, 15, 16, 17, 88]) (by kernel_rfl) (by kernel_rfl) (.cons (G_ringref2_In_ok n v_order2 0 6 _ h522) (.cons (bnt (vf h523)) (.cons (G_ringref2_TwinSame_ok n v_r10.1 (S_twin_Twin.mk 0 ([] : (List S_twin_Room))) _ h524) (.cons (bnf h525) (.cons (nf h526) (.cons (G_ringref2_In_ok n v_order2 0 6 _ h527) (.cons (vf h528) .nil))))))) q
theorem G_ringlaw2_TwinTells_C1_e6 {Fi : Ex → PS → Prop} (hF : KC 263 Fi) (ks : List Fr) (n : Nat) (v_order2 : Int) (v_at3 : Int) (v_r10 : (S_twin_Twin × Int)) (v_r393 : (S_twin_Twin × Int × Int)) (v_r587 : (S_twin_Twin × Int)) (v_r649 : (Int × Int × Int)) (v_t1 : S_twin_Twin)  (v_r755 : (Bool)) (h522 : G_ringref2_In n v_order2 0 6 = some v_r755) (h523 : ¬ (v_r755 = true)) (v_r756 : (Bool)) (h524 : G_ringref2_TwinSame n v_r10.1 (S_twin_Twin.mk 0 ([] : (List S_twin_Room))) = some v_r756) (h525 : v_r756 = true) (h526 : ¬ (v_r10.2 = 1)) (q : RunE Try.prog 263 Fi ks (G_ringlaw2_TwinTells_C1_ex (.x0 true)) (G_ringlaw2_TwinTells_C1_st v_order2 v_at3 v_r10 v_r393 v_r587 v_r649 v_t1 (.x0 true))) : RunE Try.prog 263 Fi (.s (cL (cL (cR (cR (cR (cR (cR (cR (bodyOf Try.f6))))))))) :: ks) .normal (G_ringlaw2_TwinTells_C1_hd v_order2 v_at3 v_r10 v_r393 v_r587 v_r649 v_t1) := pkk_sound TTok mix hF 1 (hs := [.r (eB v_r755), .t true, .c, .c, .c, .c, .r (eB v_r756), .c, .c, .t false, .c, .c, .t true, .c, .c, .c]) (ts := []) (s := [0, 2, 3, 4]) (l := [1, 2, 3, 9, 10, 11, 12, 13, 14, 15, 16, 17, 88]) (by kernel_rfl) (by kernel_rfl) (.cons (G_ringref2_In_ok n v_order2 0 6 _ h522) (.cons (bnt (vf h523)) (.cons (G_ringref2_TwinSame_ok n v_r10.1 (S_twin_Twin.mk 0 ([] : (List S_twin_Room))) _ h524) (.cons (bnf h525) (.cons (nt h526) .nil))))) q
theorem G_ringlaw2_TwinTells_C1_e7 {Fi : Ex → PS → Prop} (hF : KC 263 Fi) (ks : List Fr) (n : Nat) (v_order2 : Int) (v_at3 : Int) (v_r10 : (S_twin_Twin × Int)) (v_r393 : (S_twin_Twin × Int × Int)) (v_r587 : (S_twin_Twin × Int)) (v_r649 : (Int × Int × Int)) (v_t1 : S_twin_Twin)  (v_r755 : (Bool)) (h522 : G_ringref2_In n v_order2 0 6 = some v_r755) (h523 : ¬ (v_r755 = true)) (v_r756 : (Bool)) (h524 : G_ringref2_TwinSame n v_r10.1 (S_twin_Twin.mk 0 ([] : (List S_twin_Room))) = some v_r756) (h525 : ¬ (v_r756 = true)) (q : RunE Try.prog 263 Fi ks (G_ringlaw2_TwinTells_C1_ex (.x0 true)) (G_ringlaw2_TwinTells_C1_st v_order2 v_at3 v_r10 v_r393 v_r587 v_r649 v_t1 (.x0 true))) : RunE Try.prog 263 Fi (.s (cL (cL (cR (cR (cR (cR (cR (cR (bodyOf Try.f6))))))))) :: ks) .normal (G_ringlaw2_TwinTells_C1_hd v_order2 v_at3 v_r10 v_r393 v_r587 v_r649 v_t1) := pkk_sound TTok mix hF 1 (hs := [.r (eB v_r755), .t true, .c, .c, .c, .c, .r (eB v_r756), .c, .c, .t true, .c, .c, .c, .c, .c, .c]) (ts := []) (s := [0, 2, 3, 4]) (l := [1, 2, 3, 9, 10, 11, 12, 13, 14, 15, 16, 17, 88]) (by kernel_rfl) (by kernel_rfl) (.cons (G_ringref2_In_ok n v_order2 0 6 _ h522) (.cons (bnt (vf h523)) (.cons (G_ringref2_TwinSame_ok n v_r10.1 (S_twin_Twin.mk 0 ([] : (List S_twin_Room))) _ h524) (.cons (bnt (vf h525)) .nil)))) q
theorem G_ringlaw2_TwinTells_C1_ok {Fi : Ex → PS → Prop} (hF : KC 263 Fi) (ks : List Fr) (n : Nat) (v_order2 : Int) (v_at3 : Int) (v_r10 : (S_twin_Twin × Int)) (v_r393 : (S_twin_Twin × Int × Int)) (v_r587 : (S_twin_Twin × Int)) (v_r649 : (Int × Int × Int)) (v_t1 : S_twin_Twin)  (o : G_ringlaw2_TwinTells_C1_R) (h : G_ringlaw2_TwinTells_C1 n v_order2 v_at3 v_r10 v_r393 v_r587 v_r649 v_t1 = some o) (q : RunE Try.prog 263 Fi ks (G_ringlaw2_TwinTells_C1_ex o) (G_ringlaw2_TwinTells_C1_st v_order2 v_at3 v_r10 v_r393 v_r587 v_r649 v_t1 o)) : RunE Try.prog 263 Fi (.s (cL (cL (cR (cR (cR (cR (cR (cR (bodyOf Try.f6))))))))) :: ks) .normal (G_ringlaw2_TwinTells_C1_hd v_order2 v_at3 v_r10 v_r393 v_r587 v_r649 v_t1) := by
  unfold G_ringlaw2_TwinTells_C1 at h
  obtain ⟨v_r755, h522, h⟩ := bind_some h
  by_cases h523 : v_r755 = true
  · rw [if_pos h523] at h
    obtain ⟨v_r764, h531, h⟩ := bind_some h
    by_cases h532 : v_r764 = true
    · rw [if_pos h532] at h
      obtain ⟨v_r765, h533, h⟩ := bind_some h
      by_cases h534 : v_r765 = true
      · rw [if_pos h534] at h
        cases h
        exact G_ringlaw2_TwinTells_C1_e0 hF ks n v_order2 v_at3 v_r10 v_r393 v_r587 v_r649 v_t1 v_r755 h522 h523 v_r764 h531 h532 v_r765 h533 h534 q
      · rw [if_neg h534] at h
        cases h
        exact G_ringlaw2_TwinTells_C1_e1 hF ks n v_order2 v_at3 v_r10 v_r393 v_r587 v_r649 v_t1 v_r755 h522 h523 v_r764 h531 h532 v_r765 h533 h534 q
    · rw [if_neg h532] at h
      cases h
      exact G_ringlaw2_TwinTells_C1_e2 hF ks n v_order2 v_at3 v_r10 v_r393 v_r587 v_r649 v_t1 v_r755 h522 h523 v_r764 h531 h532 q
  · rw [if_neg h523] at h
    obtain ⟨v_r756, h524, h⟩ := bind_some h
    by_cases h525 : v_r756 = true
    · rw [if_pos h525] at h
      by_cases h526 : v_r10.2 = 1
      · rw [if_pos h526] at h
        obtain ⟨v_r759, h527, h⟩ := bind_some h
        by_cases h528 : v_r759 = true
        · rw [if_pos h528] at h
          obtain ⟨v_r760, h529, h⟩ := bind_some h
          by_cases h530 : v_r760 = true
          · rw [if_pos h530] at h
            cases h
            exact G_ringlaw2_TwinTells_C1_e3 hF ks n v_order2 v_at3 v_r10 v_r393 v_r587 v_r649 v_t1 v_r755 h522 h523 v_r756 h524 h525 h526 v_r759 h527 h528 v_r760 h529 h530 q
          · rw [if_neg h530] at h
            cases h
            exact G_ringlaw2_TwinTells_C1_e4 hF ks n v_order2 v_at3 v_r10 v_r393 v_r587 v_r649 v_t1 v_r755 h522 h523 v_r756 h524 h525 h526 v_r759 h527 h528 v_r760 h529 h530 q
        · rw [if_neg h528] at h
          cases h
          exact G_ringlaw2_TwinTells_C1_e5 hF ks n v_order2 v_at3 v_r10 v_r393 v_r587 v_r649 v_t1 v_r755 h522 h523 v_r756 h524 h525 h526 v_r759 h527 h528 q
      · rw [if_neg h526] at h
        cases h
        exact G_ringlaw2_TwinTells_C1_e6 hF ks n v_order2 v_at3 v_r10 v_r393 v_r587 v_r649 v_t1 v_r755 h522 h523 v_r756 h524 h525 h526 q
    · rw [if_neg h525] at h
      cases h
      exact G_ringlaw2_TwinTells_C1_e7 hF ks n v_order2 v_at3 v_r10 v_r393 v_r587 v_r649 v_t1 v_r755 h522 h523 v_r756 h524 h525 q
inductive G_ringlaw2_TwinTells_C2_R where
  | x0 (v_x1114 : Bool)
def G_ringlaw2_TwinTells_C2_ex : G_ringlaw2_TwinTells_C2_R → Ex
  | .x0 _ => .normal
def G_ringlaw2_TwinTells_C2_st (v_r393 : (S_twin_Twin × Int × Int)) (v_r587 : (S_twin_Twin × Int)) (v_r649 : (Int × Int × Int)) (v_r972 : (Int)) : G_ringlaw2_TwinTells_C2_R → PS
  | .x0 v_x1114 => ⟨[dd, dd, dd, dd, dd, dd, .d (.v (.bool v_x1114)), dd, dd, dd, dd, dd, dd, dd, dd, dd, dd, dd, dd, dd, dd, dd, dd, dd, dd, dd, dd, dd, dd, dd, dd, dd, dd, dd, dd, dd, dd, dd, dd, dd, dd, dd, dd, dd, dd, dd, dd, dd, dd, dd, dd, dd, dd, dd, dd, dd, dd, dd, dd, dd, dd, dd, dd, dd, dd, dd, dd, dd, dd, dd, dd, dd, dd, dd, dd, dd, dd, dd, dd, dd, dd, dd, dd, dd, dd, dd, dd, dd, dd, dd, dd, dd, dd, dd, dd, dd, dd, dd, dd, dd, dd, dd, dd, dd, dd, dd, dd, dd, dd, dd, dd, dd, dd, dd, dd, dd, dd, dd, dd, dd, dd, dd, dd, dd, dd, dd, dd, dd, dd, dd, dd, dd, dd, dd, dd, dd, dd, dd, dd, dd, dd, dd, dd, dd, dd, dd, dd, dd, dd, dd, dd, dd, dd, dd, dd, dd, dd, dd, dd, dd, dd, dd, dd, dd, dd, dd, dd, dd, dd, dd, dd, dd, dd, dd, dd, dd, dd, dd, dd, dd, dd, dd, dd, dd, dd, dd, dd, dd, dd, dd, dd, dd, dd, dd, dd, dd, dd, dd, dd, dd, dd, dd, dd, dd, dd, dd, dd, dd, dd, dd, dd, dd, dd, dd, dd, dd, dd, dd, dd, dd, dd, dd, dd, dd, dd, dd, dd, dd, dd, dd, dd, dd, dd, dd, dd, dd, dd, dd, dd, dd, dd, dd, dd, dd, dd, dd, dd, dd, dd, dd, dd, dd, dd, dd, dd, dd, dd, dd, dd, dd, dd, dd, dd], []⟩
def G_ringlaw2_TwinTells_C2_hd (v_r393 : (S_twin_Twin × Int × Int)) (v_r587 : (S_twin_Twin × Int)) (v_r649 : (Int × Int × Int)) (v_r972 : (Int))  : PS := ⟨[dd, dd, dd, dd, dd, dd, dd, dd, dd, .ref 0 0, .d (.v (.int .i64 v_r393.2.1)), .d (.v (.int .i64 v_r393.2.2)), .ref 1 0, .d (.v (.int .i64 v_r587.2)), .d (.v (.int .i64 v_r649.1)), .d (.v (.int .i64 v_r649.2.1)), .d (.v (.int .i64 v_r649.2.2)), .ref 2 0, .d (.v (.int .i64 v_r972)), dd, dd, dd, dd, dd, dd, dd, dd, dd, dd, dd, dd, dd, dd, dd, dd, dd, dd, dd, dd, dd, dd, dd, dd, dd, dd, dd, dd, dd, dd, dd, dd, dd, dd, dd, dd, dd, dd, dd, dd, dd, dd, dd, dd, dd, dd, dd, dd, dd, dd, dd, dd, dd, dd, dd, dd, dd, dd, dd, dd, dd, dd, dd, dd, dd, dd, dd, dd, dd, dd, dd, dd, dd, dd, dd, dd, dd, dd, dd, dd, dd, dd, dd, dd, dd, dd, dd, dd, dd, dd, dd, dd, dd, dd, dd, dd, dd, dd, dd, dd, dd, dd, dd, dd, dd, dd, dd, dd, dd, dd, dd, dd, dd, dd, dd, dd, dd, dd, dd, dd, dd, dd, dd, dd, dd, dd, dd, dd, dd, dd, dd, dd, dd, dd, dd, dd, dd, dd, dd, dd, dd, dd, dd, dd, dd, dd, dd, dd, dd, dd, dd, dd, dd, dd, dd, dd, dd, dd, dd, dd, dd, dd, dd, dd, dd, dd, dd, dd, dd, dd, dd, dd, dd, dd, dd, dd, dd, dd, dd, dd, dd, dd, dd, dd, dd, dd, dd, dd, dd, dd, dd, dd, dd, dd, dd, dd, dd, dd, dd, dd, dd, dd, dd, dd, dd, dd, dd, dd, dd, dd, dd, dd, dd, dd, dd, dd, dd, dd, dd, dd, dd, dd, dd, dd, dd, dd, dd, dd, dd, dd, dd, dd, dd, dd, dd, dd, dd, dd, dd, dd, dd, dd, dd, dd], [.box [.d (.v (.int .i64 v_r393.1.fOrder)), .d (.sl (v_r393.1.fFree.map eS_twin_Room))], .box [.d (.v (.int .i64 v_r587.1.fOrder)), .d (.sl (v_r587.1.fFree.map eS_twin_Room))], .box [.d (.v (.int .i64 0)), .d (vnil)]]⟩
def G_ringlaw2_TwinTells_C2 (n : Nat) (v_r393 : (S_twin_Twin × Int × Int)) (v_r587 : (S_twin_Twin × Int)) (v_r649 : (Int × Int × Int)) (v_r972 : (Int)) : Option G_ringlaw2_TwinTells_C2_R :=
  (G_ringref2_TwinSame n v_r393.1 (S_twin_Twin.mk 0 ([] : (List S_twin_Room)))).bind fun (v_r1112 : (Bool)) =>
  if v_r1112 = true then
   if v_r393.2.1 = 0 then
    if v_r393.2.2 = v_r972 then
     (G_ringref2_TwinSame n v_r587.1 (S_twin_Twin.mk 0 ([] : (List S_twin_Room)))).bind fun (v_r1113 : (Bool)) =>
     if v_r1113 = true then
      if v_r587.2 = v_r972 then
       if v_r649.1 = 0 then
        if v_r649.2.1 = 0 then
         some (.x0 (v_r649.2.2 == v_r972))
        else
         some (.x0 false)
       else
        some (.x0 false)
      else
       some (.x0 false)
     else
      some (.x0 false)
    else
     some (.x0 false)
   else
    some (.x0 false)
  else
   some (.x0 false)
theorem G_ringlaw2_TwinTells_C2_e0 {Fi : Ex → PS → Prop} (hF : KC 263 Fi) (ks : List Fr) (n : Nat) (v_r393 : (S_twin_Twin × Int × Int)) (v_r587 : (S_twin_Twin × Int)) (v_r649 : (Int × Int × Int)) (v_r972 : (Int))  (v_r1112 : (Bool)) (h692 : G_ringref2_TwinSame n v_r393.1 (S_twin_Twin.mk 0 ([] : (List S_twin_Room))) = some v_r1112) (h693 : v_r1112 = true) (h694 : v_r393.2.1 = 0) (h695 : v_r393.2.2 = v_r972) (v_r1113 : (Bool)) (h696 : G_ringref2_TwinSame n v_r587.1 (S_twin_Twin.mk 0 ([] : (List S_twin_Room))) = some v_r1113) (h697 : v_r1113 = true) (h698 : v_r587.2 = v_r972) (h699 : v_r649.1 = 0) (h700 : v_r649.2.1 = 0) (q : RunE Try.prog 263 Fi ks (G_ringlaw2_TwinTells_C2_ex (.x0 (v_r649.2.2 == v_r972))) (G_ringlaw2_TwinTells_C2_st v_r393 v_r587 v_r649 v_r972 (.x0 (v_r649.2.2 == v_r972)))) : RunE Try.prog 263 Fi (.s (cL (cT (cR (cL (cR (cR (cR (cR (cR (cR (cR (cR (cR (bodyOf Try.f6)))))))))))))) :: ks) .normal (G_ringlaw2_TwinTells_C2_hd v_r393 v_r587 v_r649 v_r972) := pkk_sound TTok mix hF 1 (hs := [.c, .c, .r (eB v_r1112), .t true, .c, .t true, .c, .c, .t true, .c, .c, .c, .c, .r (eB v_r1113), .t true, .c, .c, .t true, .c, .t true, .c, .t true, .c, .c]) (ts := []) (s := []) (l := [6]) (by kernel_rfl) (by kernel_rfl) (.cons (G_ringref2_TwinSame_ok n v_r393.1 (S_twin_Twin.mk 0 ([] : (List S_twin_Room))) _ h692) (.cons h693 (.cons (bt h694) (.cons (bt h695) (.cons (G_ringref2_TwinSame_ok n v_r587.1 (S_twin_Twin.mk 0 ([] : (List S_twin_Room))) _ h696) (.cons h697 (.cons (bt h698) (.cons (bt h699) (.cons (bt h700) .nil))))))))) q
theorem G_ringlaw2_TwinTells_C2_e1 {Fi : Ex → PS → Prop} (hF : KC 263 Fi) (ks : List Fr) (n : Nat) (v_r393 : (S_twin_Twin × Int × Int)) (v_r587 : (S_twin_Twin × Int)) (v_r649 : (Int × Int × Int)) (v_r972 : (Int))  (v_r1112 : (Bool)) (h692 : G_ringref2_TwinSame n v_r393.1 (S_twin_Twin.mk 0 ([] : (List S_twin_Room))) = some v_r1112) (h693 : v_r1112 = true) (h694 : v_r393.2.1 = 0) (h695 : v_r393.2.2 = v_r972) (v_r1113 : (Bool)) (h696 : G_ringref2_TwinSame n v_r587.1 (S_twin_Twin.mk 0 ([] : (List S_twin_Room))) = some v_r1113) (h697 : v_r1113 = true) (h698 : v_r587.2 = v_r972) (h699 : v_r649.1 = 0) (h700 : ¬ (v_r649.2.1 = 0)) (q : RunE Try.prog 263 Fi ks (G_ringlaw2_TwinTells_C2_ex (.x0 false)) (G_ringlaw2_TwinTells_C2_st v_r393 v_r587 v_r649 v_r972 (.x0 false))) : RunE Try.prog 263 Fi (.s (cL (cT (cR (cL (cR (cR (cR (cR (cR (cR (cR (cR (cR (bodyOf Try.f6)))))))))))))) :: ks) .normal (G_ringlaw2_TwinTells_C2_hd v_r393 v_r587 v_r649 v_r972) := pkk_sound TTok mix hF 1 (hs := [.c, .c, .r (eB v_r1112), .t true, .c, .t true, .c, .c, .t true, .c, .c, .c, .c, .r (eB v_r1113), .t true, .c, .c, .t true, .c, .t true, .c, .t false, .c, .c]) (ts := []) (s := []) (l := [6]) (by kernel_rfl) (by kernel_rfl) (.cons (G_ringref2_TwinSame_ok n v_r393.1 (S_twin_Twin.mk 0 ([] : (List S_twin_Room))) _ h692) (.cons h693 (.cons (bt h694) (.cons (bt h695) (.cons (G_ringref2_TwinSame_ok n v_r587.1 (S_twin_Twin.mk 0 ([] : (List S_twin_Room))) _ h696) (.cons h697 (.cons (bt h698) (.cons (bt h699) (.cons (bf h700) .nil))))))))) q
theorem G_ringlaw2_TwinTells_C2_e2 {Fi : Ex → PS → Prop} (hF : KC 263 Fi) (ks : List Fr) (n : Nat) (v_r393 : (S_twin_Twin × Int × Int)) (v_r587 : (S_twin_Twin × Int)) (v_r649 : (Int × Int × Int)) (v_r972 : (Int))  (v_r1112 : (Bool)) (h692 : G_ringref2_TwinSame n v_r393.1 (S_twin_Twin.mk 0 ([] : (List S_twin_Room))) = some v_r1112) (h693 : v_r1112 = true) (h694 : v_r393.2.1 = 0) (h695 : v_r393.2.2 = v_r972) (v_r1113 : (Bool)) (h696 : G_ringref2_TwinSame n v_r587.1 (S_twin_Twin.mk 0 ([] : (List S_twin_Room))) = some v_r1113) (h697 : v_r1113 = true) (h698 : v_r587.2 = v_r972) (h699 : ¬ (v_r649.1 = 0)) (q : RunE Try.prog 263 Fi ks (G_ringlaw2_TwinTells_C2_ex (.x0 false)) (G_ringlaw2_TwinTells_C2_st v_r393 v_r587 v_r649 v_r972 (.x0 false))) : RunE Try.prog 263 Fi (.s (cL (cT (cR (cL (cR (cR (cR (cR (cR (cR (cR (cR (cR (bodyOf Try.f6)))))))))))))) :: ks) .normal (G_ringlaw2_TwinTells_C2_hd v_r393 v_r587 v_r649 v_r972) := pkk_sound TTok mix hF 1 (hs := [.c, .c, .r (eB v_r1112), .t true, .c, .t true, .c, .c, .t true, .c, .c, .c, .c, .r (eB v_r1113), .t true, .c, .c, .t true, .c, .t false, .c, .c, .c, .c]) (ts := []) (s := []) (l := [6]) (by kernel_rfl) (by kernel_rfl) (.cons (G_ringref2_TwinSame_ok n v_r393.1 (S_twin_Twin.mk 0 ([] : (List S_twin_Room))) _ h692) (.cons h693 (.cons (bt h694) (.cons (bt h695) (.cons (G_ringref2_TwinSame_ok n v_r587.1 (S_twin_Twin.mk 0 ([] : (List S_twin_Room))) _ h696) (.cons h697 (.cons (bt h698) (.cons (bf h699) .nil)))))))) q
theorem G_ringlaw2_TwinTells_C2_e3 {Fi : Ex → PS → Prop} (hF : KC 263 Fi) (ks : List Fr) (n : Nat) (v_r393 : (S_twin_Twin × Int × Int)) (v_r587 : (S_twin_Twin × Int)) (v_r649 : (Int × Int × Int)) (v_r972 : (Int))  (v_r1112 : (Bool)) (h692 : G_ringref2_TwinSame n v_r393.1 (S_twin_Twin.mk 0 ([] : (List S_twin_Room))) = some v_r1112) (h693 : v_r1112 = true) (h694 : v_r393.2.1 = 0) (h695 : v_r393.2.2 = v_r972) (v_r1113 : (Bool)) (h696 : G_ringref2_TwinSame n v_r587.1 (S_twin_Twin.mk 0 ([] : (List S_twin_Room))) = some v_r1113) (h697 : v_r1113 = true) (h698 : ¬ (v_r587.2 = v_r972)) (q : RunE Try.prog 263 Fi ks (G_ringlaw2_TwinTells_C2_ex (.x0 false)) (G_ringlaw2_TwinTells_C2_st v_r393 v_r587 v_r649 v_r972 (.x0 false))) : RunE Try.prog 263 Fi (.s (cL (cT (cR (cL (cR (cR (cR (cR (cR (cR (cR (cR (cR (bodyOf Try.f6)))))))))))))) :: ks) .normal (G_ringlaw2_TwinTells_C2_hd v_r393 v_r587 v_r649 v_r972) := pkk_sound TTok mix hF 1 (hs := [.c, .c, .r (eB v_r1112), .t true, .c, .t true, .c, .c, .t true, .c, .c, .c, .c, .r (eB v_r1113), .t true, .c, .c, .t false, .c, .c, .c, .c, .c, .c]) (ts := []) (s := []) (l := [6]) (by kernel_rfl) (by kernel_rfl) (.cons (G_ringref2_TwinSame_ok n v_r393.1 (S_twin_Twin.mk 0 ([] : (List S_twin_Room))) _ h692) (.cons h693 (.cons (bt h694) (.cons (bt h695) (.cons (G_ringref2_TwinSame_ok n v_r587.1 (S_twin_Twin.mk 0 ([] : (List S_twin_Room))) _ h696) (.cons h697 (.cons (bf h698) .nil))))))) q
theorem G_ringlaw2_TwinTells_C2_e4 {Fi : Ex → PS → Prop} (hF : KC 263 Fi) (ks : List Fr) (n : Nat) (v_r393 : (S_twin_Twin × Int × Int)) (v_r587 : (S_twin_Twin × Int)) (v_r649 : (Int × Int × Int)) (v_r972 : (Int))  (v_r1112 : (Bool)) (h692 : G_ringref2_TwinSame n v_r393.1 (S_twin_Twin.mk 0 ([] : (List S_twin_Room))) = some v_r1112) (h693 : v_r1112 = true) (h694 : v_r393.2.1 = 0) (h695 : v_r393.2.2 = v_r972) (v_r1113 : (Bool)) (h696 : G_ringref2_TwinSame n v_r587.1 (S_twin_Twin.mk 0 ([] : (List S_twin_Room))) = some v_r1113) (h697 : ¬ (v_r1113 = true)) (q : RunE Try.prog 263 Fi ks (G_ringlaw2_TwinTells_C2_ex (.x0 false)) (G_ringlaw2_TwinTells_C2_st v_r393 v_r587 v_r649 v_r972 (.x0 false))) : RunE Try.prog 263 Fi (.s (cL (cT (cR (cL (cR (cR (cR (cR (cR (cR (cR (cR (cR (bodyOf Try.f6)))))))))))))) :: ks) .normal (G_ringlaw2_TwinTells_C2_hd v_r393 v_r587 v_r649 v_r972) := pkk_sound TTok mix hF 1 (hs := [.c, .c, .r (eB v_r1112), .t true, .c, .t true, .c, .c, .t true, .c, .c, .c, .c, .r (eB v_r1113), .t false, .c, .c, .c, .c, .c, .c, .c, .c, .c]) (ts := []) (s := []) (l := [6]) (by kernel_rfl) (by kernel_rfl) (.cons (G_ringref2_TwinSame_ok n v_r393.1 (S_twin_Twin.mk 0 ([] : (List S_twin_Room))) _ h692) (.cons h693 (.cons (bt h694) (.cons (bt h695) (.cons (G_ringref2_TwinSame_ok n v_r587.1 (S_twin_Twin.mk 0 ([] : (List S_twin_Room))) _ h696) (.cons (vf h697) .nil)))))) q
theorem G_ringlaw2_TwinTells_C2_e5 {Fi : Ex → PS → Prop} (hF : KC 263 Fi) (ks : List Fr) (n : Nat) (v_r393 : (S_twin_Twin × Int × Int)) (v_r587 : (S_twin_Twin × Int)) (v_r649 : (Int × Int × Int)) (v_r972 : (Int))  (v_r1112 : (Bool)) (h692 : G_ringref2_TwinSame n v_r393.1 (S_twin_Twin.mk 0 ([] : (List S_twin_Room))) = some v_r1112) (h693 : v_r1112 = true) (h694 : v_r393.2.1 = 0) (h695 : ¬ (v_r393.2.2 = v_r972)) (q : RunE Try.prog 263 Fi ks (G_ringlaw2_TwinTells_C2_ex (.x0 false)) (G_ringlaw2_TwinTells_C2_st v_r393 v_r587 v_r649 v_r972 (.x0 false))) : RunE Try.prog 263 Fi (.s (cL (cT (cR (cL (cR (cR (cR (cR (cR (cR (cR (cR (cR (bodyOf Try.f6)))))))))))))) :: ks) .normal (G_ringlaw2_TwinTells_C2_hd v_r393 v_r587 v_r649 v_r972) := pkk_sound TTok mix hF 1 (hs := [.c, .c, .r (eB v_r1112), .t true, .c, .t true, .c, .c, .t false, .c, .c, .c, .c, .c, .c, .c, .c, .c, .c, .c, .c]) (ts := []) (s := []) (l := [6]) (by kernel_rfl) (by kernel_rfl) (.cons (G_ringref2_TwinSame_ok n v_r393.1 (S_twin_Twin.mk 0 ([] : (List S_twin_Room))) _ h692) (.cons h693 (.cons (bt h694) (.cons (bf h695) .nil)))) q
theorem G_ringlaw2_TwinTells_C2_e6 {Fi : Ex → PS → Prop} (hF : KC 263 Fi) (ks : List Fr) (n : Nat) (v_r393 : (S_twin_Twin × Int × Int)) (v_r587 : (S_twin_Twin × Int)) (v_r649 : (Int × Int × Int)) (v_r972 : (Int))  (v_r1112 : (Bool)) (h692 : G_ringref2_TwinSame n v_r393.1 (S_twin_Twin.mk 0 ([] : (List S_twin_Room))) = some v_r1112) (h693 : v_r1112 = true) (h694 : ¬ (v_r393.2.1 = 0)) (q : RunE Try.prog 263 Fi ks (G_ringlaw2_TwinTells_C2_ex (.x0 false)) (G_ringlaw2_TwinTells_C2_st v_r393 v_r587 v_r649 v_r972 (.x0 false))) : RunE Try.prog 263 Fi (.s (cL (cT (cR (cL (cR (cR (cR (cR (cR (cR (cR (cR (cR (bodyOf Try.f6)))))))))))))) :: ks) .normal (G_ringlaw2_TwinTells_C2_hd v_r393 v_r587 v_r649 v_r972) := pkk_sound TTok mix hF 1 (hs := [.c, .c, .r (eB v_r1112), .t true, .c, .t false, .c, .c, .c, .c, .c, .c, .c, .c, .c, .c, .c, .c, .c, .c, .c]) (ts := []) (s := []) (l := [6]) (by kernel_rfl) (by kernel_rfl) (.cons (G_ringref2_TwinSame_ok n v_r393.1 (S_twin_Twin.mk 0 ([] : (List S_twin_Room))) _ h692) (.cons h693 (.cons (bf h694) .nil))) q
theorem G_ringlaw2_TwinTells_C2_e7 {Fi : Ex → PS → Prop} (hF : KC 263 Fi) (ks : List Fr) (n : Nat) (v_r393 : (S_twin_Twin × Int × Int)) (v_r587 : (S_twin_Twin × Int)) (v_r649 : (Int × Int × Int)) (v_r972 : (Int))  (v_r1112 : (Bool)) (h692 : G_ringref2_TwinSame n v_r393.1 (S_twin_Twin.mk 0 ([] : (List S_twin_Room))) = some v_r1112) (h693 : ¬ (v_r1112 = true)) (q : RunE Try.prog 263 Fi ks (G_ringlaw2_TwinTells_C2_ex (.x0 false)) (G_ringlaw2_TwinTells_C2_st v_r393 v_r587 v_r649 v_r972 (.x0 false))) : RunE Try.prog 263 Fi (.s (cL (cT (cR (cL (cR (cR (cR (cR (cR (cR (cR (cR (cR (bodyOf Try.f6)))))))))))))) :: ks) .normal (G_ringlaw2_TwinTells_C2_hd v_r393 v_r587 v_r649 v_r972) := pkk_sound TTok mix hF 1 (hs := [.c, .c, .r (eB v_r1112), .t false, .c, .c, .c, .c, .c, .c, .c, .c, .c, .c, .c, .c, .c, .c, .c, .c, .c]) (ts := []) (s := []) (l := [6]) (by kernel_rfl) (by kernel_rfl) (.cons (G_ringref2_TwinSame_ok n v_r393.1 (S_twin_Twin.mk 0 ([] : (List S_twin_Room))) _ h692) (.cons (vf h693) .nil)) q
theorem G_ringlaw2_TwinTells_C2_ok {Fi : Ex → PS → Prop} (hF : KC 263 Fi) (ks : List Fr) (n : Nat) (v_r393 : (S_twin_Twin × Int × Int)) (v_r587 : (S_twin_Twin × Int)) (v_r649 : (Int × Int × Int)) (v_r972 : (Int))  (o : G_ringlaw2_TwinTells_C2_R) (h : G_ringlaw2_TwinTells_C2 n v_r393 v_r587 v_r649 v_r972 = some o) (q : RunE Try.prog 263 Fi ks (G_ringlaw2_TwinTells_C2_ex o) (G_ringlaw2_TwinTells_C2_st v_r393 v_r587 v_r649 v_r972 o)) : RunE Try.prog 263 Fi (.s (cL (cT (cR (cL (cR (cR (cR (cR (cR (cR (cR (cR (cR (bodyOf Try.f6)))))))))))))) :: ks) .normal (G_ringlaw2_TwinTells_C2_hd v_r393 v_r587 v_r649 v_r972) := by
  unfold G_ringlaw2_TwinTells_C2 at h
  obtain ⟨v_r1112, h692, h⟩ := bind_some h
  by_cases h693 : v_r1112 = true
  · rw [if_pos h693] at h
    by_cases h694 : v_r393.2.1 = 0
    · rw [if_pos h694] at h
      by_cases h695 : v_r393.2.2 = v_r972
      · rw [if_pos h695] at h
        obtain ⟨v_r1113, h696, h⟩ := bind_some h
        by_cases h697 : v_r1113 = true
        · rw [if_pos h697] at h
          by_cases h698 : v_r587.2 = v_r972
          · rw [if_pos h698] at h
            by_cases h699 : v_r649.1 = 0
            · rw [if_pos h699] at h
              by_cases h700 : v_r649.2.1 = 0
              · rw [if_pos h700] at h
                cases h
                exact G_ringlaw2_TwinTells_C2_e0 hF ks n v_r393 v_r587 v_r649 v_r972 v_r1112 h692 h693 h694 h695 v_r1113 h696 h697 h698 h699 h700 q
              · rw [if_neg h700] at h
                cases h
                exact G_ringlaw2_TwinTells_C2_e1 hF ks n v_r393 v_r587 v_r649 v_r972 v_r1112 h692 h693 h694 h695 v_r1113 h696 h697 h698 h699 h700 q
            · rw [if_neg h699] at h
              cases h
              exact G_ringlaw2_TwinTells_C2_e2 hF ks n v_r393 v_r587 v_r649 v_r972 v_r1112 h692 h693 h694 h695 v_r1113 h696 h697 h698 h699 q
          · rw [if_neg h698] at h
            cases h
            exact G_ringlaw2_TwinTells_C2_e3 hF ks n v_r393 v_r587 v_r649 v_r972 v_r1112 h692 h693 h694 h695 v_r1113 h696 h697 h698 q
        · rw [if_neg h697] at h
          cases h
          exact G_ringlaw2_TwinTells_C2_e4 hF ks n v_r393 v_r587 v_r649 v_r972 v_r1112 h692 h693 h694 h695 v_r1113 h696 h697 q
      · rw [if_neg h695] at h
        cases h
        exact G_ringlaw2_TwinTells_C2_e5 hF ks n v_r393 v_r587 v_r649 v_r972 v_r1112 h692 h693 h694 h695 q
    · rw [if_neg h694] at h
      cases h
      exact G_ringlaw2_TwinTells_C2_e6 hF ks n v_r393 v_r587 v_r649 v_r972 v_r1112 h692 h693 h694 q
  · rw [if_neg h693] at h
    cases h
    exact G_ringlaw2_TwinTells_C2_e7 hF ks n v_r393 v_r587 v_r649 v_r972 v_r1112 h692 h693 q
inductive G_ringlaw2_TwinTells_L3_R where
  | x0 (v_many1301 : Int)
def G_ringlaw2_TwinTells_L3_ex : G_ringlaw2_TwinTells_L3_R → Ex
  | .x0 _ => .exit 0
def G_ringlaw2_TwinTells_L3_st (v_order2 : Int) (v_at3 : Int) (v_r393 : (S_twin_Twin × Int × Int)) (v_r587 : (S_twin_Twin × Int)) (v_r649 : (Int × Int × Int)) (v_r1205 : ((Fin 64 → Bool))) (v_t1 : S_twin_Twin) : G_ringlaw2_TwinTells_L3_R → PS
  | .x0 v_many1301 => ⟨[dd, .d (.v (.int .i64 v_order2)), .d (.v (.int .i64 v_at3)), .ref 0 0, dd, dd, dd, dd, dd, .ref 1 0, .d (.v (.int .i64 v_r393.2.1)), .d (.v (.int .i64 v_r393.2.2)), .ref 2 0, .d (.v (.int .i64 v_r587.2)), .d (.v (.int .i64 v_r649.1)), .d (.v (.int .i64 v_r649.2.1)), .d (.v (.int .i64 v_r649.2.2)), .ref 3 0, dd, .ref 4 0, .d (.v (.int .i64 v_many1301)), .d (.v (.int .i64 (-1))), dd, dd, dd, dd, dd, dd, dd, dd, dd, dd, dd, dd, dd, dd, dd, dd, dd, dd, dd, dd, dd, dd, dd, dd, dd, dd, dd, dd, dd, dd, dd, dd, dd, dd, dd, dd, dd, dd, dd, dd, dd, dd, dd, dd, dd, dd, dd, dd, dd, dd, dd, dd, dd, dd, dd, dd, dd, dd, dd, dd, dd, dd, dd, dd, dd, dd, dd, dd, dd, dd, dd, dd, dd, dd, dd, dd, dd, dd, dd, dd, dd, dd, dd, dd, dd, dd, dd, dd, dd, dd, dd, dd, dd, dd, dd, dd, dd, dd, dd, dd, dd, dd, dd, dd, dd, dd, dd, dd, dd, dd, dd, dd, dd, dd, dd, dd, dd, dd, dd, dd, dd, dd, dd, dd, dd, dd, dd, dd, dd, dd, dd, dd, dd, dd, dd, dd, dd, dd, dd, dd, dd, dd, dd, dd, dd, dd, dd, dd, dd, dd, dd, dd, dd, dd, dd, dd, dd, dd, dd, dd, dd, dd, dd, dd, dd, dd, dd, dd, dd, dd, dd, dd, dd, dd, dd, dd, dd, dd, dd, dd, dd, dd, dd, dd, dd, dd, dd, dd, dd, dd, dd, dd, dd, dd, dd, dd, dd, dd, dd, dd, dd, dd, dd, dd, dd, dd, dd, dd, dd, dd, dd, dd, dd, dd, dd, dd, dd, dd, dd, dd, dd, dd, dd, dd, dd, dd, dd, dd, dd, dd, dd, dd, dd, dd, dd, dd, dd, dd, dd, dd, dd], [.box [.d (.v (.int .i64 v_t1.fOrder)), .d (.sl (v_t1.fFree.map eS_twin_Room))], .box [.d (.v (.int .i64 v_r393.1.fOrder)), .d (.sl (v_r393.1.fFree.map eS_twin_Room))], .box [.d (.v (.int .i64 v_r587.1.fOrder)), .d (.sl (v_r587.1.fFree.map eS_twin_Room))], .box [.d (.v (.int .i64 0)), .d (vnil)], .box ((cA_t114 v_r1205).map FV.d)]⟩
def G_ringlaw2_TwinTells_L3_hd (v_order2 : Int) (v_at3 : Int) (v_r393 : (S_twin_Twin × Int × Int)) (v_r587 : (S_twin_Twin × Int)) (v_r649 : (Int × Int × Int)) (v_r1205 : ((Fin 64 → Bool))) (v_t1 : S_twin_Twin) (v_many1297 : Int) (v_x1298 : Int) : PS := ⟨[dd, .d (.v (.int .i64 v_order2)), .d (.v (.int .i64 v_at3)), .ref 0 0, dd, dd, dd, dd, dd, .ref 1 0, .d (.v (.int .i64 v_r393.2.1)), .d (.v (.int .i64 v_r393.2.2)), .ref 2 0, .d (.v (.int .i64 v_r587.2)), .d (.v (.int .i64 v_r649.1)), .d (.v (.int .i64 v_r649.2.1)), .d (.v (.int .i64 v_r649.2.2)), .ref 3 0, dd, .ref 4 0, .d (.v (.int .i64 v_many1297)), .d (.v (.int .i64 (-1))), dd, dd, dd, dd, dd, dd, dd, dd, dd, dd, dd, dd, dd, dd, dd, dd, dd, dd, dd, dd, dd, dd, dd, dd, dd, dd, dd, dd, dd, dd, dd, dd, dd, dd, dd, dd, dd, dd, dd, dd, dd, dd, dd, dd, dd, dd, dd, dd, dd, dd, dd, dd, dd, dd, dd, dd, dd, dd, dd, dd, dd, dd, dd, dd, dd, dd, dd, dd, dd, dd, dd, dd, dd, dd, dd, dd, dd, dd, dd, dd, dd, dd, dd, dd, dd, dd, dd, dd, dd, dd, dd, dd, dd, dd, dd, dd, dd, dd, dd, dd, dd, dd, dd, dd, dd, dd, dd, dd, dd, dd, dd, dd, .d (.agg (cA_t114 v_r1205)), .d (.v (.int .i64 v_x1298)), dd, dd, dd, dd, dd, dd, dd, dd, dd, dd, dd, dd, dd, dd, dd, dd, dd, dd, dd, dd, dd, dd, dd, dd, dd, dd, dd, dd, dd, dd, dd, dd, dd, dd, dd, dd, dd, dd, dd, dd, dd, dd, dd, dd, dd, dd, dd, dd, dd, dd, dd, dd, dd, dd, dd, dd, dd, dd, dd, dd, dd, dd, dd, dd, dd, dd, dd, dd, dd, dd, dd, dd, dd, dd, dd, dd, dd, dd, dd, dd, dd, dd, dd, dd, dd, dd, dd, dd, dd, dd, dd, dd, dd, dd, dd, dd, dd, dd, dd, dd, dd, dd, dd, dd, dd, dd, dd, dd, dd, dd, dd, dd, dd, dd, dd, dd, dd, dd, dd, dd, dd, dd, dd, dd, dd, dd, dd], [.box [.d (.v (.int .i64 v_t1.fOrder)), .d (.sl (v_t1.fFree.map eS_twin_Room))], .box [.d (.v (.int .i64 v_r393.1.fOrder)), .d (.sl (v_r393.1.fFree.map eS_twin_Room))], .box [.d (.v (.int .i64 v_r587.1.fOrder)), .d (.sl (v_r587.1.fFree.map eS_twin_Room))], .box [.d (.v (.int .i64 0)), .d (vnil)], .box ((cA_t114 v_r1205).map FV.d)]⟩
def G_ringlaw2_TwinTells_L3 (n : Nat) (v_order2 : Int) (v_at3 : Int) (v_r393 : (S_twin_Twin × Int × Int)) (v_r587 : (S_twin_Twin × Int)) (v_r649 : (Int × Int × Int)) (v_r1205 : ((Fin 64 → Bool))) (v_t1 : S_twin_Twin) : Nat → Int → Int → Option G_ringlaw2_TwinTells_L3_R
  | 0, _, _ => none
  | k + 1, v_many1297, v_x1298 =>
    if v_x1298 < 64 then
     (getA v_r1205 v_x1298).bind fun (v_y1300 : Bool) =>
     if v_y1300 = true then
      G_ringlaw2_TwinTells_L3 n v_order2 v_at3 v_r393 v_r587 v_r649 v_r1205 v_t1 k (wi .i64 (v_many1297 + 1)) (wi .i64 (v_x1298 + 1))
     else
      G_ringlaw2_TwinTells_L3 n v_order2 v_at3 v_r393 v_r587 v_r649 v_r1205 v_t1 k v_many1297 (wi .i64 (v_x1298 + 1))
    else
     some (.x0 v_many1297)
theorem G_ringlaw2_TwinTells_L3_ok {Fi : Ex → PS → Prop} (hF : KC 263 Fi) (ks : List Fr) (n : Nat) (v_order2 : Int) (v_at3 : Int) (v_r393 : (S_twin_Twin × Int × Int)) (v_r587 : (S_twin_Twin × Int)) (v_r649 : (Int × Int × Int)) (v_r1205 : ((Fin 64 → Bool))) (v_t1 : S_twin_Twin)  : ∀ (k : Nat) (v_many1297 : Int) (v_x1298 : Int) (o : G_ringlaw2_TwinTells_L3_R), G_ringlaw2_TwinTells_L3 n v_order2 v_at3 v_r393 v_r587 v_r649 v_r1205 v_t1 k v_many1297 v_x1298 = some o → RunE Try.prog 263 Fi ks (G_ringlaw2_TwinTells_L3_ex o) (G_ringlaw2_TwinTells_L3_st v_order2 v_at3 v_r393 v_r587 v_r649 v_r1205 v_t1 o) → RunE Try.prog 263 Fi (.l k (cP (cB (cR (cL (cR (cR (cR (cR (cR (cR (cR (cR (cR (cR (cR (cR (bodyOf Try.f6))))))))))))))))) :: ks) .normal (G_ringlaw2_TwinTells_L3_hd v_order2 v_at3 v_r393 v_r587 v_r649 v_r1205 v_t1 v_many1297 v_x1298)
  | 0, v_many1297, v_x1298, o, h, q => by rw [G_ringlaw2_TwinTells_L3] at h; cases h
  | k + 1, v_many1297, v_x1298, o, h, q => by
    rw [G_ringlaw2_TwinTells_L3] at h
    by_cases h732 : v_x1298 < 64
    · rw [if_pos h732] at h
      obtain ⟨v_y1300, h736, h⟩ := bind_some h
      by_cases h738 : v_y1300 = true
      · rw [if_pos h738] at h
        exact pkk_sound TTok mix hF 16 (hs := [.t true, .l (.d (.v (.bool v_y1300))), .t true]) (ts := []) (s := [0, 1, 2, 3, 4]) (l := [1, 2, 3, 9, 10, 11, 12, 13, 14, 15, 16, 17, 19, 20, 21, 134, 135]) (by kernel_rfl) (by kernel_rfl) (.cons (dt h732) (.cons (getA_ob0 (fun x => FV.d (eB x)) h736) (.cons h738 .nil))) (G_ringlaw2_TwinTells_L3_ok hF ks n v_order2 v_at3 v_r393 v_r587 v_r649 v_r1205 v_t1 k (wi .i64 (v_many1297 + 1)) (wi .i64 (v_x1298 + 1)) _ h q)
      · rw [if_neg h738] at h
        exact pkk_sound TTok mix hF 16 (hs := [.t true, .l (.d (.v (.bool v_y1300))), .t false]) (ts := []) (s := [0, 1, 2, 3, 4]) (l := [1, 2, 3, 9, 10, 11, 12, 13, 14, 15, 16, 17, 19, 20, 21, 134, 135]) (by kernel_rfl) (by kernel_rfl) (.cons (dt h732) (.cons (getA_ob0 (fun x => FV.d (eB x)) h736) (.cons (vf h738) .nil))) (G_ringlaw2_TwinTells_L3_ok hF ks n v_order2 v_at3 v_r393 v_r587 v_r649 v_r1205 v_t1 k v_many1297 (wi .i64 (v_x1298 + 1)) _ h q)
    · rw [if_neg h732] at h
      cases h
      exact pkk_sound TTok mix hF 8 (hs := [.t false]) (ts := []) (s := [0, 1, 2, 3, 4]) (l := [1, 2, 3, 9, 10, 11, 12, 13, 14, 15, 16, 17, 19, 20, 21]) (by kernel_rfl) (by kernel_rfl) (.cons (df h732) .nil) q
inductive G_ringlaw2_TwinTells_L4_R where
  | x0 (v_most1375 : Int)
def G_ringlaw2_TwinTells_L4_ex : G_ringlaw2_TwinTells_L4_R → Ex
  | .x0 _ => .exit 2
def G_ringlaw2_TwinTells_L4_st (v_order2 : Int) (v_at3 : Int) (v_r393 : (S_twin_Twin × Int × Int)) (v_r587 : (S_twin_Twin × Int)) (v_r649 : (Int × Int × Int)) (v_z1303 : Int) (v_t1 : S_twin_Twin) (v_r1205 : ((Fin 64 → Bool))) : G_ringlaw2_TwinTells_L4_R → PS
  | .x0 v_most1375 => ⟨[dd, .d (.v (.int .i64 v_order2)), .d (.v (.int .i64 v_at3)), .ref 0 0, dd, dd, dd, dd, dd, .ref 1 0, .d (.v (.int .i64 v_r393.2.1)), .d (.v (.int .i64 v_r393.2.2)), .ref 2 0, .d (.v (.int .i64 v_r587.2)), .d (.v (.int .i64 v_r649.1)), .d (.v (.int .i64 v_r649.2.1)), .d (.v (.int .i64 v_r649.2.2)), .ref 3 0, dd, .ref 4 0, .d (.v (.int .i64 v_z1303)), .d (.v (.int .i64 v_most1375)), dd, dd, dd, dd, dd, dd, dd, dd, dd, dd, dd, dd, dd, dd, dd, dd, dd, dd, dd, dd, dd, dd, dd, dd, dd, dd, dd, dd, dd, dd, dd, dd, dd, dd, dd, dd, dd, dd, dd, dd, dd, dd, dd, dd, dd, dd, dd, dd, dd, dd, dd, dd, dd, dd, dd, dd, dd, dd, dd, dd, dd, dd, dd, dd, dd, dd, dd, dd, dd, dd, dd, dd, dd, dd, dd, dd, dd, dd, dd, dd, dd, dd, dd, dd, dd, dd, dd, dd, dd, dd, dd, dd, dd, dd, dd, dd, dd, dd, dd, dd, dd, dd, dd, dd, dd, dd, dd, dd, dd, dd, dd, dd, dd, dd, dd, dd, dd, dd, dd, dd, dd, dd, dd, dd, dd, dd, dd, dd, dd, dd, dd, dd, dd, dd, dd, dd, dd, dd, dd, dd, dd, dd, dd, dd, dd, dd, dd, dd, dd, dd, dd, dd, dd, dd, dd, dd, dd, dd, dd, dd, dd, dd, dd, dd, dd, dd, dd, dd, dd, dd, dd, dd, dd, dd, dd, dd, dd, dd, dd, dd, dd, dd, dd, dd, dd, dd, dd, dd, dd, dd, dd, dd, dd, dd, dd, dd, dd, dd, dd, dd, dd, dd, dd, dd, dd, dd, dd, dd, dd, dd, dd, dd, dd, dd, dd, dd, dd, dd, dd, dd, dd, dd, dd, dd, dd, dd, dd, dd, dd, dd, dd, dd, dd, dd, dd, dd, dd, dd, dd, dd, dd], [.box [.d (.v (.int .i64 v_t1.fOrder)), .d (.sl (v_t1.fFree.map eS_twin_Room))], .box [.d (.v (.int .i64 v_r393.1.fOrder)), .d (.sl (v_r393.1.fFree.map eS_twin_Room))], .box [.d (.v (.int .i64 v_r587.1.fOrder)), .d (.sl (v_r587.1.fFree.map eS_twin_Room))], .box [.d (.v (.int .i64 0)), .d (vnil)], .box ((cA_t114 v_r1205).map FV.d)]⟩
def G_ringlaw2_TwinTells_L4_hd (v_order2 : Int) (v_at3 : Int) (v_r393 : (S_twin_Twin × Int × Int)) (v_r587 : (S_twin_Twin × Int)) (v_r649 : (Int × Int × Int)) (v_z1303 : Int) (v_t1 : S_twin_Twin) (v_r1205 : ((Fin 64 → Bool))) (v_most1371 : Int) (v_x1372 : Int) : PS := ⟨[dd, .d (.v (.int .i64 v_order2)), .d (.v (.int .i64 v_at3)), .ref 0 0, dd, dd, dd, dd, dd, .ref 1 0, .d (.v (.int .i64 v_r393.2.1)), .d (.v (.int .i64 v_r393.2.2)), .ref 2 0, .d (.v (.int .i64 v_r587.2)), .d (.v (.int .i64 v_r649.1)), .d (.v (.int .i64 v_r649.2.1)), .d (.v (.int .i64 v_r649.2.2)), .ref 3 0, dd, .ref 4 0, .d (.v (.int .i64 v_z1303)), .d (.v (.int .i64 v_most1371)), dd, dd, dd, dd, dd, dd, dd, dd, dd, dd, dd, dd, dd, dd, dd, dd, dd, dd, dd, dd, dd, dd, dd, dd, dd, dd, dd, dd, dd, dd, dd, dd, dd, dd, dd, dd, dd, dd, dd, dd, dd, dd, dd, dd, dd, dd, dd, dd, dd, dd, dd, dd, dd, dd, dd, dd, dd, dd, dd, dd, dd, dd, dd, dd, dd, dd, dd, dd, dd, dd, dd, dd, dd, dd, dd, dd, dd, dd, dd, dd, dd, dd, dd, dd, dd, dd, dd, dd, dd, dd, dd, dd, dd, dd, dd, dd, dd, dd, dd, dd, dd, dd, dd, dd, dd, dd, dd, dd, dd, dd, dd, dd, dd, dd, dd, dd, dd, dd, dd, dd, dd, .d (.sl (v_t1.fFree.map eS_twin_Room)), .d (.v (.int .i64 (v_t1.fFree.length : Int))), .d (.v (.int .i64 v_x1372)), dd, dd, dd, dd, dd, dd, dd, dd, dd, dd, dd, dd, dd, dd, dd, dd, dd, dd, dd, dd, dd, dd, dd, dd, dd, dd, dd, dd, dd, dd, dd, dd, dd, dd, dd, dd, dd, dd, dd, dd, dd, dd, dd, dd, dd, dd, dd, dd, dd, dd, dd, dd, dd, dd, dd, dd, dd, dd, dd, dd, dd, dd, dd, dd, dd, dd, dd, dd, dd, dd, dd, dd, dd, dd, dd, dd, dd, dd, dd, dd, dd, dd, dd, dd, dd, dd, dd, dd, dd, dd, dd, dd, dd, dd, dd, dd, dd, dd, dd, dd, dd, dd, dd, dd, dd, dd, dd, dd, dd, dd, dd, dd, dd, dd, dd, dd, dd], [.box [.d (.v (.int .i64 v_t1.fOrder)), .d (.sl (v_t1.fFree.map eS_twin_Room))], .box [.d (.v (.int .i64 v_r393.1.fOrder)), .d (.sl (v_r393.1.fFree.map eS_twin_Room))], .box [.d (.v (.int .i64 v_r587.1.fOrder)), .d (.sl (v_r587.1.fFree.map eS_twin_Room))], .box [.d (.v (.int .i64 0)), .d (vnil)], .box ((cA_t114 v_r1205).map FV.d)]⟩
def G_ringlaw2_TwinTells_L4 (n : Nat) (v_order2 : Int) (v_at3 : Int) (v_r393 : (S_twin_Twin × Int × Int)) (v_r587 : (S_twin_Twin × Int)) (v_r649 : (Int × Int × Int)) (v_z1303 : Int) (v_t1 : S_twin_Twin) (v_r1205 : ((Fin 64 → Bool))) : Nat → Int → Int → Option G_ringlaw2_TwinTells_L4_R
  | 0, _, _ => none
  | k + 1, v_most1371, v_x1372 =>
    if v_x1372 < (v_t1.fFree.length : Int) then
     (getI v_t1.fFree v_x1372).bind fun (v_y1374 : S_twin_Room) =>
     G_ringlaw2_TwinTells_L4 n v_order2 v_at3 v_r393 v_r587 v_r649 v_z1303 v_t1 v_r1205 k (maxI v_most1371 v_y1374.fOrder) (wi .i64 (v_x1372 + 1))
    else
     some (.x0 v_most1371)
theorem G_ringlaw2_TwinTells_L4_ok {Fi : Ex → PS → Prop} (hF : KC 263 Fi) (ks : List Fr) (n : Nat) (v_order2 : Int) (v_at3 : Int) (v_r393 : (S_twin_Twin × Int × Int)) (v_r587 : (S_twin_Twin × Int)) (v_r649 : (Int × Int × Int)) (v_z1303 : Int) (v_t1 : S_twin_Twin) (v_r1205 : ((Fin 64 → Bool)))  : ∀ (k : Nat) (v_most1371 : Int) (v_x1372 : Int) (o : G_ringlaw2_TwinTells_L4_R), G_ringlaw2_TwinTells_L4 n v_order2 v_at3 v_r393 v_r587 v_r649 v_z1303 v_t1 v_r1205 k v_most1371 v_x1372 = some o → RunE Try.prog 263 Fi ks (G_ringlaw2_TwinTells_L4_ex o) (G_ringlaw2_TwinTells_L4_st v_order2 v_at3 v_r393 v_r587 v_r649 v_z1303 v_t1 v_r1205 o) → RunE Try.prog 263 Fi (.l k (cP (cB (cR (cL (cR (cR (cR (cR (cR (cR (cR (cR (cR (cR (cR (cR (cR (bodyOf Try.f6)))))))))))))))))) :: ks) .normal (G_ringlaw2_TwinTells_L4_hd v_order2 v_at3 v_r393 v_r587 v_r649 v_z1303 v_t1 v_r1205 v_most1371 v_x1372)
  | 0, v_most1371, v_x1372, o, h, q => by rw [G_ringlaw2_TwinTells_L4] at h; cases h
  | k + 1, v_most1371, v_x1372, o, h, q => by
    rw [G_ringlaw2_TwinTells_L4] at h
    by_cases h740 : v_x1372 < (v_t1.fFree.length : Int)
    · rw [if_pos h740] at h
      obtain ⟨v_y1374, h742, h⟩ := bind_some h
      exact pkk_sound TTok mix hF 13 (hs := [.t true, .y (eS_twin_Room v_y1374), .c, .c]) (ts := []) (s := [0, 1, 2, 3, 4]) (l := [1, 2, 3, 9, 10, 11, 12, 13, 14, 15, 16, 17, 19, 20, 21, 143, 144, 145]) (by kernel_rfl) (by kernel_rfl) (.cons (dt h740) (.cons (getI_ob (f := eS_twin_Room) h742) (.cons (show 0 + 2 ≤ 2 by decide) .nil))) (G_ringlaw2_TwinTells_L4_ok hF ks n v_order2 v_at3 v_r393 v_r587 v_r649 v_z1303 v_t1 v_r1205 k (maxI v_most1371 v_y1374.fOrder) (wi .i64 (v_x1372 + 1)) _ h q)
    · rw [if_neg h740] at h
      cases h
      exact pkk_sound TTok mix hF 8 (hs := [.t false]) (ts := []) (s := [0, 1, 2, 3, 4]) (l := [1, 2, 3, 9, 10, 11, 12, 13, 14, 15, 16, 17, 19, 20, 21]) (by kernel_rfl) (by kernel_rfl) (.cons (df h740) .nil) q
inductive G_ringlaw2_TwinTells_C5_R where
  | x0 (v_x1417 : Bool)
def G_ringlaw2_TwinTells_C5_ex : G_ringlaw2_TwinTells_C5_R → Ex
  | .x0 _ => .normal
def G_ringlaw2_TwinTells_C5_st (v_order2 : Int) (v_at3 : Int) (v_r393 : (S_twin_Twin × Int × Int)) (v_r587 : (S_twin_Twin × Int)) (v_r649 : (Int × Int × Int)) (v_z1303 : Int) (v_z1377 : Int) (v_t1 : S_twin_Twin) (v_r1205 : ((Fin 64 → Bool))) : G_ringlaw2_TwinTells_C5_R → PS
  | .x0 v_x1417 => ⟨[dd, .d (.v (.int .i64 v_order2)), .d (.v (.int .i64 v_at3)), .ref 0 0, dd, dd, dd, dd, dd, .ref 1 0, .d (.v (.int .i64 v_r393.2.1)), .d (.v (.int .i64 v_r393.2.2)), .ref 2 0, .d (.v (.int .i64 v_r587.2)), dd, dd, dd, .ref 3 0, dd, .ref 4 0, dd, dd, dd, dd, dd, dd, dd, dd, dd, dd, dd, dd, dd, dd, dd, dd, dd, dd, dd, dd, dd, dd, dd, dd, dd, dd, dd, dd, dd, dd, dd, dd, dd, dd, dd, dd, dd, dd, dd, dd, dd, dd, dd, dd, dd, dd, dd, dd, dd, dd, dd, dd, dd, dd, dd, dd, dd, dd, dd, dd, dd, dd, dd, dd, dd, dd, dd, dd, dd, dd, dd, dd, dd, dd, dd, dd, dd, dd, dd, dd, dd, dd, dd, dd, dd, dd, dd, dd, dd, dd, dd, dd, dd, dd, dd, dd, dd, dd, dd, dd, dd, dd, dd, dd, dd, dd, dd, dd, dd, dd, dd, dd, dd, dd, dd, dd, dd, dd, dd, dd, dd, dd, dd, dd, dd, dd, dd, dd, dd, dd, dd, dd, dd, dd, dd, dd, dd, dd, dd, dd, dd, dd, dd, dd, dd, .d (.v (.bool v_x1417)), dd, dd, dd, dd, dd, dd, dd, dd, dd, dd, dd, dd, dd, dd, dd, dd, dd, dd, dd, dd, dd, dd, dd, dd, dd, dd, dd, dd, dd, dd, dd, dd, dd, dd, dd, dd, dd, dd, dd, dd, dd, dd, dd, dd, dd, dd, dd, dd, dd, dd, dd, dd, dd, dd, dd, dd, dd, dd, dd, dd, dd, dd, dd, dd, dd, dd, dd, dd, dd, dd, dd, dd, dd, dd, dd, dd, dd, dd, dd, dd, dd, dd, dd, dd, dd, dd, dd, dd, dd, dd, dd, dd, dd, dd, dd, dd, dd], [.box [.d (.v (.int .i64 v_t1.fOrder)), .d (.sl (v_t1.fFree.map eS_twin_Room))], .box [.d (.v (.int .i64 v_r393.1.fOrder)), .d (.sl (v_r393.1.fFree.map eS_twin_Room))], .box [.d (.v (.int .i64 v_r587.1.fOrder)), .d (.sl (v_r587.1.fFree.map eS_twin_Room))], .box [.d (.v (.int .i64 0)), .d (vnil)], .box ((cA_t114 v_r1205).map FV.d)]⟩
def G_ringlaw2_TwinTells_C5_hd (v_order2 : Int) (v_at3 : Int) (v_r393 : (S_twin_Twin × Int × Int)) (v_r587 : (S_twin_Twin × Int)) (v_r649 : (Int × Int × Int)) (v_z1303 : Int) (v_z1377 : Int) (v_t1 : S_twin_Twin) (v_r1205 : ((Fin 64 → Bool)))  : PS := ⟨[dd, .d (.v (.int .i64 v_order2)), .d (.v (.int .i64 v_at3)), .ref 0 0, dd, dd, dd, dd, dd, .ref 1 0, .d (.v (.int .i64 v_r393.2.1)), .d (.v (.int .i64 v_r393.2.2)), .ref 2 0, .d (.v (.int .i64 v_r587.2)), .d (.v (.int .i64 v_r649.1)), .d (.v (.int .i64 v_r649.2.1)), .d (.v (.int .i64 v_r649.2.2)), .ref 3 0, dd, .ref 4 0, .d (.v (.int .i64 v_z1303)), .d (.v (.int .i64 v_z1377)), dd, dd, dd, dd, dd, dd, dd, dd, dd, dd, dd, dd, dd, dd, dd, dd, dd, dd, dd, dd, dd, dd, dd, dd, dd, dd, dd, dd, dd, dd, dd, dd, dd, dd, dd, dd, dd, dd, dd, dd, dd, dd, dd, dd, dd, dd, dd, dd, dd, dd, dd, dd, dd, dd, dd, dd, dd, dd, dd, dd, dd, dd, dd, dd, dd, dd, dd, dd, dd, dd, dd, dd, dd, dd, dd, dd, dd, dd, dd, dd, dd, dd, dd, dd, dd, dd, dd, dd, dd, dd, dd, dd, dd, dd, dd, dd, dd, dd, dd, dd, dd, dd, dd, dd, dd, dd, dd, dd, dd, dd, dd, dd, dd, dd, dd, dd, dd, dd, dd, dd, dd, dd, dd, dd, dd, dd, dd, dd, dd, dd, dd, dd, dd, dd, dd, dd, dd, dd, dd, dd, dd, dd, dd, dd, dd, dd, dd, dd, dd, dd, dd, dd, dd, dd, dd, dd, dd, dd, dd, dd, dd, dd, dd, dd, dd, dd, dd, dd, dd, dd, dd, dd, dd, dd, dd, dd, dd, dd, dd, dd, dd, dd, dd, dd, dd, dd, dd, dd, dd, dd, dd, dd, dd, dd, dd, dd, dd, dd, dd, dd, dd, dd, dd, dd, dd, dd, dd, dd, dd, dd, dd, dd, dd, dd, dd, dd, dd, dd, dd, dd, dd, dd, dd, dd, dd, dd, dd, dd, dd, dd, dd, dd, dd, dd, dd, dd, dd, dd, dd, dd, dd], [.box [.d (.v (.int .i64 v_t1.fOrder)), .d (.sl (v_t1.fFree.map eS_twin_Room))], .box [.d (.v (.int .i64 v_r393.1.fOrder)), .d (.sl (v_r393.1.fFree.map eS_twin_Room))], .box [.d (.v (.int .i64 v_r587.1.fOrder)), .d (.sl (v_r587.1.fFree.map eS_twin_Room))], .box [.d (.v (.int .i64 0)), .d (vnil)], .box ((cA_t114 v_r1205).map FV.d)]⟩
def G_ringlaw2_TwinTells_C5 (n : Nat) (v_order2 : Int) (v_at3 : Int) (v_r393 : (S_twin_Twin × Int × Int)) (v_r587 : (S_twin_Twin × Int)) (v_r649 : (Int × Int × Int)) (v_z1303 : Int) (v_z1377 : Int) (v_t1 : S_twin_Twin) (v_r1205 : ((Fin 64 → Bool))) : Option G_ringlaw2_TwinTells_C5_R :=
  if v_r649.1 = v_z1377 then
   if v_r649.2.1 = v_z1303 then
    some (.x0 (v_r649.2.2 != 0))
   else
    some (.x0 true)
  else
   some (.x0 true)
theorem G_ringlaw2_TwinTells_C5_ok {Fi : Ex → PS → Prop} (hF : KC 263 Fi) (ks : List Fr) (n : Nat) (v_order2 : Int) (v_at3 : Int) (v_r393 : (S_twin_Twin × Int × Int)) (v_r587 : (S_twin_Twin × Int)) (v_r649 : (Int × Int × Int)) (v_z1303 : Int) (v_z1377 : Int) (v_t1 : S_twin_Twin) (v_r1205 : ((Fin 64 → Bool)))  (o : G_ringlaw2_TwinTells_C5_R) (h : G_ringlaw2_TwinTells_C5 n v_order2 v_at3 v_r393 v_r587 v_r649 v_z1303 v_z1377 v_t1 v_r1205 = some o) (q : RunE Try.prog 263 Fi ks (G_ringlaw2_TwinTells_C5_ex o) (G_ringlaw2_TwinTells_C5_st v_order2 v_at3 v_r393 v_r587 v_r649 v_z1303 v_z1377 v_t1 v_r1205 o)) : RunE Try.prog 263 Fi (.s (cL (cL (cR (cR (cR (cR (cR (cR (cR (cR (cR (cR (cR (cR (cR (cR (bodyOf Try.f6))))))))))))))))) :: ks) .normal (G_ringlaw2_TwinTells_C5_hd v_order2 v_at3 v_r393 v_r587 v_r649 v_z1303 v_z1377 v_t1 v_r1205) := by
  unfold G_ringlaw2_TwinTells_C5 at h
  by_cases h746 : v_r649.1 = v_z1377
  · rw [if_pos h746] at h
    by_cases h747 : v_r649.2.1 = v_z1303
    · rw [if_pos h747] at h
      cases h
      exact pkk_sound TTok mix hF 1 (hs := [.t false, .c, .c, .t false, .c]) (ts := []) (s := [0, 1, 2, 3, 4]) (l := [1, 2, 3, 9, 10, 11, 12, 13, 17, 19, 165]) (by kernel_rfl) (by kernel_rfl) (.cons (nf h746) (.cons (nf h747) .nil)) q
    · rw [if_neg h747] at h
      cases h
      exact pkk_sound TTok mix hF 1 (hs := [.t false, .c, .c, .t true, .c]) (ts := []) (s := [0, 1, 2, 3, 4]) (l := [1, 2, 3, 9, 10, 11, 12, 13, 17, 19, 165]) (by kernel_rfl) (by kernel_rfl) (.cons (nf h746) (.cons (nt h747) .nil)) q
  · rw [if_neg h746] at h
    cases h
    exact pkk_sound TTok mix hF 1 (hs := [.t true, .c, .c, .c, .c]) (ts := []) (s := [0, 1, 2, 3, 4]) (l := [1, 2, 3, 9, 10, 11, 12, 13, 17, 19, 165]) (by kernel_rfl) (by kernel_rfl) (.cons (nt h746) .nil) q
inductive G_ringlaw2_TwinTells_L6_R where
  | x0 (v_give1533 : Bool)
def G_ringlaw2_TwinTells_L6_ex : G_ringlaw2_TwinTells_L6_R → Ex
  | .x0 _ => .exit 4
def G_ringlaw2_TwinTells_L6_st (v_order2 : Int) (v_at3 : Int) (v_r393 : (S_twin_Twin × Int × Int)) (v_r587 : (S_twin_Twin × Int)) (v_t1 : S_twin_Twin) (v_r1205 : ((Fin 64 → Bool))) : G_ringlaw2_TwinTells_L6_R → PS
  | .x0 v_give1533 => ⟨[dd, .d (.v (.int .i64 v_order2)), dd, .ref 0 0, dd, dd, dd, dd, dd, .ref 1 0, .d (.v (.int .i64 v_r393.2.1)), .d (.v (.int .i64 v_r393.2.2)), .ref 2 0, .d (.v (.int .i64 v_r587.2)), dd, dd, dd, .ref 3 0, dd, dd, dd, dd, dd, dd, dd, dd, .ref 4 0, .d (.v (.bool v_give1533)), dd, dd, dd, dd, dd, dd, dd, dd, dd, dd, dd, dd, dd, dd, dd, dd, dd, dd, dd, dd, dd, dd, dd, dd, dd, dd, dd, dd, dd, dd, dd, dd, dd, dd, dd, dd, dd, dd, dd, dd, dd, dd, dd, dd, dd, dd, dd, dd, dd, dd, dd, dd, dd, dd, dd, dd, dd, dd, dd, dd, dd, dd, dd, dd, dd, dd, dd, dd, dd, dd, dd, dd, dd, dd, dd, dd, dd, dd, dd, dd, dd, dd, dd, dd, dd, dd, dd, dd, dd, dd, dd, dd, dd, dd, dd, dd, dd, dd, dd, dd, dd, dd, dd, dd, dd, dd, dd, dd, dd, dd, dd, dd, dd, dd, dd, dd, dd, dd, dd, dd, dd, dd, dd, dd, dd, dd, dd, dd, dd, dd, dd, dd, dd, dd, dd, dd, dd, dd, dd, dd, dd, dd, dd, dd, dd, dd, dd, dd, dd, dd, dd, dd, dd, dd, dd, dd, dd, dd, dd, dd, dd, dd, dd, dd, dd, dd, dd, dd, dd, dd, dd, dd, dd, dd, dd, dd, dd, dd, dd, dd, dd, dd, dd, dd, dd, dd, dd, dd, dd, dd, dd, dd, dd, dd, dd, dd, dd, dd, dd, dd, dd, dd, dd, dd, dd, dd, dd, dd, dd, dd, dd, dd, dd, dd, dd, dd, dd, dd, dd, dd, dd, dd, dd, dd, dd, dd, dd, dd, dd, dd, dd, dd, dd, dd, dd], [.box [.d (.v (.int .i64 v_t1.fOrder)), .d (.sl (v_t1.fFree.map eS_twin_Room))], .box [.d (.v (.int .i64 v_r393.1.fOrder)), .d (.sl (v_r393.1.fFree.map eS_twin_Room))], .box [.d (.v (.int .i64 v_r587.1.fOrder)), .d (.sl (v_r587.1.fFree.map eS_twin_Room))], .box [.d (.v (.int .i64 0)), .d (vnil)], .box [.d (.v (.int .i64 v_at3)), .d (.v (.int .i64 v_order2))]]⟩
def G_ringlaw2_TwinTells_L6_hd (v_order2 : Int) (v_at3 : Int) (v_r393 : (S_twin_Twin × Int × Int)) (v_r587 : (S_twin_Twin × Int)) (v_t1 : S_twin_Twin) (v_r1205 : ((Fin 64 → Bool))) (v_give1527 : Bool) (v_i1528 : Int) : PS := ⟨[dd, .d (.v (.int .i64 v_order2)), .d (.v (.int .i64 v_at3)), .ref 0 0, dd, dd, dd, dd, dd, .ref 1 0, .d (.v (.int .i64 v_r393.2.1)), .d (.v (.int .i64 v_r393.2.2)), .ref 2 0, .d (.v (.int .i64 v_r587.2)), dd, dd, dd, .ref 3 0, dd, .ref 4 0, dd, dd, dd, dd, dd, dd, .ref 5 0, .d (.v (.bool v_give1527)), .d (.v (.int .i64 v_i1528)), dd, dd, dd, dd, dd, dd, dd, dd, dd, dd, dd, dd, dd, dd, dd, dd, dd, dd, dd, dd, dd, dd, dd, dd, dd, dd, dd, dd, dd, dd, dd, dd, dd, dd, dd, dd, dd, dd, dd, dd, dd, dd, dd, dd, dd, dd, dd, dd, dd, dd, dd, dd, dd, dd, dd, dd, dd, dd, dd, dd, dd, dd, dd, dd, dd, dd, dd, dd, dd, dd, dd, dd, dd, dd, dd, dd, dd, dd, dd, dd, dd, dd, dd, dd, dd, dd, dd, dd, dd, dd, dd, dd, dd, dd, dd, dd, dd, dd, dd, dd, dd, dd, dd, dd, dd, dd, dd, dd, dd, dd, dd, dd, dd, dd, dd, dd, dd, dd, dd, dd, dd, dd, dd, dd, dd, dd, dd, dd, dd, dd, dd, dd, dd, dd, dd, dd, dd, dd, dd, dd, dd, dd, dd, dd, dd, dd, dd, dd, dd, dd, dd, dd, dd, dd, dd, dd, dd, dd, dd, dd, dd, dd, dd, dd, dd, dd, dd, dd, dd, dd, dd, dd, dd, dd, dd, dd, dd, dd, dd, dd, dd, dd, dd, dd, dd, dd, dd, dd, dd, dd, dd, dd, dd, dd, dd, dd, dd, dd, dd, dd, dd, dd, dd, dd, dd, dd, dd, dd, dd, dd, dd, dd, dd, dd, dd, dd, dd, dd, dd, dd, dd, dd, dd, dd, dd, dd, dd, dd, dd, dd, dd, dd, dd, dd], [.box [.d (.v (.int .i64 v_t1.fOrder)), .d (.sl (v_t1.fFree.map eS_twin_Room))], .box [.d (.v (.int .i64 v_r393.1.fOrder)), .d (.sl (v_r393.1.fFree.map eS_twin_Room))], .box [.d (.v (.int .i64 v_r587.1.fOrder)), .d (.sl (v_r587.1.fFree.map eS_twin_Room))], .box [.d (.v (.int .i64 0)), .d (vnil)], .box ((cA_t114 v_r1205).map FV.d), .box [.d (.v (.int .i64 v_at3)), .d (.v (.int .i64 v_order2))]]⟩
def G_ringlaw2_TwinTells_L6 (n : Nat) (v_order2 : Int) (v_at3 : Int) (v_r393 : (S_twin_Twin × Int × Int)) (v_r587 : (S_twin_Twin × Int)) (v_t1 : S_twin_Twin) (v_r1205 : ((Fin 64 → Bool))) : Nat → Bool → Int → Option G_ringlaw2_TwinTells_L6_R
  | 0, _, _ => none
  | k + 1, v_give1527, v_i1528 =>
    if v_give1527 = true then
     (G_ringref2_Power n v_order2).bind fun (v_r1530 : (Int)) =>
     if v_i1528 < v_r1530 then
      if 0 ≤ (wi .i64 (v_at3 + v_i1528)) ∧ (wi .i64 (v_at3 + v_i1528)) < (64 : Int) then
       (getA v_r1205 (wi .i64 (v_at3 + v_i1528))).bind fun (v_y1532 : Bool) =>
       G_ringlaw2_TwinTells_L6 n v_order2 v_at3 v_r393 v_r587 v_t1 v_r1205 k (!v_y1532) (wi .i64 (v_i1528 + 1))
      else none
     else
      some (.x0 v_give1527)
    else
     some (.x0 v_give1527)
theorem G_ringlaw2_TwinTells_L6_ok {Fi : Ex → PS → Prop} (hF : KC 263 Fi) (ks : List Fr) (n : Nat) (v_order2 : Int) (v_at3 : Int) (v_r393 : (S_twin_Twin × Int × Int)) (v_r587 : (S_twin_Twin × Int)) (v_t1 : S_twin_Twin) (v_r1205 : ((Fin 64 → Bool)))  : ∀ (k : Nat) (v_give1527 : Bool) (v_i1528 : Int) (o : G_ringlaw2_TwinTells_L6_R), G_ringlaw2_TwinTells_L6 n v_order2 v_at3 v_r393 v_r587 v_t1 v_r1205 k v_give1527 v_i1528 = some o → RunE Try.prog 263 Fi ks (G_ringlaw2_TwinTells_L6_ex o) (G_ringlaw2_TwinTells_L6_st v_order2 v_at3 v_r393 v_r587 v_t1 v_r1205 o) → RunE Try.prog 263 Fi (.l k (cP (cB (cR (cL (cR (cR (cR (cR (cR (cR (cR (cR (cR (cR (cR (cR (cR (cR (cR (cR (cR (bodyOf Try.f6)))))))))))))))))))))) :: ks) .normal (G_ringlaw2_TwinTells_L6_hd v_order2 v_at3 v_r393 v_r587 v_t1 v_r1205 v_give1527 v_i1528)
  | 0, v_give1527, v_i1528, o, h, q => by rw [G_ringlaw2_TwinTells_L6] at h; cases h
  | k + 1, v_give1527, v_i1528, o, h, q => by
    rw [G_ringlaw2_TwinTells_L6] at h
    by_cases h753 : v_give1527 = true
    · rw [if_pos h753] at h
      obtain ⟨v_r1530, h754, h⟩ := bind_some h
      by_cases h755 : v_i1528 < v_r1530
      · rw [if_pos h755] at h
        by_cases h758 : 0 ≤ (wi .i64 (v_at3 + v_i1528)) ∧ (wi .i64 (v_at3 + v_i1528)) < (64 : Int)
        · rw [if_pos h758] at h
          obtain ⟨v_y1532, h759, h⟩ := bind_some h
          exact pkk_sound TTok mix hF 11 (hs := [.t true, .c, .c, .r ((eI .i64) v_r1530), .c, .t true, .l (.d (.v (.bool v_y1532)))]) (ts := []) (s := [0, 1, 2, 3, 4, 5]) (l := [1, 2, 3, 9, 10, 11, 12, 13, 17, 19, 26, 27, 28]) (by kernel_rfl) (by kernel_rfl) (.cons h753 (.cons (G_ringref2_Power_ok n v_order2 _ h754) (.cons (dt h755) (.cons h758 (.cons (arr_cell (γ := FV) (sz := 1) (g := (fun x => [.d (.v (.bool x))])) (pre := []) (post := []) (o := 0) (fun _ => rfl) h759 rfl) .nil))))) (G_ringlaw2_TwinTells_L6_ok hF ks n v_order2 v_at3 v_r393 v_r587 v_t1 v_r1205 k (!v_y1532) (wi .i64 (v_i1528 + 1)) _ h q)
        · rw [if_neg h758] at h; cases h
      · rw [if_neg h755] at h
        cases h
        exact pkk_sound TTok mix hF 8 (hs := [.t true, .c, .c, .r ((eI .i64) v_r1530), .c, .t false]) (ts := []) (s := [0, 1, 2, 3, 5]) (l := [1, 3, 9, 10, 11, 12, 13, 17, 26, 27]) (by kernel_rfl) (by kernel_rfl) (.cons h753 (.cons (G_ringref2_Power_ok n v_order2 _ h754) (.cons (df h755) .nil))) q
    · rw [if_neg h753] at h
      cases h
      exact pkk_sound TTok mix hF 8 (hs := [.t false, .c, .c, .c, .c]) (ts := []) (s := [0, 1, 2, 3, 5]) (l := [1, 3, 9, 10, 11, 12, 13, 17, 26, 27]) (by kernel_rfl) (by kernel_rfl) (.cons (vf h753) .nil) q
inductive G_ringlaw2_TwinTells_C7_R where
  | x0 (v_x1842 : Bool)
def G_ringlaw2_TwinTells_C7_ex : G_ringlaw2_TwinTells_C7_R → Ex
  | .x0 _ => .normal
def G_ringlaw2_TwinTells_C7_st (v_order2 : Int) (v_r393 : (S_twin_Twin × Int × Int)) (v_r587 : (S_twin_Twin × Int)) (v_z1536 : Bool) (v_t1 : S_twin_Twin) (v_at3 : Int) : G_ringlaw2_TwinTells_C7_R → PS
  | .x0 v_x1842 => ⟨[dd, .d (.v (.int .i64 v_order2)), dd, .ref 0 0, dd, dd, dd, dd, dd, .ref 1 0, .d (.v (.int .i64 v_r393.2.1)), .d (.v (.int .i64 v_r393.2.2)), dd, dd, dd, dd, dd, .ref 2 0, dd, dd, dd, dd, dd, dd, dd, dd, dd, dd, dd, dd, dd, dd, dd, dd, dd, dd, dd, dd, dd, dd, dd, dd, dd, dd, dd, dd, dd, dd, dd, dd, dd, dd, dd, dd, dd, dd, dd, dd, dd, dd, dd, dd, dd, dd, dd, dd, dd, dd, dd, dd, dd, dd, dd, dd, dd, dd, dd, dd, dd, dd, dd, dd, dd, dd, dd, dd, dd, dd, dd, dd, dd, dd, dd, dd, dd, dd, dd, dd, dd, dd, dd, dd, dd, dd, dd, dd, dd, dd, dd, dd, dd, dd, dd, dd, dd, dd, dd, dd, dd, dd, dd, dd, dd, dd, dd, dd, dd, dd, dd, dd, dd, dd, dd, dd, dd, dd, dd, dd, dd, dd, dd, dd, dd, dd, dd, dd, dd, dd, dd, dd, dd, dd, dd, dd, dd, dd, dd, dd, dd, dd, dd, dd, dd, dd, dd, dd, dd, dd, dd, dd, dd, dd, dd, dd, dd, dd, dd, dd, dd, dd, dd, dd, dd, dd, dd, dd, dd, dd, dd, dd, dd, dd, dd, dd, dd, dd, dd, dd, dd, dd, dd, dd, dd, dd, dd, dd, dd, dd, dd, dd, dd, dd, dd, dd, .d (.v (.bool v_x1842)), dd, dd, dd, dd, dd, dd, dd, dd, dd, dd, dd, dd, dd, dd, dd, dd, dd, dd, dd, dd, dd, dd, dd, dd, dd, dd, dd, dd, dd, dd, dd, dd, dd, dd, dd, dd, dd, dd, dd, dd, dd, dd, dd, dd, dd, dd, dd, dd], [.box [.d (.v (.int .i64 v_t1.fOrder)), .d (.sl (v_t1.fFree.map eS_twin_Room))], .box [.d (.v (.int .i64 v_r393.1.fOrder)), .d (.sl (v_r393.1.fFree.map eS_twin_Room))], .box [.d (.v (.int .i64 0)), .d (vnil)]]⟩
def G_ringlaw2_TwinTells_C7_hd (v_order2 : Int) (v_r393 : (S_twin_Twin × Int × Int)) (v_r587 : (S_twin_Twin × Int)) (v_z1536 : Bool) (v_t1 : S_twin_Twin) (v_at3 : Int)  : PS := ⟨[dd, .d (.v (.int .i64 v_order2)), dd, .ref 0 0, dd, dd, dd, dd, dd, .ref 1 0, .d (.v (.int .i64 v_r393.2.1)), .d (.v (.int .i64 v_r393.2.2)), .ref 2 0, .d (.v (.int .i64 v_r587.2)), dd, dd, dd, .ref 3 0, dd, dd, dd, dd, dd, dd, dd, dd, .ref 4 0, .d (.v (.bool v_z1536)), dd, dd, dd, dd, dd, dd, dd, dd, dd, dd, dd, dd, dd, dd, dd, dd, dd, dd, dd, dd, dd, dd, dd, dd, dd, dd, dd, dd, dd, dd, dd, dd, dd, dd, dd, dd, dd, dd, dd, dd, dd, dd, dd, dd, dd, dd, dd, dd, dd, dd, dd, dd, dd, dd, dd, dd, dd, dd, dd, dd, dd, dd, dd, dd, dd, dd, dd, dd, dd, dd, dd, dd, dd, dd, dd, dd, dd, dd, dd, dd, dd, dd, dd, dd, dd, dd, dd, dd, dd, dd, dd, dd, dd, dd, dd, dd, dd, dd, dd, dd, dd, dd, dd, dd, dd, dd, dd, dd, dd, dd, dd, dd, dd, dd, dd, dd, dd, dd, dd, dd, dd, dd, dd, dd, dd, dd, dd, dd, dd, dd, dd, dd, dd, dd, dd, dd, dd, dd, dd, dd, dd, dd, dd, dd, dd, dd, dd, dd, dd, dd, dd, dd, dd, dd, dd, dd, dd, dd, dd, dd, dd, dd, dd, dd, dd, dd, dd, dd, dd, dd, dd, dd, dd, dd, dd, dd, dd, dd, dd, dd, dd, dd, dd, dd, dd, dd, dd, dd, dd, dd, dd, dd, dd, dd, dd, dd, dd, dd, dd, dd, dd, dd, dd, dd, dd, dd, dd, dd, dd, dd, dd, dd, dd, dd, dd, dd, dd, dd, dd, dd, dd, dd, dd, dd, dd, dd, dd, dd, dd, dd, dd, dd, dd, dd, dd], [.box [.d (.v (.int .i64 v_t1.fOrder)), .d (.sl (v_t1.fFree.map eS_twin_Room))], .box [.d (.v (.int .i64 v_r393.1.fOrder)), .d (.sl (v_r393.1.fFree.map eS_twin_Room))], .box [.d (.v (.int .i64 v_r587.1.fOrder)), .d (.sl (v_r587.1.fFree.map eS_twin_Room))], .box [.d (.v (.int .i64 0)), .d (vnil)], .box [.d (.v (.int .i64 v_at3)), .d (.v (.int .i64 v_order2))]]⟩
def G_ringlaw2_TwinTells_C7 (n : Nat) (v_order2 : Int) (v_r393 : (S_twin_Twin × Int × Int)) (v_r587 : (S_twin_Twin × Int)) (v_z1536 : Bool) (v_t1 : S_twin_Twin) (v_at3 : Int) : Option G_ringlaw2_TwinTells_C7_R :=
  if v_z1536 = true then
   (G_ringref2_TwinGive n v_t1 (S_twin_Room.mk v_at3 v_order2)).bind fun (v_r1845 : (S_twin_Twin)) =>
   (G_ringref2_TwinSame n v_r587.1 v_r1845).bind fun (v_r1846 : (Bool)) =>
   if v_r1846 = true then
    some (.x0 (v_r587.2 != 0))
   else
    some (.x0 true)
  else
   (G_ringref2_TwinSame n v_r587.1 (S_twin_Twin.mk 0 ([] : (List S_twin_Room)))).bind fun (v_r1841 : (Bool)) =>
   if v_r1841 = true then
    if v_r587.2 = 1 then
     some (.x0 false)
    else
     some (.x0 true)
   else
    some (.x0 true)
theorem G_ringlaw2_TwinTells_C7_ok {Fi : Ex → PS → Prop} (hF : KC 263 Fi) (ks : List Fr) (n : Nat) (v_order2 : Int) (v_r393 : (S_twin_Twin × Int × Int)) (v_r587 : (S_twin_Twin × Int)) (v_z1536 : Bool) (v_t1 : S_twin_Twin) (v_at3 : Int)  (o : G_ringlaw2_TwinTells_C7_R) (h : G_ringlaw2_TwinTells_C7 n v_order2 v_r393 v_r587 v_z1536 v_t1 v_at3 = some o) (q : RunE Try.prog 263 Fi ks (G_ringlaw2_TwinTells_C7_ex o) (G_ringlaw2_TwinTells_C7_st v_order2 v_r393 v_r587 v_z1536 v_t1 v_at3 o)) : RunE Try.prog 263 Fi (.s (cL (cL (cR (cR (cR (cR (cR (cR (cR (cR (cR (cR (cR (cR (cR (cR (cR (cR (cR (cR (bodyOf Try.f6))))))))))))))))))))) :: ks) .normal (G_ringlaw2_TwinTells_C7_hd v_order2 v_r393 v_r587 v_z1536 v_t1 v_at3) := by
  unfold G_ringlaw2_TwinTells_C7 at h
  by_cases h946 : v_z1536 = true
  · rw [if_pos h946] at h
    obtain ⟨v_r1845, h950, h⟩ := bind_some h
    obtain ⟨v_r1846, h951, h⟩ := bind_some h
    by_cases h952 : v_r1846 = true
    · rw [if_pos h952] at h
      cases h
      exact pkk_sound TTok mix hF 1 (hs := [.t false, .c, .c, .c, .c, .c, .c, .c, .t true, .c, .c, .c, .c, .c, .c, .r (eS_twin_Twin v_r1845), .c, .r (eB v_r1846), .c, .c, .t false, .c, .c, .c]) (ts := []) (s := [0, 1, 3]) (l := [1, 3, 9, 10, 11, 17, 214]) (by kernel_rfl) (by kernel_rfl) (.cons (bnf h946) (.cons h946 (.cons (G_ringref2_TwinGive_ok n v_t1 (S_twin_Room.mk v_at3 v_order2) _ h950) (.cons (G_ringref2_TwinSame_ok n v_r587.1 v_r1845 _ h951) (.cons (bnf h952) .nil))))) q
    · rw [if_neg h952] at h
      cases h
      exact pkk_sound TTok mix hF 1 (hs := [.t false, .c, .c, .c, .c, .c, .c, .c, .t true, .c, .c, .c, .c, .c, .c, .r (eS_twin_Twin v_r1845), .c, .r (eB v_r1846), .c, .c, .t true, .c, .c, .c]) (ts := []) (s := [0, 1, 3]) (l := [1, 3, 9, 10, 11, 17, 214]) (by kernel_rfl) (by kernel_rfl) (.cons (bnf h946) (.cons h946 (.cons (G_ringref2_TwinGive_ok n v_t1 (S_twin_Room.mk v_at3 v_order2) _ h950) (.cons (G_ringref2_TwinSame_ok n v_r587.1 v_r1845 _ h951) (.cons (bnt (vf h952)) .nil))))) q
  · rw [if_neg h946] at h
    obtain ⟨v_r1841, h947, h⟩ := bind_some h
    by_cases h948 : v_r1841 = true
    · rw [if_pos h948] at h
      by_cases h949 : v_r587.2 = 1
      · rw [if_pos h949] at h
        cases h
        exact pkk_sound TTok mix hF 1 (hs := [.t true, .c, .c, .c, .c, .r (eB v_r1841), .c, .c, .t false, .c, .c, .t false, .c, .t false, .c, .c, .c, .c, .c, .c, .c, .c]) (ts := []) (s := [0, 1, 3]) (l := [1, 3, 9, 10, 11, 17, 214]) (by kernel_rfl) (by kernel_rfl) (.cons (bnt (vf h946)) (.cons (G_ringref2_TwinSame_ok n v_r587.1 (S_twin_Twin.mk 0 ([] : (List S_twin_Room))) _ h947) (.cons (bnf h948) (.cons (nf h949) (.cons (vf h946) .nil))))) q
      · rw [if_neg h949] at h
        cases h
        exact pkk_sound TTok mix hF 1 (hs := [.t true, .c, .c, .c, .c, .r (eB v_r1841), .c, .c, .t false, .c, .c, .t true, .c, .c]) (ts := []) (s := [0, 1, 3]) (l := [1, 3, 9, 10, 11, 17, 214]) (by kernel_rfl) (by kernel_rfl) (.cons (bnt (vf h946)) (.cons (G_ringref2_TwinSame_ok n v_r587.1 (S_twin_Twin.mk 0 ([] : (List S_twin_Room))) _ h947) (.cons (bnf h948) (.cons (nt h949) .nil)))) q
    · rw [if_neg h948] at h
      cases h
      exact pkk_sound TTok mix hF 1 (hs := [.t true, .c, .c, .c, .c, .r (eB v_r1841), .c, .c, .t true, .c, .c, .c, .c, .c]) (ts := []) (s := [0, 1, 3]) (l := [1, 3, 9, 10, 11, 17, 214]) (by kernel_rfl) (by kernel_rfl) (.cons (bnt (vf h946)) (.cons (G_ringref2_TwinSame_ok n v_r587.1 (S_twin_Twin.mk 0 ([] : (List S_twin_Room))) _ h947) (.cons (bnt (vf h948)) .nil))) q
inductive G_ringlaw2_TwinTells_C8_R where
  | x0 (v_x1902 : Bool)
def G_ringlaw2_TwinTells_C8_ex : G_ringlaw2_TwinTells_C8_R → Ex
  | .x0 _ => .normal
def G_ringlaw2_TwinTells_C8_st (v_r393 : (S_twin_Twin × Int × Int)) : G_ringlaw2_TwinTells_C8_R → PS
  | .x0 v_x1902 => ⟨[dd, dd, dd, dd, dd, dd, .d (.v (.bool v_x1902)), dd, dd, dd, dd, dd, dd, dd, dd, dd, dd, dd, dd, dd, dd, dd, dd, dd, dd, dd, dd, dd, dd, dd, dd, dd, dd, dd, dd, dd, dd, dd, dd, dd, dd, dd, dd, dd, dd, dd, dd, dd, dd, dd, dd, dd, dd, dd, dd, dd, dd, dd, dd, dd, dd, dd, dd, dd, dd, dd, dd, dd, dd, dd, dd, dd, dd, dd, dd, dd, dd, dd, dd, dd, dd, dd, dd, dd, dd, dd, dd, dd, dd, dd, dd, dd, dd, dd, dd, dd, dd, dd, dd, dd, dd, dd, dd, dd, dd, dd, dd, dd, dd, dd, dd, dd, dd, dd, dd, dd, dd, dd, dd, dd, dd, dd, dd, dd, dd, dd, dd, dd, dd, dd, dd, dd, dd, dd, dd, dd, dd, dd, dd, dd, dd, dd, dd, dd, dd, dd, dd, dd, dd, dd, dd, dd, dd, dd, dd, dd, dd, dd, dd, dd, dd, dd, dd, dd, dd, dd, dd, dd, dd, dd, dd, dd, dd, dd, dd, dd, dd, dd, dd, dd, dd, dd, dd, dd, dd, dd, dd, dd, dd, dd, dd, dd, dd, dd, dd, dd, dd, dd, dd, dd, dd, dd, dd, dd, dd, dd, dd, dd, dd, dd, dd, dd, dd, dd, dd, dd, dd, dd, dd, dd, dd, dd, dd, dd, dd, dd, dd, dd, dd, dd, dd, dd, dd, dd, dd, dd, dd, dd, dd, dd, dd, dd, dd, dd, dd, dd, dd, dd, dd, dd, dd, dd, dd, dd, dd, dd, dd, dd, dd, dd, dd, dd, dd], []⟩
def G_ringlaw2_TwinTells_C8_hd (v_r393 : (S_twin_Twin × Int × Int))  : PS := ⟨[dd, dd, dd, dd, dd, dd, dd, dd, dd, .ref 0 0, .d (.v (.int .i64 v_r393.2.1)), .d (.v (.int .i64 v_r393.2.2)), dd, dd, dd, dd, dd, .ref 1 0, dd, dd, dd, dd, dd, dd, dd, dd, dd, dd, dd, dd, dd, dd, dd, dd, dd, dd, dd, dd, dd, dd, dd, dd, dd, dd, dd, dd, dd, dd, dd, dd, dd, dd, dd, dd, dd, dd, dd, dd, dd, dd, dd, dd, dd, dd, dd, dd, dd, dd, dd, dd, dd, dd, dd, dd, dd, dd, dd, dd, dd, dd, dd, dd, dd, dd, dd, dd, dd, dd, dd, dd, dd, dd, dd, dd, dd, dd, dd, dd, dd, dd, dd, dd, dd, dd, dd, dd, dd, dd, dd, dd, dd, dd, dd, dd, dd, dd, dd, dd, dd, dd, dd, dd, dd, dd, dd, dd, dd, dd, dd, dd, dd, dd, dd, dd, dd, dd, dd, dd, dd, dd, dd, dd, dd, dd, dd, dd, dd, dd, dd, dd, dd, dd, dd, dd, dd, dd, dd, dd, dd, dd, dd, dd, dd, dd, dd, dd, dd, dd, dd, dd, dd, dd, dd, dd, dd, dd, dd, dd, dd, dd, dd, dd, dd, dd, dd, dd, dd, dd, dd, dd, dd, dd, dd, dd, dd, dd, dd, dd, dd, dd, dd, dd, dd, dd, dd, dd, dd, dd, dd, dd, dd, dd, dd, dd, dd, dd, dd, dd, dd, dd, dd, dd, dd, dd, dd, dd, dd, dd, dd, dd, dd, dd, dd, dd, dd, dd, dd, dd, dd, dd, dd, dd, dd, dd, dd, dd, dd, dd, dd, dd, dd, dd, dd, dd, dd, dd, dd, dd, dd, dd, dd, dd, dd], [.box [.d (.v (.int .i64 v_r393.1.fOrder)), .d (.sl (v_r393.1.fFree.map eS_twin_Room))], .box [.d (.v (.int .i64 0)), .d (vnil)]]⟩
def G_ringlaw2_TwinTells_C8 (n : Nat) (v_r393 : (S_twin_Twin × Int × Int)) : Option G_ringlaw2_TwinTells_C8_R :=
  (G_ringref2_TwinSame n v_r393.1 (S_twin_Twin.mk 0 ([] : (List S_twin_Room)))).bind fun (v_r1901 : (Bool)) =>
  if v_r1901 = true then
   if v_r393.2.1 = 0 then
    some (.x0 (v_r393.2.2 == 1))
   else
    some (.x0 false)
  else
   some (.x0 false)
theorem G_ringlaw2_TwinTells_C8_ok {Fi : Ex → PS → Prop} (hF : KC 263 Fi) (ks : List Fr) (n : Nat) (v_r393 : (S_twin_Twin × Int × Int))  (o : G_ringlaw2_TwinTells_C8_R) (h : G_ringlaw2_TwinTells_C8 n v_r393 = some o) (q : RunE Try.prog 263 Fi ks (G_ringlaw2_TwinTells_C8_ex o) (G_ringlaw2_TwinTells_C8_st v_r393 o)) : RunE Try.prog 263 Fi (.s (cL (cT (cR (cL (cR (cR (cR (cR (cR (cR (cR (cR (cR (cR (cR (cR (cR (cR (cR (cR (cR (cR (cR (bodyOf Try.f6)))))))))))))))))))))))) :: ks) .normal (G_ringlaw2_TwinTells_C8_hd v_r393) := by
  unfold G_ringlaw2_TwinTells_C8 at h
  obtain ⟨v_r1901, h968, h⟩ := bind_some h
  by_cases h969 : v_r1901 = true
  · rw [if_pos h969] at h
    by_cases h970 : v_r393.2.1 = 0
    · rw [if_pos h970] at h
      cases h
      exact pkk_sound TTok mix hF 1 (hs := [.c, .c, .r (eB v_r1901), .t true, .c, .t true, .c]) (ts := []) (s := []) (l := [6]) (by kernel_rfl) (by kernel_rfl) (.cons (G_ringref2_TwinSame_ok n v_r393.1 (S_twin_Twin.mk 0 ([] : (List S_twin_Room))) _ h968) (.cons h969 (.cons (bt h970) .nil))) q
    · rw [if_neg h970] at h
      cases h
      exact pkk_sound TTok mix hF 1 (hs := [.c, .c, .r (eB v_r1901), .t true, .c, .t false, .c]) (ts := []) (s := []) (l := [6]) (by kernel_rfl) (by kernel_rfl) (.cons (G_ringref2_TwinSame_ok n v_r393.1 (S_twin_Twin.mk 0 ([] : (List S_twin_Room))) _ h968) (.cons h969 (.cons (bf h970) .nil))) q
  · rw [if_neg h969] at h
    cases h
    exact pkk_sound TTok mix hF 1 (hs := [.c, .c, .r (eB v_r1901), .t false, .c, .c, .c]) (ts := []) (s := []) (l := [6]) (by kernel_rfl) (by kernel_rfl) (.cons (G_ringref2_TwinSame_ok n v_r393.1 (S_twin_Twin.mk 0 ([] : (List S_twin_Room))) _ h968) (.cons (vf h969) .nil)) q
inductive G_ringlaw2_TwinTells_C9_R where
  | x0 (v_x2076 : Bool)
def G_ringlaw2_TwinTells_C9_ex : G_ringlaw2_TwinTells_C9_R → Ex
  | .x0 _ => .normal
def G_ringlaw2_TwinTells_C9_st (v_r393 : (S_twin_Twin × Int × Int)) : G_ringlaw2_TwinTells_C9_R → PS
  | .x0 v_x2076 => ⟨[dd, dd, dd, dd, dd, dd, .d (.v (.bool v_x2076)), dd, dd, dd, dd, dd, dd, dd, dd, dd, dd, dd, dd, dd, dd, dd, dd, dd, dd, dd, dd, dd, dd, dd, dd, dd, dd, dd, dd, dd, dd, dd, dd, dd, dd, dd, dd, dd, dd, dd, dd, dd, dd, dd, dd, dd, dd, dd, dd, dd, dd, dd, dd, dd, dd, dd, dd, dd, dd, dd, dd, dd, dd, dd, dd, dd, dd, dd, dd, dd, dd, dd, dd, dd, dd, dd, dd, dd, dd, dd, dd, dd, dd, dd, dd, dd, dd, dd, dd, dd, dd, dd, dd, dd, dd, dd, dd, dd, dd, dd, dd, dd, dd, dd, dd, dd, dd, dd, dd, dd, dd, dd, dd, dd, dd, dd, dd, dd, dd, dd, dd, dd, dd, dd, dd, dd, dd, dd, dd, dd, dd, dd, dd, dd, dd, dd, dd, dd, dd, dd, dd, dd, dd, dd, dd, dd, dd, dd, dd, dd, dd, dd, dd, dd, dd, dd, dd, dd, dd, dd, dd, dd, dd, dd, dd, dd, dd, dd, dd, dd, dd, dd, dd, dd, dd, dd, dd, dd, dd, dd, dd, dd, dd, dd, dd, dd, dd, dd, dd, dd, dd, dd, dd, dd, dd, dd, dd, dd, dd, dd, dd, dd, dd, dd, dd, dd, dd, dd, dd, dd, dd, dd, dd, dd, dd, dd, dd, dd, dd, dd, dd, dd, dd, dd, dd, dd, dd, dd, dd, dd, dd, dd, dd, dd, dd, dd, dd, dd, dd, dd, dd, dd, dd, dd, dd, dd, dd, dd, dd, dd, dd, dd, dd, dd, dd, dd, dd], []⟩
def G_ringlaw2_TwinTells_C9_hd (v_r393 : (S_twin_Twin × Int × Int))  : PS := ⟨[dd, dd, dd, dd, dd, dd, dd, dd, dd, .ref 0 0, .d (.v (.int .i64 v_r393.2.1)), .d (.v (.int .i64 v_r393.2.2)), dd, dd, dd, dd, dd, .ref 1 0, dd, dd, dd, dd, dd, dd, dd, dd, dd, dd, dd, dd, dd, dd, dd, dd, dd, dd, dd, dd, dd, dd, dd, dd, dd, dd, dd, dd, dd, dd, dd, dd, dd, dd, dd, dd, dd, dd, dd, dd, dd, dd, dd, dd, dd, dd, dd, dd, dd, dd, dd, dd, dd, dd, dd, dd, dd, dd, dd, dd, dd, dd, dd, dd, dd, dd, dd, dd, dd, dd, dd, dd, dd, dd, dd, dd, dd, dd, dd, dd, dd, dd, dd, dd, dd, dd, dd, dd, dd, dd, dd, dd, dd, dd, dd, dd, dd, dd, dd, dd, dd, dd, dd, dd, dd, dd, dd, dd, dd, dd, dd, dd, dd, dd, dd, dd, dd, dd, dd, dd, dd, dd, dd, dd, dd, dd, dd, dd, dd, dd, dd, dd, dd, dd, dd, dd, dd, dd, dd, dd, dd, dd, dd, dd, dd, dd, dd, dd, dd, dd, dd, dd, dd, dd, dd, dd, dd, dd, dd, dd, dd, dd, dd, dd, dd, dd, dd, dd, dd, dd, dd, dd, dd, dd, dd, dd, dd, dd, dd, dd, dd, dd, dd, dd, dd, dd, dd, dd, dd, dd, dd, dd, dd, dd, dd, dd, dd, dd, dd, dd, dd, dd, dd, dd, dd, dd, dd, dd, dd, dd, dd, dd, dd, dd, dd, dd, dd, dd, dd, dd, dd, dd, dd, dd, dd, dd, dd, dd, dd, dd, dd, dd, dd, dd, dd, dd, dd, dd, dd, dd, dd, dd, dd, dd, dd], [.box [.d (.v (.int .i64 v_r393.1.fOrder)), .d (.sl (v_r393.1.fFree.map eS_twin_Room))], .box [.d (.v (.int .i64 0)), .d (vnil)]]⟩
def G_ringlaw2_TwinTells_C9 (n : Nat) (v_r393 : (S_twin_Twin × Int × Int)) : Option G_ringlaw2_TwinTells_C9_R :=
  (G_ringref2_TwinSame n v_r393.1 (S_twin_Twin.mk 0 ([] : (List S_twin_Room)))).bind fun (v_r2075 : (Bool)) =>
  if v_r2075 = true then
   if v_r393.2.1 = 0 then
    some (.x0 (v_r393.2.2 == 6))
   else
    some (.x0 false)
  else
   some (.x0 false)
theorem G_ringlaw2_TwinTells_C9_ok {Fi : Ex → PS → Prop} (hF : KC 263 Fi) (ks : List Fr) (n : Nat) (v_r393 : (S_twin_Twin × Int × Int))  (o : G_ringlaw2_TwinTells_C9_R) (h : G_ringlaw2_TwinTells_C9 n v_r393 = some o) (q : RunE Try.prog 263 Fi ks (G_ringlaw2_TwinTells_C9_ex o) (G_ringlaw2_TwinTells_C9_st v_r393 o)) : RunE Try.prog 263 Fi (.s (cL (cT (cR (cL (cR (cR (cR (cR (cR (cR (cR (cR (cR (cR (cR (cR (cR (cR (cR (cR (cR (cR (cR (cR (cR (bodyOf Try.f6)))))))))))))))))))))))))) :: ks) .normal (G_ringlaw2_TwinTells_C9_hd v_r393) := by
  unfold G_ringlaw2_TwinTells_C9 at h
  obtain ⟨v_r2075, h1027, h⟩ := bind_some h
  by_cases h1028 : v_r2075 = true
  · rw [if_pos h1028] at h
    by_cases h1029 : v_r393.2.1 = 0
    · rw [if_pos h1029] at h
      cases h
      exact pkk_sound TTok mix hF 1 (hs := [.c, .c, .r (eB v_r2075), .t true, .c, .t true, .c]) (ts := []) (s := []) (l := [6]) (by kernel_rfl) (by kernel_rfl) (.cons (G_ringref2_TwinSame_ok n v_r393.1 (S_twin_Twin.mk 0 ([] : (List S_twin_Room))) _ h1027) (.cons h1028 (.cons (bt h1029) .nil))) q
    · rw [if_neg h1029] at h
      cases h
      exact pkk_sound TTok mix hF 1 (hs := [.c, .c, .r (eB v_r2075), .t true, .c, .t false, .c]) (ts := []) (s := []) (l := [6]) (by kernel_rfl) (by kernel_rfl) (.cons (G_ringref2_TwinSame_ok n v_r393.1 (S_twin_Twin.mk 0 ([] : (List S_twin_Room))) _ h1027) (.cons h1028 (.cons (bf h1029) .nil))) q
  · rw [if_neg h1028] at h
    cases h
    exact pkk_sound TTok mix hF 1 (hs := [.c, .c, .r (eB v_r2075), .t false, .c, .c, .c]) (ts := []) (s := []) (l := [6]) (by kernel_rfl) (by kernel_rfl) (.cons (G_ringref2_TwinSame_ok n v_r393.1 (S_twin_Twin.mk 0 ([] : (List S_twin_Room))) _ h1027) (.cons (vf h1028) .nil)) q
inductive G_ringlaw2_TwinTells_C10_R where
  | x0 (v_x2099 : Bool)
def G_ringlaw2_TwinTells_C10_ex : G_ringlaw2_TwinTells_C10_R → Ex
  | .x0 _ => .normal
def G_ringlaw2_TwinTells_C10_st (v_r393 : (S_twin_Twin × Int × Int)) (v_r2030 : (S_twin_Twin × Int × Bool)) : G_ringlaw2_TwinTells_C10_R → PS
  | .x0 v_x2099 => ⟨[dd, dd, dd, dd, dd, dd, .d (.v (.bool v_x2099)), dd, dd, dd, dd, dd, dd, dd, dd, dd, dd, dd, dd, dd, dd, dd, dd, dd, dd, dd, dd, dd, dd, dd, dd, dd, dd, dd, dd, dd, dd, dd, dd, dd, dd, dd, dd, dd, dd, dd, dd, dd, dd, dd, dd, dd, dd, dd, dd, dd, dd, dd, dd, dd, dd, dd, dd, dd, dd, dd, dd, dd, dd, dd, dd, dd, dd, dd, dd, dd, dd, dd, dd, dd, dd, dd, dd, dd, dd, dd, dd, dd, dd, dd, dd, dd, dd, dd, dd, dd, dd, dd, dd, dd, dd, dd, dd, dd, dd, dd, dd, dd, dd, dd, dd, dd, dd, dd, dd, dd, dd, dd, dd, dd, dd, dd, dd, dd, dd, dd, dd, dd, dd, dd, dd, dd, dd, dd, dd, dd, dd, dd, dd, dd, dd, dd, dd, dd, dd, dd, dd, dd, dd, dd, dd, dd, dd, dd, dd, dd, dd, dd, dd, dd, dd, dd, dd, dd, dd, dd, dd, dd, dd, dd, dd, dd, dd, dd, dd, dd, dd, dd, dd, dd, dd, dd, dd, dd, dd, dd, dd, dd, dd, dd, dd, dd, dd, dd, dd, dd, dd, dd, dd, dd, dd, dd, dd, dd, dd, dd, dd, dd, dd, dd, dd, dd, dd, dd, dd, dd, dd, dd, dd, dd, dd, dd, dd, dd, dd, dd, dd, dd, dd, dd, dd, dd, dd, dd, dd, dd, dd, dd, dd, dd, dd, dd, dd, dd, dd, dd, dd, dd, dd, dd, dd, dd, dd, dd, dd, dd, dd, dd, dd, dd, dd, dd, dd], []⟩
def G_ringlaw2_TwinTells_C10_hd (v_r393 : (S_twin_Twin × Int × Int)) (v_r2030 : (S_twin_Twin × Int × Bool))  : PS := ⟨[dd, dd, dd, dd, dd, dd, dd, dd, dd, .ref 0 0, .d (.v (.int .i64 v_r393.2.1)), .d (.v (.int .i64 v_r393.2.2)), dd, dd, dd, dd, dd, dd, dd, dd, dd, dd, dd, dd, dd, dd, dd, dd, dd, .ref 1 0, .d (.v (.int .i64 v_r2030.2.1)), dd, dd, dd, dd, dd, dd, dd, dd, dd, dd, dd, dd, dd, dd, dd, dd, dd, dd, dd, dd, dd, dd, dd, dd, dd, dd, dd, dd, dd, dd, dd, dd, dd, dd, dd, dd, dd, dd, dd, dd, dd, dd, dd, dd, dd, dd, dd, dd, dd, dd, dd, dd, dd, dd, dd, dd, dd, dd, dd, dd, dd, dd, dd, dd, dd, dd, dd, dd, dd, dd, dd, dd, dd, dd, dd, dd, dd, dd, dd, dd, dd, dd, dd, dd, dd, dd, dd, dd, dd, dd, dd, dd, dd, dd, dd, dd, dd, dd, dd, dd, dd, dd, dd, dd, dd, dd, dd, dd, dd, dd, dd, dd, dd, dd, dd, dd, dd, dd, dd, dd, dd, dd, dd, dd, dd, dd, dd, dd, dd, dd, dd, dd, dd, dd, dd, dd, dd, dd, dd, dd, dd, dd, dd, dd, dd, dd, dd, dd, dd, dd, dd, dd, dd, dd, dd, dd, dd, dd, dd, dd, dd, dd, dd, dd, dd, dd, dd, dd, dd, dd, dd, dd, dd, dd, dd, dd, dd, dd, dd, dd, dd, dd, dd, dd, dd, dd, dd, dd, dd, dd, dd, dd, dd, dd, dd, dd, dd, dd, dd, dd, dd, dd, dd, dd, dd, dd, dd, dd, dd, dd, dd, dd, dd, dd, dd, dd, dd, dd, dd, dd, dd, dd, dd, dd, dd, dd, dd, dd, dd, dd, dd, dd], [.box [.d (.v (.int .i64 v_r393.1.fOrder)), .d (.sl (v_r393.1.fFree.map eS_twin_Room))], .box [.d (.v (.int .i64 v_r2030.1.fOrder)), .d (.sl (v_r2030.1.fFree.map eS_twin_Room))]]⟩
def G_ringlaw2_TwinTells_C10 (n : Nat) (v_r393 : (S_twin_Twin × Int × Int)) (v_r2030 : (S_twin_Twin × Int × Bool)) : Option G_ringlaw2_TwinTells_C10_R :=
  (G_ringref2_TwinSame n v_r393.1 v_r2030.1).bind fun (v_r2098 : (Bool)) =>
  if v_r2098 = true then
   if v_r393.2.1 = v_r2030.2.1 then
    some (.x0 (v_r393.2.2 == 0))
   else
    some (.x0 false)
  else
   some (.x0 false)
theorem G_ringlaw2_TwinTells_C10_ok {Fi : Ex → PS → Prop} (hF : KC 263 Fi) (ks : List Fr) (n : Nat) (v_r393 : (S_twin_Twin × Int × Int)) (v_r2030 : (S_twin_Twin × Int × Bool))  (o : G_ringlaw2_TwinTells_C10_R) (h : G_ringlaw2_TwinTells_C10 n v_r393 v_r2030 = some o) (q : RunE Try.prog 263 Fi ks (G_ringlaw2_TwinTells_C10_ex o) (G_ringlaw2_TwinTells_C10_st v_r393 v_r2030 o)) : RunE Try.prog 263 Fi (.s (cL (cR (cR (cR (cR (cR (cR (cR (cR (cR (cR (cR (cR (cR (cR (cR (cR (cR (cR (cR (cR (cR (cR (bodyOf Try.f6)))))))))))))))))))))))) :: ks) .normal (G_ringlaw2_TwinTells_C10_hd v_r393 v_r2030) := by
  unfold G_ringlaw2_TwinTells_C10 at h
  obtain ⟨v_r2098, h1034, h⟩ := bind_some h
  by_cases h1035 : v_r2098 = true
  · rw [if_pos h1035] at h
    by_cases h1036 : v_r393.2.1 = v_r2030.2.1
    · rw [if_pos h1036] at h
      cases h
      exact pkk_sound TTok mix hF 1 (hs := [.c, .c, .r (eB v_r2098), .t true, .c, .c, .t true, .c]) (ts := []) (s := []) (l := [6]) (by kernel_rfl) (by kernel_rfl) (.cons (G_ringref2_TwinSame_ok n v_r393.1 v_r2030.1 _ h1034) (.cons h1035 (.cons (bt h1036) .nil))) q
    · rw [if_neg h1036] at h
      cases h
      exact pkk_sound TTok mix hF 1 (hs := [.c, .c, .r (eB v_r2098), .t true, .c, .c, .t false, .c]) (ts := []) (s := []) (l := [6]) (by kernel_rfl) (by kernel_rfl) (.cons (G_ringref2_TwinSame_ok n v_r393.1 v_r2030.1 _ h1034) (.cons h1035 (.cons (bf h1036) .nil))) q
  · rw [if_neg h1035] at h
    cases h
    exact pkk_sound TTok mix hF 1 (hs := [.c, .c, .r (eB v_r2098), .t false, .c, .c, .c, .c]) (ts := []) (s := []) (l := [6]) (by kernel_rfl) (by kernel_rfl) (.cons (G_ringref2_TwinSame_ok n v_r393.1 v_r2030.1 _ h1034) (.cons (vf h1035) .nil)) q
/- ringhall/ringlaw2.TwinTells -/
def G_ringlaw2_TwinTells (n : Nat) (v_t1 : S_twin_Twin) (v_order2 : Int) (v_at3 : Int) : Option (Bool) :=
  (G_twin_New n v_order2).bind fun (v_r10 : (S_twin_Twin × Int)) =>
  (G_twin_Take n v_t1 v_order2).bind fun (v_r393 : (S_twin_Twin × Int × Int)) =>
  (G_twin_Give n v_t1 v_at3 v_order2).bind fun (v_r587 : (S_twin_Twin × Int)) =>
  (G_twin_Most n v_t1).bind fun (v_r649 : (Int × Int × Int)) =>
  (G_ringlaw2_TwinTells_C1 n v_order2 v_at3 v_r10 v_r393 v_r587 v_r649 v_t1).bind fun v_o769 => match v_o769 with
  | .x0 v_z770 =>
    if v_z770 = true then
     some false
    else
     (G_ringref2_Twins n v_t1).bind fun (v_r972 : (Int)) =>
     (G_twin_Check n v_t1).bind fun (v_r1006 : (Int)) =>
     if v_r1006 = v_r972 then
      if v_r972 = 0 then
       (G_ringref2_TwinFree n v_t1).bind fun (v_r1205 : ((Fin 64 → Bool))) =>
       (G_ringlaw2_TwinTells_L3 n v_order2 v_at3 v_r393 v_r587 v_r649 v_r1205 v_t1 n 0 0).bind fun v_o1302 => match v_o1302 with
       | .x0 v_z1303 =>
         (G_ringlaw2_TwinTells_L4 n v_order2 v_at3 v_r393 v_r587 v_r649 v_z1303 v_t1 v_r1205 n (-1) 0).bind fun v_o1376 => match v_o1376 with
         | .x0 v_z1377 =>
           (G_ringlaw2_TwinTells_C5 n v_order2 v_at3 v_r393 v_r587 v_r649 v_z1303 v_z1377 v_t1 v_r1205).bind fun v_o1420 => match v_o1420 with
           | .x0 v_z1421 =>
             if v_z1421 = true then
              some false
             else
              (G_ringref2_RoomIs n (S_twin_Room.mk v_at3 v_order2) v_t1.fOrder).bind fun (v_r1474 : (Bool)) =>
              (G_ringlaw2_TwinTells_L6 n v_order2 v_at3 v_r393 v_r587 v_t1 v_r1205 n v_r1474 0).bind fun v_o1535 => match v_o1535 with
              | .x0 v_z1536 =>
                (G_ringlaw2_TwinTells_C7 n v_order2 v_r393 v_r587 v_z1536 v_t1 v_at3).bind fun v_o1849 => match v_o1849 with
                | .x0 v_z1850 =>
                  if v_z1850 = true then
                   some false
                  else
                   (G_ringref2_In n v_order2 0 v_t1.fOrder).bind fun (v_r1878 : (Bool)) =>
                   if v_r1878 = true then
                    (G_ringref2_TwinTake n v_t1 v_order2).bind fun (v_r2030 : (S_twin_Twin × Int × Bool)) =>
                    if v_r2030.2.2 = true then
                     (G_ringlaw2_TwinTells_C10 n v_r393 v_r2030).bind fun v_o2102 => match v_o2102 with
                     | .x0 v_z2103 =>
                       some v_z2103
                    else
                     (G_ringlaw2_TwinTells_C9 n v_r393).bind fun v_o2079 => match v_o2079 with
                     | .x0 v_z2080 =>
                       some v_z2080
                   else
                    (G_ringlaw2_TwinTells_C8 n v_r393).bind fun v_o1905 => match v_o1905 with
                    | .x0 v_z1906 =>
                      some v_z1906
      else
       (G_ringlaw2_TwinTells_C2 n v_r393 v_r587 v_r649 v_r972).bind fun v_o1122 => match v_o1122 with
       | .x0 v_z1123 =>
         some v_z1123
     else
      some false
theorem G_ringlaw2_TwinTells_ok (n : Nat) (v_t1 : S_twin_Twin) (v_order2 : Int) (v_at3 : Int) (r : Bool) (h : G_ringlaw2_TwinTells n v_t1 v_order2 v_at3 = some r) : Ret Try.prog 6 [eS_twin_Twin v_t1, (eI .i64) v_order2, (eI .i64) v_at3] (eB r) := by
  refine ret_run (n := 263) (fn := Try.f6) (c := bodyOf Try.f6) (by kernel_rfl) (by kernel_rfl) (by kernel_rfl) (by kernel_rfl) ?_
  have hF : KC 263 (FinR Try.prog Try.f6 (eB r)) := FinR.kc' (by kernel_rfl)
  unfold G_ringlaw2_TwinTells at h
  obtain ⟨v_r10, h4, h⟩ := bind_some h
  obtain ⟨v_r393, h370, h⟩ := bind_some h
  obtain ⟨v_r587, h485, h⟩ := bind_some h
  obtain ⟨v_r649, h495, h⟩ := bind_some h
  obtain ⟨v_o769, h535, h⟩ := bind_some h
  refine pkk_sound TTok mix hF 14 (hs := [.r (.tup [eS_twin_Twin v_r10.1, (eI .i64) v_r10.2]), .c, .c, .r (.tup [eS_twin_Twin v_r393.1, (eI .i64) v_r393.2.1, (eI .i64) v_r393.2.2]), .c, .c, .r (.tup [eS_twin_Twin v_r587.1, (eI .i64) v_r587.2]), .c, .c, .r (.tup [(eI .i64) v_r649.1, (eI .i64) v_r649.2.1, (eI .i64) v_r649.2.2]), .c]) (ts := []) (s := [0, 35, 85, 140, 205]) (l := [1, 2, 3, 7, 8, 9, 10, 11, 12, 13, 14, 15, 16, 17]) (by kernel_rfl) (by kernel_rfl) (.cons (G_twin_New_ok n v_order2 _ h4) (.cons (show 0 + 2 ≤ 2 by decide) (.cons (G_twin_Take_ok n v_t1 v_order2 _ h370) (.cons (show 0 + 2 ≤ 2 by decide) (.cons (G_twin_Give_ok n v_t1 v_at3 v_order2 _ h485) (.cons (show 0 + 2 ≤ 2 by decide) (.cons (G_twin_Most_ok n v_t1 _ h495) (.cons (show 0 + 2 ≤ 2 by decide) .nil)))))))) (G_ringlaw2_TwinTells_C1_ok hF (.s (cR (cL (cR (cR (cR (cR (cR (cR (bodyOf Try.f6))))))))) :: .s (cR (cR (cR (cR (cR (cR (cR (bodyOf Try.f6)))))))) :: []) n v_order2 v_at3 v_r10 v_r393 v_r587 v_r649 v_t1 _ h535 ?_)
  cases v_o769 with
  | x0 v_z770 =>
    try dsimp only at h
    by_cases h536 : v_z770 = true
    · rw [if_pos h536] at h
      obtain rfl := Option.some.inj h
      exact pend_sound TTok mix 5 (hs := [.t true]) (by kernel_rfl) (by kernel_rfl) (by kernel_rfl) (.cons h536 .nil)
    · rw [if_neg h536] at h
      obtain ⟨v_r972, h659, h⟩ := bind_some h
      obtain ⟨v_r1006, h660, h⟩ := bind_some h
      by_cases h661 : v_r1006 = v_r972
      · rw [if_pos h661] at h
        by_cases h682 : v_r972 = 0
        · rw [if_pos h682] at h
          obtain ⟨v_r1205, h731, h⟩ := bind_some h
          obtain ⟨v_o1302, h739, h⟩ := bind_some h
          refine pkk_sound TTok mix hF 23 (hs := [.t false, .c, .r ((eI .i64) v_r972), .c, .r ((eI .i64) v_r1006), .t false, .t false, .c, .r ((fun x => PV.agg (cA_t114 x)) v_r1205), .c, .c, .n n]) (ts := []) (s := [0, 1, 2, 3, 59]) (l := [1, 2, 3, 9, 10, 11, 12, 13, 14, 15, 16, 17, 19, 20, 21, 134, 135]) (by kernel_rfl) (by kernel_rfl) (.cons (vf h536) (.cons (G_ringref2_Twins_ok n v_t1 _ h659) (.cons (G_twin_Check_ok n v_t1 _ h660) (.cons (nf h661) (.cons (nf h682) (.cons (G_ringref2_TwinFree_ok n v_t1 _ h731) (.cons (show 0 + 64 ≤ 64 by decide) .nil))))))) (G_ringlaw2_TwinTells_L3_ok hF (.b 0 :: .s (cR (cR (cR (cR (cR (cR (cR (cR (cR (cR (cR (cR (cR (bodyOf Try.f6)))))))))))))) :: []) n v_order2 v_at3 v_r393 v_r587 v_r649 v_r1205 v_t1 n 0 0 _ h739 ?_)
          cases v_o1302 with
          | x0 v_z1303 =>
            try dsimp only at h
            obtain ⟨v_o1376, h743, h⟩ := bind_some h
            refine pkk_sound TTok mix hF 6 (hs := [.c, .u (.d (.v (.int .i64 (v_t1.fFree.length : Int)))), .n n]) (ts := []) (s := [0, 1, 2, 3, 4]) (l := [1, 2, 3, 9, 10, 11, 12, 13, 14, 15, 16, 17, 19, 20, 21, 143, 144, 145]) (by kernel_rfl) (by kernel_rfl) (.cons (len_ob (f := eS_twin_Room) (l := v_t1.fFree)) .nil) (G_ringlaw2_TwinTells_L4_ok hF (.b 2 :: .s (cR (cR (cR (cR (cR (cR (cR (cR (cR (cR (cR (cR (cR (cR (bodyOf Try.f6))))))))))))))) :: []) n v_order2 v_at3 v_r393 v_r587 v_r649 v_z1303 v_t1 v_r1205 n (-1) 0 _ h743 ?_)
            cases v_o1376 with
            | x0 v_z1377 =>
              try dsimp only at h
              obtain ⟨v_o1420, h748, h⟩ := bind_some h
              refine pkk_sound TTok mix hF 3 (hs := []) (ts := []) (s := [0, 1, 2, 3, 4]) (l := [1, 2, 3, 9, 10, 11, 12, 13, 14, 15, 16, 17, 19, 20, 21]) (by kernel_rfl) (by kernel_rfl) .nil (G_ringlaw2_TwinTells_C5_ok hF (.s (cR (cL (cR (cR (cR (cR (cR (cR (cR (cR (cR (cR (cR (cR (cR (cR (bodyOf Try.f6))))))))))))))))) :: .s (cR (cR (cR (cR (cR (cR (cR (cR (cR (cR (cR (cR (cR (cR (cR (bodyOf Try.f6)))))))))))))))) :: []) n v_order2 v_at3 v_r393 v_r587 v_r649 v_z1303 v_z1377 v_t1 v_r1205 _ h748 ?_)
              cases v_o1420 with
              | x0 v_z1421 =>
                try dsimp only at h
                by_cases h749 : v_z1421 = true
                · rw [if_pos h749] at h
                  obtain rfl := Option.some.inj h
                  exact pend_sound TTok mix 5 (hs := [.t true]) (by kernel_rfl) (by kernel_rfl) (by kernel_rfl) (.cons h749 .nil)
                · rw [if_neg h749] at h
                  obtain ⟨v_r1474, h750, h⟩ := bind_some h
                  obtain ⟨v_o1535, h760, h⟩ := bind_some h
                  refine pkk_sound TTok mix hF 11 (hs := [.t false, .c, .c, .c, .r (eB v_r1474), .n n]) (ts := []) (s := [0, 1, 2, 3, 4, 20]) (l := [1, 2, 3, 9, 10, 11, 12, 13, 17, 19, 26, 27, 28]) (by kernel_rfl) (by kernel_rfl) (.cons (vf h749) (.cons (show 0 + 2 ≤ 2 by decide) (.cons (G_ringref2_RoomIs_ok n (S_twin_Room.mk v_at3 v_order2) v_t1.fOrder _ h750) .nil))) (G_ringlaw2_TwinTells_L6_ok hF (.b 4 :: .s (cR (cR (cR (cR (cR (cR (cR (cR (cR (cR (cR (cR (cR (cR (cR (cR (cR (cR (bodyOf Try.f6))))))))))))))))))) :: []) n v_order2 v_at3 v_r393 v_r587 v_t1 v_r1205 n v_r1474 0 _ h760 ?_)
                  cases v_o1535 with
                  | x0 v_z1536 =>
                    try dsimp only at h
                    obtain ⟨v_o1849, h953, h⟩ := bind_some h
                    refine pkk_sound TTok mix hF 3 (hs := []) (ts := []) (s := [0, 1, 2, 3, 4]) (l := [1, 3, 9, 10, 11, 12, 13, 17, 26, 27]) (by kernel_rfl) (by kernel_rfl) .nil (G_ringlaw2_TwinTells_C7_ok hF (.s (cR (cL (cR (cR (cR (cR (cR (cR (cR (cR (cR (cR (cR (cR (cR (cR (cR (cR (cR (cR (bodyOf Try.f6))))))))))))))))))))) :: .s (cR (cR (cR (cR (cR (cR (cR (cR (cR (cR (cR (cR (cR (cR (cR (cR (cR (cR (cR (bodyOf Try.f6)))))))))))))))))))) :: []) n v_order2 v_r393 v_r587 v_z1536 v_t1 v_at3 _ h953 ?_)
                    cases v_o1849 with
                    | x0 v_z1850 =>
                      try dsimp only at h
                      by_cases h954 : v_z1850 = true
                      · rw [if_pos h954] at h
                        obtain rfl := Option.some.inj h
                        exact pend_sound TTok mix 5 (hs := [.t true]) (by kernel_rfl) (by kernel_rfl) (by kernel_rfl) (.cons h954 .nil)
                      · rw [if_neg h954] at h
                        obtain ⟨v_r1878, h955, h⟩ := bind_some h
                        by_cases h964 : v_r1878 = true
                        · rw [if_pos h964] at h
                          obtain ⟨v_r2030, h1014, h⟩ := bind_some h
                          by_cases h1023 : v_r2030.2.2 = true
                          · rw [if_pos h1023] at h
                            obtain ⟨v_o2102, h1037, h⟩ := bind_some h
                            refine pkk_sound TTok mix hF 15 (hs := [.t false, .c, .r (eB v_r1878), .t false, .c, .r (.tup [eS_twin_Twin v_r2030.1, (eI .i64) v_r2030.2.1, eB v_r2030.2.2]), .c, .t false]) (ts := []) (s := [1, 63]) (l := [9, 10, 11, 29, 30]) (by kernel_rfl) (by kernel_rfl) (.cons (vf h954) (.cons (G_ringref2_In_ok n v_order2 0 v_t1.fOrder _ h955) (.cons (bnf h964) (.cons (G_ringref2_TwinTake_ok n v_t1 v_order2 _ h1014) (.cons (show 0 + 2 ≤ 2 by decide) (.cons (bnf h1023) .nil)))))) (G_ringlaw2_TwinTells_C10_ok hF (.s (cR (cR (cR (cR (cR (cR (cR (cR (cR (cR (cR (cR (cR (cR (cR (cR (cR (cR (cR (cR (cR (cR (cR (bodyOf Try.f6)))))))))))))))))))))))) :: []) n v_r393 v_r2030 _ h1037 ?_)
                            cases v_o2102 with
                            | x0 v_z2103 =>
                              try dsimp only at h
                              obtain rfl := Option.some.inj h
                              exact pend_sound TTok mix 1 (hs := []) (by kernel_rfl) (by kernel_rfl) (by kernel_rfl) .nil
                          · rw [if_neg h1023] at h
                            obtain ⟨v_o2079, h1030, h⟩ := bind_some h
                            refine pkk_sound TTok mix hF 14 (hs := [.t false, .c, .r (eB v_r1878), .t false, .c, .r (.tup [eS_twin_Twin v_r2030.1, (eI .i64) v_r2030.2.1, eB v_r2030.2.2]), .c, .t true]) (ts := []) (s := [1, 2]) (l := [9, 10, 11, 17]) (by kernel_rfl) (by kernel_rfl) (.cons (vf h954) (.cons (G_ringref2_In_ok n v_order2 0 v_t1.fOrder _ h955) (.cons (bnf h964) (.cons (G_ringref2_TwinTake_ok n v_t1 v_order2 _ h1014) (.cons (show 0 + 2 ≤ 2 by decide) (.cons (bnt (vf h1023)) .nil)))))) (G_ringlaw2_TwinTells_C9_ok hF (.s (cR (cT (cR (cL (cR (cR (cR (cR (cR (cR (cR (cR (cR (cR (cR (cR (cR (cR (cR (cR (cR (cR (cR (cR (cR (bodyOf Try.f6)))))))))))))))))))))))))) :: .s (cR (cR (cR (cR (cR (cR (cR (cR (cR (cR (cR (cR (cR (cR (cR (cR (cR (cR (cR (cR (cR (cR (bodyOf Try.f6))))))))))))))))))))))) :: []) n v_r393 _ h1030 ?_)
                            cases v_o2079 with
                            | x0 v_z2080 =>
                              try dsimp only at h
                              obtain rfl := Option.some.inj h
                              exact pend_sound TTok mix 2 (hs := []) (by kernel_rfl) (by kernel_rfl) (by kernel_rfl) .nil
                        · rw [if_neg h964] at h
                          obtain ⟨v_o1905, h971, h⟩ := bind_some h
                          refine pkk_sound TTok mix hF 7 (hs := [.t false, .c, .r (eB v_r1878), .t true]) (ts := []) (s := [1, 2]) (l := [9, 10, 11, 17]) (by kernel_rfl) (by kernel_rfl) (.cons (vf h954) (.cons (G_ringref2_In_ok n v_order2 0 v_t1.fOrder _ h955) (.cons (bnt (vf h964)) .nil))) (G_ringlaw2_TwinTells_C8_ok hF (.s (cR (cT (cR (cL (cR (cR (cR (cR (cR (cR (cR (cR (cR (cR (cR (cR (cR (cR (cR (cR (cR (cR (cR (bodyOf Try.f6)))))))))))))))))))))))) :: .s (cR (cR (cR (cR (cR (cR (cR (cR (cR (cR (cR (cR (cR (cR (cR (cR (cR (cR (cR (cR (bodyOf Try.f6))))))))))))))))))))) :: []) n v_r393 _ h971 ?_)
                          cases v_o1905 with
                          | x0 v_z1906 =>
                            try dsimp only at h
                            obtain rfl := Option.some.inj h
                            exact pend_sound TTok mix 2 (hs := []) (by kernel_rfl) (by kernel_rfl) (by kernel_rfl) .nil
        · rw [if_neg h682] at h
          obtain ⟨v_o1122, h701, h⟩ := bind_some h
          refine pkk_sound TTok mix hF 14 (hs := [.t false, .c, .r ((eI .i64) v_r972), .c, .r ((eI .i64) v_r1006), .t false, .t true]) (ts := []) (s := [1, 2, 3]) (l := [9, 10, 11, 12, 13, 14, 15, 16, 17, 18]) (by kernel_rfl) (by kernel_rfl) (.cons (vf h536) (.cons (G_ringref2_Twins_ok n v_t1 _ h659) (.cons (G_twin_Check_ok n v_t1 _ h660) (.cons (nf h661) (.cons (nt h682) .nil))))) (G_ringlaw2_TwinTells_C2_ok hF (.s (cR (cT (cR (cL (cR (cR (cR (cR (cR (cR (cR (cR (cR (bodyOf Try.f6)))))))))))))) :: .s (cR (cR (cR (cR (cR (cR (cR (cR (cR (cR (bodyOf Try.f6))))))))))) :: []) n v_r393 v_r587 v_r649 v_r972 _ h701 ?_)
          cases v_o1122 with
          | x0 v_z1123 =>
            try dsimp only at h
            obtain rfl := Option.some.inj h
            exact pend_sound TTok mix 2 (hs := []) (by kernel_rfl) (by kernel_rfl) (by kernel_rfl) .nil
      · rw [if_neg h661] at h
        obtain rfl := Option.some.inj h
        exact pend_sound TTok mix 12 (hs := [.t false, .c, .r ((eI .i64) v_r972), .c, .r ((eI .i64) v_r1006), .t true]) (by kernel_rfl) (by kernel_rfl) (by kernel_rfl) (.cons (vf h536) (.cons (G_ringref2_Twins_ok n v_t1 _ h659) (.cons (G_twin_Check_ok n v_t1 _ h660) (.cons (nt h661) .nil))))
def okS_twin_Room (x : S_twin_Room) : Prop := (fun a => (Lit.int .i64 a).wf = true) x.fAt ∧ (fun a => (Lit.int .i64 a).wf = true) x.fOrder ∧ True
theorem brS_twin_Room : Br (.pair (.int .i64) (.pair (.int .i64) .unit)) (fun x : S_twin_Room => [.v (.int .i64 x.fAt), .v (.int .i64 x.fOrder)]) okS_twin_Room := br_map (br_pair (br_int .i64) (br_pair (br_int .i64) br_unit)) (fun p => S_twin_Room.mk p.1 p.2.1) (fun p h => ⟨rfl, h⟩)
def okS_twin_Twin (x : S_twin_Twin) : Prop := (fun a => (Lit.int .i64 a).wf = true) x.fOrder ∧ (okL 16 okS_twin_Room) x.fFree ∧ True
theorem brS_twin_Twin : Br (.pair (.int .i64) (.pair (.slice 16 (.pair (.int .i64) (.pair (.int .i64) .unit))) .unit)) (fun x : S_twin_Twin => [.v (.int .i64 x.fOrder), .sl (x.fFree.map eS_twin_Room)]) okS_twin_Twin := br_map (br_pair (br_int .i64) (br_pair (br_slice (f := eS_twin_Room) (ok := okS_twin_Room) brS_twin_Room (fun _ => rfl) (by decide)) br_unit)) (fun p => S_twin_Twin.mk p.1 p.2.1) (fun p h => ⟨rfl, h⟩)
theorem TwinTells_walk (H : ∀ (a0 : S_twin_Twin) (a1 : Int) (a2 : Int), okS_twin_Twin a0 → (fun a => (Lit.int .i64 a).wf = true) a1 → (fun a => (Lit.int .i64 a).wf = true) a2 → ∃ n, G_ringlaw2_TwinTells n a0 a1 a2 = some true) (w : World) (v0 : Value) (v1 : Value) (v2 : Value) (h0 : rep.Arg w (.pair (.int .i64) (.pair (.slice 16 (.pair (.int .i64) (.pair (.int .i64) .unit))) .unit)) v0) (h1 : rep.Arg w (.int .i64) v1) (h2 : rep.Arg w (.int .i64) v2) : Calls Try.prog 6 #[v0, v1, v2] w (help.Ret (.bool true) w) := by
  obtain ⟨a0, o0, r0⟩ := arg_agg brS_twin_Twin (by rfl) h0
  obtain ⟨a1, o1, r1⟩ := arg_one (br_int .i64) (by rfl) h1
  obtain ⟨a2, o2, r2⟩ := arg_one (br_int .i64) (by rfl) h2
  obtain ⟨n, hn⟩ := H a0 a1 a2 o0 o1 o2
  exact walk_of (G_ringlaw2_TwinTells_ok n a0 a1 a2 true hn) (RT_cons r0 (RT_cons r1 (RT_cons r2 RT_nil)))
/- FRAME TwinTells; ringhall/ringlaw2.TwinTells; (.pair (.int .i64) (.pair (.slice 16 (.pair (.int .i64) (.pair (.int .i64) .unit))) .unit)) | (.int .i64) | (.int .i64); .agg #[.int .i64 0, .slice none 0 0] | .int .i64 0 | .int .i64 0 -/
end Go.Proofs.Ytpeakaeblibfmaa.pv
