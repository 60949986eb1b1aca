/- What the functions compute (part 2): written by gen.py. -/
import Derived.Test.YtjjjaakefnnbpaaGuSigSaysP1
set_option maxRecDepth 100000
set_option linter.all false
namespace Go.Proofs.Ytjjjaakefnnbpaa.pv
open Go.RowKit
theorem G_slices_partialInsertionSortOrdered_int_h_L5_ok {Fi : Ex → PS → Prop} (hF : KC 133 Fi) (ks : List Fr) (n : Nat) (v_a670 : Int) (v_b671 : Int)  : ∀ (k : Nat) (v_i672 : Int) (v_j673 : Int) (v_w674 : (List Int)) (o : G_slices_partialInsertionSortOrdered_int_h_L5_R), G_slices_partialInsertionSortOrdered_int_h_L5 n v_a670 v_b671 k v_i672 v_j673 v_w674 = some o → RunE Try.prog 133 Fi ks (G_slices_partialInsertionSortOrdered_int_h_L5_ex o) (G_slices_partialInsertionSortOrdered_int_h_L5_st v_a670 v_b671 o) → RunE Try.prog 133 Fi (.l k (cP (cB (cR (cL (cR (cR (bodyOf Try.f180))))))) :: ks) .normal (G_slices_partialInsertionSortOrdered_int_h_L5_hd v_a670 v_b671 v_i672 v_j673 v_w674)
  | 0, v_i672, v_j673, v_w674, o, h, q => by rw [G_slices_partialInsertionSortOrdered_int_h_L5] at h; cases h
  | k + 1, v_i672, v_j673, v_w674, o, h, q => by
    rw [G_slices_partialInsertionSortOrdered_int_h_L5] at h
    by_cases h828 : v_j673 < 5
    · rw [if_pos h828] at h
      obtain ⟨v_o687, h842, h⟩ := bind_some h
      refine pkk_sound TTok mix hF 11 (hs := [.t true, .n n]) (ts := []) (s := [0, 1]) (l := [0, 1, 2, 7, 8]) (by kernel_rfl) (by kernel_rfl) (.cons (dt h828) .nil) (G_slices_partialInsertionSortOrdered_int_h_L1_ok hF (.b 2 :: .s (cR (cB (cL (cR (cP (cB (cR (cL (cR (cR (bodyOf Try.f180))))))))))) :: .b 1 :: .s (cR (cR (cP (cB (cR (cL (cR (cR (bodyOf Try.f180))))))))) :: .l k (cP (cB (cR (cL (cR (cR (bodyOf Try.f180))))))) :: ks) n v_a670 v_b671 v_j673 n v_i672 v_w674 _ h842 ?_)
      cases v_o687 with
      | x0 v_z688 v_z689 =>
        try dsimp only at h
        by_cases h843 : v_z688 = v_b671
        · rw [if_pos h843] at h
          cases h
          exact pkk_sound TTok mix hF 12 (hs := [.t true]) (ts := []) (s := [0, 1]) (l := [6]) (by kernel_rfl) (by kernel_rfl) (.cons (bt h843) .nil) q
        · rw [if_neg h843] at h
          by_cases h844 : (wi .i64 (v_b671 - v_a670)) < 50
          · rw [if_pos h844] at h
            cases h
            exact pkk_sound TTok mix hF 17 (hs := [.t false, .t true]) (ts := []) (s := [0, 1]) (l := [6]) (by kernel_rfl) (by kernel_rfl) (.cons (bf h843) (.cons (dt h844) .nil)) q
          · rw [if_neg h844] at h
            by_cases h845 : 0 ≤ (wi .i64 (v_z688 - 1)) ∧ ((wi .i64 (v_z688 - 1))).toNat < v_z689.length
            · rw [if_pos h845] at h
              obtain ⟨v_y694, h846, h⟩ := bind_some h
              by_cases h847 : 0 ≤ v_z688 ∧ (v_z688).toNat < v_z689.length
              · rw [if_pos h847] at h
                obtain ⟨v_y695, h848, h⟩ := bind_some h
                by_cases h849 : 0 ≤ v_z688 ∧ (v_z688).toNat < v_z689.length
                · rw [if_pos h849] at h
                  obtain ⟨v_y696, h850, h⟩ := bind_some h
                  by_cases h851 : 0 ≤ (wi .i64 (v_z688 - 1)) ∧ ((wi .i64 (v_z688 - 1))).toNat < (v_z689.set (v_z688).toNat v_y694).length
                  · rw [if_pos h851] at h
                    obtain ⟨v_y697, h852, h⟩ := bind_some h
                    by_cases h853 : (wi .i64 (v_z688 - v_a670)) ≥ 2
                    · rw [if_pos h853] at h
                      obtain ⟨v_o716, h883, h⟩ := bind_some h
                      refine pkk_sound TTok mix hF 21 (hs := [.t false, .t false, .y ((eI .i64) v_y694), .y ((eI .i64) v_y695), .w ((v_z689.set (v_z688).toNat v_y694).map (eI .i64)), .y ((eI .i64) v_y696), .w (((v_z689.set (v_z688).toNat v_y694).set ((wi .i64 (v_z688 - 1))).toNat v_y695).map (eI .i64)), .y ((eI .i64) v_y697), .t true, .n n]) (ts := []) (s := [0, 1]) (l := [0, 1, 2, 7, 8, 9]) (by kernel_rfl) (by kernel_rfl) (.cons (bf h843) (.cons (df h844) (.cons (idx_ob (f := (eI .i64)) h845) (.cons (get_ob (f := (eI .i64)) h846) (.cons (idx_ob (f := (eI .i64)) h847) (.cons (get_ob (f := (eI .i64)) h848) (.cons (idx_ob (f := (eI .i64)) h849) (.cons (get_ob (f := (eI .i64)) h850) (.cons (Eq.refl (pcells (.v (.int .i64 v_y694)))) (.cons (set_ob (f := (eI .i64)) (l := v_z689) (k := (v_z688).toNat) (z := v_y694) (p := .v (.int .i64 v_y694)) rfl) (.cons (idx_ob (f := (eI .i64)) h851) (.cons (get_ob (f := (eI .i64)) h852) (.cons (Eq.refl (pcells (.v (.int .i64 v_y695)))) (.cons (set_ob (f := (eI .i64)) (l := (v_z689.set (v_z688).toNat v_y694)) (k := ((wi .i64 (v_z688 - 1))).toNat) (z := v_y695) (p := .v (.int .i64 v_y695)) rfl) (.cons (dt h853) .nil))))))))))))))) (G_slices_partialInsertionSortOrdered_int_h_L2_ok hF (.b 4 :: .s (cR (cR (cR (cR (cR (cB (cL (cR (cP (cB (cR (cL (cR (cR (bodyOf Try.f180))))))))))))))) :: .b 1 :: .s (cR (cR (cP (cB (cR (cL (cR (cR (bodyOf Try.f180))))))))) :: .l k (cP (cB (cR (cL (cR (cR (bodyOf Try.f180))))))) :: ks) n v_a670 v_b671 v_z688 v_j673 n (wi .i64 (v_z688 - 1)) ((v_z689.set (v_z688).toNat v_y694).set ((wi .i64 (v_z688 - 1))).toNat v_y695) _ h883 ?_)
                      cases v_o716 with
                      | x0 v_z717 =>
                        try dsimp only at h
                        by_cases h884 : (wi .i64 (v_b671 - v_z688)) ≥ 2
                        · rw [if_pos h884] at h
                          obtain ⟨v_o736, h914, h⟩ := bind_some h
                          refine pkk_sound TTok mix hF 8 (hs := [.t true, .n n]) (ts := []) (s := [0, 1]) (l := [0, 1, 2, 7, 8, 10]) (by kernel_rfl) (by kernel_rfl) (.cons (dt h884) .nil) (G_slices_partialInsertionSortOrdered_int_h_L3_ok hF (.b 6 :: .b 1 :: .s (cR (cR (cP (cB (cR (cL (cR (cR (bodyOf Try.f180))))))))) :: .l k (cP (cB (cR (cL (cR (cR (bodyOf Try.f180))))))) :: ks) n v_a670 v_b671 v_z688 v_j673 n (wi .i64 (v_z688 + 1)) v_z717 _ h914 ?_)
                          cases v_o736 with
                          | x0 v_z737 =>
                            try dsimp only at h
                            exact pkk_sound TTok mix hF 3 (hs := []) (ts := []) (s := [0, 1]) (l := [0, 1, 2, 7, 8]) (by kernel_rfl) (by kernel_rfl) .nil (G_slices_partialInsertionSortOrdered_int_h_L5_ok hF ks n v_a670 v_b671 k v_z688 (wi .i64 (v_j673 + 1)) v_z737 _ h q)
                        · rw [if_neg h884] at h
                          exact pkk_sound TTok mix hF 7 (hs := [.t false]) (ts := []) (s := [0, 1]) (l := [0, 1, 2, 7, 8]) (by kernel_rfl) (by kernel_rfl) (.cons (df h884) .nil) (G_slices_partialInsertionSortOrdered_int_h_L5_ok hF ks n v_a670 v_b671 k v_z688 (wi .i64 (v_j673 + 1)) v_z717 _ h q)
                    · rw [if_neg h853] at h
                      by_cases h915 : (wi .i64 (v_b671 - v_z688)) ≥ 2
                      · rw [if_pos h915] at h
                        obtain ⟨v_o756, h945, h⟩ := bind_some h
                        refine pkk_sound TTok mix hF 25 (hs := [.t false, .t false, .y ((eI .i64) v_y694), .y ((eI .i64) v_y695), .w ((v_z689.set (v_z688).toNat v_y694).map (eI .i64)), .y ((eI .i64) v_y696), .w (((v_z689.set (v_z688).toNat v_y694).set ((wi .i64 (v_z688 - 1))).toNat v_y695).map (eI .i64)), .y ((eI .i64) v_y697), .t false, .t true, .n n]) (ts := []) (s := [0, 1]) (l := [0, 1, 2, 7, 8, 10]) (by kernel_rfl) (by kernel_rfl) (.cons (bf h843) (.cons (df h844) (.cons (idx_ob (f := (eI .i64)) h845) (.cons (get_ob (f := (eI .i64)) h846) (.cons (idx_ob (f := (eI .i64)) h847) (.cons (get_ob (f := (eI .i64)) h848) (.cons (idx_ob (f := (eI .i64)) h849) (.cons (get_ob (f := (eI .i64)) h850) (.cons (Eq.refl (pcells (.v (.int .i64 v_y694)))) (.cons (set_ob (f := (eI .i64)) (l := v_z689) (k := (v_z688).toNat) (z := v_y694) (p := .v (.int .i64 v_y694)) rfl) (.cons (idx_ob (f := (eI .i64)) h851) (.cons (get_ob (f := (eI .i64)) h852) (.cons (Eq.refl (pcells (.v (.int .i64 v_y695)))) (.cons (set_ob (f := (eI .i64)) (l := (v_z689.set (v_z688).toNat v_y694)) (k := ((wi .i64 (v_z688 - 1))).toNat) (z := v_y695) (p := .v (.int .i64 v_y695)) rfl) (.cons (df h853) (.cons (dt h915) .nil)))))))))))))))) (G_slices_partialInsertionSortOrdered_int_h_L4_ok hF (.b 6 :: .b 1 :: .s (cR (cR (cP (cB (cR (cL (cR (cR (bodyOf Try.f180))))))))) :: .l k (cP (cB (cR (cL (cR (cR (bodyOf Try.f180))))))) :: ks) n v_a670 v_b671 v_z688 v_j673 n (wi .i64 (v_z688 + 1)) ((v_z689.set (v_z688).toNat v_y694).set ((wi .i64 (v_z688 - 1))).toNat v_y695) _ h945 ?_)
                        cases v_o756 with
                        | x0 v_z757 =>
                          try dsimp only at h
                          exact pkk_sound TTok mix hF 3 (hs := []) (ts := []) (s := [0, 1]) (l := [0, 1, 2, 7, 8]) (by kernel_rfl) (by kernel_rfl) .nil (G_slices_partialInsertionSortOrdered_int_h_L5_ok hF ks n v_a670 v_b671 k v_z688 (wi .i64 (v_j673 + 1)) v_z757 _ h q)
                      · rw [if_neg h915] at h
                        exact pkk_sound TTok mix hF 24 (hs := [.t false, .t false, .y ((eI .i64) v_y694), .y ((eI .i64) v_y695), .w ((v_z689.set (v_z688).toNat v_y694).map (eI .i64)), .y ((eI .i64) v_y696), .w (((v_z689.set (v_z688).toNat v_y694).set ((wi .i64 (v_z688 - 1))).toNat v_y695).map (eI .i64)), .y ((eI .i64) v_y697), .t false, .t false]) (ts := []) (s := [0, 1]) (l := [0, 1, 2, 7, 8]) (by kernel_rfl) (by kernel_rfl) (.cons (bf h843) (.cons (df h844) (.cons (idx_ob (f := (eI .i64)) h845) (.cons (get_ob (f := (eI .i64)) h846) (.cons (idx_ob (f := (eI .i64)) h847) (.cons (get_ob (f := (eI .i64)) h848) (.cons (idx_ob (f := (eI .i64)) h849) (.cons (get_ob (f := (eI .i64)) h850) (.cons (Eq.refl (pcells (.v (.int .i64 v_y694)))) (.cons (set_ob (f := (eI .i64)) (l := v_z689) (k := (v_z688).toNat) (z := v_y694) (p := .v (.int .i64 v_y694)) rfl) (.cons (idx_ob (f := (eI .i64)) h851) (.cons (get_ob (f := (eI .i64)) h852) (.cons (Eq.refl (pcells (.v (.int .i64 v_y695)))) (.cons (set_ob (f := (eI .i64)) (l := (v_z689.set (v_z688).toNat v_y694)) (k := ((wi .i64 (v_z688 - 1))).toNat) (z := v_y695) (p := .v (.int .i64 v_y695)) rfl) (.cons (df h853) (.cons (df h915) .nil)))))))))))))))) (G_slices_partialInsertionSortOrdered_int_h_L5_ok hF ks n v_a670 v_b671 k v_z688 (wi .i64 (v_j673 + 1)) ((v_z689.set (v_z688).toNat v_y694).set ((wi .i64 (v_z688 - 1))).toNat v_y695) _ h q)
                  · rw [if_neg h851] at h; cases h
                · rw [if_neg h849] at h; cases h
              · rw [if_neg h847] at h; cases h
            · rw [if_neg h845] at h; cases h
    · rw [if_neg h828] at h
      cases h
      exact pkk_sound TTok mix hF 8 (hs := [.t false]) (ts := []) (s := [0, 1]) (l := []) (by kernel_rfl) (by kernel_rfl) (.cons (df h828) .nil) q
/- slices.partialInsertionSortOrdered[int] -/
def G_slices_partialInsertionSortOrdered_int_h (n : Nat) (v_data669 : (List Int)) (v_a670 : Int) (v_b671 : Int) : Option (Bool × (List Int)) :=
  (G_slices_partialInsertionSortOrdered_int_h_L5 n v_a670 v_b671 n (wi .i64 (v_a670 + 1)) 0 v_data669).bind fun v_o759 => match v_o759 with
  | .x0 v_z760 v_z761 =>
    some (v_z760, v_z761)
  | .x1 v_z762 =>
    some (false, v_z762)
theorem G_slices_partialInsertionSortOrdered_int_h_ok (n : Nat) (v_data669 : (List Int)) (v_a670 : Int) (v_b671 : Int) (r : Bool × (List Int)) (h : G_slices_partialInsertionSortOrdered_int_h n v_data669 v_a670 v_b671 = some r) : RetH Try.prog 180 [.srf 0, .d ((eI .i64) v_a670), .d ((eI .i64) v_b671)] [.row 3 1 (v_data669.map (eI .i64))] (.d (eB r.1)) [.row 3 1 (r.2.map (eI .i64))] := by
  refine retH_run (n := 133) (fn := Try.f180) (c := bodyOf Try.f180) (by kernel_rfl) (by kernel_rfl) (by kernel_rfl) (by kernel_rfl) ?_
  have hF : KC 133 (FinH Try.prog Try.f180 [.row 3 1 (v_data669.map (eI .i64))] (.d (eB r.1)) [.row 3 1 (r.2.map (eI .i64))]) := FinH.kc' (by kernel_rfl)
  unfold G_slices_partialInsertionSortOrdered_int_h at h
  obtain ⟨v_o759, h946, h⟩ := bind_some h
  refine pkk_sound TTok mix hF 9 (hs := [.n n]) (ts := []) (s := [1, 0]) (l := [0, 1, 2, 7, 8]) (by kernel_rfl) (by kernel_rfl) .nil (G_slices_partialInsertionSortOrdered_int_h_L5_ok hF (.b 0 :: .s (cR (cR (cR (bodyOf Try.f180)))) :: []) n v_a670 v_b671 n (wi .i64 (v_a670 + 1)) 0 v_data669 _ h946 ?_)
  cases v_o759 with
  | x0 v_z760 v_z761 =>
    try dsimp only at h
    obtain rfl := Option.some.inj h
    exact pendH_sound TTok mix 2 (hs := []) [1] (by kernel_rfl) (by kernel_rfl) (by kernel_rfl) .nil
  | x1 v_z762 =>
    try dsimp only at h
    obtain rfl := Option.some.inj h
    exact pendH_sound TTok mix 4 (hs := []) [1] (by kernel_rfl) (by kernel_rfl) (by kernel_rfl) .nil
inductive G_slices_partitionEqualOrdered_int_h_L1_R where
  | x0 (v_i803 : Int) (v_w804 : (List Int))
def G_slices_partitionEqualOrdered_int_h_L1_ex : G_slices_partitionEqualOrdered_int_h_L1_R → Ex
  | .x0 _ _ => .exit 2
def G_slices_partitionEqualOrdered_int_h_L1_st (v_a785 : Int) (v_j793 : Int) : G_slices_partitionEqualOrdered_int_h_L1_R → PS
  | .x0 v_i803 v_w804 => ⟨[.srf 1, .d (.v (.int .i64 v_a785)), dd, dd, dd, dd, dd, dd, dd, .d (.v (.int .i64 v_i803)), .d (.v (.int .i64 v_j793)), dd, dd, dd, dd, dd, dd, dd, dd, dd, dd, dd, dd, dd, dd, dd, dd, dd, dd, dd, dd, dd, dd, dd, dd, dd, dd, dd, dd, dd, dd, dd, dd, dd, dd, dd, dd, dd, dd, dd, dd, dd, dd, dd, dd, dd, dd, dd, dd, dd, dd, dd, dd, dd, dd, dd, dd, dd, dd, dd, dd, dd, dd, dd, dd, dd, dd, dd, dd, dd, dd, dd, dd, dd], [.gh 0 (.srf 1), .row 3 1 (v_w804.map (eI .i64))]⟩
def G_slices_partitionEqualOrdered_int_h_L1_hd (v_a785 : Int) (v_j793 : Int) (v_i795 : Int) (v_w796 : (List Int)) : PS := ⟨[.srf 1, .d (.v (.int .i64 v_a785)), dd, dd, dd, dd, dd, dd, dd, .d (.v (.int .i64 v_i795)), .d (.v (.int .i64 v_j793)), dd, dd, dd, dd, dd, dd, dd, dd, dd, dd, dd, dd, dd, dd, dd, dd, dd, dd, dd, dd, dd, dd, dd, dd, dd, dd, dd, dd, dd, dd, dd, dd, dd, dd, dd, dd, dd, dd, dd, dd, dd, dd, dd, dd, dd, dd, dd, dd, dd, dd, dd, dd, dd, dd, dd, dd, dd, dd, dd, dd, dd, dd, dd, dd, dd, dd, dd, dd, dd, dd, dd, dd, dd], [.gh 0 (.srf 1), .row 3 1 (v_w796.map (eI .i64))]⟩
def G_slices_partitionEqualOrdered_int_h_L1 (n : Nat) (v_a785 : Int) (v_j793 : Int) : Nat → Int → (List Int) → Option G_slices_partitionEqualOrdered_int_h_L1_R
  | 0, _, _ => none
  | k + 1, v_i795, v_w796 =>
    if v_i795 ≤ v_j793 then
     if 0 ≤ v_a785 ∧ (v_a785).toNat < v_w796.length then
      (v_w796[(v_a785).toNat]?).bind fun (v_y800 : Int) =>
      if 0 ≤ v_i795 ∧ (v_i795).toNat < v_w796.length then
       (v_w796[(v_i795).toNat]?).bind fun (v_y801 : Int) =>
       (G_cmp_Less_int n v_y800 v_y801).bind fun (v_r802 : (Bool)) =>
       if v_r802 = true then
        some (.x0 v_i795 v_w796)
       else
        G_slices_partitionEqualOrdered_int_h_L1 n v_a785 v_j793 k (wi .i64 (v_i795 + 1)) v_w796
      else none
     else none
    else
     some (.x0 v_i795 v_w796)
theorem G_slices_partitionEqualOrdered_int_h_L1_ok {Fi : Ex → PS → Prop} (hF : KC 84 Fi) (ks : List Fr) (n : Nat) (v_a785 : Int) (v_j793 : Int)  : ∀ (k : Nat) (v_i795 : Int) (v_w796 : (List Int)) (o : G_slices_partitionEqualOrdered_int_h_L1_R), G_slices_partitionEqualOrdered_int_h_L1 n v_a785 v_j793 k v_i795 v_w796 = some o → RunE Try.prog 84 Fi ks (G_slices_partitionEqualOrdered_int_h_L1_ex o) (G_slices_partitionEqualOrdered_int_h_L1_st v_a785 v_j793 o) → RunE Try.prog 84 Fi (.l k (cP (cB (cL (cB (cP (cB (cL (cR (cR (cR (bodyOf Try.f182))))))))))) :: ks) .normal (G_slices_partitionEqualOrdered_int_h_L1_hd v_a785 v_j793 v_i795 v_w796)
  | 0, v_i795, v_w796, o, h, q => by rw [G_slices_partitionEqualOrdered_int_h_L1] at h; cases h
  | k + 1, v_i795, v_w796, o, h, q => by
    rw [G_slices_partitionEqualOrdered_int_h_L1] at h
    by_cases h981 : v_i795 ≤ v_j793
    · rw [if_pos h981] at h
      by_cases h982 : 0 ≤ v_a785 ∧ (v_a785).toNat < v_w796.length
      · rw [if_pos h982] at h
        obtain ⟨v_y800, h983, h⟩ := bind_some h
        by_cases h984 : 0 ≤ v_i795 ∧ (v_i795).toNat < v_w796.length
        · rw [if_pos h984] at h
          obtain ⟨v_y801, h985, h⟩ := bind_some h
          obtain ⟨v_r802, h986, h⟩ := bind_some h
          by_cases h987 : v_r802 = true
          · rw [if_pos h987] at h
            cases h
            exact pkk_sound TTok mix hF 8 (hs := [.t true, .c, .c, .c, .y ((eI .i64) v_y800), .c, .c, .c, .c, .y ((eI .i64) v_y801), .c, .r (eB v_r802), .c, .t false]) (ts := []) (s := [0, 1]) (l := [0, 1, 9, 10]) (by kernel_rfl) (by kernel_rfl) (.cons (dt h981) (.cons (idx_ob (f := (eI .i64)) h982) (.cons (get_ob (f := (eI .i64)) h983) (.cons (idx_ob (f := (eI .i64)) h984) (.cons (get_ob (f := (eI .i64)) h985) (.cons (G_cmp_Less_int_ok n v_y800 v_y801 _ h986) (.cons (bnf h987) .nil))))))) q
          · rw [if_neg h987] at h
            exact pkk_sound TTok mix hF 9 (hs := [.t true, .c, .c, .c, .y ((eI .i64) v_y800), .c, .c, .c, .c, .y ((eI .i64) v_y801), .c, .r (eB v_r802), .c, .t true]) (ts := []) (s := [0, 1]) (l := [0, 1, 9, 10]) (by kernel_rfl) (by kernel_rfl) (.cons (dt h981) (.cons (idx_ob (f := (eI .i64)) h982) (.cons (get_ob (f := (eI .i64)) h983) (.cons (idx_ob (f := (eI .i64)) h984) (.cons (get_ob (f := (eI .i64)) h985) (.cons (G_cmp_Less_int_ok n v_y800 v_y801 _ h986) (.cons (bnt (vf h987)) .nil))))))) (G_slices_partitionEqualOrdered_int_h_L1_ok hF ks n v_a785 v_j793 k (wi .i64 (v_i795 + 1)) v_w796 _ h q)
        · rw [if_neg h984] at h; cases h
      · rw [if_neg h982] at h; cases h
    · rw [if_neg h981] at h
      cases h
      exact pkk_sound TTok mix hF 8 (hs := [.t false, .c, .c, .c, .c, .c, .c, .c, .c, .c, .c]) (ts := []) (s := [0, 1]) (l := [0, 1, 9, 10]) (by kernel_rfl) (by kernel_rfl) (.cons (df h981) .nil) q
inductive G_slices_partitionEqualOrdered_int_h_L2_R where
  | x0 (v_j818 : Int) (v_w819 : (List Int))
def G_slices_partitionEqualOrdered_int_h_L2_ex : G_slices_partitionEqualOrdered_int_h_L2_R → Ex
  | .x0 _ _ => .exit 4
def G_slices_partitionEqualOrdered_int_h_L2_st (v_a785 : Int) (v_z808 : Int) : G_slices_partitionEqualOrdered_int_h_L2_R → PS
  | .x0 v_j818 v_w819 => ⟨[.srf 1, .d (.v (.int .i64 v_a785)), dd, dd, dd, dd, dd, dd, dd, .d (.v (.int .i64 v_z808)), .d (.v (.int .i64 v_j818)), dd, dd, dd, dd, dd, dd, dd, dd, dd, dd, dd, dd, dd, dd, dd, dd, dd, dd, dd, dd, dd, dd, dd, dd, dd, dd, dd, dd, dd, dd, dd, dd, dd, dd, dd, dd, dd, dd, dd, dd, dd, dd, dd, dd, dd, dd, dd, dd, dd, dd, dd, dd, dd, dd, dd, dd, dd, dd, dd, dd, dd, dd, dd, dd, dd, dd, dd, dd, dd, dd, dd, dd, dd], [.gh 0 (.srf 1), .row 3 1 (v_w819.map (eI .i64))]⟩
def G_slices_partitionEqualOrdered_int_h_L2_hd (v_a785 : Int) (v_z808 : Int) (v_j810 : Int) (v_w811 : (List Int)) : PS := ⟨[.srf 1, .d (.v (.int .i64 v_a785)), dd, dd, dd, dd, dd, dd, dd, .d (.v (.int .i64 v_z808)), .d (.v (.int .i64 v_j810)), dd, dd, dd, dd, dd, dd, dd, dd, dd, dd, dd, dd, dd, dd, dd, dd, dd, dd, dd, dd, dd, dd, dd, dd, dd, dd, dd, dd, dd, dd, dd, dd, dd, dd, dd, dd, dd, dd, dd, dd, dd, dd, dd, dd, dd, dd, dd, dd, dd, dd, dd, dd, dd, dd, dd, dd, dd, dd, dd, dd, dd, dd, dd, dd, dd, dd, dd, dd, dd, dd, dd, dd, dd], [.gh 0 (.srf 1), .row 3 1 (v_w811.map (eI .i64))]⟩
def G_slices_partitionEqualOrdered_int_h_L2 (n : Nat) (v_a785 : Int) (v_z808 : Int) : Nat → Int → (List Int) → Option G_slices_partitionEqualOrdered_int_h_L2_R
  | 0, _, _ => none
  | k + 1, v_j810, v_w811 =>
    if v_z808 ≤ v_j810 then
     if 0 ≤ v_a785 ∧ (v_a785).toNat < v_w811.length then
      (v_w811[(v_a785).toNat]?).bind fun (v_y815 : Int) =>
      if 0 ≤ v_j810 ∧ (v_j810).toNat < v_w811.length then
       (v_w811[(v_j810).toNat]?).bind fun (v_y816 : Int) =>
       (G_cmp_Less_int n v_y815 v_y816).bind fun (v_r817 : (Bool)) =>
       if v_r817 = true then
        G_slices_partitionEqualOrdered_int_h_L2 n v_a785 v_z808 k (wi .i64 (v_j810 - 1)) v_w811
       else
        some (.x0 v_j810 v_w811)
      else none
     else none
    else
     some (.x0 v_j810 v_w811)
theorem G_slices_partitionEqualOrdered_int_h_L2_ok {Fi : Ex → PS → Prop} (hF : KC 84 Fi) (ks : List Fr) (n : Nat) (v_a785 : Int) (v_z808 : Int)  : ∀ (k : Nat) (v_j810 : Int) (v_w811 : (List Int)) (o : G_slices_partitionEqualOrdered_int_h_L2_R), G_slices_partitionEqualOrdered_int_h_L2 n v_a785 v_z808 k v_j810 v_w811 = some o → RunE Try.prog 84 Fi ks (G_slices_partitionEqualOrdered_int_h_L2_ex o) (G_slices_partitionEqualOrdered_int_h_L2_st v_a785 v_z808 o) → RunE Try.prog 84 Fi (.l k (cP (cB (cL (cR (cB (cP (cB (cL (cR (cR (cR (bodyOf Try.f182)))))))))))) :: ks) .normal (G_slices_partitionEqualOrdered_int_h_L2_hd v_a785 v_z808 v_j810 v_w811)
  | 0, v_j810, v_w811, o, h, q => by rw [G_slices_partitionEqualOrdered_int_h_L2] at h; cases h
  | k + 1, v_j810, v_w811, o, h, q => by
    rw [G_slices_partitionEqualOrdered_int_h_L2] at h
    by_cases h995 : v_z808 ≤ v_j810
    · rw [if_pos h995] at h
      by_cases h996 : 0 ≤ v_a785 ∧ (v_a785).toNat < v_w811.length
      · rw [if_pos h996] at h
        obtain ⟨v_y815, h997, h⟩ := bind_some h
        by_cases h998 : 0 ≤ v_j810 ∧ (v_j810).toNat < v_w811.length
        · rw [if_pos h998] at h
          obtain ⟨v_y816, h999, h⟩ := bind_some h
          obtain ⟨v_r817, h1000, h⟩ := bind_some h
          by_cases h1001 : v_r817 = true
          · rw [if_pos h1001] at h
            exact pkk_sound TTok mix hF 9 (hs := [.t true, .c, .c, .c, .y ((eI .i64) v_y815), .c, .c, .c, .c, .y ((eI .i64) v_y816), .c, .r (eB v_r817), .t true]) (ts := []) (s := [0, 1]) (l := [0, 1, 9, 10]) (by kernel_rfl) (by kernel_rfl) (.cons (dt h995) (.cons (idx_ob (f := (eI .i64)) h996) (.cons (get_ob (f := (eI .i64)) h997) (.cons (idx_ob (f := (eI .i64)) h998) (.cons (get_ob (f := (eI .i64)) h999) (.cons (G_cmp_Less_int_ok n v_y815 v_y816 _ h1000) (.cons h1001 .nil))))))) (G_slices_partitionEqualOrdered_int_h_L2_ok hF ks n v_a785 v_z808 k (wi .i64 (v_j810 - 1)) v_w811 _ h q)
          · rw [if_neg h1001] at h
            cases h
            exact pkk_sound TTok mix hF 8 (hs := [.t true, .c, .c, .c, .y ((eI .i64) v_y815), .c, .c, .c, .c, .y ((eI .i64) v_y816), .c, .r (eB v_r817), .t false]) (ts := []) (s := [0, 1]) (l := [0, 1, 9, 10]) (by kernel_rfl) (by kernel_rfl) (.cons (dt h995) (.cons (idx_ob (f := (eI .i64)) h996) (.cons (get_ob (f := (eI .i64)) h997) (.cons (idx_ob (f := (eI .i64)) h998) (.cons (get_ob (f := (eI .i64)) h999) (.cons (G_cmp_Less_int_ok n v_y815 v_y816 _ h1000) (.cons (vf h1001) .nil))))))) q
        · rw [if_neg h998] at h; cases h
      · rw [if_neg h996] at h; cases h
    · rw [if_neg h995] at h
      cases h
      exact pkk_sound TTok mix hF 8 (hs := [.t false, .c, .c, .c, .c, .c, .c, .c, .c, .c]) (ts := []) (s := [0, 1]) (l := [0, 1, 9, 10]) (by kernel_rfl) (by kernel_rfl) (.cons (df h995) .nil) q
inductive G_slices_partitionEqualOrdered_int_h_L3_R where
  | x0 (v_i825 : Int) (v_w826 : (List Int))
def G_slices_partitionEqualOrdered_int_h_L3_ex : G_slices_partitionEqualOrdered_int_h_L3_R → Ex
  | .x0 _ _ => .exit 0
def G_slices_partitionEqualOrdered_int_h_L3_st (v_a785 : Int) : G_slices_partitionEqualOrdered_int_h_L3_R → PS
  | .x0 v_i825 v_w826 => ⟨[dd, dd, dd, dd, dd, dd, dd, dd, dd, .d (.v (.int .i64 v_i825)), dd, dd, dd, dd, dd, dd, dd, dd, dd, dd, dd, dd, dd, dd, dd, dd, dd, dd, dd, dd, dd, dd, dd, dd, dd, dd, dd, dd, dd, dd, dd, dd, dd, dd, dd, dd, dd, dd, dd, dd, dd, dd, dd, dd, dd, dd, dd, dd, dd, dd, dd, dd, dd, dd, dd, dd, dd, dd, dd, dd, dd, dd, dd, dd, dd, dd, dd, dd, dd, dd, dd, dd, dd, dd], [.gh 0 (.srf 1), .row 3 1 (v_w826.map (eI .i64))]⟩
def G_slices_partitionEqualOrdered_int_h_L3_hd (v_a785 : Int) (v_i792 : Int) (v_j793 : Int) (v_w794 : (List Int)) : PS := ⟨[.srf 1, .d (.v (.int .i64 v_a785)), dd, dd, dd, dd, dd, dd, dd, .d (.v (.int .i64 v_i792)), .d (.v (.int .i64 v_j793)), dd, dd, dd, dd, dd, dd, dd, dd, dd, dd, dd, dd, dd, dd, dd, dd, dd, dd, dd, dd, dd, dd, dd, dd, dd, dd, dd, dd, dd, dd, dd, dd, dd, dd, dd, dd, dd, dd, dd, dd, dd, dd, dd, dd, dd, dd, dd, dd, dd, dd, dd, dd, dd, dd, dd, dd, dd, dd, dd, dd, dd, dd, dd, dd, dd, dd, dd, dd, dd, dd, dd, dd, dd], [.gh 0 (.srf 1), .row 3 1 (v_w794.map (eI .i64))]⟩
def G_slices_partitionEqualOrdered_int_h_L3 (n : Nat) (v_a785 : Int) : Nat → Int → Int → (List Int) → Option G_slices_partitionEqualOrdered_int_h_L3_R
  | 0, _, _, _ => none
  | k + 1, v_i792, v_j793, v_w794 =>
    (G_slices_partitionEqualOrdered_int_h_L1 n v_a785 v_j793 n v_i792 v_w794).bind fun v_o807 => match v_o807 with
    | .x0 v_z808 v_z809 =>
      (G_slices_partitionEqualOrdered_int_h_L2 n v_a785 v_z808 n v_j793 v_z809).bind fun v_o822 => match v_o822 with
      | .x0 v_z823 v_z824 =>
        if v_z808 > v_z823 then
         some (.x0 v_z808 v_z824)
        else
         if 0 ≤ v_z823 ∧ (v_z823).toNat < v_z824.length then
          (v_z824[(v_z823).toNat]?).bind fun (v_y827 : Int) =>
          if 0 ≤ v_z808 ∧ (v_z808).toNat < v_z824.length then
           (v_z824[(v_z808).toNat]?).bind fun (v_y828 : Int) =>
           if 0 ≤ v_z808 ∧ (v_z808).toNat < v_z824.length then
            (v_z824[(v_z808).toNat]?).bind fun (v_y829 : Int) =>
            if 0 ≤ v_z823 ∧ (v_z823).toNat < (v_z824.set (v_z808).toNat v_y827).length then
             ((v_z824.set (v_z808).toNat v_y827)[(v_z823).toNat]?).bind fun (v_y830 : Int) =>
             G_slices_partitionEqualOrdered_int_h_L3 n v_a785 k (wi .i64 (v_z808 + 1)) (wi .i64 (v_z823 - 1)) ((v_z824.set (v_z808).toNat v_y827).set (v_z823).toNat v_y828)
            else none
           else none
          else none
         else none
theorem G_slices_partitionEqualOrdered_int_h_L3_ok {Fi : Ex → PS → Prop} (hF : KC 84 Fi) (ks : List Fr) (n : Nat) (v_a785 : Int)  : ∀ (k : Nat) (v_i792 : Int) (v_j793 : Int) (v_w794 : (List Int)) (o : G_slices_partitionEqualOrdered_int_h_L3_R), G_slices_partitionEqualOrdered_int_h_L3 n v_a785 k v_i792 v_j793 v_w794 = some o → RunE Try.prog 84 Fi ks (G_slices_partitionEqualOrdered_int_h_L3_ex o) (G_slices_partitionEqualOrdered_int_h_L3_st v_a785 o) → RunE Try.prog 84 Fi (.l k (cP (cB (cL (cR (cR (cR (bodyOf Try.f182))))))) :: ks) .normal (G_slices_partitionEqualOrdered_int_h_L3_hd v_a785 v_i792 v_j793 v_w794)
  | 0, v_i792, v_j793, v_w794, o, h, q => by rw [G_slices_partitionEqualOrdered_int_h_L3] at h; cases h
  | k + 1, v_i792, v_j793, v_w794, o, h, q => by
    rw [G_slices_partitionEqualOrdered_int_h_L3] at h
    obtain ⟨v_o807, h988, h⟩ := bind_some h
    refine pkk_sound TTok mix hF 5 (hs := [.n n]) (ts := []) (s := [0, 1]) (l := [0, 1, 9, 10]) (by kernel_rfl) (by kernel_rfl) .nil (G_slices_partitionEqualOrdered_int_h_L1_ok hF (.b 2 :: .s (cR (cB (cP (cB (cL (cR (cR (cR (bodyOf Try.f182))))))))) :: .b 1 :: .l k (cP (cB (cL (cR (cR (cR (bodyOf Try.f182))))))) :: ks) n v_a785 v_j793 n v_i792 v_w794 _ h988 ?_)
    cases v_o807 with
    | x0 v_z808 v_z809 =>
      try dsimp only at h
      obtain ⟨v_o822, h1002, h⟩ := bind_some h
      refine pkk_sound TTok mix hF 4 (hs := [.n n]) (ts := []) (s := [0, 1]) (l := [0, 1, 9, 10]) (by kernel_rfl) (by kernel_rfl) .nil (G_slices_partitionEqualOrdered_int_h_L2_ok hF (.b 4 :: .s (cR (cR (cB (cP (cB (cL (cR (cR (cR (bodyOf Try.f182)))))))))) :: .b 1 :: .l k (cP (cB (cL (cR (cR (cR (bodyOf Try.f182))))))) :: ks) n v_a785 v_z808 n v_j793 v_z809 _ h1002 ?_)
      cases v_o822 with
      | x0 v_z823 v_z824 =>
        try dsimp only at h
        by_cases h1003 : v_z808 > v_z823
        · rw [if_pos h1003] at h
          cases h
          exact pkk_sound TTok mix hF 9 (hs := [.t true]) (ts := []) (s := [0, 1]) (l := [9]) (by kernel_rfl) (by kernel_rfl) (.cons (dt h1003) .nil) q
        · rw [if_neg h1003] at h
          by_cases h1004 : 0 ≤ v_z823 ∧ (v_z823).toNat < v_z824.length
          · rw [if_pos h1004] at h
            obtain ⟨v_y827, h1005, h⟩ := bind_some h
            by_cases h1006 : 0 ≤ v_z808 ∧ (v_z808).toNat < v_z824.length
            · rw [if_pos h1006] at h
              obtain ⟨v_y828, h1007, h⟩ := bind_some h
              by_cases h1008 : 0 ≤ v_z808 ∧ (v_z808).toNat < v_z824.length
              · rw [if_pos h1008] at h
                obtain ⟨v_y829, h1009, h⟩ := bind_some h
                by_cases h1010 : 0 ≤ v_z823 ∧ (v_z823).toNat < (v_z824.set (v_z808).toNat v_y827).length
                · rw [if_pos h1010] at h
                  obtain ⟨v_y830, h1011, h⟩ := bind_some h
                  exact pkk_sound TTok mix hF 12 (hs := [.t false, .y ((eI .i64) v_y827), .y ((eI .i64) v_y828), .w ((v_z824.set (v_z808).toNat v_y827).map (eI .i64)), .y ((eI .i64) v_y829), .w (((v_z824.set (v_z808).toNat v_y827).set (v_z823).toNat v_y828).map (eI .i64)), .y ((eI .i64) v_y830)]) (ts := []) (s := [0, 1]) (l := [0, 1, 9, 10]) (by kernel_rfl) (by kernel_rfl) (.cons (df h1003) (.cons (idx_ob (f := (eI .i64)) h1004) (.cons (get_ob (f := (eI .i64)) h1005) (.cons (idx_ob (f := (eI .i64)) h1006) (.cons (get_ob (f := (eI .i64)) h1007) (.cons (idx_ob (f := (eI .i64)) h1008) (.cons (get_ob (f := (eI .i64)) h1009) (.cons (Eq.refl (pcells (.v (.int .i64 v_y827)))) (.cons (set_ob (f := (eI .i64)) (l := v_z824) (k := (v_z808).toNat) (z := v_y827) (p := .v (.int .i64 v_y827)) rfl) (.cons (idx_ob (f := (eI .i64)) h1010) (.cons (get_ob (f := (eI .i64)) h1011) (.cons (Eq.refl (pcells (.v (.int .i64 v_y828)))) (.cons (set_ob (f := (eI .i64)) (l := (v_z824.set (v_z808).toNat v_y827)) (k := (v_z823).toNat) (z := v_y828) (p := .v (.int .i64 v_y828)) rfl) .nil))))))))))))) (G_slices_partitionEqualOrdered_int_h_L3_ok hF ks n v_a785 k (wi .i64 (v_z808 + 1)) (wi .i64 (v_z823 - 1)) ((v_z824.set (v_z808).toNat v_y827).set (v_z823).toNat v_y828) _ h q)
                · rw [if_neg h1010] at h; cases h
              · rw [if_neg h1008] at h; cases h
            · rw [if_neg h1006] at h; cases h
          · rw [if_neg h1004] at h; cases h
/- slices.partitionEqualOrdered[int] -/
def G_slices_partitionEqualOrdered_int_h (n : Nat) (v_data784 : (List Int)) (v_a785 : Int) (v_b786 : Int) (v_pivot787 : Int) : Option (Int × (List Int)) :=
  if 0 ≤ v_pivot787 ∧ (v_pivot787).toNat < v_data784.length then
   (v_data784[(v_pivot787).toNat]?).bind fun (v_y788 : Int) =>
   if 0 ≤ v_a785 ∧ (v_a785).toNat < v_data784.length then
    (v_data784[(v_a785).toNat]?).bind fun (v_y789 : Int) =>
    if 0 ≤ v_a785 ∧ (v_a785).toNat < v_data784.length then
     (v_data784[(v_a785).toNat]?).bind fun (v_y790 : Int) =>
     if 0 ≤ v_pivot787 ∧ (v_pivot787).toNat < (v_data784.set (v_a785).toNat v_y788).length then
      ((v_data784.set (v_a785).toNat v_y788)[(v_pivot787).toNat]?).bind fun (v_y791 : Int) =>
      (G_slices_partitionEqualOrdered_int_h_L3 n v_a785 n (wi .i64 (v_a785 + 1)) (wi .i64 (v_b786 - 1)) ((v_data784.set (v_a785).toNat v_y788).set (v_pivot787).toNat v_y789)).bind fun v_o831 => match v_o831 with
      | .x0 v_z832 v_z833 =>
        some (v_z832, v_z833)
     else none
    else none
   else none
  else none
theorem G_slices_partitionEqualOrdered_int_h_ok (n : Nat) (v_data784 : (List Int)) (v_a785 : Int) (v_b786 : Int) (v_pivot787 : Int) (r : Int × (List Int)) (h : G_slices_partitionEqualOrdered_int_h n v_data784 v_a785 v_b786 v_pivot787 = some r) : RetH Try.prog 182 [.srf 0, .d ((eI .i64) v_a785), .d ((eI .i64) v_b786), .d ((eI .i64) v_pivot787)] [.row 3 1 (v_data784.map (eI .i64))] (.d ((eI .i64) r.1)) [.row 3 1 (r.2.map (eI .i64))] := by
  refine retH_run (n := 84) (fn := Try.f182) (c := bodyOf Try.f182) (by kernel_rfl) (by kernel_rfl) (by kernel_rfl) (by kernel_rfl) ?_
  have hF : KC 84 (FinH Try.prog Try.f182 [.row 3 1 (v_data784.map (eI .i64))] (.d ((eI .i64) r.1)) [.row 3 1 (r.2.map (eI .i64))]) := FinH.kc' (by kernel_rfl)
  unfold G_slices_partitionEqualOrdered_int_h at h
  by_cases h967 : 0 ≤ v_pivot787 ∧ (v_pivot787).toNat < v_data784.length
  · rw [if_pos h967] at h
    obtain ⟨v_y788, h968, h⟩ := bind_some h
    by_cases h969 : 0 ≤ v_a785 ∧ (v_a785).toNat < v_data784.length
    · rw [if_pos h969] at h
      obtain ⟨v_y789, h970, h⟩ := bind_some h
      by_cases h971 : 0 ≤ v_a785 ∧ (v_a785).toNat < v_data784.length
      · rw [if_pos h971] at h
        obtain ⟨v_y790, h972, h⟩ := bind_some h
        by_cases h973 : 0 ≤ v_pivot787 ∧ (v_pivot787).toNat < (v_data784.set (v_a785).toNat v_y788).length
        · rw [if_pos h973] at h
          obtain ⟨v_y791, h974, h⟩ := bind_some h
          obtain ⟨v_o831, h1012, h⟩ := bind_some h
          refine pkk_sound TTok mix hF 9 (hs := [.y ((eI .i64) v_y788), .y ((eI .i64) v_y789), .w ((v_data784.set (v_a785).toNat v_y788).map (eI .i64)), .y ((eI .i64) v_y790), .w (((v_data784.set (v_a785).toNat v_y788).set (v_pivot787).toNat v_y789).map (eI .i64)), .y ((eI .i64) v_y791), .n n]) (ts := []) (s := [1, 0]) (l := [0, 1, 9, 10]) (by kernel_rfl) (by kernel_rfl) (.cons (idx_ob (f := (eI .i64)) h967) (.cons (get_ob (f := (eI .i64)) h968) (.cons (idx_ob (f := (eI .i64)) h969) (.cons (get_ob (f := (eI .i64)) h970) (.cons (idx_ob (f := (eI .i64)) h971) (.cons (get_ob (f := (eI .i64)) h972) (.cons (Eq.refl (pcells (.v (.int .i64 v_y788)))) (.cons (set_ob (f := (eI .i64)) (l := v_data784) (k := (v_a785).toNat) (z := v_y788) (p := .v (.int .i64 v_y788)) rfl) (.cons (idx_ob (f := (eI .i64)) h973) (.cons (get_ob (f := (eI .i64)) h974) (.cons (Eq.refl (pcells (.v (.int .i64 v_y789)))) (.cons (set_ob (f := (eI .i64)) (l := (v_data784.set (v_a785).toNat v_y788)) (k := (v_pivot787).toNat) (z := v_y789) (p := .v (.int .i64 v_y789)) rfl) .nil)))))))))))) (G_slices_partitionEqualOrdered_int_h_L3_ok hF (.b 0 :: .s (cR (cR (cR (cR (bodyOf Try.f182))))) :: []) n v_a785 n (wi .i64 (v_a785 + 1)) (wi .i64 (v_b786 - 1)) ((v_data784.set (v_a785).toNat v_y788).set (v_pivot787).toNat v_y789) _ h1012 ?_)
          cases v_o831 with
          | x0 v_z832 v_z833 =>
            try dsimp only at h
            obtain rfl := Option.some.inj h
            exact pendH_sound TTok mix 4 (hs := []) [1] (by kernel_rfl) (by kernel_rfl) (by kernel_rfl) .nil
        · rw [if_neg h973] at h; cases h
      · rw [if_neg h971] at h; cases h
    · rw [if_neg h969] at h; cases h
  · rw [if_neg h967] at h; cases h
inductive G_slices_partitionOrdered_int_h_L1_R where
  | x0 (v_i852 : Int) (v_w853 : (List Int))
def G_slices_partitionOrdered_int_h_L1_ex : G_slices_partitionOrdered_int_h_L1_R → Ex
  | .x0 _ _ => .exit 0
def G_slices_partitionOrdered_int_h_L1_st (v_a837 : Int) (v_b838 : Int) : G_slices_partitionOrdered_int_h_L1_R → PS
  | .x0 v_i852 v_w853 => ⟨[.srf 1, .d (.v (.int .i64 v_a837)), dd, dd, dd, dd, dd, dd, dd, dd, .d (.v (.int .i64 v_i852)), .d (.v (.int .i64 (wi .i64 (v_b838 - 1)))), dd, dd, dd, dd, dd, dd, dd, dd, dd, dd, dd, dd, dd, dd, dd, dd, dd, dd, dd, dd, dd, dd, dd, dd, dd, dd, dd, dd, dd, dd, dd, dd, dd, dd, dd, dd, dd, dd, dd, dd, dd, dd, dd, dd, dd, dd, dd, dd, dd, dd, dd, dd, dd, dd, dd, dd, dd, dd, dd, dd, dd, dd, dd, dd, dd, dd, dd, dd, dd, dd, dd, dd, dd, dd, dd, dd, dd, dd, dd, dd, dd, dd, dd, dd, dd, dd, dd, dd, dd, dd, dd, dd, dd, dd, dd, dd, dd, dd, dd, dd, dd, dd, dd, dd, dd, dd, dd, dd, dd, dd, dd, dd, dd, dd, dd, dd, dd, dd, dd, dd, dd, dd, dd, dd, dd, dd, dd, dd, dd, dd, dd, dd, dd, dd, dd, dd, dd, dd, dd, dd, dd, dd, dd, dd, dd, dd, dd, dd, dd, dd, dd, dd, dd, dd, dd, dd], [.gh 0 (.srf 1), .row 3 1 (v_w853.map (eI .i64))]⟩
def G_slices_partitionOrdered_int_h_L1_hd (v_a837 : Int) (v_b838 : Int) (v_i844 : Int) (v_w845 : (List Int)) : PS := ⟨[.srf 1, .d (.v (.int .i64 v_a837)), dd, dd, dd, dd, dd, dd, dd, dd, .d (.v (.int .i64 v_i844)), .d (.v (.int .i64 (wi .i64 (v_b838 - 1)))), dd, dd, dd, dd, dd, dd, dd, dd, dd, dd, dd, dd, dd, dd, dd, dd, dd, dd, dd, dd, dd, dd, dd, dd, dd, dd, dd, dd, dd, dd, dd, dd, dd, dd, dd, dd, dd, dd, dd, dd, dd, dd, dd, dd, dd, dd, dd, dd, dd, dd, dd, dd, dd, dd, dd, dd, dd, dd, dd, dd, dd, dd, dd, dd, dd, dd, dd, dd, dd, dd, dd, dd, dd, dd, dd, dd, dd, dd, dd, dd, dd, dd, dd, dd, dd, dd, dd, dd, dd, dd, dd, dd, dd, dd, dd, dd, dd, dd, dd, dd, dd, dd, dd, dd, dd, dd, dd, dd, dd, dd, dd, dd, dd, dd, dd, dd, dd, dd, dd, dd, dd, dd, dd, dd, dd, dd, dd, dd, dd, dd, dd, dd, dd, dd, dd, dd, dd, dd, dd, dd, dd, dd, dd, dd, dd, dd, dd, dd, dd, dd, dd, dd, dd, dd, dd, dd], [.gh 0 (.srf 1), .row 3 1 (v_w845.map (eI .i64))]⟩
def G_slices_partitionOrdered_int_h_L1 (n : Nat) (v_a837 : Int) (v_b838 : Int) : Nat → Int → (List Int) → Option G_slices_partitionOrdered_int_h_L1_R
  | 0, _, _ => none
  | k + 1, v_i844, v_w845 =>
    if v_i844 ≤ (wi .i64 (v_b838 - 1)) then
     if 0 ≤ v_i844 ∧ (v_i844).toNat < v_w845.length then
      (v_w845[(v_i844).toNat]?).bind fun (v_y849 : Int) =>
      if 0 ≤ v_a837 ∧ (v_a837).toNat < v_w845.length then
       (v_w845[(v_a837).toNat]?).bind fun (v_y850 : Int) =>
       (G_cmp_Less_int n v_y849 v_y850).bind fun (v_r851 : (Bool)) =>
       if v_r851 = true then
        G_slices_partitionOrdered_int_h_L1 n v_a837 v_b838 k (wi .i64 (v_i844 + 1)) v_w845
       else
        some (.x0 v_i844 v_w845)
      else none
     else none
    else
     some (.x0 v_i844 v_w845)
theorem G_slices_partitionOrdered_int_h_L1_ok {Fi : Ex → PS → Prop} (hF : KC 168 Fi) (ks : List Fr) (n : Nat) (v_a837 : Int) (v_b838 : Int)  : ∀ (k : Nat) (v_i844 : Int) (v_w845 : (List Int)) (o : G_slices_partitionOrdered_int_h_L1_R), G_slices_partitionOrdered_int_h_L1 n v_a837 v_b838 k v_i844 v_w845 = some o → RunE Try.prog 168 Fi ks (G_slices_partitionOrdered_int_h_L1_ex o) (G_slices_partitionOrdered_int_h_L1_st v_a837 v_b838 o) → RunE Try.prog 168 Fi (.l k (cP (cB (cL (cR (cR (cR (bodyOf Try.f183))))))) :: ks) .normal (G_slices_partitionOrdered_int_h_L1_hd v_a837 v_b838 v_i844 v_w845)
  | 0, v_i844, v_w845, o, h, q => by rw [G_slices_partitionOrdered_int_h_L1] at h; cases h
  | k + 1, v_i844, v_w845, o, h, q => by
    rw [G_slices_partitionOrdered_int_h_L1] at h
    by_cases h1030 : v_i844 ≤ (wi .i64 (v_b838 - 1))
    · rw [if_pos h1030] at h
      by_cases h1031 : 0 ≤ v_i844 ∧ (v_i844).toNat < v_w845.length
      · rw [if_pos h1031] at h
        obtain ⟨v_y849, h1032, h⟩ := bind_some h
        by_cases h1033 : 0 ≤ v_a837 ∧ (v_a837).toNat < v_w845.length
        · rw [if_pos h1033] at h
          obtain ⟨v_y850, h1034, h⟩ := bind_some h
          obtain ⟨v_r851, h1035, h⟩ := bind_some h
          by_cases h1036 : v_r851 = true
          · rw [if_pos h1036] at h
            exact pkk_sound TTok mix hF 9 (hs := [.t true, .c, .c, .c, .y ((eI .i64) v_y849), .c, .c, .c, .c, .y ((eI .i64) v_y850), .c, .r (eB v_r851), .t true]) (ts := []) (s := [0, 1]) (l := [0, 1, 10, 11]) (by kernel_rfl) (by kernel_rfl) (.cons (dt h1030) (.cons (idx_ob (f := (eI .i64)) h1031) (.cons (get_ob (f := (eI .i64)) h1032) (.cons (idx_ob (f := (eI .i64)) h1033) (.cons (get_ob (f := (eI .i64)) h1034) (.cons (G_cmp_Less_int_ok n v_y849 v_y850 _ h1035) (.cons h1036 .nil))))))) (G_slices_partitionOrdered_int_h_L1_ok hF ks n v_a837 v_b838 k (wi .i64 (v_i844 + 1)) v_w845 _ h q)
          · rw [if_neg h1036] at h
            cases h
            exact pkk_sound TTok mix hF 8 (hs := [.t true, .c, .c, .c, .y ((eI .i64) v_y849), .c, .c, .c, .c, .y ((eI .i64) v_y850), .c, .r (eB v_r851), .t false]) (ts := []) (s := [0, 1]) (l := [0, 1, 10, 11]) (by kernel_rfl) (by kernel_rfl) (.cons (dt h1030) (.cons (idx_ob (f := (eI .i64)) h1031) (.cons (get_ob (f := (eI .i64)) h1032) (.cons (idx_ob (f := (eI .i64)) h1033) (.cons (get_ob (f := (eI .i64)) h1034) (.cons (G_cmp_Less_int_ok n v_y849 v_y850 _ h1035) (.cons (vf h1036) .nil))))))) q
        · rw [if_neg h1033] at h; cases h
      · rw [if_neg h1031] at h; cases h
    · rw [if_neg h1030] at h
      cases h
      exact pkk_sound TTok mix hF 8 (hs := [.t false, .c, .c, .c, .c, .c, .c, .c, .c, .c]) (ts := []) (s := [0, 1]) (l := [0, 1, 10, 11]) (by kernel_rfl) (by kernel_rfl) (.cons (df h1030) .nil) q
inductive G_slices_partitionOrdered_int_h_L2_R where
  | x0 (v_j867 : Int) (v_w868 : (List Int))
def G_slices_partitionOrdered_int_h_L2_ex : G_slices_partitionOrdered_int_h_L2_R → Ex
  | .x0 _ _ => .exit 2
def G_slices_partitionOrdered_int_h_L2_st (v_a837 : Int) (v_z857 : Int) : G_slices_partitionOrdered_int_h_L2_R → PS
  | .x0 v_j867 v_w868 => ⟨[.srf 1, .d (.v (.int .i64 v_a837)), dd, dd, dd, dd, dd, dd, dd, dd, .d (.v (.int .i64 v_z857)), .d (.v (.int .i64 v_j867)), dd, dd, dd, dd, dd, dd, dd, dd, dd, dd, dd, dd, dd, dd, dd, dd, dd, dd, dd, dd, dd, dd, dd, dd, dd, dd, dd, dd, dd, dd, dd, dd, dd, dd, dd, dd, dd, dd, dd, dd, dd, dd, dd, dd, dd, dd, dd, dd, dd, dd, dd, dd, dd, dd, dd, dd, dd, dd, dd, dd, dd, dd, dd, dd, dd, dd, dd, dd, dd, dd, dd, dd, dd, dd, dd, dd, dd, dd, dd, dd, dd, dd, dd, dd, dd, dd, dd, dd, dd, dd, dd, dd, dd, dd, dd, dd, dd, dd, dd, dd, dd, dd, dd, dd, dd, dd, dd, dd, dd, dd, dd, dd, dd, dd, dd, dd, dd, dd, dd, dd, dd, dd, dd, dd, dd, dd, dd, dd, dd, dd, dd, dd, dd, dd, dd, dd, dd, dd, dd, dd, dd, dd, dd, dd, dd, dd, dd, dd, dd, dd, dd, dd, dd, dd, dd, dd], [.gh 0 (.srf 1), .row 3 1 (v_w868.map (eI .i64))]⟩
def G_slices_partitionOrdered_int_h_L2_hd (v_a837 : Int) (v_z857 : Int) (v_j859 : Int) (v_w860 : (List Int)) : PS := ⟨[.srf 1, .d (.v (.int .i64 v_a837)), dd, dd, dd, dd, dd, dd, dd, dd, .d (.v (.int .i64 v_z857)), .d (.v (.int .i64 v_j859)), dd, dd, dd, dd, dd, dd, dd, dd, dd, dd, dd, dd, dd, dd, dd, dd, dd, dd, dd, dd, dd, dd, dd, dd, dd, dd, dd, dd, dd, dd, dd, dd, dd, dd, dd, dd, dd, dd, dd, dd, dd, dd, dd, dd, dd, dd, dd, dd, dd, dd, dd, dd, dd, dd, dd, dd, dd, dd, dd, dd, dd, dd, dd, dd, dd, dd, dd, dd, dd, dd, dd, dd, dd, dd, dd, dd, dd, dd, dd, dd, dd, dd, dd, dd, dd, dd, dd, dd, dd, dd, dd, dd, dd, dd, dd, dd, dd, dd, dd, dd, dd, dd, dd, dd, dd, dd, dd, dd, dd, dd, dd, dd, dd, dd, dd, dd, dd, dd, dd, dd, dd, dd, dd, dd, dd, dd, dd, dd, dd, dd, dd, dd, dd, dd, dd, dd, dd, dd, dd, dd, dd, dd, dd, dd, dd, dd, dd, dd, dd, dd, dd, dd, dd, dd, dd, dd], [.gh 0 (.srf 1), .row 3 1 (v_w860.map (eI .i64))]⟩
def G_slices_partitionOrdered_int_h_L2 (n : Nat) (v_a837 : Int) (v_z857 : Int) : Nat → Int → (List Int) → Option G_slices_partitionOrdered_int_h_L2_R
  | 0, _, _ => none
  | k + 1, v_j859, v_w860 =>
    if v_z857 ≤ v_j859 then
     if 0 ≤ v_j859 ∧ (v_j859).toNat < v_w860.length then
      (v_w860[(v_j859).toNat]?).bind fun (v_y864 : Int) =>
      if 0 ≤ v_a837 ∧ (v_a837).toNat < v_w860.length then
       (v_w860[(v_a837).toNat]?).bind fun (v_y865 : Int) =>
       (G_cmp_Less_int n v_y864 v_y865).bind fun (v_r866 : (Bool)) =>
       if v_r866 = true then
        some (.x0 v_j859 v_w860)
       else
        G_slices_partitionOrdered_int_h_L2 n v_a837 v_z857 k (wi .i64 (v_j859 - 1)) v_w860
      else none
     else none
    else
     some (.x0 v_j859 v_w860)
theorem G_slices_partitionOrdered_int_h_L2_ok {Fi : Ex → PS → Prop} (hF : KC 168 Fi) (ks : List Fr) (n : Nat) (v_a837 : Int) (v_z857 : Int)  : ∀ (k : Nat) (v_j859 : Int) (v_w860 : (List Int)) (o : G_slices_partitionOrdered_int_h_L2_R), G_slices_partitionOrdered_int_h_L2 n v_a837 v_z857 k v_j859 v_w860 = some o → RunE Try.prog 168 Fi ks (G_slices_partitionOrdered_int_h_L2_ex o) (G_slices_partitionOrdered_int_h_L2_st v_a837 v_z857 o) → RunE Try.prog 168 Fi (.l k (cP (cB (cL (cR (cR (cR (cR (bodyOf Try.f183)))))))) :: ks) .normal (G_slices_partitionOrdered_int_h_L2_hd v_a837 v_z857 v_j859 v_w860)
  | 0, v_j859, v_w860, o, h, q => by rw [G_slices_partitionOrdered_int_h_L2] at h; cases h
  | k + 1, v_j859, v_w860, o, h, q => by
    rw [G_slices_partitionOrdered_int_h_L2] at h
    by_cases h1044 : v_z857 ≤ v_j859
    · rw [if_pos h1044] at h
      by_cases h1045 : 0 ≤ v_j859 ∧ (v_j859).toNat < v_w860.length
      · rw [if_pos h1045] at h
        obtain ⟨v_y864, h1046, h⟩ := bind_some h
        by_cases h1047 : 0 ≤ v_a837 ∧ (v_a837).toNat < v_w860.length
        · rw [if_pos h1047] at h
          obtain ⟨v_y865, h1048, h⟩ := bind_some h
          obtain ⟨v_r866, h1049, h⟩ := bind_some h
          by_cases h1050 : v_r866 = true
          · rw [if_pos h1050] at h
            cases h
            exact pkk_sound TTok mix hF 8 (hs := [.t true, .c, .c, .c, .y ((eI .i64) v_y864), .c, .c, .c, .c, .y ((eI .i64) v_y865), .c, .r (eB v_r866), .c, .t false]) (ts := []) (s := [0, 1]) (l := [0, 1, 10, 11]) (by kernel_rfl) (by kernel_rfl) (.cons (dt h1044) (.cons (idx_ob (f := (eI .i64)) h1045) (.cons (get_ob (f := (eI .i64)) h1046) (.cons (idx_ob (f := (eI .i64)) h1047) (.cons (get_ob (f := (eI .i64)) h1048) (.cons (G_cmp_Less_int_ok n v_y864 v_y865 _ h1049) (.cons (bnf h1050) .nil))))))) q
          · rw [if_neg h1050] at h
            exact pkk_sound TTok mix hF 9 (hs := [.t true, .c, .c, .c, .y ((eI .i64) v_y864), .c, .c, .c, .c, .y ((eI .i64) v_y865), .c, .r (eB v_r866), .c, .t true]) (ts := []) (s := [0, 1]) (l := [0, 1, 10, 11]) (by kernel_rfl) (by kernel_rfl) (.cons (dt h1044) (.cons (idx_ob (f := (eI .i64)) h1045) (.cons (get_ob (f := (eI .i64)) h1046) (.cons (idx_ob (f := (eI .i64)) h1047) (.cons (get_ob (f := (eI .i64)) h1048) (.cons (G_cmp_Less_int_ok n v_y864 v_y865 _ h1049) (.cons (bnt (vf h1050)) .nil))))))) (G_slices_partitionOrdered_int_h_L2_ok hF ks n v_a837 v_z857 k (wi .i64 (v_j859 - 1)) v_w860 _ h q)
        · rw [if_neg h1047] at h; cases h
      · rw [if_neg h1045] at h; cases h
    · rw [if_neg h1044] at h
      cases h
      exact pkk_sound TTok mix hF 8 (hs := [.t false, .c, .c, .c, .c, .c, .c, .c, .c, .c, .c]) (ts := []) (s := [0, 1]) (l := [0, 1, 10, 11]) (by kernel_rfl) (by kernel_rfl) (.cons (df h1044) .nil) q
inductive G_slices_partitionOrdered_int_h_L3_R where
  | x0 (v_i897 : Int) (v_w898 : (List Int))
def G_slices_partitionOrdered_int_h_L3_ex : G_slices_partitionOrdered_int_h_L3_R → Ex
  | .x0 _ _ => .exit 6
def G_slices_partitionOrdered_int_h_L3_st (v_a837 : Int) (v_j887 : Int) : G_slices_partitionOrdered_int_h_L3_R → PS
  | .x0 v_i897 v_w898 => ⟨[.srf 1, .d (.v (.int .i64 v_a837)), dd, dd, dd, dd, dd, dd, dd, dd, .d (.v (.int .i64 v_i897)), .d (.v (.int .i64 v_j887)), dd, dd, dd, dd, dd, dd, dd, dd, dd, dd, dd, dd, dd, dd, dd, dd, dd, dd, dd, dd, dd, dd, dd, dd, dd, dd, dd, dd, dd, dd, dd, dd, dd, dd, dd, dd, dd, dd, dd, dd, dd, dd, dd, dd, dd, dd, dd, dd, dd, dd, dd, dd, dd, dd, dd, dd, dd, dd, dd, dd, dd, dd, dd, dd, dd, dd, dd, dd, dd, dd, dd, dd, dd, dd, dd, dd, dd, dd, dd, dd, dd, dd, dd, dd, dd, dd, dd, dd, dd, dd, dd, dd, dd, dd, dd, dd, dd, dd, dd, dd, dd, dd, dd, dd, dd, dd, dd, dd, dd, dd, dd, dd, dd, dd, dd, dd, dd, dd, dd, dd, dd, dd, dd, dd, dd, dd, dd, dd, dd, dd, dd, dd, dd, dd, dd, dd, dd, dd, dd, dd, dd, dd, dd, dd, dd, dd, dd, dd, dd, dd, dd, dd, dd, dd, dd, dd], [.gh 0 (.srf 1), .row 3 1 (v_w898.map (eI .i64))]⟩
def G_slices_partitionOrdered_int_h_L3_hd (v_a837 : Int) (v_j887 : Int) (v_i889 : Int) (v_w890 : (List Int)) : PS := ⟨[.srf 1, .d (.v (.int .i64 v_a837)), dd, dd, dd, dd, dd, dd, dd, dd, .d (.v (.int .i64 v_i889)), .d (.v (.int .i64 v_j887)), dd, dd, dd, dd, dd, dd, dd, dd, dd, dd, dd, dd, dd, dd, dd, dd, dd, dd, dd, dd, dd, dd, dd, dd, dd, dd, dd, dd, dd, dd, dd, dd, dd, dd, dd, dd, dd, dd, dd, dd, dd, dd, dd, dd, dd, dd, dd, dd, dd, dd, dd, dd, dd, dd, dd, dd, dd, dd, dd, dd, dd, dd, dd, dd, dd, dd, dd, dd, dd, dd, dd, dd, dd, dd, dd, dd, dd, dd, dd, dd, dd, dd, dd, dd, dd, dd, dd, dd, dd, dd, dd, dd, dd, dd, dd, dd, dd, dd, dd, dd, dd, dd, dd, dd, dd, dd, dd, dd, dd, dd, dd, dd, dd, dd, dd, dd, dd, dd, dd, dd, dd, dd, dd, dd, dd, dd, dd, dd, dd, dd, dd, dd, dd, dd, dd, dd, dd, dd, dd, dd, dd, dd, dd, dd, dd, dd, dd, dd, dd, dd, dd, dd, dd, dd, dd, dd], [.gh 0 (.srf 1), .row 3 1 (v_w890.map (eI .i64))]⟩
def G_slices_partitionOrdered_int_h_L3 (n : Nat) (v_a837 : Int) (v_j887 : Int) : Nat → Int → (List Int) → Option G_slices_partitionOrdered_int_h_L3_R
  | 0, _, _ => none
  | k + 1, v_i889, v_w890 =>
    if v_i889 ≤ v_j887 then
     if 0 ≤ v_i889 ∧ (v_i889).toNat < v_w890.length then
      (v_w890[(v_i889).toNat]?).bind fun (v_y894 : Int) =>
      if 0 ≤ v_a837 ∧ (v_a837).toNat < v_w890.length then
       (v_w890[(v_a837).toNat]?).bind fun (v_y895 : Int) =>
       (G_cmp_Less_int n v_y894 v_y895).bind fun (v_r896 : (Bool)) =>
       if v_r896 = true then
        G_slices_partitionOrdered_int_h_L3 n v_a837 v_j887 k (wi .i64 (v_i889 + 1)) v_w890
       else
        some (.x0 v_i889 v_w890)
      else none
     else none
    else
     some (.x0 v_i889 v_w890)
theorem G_slices_partitionOrdered_int_h_L3_ok {Fi : Ex → PS → Prop} (hF : KC 168 Fi) (ks : List Fr) (n : Nat) (v_a837 : Int) (v_j887 : Int)  : ∀ (k : Nat) (v_i889 : Int) (v_w890 : (List Int)) (o : G_slices_partitionOrdered_int_h_L3_R), G_slices_partitionOrdered_int_h_L3 n v_a837 v_j887 k v_i889 v_w890 = some o → RunE Try.prog 168 Fi ks (G_slices_partitionOrdered_int_h_L3_ex o) (G_slices_partitionOrdered_int_h_L3_st v_a837 v_j887 o) → RunE Try.prog 168 Fi (.l k (cP (cB (cL (cB (cP (cB (cL (cR (cR (cR (cR (cR (cR (cR (cR (cR (bodyOf Try.f183))))))))))))))))) :: ks) .normal (G_slices_partitionOrdered_int_h_L3_hd v_a837 v_j887 v_i889 v_w890)
  | 0, v_i889, v_w890, o, h, q => by rw [G_slices_partitionOrdered_int_h_L3] at h; cases h
  | k + 1, v_i889, v_w890, o, h, q => by
    rw [G_slices_partitionOrdered_int_h_L3] at h
    by_cases h1084 : v_i889 ≤ v_j887
    · rw [if_pos h1084] at h
      by_cases h1085 : 0 ≤ v_i889 ∧ (v_i889).toNat < v_w890.length
      · rw [if_pos h1085] at h
        obtain ⟨v_y894, h1086, h⟩ := bind_some h
        by_cases h1087 : 0 ≤ v_a837 ∧ (v_a837).toNat < v_w890.length
        · rw [if_pos h1087] at h
          obtain ⟨v_y895, h1088, h⟩ := bind_some h
          obtain ⟨v_r896, h1089, h⟩ := bind_some h
          by_cases h1090 : v_r896 = true
          · rw [if_pos h1090] at h
            exact pkk_sound TTok mix hF 9 (hs := [.t true, .c, .c, .c, .y ((eI .i64) v_y894), .c, .c, .c, .c, .y ((eI .i64) v_y895), .c, .r (eB v_r896), .t true]) (ts := []) (s := [0, 1]) (l := [0, 1, 10, 11]) (by kernel_rfl) (by kernel_rfl) (.cons (dt h1084) (.cons (idx_ob (f := (eI .i64)) h1085) (.cons (get_ob (f := (eI .i64)) h1086) (.cons (idx_ob (f := (eI .i64)) h1087) (.cons (get_ob (f := (eI .i64)) h1088) (.cons (G_cmp_Less_int_ok n v_y894 v_y895 _ h1089) (.cons h1090 .nil))))))) (G_slices_partitionOrdered_int_h_L3_ok hF ks n v_a837 v_j887 k (wi .i64 (v_i889 + 1)) v_w890 _ h q)
          · rw [if_neg h1090] at h
            cases h
            exact pkk_sound TTok mix hF 8 (hs := [.t true, .c, .c, .c, .y ((eI .i64) v_y894), .c, .c, .c, .c, .y ((eI .i64) v_y895), .c, .r (eB v_r896), .t false]) (ts := []) (s := [0, 1]) (l := [0, 1, 10, 11]) (by kernel_rfl) (by kernel_rfl) (.cons (dt h1084) (.cons (idx_ob (f := (eI .i64)) h1085) (.cons (get_ob (f := (eI .i64)) h1086) (.cons (idx_ob (f := (eI .i64)) h1087) (.cons (get_ob (f := (eI .i64)) h1088) (.cons (G_cmp_Less_int_ok n v_y894 v_y895 _ h1089) (.cons (vf h1090) .nil))))))) q
        · rw [if_neg h1087] at h; cases h
      · rw [if_neg h1085] at h; cases h
    · rw [if_neg h1084] at h
      cases h
      exact pkk_sound TTok mix hF 8 (hs := [.t false, .c, .c, .c, .c, .c, .c, .c, .c, .c]) (ts := []) (s := [0, 1]) (l := [0, 1, 10, 11]) (by kernel_rfl) (by kernel_rfl) (.cons (df h1084) .nil) q
inductive G_slices_partitionOrdered_int_h_L4_R where
  | x0 (v_j912 : Int) (v_w913 : (List Int))
def G_slices_partitionOrdered_int_h_L4_ex : G_slices_partitionOrdered_int_h_L4_R → Ex
  | .x0 _ _ => .exit 8
def G_slices_partitionOrdered_int_h_L4_st (v_a837 : Int) (v_z902 : Int) : G_slices_partitionOrdered_int_h_L4_R → PS
  | .x0 v_j912 v_w913 => ⟨[.srf 1, .d (.v (.int .i64 v_a837)), dd, dd, dd, dd, dd, dd, dd, dd, .d (.v (.int .i64 v_z902)), .d (.v (.int .i64 v_j912)), dd, dd, dd, dd, dd, dd, dd, dd, dd, dd, dd, dd, dd, dd, dd, dd, dd, dd, dd, dd, dd, dd, dd, dd, dd, dd, dd, dd, dd, dd, dd, dd, dd, dd, dd, dd, dd, dd, dd, dd, dd, dd, dd, dd, dd, dd, dd, dd, dd, dd, dd, dd, dd, dd, dd, dd, dd, dd, dd, dd, dd, dd, dd, dd, dd, dd, dd, dd, dd, dd, dd, dd, dd, dd, dd, dd, dd, dd, dd, dd, dd, dd, dd, dd, dd, dd, dd, dd, dd, dd, dd, dd, dd, dd, dd, dd, dd, dd, dd, dd, dd, dd, dd, dd, dd, dd, dd, dd, dd, dd, dd, dd, dd, dd, dd, dd, dd, dd, dd, dd, dd, dd, dd, dd, dd, dd, dd, dd, dd, dd, dd, dd, dd, dd, dd, dd, dd, dd, dd, dd, dd, dd, dd, dd, dd, dd, dd, dd, dd, dd, dd, dd, dd, dd, dd, dd], [.gh 0 (.srf 1), .row 3 1 (v_w913.map (eI .i64))]⟩
def G_slices_partitionOrdered_int_h_L4_hd (v_a837 : Int) (v_z902 : Int) (v_j904 : Int) (v_w905 : (List Int)) : PS := ⟨[.srf 1, .d (.v (.int .i64 v_a837)), dd, dd, dd, dd, dd, dd, dd, dd, .d (.v (.int .i64 v_z902)), .d (.v (.int .i64 v_j904)), dd, dd, dd, dd, dd, dd, dd, dd, dd, dd, dd, dd, dd, dd, dd, dd, dd, dd, dd, dd, dd, dd, dd, dd, dd, dd, dd, dd, dd, dd, dd, dd, dd, dd, dd, dd, dd, dd, dd, dd, dd, dd, dd, dd, dd, dd, dd, dd, dd, dd, dd, dd, dd, dd, dd, dd, dd, dd, dd, dd, dd, dd, dd, dd, dd, dd, dd, dd, dd, dd, dd, dd, dd, dd, dd, dd, dd, dd, dd, dd, dd, dd, dd, dd, dd, dd, dd, dd, dd, dd, dd, dd, dd, dd, dd, dd, dd, dd, dd, dd, dd, dd, dd, dd, dd, dd, dd, dd, dd, dd, dd, dd, dd, dd, dd, dd, dd, dd, dd, dd, dd, dd, dd, dd, dd, dd, dd, dd, dd, dd, dd, dd, dd, dd, dd, dd, dd, dd, dd, dd, dd, dd, dd, dd, dd, dd, dd, dd, dd, dd, dd, dd, dd, dd, dd, dd], [.gh 0 (.srf 1), .row 3 1 (v_w905.map (eI .i64))]⟩
def G_slices_partitionOrdered_int_h_L4 (n : Nat) (v_a837 : Int) (v_z902 : Int) : Nat → Int → (List Int) → Option G_slices_partitionOrdered_int_h_L4_R
  | 0, _, _ => none
  | k + 1, v_j904, v_w905 =>
    if v_z902 ≤ v_j904 then
     if 0 ≤ v_j904 ∧ (v_j904).toNat < v_w905.length then
      (v_w905[(v_j904).toNat]?).bind fun (v_y909 : Int) =>
      if 0 ≤ v_a837 ∧ (v_a837).toNat < v_w905.length then
       (v_w905[(v_a837).toNat]?).bind fun (v_y910 : Int) =>
       (G_cmp_Less_int n v_y909 v_y910).bind fun (v_r911 : (Bool)) =>
       if v_r911 = true then
        some (.x0 v_j904 v_w905)
       else
        G_slices_partitionOrdered_int_h_L4 n v_a837 v_z902 k (wi .i64 (v_j904 - 1)) v_w905
      else none
     else none
    else
     some (.x0 v_j904 v_w905)
theorem G_slices_partitionOrdered_int_h_L4_ok {Fi : Ex → PS → Prop} (hF : KC 168 Fi) (ks : List Fr) (n : Nat) (v_a837 : Int) (v_z902 : Int)  : ∀ (k : Nat) (v_j904 : Int) (v_w905 : (List Int)) (o : G_slices_partitionOrdered_int_h_L4_R), G_slices_partitionOrdered_int_h_L4 n v_a837 v_z902 k v_j904 v_w905 = some o → RunE Try.prog 168 Fi ks (G_slices_partitionOrdered_int_h_L4_ex o) (G_slices_partitionOrdered_int_h_L4_st v_a837 v_z902 o) → RunE Try.prog 168 Fi (.l k (cP (cB (cL (cR (cB (cP (cB (cL (cR (cR (cR (cR (cR (cR (cR (cR (cR (bodyOf Try.f183)))))))))))))))))) :: ks) .normal (G_slices_partitionOrdered_int_h_L4_hd v_a837 v_z902 v_j904 v_w905)
  | 0, v_j904, v_w905, o, h, q => by rw [G_slices_partitionOrdered_int_h_L4] at h; cases h
  | k + 1, v_j904, v_w905, o, h, q => by
    rw [G_slices_partitionOrdered_int_h_L4] at h
    by_cases h1098 : v_z902 ≤ v_j904
    · rw [if_pos h1098] at h
      by_cases h1099 : 0 ≤ v_j904 ∧ (v_j904).toNat < v_w905.length
      · rw [if_pos h1099] at h
        obtain ⟨v_y909, h1100, h⟩ := bind_some h
        by_cases h1101 : 0 ≤ v_a837 ∧ (v_a837).toNat < v_w905.length
        · rw [if_pos h1101] at h
          obtain ⟨v_y910, h1102, h⟩ := bind_some h
          obtain ⟨v_r911, h1103, h⟩ := bind_some h
          by_cases h1104 : v_r911 = true
          · rw [if_pos h1104] at h
            cases h
            exact pkk_sound TTok mix hF 8 (hs := [.t true, .c, .c, .c, .y ((eI .i64) v_y909), .c, .c, .c, .c, .y ((eI .i64) v_y910), .c, .r (eB v_r911), .c, .t false]) (ts := []) (s := [0, 1]) (l := [0, 1, 10, 11]) (by kernel_rfl) (by kernel_rfl) (.cons (dt h1098) (.cons (idx_ob (f := (eI .i64)) h1099) (.cons (get_ob (f := (eI .i64)) h1100) (.cons (idx_ob (f := (eI .i64)) h1101) (.cons (get_ob (f := (eI .i64)) h1102) (.cons (G_cmp_Less_int_ok n v_y909 v_y910 _ h1103) (.cons (bnf h1104) .nil))))))) q
          · rw [if_neg h1104] at h
            exact pkk_sound TTok mix hF 9 (hs := [.t true, .c, .c, .c, .y ((eI .i64) v_y909), .c, .c, .c, .c, .y ((eI .i64) v_y910), .c, .r (eB v_r911), .c, .t true]) (ts := []) (s := [0, 1]) (l := [0, 1, 10, 11]) (by kernel_rfl) (by kernel_rfl) (.cons (dt h1098) (.cons (idx_ob (f := (eI .i64)) h1099) (.cons (get_ob (f := (eI .i64)) h1100) (.cons (idx_ob (f := (eI .i64)) h1101) (.cons (get_ob (f := (eI .i64)) h1102) (.cons (G_cmp_Less_int_ok n v_y909 v_y910 _ h1103) (.cons (bnt (vf h1104)) .nil))))))) (G_slices_partitionOrdered_int_h_L4_ok hF ks n v_a837 v_z902 k (wi .i64 (v_j904 - 1)) v_w905 _ h q)
        · rw [if_neg h1101] at h; cases h
      · rw [if_neg h1099] at h; cases h
    · rw [if_neg h1098] at h
      cases h
      exact pkk_sound TTok mix hF 8 (hs := [.t false, .c, .c, .c, .c, .c, .c, .c, .c, .c, .c]) (ts := []) (s := [0, 1]) (l := [0, 1, 10, 11]) (by kernel_rfl) (by kernel_rfl) (.cons (df h1098) .nil) q
inductive G_slices_partitionOrdered_int_h_L5_R where
  | x0 (v_j919 : Int) (v_w920 : (List Int))
def G_slices_partitionOrdered_int_h_L5_ex : G_slices_partitionOrdered_int_h_L5_R → Ex
  | .x0 _ _ => .exit 4
def G_slices_partitionOrdered_int_h_L5_st (v_a837 : Int) : G_slices_partitionOrdered_int_h_L5_R → PS
  | .x0 v_j919 v_w920 => ⟨[.srf 1, .d (.v (.int .i64 v_a837)), dd, dd, dd, dd, dd, dd, dd, dd, dd, .d (.v (.int .i64 v_j919)), dd, dd, dd, dd, dd, dd, dd, dd, dd, dd, dd, dd, dd, dd, dd, dd, dd, dd, dd, dd, dd, dd, dd, dd, dd, dd, dd, dd, dd, dd, dd, dd, dd, dd, dd, dd, dd, dd, dd, dd, dd, dd, dd, dd, dd, dd, dd, dd, dd, dd, dd, dd, dd, dd, dd, dd, dd, dd, dd, dd, dd, dd, dd, dd, dd, dd, dd, dd, dd, dd, dd, dd, dd, dd, dd, dd, dd, dd, dd, dd, dd, dd, dd, dd, dd, dd, dd, dd, dd, dd, dd, dd, dd, dd, dd, dd, dd, dd, dd, dd, dd, dd, dd, dd, dd, dd, dd, dd, dd, dd, dd, dd, dd, dd, dd, dd, dd, dd, dd, dd, dd, dd, dd, dd, dd, dd, dd, dd, dd, dd, dd, dd, dd, dd, dd, dd, dd, dd, dd, dd, dd, dd, dd, dd, dd, dd, dd, dd, dd, dd, dd, dd, dd, dd, dd, dd], [.gh 0 (.srf 1), .row 3 1 (v_w920.map (eI .i64))]⟩
def G_slices_partitionOrdered_int_h_L5_hd (v_a837 : Int) (v_i886 : Int) (v_j887 : Int) (v_w888 : (List Int)) : PS := ⟨[.srf 1, .d (.v (.int .i64 v_a837)), dd, dd, dd, dd, dd, dd, dd, dd, .d (.v (.int .i64 v_i886)), .d (.v (.int .i64 v_j887)), dd, dd, dd, dd, dd, dd, dd, dd, dd, dd, dd, dd, dd, dd, dd, dd, dd, dd, dd, dd, dd, dd, dd, dd, dd, dd, dd, dd, dd, dd, dd, dd, dd, dd, dd, dd, dd, dd, dd, dd, dd, dd, dd, dd, dd, dd, dd, dd, dd, dd, dd, dd, dd, dd, dd, dd, dd, dd, dd, dd, dd, dd, dd, dd, dd, dd, dd, dd, dd, dd, dd, dd, dd, dd, dd, dd, dd, dd, dd, dd, dd, dd, dd, dd, dd, dd, dd, dd, dd, dd, dd, dd, dd, dd, dd, dd, dd, dd, dd, dd, dd, dd, dd, dd, dd, dd, dd, dd, dd, dd, dd, dd, dd, dd, dd, dd, dd, dd, dd, dd, dd, dd, dd, dd, dd, dd, dd, dd, dd, dd, dd, dd, dd, dd, dd, dd, dd, dd, dd, dd, dd, dd, dd, dd, dd, dd, dd, dd, dd, dd, dd, dd, dd, dd, dd, dd], [.gh 0 (.srf 1), .row 3 1 (v_w888.map (eI .i64))]⟩
def G_slices_partitionOrdered_int_h_L5 (n : Nat) (v_a837 : Int) : Nat → Int → Int → (List Int) → Option G_slices_partitionOrdered_int_h_L5_R
  | 0, _, _, _ => none
  | k + 1, v_i886, v_j887, v_w888 =>
    (G_slices_partitionOrdered_int_h_L3 n v_a837 v_j887 n v_i886 v_w888).bind fun v_o901 => match v_o901 with
    | .x0 v_z902 v_z903 =>
      (G_slices_partitionOrdered_int_h_L4 n v_a837 v_z902 n v_j887 v_z903).bind fun v_o916 => match v_o916 with
      | .x0 v_z917 v_z918 =>
        if v_z902 > v_z917 then
         some (.x0 v_z917 v_z918)
        else
         if 0 ≤ v_z917 ∧ (v_z917).toNat < v_z918.length then
          (v_z918[(v_z917).toNat]?).bind fun (v_y921 : Int) =>
          if 0 ≤ v_z902 ∧ (v_z902).toNat < v_z918.length then
           (v_z918[(v_z902).toNat]?).bind fun (v_y922 : Int) =>
           if 0 ≤ v_z902 ∧ (v_z902).toNat < v_z918.length then
            (v_z918[(v_z902).toNat]?).bind fun (v_y923 : Int) =>
            if 0 ≤ v_z917 ∧ (v_z917).toNat < (v_z918.set (v_z902).toNat v_y921).length then
             ((v_z918.set (v_z902).toNat v_y921)[(v_z917).toNat]?).bind fun (v_y924 : Int) =>
             G_slices_partitionOrdered_int_h_L5 n v_a837 k (wi .i64 (v_z902 + 1)) (wi .i64 (v_z917 - 1)) ((v_z918.set (v_z902).toNat v_y921).set (v_z917).toNat v_y922)
            else none
           else none
          else none
         else none
theorem G_slices_partitionOrdered_int_h_L5_ok {Fi : Ex → PS → Prop} (hF : KC 168 Fi) (ks : List Fr) (n : Nat) (v_a837 : Int)  : ∀ (k : Nat) (v_i886 : Int) (v_j887 : Int) (v_w888 : (List Int)) (o : G_slices_partitionOrdered_int_h_L5_R), G_slices_partitionOrdered_int_h_L5 n v_a837 k v_i886 v_j887 v_w888 = some o → RunE Try.prog 168 Fi ks (G_slices_partitionOrdered_int_h_L5_ex o) (G_slices_partitionOrdered_int_h_L5_st v_a837 o) → RunE Try.prog 168 Fi (.l k (cP (cB (cL (cR (cR (cR (cR (cR (cR (cR (cR (cR (bodyOf Try.f183))))))))))))) :: ks) .normal (G_slices_partitionOrdered_int_h_L5_hd v_a837 v_i886 v_j887 v_w888)
  | 0, v_i886, v_j887, v_w888, o, h, q => by rw [G_slices_partitionOrdered_int_h_L5] at h; cases h
  | k + 1, v_i886, v_j887, v_w888, o, h, q => by
    rw [G_slices_partitionOrdered_int_h_L5] at h
    obtain ⟨v_o901, h1091, h⟩ := bind_some h
    refine pkk_sound TTok mix hF 5 (hs := [.n n]) (ts := []) (s := [0, 1]) (l := [0, 1, 10, 11]) (by kernel_rfl) (by kernel_rfl) .nil (G_slices_partitionOrdered_int_h_L3_ok hF (.b 6 :: .s (cR (cB (cP (cB (cL (cR (cR (cR (cR (cR (cR (cR (cR (cR (bodyOf Try.f183))))))))))))))) :: .b 5 :: .l k (cP (cB (cL (cR (cR (cR (cR (cR (cR (cR (cR (cR (bodyOf Try.f183))))))))))))) :: ks) n v_a837 v_j887 n v_i886 v_w888 _ h1091 ?_)
    cases v_o901 with
    | x0 v_z902 v_z903 =>
      try dsimp only at h
      obtain ⟨v_o916, h1105, h⟩ := bind_some h
      refine pkk_sound TTok mix hF 4 (hs := [.n n]) (ts := []) (s := [0, 1]) (l := [0, 1, 10, 11]) (by kernel_rfl) (by kernel_rfl) .nil (G_slices_partitionOrdered_int_h_L4_ok hF (.b 8 :: .s (cR (cR (cB (cP (cB (cL (cR (cR (cR (cR (cR (cR (cR (cR (cR (bodyOf Try.f183)))))))))))))))) :: .b 5 :: .l k (cP (cB (cL (cR (cR (cR (cR (cR (cR (cR (cR (cR (bodyOf Try.f183))))))))))))) :: ks) n v_a837 v_z902 n v_j887 v_z903 _ h1105 ?_)
      cases v_o916 with
      | x0 v_z917 v_z918 =>
        try dsimp only at h
        by_cases h1106 : v_z902 > v_z917
        · rw [if_pos h1106] at h
          cases h
          exact pkk_sound TTok mix hF 9 (hs := [.t true]) (ts := []) (s := [0, 1]) (l := [0, 1, 11]) (by kernel_rfl) (by kernel_rfl) (.cons (dt h1106) .nil) q
        · rw [if_neg h1106] at h
          by_cases h1107 : 0 ≤ v_z917 ∧ (v_z917).toNat < v_z918.length
          · rw [if_pos h1107] at h
            obtain ⟨v_y921, h1108, h⟩ := bind_some h
            by_cases h1109 : 0 ≤ v_z902 ∧ (v_z902).toNat < v_z918.length
            · rw [if_pos h1109] at h
              obtain ⟨v_y922, h1110, h⟩ := bind_some h
              by_cases h1111 : 0 ≤ v_z902 ∧ (v_z902).toNat < v_z918.length
              · rw [if_pos h1111] at h
                obtain ⟨v_y923, h1112, h⟩ := bind_some h
                by_cases h1113 : 0 ≤ v_z917 ∧ (v_z917).toNat < (v_z918.set (v_z902).toNat v_y921).length
                · rw [if_pos h1113] at h
                  obtain ⟨v_y924, h1114, h⟩ := bind_some h
                  exact pkk_sound TTok mix hF 12 (hs := [.t false, .y ((eI .i64) v_y921), .y ((eI .i64) v_y922), .w ((v_z918.set (v_z902).toNat v_y921).map (eI .i64)), .y ((eI .i64) v_y923), .w (((v_z918.set (v_z902).toNat v_y921).set (v_z917).toNat v_y922).map (eI .i64)), .y ((eI .i64) v_y924)]) (ts := []) (s := [0, 1]) (l := [0, 1, 10, 11]) (by kernel_rfl) (by kernel_rfl) (.cons (df h1106) (.cons (idx_ob (f := (eI .i64)) h1107) (.cons (get_ob (f := (eI .i64)) h1108) (.cons (idx_ob (f := (eI .i64)) h1109) (.cons (get_ob (f := (eI .i64)) h1110) (.cons (idx_ob (f := (eI .i64)) h1111) (.cons (get_ob (f := (eI .i64)) h1112) (.cons (Eq.refl (pcells (.v (.int .i64 v_y921)))) (.cons (set_ob (f := (eI .i64)) (l := v_z918) (k := (v_z902).toNat) (z := v_y921) (p := .v (.int .i64 v_y921)) rfl) (.cons (idx_ob (f := (eI .i64)) h1113) (.cons (get_ob (f := (eI .i64)) h1114) (.cons (Eq.refl (pcells (.v (.int .i64 v_y922)))) (.cons (set_ob (f := (eI .i64)) (l := (v_z918.set (v_z902).toNat v_y921)) (k := (v_z917).toNat) (z := v_y922) (p := .v (.int .i64 v_y922)) rfl) .nil))))))))))))) (G_slices_partitionOrdered_int_h_L5_ok hF ks n v_a837 k (wi .i64 (v_z902 + 1)) (wi .i64 (v_z917 - 1)) ((v_z918.set (v_z902).toNat v_y921).set (v_z917).toNat v_y922) _ h q)
                · rw [if_neg h1113] at h; cases h
              · rw [if_neg h1111] at h; cases h
            · rw [if_neg h1109] at h; cases h
          · rw [if_neg h1107] at h; cases h
/- slices.partitionOrdered[int] -/
def G_slices_partitionOrdered_int_h (n : Nat) (v_data836 : (List Int)) (v_a837 : Int) (v_b838 : Int) (v_pivot839 : Int) : Option (Int × Bool × (List Int)) :=
  if 0 ≤ v_pivot839 ∧ (v_pivot839).toNat < v_data836.length then
   (v_data836[(v_pivot839).toNat]?).bind fun (v_y840 : Int) =>
   if 0 ≤ v_a837 ∧ (v_a837).toNat < v_data836.length then
    (v_data836[(v_a837).toNat]?).bind fun (v_y841 : Int) =>
    if 0 ≤ v_a837 ∧ (v_a837).toNat < v_data836.length then
     (v_data836[(v_a837).toNat]?).bind fun (v_y842 : Int) =>
     if 0 ≤ v_pivot839 ∧ (v_pivot839).toNat < (v_data836.set (v_a837).toNat v_y840).length then
      ((v_data836.set (v_a837).toNat v_y840)[(v_pivot839).toNat]?).bind fun (v_y843 : Int) =>
      (G_slices_partitionOrdered_int_h_L1 n v_a837 v_b838 n (wi .i64 (v_a837 + 1)) ((v_data836.set (v_a837).toNat v_y840).set (v_pivot839).toNat v_y841)).bind fun v_o856 => match v_o856 with
      | .x0 v_z857 v_z858 =>
        (G_slices_partitionOrdered_int_h_L2 n v_a837 v_z857 n (wi .i64 (v_b838 - 1)) v_z858).bind fun v_o871 => match v_o871 with
        | .x0 v_z872 v_z873 =>
          if v_z857 > v_z872 then
           if 0 ≤ v_a837 ∧ (v_a837).toNat < v_z873.length then
            (v_z873[(v_a837).toNat]?).bind fun (v_y878 : Int) =>
            if 0 ≤ v_z872 ∧ (v_z872).toNat < v_z873.length then
             (v_z873[(v_z872).toNat]?).bind fun (v_y879 : Int) =>
             if 0 ≤ v_z872 ∧ (v_z872).toNat < v_z873.length then
              (v_z873[(v_z872).toNat]?).bind fun (v_y880 : Int) =>
              if 0 ≤ v_a837 ∧ (v_a837).toNat < (v_z873.set (v_z872).toNat v_y878).length then
               ((v_z873.set (v_z872).toNat v_y878)[(v_a837).toNat]?).bind fun (v_y881 : Int) =>
               some (v_z872, true, ((v_z873.set (v_z872).toNat v_y878).set (v_a837).toNat v_y879))
              else none
             else none
            else none
           else none
          else
           if 0 ≤ v_z872 ∧ (v_z872).toNat < v_z873.length then
            (v_z873[(v_z872).toNat]?).bind fun (v_y882 : Int) =>
            if 0 ≤ v_z857 ∧ (v_z857).toNat < v_z873.length then
             (v_z873[(v_z857).toNat]?).bind fun (v_y883 : Int) =>
             if 0 ≤ v_z857 ∧ (v_z857).toNat < v_z873.length then
              (v_z873[(v_z857).toNat]?).bind fun (v_y884 : Int) =>
              if 0 ≤ v_z872 ∧ (v_z872).toNat < (v_z873.set (v_z857).toNat v_y882).length then
               ((v_z873.set (v_z857).toNat v_y882)[(v_z872).toNat]?).bind fun (v_y885 : Int) =>
               (G_slices_partitionOrdered_int_h_L5 n v_a837 n (wi .i64 (v_z857 + 1)) (wi .i64 (v_z872 - 1)) ((v_z873.set (v_z857).toNat v_y882).set (v_z872).toNat v_y883)).bind fun v_o925 => match v_o925 with
               | .x0 v_z926 v_z927 =>
                 if 0 ≤ v_a837 ∧ (v_a837).toNat < v_z927.length then
                  (v_z927[(v_a837).toNat]?).bind fun (v_y928 : Int) =>
                  if 0 ≤ v_z926 ∧ (v_z926).toNat < v_z927.length then
                   (v_z927[(v_z926).toNat]?).bind fun (v_y929 : Int) =>
                   if 0 ≤ v_z926 ∧ (v_z926).toNat < v_z927.length then
                    (v_z927[(v_z926).toNat]?).bind fun (v_y930 : Int) =>
                    if 0 ≤ v_a837 ∧ (v_a837).toNat < (v_z927.set (v_z926).toNat v_y928).length then
                     ((v_z927.set (v_z926).toNat v_y928)[(v_a837).toNat]?).bind fun (v_y931 : Int) =>
                     some (v_z926, false, ((v_z927.set (v_z926).toNat v_y928).set (v_a837).toNat v_y929))
                    else none
                   else none
                  else none
                 else none
              else none
             else none
            else none
           else none
     else none
    else none
   else none
  else none
theorem G_slices_partitionOrdered_int_h_ok (n : Nat) (v_data836 : (List Int)) (v_a837 : Int) (v_b838 : Int) (v_pivot839 : Int) (r : Int × Bool × (List Int)) (h : G_slices_partitionOrdered_int_h n v_data836 v_a837 v_b838 v_pivot839 = some r) : RetH Try.prog 183 [.srf 0, .d ((eI .i64) v_a837), .d ((eI .i64) v_b838), .d ((eI .i64) v_pivot839)] [.row 3 1 (v_data836.map (eI .i64))] (.tup [.d ((eI .i64) r.1), .d (eB r.2.1)]) [.row 3 1 (r.2.2.map (eI .i64))] := by
  refine retH_run (n := 168) (fn := Try.f183) (c := bodyOf Try.f183) (by kernel_rfl) (by kernel_rfl) (by kernel_rfl) (by kernel_rfl) ?_
  have hF : KC 168 (FinH Try.prog Try.f183 [.row 3 1 (v_data836.map (eI .i64))] (.tup [.d ((eI .i64) r.1), .d (eB r.2.1)]) [.row 3 1 (r.2.2.map (eI .i64))]) := FinH.kc' (by kernel_rfl)
  unfold G_slices_partitionOrdered_int_h at h
  by_cases h1016 : 0 ≤ v_pivot839 ∧ (v_pivot839).toNat < v_data836.length
  · rw [if_pos h1016] at h
    obtain ⟨v_y840, h1017, h⟩ := bind_some h
    by_cases h1018 : 0 ≤ v_a837 ∧ (v_a837).toNat < v_data836.length
    · rw [if_pos h1018] at h
      obtain ⟨v_y841, h1019, h⟩ := bind_some h
      by_cases h1020 : 0 ≤ v_a837 ∧ (v_a837).toNat < v_data836.length
      · rw [if_pos h1020] at h
        obtain ⟨v_y842, h1021, h⟩ := bind_some h
        by_cases h1022 : 0 ≤ v_pivot839 ∧ (v_pivot839).toNat < (v_data836.set (v_a837).toNat v_y840).length
        · rw [if_pos h1022] at h
          obtain ⟨v_y843, h1023, h⟩ := bind_some h
          obtain ⟨v_o856, h1037, h⟩ := bind_some h
          refine pkk_sound TTok mix hF 9 (hs := [.y ((eI .i64) v_y840), .y ((eI .i64) v_y841), .w ((v_data836.set (v_a837).toNat v_y840).map (eI .i64)), .y ((eI .i64) v_y842), .w (((v_data836.set (v_a837).toNat v_y840).set (v_pivot839).toNat v_y841).map (eI .i64)), .y ((eI .i64) v_y843), .n n]) (ts := []) (s := [1, 0]) (l := [0, 1, 10, 11]) (by kernel_rfl) (by kernel_rfl) (.cons (idx_ob (f := (eI .i64)) h1016) (.cons (get_ob (f := (eI .i64)) h1017) (.cons (idx_ob (f := (eI .i64)) h1018) (.cons (get_ob (f := (eI .i64)) h1019) (.cons (idx_ob (f := (eI .i64)) h1020) (.cons (get_ob (f := (eI .i64)) h1021) (.cons (Eq.refl (pcells (.v (.int .i64 v_y840)))) (.cons (set_ob (f := (eI .i64)) (l := v_data836) (k := (v_a837).toNat) (z := v_y840) (p := .v (.int .i64 v_y840)) rfl) (.cons (idx_ob (f := (eI .i64)) h1022) (.cons (get_ob (f := (eI .i64)) h1023) (.cons (Eq.refl (pcells (.v (.int .i64 v_y841)))) (.cons (set_ob (f := (eI .i64)) (l := (v_data836.set (v_a837).toNat v_y840)) (k := (v_pivot839).toNat) (z := v_y841) (p := .v (.int .i64 v_y841)) rfl) .nil)))))))))))) (G_slices_partitionOrdered_int_h_L1_ok hF (.b 0 :: .s (cR (cR (cR (cR (bodyOf Try.f183))))) :: []) n v_a837 v_b838 n (wi .i64 (v_a837 + 1)) ((v_data836.set (v_a837).toNat v_y840).set (v_pivot839).toNat v_y841) _ h1037 ?_)
          cases v_o856 with
          | x0 v_z857 v_z858 =>
            try dsimp only at h
            obtain ⟨v_o871, h1051, h⟩ := bind_some h
            refine pkk_sound TTok mix hF 4 (hs := [.n n]) (ts := []) (s := [0, 1]) (l := [0, 1, 10, 11]) (by kernel_rfl) (by kernel_rfl) .nil (G_slices_partitionOrdered_int_h_L2_ok hF (.b 2 :: .s (cR (cR (cR (cR (cR (bodyOf Try.f183)))))) :: []) n v_a837 v_z857 n (wi .i64 (v_b838 - 1)) v_z858 _ h1051 ?_)
            cases v_o871 with
            | x0 v_z872 v_z873 =>
              try dsimp only at h
              by_cases h1061 : v_z857 > v_z872
              · rw [if_pos h1061] at h
                by_cases h1062 : 0 ≤ v_a837 ∧ (v_a837).toNat < v_z873.length
                · rw [if_pos h1062] at h
                  obtain ⟨v_y878, h1063, h⟩ := bind_some h
                  by_cases h1064 : 0 ≤ v_z872 ∧ (v_z872).toNat < v_z873.length
                  · rw [if_pos h1064] at h
                    obtain ⟨v_y879, h1065, h⟩ := bind_some h
                    by_cases h1066 : 0 ≤ v_z872 ∧ (v_z872).toNat < v_z873.length
                    · rw [if_pos h1066] at h
                      obtain ⟨v_y880, h1067, h⟩ := bind_some h
                      by_cases h1068 : 0 ≤ v_a837 ∧ (v_a837).toNat < (v_z873.set (v_z872).toNat v_y878).length
                      · rw [if_pos h1068] at h
                        obtain ⟨v_y881, h1069, h⟩ := bind_some h
                        obtain rfl := Option.some.inj h
                        exact pendH_sound TTok mix 11 (hs := [.t true, .y ((eI .i64) v_y878), .y ((eI .i64) v_y879), .w ((v_z873.set (v_z872).toNat v_y878).map (eI .i64)), .y ((eI .i64) v_y880), .w (((v_z873.set (v_z872).toNat v_y878).set (v_a837).toNat v_y879).map (eI .i64)), .y ((eI .i64) v_y881)]) [1] (by kernel_rfl) (by kernel_rfl) (by kernel_rfl) (.cons (dt h1061) (.cons (idx_ob (f := (eI .i64)) h1062) (.cons (get_ob (f := (eI .i64)) h1063) (.cons (idx_ob (f := (eI .i64)) h1064) (.cons (get_ob (f := (eI .i64)) h1065) (.cons (idx_ob (f := (eI .i64)) h1066) (.cons (get_ob (f := (eI .i64)) h1067) (.cons (Eq.refl (pcells (.v (.int .i64 v_y878)))) (.cons (set_ob (f := (eI .i64)) (l := v_z873) (k := (v_z872).toNat) (z := v_y878) (p := .v (.int .i64 v_y878)) rfl) (.cons (idx_ob (f := (eI .i64)) h1068) (.cons (get_ob (f := (eI .i64)) h1069) (.cons (Eq.refl (pcells (.v (.int .i64 v_y879)))) (.cons (set_ob (f := (eI .i64)) (l := (v_z873.set (v_z872).toNat v_y878)) (k := (v_a837).toNat) (z := v_y879) (p := .v (.int .i64 v_y879)) rfl) .nil)))))))))))))
                      · rw [if_neg h1068] at h; cases h
                    · rw [if_neg h1066] at h; cases h
                  · rw [if_neg h1064] at h; cases h
                · rw [if_neg h1062] at h; cases h
              · rw [if_neg h1061] at h
                by_cases h1070 : 0 ≤ v_z872 ∧ (v_z872).toNat < v_z873.length
                · rw [if_pos h1070] at h
                  obtain ⟨v_y882, h1071, h⟩ := bind_some h
                  by_cases h1072 : 0 ≤ v_z857 ∧ (v_z857).toNat < v_z873.length
                  · rw [if_pos h1072] at h
                    obtain ⟨v_y883, h1073, h⟩ := bind_some h
                    by_cases h1074 : 0 ≤ v_z857 ∧ (v_z857).toNat < v_z873.length
                    · rw [if_pos h1074] at h
                      obtain ⟨v_y884, h1075, h⟩ := bind_some h
                      by_cases h1076 : 0 ≤ v_z872 ∧ (v_z872).toNat < (v_z873.set (v_z857).toNat v_y882).length
                      · rw [if_pos h1076] at h
                        obtain ⟨v_y885, h1077, h⟩ := bind_some h
                        obtain ⟨v_o925, h1115, h⟩ := bind_some h
                        refine pkk_sound TTok mix hF 15 (hs := [.t false, .y ((eI .i64) v_y882), .y ((eI .i64) v_y883), .w ((v_z873.set (v_z857).toNat v_y882).map (eI .i64)), .y ((eI .i64) v_y884), .w (((v_z873.set (v_z857).toNat v_y882).set (v_z872).toNat v_y883).map (eI .i64)), .y ((eI .i64) v_y885), .n n]) (ts := []) (s := [0, 1]) (l := [0, 1, 10, 11]) (by kernel_rfl) (by kernel_rfl) (.cons (df h1061) (.cons (idx_ob (f := (eI .i64)) h1070) (.cons (get_ob (f := (eI .i64)) h1071) (.cons (idx_ob (f := (eI .i64)) h1072) (.cons (get_ob (f := (eI .i64)) h1073) (.cons (idx_ob (f := (eI .i64)) h1074) (.cons (get_ob (f := (eI .i64)) h1075) (.cons (Eq.refl (pcells (.v (.int .i64 v_y882)))) (.cons (set_ob (f := (eI .i64)) (l := v_z873) (k := (v_z857).toNat) (z := v_y882) (p := .v (.int .i64 v_y882)) rfl) (.cons (idx_ob (f := (eI .i64)) h1076) (.cons (get_ob (f := (eI .i64)) h1077) (.cons (Eq.refl (pcells (.v (.int .i64 v_y883)))) (.cons (set_ob (f := (eI .i64)) (l := (v_z873.set (v_z857).toNat v_y882)) (k := (v_z872).toNat) (z := v_y883) (p := .v (.int .i64 v_y883)) rfl) .nil))))))))))))) (G_slices_partitionOrdered_int_h_L5_ok hF (.b 4 :: .s (cR (cR (cR (cR (cR (cR (cR (cR (cR (cR (bodyOf Try.f183))))))))))) :: []) n v_a837 n (wi .i64 (v_z857 + 1)) (wi .i64 (v_z872 - 1)) ((v_z873.set (v_z857).toNat v_y882).set (v_z872).toNat v_y883) _ h1115 ?_)
                        cases v_o925 with
                        | x0 v_z926 v_z927 =>
                          try dsimp only at h
                          by_cases h1116 : 0 ≤ v_a837 ∧ (v_a837).toNat < v_z927.length
                          · rw [if_pos h1116] at h
                            obtain ⟨v_y928, h1117, h⟩ := bind_some h
                            by_cases h1118 : 0 ≤ v_z926 ∧ (v_z926).toNat < v_z927.length
                            · rw [if_pos h1118] at h
                              obtain ⟨v_y929, h1119, h⟩ := bind_some h
                              by_cases h1120 : 0 ≤ v_z926 ∧ (v_z926).toNat < v_z927.length
                              · rw [if_pos h1120] at h
                                obtain ⟨v_y930, h1121, h⟩ := bind_some h
                                by_cases h1122 : 0 ≤ v_a837 ∧ (v_a837).toNat < (v_z927.set (v_z926).toNat v_y928).length
                                · rw [if_pos h1122] at h
                                  obtain ⟨v_y931, h1123, h⟩ := bind_some h
                                  obtain rfl := Option.some.inj h
                                  exact pendH_sound TTok mix 6 (hs := [.y ((eI .i64) v_y928), .y ((eI .i64) v_y929), .w ((v_z927.set (v_z926).toNat v_y928).map (eI .i64)), .y ((eI .i64) v_y930), .w (((v_z927.set (v_z926).toNat v_y928).set (v_a837).toNat v_y929).map (eI .i64)), .y ((eI .i64) v_y931)]) [1] (by kernel_rfl) (by kernel_rfl) (by kernel_rfl) (.cons (idx_ob (f := (eI .i64)) h1116) (.cons (get_ob (f := (eI .i64)) h1117) (.cons (idx_ob (f := (eI .i64)) h1118) (.cons (get_ob (f := (eI .i64)) h1119) (.cons (idx_ob (f := (eI .i64)) h1120) (.cons (get_ob (f := (eI .i64)) h1121) (.cons (Eq.refl (pcells (.v (.int .i64 v_y928)))) (.cons (set_ob (f := (eI .i64)) (l := v_z927) (k := (v_z926).toNat) (z := v_y928) (p := .v (.int .i64 v_y928)) rfl) (.cons (idx_ob (f := (eI .i64)) h1122) (.cons (get_ob (f := (eI .i64)) h1123) (.cons (Eq.refl (pcells (.v (.int .i64 v_y929)))) (.cons (set_ob (f := (eI .i64)) (l := (v_z927.set (v_z926).toNat v_y928)) (k := (v_a837).toNat) (z := v_y929) (p := .v (.int .i64 v_y929)) rfl) .nil))))))))))))
                                · rw [if_neg h1122] at h; cases h
                              · rw [if_neg h1120] at h; cases h
                            · rw [if_neg h1118] at h; cases h
                          · rw [if_neg h1116] at h; cases h
                      · rw [if_neg h1076] at h; cases h
                    · rw [if_neg h1074] at h; cases h
                  · rw [if_neg h1072] at h; cases h
                · rw [if_neg h1070] at h; cases h
        · rw [if_neg h1022] at h; cases h
      · rw [if_neg h1020] at h; cases h
    · rw [if_neg h1018] at h; cases h
  · rw [if_neg h1016] at h; cases h
inductive G_slices_pdqsortOrdered_int_h_C1_R where
  | x0 (v_limit986 : Int) (v_w987 : (List Int))
def G_slices_pdqsortOrdered_int_h_C1_ex : G_slices_pdqsortOrdered_int_h_C1_R → Ex
  | .x0 _ _ => .normal
def G_slices_pdqsortOrdered_int_h_C1_st (v_a396 : Int) (v_b397 : Int) (v_limit398 : Int) (v_wasBalanced399 : Bool) (v_wasPartitioned400 : Bool) (v_w401 : (List Int)) : G_slices_pdqsortOrdered_int_h_C1_R → PS
  | .x0 v_limit986 v_w987 => ⟨[.srf 1, .d (.v (.int .i64 v_a396)), .d (.v (.int .i64 v_b397)), .d (.v (.int .i64 v_limit986)), dd, dd, dd, dd, .d (.v (.bool v_wasBalanced399)), .d (.v (.bool v_wasPartitioned400)), .d (.v (.int .i64 (wi .i64 (v_b397 - v_a396)))), dd, dd, dd, dd, dd, dd, dd, dd, dd, dd, dd, dd, dd, dd, dd, dd, dd, dd, dd, dd, dd, dd, dd, dd, dd, dd, dd, dd, dd, dd, dd, dd, dd, dd, dd, dd, dd, dd, dd, dd, dd, dd, dd, dd, dd, dd, dd, dd, dd, dd, dd, dd, dd, dd, dd, dd, dd, dd, dd, dd, dd, dd, dd, dd, dd, dd, dd, dd, dd, dd, dd, dd, dd, dd, dd, dd, dd, dd, dd, dd, dd, dd, dd, dd, dd, dd, dd, dd, dd, dd, dd, dd, dd, dd, dd, dd, dd, dd, dd, dd, dd, dd, dd, dd, dd, dd, dd, dd, dd, dd, dd, dd, dd, dd, dd, dd, dd, dd, dd, dd, dd, dd, dd], [.gh 0 (.srf 1), .row 3 1 (v_w987.map (eI .i64))]⟩
def G_slices_pdqsortOrdered_int_h_C1_hd (v_a396 : Int) (v_b397 : Int) (v_limit398 : Int) (v_wasBalanced399 : Bool) (v_wasPartitioned400 : Bool) (v_w401 : (List Int))  : PS := ⟨[.srf 1, .d (.v (.int .i64 v_a396)), .d (.v (.int .i64 v_b397)), .d (.v (.int .i64 v_limit398)), dd, dd, dd, dd, .d (.v (.bool v_wasBalanced399)), .d (.v (.bool v_wasPartitioned400)), .d (.v (.int .i64 (wi .i64 (v_b397 - v_a396)))), dd, dd, dd, dd, dd, dd, dd, dd, dd, dd, dd, dd, dd, dd, dd, dd, dd, dd, dd, dd, dd, dd, dd, dd, .d (.v (.bool (!v_wasBalanced399))), dd, dd, dd, dd, dd, dd, dd, dd, dd, dd, dd, dd, dd, dd, dd, dd, dd, dd, dd, dd, dd, dd, dd, dd, dd, dd, dd, dd, dd, dd, dd, dd, dd, dd, dd, dd, dd, dd, dd, dd, dd, dd, dd, dd, dd, dd, dd, dd, dd, dd, dd, dd, dd, dd, dd, dd, dd, dd, dd, dd, dd, dd, dd, dd, dd, dd, dd, dd, dd, dd, dd, dd, dd, dd, dd, dd, dd, dd, dd, dd, dd, dd, dd, dd, dd, dd, dd, dd, dd, dd, dd, dd, dd, dd, dd, dd, dd, dd], [.gh 0 (.srf 1), .row 3 1 (v_w401.map (eI .i64))]⟩
def G_slices_pdqsortOrdered_int_h_C1 (n : Nat) (v_a396 : Int) (v_b397 : Int) (v_limit398 : Int) (v_wasBalanced399 : Bool) (v_wasPartitioned400 : Bool) (v_w401 : (List Int)) : Option G_slices_pdqsortOrdered_int_h_C1_R :=
  if v_wasBalanced399 = true then
   some (.x0 v_limit398 v_w401)
  else
   (G_slices_breakPatternsOrdered_int_h n v_w401 v_a396 v_b397).bind fun (v_r985 : ((List Int))) =>
   some (.x0 (wi .i64 (v_limit398 - 1)) v_r985)
theorem G_slices_pdqsortOrdered_int_h_C1_ok {Fi : Ex → PS → Prop} (hF : KC 134 Fi) (ks : List Fr) (n : Nat) (v_a396 : Int) (v_b397 : Int) (v_limit398 : Int) (v_wasBalanced399 : Bool) (v_wasPartitioned400 : Bool) (v_w401 : (List Int))  (o : G_slices_pdqsortOrdered_int_h_C1_R) (h : G_slices_pdqsortOrdered_int_h_C1 n v_a396 v_b397 v_limit398 v_wasBalanced399 v_wasPartitioned400 v_w401 = some o) (q : RunE Try.prog 134 Fi ks (G_slices_pdqsortOrdered_int_h_C1_ex o) (G_slices_pdqsortOrdered_int_h_C1_st v_a396 v_b397 v_limit398 v_wasBalanced399 v_wasPartitioned400 v_w401 o)) : RunE Try.prog 134 Fi (.s (cR (cL (cR (cR (cR (cB (cP (cB (cR (cR (bodyOf Try.f120))))))))))) :: ks) .normal (G_slices_pdqsortOrdered_int_h_C1_hd v_a396 v_b397 v_limit398 v_wasBalanced399 v_wasPartitioned400 v_w401) := by
  unfold G_slices_pdqsortOrdered_int_h_C1 at h
  by_cases h1192 : v_wasBalanced399 = true
  · rw [if_pos h1192] at h
    cases h
    exact pkk_sound TTok mix hF 2 (hs := [.t false]) (ts := []) (s := [0, 1]) (l := [0, 1, 2, 3, 8, 9, 10]) (by kernel_rfl) (by kernel_rfl) (.cons (bnf h1192) .nil) q
  · rw [if_neg h1192] at h
    obtain ⟨v_r985, h1193, h⟩ := bind_some h
    cases h
    exact pkk_sound TTok mix hF 4 (hs := [.t true, .h [1] [] [.row 3 1 (v_r985.map (eI .i64))] (.tup [])]) (ts := []) (s := [0, 1]) (l := [0, 1, 2, 3, 8, 9, 10]) (by kernel_rfl) (by kernel_rfl) (.cons (bnt (vf h1192)) (.cons (G_slices_breakPatternsOrdered_int_h_ok n v_w401 v_a396 v_b397 _ h1193) .nil)) q
inductive G_slices_pdqsortOrdered_int_h_C2_R where
  | x0 (v_pivot996 : Int) (v_hint997 : Int) (v_w998 : (List Int))
def G_slices_pdqsortOrdered_int_h_C2_ex : G_slices_pdqsortOrdered_int_h_C2_R → Ex
  | .x0 _ _ _ => .normal
def G_slices_pdqsortOrdered_int_h_C2_st (v_a396 : Int) (v_b397 : Int) (v_z991 : Int) (v_wasBalanced399 : Bool) (v_wasPartitioned400 : Bool) (v_r993 : (Int × Int)) (v_z992 : (List Int)) : G_slices_pdqsortOrdered_int_h_C2_R → PS
  | .x0 v_pivot996 v_hint997 v_w998 => ⟨[.srf 1, .d (.v (.int .i64 v_a396)), .d (.v (.int .i64 v_b397)), .d (.v (.int .i64 v_z991)), dd, dd, dd, dd, .d (.v (.bool v_wasBalanced399)), .d (.v (.bool v_wasPartitioned400)), .d (.v (.int .i64 (wi .i64 (v_b397 - v_a396)))), .d (.v (.int .i64 v_pivot996)), .d (.v (.int .i64 v_hint997)), dd, dd, dd, dd, dd, dd, dd, dd, dd, dd, dd, dd, dd, dd, dd, dd, dd, dd, dd, dd, dd, dd, dd, dd, dd, dd, dd, dd, dd, dd, dd, dd, dd, dd, dd, dd, dd, dd, dd, dd, dd, dd, dd, dd, dd, dd, dd, dd, dd, dd, dd, dd, dd, dd, dd, dd, dd, dd, dd, dd, dd, dd, dd, dd, dd, dd, dd, dd, dd, dd, dd, dd, dd, dd, dd, dd, dd, dd, dd, dd, dd, dd, dd, dd, dd, dd, dd, dd, dd, dd, dd, dd, dd, dd, dd, dd, dd, dd, dd, dd, dd, dd, dd, dd, dd, dd, dd, dd, dd, dd, dd, dd, dd, dd, dd, dd, dd, dd, dd, dd, dd], [.gh 0 (.srf 1), .row 3 1 (v_w998.map (eI .i64))]⟩
def G_slices_pdqsortOrdered_int_h_C2_hd (v_a396 : Int) (v_b397 : Int) (v_z991 : Int) (v_wasBalanced399 : Bool) (v_wasPartitioned400 : Bool) (v_r993 : (Int × Int)) (v_z992 : (List Int))  : PS := ⟨[.srf 1, .d (.v (.int .i64 v_a396)), .d (.v (.int .i64 v_b397)), .d (.v (.int .i64 v_z991)), dd, dd, dd, dd, .d (.v (.bool v_wasBalanced399)), .d (.v (.bool v_wasPartitioned400)), .d (.v (.int .i64 (wi .i64 (v_b397 - v_a396)))), .d (.v (.int .i64 v_r993.1)), .d (.v (.int .i64 v_r993.2)), dd, dd, dd, dd, dd, dd, dd, dd, dd, dd, dd, dd, dd, dd, dd, dd, dd, dd, dd, dd, dd, dd, dd, dd, dd, dd, dd, dd, dd, dd, dd, dd, dd, dd, dd, dd, dd, .d (.v (.bool (v_r993.2 == 2))), dd, dd, dd, dd, dd, dd, dd, dd, dd, dd, dd, dd, dd, dd, dd, dd, dd, dd, dd, dd, dd, dd, dd, dd, dd, dd, dd, dd, dd, dd, dd, dd, dd, dd, dd, dd, dd, dd, dd, dd, dd, dd, dd, dd, dd, dd, dd, dd, dd, dd, dd, dd, dd, dd, dd, dd, dd, dd, dd, dd, dd, dd, dd, dd, dd, dd, dd, dd, dd, dd, dd, dd, dd, dd, dd, dd, dd, dd, dd, dd, dd, dd, dd], [.gh 0 (.srf 1), .row 3 1 (v_z992.map (eI .i64))]⟩
def G_slices_pdqsortOrdered_int_h_C2 (n : Nat) (v_a396 : Int) (v_b397 : Int) (v_z991 : Int) (v_wasBalanced399 : Bool) (v_wasPartitioned400 : Bool) (v_r993 : (Int × Int)) (v_z992 : (List Int)) : Option G_slices_pdqsortOrdered_int_h_C2_R :=
  if v_r993.2 = 2 then
   (G_slices_reverseRangeOrdered_int_h n v_z992 v_a396 v_b397).bind fun (v_r995 : ((List Int))) =>
   some (.x0 (wi .i64 ((wi .i64 (v_b397 - 1)) - (wi .i64 (v_r993.1 - v_a396)))) 1 v_r995)
  else
   some (.x0 v_r993.1 v_r993.2 v_z992)
theorem G_slices_pdqsortOrdered_int_h_C2_ok {Fi : Ex → PS → Prop} (hF : KC 134 Fi) (ks : List Fr) (n : Nat) (v_a396 : Int) (v_b397 : Int) (v_z991 : Int) (v_wasBalanced399 : Bool) (v_wasPartitioned400 : Bool) (v_r993 : (Int × Int)) (v_z992 : (List Int))  (o : G_slices_pdqsortOrdered_int_h_C2_R) (h : G_slices_pdqsortOrdered_int_h_C2 n v_a396 v_b397 v_z991 v_wasBalanced399 v_wasPartitioned400 v_r993 v_z992 = some o) (q : RunE Try.prog 134 Fi ks (G_slices_pdqsortOrdered_int_h_C2_ex o) (G_slices_pdqsortOrdered_int_h_C2_st v_a396 v_b397 v_z991 v_wasBalanced399 v_wasPartitioned400 v_r993 v_z992 o)) : RunE Try.prog 134 Fi (.s (cR (cL (cR (cR (cR (cR (cR (cB (cP (cB (cR (cR (bodyOf Try.f120))))))))))))) :: ks) .normal (G_slices_pdqsortOrdered_int_h_C2_hd v_a396 v_b397 v_z991 v_wasBalanced399 v_wasPartitioned400 v_r993 v_z992) := by
  unfold G_slices_pdqsortOrdered_int_h_C2 at h
  by_cases h1198 : v_r993.2 = 2
  · rw [if_pos h1198] at h
    obtain ⟨v_r995, h1199, h⟩ := bind_some h
    cases h
    exact pkk_sound TTok mix hF 6 (hs := [.t true, .h [1] [] [.row 3 1 (v_r995.map (eI .i64))] (.tup [])]) (ts := []) (s := [0, 1]) (l := [0, 1, 2, 3, 8, 9, 10, 11, 12]) (by kernel_rfl) (by kernel_rfl) (.cons (bt h1198) (.cons (G_slices_reverseRangeOrdered_int_h_ok n v_z992 v_a396 v_b397 _ h1199) .nil)) q
  · rw [if_neg h1198] at h
    cases h
    exact pkk_sound TTok mix hF 2 (hs := [.t false]) (ts := []) (s := [0, 1]) (l := [0, 1, 2, 3, 8, 9, 10, 11, 12]) (by kernel_rfl) (by kernel_rfl) (.cons (bf h1198) .nil) q
inductive G_slices_pdqsortOrdered_int_h_C3_R where
  | x0 (v_w1008 : (List Int))
  | x1 (v_w1009 : (List Int))
def G_slices_pdqsortOrdered_int_h_C3_ex : G_slices_pdqsortOrdered_int_h_C3_R → Ex
  | .x0 _ => .ret
  | .x1 _ => .normal
def G_slices_pdqsortOrdered_int_h_C3_st (v_a396 : Int) (v_b397 : Int) (v_z991 : Int) (v_wasBalanced399 : Bool) (v_wasPartitioned400 : Bool) (v_z1003 : Int) (v_z1004 : Int) (v_z1005 : (List Int)) : G_slices_pdqsortOrdered_int_h_C3_R → PS
  | .x0 v_w1008 => ⟨[dd, dd, dd, dd, dd, dd, dd, dd, dd, dd, dd, dd, dd, dd, dd, dd, dd, dd, dd, dd, dd, dd, dd, dd, dd, dd, dd, dd, dd, dd, dd, dd, dd, dd, dd, dd, dd, dd, dd, dd, dd, dd, dd, dd, dd, dd, dd, dd, dd, dd, dd, dd, dd, dd, dd, dd, dd, dd, dd, dd, dd, dd, dd, dd, dd, dd, dd, dd, dd, dd, dd, dd, dd, dd, dd, dd, dd, dd, dd, dd, dd, dd, dd, dd, dd, dd, dd, dd, dd, dd, dd, dd, dd, dd, dd, dd, dd, dd, dd, dd, dd, dd, dd, dd, dd, dd, dd, dd, dd, dd, dd, dd, dd, dd, dd, dd, dd, dd, dd, dd, dd, dd, dd, dd, dd, dd, dd, dd, dd, dd, dd, dd, dd, dd], [.gh 0 (.srf 1), .row 3 1 (v_w1008.map (eI .i64))]⟩
  | .x1 v_w1009 => ⟨[.srf 1, .d (.v (.int .i64 v_a396)), .d (.v (.int .i64 v_b397)), .d (.v (.int .i64 v_z991)), dd, dd, dd, dd, .d (.v (.bool v_wasBalanced399)), .d (.v (.bool v_wasPartitioned400)), .d (.v (.int .i64 (wi .i64 (v_b397 - v_a396)))), .d (.v (.int .i64 v_z1003)), dd, dd, dd, dd, dd, dd, dd, dd, dd, dd, dd, dd, dd, dd, dd, dd, dd, dd, dd, dd, dd, dd, dd, dd, dd, dd, dd, dd, dd, dd, dd, dd, dd, dd, dd, dd, dd, dd, dd, dd, dd, dd, dd, dd, dd, dd, dd, dd, dd, dd, dd, dd, dd, dd, dd, dd, dd, dd, dd, dd, dd, dd, dd, dd, dd, dd, dd, dd, dd, dd, dd, dd, dd, dd, dd, dd, dd, dd, dd, dd, dd, dd, dd, dd, dd, dd, dd, dd, dd, dd, dd, dd, dd, dd, dd, dd, dd, dd, dd, dd, dd, dd, dd, dd, dd, dd, dd, dd, dd, dd, dd, dd, dd, dd, dd, dd, dd, dd, dd, dd, dd, dd], [.gh 0 (.srf 1), .row 3 1 (v_w1009.map (eI .i64))]⟩
def G_slices_pdqsortOrdered_int_h_C3_hd (v_a396 : Int) (v_b397 : Int) (v_z991 : Int) (v_wasBalanced399 : Bool) (v_wasPartitioned400 : Bool) (v_z1003 : Int) (v_z1004 : Int) (v_z1005 : (List Int))  : PS := ⟨[.srf 1, .d (.v (.int .i64 v_a396)), .d (.v (.int .i64 v_b397)), .d (.v (.int .i64 v_z991)), dd, dd, dd, dd, .d (.v (.bool v_wasBalanced399)), .d (.v (.bool v_wasPartitioned400)), .d (.v (.int .i64 (wi .i64 (v_b397 - v_a396)))), .d (.v (.int .i64 v_z1003)), dd, dd, dd, dd, dd, dd, dd, dd, dd, dd, dd, dd, dd, dd, dd, dd, dd, dd, dd, dd, dd, dd, dd, dd, dd, dd, dd, dd, dd, dd, dd, dd, dd, dd, dd, dd, dd, dd, dd, dd, dd, dd, dd, dd, dd, dd, dd, dd, dd, dd, dd, dd, dd, dd, dd, dd, .d (.v (.bool (v_z1004 == 1))), dd, dd, dd, dd, dd, dd, dd, dd, dd, dd, dd, dd, dd, dd, dd, dd, dd, dd, dd, dd, dd, dd, dd, dd, dd, dd, dd, dd, dd, dd, dd, dd, dd, dd, dd, dd, dd, dd, dd, dd, dd, dd, dd, dd, dd, dd, dd, dd, dd, dd, dd, dd, dd, dd, dd, dd, dd, dd, dd, dd, dd, dd, dd, dd, dd], [.gh 0 (.srf 1), .row 3 1 (v_z1005.map (eI .i64))]⟩
def G_slices_pdqsortOrdered_int_h_C3 (n : Nat) (v_a396 : Int) (v_b397 : Int) (v_z991 : Int) (v_wasBalanced399 : Bool) (v_wasPartitioned400 : Bool) (v_z1003 : Int) (v_z1004 : Int) (v_z1005 : (List Int)) : Option G_slices_pdqsortOrdered_int_h_C3_R :=
  if v_z1004 = 1 then
   (G_slices_partialInsertionSortOrdered_int_h n v_z1005 v_a396 v_b397).bind fun (v_r1007 : (Bool × (List Int))) =>
   if v_r1007.1 = true then
    some (.x0 v_r1007.2)
   else
    some (.x1 v_r1007.2)
  else
   some (.x1 v_z1005)
theorem G_slices_pdqsortOrdered_int_h_C3_ok {Fi : Ex → PS → Prop} (hF : KC 134 Fi) (ks : List Fr) (n : Nat) (v_a396 : Int) (v_b397 : Int) (v_z991 : Int) (v_wasBalanced399 : Bool) (v_wasPartitioned400 : Bool) (v_z1003 : Int) (v_z1004 : Int) (v_z1005 : (List Int))  (o : G_slices_pdqsortOrdered_int_h_C3_R) (h : G_slices_pdqsortOrdered_int_h_C3 n v_a396 v_b397 v_z991 v_wasBalanced399 v_wasPartitioned400 v_z1003 v_z1004 v_z1005 = some o) (q : RunE Try.prog 134 Fi ks (G_slices_pdqsortOrdered_int_h_C3_ex o) (G_slices_pdqsortOrdered_int_h_C3_st v_a396 v_b397 v_z991 v_wasBalanced399 v_wasPartitioned400 v_z1003 v_z1004 v_z1005 o)) : RunE Try.prog 134 Fi (.s (cR (cL (cR (cR (cR (cR (cR (cR (cB (cP (cB (cR (cR (bodyOf Try.f120)))))))))))))) :: ks) .normal (G_slices_pdqsortOrdered_int_h_C3_hd v_a396 v_b397 v_z991 v_wasBalanced399 v_wasPartitioned400 v_z1003 v_z1004 v_z1005) := by
  unfold G_slices_pdqsortOrdered_int_h_C3 at h
  by_cases h1206 : v_z1004 = 1
  · rw [if_pos h1206] at h
    obtain ⟨v_r1007, h1207, h⟩ := bind_some h
    by_cases h1208 : v_r1007.1 = true
    · rw [if_pos h1208] at h
      cases h
      exact pkk_sound TTok mix hF 5 (hs := [.t true, .h [1] [] [.row 3 1 (v_r1007.2.map (eI .i64))] (.d (.v (.bool v_r1007.1))), .t true]) (ts := []) (s := [0, 1]) (l := []) (by kernel_rfl) (by kernel_rfl) (.cons (bt h1206) (.cons (G_slices_partialInsertionSortOrdered_int_h_ok n v_z1005 v_a396 v_b397 _ h1207) (.cons h1208 .nil))) q
    · rw [if_neg h1208] at h
      cases h
      exact pkk_sound TTok mix hF 5 (hs := [.t true, .h [1] [] [.row 3 1 (v_r1007.2.map (eI .i64))] (.d (.v (.bool v_r1007.1))), .t false]) (ts := []) (s := [0, 1]) (l := [0, 1, 2, 3, 8, 9, 10, 11]) (by kernel_rfl) (by kernel_rfl) (.cons (bt h1206) (.cons (G_slices_partialInsertionSortOrdered_int_h_ok n v_z1005 v_a396 v_b397 _ h1207) (.cons (vf h1208) .nil))) q
  · rw [if_neg h1206] at h
    cases h
    exact pkk_sound TTok mix hF 2 (hs := [.t false]) (ts := []) (s := [0, 1]) (l := [0, 1, 2, 3, 8, 9, 10, 11]) (by kernel_rfl) (by kernel_rfl) (.cons (bf h1206) .nil) q
inductive G_slices_pdqsortOrdered_int_h_C4_R where
  | x0 (v_x1021 : Bool) (v_w1022 : (List Int))
def G_slices_pdqsortOrdered_int_h_C4_ex : G_slices_pdqsortOrdered_int_h_C4_R → Ex
  | .x0 _ _ => .normal
def G_slices_pdqsortOrdered_int_h_C4_st (v_a396 : Int) (v_b397 : Int) (v_z991 : Int) (v_wasBalanced399 : Bool) (v_wasPartitioned400 : Bool) (v_z1003 : Int) (v_z1014 : (List Int)) : G_slices_pdqsortOrdered_int_h_C4_R → PS
  | .x0 v_x1021 v_w1022 => ⟨[.srf 1, .d (.v (.int .i64 v_a396)), .d (.v (.int .i64 v_b397)), .d (.v (.int .i64 v_z991)), dd, dd, dd, dd, .d (.v (.bool v_wasBalanced399)), .d (.v (.bool v_wasPartitioned400)), .d (.v (.int .i64 (wi .i64 (v_b397 - v_a396)))), .d (.v (.int .i64 v_z1003)), dd, dd, dd, dd, dd, dd, dd, dd, dd, dd, dd, dd, dd, dd, dd, dd, dd, dd, dd, dd, dd, dd, dd, dd, dd, dd, dd, dd, dd, dd, dd, dd, dd, dd, dd, dd, dd, dd, dd, dd, dd, dd, dd, dd, dd, dd, dd, dd, dd, dd, dd, dd, dd, dd, dd, dd, dd, dd, dd, dd, dd, dd, dd, dd, dd, dd, dd, dd, dd, dd, dd, dd, dd, dd, dd, .d (.v (.bool v_x1021)), dd, dd, dd, dd, dd, dd, dd, dd, dd, dd, dd, dd, dd, dd, dd, dd, dd, dd, dd, dd, dd, dd, dd, dd, dd, dd, dd, dd, dd, dd, dd, dd, dd, dd, dd, dd, dd, dd, dd, dd, dd, dd, dd, dd, dd, dd], [.gh 0 (.srf 1), .row 3 1 (v_w1022.map (eI .i64))]⟩
def G_slices_pdqsortOrdered_int_h_C4_hd (v_a396 : Int) (v_b397 : Int) (v_z991 : Int) (v_wasBalanced399 : Bool) (v_wasPartitioned400 : Bool) (v_z1003 : Int) (v_z1014 : (List Int))  : PS := ⟨[.srf 1, .d (.v (.int .i64 v_a396)), .d (.v (.int .i64 v_b397)), .d (.v (.int .i64 v_z991)), dd, dd, dd, dd, .d (.v (.bool v_wasBalanced399)), .d (.v (.bool v_wasPartitioned400)), .d (.v (.int .i64 (wi .i64 (v_b397 - v_a396)))), .d (.v (.int .i64 v_z1003)), dd, dd, dd, dd, dd, dd, dd, dd, dd, dd, dd, dd, dd, dd, dd, dd, dd, dd, dd, dd, dd, dd, dd, dd, dd, dd, dd, dd, dd, dd, dd, dd, dd, dd, dd, dd, dd, dd, dd, dd, dd, dd, dd, dd, dd, dd, dd, dd, dd, dd, dd, dd, dd, dd, dd, dd, dd, dd, dd, dd, dd, dd, dd, dd, dd, dd, dd, dd, dd, dd, dd, dd, dd, dd, dd, dd, dd, dd, dd, dd, dd, dd, dd, dd, dd, dd, dd, dd, dd, dd, dd, dd, dd, dd, dd, dd, dd, dd, dd, dd, dd, dd, dd, dd, dd, dd, dd, dd, dd, dd, dd, dd, dd, dd, dd, dd, dd, dd, dd, dd, dd, dd], [.gh 0 (.srf 1), .row 3 1 (v_z1014.map (eI .i64))]⟩
def G_slices_pdqsortOrdered_int_h_C4 (n : Nat) (v_a396 : Int) (v_b397 : Int) (v_z991 : Int) (v_wasBalanced399 : Bool) (v_wasPartitioned400 : Bool) (v_z1003 : Int) (v_z1014 : (List Int)) : Option G_slices_pdqsortOrdered_int_h_C4_R :=
  if v_a396 > 0 then
   if 0 ≤ (wi .i64 (v_a396 - 1)) ∧ ((wi .i64 (v_a396 - 1))).toNat < v_z1014.length then
    (v_z1014[((wi .i64 (v_a396 - 1))).toNat]?).bind fun (v_y1018 : Int) =>
    if 0 ≤ v_z1003 ∧ (v_z1003).toNat < v_z1014.length then
     (v_z1014[(v_z1003).toNat]?).bind fun (v_y1019 : Int) =>
     (G_cmp_Less_int n v_y1018 v_y1019).bind fun (v_r1020 : (Bool)) =>
     some (.x0 (!v_r1020) v_z1014)
    else none
   else none
  else
   some (.x0 false v_z1014)
theorem G_slices_pdqsortOrdered_int_h_C4_ok {Fi : Ex → PS → Prop} (hF : KC 134 Fi) (ks : List Fr) (n : Nat) (v_a396 : Int) (v_b397 : Int) (v_z991 : Int) (v_wasBalanced399 : Bool) (v_wasPartitioned400 : Bool) (v_z1003 : Int) (v_z1014 : (List Int))  (o : G_slices_pdqsortOrdered_int_h_C4_R) (h : G_slices_pdqsortOrdered_int_h_C4 n v_a396 v_b397 v_z991 v_wasBalanced399 v_wasPartitioned400 v_z1003 v_z1014 = some o) (q : RunE Try.prog 134 Fi ks (G_slices_pdqsortOrdered_int_h_C4_ex o) (G_slices_pdqsortOrdered_int_h_C4_st v_a396 v_b397 v_z991 v_wasBalanced399 v_wasPartitioned400 v_z1003 v_z1014 o)) : RunE Try.prog 134 Fi (.s (cL (cL (cR (cR (cR (cR (cR (cR (cR (cB (cP (cB (cR (cR (bodyOf Try.f120))))))))))))))) :: ks) .normal (G_slices_pdqsortOrdered_int_h_C4_hd v_a396 v_b397 v_z991 v_wasBalanced399 v_wasPartitioned400 v_z1003 v_z1014) := by
  unfold G_slices_pdqsortOrdered_int_h_C4 at h
  by_cases h1216 : v_a396 > 0
  · rw [if_pos h1216] at h
    by_cases h1217 : 0 ≤ (wi .i64 (v_a396 - 1)) ∧ ((wi .i64 (v_a396 - 1))).toNat < v_z1014.length
    · rw [if_pos h1217] at h
      obtain ⟨v_y1018, h1218, h⟩ := bind_some h
      by_cases h1219 : 0 ≤ v_z1003 ∧ (v_z1003).toNat < v_z1014.length
      · rw [if_pos h1219] at h
        obtain ⟨v_y1019, h1220, h⟩ := bind_some h
        obtain ⟨v_r1020, h1221, h⟩ := bind_some h
        cases h
        exact pkk_sound TTok mix hF 1 (hs := [.t true, .c, .c, .c, .c, .y ((eI .i64) v_y1018), .c, .c, .c, .c, .y ((eI .i64) v_y1019), .c, .r (eB v_r1020), .c]) (ts := []) (s := [0, 1]) (l := [0, 1, 2, 3, 8, 9, 10, 11, 87]) (by kernel_rfl) (by kernel_rfl) (.cons (dt h1216) (.cons (idx_ob (f := (eI .i64)) h1217) (.cons (get_ob (f := (eI .i64)) h1218) (.cons (idx_ob (f := (eI .i64)) h1219) (.cons (get_ob (f := (eI .i64)) h1220) (.cons (G_cmp_Less_int_ok n v_y1018 v_y1019 _ h1221) .nil)))))) q
      · rw [if_neg h1219] at h; cases h
    · rw [if_neg h1217] at h; cases h
  · rw [if_neg h1216] at h
    cases h
    exact pkk_sound TTok mix hF 1 (hs := [.t false, .c, .c, .c, .c, .c, .c, .c, .c, .c, .c]) (ts := []) (s := [0, 1]) (l := [0, 1, 2, 3, 8, 9, 10, 11, 87]) (by kernel_rfl) (by kernel_rfl) (.cons (df h1216) .nil) q
inductive G_slices_pdqsortOrdered_int_h_C5_R where
  | x0 (v_x1059 : Bool) (v_w1060 : (List Int))
def G_slices_pdqsortOrdered_int_h_C5_ex : G_slices_pdqsortOrdered_int_h_C5_R → Ex
  | .x0 _ _ => .normal
def G_slices_pdqsortOrdered_int_h_C5_st (v_a396 : Int) (v_b397 : Int) (v_z991 : Int) (v_wasBalanced399 : Bool) (v_wasPartitioned400 : Bool) (v_z1003 : Int) (v_z1005 : (List Int)) : G_slices_pdqsortOrdered_int_h_C5_R → PS
  | .x0 v_x1059 v_w1060 => ⟨[.srf 1, .d (.v (.int .i64 v_a396)), .d (.v (.int .i64 v_b397)), .d (.v (.int .i64 v_z991)), dd, dd, dd, dd, .d (.v (.bool v_wasBalanced399)), .d (.v (.bool v_wasPartitioned400)), .d (.v (.int .i64 (wi .i64 (v_b397 - v_a396)))), .d (.v (.int .i64 v_z1003)), dd, dd, dd, dd, dd, dd, dd, dd, dd, dd, dd, dd, dd, dd, dd, dd, dd, dd, dd, dd, dd, dd, dd, dd, dd, dd, dd, dd, dd, dd, dd, dd, dd, dd, dd, dd, dd, dd, dd, dd, dd, dd, dd, dd, dd, dd, dd, dd, dd, dd, dd, dd, dd, dd, dd, dd, dd, dd, dd, dd, dd, dd, dd, dd, dd, dd, dd, dd, dd, dd, dd, dd, dd, dd, dd, .d (.v (.bool v_x1059)), dd, dd, dd, dd, dd, dd, dd, dd, dd, dd, dd, dd, dd, dd, dd, dd, dd, dd, dd, dd, dd, dd, dd, dd, dd, dd, dd, dd, dd, dd, dd, dd, dd, dd, dd, dd, dd, dd, dd, dd, dd, dd, dd, dd, dd, dd], [.gh 0 (.srf 1), .row 3 1 (v_w1060.map (eI .i64))]⟩
def G_slices_pdqsortOrdered_int_h_C5_hd (v_a396 : Int) (v_b397 : Int) (v_z991 : Int) (v_wasBalanced399 : Bool) (v_wasPartitioned400 : Bool) (v_z1003 : Int) (v_z1005 : (List Int))  : PS := ⟨[.srf 1, .d (.v (.int .i64 v_a396)), .d (.v (.int .i64 v_b397)), .d (.v (.int .i64 v_z991)), dd, dd, dd, dd, .d (.v (.bool v_wasBalanced399)), .d (.v (.bool v_wasPartitioned400)), .d (.v (.int .i64 (wi .i64 (v_b397 - v_a396)))), .d (.v (.int .i64 v_z1003)), dd, dd, dd, dd, dd, dd, dd, dd, dd, dd, dd, dd, dd, dd, dd, dd, dd, dd, dd, dd, dd, dd, dd, dd, dd, dd, dd, dd, dd, dd, dd, dd, dd, dd, dd, dd, dd, dd, dd, dd, dd, dd, dd, dd, dd, dd, dd, dd, dd, dd, dd, dd, dd, dd, dd, dd, dd, dd, dd, dd, dd, dd, dd, dd, dd, dd, dd, dd, dd, dd, dd, dd, dd, dd, dd, dd, dd, dd, dd, dd, dd, dd, dd, dd, dd, dd, dd, dd, dd, dd, dd, dd, dd, dd, dd, dd, dd, dd, dd, dd, dd, dd, dd, dd, dd, dd, dd, dd, dd, dd, dd, dd, dd, dd, dd, dd, dd, dd, dd, dd, dd, dd], [.gh 0 (.srf 1), .row 3 1 (v_z1005.map (eI .i64))]⟩
def G_slices_pdqsortOrdered_int_h_C5 (n : Nat) (v_a396 : Int) (v_b397 : Int) (v_z991 : Int) (v_wasBalanced399 : Bool) (v_wasPartitioned400 : Bool) (v_z1003 : Int) (v_z1005 : (List Int)) : Option G_slices_pdqsortOrdered_int_h_C5_R :=
  if v_a396 > 0 then
   if 0 ≤ (wi .i64 (v_a396 - 1)) ∧ ((wi .i64 (v_a396 - 1))).toNat < v_z1005.length then
    (v_z1005[((wi .i64 (v_a396 - 1))).toNat]?).bind fun (v_y1056 : Int) =>
    if 0 ≤ v_z1003 ∧ (v_z1003).toNat < v_z1005.length then
     (v_z1005[(v_z1003).toNat]?).bind fun (v_y1057 : Int) =>
     (G_cmp_Less_int n v_y1056 v_y1057).bind fun (v_r1058 : (Bool)) =>
     some (.x0 (!v_r1058) v_z1005)
    else none
   else none
  else
   some (.x0 false v_z1005)
theorem G_slices_pdqsortOrdered_int_h_C5_ok {Fi : Ex → PS → Prop} (hF : KC 134 Fi) (ks : List Fr) (n : Nat) (v_a396 : Int) (v_b397 : Int) (v_z991 : Int) (v_wasBalanced399 : Bool) (v_wasPartitioned400 : Bool) (v_z1003 : Int) (v_z1005 : (List Int))  (o : G_slices_pdqsortOrdered_int_h_C5_R) (h : G_slices_pdqsortOrdered_int_h_C5 n v_a396 v_b397 v_z991 v_wasBalanced399 v_wasPartitioned400 v_z1003 v_z1005 = some o) (q : RunE Try.prog 134 Fi ks (G_slices_pdqsortOrdered_int_h_C5_ex o) (G_slices_pdqsortOrdered_int_h_C5_st v_a396 v_b397 v_z991 v_wasBalanced399 v_wasPartitioned400 v_z1003 v_z1005 o)) : RunE Try.prog 134 Fi (.s (cL (cL (cR (cR (cR (cR (cR (cR (cR (cB (cP (cB (cR (cR (bodyOf Try.f120))))))))))))))) :: ks) .normal (G_slices_pdqsortOrdered_int_h_C5_hd v_a396 v_b397 v_z991 v_wasBalanced399 v_wasPartitioned400 v_z1003 v_z1005) := by
  unfold G_slices_pdqsortOrdered_int_h_C5 at h
  by_cases h1241 : v_a396 > 0
  · rw [if_pos h1241] at h
    by_cases h1242 : 0 ≤ (wi .i64 (v_a396 - 1)) ∧ ((wi .i64 (v_a396 - 1))).toNat < v_z1005.length
    · rw [if_pos h1242] at h
      obtain ⟨v_y1056, h1243, h⟩ := bind_some h
      by_cases h1244 : 0 ≤ v_z1003 ∧ (v_z1003).toNat < v_z1005.length
      · rw [if_pos h1244] at h
        obtain ⟨v_y1057, h1245, h⟩ := bind_some h
        obtain ⟨v_r1058, h1246, h⟩ := bind_some h
        cases h
        exact pkk_sound TTok mix hF 1 (hs := [.t true, .c, .c, .c, .c, .y ((eI .i64) v_y1056), .c, .c, .c, .c, .y ((eI .i64) v_y1057), .c, .r (eB v_r1058), .c]) (ts := []) (s := [0, 1]) (l := [0, 1, 2, 3, 8, 9, 10, 11, 87]) (by kernel_rfl) (by kernel_rfl) (.cons (dt h1241) (.cons (idx_ob (f := (eI .i64)) h1242) (.cons (get_ob (f := (eI .i64)) h1243) (.cons (idx_ob (f := (eI .i64)) h1244) (.cons (get_ob (f := (eI .i64)) h1245) (.cons (G_cmp_Less_int_ok n v_y1056 v_y1057 _ h1246) .nil)))))) q
      · rw [if_neg h1244] at h; cases h
    · rw [if_neg h1242] at h; cases h
  · rw [if_neg h1241] at h
    cases h
    exact pkk_sound TTok mix hF 1 (hs := [.t false, .c, .c, .c, .c, .c, .c, .c, .c, .c, .c]) (ts := []) (s := [0, 1]) (l := [0, 1, 2, 3, 8, 9, 10, 11, 87]) (by kernel_rfl) (by kernel_rfl) (.cons (df h1241) .nil) q
inductive G_slices_pdqsortOrdered_int_h_C6_R where
  | x0 (v_x1097 : Bool) (v_w1098 : (List Int))
def G_slices_pdqsortOrdered_int_h_C6_ex : G_slices_pdqsortOrdered_int_h_C6_R → Ex
  | .x0 _ _ => .normal
def G_slices_pdqsortOrdered_int_h_C6_st (v_a396 : Int) (v_b397 : Int) (v_z991 : Int) (v_wasBalanced399 : Bool) (v_wasPartitioned400 : Bool) (v_z1003 : Int) (v_z1005 : (List Int)) : G_slices_pdqsortOrdered_int_h_C6_R → PS
  | .x0 v_x1097 v_w1098 => ⟨[.srf 1, .d (.v (.int .i64 v_a396)), .d (.v (.int .i64 v_b397)), .d (.v (.int .i64 v_z991)), dd, dd, dd, dd, .d (.v (.bool v_wasBalanced399)), .d (.v (.bool v_wasPartitioned400)), .d (.v (.int .i64 (wi .i64 (v_b397 - v_a396)))), .d (.v (.int .i64 v_z1003)), dd, dd, dd, dd, dd, dd, dd, dd, dd, dd, dd, dd, dd, dd, dd, dd, dd, dd, dd, dd, dd, dd, dd, dd, dd, dd, dd, dd, dd, dd, dd, dd, dd, dd, dd, dd, dd, dd, dd, dd, dd, dd, dd, dd, dd, dd, dd, dd, dd, dd, dd, dd, dd, dd, dd, dd, dd, dd, dd, dd, dd, dd, dd, dd, dd, dd, dd, dd, dd, dd, dd, dd, dd, dd, dd, .d (.v (.bool v_x1097)), dd, dd, dd, dd, dd, dd, dd, dd, dd, dd, dd, dd, dd, dd, dd, dd, dd, dd, dd, dd, dd, dd, dd, dd, dd, dd, dd, dd, dd, dd, dd, dd, dd, dd, dd, dd, dd, dd, dd, dd, dd, dd, dd, dd, dd, dd], [.gh 0 (.srf 1), .row 3 1 (v_w1098.map (eI .i64))]⟩
def G_slices_pdqsortOrdered_int_h_C6_hd (v_a396 : Int) (v_b397 : Int) (v_z991 : Int) (v_wasBalanced399 : Bool) (v_wasPartitioned400 : Bool) (v_z1003 : Int) (v_z1005 : (List Int))  : PS := ⟨[.srf 1, .d (.v (.int .i64 v_a396)), .d (.v (.int .i64 v_b397)), .d (.v (.int .i64 v_z991)), dd, dd, dd, dd, .d (.v (.bool v_wasBalanced399)), .d (.v (.bool v_wasPartitioned400)), .d (.v (.int .i64 (wi .i64 (v_b397 - v_a396)))), .d (.v (.int .i64 v_z1003)), dd, dd, dd, dd, dd, dd, dd, dd, dd, dd, dd, dd, dd, dd, dd, dd, dd, dd, dd, dd, dd, dd, dd, dd, dd, dd, dd, dd, dd, dd, dd, dd, dd, dd, dd, dd, dd, dd, dd, dd, dd, dd, dd, dd, dd, dd, dd, dd, dd, dd, dd, dd, dd, dd, dd, dd, dd, dd, dd, dd, dd, dd, dd, dd, dd, dd, dd, dd, dd, dd, dd, dd, dd, dd, dd, dd, dd, dd, dd, dd, dd, dd, dd, dd, dd, dd, dd, dd, dd, dd, dd, dd, dd, dd, dd, dd, dd, dd, dd, dd, dd, dd, dd, dd, dd, dd, dd, dd, dd, dd, dd, dd, dd, dd, dd, dd, dd, dd, dd, dd, dd, dd], [.gh 0 (.srf 1), .row 3 1 (v_z1005.map (eI .i64))]⟩
def G_slices_pdqsortOrdered_int_h_C6 (n : Nat) (v_a396 : Int) (v_b397 : Int) (v_z991 : Int) (v_wasBalanced399 : Bool) (v_wasPartitioned400 : Bool) (v_z1003 : Int) (v_z1005 : (List Int)) : Option G_slices_pdqsortOrdered_int_h_C6_R :=
  if v_a396 > 0 then
   if 0 ≤ (wi .i64 (v_a396 - 1)) ∧ ((wi .i64 (v_a396 - 1))).toNat < v_z1005.length then
    (v_z1005[((wi .i64 (v_a396 - 1))).toNat]?).bind fun (v_y1094 : Int) =>
    if 0 ≤ v_z1003 ∧ (v_z1003).toNat < v_z1005.length then
     (v_z1005[(v_z1003).toNat]?).bind fun (v_y1095 : Int) =>
     (G_cmp_Less_int n v_y1094 v_y1095).bind fun (v_r1096 : (Bool)) =>
     some (.x0 (!v_r1096) v_z1005)
    else none
   else none
  else
   some (.x0 false v_z1005)
theorem G_slices_pdqsortOrdered_int_h_C6_ok {Fi : Ex → PS → Prop} (hF : KC 134 Fi) (ks : List Fr) (n : Nat) (v_a396 : Int) (v_b397 : Int) (v_z991 : Int) (v_wasBalanced399 : Bool) (v_wasPartitioned400 : Bool) (v_z1003 : Int) (v_z1005 : (List Int))  (o : G_slices_pdqsortOrdered_int_h_C6_R) (h : G_slices_pdqsortOrdered_int_h_C6 n v_a396 v_b397 v_z991 v_wasBalanced399 v_wasPartitioned400 v_z1003 v_z1005 = some o) (q : RunE Try.prog 134 Fi ks (G_slices_pdqsortOrdered_int_h_C6_ex o) (G_slices_pdqsortOrdered_int_h_C6_st v_a396 v_b397 v_z991 v_wasBalanced399 v_wasPartitioned400 v_z1003 v_z1005 o)) : RunE Try.prog 134 Fi (.s (cL (cL (cR (cR (cR (cR (cR (cR (cR (cB (cP (cB (cR (cR (bodyOf Try.f120))))))))))))))) :: ks) .normal (G_slices_pdqsortOrdered_int_h_C6_hd v_a396 v_b397 v_z991 v_wasBalanced399 v_wasPartitioned400 v_z1003 v_z1005) := by
  unfold G_slices_pdqsortOrdered_int_h_C6 at h
  by_cases h1266 : v_a396 > 0
  · rw [if_pos h1266] at h
    by_cases h1267 : 0 ≤ (wi .i64 (v_a396 - 1)) ∧ ((wi .i64 (v_a396 - 1))).toNat < v_z1005.length
    · rw [if_pos h1267] at h
      obtain ⟨v_y1094, h1268, h⟩ := bind_some h
      by_cases h1269 : 0 ≤ v_z1003 ∧ (v_z1003).toNat < v_z1005.length
      · rw [if_pos h1269] at h
        obtain ⟨v_y1095, h1270, h⟩ := bind_some h
        obtain ⟨v_r1096, h1271, h⟩ := bind_some h
        cases h
        exact pkk_sound TTok mix hF 1 (hs := [.t true, .c, .c, .c, .c, .y ((eI .i64) v_y1094), .c, .c, .c, .c, .y ((eI .i64) v_y1095), .c, .r (eB v_r1096), .c]) (ts := []) (s := [0, 1]) (l := [0, 1, 2, 3, 8, 9, 10, 11, 87]) (by kernel_rfl) (by kernel_rfl) (.cons (dt h1266) (.cons (idx_ob (f := (eI .i64)) h1267) (.cons (get_ob (f := (eI .i64)) h1268) (.cons (idx_ob (f := (eI .i64)) h1269) (.cons (get_ob (f := (eI .i64)) h1270) (.cons (G_cmp_Less_int_ok n v_y1094 v_y1095 _ h1271) .nil)))))) q
      · rw [if_neg h1269] at h; cases h
    · rw [if_neg h1267] at h; cases h
  · rw [if_neg h1266] at h
    cases h
    exact pkk_sound TTok mix hF 1 (hs := [.t false, .c, .c, .c, .c, .c, .c, .c, .c, .c, .c]) (ts := []) (s := [0, 1]) (l := [0, 1, 2, 3, 8, 9, 10, 11, 87]) (by kernel_rfl) (by kernel_rfl) (.cons (df h1266) .nil) q
inductive G_slices_pdqsortOrdered_int_h_C7_R where
  | x0 (v_w980 : (List Int))
  | x1 (v_a1030 : Int) (v_b1031 : Int) (v_limit1032 : Int) (v_wasBalanced1033 : Bool) (v_wasPartitioned1034 : Bool) (v_w1035 : (List Int))
def G_slices_pdqsortOrdered_int_h_C7_ex : G_slices_pdqsortOrdered_int_h_C7_R → Ex
  | .x0 _ => .ret
  | .x1 _ _ _ _ _ _ => .normal
def G_slices_pdqsortOrdered_int_h_C7_st (v_a396 : Int) (v_b397 : Int) (v_limit398 : Int) (v_wasBalanced399 : Bool) (v_wasPartitioned400 : Bool) (v_w401 : (List Int)) (v_rec933 : ((List Int) → Int → Int → Int → Option ((List Int)))) : G_slices_pdqsortOrdered_int_h_C7_R → PS
  | .x0 v_w980 => ⟨[dd, dd, dd, dd, dd, dd, dd, dd, dd, dd, dd, dd, dd, dd, dd, dd, dd, dd, dd, dd, dd, dd, dd, dd, dd, dd, dd, dd, dd, dd, dd, dd, dd, dd, dd, dd, dd, dd, dd, dd, dd, dd, dd, dd, dd, dd, dd, dd, dd, dd, dd, dd, dd, dd, dd, dd, dd, dd, dd, dd, dd, dd, dd, dd, dd, dd, dd, dd, dd, dd, dd, dd, dd, dd, dd, dd, dd, dd, dd, dd, dd, dd, dd, dd, dd, dd, dd, dd, dd, dd, dd, dd, dd, dd, dd, dd, dd, dd, dd, dd, dd, dd, dd, dd, dd, dd, dd, dd, dd, dd, dd, dd, dd, dd, dd, dd, dd, dd, dd, dd, dd, dd, dd, dd, dd, dd, dd, dd, dd, dd, dd, dd, dd, dd], [.gh 0 (.srf 1), .row 3 1 (v_w980.map (eI .i64))]⟩
  | .x1 v_a1030 v_b1031 v_limit1032 v_wasBalanced1033 v_wasPartitioned1034 v_w1035 => ⟨[.srf 1, .d (.v (.int .i64 v_a1030)), .d (.v (.int .i64 v_b1031)), .d (.v (.int .i64 v_limit1032)), dd, dd, dd, dd, .d (.v (.bool v_wasBalanced1033)), .d (.v (.bool v_wasPartitioned1034)), dd, dd, dd, dd, dd, dd, dd, dd, dd, dd, dd, dd, dd, dd, dd, dd, dd, dd, dd, dd, dd, dd, dd, dd, dd, dd, dd, dd, dd, dd, dd, dd, dd, dd, dd, dd, dd, dd, dd, dd, dd, dd, dd, dd, dd, dd, dd, dd, dd, dd, dd, dd, dd, dd, dd, dd, dd, dd, dd, dd, dd, dd, dd, dd, dd, dd, dd, dd, dd, dd, dd, dd, dd, dd, dd, dd, dd, dd, dd, dd, dd, dd, dd, dd, dd, dd, dd, dd, dd, dd, dd, dd, dd, dd, dd, dd, dd, dd, dd, dd, dd, dd, dd, dd, dd, dd, dd, dd, dd, dd, dd, dd, dd, dd, dd, dd, dd, dd, dd, dd, dd, dd, dd, dd], [.gh 0 (.srf 1), .row 3 1 (v_w1035.map (eI .i64))]⟩
def G_slices_pdqsortOrdered_int_h_C7_hd (v_a396 : Int) (v_b397 : Int) (v_limit398 : Int) (v_wasBalanced399 : Bool) (v_wasPartitioned400 : Bool) (v_w401 : (List Int)) (v_rec933 : ((List Int) → Int → Int → Int → Option ((List Int))))  : PS := ⟨[.srf 1, .d (.v (.int .i64 v_a396)), .d (.v (.int .i64 v_b397)), .d (.v (.int .i64 v_limit398)), dd, dd, dd, dd, .d (.v (.bool v_wasBalanced399)), .d (.v (.bool v_wasPartitioned400)), dd, dd, dd, dd, dd, dd, dd, dd, dd, dd, dd, dd, dd, dd, dd, dd, dd, dd, dd, dd, dd, dd, dd, dd, dd, dd, dd, dd, dd, dd, dd, dd, dd, dd, dd, dd, dd, dd, dd, dd, dd, dd, dd, dd, dd, dd, dd, dd, dd, dd, dd, dd, dd, dd, dd, dd, dd, dd, dd, dd, dd, dd, dd, dd, dd, dd, dd, dd, dd, dd, dd, dd, dd, dd, dd, dd, dd, dd, dd, dd, dd, dd, dd, dd, dd, dd, dd, dd, dd, dd, dd, dd, dd, dd, dd, dd, dd, dd, dd, dd, dd, dd, dd, dd, dd, dd, dd, dd, dd, dd, dd, dd, dd, dd, dd, dd, dd, dd, dd, dd, dd, dd, dd, dd], [.gh 0 (.srf 1), .row 3 1 (v_w401.map (eI .i64))]⟩
def G_slices_pdqsortOrdered_int_h_C7 (n : Nat) (v_a396 : Int) (v_b397 : Int) (v_limit398 : Int) (v_wasBalanced399 : Bool) (v_wasPartitioned400 : Bool) (v_w401 : (List Int)) (v_rec933 : ((List Int) → Int → Int → Int → Option ((List Int)))) : Option G_slices_pdqsortOrdered_int_h_C7_R :=
  if (wi .i64 (v_b397 - v_a396)) ≤ 12 then
   (G_slices_insertionSortOrdered_int_h n v_w401 v_a396 v_b397).bind fun (v_r979 : ((List Int))) =>
   some (.x0 v_r979)
  else
   if v_limit398 = 0 then
    (G_slices_heapSortOrdered_int_h n v_w401 v_a396 v_b397).bind fun (v_r982 : ((List Int))) =>
    some (.x0 v_r982)
   else
    (G_slices_pdqsortOrdered_int_h_C1 n v_a396 v_b397 v_limit398 v_wasBalanced399 v_wasPartitioned400 v_w401).bind fun v_o990 => match v_o990 with
    | .x0 v_z991 v_z992 =>
      (G_slices_choosePivotOrdered_int n v_z992 v_a396 v_b397).bind fun (v_r993 : (Int × Int)) =>
      (G_slices_pdqsortOrdered_int_h_C2 n v_a396 v_b397 v_z991 v_wasBalanced399 v_wasPartitioned400 v_r993 v_z992).bind fun v_o1002 => match v_o1002 with
      | .x0 v_z1003 v_z1004 v_z1005 =>
        if v_wasBalanced399 = true then
         if v_wasPartitioned400 = true then
          (G_slices_pdqsortOrdered_int_h_C3 n v_a396 v_b397 v_z991 v_wasBalanced399 v_wasPartitioned400 v_z1003 v_z1004 v_z1005).bind fun v_o1011 => match v_o1011 with
          | .x0 v_z1012 =>
            some (.x0 v_z1012)
          | .x1 v_z1014 =>
            (G_slices_pdqsortOrdered_int_h_C4 n v_a396 v_b397 v_z991 v_wasBalanced399 v_wasPartitioned400 v_z1003 v_z1014).bind fun v_o1025 => match v_o1025 with
            | .x0 v_z1026 v_z1027 =>
              if v_z1026 = true then
               (G_slices_partitionEqualOrdered_int_h n v_z1027 v_a396 v_b397 v_z1003).bind fun (v_r1029 : (Int × (List Int))) =>
               some (.x1 v_r1029.1 v_b397 v_z991 v_wasBalanced399 v_wasPartitioned400 v_r1029.2)
              else
               (G_slices_partitionOrdered_int_h n v_z1027 v_a396 v_b397 v_z1003).bind fun (v_r1036 : (Int × Bool × (List Int))) =>
               if (wi .i64 (v_r1036.1 - v_a396)) < (wi .i64 (v_b397 - v_r1036.1)) then
                (v_rec933 v_r1036.2.2 v_a396 v_r1036.1 v_z991).bind fun (v_r1039 : ((List Int))) =>
                some (.x1 (wi .i64 (v_r1036.1 + 1)) v_b397 v_z991 (decide ((wi .i64 (v_r1036.1 - v_a396)) ≥ (quoI .i64 (wi .i64 (v_b397 - v_a396)) 8))) v_r1036.2.1 v_r1039)
               else
                (v_rec933 v_r1036.2.2 (wi .i64 (v_r1036.1 + 1)) v_b397 v_z991).bind fun (v_r1046 : ((List Int))) =>
                some (.x1 v_a396 v_r1036.1 v_z991 (decide ((wi .i64 (v_b397 - v_r1036.1)) ≥ (quoI .i64 (wi .i64 (v_b397 - v_a396)) 8))) v_r1036.2.1 v_r1046)
         else
          (G_slices_pdqsortOrdered_int_h_C5 n v_a396 v_b397 v_z991 v_wasBalanced399 v_wasPartitioned400 v_z1003 v_z1005).bind fun v_o1063 => match v_o1063 with
          | .x0 v_z1064 v_z1065 =>
            if v_z1064 = true then
             (G_slices_partitionEqualOrdered_int_h n v_z1065 v_a396 v_b397 v_z1003).bind fun (v_r1067 : (Int × (List Int))) =>
             some (.x1 v_r1067.1 v_b397 v_z991 v_wasBalanced399 v_wasPartitioned400 v_r1067.2)
            else
             (G_slices_partitionOrdered_int_h n v_z1065 v_a396 v_b397 v_z1003).bind fun (v_r1074 : (Int × Bool × (List Int))) =>
             if (wi .i64 (v_r1074.1 - v_a396)) < (wi .i64 (v_b397 - v_r1074.1)) then
              (v_rec933 v_r1074.2.2 v_a396 v_r1074.1 v_z991).bind fun (v_r1077 : ((List Int))) =>
              some (.x1 (wi .i64 (v_r1074.1 + 1)) v_b397 v_z991 (decide ((wi .i64 (v_r1074.1 - v_a396)) ≥ (quoI .i64 (wi .i64 (v_b397 - v_a396)) 8))) v_r1074.2.1 v_r1077)
             else
              (v_rec933 v_r1074.2.2 (wi .i64 (v_r1074.1 + 1)) v_b397 v_z991).bind fun (v_r1084 : ((List Int))) =>
              some (.x1 v_a396 v_r1074.1 v_z991 (decide ((wi .i64 (v_b397 - v_r1074.1)) ≥ (quoI .i64 (wi .i64 (v_b397 - v_a396)) 8))) v_r1074.2.1 v_r1084)
        else
         (G_slices_pdqsortOrdered_int_h_C6 n v_a396 v_b397 v_z991 v_wasBalanced399 v_wasPartitioned400 v_z1003 v_z1005).bind fun v_o1101 => match v_o1101 with
         | .x0 v_z1102 v_z1103 =>
           if v_z1102 = true then
            (G_slices_partitionEqualOrdered_int_h n v_z1103 v_a396 v_b397 v_z1003).bind fun (v_r1105 : (Int × (List Int))) =>
            some (.x1 v_r1105.1 v_b397 v_z991 v_wasBalanced399 v_wasPartitioned400 v_r1105.2)
           else
            (G_slices_partitionOrdered_int_h n v_z1103 v_a396 v_b397 v_z1003).bind fun (v_r1112 : (Int × Bool × (List Int))) =>
            if (wi .i64 (v_r1112.1 - v_a396)) < (wi .i64 (v_b397 - v_r1112.1)) then
             (v_rec933 v_r1112.2.2 v_a396 v_r1112.1 v_z991).bind fun (v_r1115 : ((List Int))) =>
             some (.x1 (wi .i64 (v_r1112.1 + 1)) v_b397 v_z991 (decide ((wi .i64 (v_r1112.1 - v_a396)) ≥ (quoI .i64 (wi .i64 (v_b397 - v_a396)) 8))) v_r1112.2.1 v_r1115)
            else
             (v_rec933 v_r1112.2.2 (wi .i64 (v_r1112.1 + 1)) v_b397 v_z991).bind fun (v_r1122 : ((List Int))) =>
             some (.x1 v_a396 v_r1112.1 v_z991 (decide ((wi .i64 (v_b397 - v_r1112.1)) ≥ (quoI .i64 (wi .i64 (v_b397 - v_a396)) 8))) v_r1112.2.1 v_r1122)
theorem G_slices_pdqsortOrdered_int_h_C7_ok {Fi : Ex → PS → Prop} (hF : KC 134 Fi) (ks : List Fr) (n : Nat) (v_a396 : Int) (v_b397 : Int) (v_limit398 : Int) (v_wasBalanced399 : Bool) (v_wasPartitioned400 : Bool) (v_w401 : (List Int)) (v_rec933 : ((List Int) → Int → Int → Int → Option ((List Int)))) (v_rec933_h : ∀ (x0 : (List Int)) (x1 : Int) (x2 : Int) (x3 : Int) (r : (List Int)), v_rec933 x0 x1 x2 x3 = some r → RetH Try.prog 120 [.srf 0, .d ((eI .i64) x1), .d ((eI .i64) x2), .d ((eI .i64) x3)] [.row 3 1 (x0.map (eI .i64))] (.tup []) [.row 3 1 (r.map (eI .i64))]) (o : G_slices_pdqsortOrdered_int_h_C7_R) (h : G_slices_pdqsortOrdered_int_h_C7 n v_a396 v_b397 v_limit398 v_wasBalanced399 v_wasPartitioned400 v_w401 v_rec933 = some o) (q : RunE Try.prog 134 Fi ks (G_slices_pdqsortOrdered_int_h_C7_ex o) (G_slices_pdqsortOrdered_int_h_C7_st v_a396 v_b397 v_limit398 v_wasBalanced399 v_wasPartitioned400 v_w401 v_rec933 o)) : RunE Try.prog 134 Fi (.s (cP (cB (cR (cR (bodyOf Try.f120))))) :: ks) .normal (G_slices_pdqsortOrdered_int_h_C7_hd v_a396 v_b397 v_limit398 v_wasBalanced399 v_wasPartitioned400 v_w401 v_rec933) := by
  unfold G_slices_pdqsortOrdered_int_h_C7 at h
  by_cases h1184 : (wi .i64 (v_b397 - v_a396)) ≤ 12
  · rw [if_pos h1184] at h
    obtain ⟨v_r979, h1185, h⟩ := bind_some h
    cases h
    exact pkk_sound TTok mix hF 12 (hs := [.t true, .h [1] [] [.row 3 1 (v_r979.map (eI .i64))] (.tup [])]) (ts := []) (s := [0, 1]) (l := []) (by kernel_rfl) (by kernel_rfl) (.cons (dt h1184) (.cons (G_slices_insertionSortOrdered_int_h_ok n v_w401 v_a396 v_b397 _ h1185) .nil)) q
  · rw [if_neg h1184] at h
    by_cases h1188 : v_limit398 = 0
    · rw [if_pos h1188] at h
      obtain ⟨v_r982, h1189, h⟩ := bind_some h
      cases h
      exact pkk_sound TTok mix hF 17 (hs := [.t false, .t true, .h [1] [] [.row 3 1 (v_r982.map (eI .i64))] (.tup [])]) (ts := []) (s := [0, 1]) (l := []) (by kernel_rfl) (by kernel_rfl) (.cons (df h1184) (.cons (bt h1188) (.cons (G_slices_heapSortOrdered_int_h_ok n v_w401 v_a396 v_b397 _ h1189) .nil))) q
    · rw [if_neg h1188] at h
      obtain ⟨v_o990, h1194, h⟩ := bind_some h
      refine pkk_sound TTok mix hF 16 (hs := [.t false, .t false]) (ts := []) (s := [0, 1]) (l := [0, 1, 2, 3, 8, 9, 10, 35]) (by kernel_rfl) (by kernel_rfl) (.cons (df h1184) (.cons (bf h1188) .nil)) (G_slices_pdqsortOrdered_int_h_C1_ok hF (.s (cR (cR (cR (cR (cB (cP (cB (cR (cR (bodyOf Try.f120)))))))))) :: .b 1 :: ks) n v_a396 v_b397 v_limit398 v_wasBalanced399 v_wasPartitioned400 v_w401 _ h1194 ?_)
      cases v_o990 with
      | x0 v_z991 v_z992 =>
        try dsimp only at h
        obtain ⟨v_r993, h1195, h⟩ := bind_some h
        obtain ⟨v_o1002, h1200, h⟩ := bind_some h
        refine pkk_sound TTok mix hF 5 (hs := [.c, .r (.tup [(eI .i64) v_r993.1, (eI .i64) v_r993.2])]) (ts := []) (s := [0, 1]) (l := [0, 1, 2, 3, 8, 9, 10, 11, 12, 50]) (by kernel_rfl) (by kernel_rfl) (.cons (G_slices_choosePivotOrdered_int_ok n v_z992 v_a396 v_b397 _ h1195) .nil) (G_slices_pdqsortOrdered_int_h_C2_ok hF (.s (cR (cR (cR (cR (cR (cR (cB (cP (cB (cR (cR (bodyOf Try.f120)))))))))))) :: .b 1 :: ks) n v_a396 v_b397 v_z991 v_wasBalanced399 v_wasPartitioned400 v_r993 v_z992 _ h1200 ?_)
        cases v_o1002 with
        | x0 v_z1003 v_z1004 v_z1005 =>
          try dsimp only at h
          by_cases h1201 : v_wasBalanced399 = true
          · rw [if_pos h1201] at h
            by_cases h1202 : v_wasPartitioned400 = true
            · rw [if_pos h1202] at h
              obtain ⟨v_o1011, h1209, h⟩ := bind_some h
              refine pkk_sound TTok mix hF 3 (hs := [.t true, .t true, .c]) (ts := []) (s := [0, 1]) (l := [0, 1, 2, 3, 8, 9, 10, 11, 68]) (by kernel_rfl) (by kernel_rfl) (.cons h1201 (.cons h1202 .nil)) (G_slices_pdqsortOrdered_int_h_C3_ok hF (.s (cR (cR (cR (cR (cR (cR (cR (cB (cP (cB (cR (cR (bodyOf Try.f120))))))))))))) :: .b 1 :: ks) n v_a396 v_b397 v_z991 v_wasBalanced399 v_wasPartitioned400 v_z1003 v_z1004 v_z1005 _ h1209 ?_)
              cases v_o1011 with
              | x0 v_z1012 =>
                try dsimp only at h
                cases h
                exact pkk_sound TTok mix hF 2 (hs := []) (ts := []) (s := [0, 1]) (l := []) (by kernel_rfl) (by kernel_rfl) .nil q
              | x1 v_z1014 =>
                try dsimp only at h
                obtain ⟨v_o1025, h1222, h⟩ := bind_some h
                refine pkk_sound TTok mix hF 2 (hs := []) (ts := []) (s := [0, 1]) (l := [0, 1, 2, 3, 8, 9, 10, 11]) (by kernel_rfl) (by kernel_rfl) .nil (G_slices_pdqsortOrdered_int_h_C4_ok hF (.s (cR (cL (cR (cR (cR (cR (cR (cR (cR (cB (cP (cB (cR (cR (bodyOf Try.f120))))))))))))))) :: .s (cR (cR (cR (cR (cR (cR (cR (cR (cB (cP (cB (cR (cR (bodyOf Try.f120)))))))))))))) :: .b 1 :: ks) n v_a396 v_b397 v_z991 v_wasBalanced399 v_wasPartitioned400 v_z1003 v_z1014 _ h1222 ?_)
                cases v_o1025 with
                | x0 v_z1026 v_z1027 =>
                  try dsimp only at h
                  by_cases h1225 : v_z1026 = true
                  · rw [if_pos h1225] at h
                    obtain ⟨v_r1029, h1226, h⟩ := bind_some h
                    cases h
                    exact pkk_sound TTok mix hF 8 (hs := [.t true, .h [1] [] [.row 3 1 (v_r1029.2.map (eI .i64))] (.d (.v (.int .i64 v_r1029.1)))]) (ts := []) (s := [0, 1]) (l := [0, 1, 2, 3, 8, 9]) (by kernel_rfl) (by kernel_rfl) (.cons h1225 (.cons (G_slices_partitionEqualOrdered_int_h_ok n v_z1027 v_a396 v_b397 v_z1003 _ h1226) .nil)) q
                  · rw [if_neg h1225] at h
                    obtain ⟨v_r1036, h1227, h⟩ := bind_some h
                    by_cases h1232 : (wi .i64 (v_r1036.1 - v_a396)) < (wi .i64 (v_b397 - v_r1036.1))
                    · rw [if_pos h1232] at h
                      obtain ⟨v_r1039, h1233, h⟩ := bind_some h
                      cases h
                      exact pkk_sound TTok mix hF 19 (hs := [.t false, .h [1] [] [.row 3 1 (v_r1036.2.2.map (eI .i64))] (.tup [.d (.v (.int .i64 v_r1036.1)), .d (.v (.bool v_r1036.2.1))]), .t true, .h [1] [] [.row 3 1 (v_r1039.map (eI .i64))] (.tup [])]) (ts := []) (s := [0, 1]) (l := [0, 1, 2, 3, 8, 9]) (by kernel_rfl) (by kernel_rfl) (.cons (vf h1225) (.cons (G_slices_partitionOrdered_int_h_ok n v_z1027 v_a396 v_b397 v_z1003 _ h1227) (.cons (show (8 : Int) ≠ 0 by decide) (.cons (dt h1232) (.cons (v_rec933_h v_r1036.2.2 v_a396 v_r1036.1 v_z991 _ h1233) .nil))))) q
                    · rw [if_neg h1232] at h
                      obtain ⟨v_r1046, h1234, h⟩ := bind_some h
                      cases h
                      exact pkk_sound TTok mix hF 19 (hs := [.t false, .h [1] [] [.row 3 1 (v_r1036.2.2.map (eI .i64))] (.tup [.d (.v (.int .i64 v_r1036.1)), .d (.v (.bool v_r1036.2.1))]), .t false, .h [1] [] [.row 3 1 (v_r1046.map (eI .i64))] (.tup [])]) (ts := []) (s := [0, 1]) (l := [0, 1, 2, 3, 8, 9]) (by kernel_rfl) (by kernel_rfl) (.cons (vf h1225) (.cons (G_slices_partitionOrdered_int_h_ok n v_z1027 v_a396 v_b397 v_z1003 _ h1227) (.cons (show (8 : Int) ≠ 0 by decide) (.cons (df h1232) (.cons (v_rec933_h v_r1036.2.2 (wi .i64 (v_r1036.1 + 1)) v_b397 v_z991 _ h1234) .nil))))) q
            · rw [if_neg h1202] at h
              obtain ⟨v_o1063, h1247, h⟩ := bind_some h
              refine pkk_sound TTok mix hF 7 (hs := [.t true, .t false, .c, .c]) (ts := []) (s := [0, 1]) (l := [0, 1, 2, 3, 8, 9, 10, 11]) (by kernel_rfl) (by kernel_rfl) (.cons h1201 (.cons (vf h1202) .nil)) (G_slices_pdqsortOrdered_int_h_C5_ok hF (.s (cR (cL (cR (cR (cR (cR (cR (cR (cR (cB (cP (cB (cR (cR (bodyOf Try.f120))))))))))))))) :: .s (cR (cR (cR (cR (cR (cR (cR (cR (cB (cP (cB (cR (cR (bodyOf Try.f120)))))))))))))) :: .b 1 :: ks) n v_a396 v_b397 v_z991 v_wasBalanced399 v_wasPartitioned400 v_z1003 v_z1005 _ h1247 ?_)
              cases v_o1063 with
              | x0 v_z1064 v_z1065 =>
                try dsimp only at h
                by_cases h1250 : v_z1064 = true
                · rw [if_pos h1250] at h
                  obtain ⟨v_r1067, h1251, h⟩ := bind_some h
                  cases h
                  exact pkk_sound TTok mix hF 8 (hs := [.t true, .h [1] [] [.row 3 1 (v_r1067.2.map (eI .i64))] (.d (.v (.int .i64 v_r1067.1)))]) (ts := []) (s := [0, 1]) (l := [0, 1, 2, 3, 8, 9]) (by kernel_rfl) (by kernel_rfl) (.cons h1250 (.cons (G_slices_partitionEqualOrdered_int_h_ok n v_z1065 v_a396 v_b397 v_z1003 _ h1251) .nil)) q
                · rw [if_neg h1250] at h
                  obtain ⟨v_r1074, h1252, h⟩ := bind_some h
                  by_cases h1257 : (wi .i64 (v_r1074.1 - v_a396)) < (wi .i64 (v_b397 - v_r1074.1))
                  · rw [if_pos h1257] at h
                    obtain ⟨v_r1077, h1258, h⟩ := bind_some h
                    cases h
                    exact pkk_sound TTok mix hF 19 (hs := [.t false, .h [1] [] [.row 3 1 (v_r1074.2.2.map (eI .i64))] (.tup [.d (.v (.int .i64 v_r1074.1)), .d (.v (.bool v_r1074.2.1))]), .t true, .h [1] [] [.row 3 1 (v_r1077.map (eI .i64))] (.tup [])]) (ts := []) (s := [0, 1]) (l := [0, 1, 2, 3, 8, 9]) (by kernel_rfl) (by kernel_rfl) (.cons (vf h1250) (.cons (G_slices_partitionOrdered_int_h_ok n v_z1065 v_a396 v_b397 v_z1003 _ h1252) (.cons (show (8 : Int) ≠ 0 by decide) (.cons (dt h1257) (.cons (v_rec933_h v_r1074.2.2 v_a396 v_r1074.1 v_z991 _ h1258) .nil))))) q
                  · rw [if_neg h1257] at h
                    obtain ⟨v_r1084, h1259, h⟩ := bind_some h
                    cases h
                    exact pkk_sound TTok mix hF 19 (hs := [.t false, .h [1] [] [.row 3 1 (v_r1074.2.2.map (eI .i64))] (.tup [.d (.v (.int .i64 v_r1074.1)), .d (.v (.bool v_r1074.2.1))]), .t false, .h [1] [] [.row 3 1 (v_r1084.map (eI .i64))] (.tup [])]) (ts := []) (s := [0, 1]) (l := [0, 1, 2, 3, 8, 9]) (by kernel_rfl) (by kernel_rfl) (.cons (vf h1250) (.cons (G_slices_partitionOrdered_int_h_ok n v_z1065 v_a396 v_b397 v_z1003 _ h1252) (.cons (show (8 : Int) ≠ 0 by decide) (.cons (df h1257) (.cons (v_rec933_h v_r1074.2.2 (wi .i64 (v_r1074.1 + 1)) v_b397 v_z991 _ h1259) .nil))))) q
          · rw [if_neg h1201] at h
            obtain ⟨v_o1101, h1272, h⟩ := bind_some h
            refine pkk_sound TTok mix hF 7 (hs := [.t false, .c, .c, .c]) (ts := []) (s := [0, 1]) (l := [0, 1, 2, 3, 8, 9, 10, 11]) (by kernel_rfl) (by kernel_rfl) (.cons (vf h1201) .nil) (G_slices_pdqsortOrdered_int_h_C6_ok hF (.s (cR (cL (cR (cR (cR (cR (cR (cR (cR (cB (cP (cB (cR (cR (bodyOf Try.f120))))))))))))))) :: .s (cR (cR (cR (cR (cR (cR (cR (cR (cB (cP (cB (cR (cR (bodyOf Try.f120)))))))))))))) :: .b 1 :: ks) n v_a396 v_b397 v_z991 v_wasBalanced399 v_wasPartitioned400 v_z1003 v_z1005 _ h1272 ?_)
            cases v_o1101 with
            | x0 v_z1102 v_z1103 =>
              try dsimp only at h
              by_cases h1275 : v_z1102 = true
              · rw [if_pos h1275] at h
                obtain ⟨v_r1105, h1276, h⟩ := bind_some h
                cases h
                exact pkk_sound TTok mix hF 8 (hs := [.t true, .h [1] [] [.row 3 1 (v_r1105.2.map (eI .i64))] (.d (.v (.int .i64 v_r1105.1)))]) (ts := []) (s := [0, 1]) (l := [0, 1, 2, 3, 8, 9]) (by kernel_rfl) (by kernel_rfl) (.cons h1275 (.cons (G_slices_partitionEqualOrdered_int_h_ok n v_z1103 v_a396 v_b397 v_z1003 _ h1276) .nil)) q
              · rw [if_neg h1275] at h
                obtain ⟨v_r1112, h1277, h⟩ := bind_some h
                by_cases h1282 : (wi .i64 (v_r1112.1 - v_a396)) < (wi .i64 (v_b397 - v_r1112.1))
                · rw [if_pos h1282] at h
                  obtain ⟨v_r1115, h1283, h⟩ := bind_some h
                  cases h
                  exact pkk_sound TTok mix hF 19 (hs := [.t false, .h [1] [] [.row 3 1 (v_r1112.2.2.map (eI .i64))] (.tup [.d (.v (.int .i64 v_r1112.1)), .d (.v (.bool v_r1112.2.1))]), .t true, .h [1] [] [.row 3 1 (v_r1115.map (eI .i64))] (.tup [])]) (ts := []) (s := [0, 1]) (l := [0, 1, 2, 3, 8, 9]) (by kernel_rfl) (by kernel_rfl) (.cons (vf h1275) (.cons (G_slices_partitionOrdered_int_h_ok n v_z1103 v_a396 v_b397 v_z1003 _ h1277) (.cons (show (8 : Int) ≠ 0 by decide) (.cons (dt h1282) (.cons (v_rec933_h v_r1112.2.2 v_a396 v_r1112.1 v_z991 _ h1283) .nil))))) q
                · rw [if_neg h1282] at h
                  obtain ⟨v_r1122, h1284, h⟩ := bind_some h
                  cases h
                  exact pkk_sound TTok mix hF 19 (hs := [.t false, .h [1] [] [.row 3 1 (v_r1112.2.2.map (eI .i64))] (.tup [.d (.v (.int .i64 v_r1112.1)), .d (.v (.bool v_r1112.2.1))]), .t false, .h [1] [] [.row 3 1 (v_r1122.map (eI .i64))] (.tup [])]) (ts := []) (s := [0, 1]) (l := [0, 1, 2, 3, 8, 9]) (by kernel_rfl) (by kernel_rfl) (.cons (vf h1275) (.cons (G_slices_partitionOrdered_int_h_ok n v_z1103 v_a396 v_b397 v_z1003 _ h1277) (.cons (show (8 : Int) ≠ 0 by decide) (.cons (df h1282) (.cons (v_rec933_h v_r1112.2.2 (wi .i64 (v_r1112.1 + 1)) v_b397 v_z991 _ h1284) .nil))))) q
inductive G_slices_pdqsortOrdered_int_h_L8_R where
  | x0 (v_w1131 : (List Int))
def G_slices_pdqsortOrdered_int_h_L8_ex : G_slices_pdqsortOrdered_int_h_L8_R → Ex
  | .x0 _ => .ret
def G_slices_pdqsortOrdered_int_h_L8_st (v_rec933 : ((List Int) → Int → Int → Int → Option ((List Int)))) : G_slices_pdqsortOrdered_int_h_L8_R → PS
  | .x0 v_w1131 => ⟨[dd, dd, dd, dd, dd, dd, dd, dd, dd, dd, dd, dd, dd, dd, dd, dd, dd, dd, dd, dd, dd, dd, dd, dd, dd, dd, dd, dd, dd, dd, dd, dd, dd, dd, dd, dd, dd, dd, dd, dd, dd, dd, dd, dd, dd, dd, dd, dd, dd, dd, dd, dd, dd, dd, dd, dd, dd, dd, dd, dd, dd, dd, dd, dd, dd, dd, dd, dd, dd, dd, dd, dd, dd, dd, dd, dd, dd, dd, dd, dd, dd, dd, dd, dd, dd, dd, dd, dd, dd, dd, dd, dd, dd, dd, dd, dd, dd, dd, dd, dd, dd, dd, dd, dd, dd, dd, dd, dd, dd, dd, dd, dd, dd, dd, dd, dd, dd, dd, dd, dd, dd, dd, dd, dd, dd, dd, dd, dd, dd, dd, dd, dd, dd, dd], [.gh 0 (.srf 1), .row 3 1 (v_w1131.map (eI .i64))]⟩
def G_slices_pdqsortOrdered_int_h_L8_hd (v_rec933 : ((List Int) → Int → Int → Int → Option ((List Int)))) (v_a396 : Int) (v_b397 : Int) (v_limit398 : Int) (v_wasBalanced399 : Bool) (v_wasPartitioned400 : Bool) (v_w401 : (List Int)) : PS := ⟨[.srf 1, .d (.v (.int .i64 v_a396)), .d (.v (.int .i64 v_b397)), .d (.v (.int .i64 v_limit398)), dd, dd, dd, dd, .d (.v (.bool v_wasBalanced399)), .d (.v (.bool v_wasPartitioned400)), dd, dd, dd, dd, dd, dd, dd, dd, dd, dd, dd, dd, dd, dd, dd, dd, dd, dd, dd, dd, dd, dd, dd, dd, dd, dd, dd, dd, dd, dd, dd, dd, dd, dd, dd, dd, dd, dd, dd, dd, dd, dd, dd, dd, dd, dd, dd, dd, dd, dd, dd, dd, dd, dd, dd, dd, dd, dd, dd, dd, dd, dd, dd, dd, dd, dd, dd, dd, dd, dd, dd, dd, dd, dd, dd, dd, dd, dd, dd, dd, dd, dd, dd, dd, dd, dd, dd, dd, dd, dd, dd, dd, dd, dd, dd, dd, dd, dd, dd, dd, dd, dd, dd, dd, dd, dd, dd, dd, dd, dd, dd, dd, dd, dd, dd, dd, dd, dd, dd, dd, dd, dd, dd, dd], [.gh 0 (.srf 1), .row 3 1 (v_w401.map (eI .i64))]⟩
def G_slices_pdqsortOrdered_int_h_L8 (n : Nat) (v_rec933 : ((List Int) → Int → Int → Int → Option ((List Int)))) : Nat → Int → Int → Int → Bool → Bool → (List Int) → Option G_slices_pdqsortOrdered_int_h_L8_R
  | 0, _, _, _, _, _, _ => none
  | k + 1, v_a396, v_b397, v_limit398, v_wasBalanced399, v_wasPartitioned400, v_w401 =>
    (G_slices_pdqsortOrdered_int_h_C7 n v_a396 v_b397 v_limit398 v_wasBalanced399 v_wasPartitioned400 v_w401 v_rec933).bind fun v_o1129 => match v_o1129 with
    | .x0 v_z1130 =>
      some (.x0 v_z1130)
    | .x1 v_z1132 v_z1133 v_z1134 v_z1135 v_z1136 v_z1137 =>
      G_slices_pdqsortOrdered_int_h_L8 n v_rec933 k v_z1132 v_z1133 v_z1134 v_z1135 v_z1136 v_z1137
theorem G_slices_pdqsortOrdered_int_h_L8_ok {Fi : Ex → PS → Prop} (hF : KC 134 Fi) (ks : List Fr) (n : Nat) (v_rec933 : ((List Int) → Int → Int → Int → Option ((List Int)))) (v_rec933_h : ∀ (x0 : (List Int)) (x1 : Int) (x2 : Int) (x3 : Int) (r : (List Int)), v_rec933 x0 x1 x2 x3 = some r → RetH Try.prog 120 [.srf 0, .d ((eI .i64) x1), .d ((eI .i64) x2), .d ((eI .i64) x3)] [.row 3 1 (x0.map (eI .i64))] (.tup []) [.row 3 1 (r.map (eI .i64))]) : ∀ (k : Nat) (v_a396 : Int) (v_b397 : Int) (v_limit398 : Int) (v_wasBalanced399 : Bool) (v_wasPartitioned400 : Bool) (v_w401 : (List Int)) (o : G_slices_pdqsortOrdered_int_h_L8_R), G_slices_pdqsortOrdered_int_h_L8 n v_rec933 k v_a396 v_b397 v_limit398 v_wasBalanced399 v_wasPartitioned400 v_w401 = some o → RunE Try.prog 134 Fi ks (G_slices_pdqsortOrdered_int_h_L8_ex o) (G_slices_pdqsortOrdered_int_h_L8_st v_rec933 o) → RunE Try.prog 134 Fi (.l k (cP (cB (cR (cR (bodyOf Try.f120))))) :: ks) .normal (G_slices_pdqsortOrdered_int_h_L8_hd v_rec933 v_a396 v_b397 v_limit398 v_wasBalanced399 v_wasPartitioned400 v_w401)
  | 0, v_a396, v_b397, v_limit398, v_wasBalanced399, v_wasPartitioned400, v_w401, o, h, q => by rw [G_slices_pdqsortOrdered_int_h_L8] at h; cases h
  | k + 1, v_a396, v_b397, v_limit398, v_wasBalanced399, v_wasPartitioned400, v_w401, o, h, q => by
    rw [G_slices_pdqsortOrdered_int_h_L8] at h
    obtain ⟨v_o1129, h1285, h⟩ := bind_some h
    refine pkk_sound TTok mix hF 1 (hs := []) (ts := []) (s := [0, 1]) (l := [0, 1, 2, 3, 8, 9]) (by kernel_rfl) (by kernel_rfl) .nil (G_slices_pdqsortOrdered_int_h_C7_ok hF (.l k (cP (cB (cR (cR (bodyOf Try.f120))))) :: ks) n v_a396 v_b397 v_limit398 v_wasBalanced399 v_wasPartitioned400 v_w401 v_rec933 v_rec933_h _ h1285 ?_)
    cases v_o1129 with
    | x0 v_z1130 =>
      try dsimp only at h
      cases h
      exact pkk_sound TTok mix hF 1 (hs := []) (ts := []) (s := [0, 1]) (l := []) (by kernel_rfl) (by kernel_rfl) .nil q
    | x1 v_z1132 v_z1133 v_z1134 v_z1135 v_z1136 v_z1137 =>
      try dsimp only at h
      exact pkk_sound TTok mix hF 0 (hs := []) (ts := []) (s := [0, 1]) (l := [0, 1, 2, 3, 8, 9]) (by kernel_rfl) (by kernel_rfl) .nil (G_slices_pdqsortOrdered_int_h_L8_ok hF ks n v_rec933 v_rec933_h k v_z1132 v_z1133 v_z1134 v_z1135 v_z1136 v_z1137 _ h q)
/- slices.pdqsortOrdered[int] -/
def G_slices_pdqsortOrdered_int_h : Nat → (List Int) → Int → Int → Int → Option ((List Int))
  | 0, _, _, _, _ => none
  | n + 1, v_data392, v_a393, v_b394, v_limit395 =>
  (G_slices_pdqsortOrdered_int_h_L8 n (fun x0 x1 x2 x3 => G_slices_pdqsortOrdered_int_h n x0 x1 x2 x3) n v_a393 v_b394 v_limit395 true true v_data392).bind fun v_o1138 => match v_o1138 with
  | .x0 v_z1139 =>
    some v_z1139
theorem G_slices_pdqsortOrdered_int_h_ok : ∀ (n : Nat) (v_data392 : (List Int)) (v_a393 : Int) (v_b394 : Int) (v_limit395 : Int) (r : (List Int)) (h : G_slices_pdqsortOrdered_int_h n v_data392 v_a393 v_b394 v_limit395 = some r), RetH Try.prog 120 [.srf 0, .d ((eI .i64) v_a393), .d ((eI .i64) v_b394), .d ((eI .i64) v_limit395)] [.row 3 1 (v_data392.map (eI .i64))] (.tup []) [.row 3 1 (r.map (eI .i64))]
  | 0, v_data392, v_a393, v_b394, v_limit395, r, h => by rw [G_slices_pdqsortOrdered_int_h] at h; cases h
  | n + 1, v_data392, v_a393, v_b394, v_limit395, r, h => by
    refine retH_run (n := 134) (fn := Try.f120) (c := bodyOf Try.f120) (by kernel_rfl) (by kernel_rfl) (by kernel_rfl) (by kernel_rfl) ?_
    have hF : KC 134 (FinH Try.prog Try.f120 [.row 3 1 (v_data392.map (eI .i64))] (.tup []) [.row 3 1 (r.map (eI .i64))]) := FinH.kc' (by kernel_rfl)
    rw [G_slices_pdqsortOrdered_int_h] at h
    obtain ⟨v_o1138, h1286, h⟩ := bind_some h
    refine pkk_sound TTok mix hF 6 (hs := [.n n]) (ts := []) (s := [1, 0]) (l := [0, 1, 2, 3, 8, 9]) (by kernel_rfl) (by kernel_rfl) .nil (G_slices_pdqsortOrdered_int_h_L8_ok hF (.b 0 :: []) n (fun x0 x1 x2 x3 => G_slices_pdqsortOrdered_int_h n x0 x1 x2 x3) (fun x0 x1 x2 x3 r h => G_slices_pdqsortOrdered_int_h_ok n x0 x1 x2 x3 r h) n v_a393 v_b394 v_limit395 true true v_data392 _ h1286 ?_)
    cases v_o1138 with
    | x0 v_z1139 =>
      try dsimp only at h
      obtain rfl := Option.some.inj h
      exact pendH_sound TTok mix 1 (hs := []) [1] (by kernel_rfl) (by kernel_rfl) (by kernel_rfl) .nil
/- slices.Sort[[]int,int] -/
def G_slices_Sort_int_int_h (n : Nat) (v_x379 : (List Int)) : Option ((List Int)) :=
  (G_math_bits_Len n (wi .u64 (v_x379.length : Int))).bind fun (v_r391 : (Int)) =>
  (G_slices_pdqsortOrdered_int_h n v_x379 0 (v_x379.length : Int) v_r391).bind fun (v_r1140 : ((List Int))) =>
  some v_r1140
theorem G_slices_Sort_int_int_h_ok (n : Nat) (v_x379 : (List Int)) (r : (List Int)) (h : G_slices_Sort_int_int_h n v_x379 = some r) : RetH Try.prog 24 [.srf 0] [.row 3 1 (v_x379.map (eI .i64))] (.tup []) [.row 3 1 (r.map (eI .i64))] := by
  refine retH_run (n := 11) (fn := Try.f24) (c := bodyOf Try.f24) (by kernel_rfl) (by kernel_rfl) (by kernel_rfl) (by kernel_rfl) ?_
  have hF : KC 11 (FinH Try.prog Try.f24 [.row 3 1 (v_x379.map (eI .i64))] (.tup []) [.row 3 1 (r.map (eI .i64))]) := FinH.kc' (by kernel_rfl)
  unfold G_slices_Sort_int_int_h at h
  obtain ⟨v_r391, h537, h⟩ := bind_some h
  obtain ⟨v_r1140, h1287, h⟩ := bind_some h
  obtain rfl := Option.some.inj h
  exact pendH_sound TTok mix 3 (hs := [.u (.d (.v (.int .i64 (v_x379.length : Int)))), .r ((eI .i64) v_r391), .h [0] [] [.row 3 1 (v_r1140.map (eI .i64))] (.tup [])]) [0] (by kernel_rfl) (by kernel_rfl) (by kernel_rfl) (.cons (len_ob (f := (eI .i64)) (l := v_x379)) (.cons (G_math_bits_Len_ok n (wi .u64 (v_x379.length : Int)) _ h537) (.cons (G_slices_pdqsortOrdered_int_h_ok n v_x379 0 (v_x379.length : Int) v_r391 _ h1287) .nil)))
inductive G_ringref5_Signals_Sent_C1_R where
  | x0 (v_x368 : Bool)
def G_ringref5_Signals_Sent_C1_ex : G_ringref5_Signals_Sent_C1_R → Ex
  | .x0 _ => .normal
def G_ringref5_Signals_Sent_C1_st (v_n362 : Int) (v_s361 : S_ringref5_Signals) : G_ringref5_Signals_Sent_C1_R → PS
  | .x0 v_x368 => ⟨[dd, .d (.v (.int .i64 v_n362)), .ref 0 0, dd, .ref 1 0, dd, dd, dd, dd, dd, dd, dd, dd, dd, dd, dd, dd, dd, dd, dd, dd, dd, dd, dd, dd, dd, .d (.v (.bool v_x368)), dd, dd, dd, dd, dd, dd, dd, dd, dd, dd, dd, dd], [.box ((cS_ringref5_Signals v_s361).map FV.d), .box ([.d (vnil), .d (vnil)] ++ ((cA_t87 (fun (_ : Fin 16) => 0)).map FV.d))]⟩
def G_ringref5_Signals_Sent_C1_hd (v_n362 : Int) (v_s361 : S_ringref5_Signals)  : PS := ⟨[dd, .d (.v (.int .i64 v_n362)), .ref 0 0, dd, .ref 1 0, dd, dd, dd, dd, dd, dd, dd, dd, dd, dd, dd, dd, dd, dd, dd, dd, dd, dd, dd, dd, dd, dd, dd, dd, dd, dd, dd, dd, dd, dd, dd, dd, dd, dd], [.box ((cS_ringref5_Signals v_s361).map FV.d), .box ([.d (vnil), .d (vnil)] ++ ((cA_t87 (fun (_ : Fin 16) => 0)).map FV.d))]⟩
def G_ringref5_Signals_Sent_C1 (n : Nat) (v_n362 : Int) (v_s361 : S_ringref5_Signals) : Option G_ringref5_Signals_Sent_C1_R :=
  if 0 ≤ v_n362 ∧ v_n362 < (16 : Int) then
   (getA v_s361.fHow v_n362).bind fun (v_y367 : Int) =>
   if v_y367 = 1 then
    some (.x0 true)
   else
    if v_n362 = 7 then
     if 0 ≤ v_n362 ∧ v_n362 < (16 : Int) then
      (getA v_s361.fHow v_n362).bind fun (v_y369 : Int) =>
      if v_y369 = 0 then
       some (.x0 true)
      else
       (G_slices_Contains_int_int n v_s361.fWait v_n362).bind fun (v_r371 : (Bool)) =>
       some (.x0 v_r371)
     else none
    else
     (G_slices_Contains_int_int n v_s361.fWait v_n362).bind fun (v_r373 : (Bool)) =>
     some (.x0 v_r373)
  else none
theorem G_ringref5_Signals_Sent_C1_ok {Fi : Ex → PS → Prop} (hF : KC 39 Fi) (ks : List Fr) (n : Nat) (v_n362 : Int) (v_s361 : S_ringref5_Signals)  (o : G_ringref5_Signals_Sent_C1_R) (h : G_ringref5_Signals_Sent_C1 n v_n362 v_s361 = some o) (q : RunE Try.prog 39 Fi ks (G_ringref5_Signals_Sent_C1_ex o) (G_ringref5_Signals_Sent_C1_st v_n362 v_s361 o)) : RunE Try.prog 39 Fi (.s (cL (cL (cR (bodyOf Try.f63)))) :: ks) .normal (G_ringref5_Signals_Sent_C1_hd v_n362 v_s361) := by
  unfold G_ringref5_Signals_Sent_C1 at h
  by_cases h487 : 0 ≤ v_n362 ∧ v_n362 < (16 : Int)
  · rw [if_pos h487] at h
    obtain ⟨v_y367, h488, h⟩ := bind_some h
    by_cases h489 : v_y367 = 1
    · rw [if_pos h489] at h
      cases h
      exact pkk_sound TTok mix hF 1 (hs := [.l (.d (.v (.int .i64 v_y367))), .t true, .c, .c, .c, .c, .c, .c, .c]) (ts := []) (s := [0, 1]) (l := [1, 2, 4, 26]) (by kernel_rfl) (by kernel_rfl) (.cons h487 (.cons (arr_cell (γ := FV) (sz := 1) (g := (fun x => [.d (.v (.int .i64 x))])) (pre := [.d (.sl (v_s361.fWait.map (eI .i64))), .d (.sl (v_s361.fBack.map (eI .i64)))]) (post := []) (o := 0) (fun _ => rfl) h488 rfl) (.cons (bt h489) .nil))) q
    · rw [if_neg h489] at h
      by_cases h490 : v_n362 = 7
      · rw [if_pos h490] at h
        by_cases h491 : 0 ≤ v_n362 ∧ v_n362 < (16 : Int)
        · rw [if_pos h491] at h
          obtain ⟨v_y369, h492, h⟩ := bind_some h
          by_cases h493 : v_y369 = 0
          · rw [if_pos h493] at h
            cases h
            exact pkk_sound TTok mix hF 1 (hs := [.l (.d (.v (.int .i64 v_y367))), .t false, .c, .c, .t true, .c, .c, .c, .l (.d (.v (.int .i64 v_y369))), .c, .c, .t true, .c, .c, .c]) (ts := []) (s := [0, 1]) (l := [1, 2, 4, 26]) (by kernel_rfl) (by kernel_rfl) (.cons h487 (.cons (arr_cell (γ := FV) (sz := 1) (g := (fun x => [.d (.v (.int .i64 x))])) (pre := [.d (.sl (v_s361.fWait.map (eI .i64))), .d (.sl (v_s361.fBack.map (eI .i64)))]) (post := []) (o := 0) (fun _ => rfl) h488 rfl) (.cons (bf h489) (.cons (bt h490) (.cons h491 (.cons (arr_cell (γ := FV) (sz := 1) (g := (fun x => [.d (.v (.int .i64 x))])) (pre := [.d (.sl (v_s361.fWait.map (eI .i64))), .d (.sl (v_s361.fBack.map (eI .i64)))]) (post := []) (o := 0) (fun _ => rfl) h492 rfl) (.cons (bt h493) .nil))))))) q
          · rw [if_neg h493] at h
            obtain ⟨v_r371, h494, h⟩ := bind_some h
            cases h
            exact pkk_sound TTok mix hF 1 (hs := [.l (.d (.v (.int .i64 v_y367))), .t false, .c, .c, .t true, .c, .c, .c, .l (.d (.v (.int .i64 v_y369))), .c, .c, .t false, .c, .c, .c, .c, .r (eB v_r371)]) (ts := []) (s := [0, 1]) (l := [1, 2, 4, 26]) (by kernel_rfl) (by kernel_rfl) (.cons h487 (.cons (arr_cell (γ := FV) (sz := 1) (g := (fun x => [.d (.v (.int .i64 x))])) (pre := [.d (.sl (v_s361.fWait.map (eI .i64))), .d (.sl (v_s361.fBack.map (eI .i64)))]) (post := []) (o := 0) (fun _ => rfl) h488 rfl) (.cons (bf h489) (.cons (bt h490) (.cons h491 (.cons (arr_cell (γ := FV) (sz := 1) (g := (fun x => [.d (.v (.int .i64 x))])) (pre := [.d (.sl (v_s361.fWait.map (eI .i64))), .d (.sl (v_s361.fBack.map (eI .i64)))]) (post := []) (o := 0) (fun _ => rfl) h492 rfl) (.cons (bf h493) (.cons (G_slices_Contains_int_int_ok n v_s361.fWait v_n362 _ h494) .nil)))))))) q
        · rw [if_neg h491] at h; cases h
      · rw [if_neg h490] at h
        obtain ⟨v_r373, h495, h⟩ := bind_some h
        cases h
        exact pkk_sound TTok mix hF 1 (hs := [.l (.d (.v (.int .i64 v_y367))), .t false, .c, .c, .t false, .c, .c, .c, .c, .c, .c, .c, .c, .c, .c, .r (eB v_r373)]) (ts := []) (s := [0, 1]) (l := [1, 2, 4, 26]) (by kernel_rfl) (by kernel_rfl) (.cons h487 (.cons (arr_cell (γ := FV) (sz := 1) (g := (fun x => [.d (.v (.int .i64 x))])) (pre := [.d (.sl (v_s361.fWait.map (eI .i64))), .d (.sl (v_s361.fBack.map (eI .i64)))]) (post := []) (o := 0) (fun _ => rfl) h488 rfl) (.cons (bf h489) (.cons (bf h490) (.cons (G_slices_Contains_int_int_ok n v_s361.fWait v_n362 _ h495) .nil))))) q
  · rw [if_neg h487] at h; cases h
/- (ringhall/ringref5.Signals).Sent -/
def G_ringref5_Signals_Sent (n : Nat) (v_s361 : S_ringref5_Signals) (v_n362 : Int) : Option (S_ringref5_Signals) :=
  (G_ringref5_Signals_Sent_C1 n v_n362 v_s361).bind fun v_o375 => match v_o375 with
  | .x0 v_z376 =>
    if v_z376 = true then
     some v_s361
    else
     (G_slices_Clone_int_int n v_s361.fWait).bind fun (v_r377 : ((List Int))) =>
     (app 8 v_r377 ([v_n362])).bind fun (v_a378 : (List Int)) =>
     (G_slices_Sort_int_int_h n v_a378).bind fun (v_r1141 : ((List Int))) =>
     some (S_ringref5_Signals.mk v_r1141 v_s361.fBack v_s361.fHow)
theorem G_ringref5_Signals_Sent_ok (n : Nat) (v_s361 : S_ringref5_Signals) (v_n362 : Int) (r : S_ringref5_Signals) (h : G_ringref5_Signals_Sent n v_s361 v_n362 = some r) : Ret Try.prog 63 [eS_ringref5_Signals v_s361, (eI .i64) v_n362] (eS_ringref5_Signals r) := by
  refine ret_run (n := 39) (fn := Try.f63) (c := bodyOf Try.f63) (by kernel_rfl) (by kernel_rfl) (by kernel_rfl) (by kernel_rfl) ?_
  have hF : KC 39 (FinR Try.prog Try.f63 (eS_ringref5_Signals r)) := FinR.kc' (by kernel_rfl)
  unfold G_ringref5_Signals_Sent at h
  obtain ⟨v_o375, h496, h⟩ := bind_some h
  refine pkk_sound TTok mix hF 4 (hs := []) (ts := []) (s := [0, 3]) (l := [1, 2, 4]) (by kernel_rfl) (by kernel_rfl) .nil (G_ringref5_Signals_Sent_C1_ok hF (.s (cR (cL (cR (bodyOf Try.f63)))) :: .s (cR (cR (bodyOf Try.f63))) :: []) n v_n362 v_s361 _ h496 ?_)
  cases v_o375 with
  | x0 v_z376 =>
    try dsimp only at h
    by_cases h497 : v_z376 = true
    · rw [if_pos h497] at h
      obtain rfl := Option.some.inj h
      exact pend_sound TTok mix 5 (hs := [.t true, .c, .c]) (by kernel_rfl) (by kernel_rfl) (by kernel_rfl) (.cons h497 (.cons (show 0 + 18 ≤ 18 by decide) .nil))
    · rw [if_neg h497] at h
      obtain ⟨v_r377, h498, h⟩ := bind_some h
      obtain ⟨v_a378, h499, h⟩ := bind_some h
      obtain ⟨v_r1141, h1288, h⟩ := bind_some h
      obtain rfl := Option.some.inj h
      exact pend_sound TTok mix 9 (hs := [.t false, .c, .h [] [] [.row 3 1 (v_r377.map (eI .i64))] (.srf 0), .bd, .w (v_a378.map (eI .i64)), .c, .c, .h [17] [] [.row 3 1 (v_r1141.map (eI .i64))] (.tup []), .c, .c]) (by kernel_rfl) (by kernel_rfl) (by kernel_rfl) (.cons (vf h497) (.cons (G_slices_Clone_int_int_ok n v_s361.fWait _ h498) (.cons (app_ob (f := (eI .i64)) (s := 1) h499 (fun _ => rfl)).1 (.cons (app_ob (f := (eI .i64)) (s := 1) h499 (fun _ => rfl)).2.1 (.cons (app_ob (f := (eI .i64)) (s := 1) h499 (fun _ => rfl)).2.2.1 (.cons (app_ob (f := (eI .i64)) (s := 1) h499 (fun _ => rfl)).2.2.2 (.cons (show 0 + 1 ≤ 18 by decide) (.cons (G_slices_Sort_int_int_h_ok n v_a378 _ h1288) (.cons (show 0 + 18 ≤ 18 by decide) .nil)))))))))
inductive G_ringlaw5_SigSays_C1_R where
  | x0 (v_x126 : Bool)
def G_ringlaw5_SigSays_C1_ex : G_ringlaw5_SigSays_C1_R → Ex
  | .x0 _ => .normal
def G_ringlaw5_SigSays_C1_st (v_r40 : (S_sig_Set × Int)) (v_r44 : (S_sig_Set × Int)) (v_r51 : (S_sig_Set × Int)) (v_r60 : (Int × Int)) (v_r64 : (S_sig_Set × Int × Int × Int)) (v_r86 : (S_sig_Set × Int)) (v_r108 : (Int)) : G_ringlaw5_SigSays_C1_R → PS
  | .x0 v_x126 => ⟨[dd, dd, dd, dd, dd, dd, dd, dd, .d (.v (.bool v_x126)), dd, dd, dd, dd, dd, dd, dd, dd, dd, dd, dd, dd, dd, dd, dd, dd, dd, dd, dd, dd, dd, dd, dd, dd, dd, dd, dd, dd, dd, dd, dd, dd, dd, dd, dd, dd, dd, dd, dd, dd, dd, dd, dd, dd, dd, dd, dd, dd, dd, dd, dd, dd, dd, dd, dd, dd, dd, dd, dd, dd, dd, dd, dd, dd, dd, dd, dd, dd, dd, dd, dd, dd, dd, dd, dd, dd, dd, dd, dd, dd, dd, dd, dd, dd, dd, dd, dd, dd, dd, dd, dd, dd, dd, dd, dd, dd, dd, dd, dd, dd, dd, dd, dd, dd, dd, dd, dd, dd, dd, dd, dd, dd, dd, dd, dd, dd, dd, dd, dd, dd, dd, dd, dd, dd, dd, dd, dd, dd, dd, dd, dd, dd, dd, dd, dd, dd, dd, dd, dd, dd, dd, dd, dd, dd, dd, dd, dd, dd, dd, dd, dd, dd, dd, dd, dd, dd, dd, dd, dd, dd, dd, dd, dd, dd, dd, dd, dd, dd, dd, dd, dd, dd, dd, dd, dd, dd, dd, dd, dd, dd, dd, dd, dd, dd, dd, dd, dd, dd, dd, dd, dd, dd, dd, dd, dd, dd, dd, dd, dd, dd, dd, dd, dd, dd, dd, dd, dd, dd, dd, dd, dd, dd, dd, dd, dd, dd, dd, dd, dd, dd, dd, dd, dd, dd, dd, dd, dd, dd, dd, dd, dd, dd, dd, dd, dd, dd, dd, dd, dd, dd, dd, dd, dd, dd, dd, dd, dd, dd, dd, dd, dd, dd, dd, dd, dd, dd, dd, dd, dd, dd, dd, dd, dd, dd, dd, dd, dd, dd, dd, dd, dd, dd, dd, dd, dd, dd, dd, dd, dd, dd, dd, dd, dd, dd, dd, dd, dd, dd, dd, dd, dd, dd, dd, dd, dd, dd, dd, dd, dd, dd, dd, dd, dd, dd, dd, dd, dd, dd, dd, dd, dd, dd, dd, dd, dd, dd, dd, dd, dd, dd, dd, dd, dd, dd, dd, dd, dd, dd, dd, dd, dd, dd, dd, dd, dd, dd, dd, dd, dd, dd, dd, dd, dd], []⟩
def G_ringlaw5_SigSays_C1_hd (v_r40 : (S_sig_Set × Int)) (v_r44 : (S_sig_Set × Int)) (v_r51 : (S_sig_Set × Int)) (v_r60 : (Int × Int)) (v_r64 : (S_sig_Set × Int × Int × Int)) (v_r86 : (S_sig_Set × Int)) (v_r108 : (Int))  : PS := ⟨[dd, dd, dd, dd, dd, dd, dd, dd, dd, .ref 0 0, .d (.v (.int .i64 v_r40.2)), .ref 1 0, .d (.v (.int .i64 v_r44.2)), .ref 2 0, .d (.v (.int .i64 v_r51.2)), .d (.v (.int .i64 v_r60.1)), .d (.v (.int .i64 v_r60.2)), .ref 3 0, .d (.v (.int .i64 v_r64.2.1)), .d (.v (.int .i64 v_r64.2.2.1)), .d (.v (.int .i64 v_r64.2.2.2)), .ref 4 0, .d (.v (.int .i64 v_r86.2)), .ref 5 0, .d (.v (.int .i64 v_r108)), dd, dd, dd, dd, dd, dd, dd, dd, dd, dd, dd, dd, dd, dd, dd, dd, dd, dd, dd, dd, dd, dd, dd, dd, dd, dd, dd, dd, dd, dd, dd, dd, dd, dd, dd, dd, dd, dd, dd, dd, dd, dd, dd, dd, dd, dd, dd, dd, dd, dd, dd, dd, dd, dd, dd, dd, dd, dd, dd, dd, dd, dd, dd, dd, dd, dd, dd, dd, dd, dd, dd, dd, dd, dd, dd, dd, dd, dd, dd, dd, dd, dd, dd, dd, dd, dd, dd, dd, dd, dd, dd, dd, dd, dd, dd, dd, dd, dd, dd, dd, dd, dd, dd, dd, dd, dd, dd, dd, dd, dd, dd, dd, dd, dd, dd, dd, dd, dd, dd, dd, dd, dd, dd, dd, dd, dd, dd, dd, dd, dd, dd, dd, dd, dd, dd, dd, dd, dd, dd, dd, dd, dd, dd, dd, dd, dd, dd, dd, dd, dd, dd, dd, dd, dd, dd, dd, dd, dd, dd, dd, dd, dd, dd, dd, dd, dd, dd, dd, dd, dd, dd, dd, dd, dd, dd, dd, dd, dd, dd, dd, dd, dd, dd, dd, dd, dd, dd, dd, dd, dd, dd, dd, dd, dd, dd, dd, dd, dd, dd, dd, dd, dd, dd, dd, dd, dd, dd, dd, dd, dd, dd, dd, dd, dd, dd, dd, dd, dd, dd, dd, dd, dd, dd, dd, dd, dd, dd, dd, dd, dd, dd, dd, dd, dd, dd, dd, dd, dd, dd, dd, dd, dd, dd, dd, dd, dd, dd, dd, dd, dd, dd, dd, dd, dd, dd, dd, dd, dd, dd, dd, dd, dd, dd, dd, dd, dd, dd, dd, dd, dd, dd, dd, dd, dd, dd, dd, dd, dd, dd, dd, dd, dd, dd, dd, dd, dd, dd, dd, dd, dd, dd, dd, dd, dd, dd, dd, dd, dd, dd, dd, dd, dd, dd, dd, dd, dd, dd, dd, dd, dd, dd, dd, dd, dd, dd, dd, dd, dd, dd, dd, dd, dd, dd, dd, dd, dd, dd], [.box ((cS_sig_Set v_r40.1).map FV.d), .box ((cS_sig_Set v_r44.1).map FV.d), .box ((cS_sig_Set v_r51.1).map FV.d), .box ((cS_sig_Set v_r64.1).map FV.d), .box ((cS_sig_Set v_r86.1).map FV.d), .box ((cS_sig_Set (S_sig_Set.mk 0 0 (fun (_ : Fin 16) => 0))).map FV.d)]⟩
def G_ringlaw5_SigSays_C1 (n : Nat) (v_r40 : (S_sig_Set × Int)) (v_r44 : (S_sig_Set × Int)) (v_r51 : (S_sig_Set × Int)) (v_r60 : (Int × Int)) (v_r64 : (S_sig_Set × Int × Int × Int)) (v_r86 : (S_sig_Set × Int)) (v_r108 : (Int)) : Option G_ringlaw5_SigSays_C1_R :=
  if v_r40.2 = v_r108 then
   if v_r44.2 = v_r108 then
    if v_r51.2 = v_r108 then
     if v_r60.2 = v_r108 then
      if v_r64.2.2.2 = v_r108 then
       if v_r86.2 = v_r108 then
        if (eqRes .eql (eqS_sig_Set v_r40.1 (S_sig_Set.mk 0 0 (fun (_ : Fin 16) => 0)))) = true then
         if (eqRes .eql (eqS_sig_Set v_r44.1 (S_sig_Set.mk 0 0 (fun (_ : Fin 16) => 0)))) = true then
          if (eqRes .eql (eqS_sig_Set v_r51.1 (S_sig_Set.mk 0 0 (fun (_ : Fin 16) => 0)))) = true then
           if (eqRes .eql (eqS_sig_Set v_r64.1 (S_sig_Set.mk 0 0 (fun (_ : Fin 16) => 0)))) = true then
            if (eqRes .eql (eqS_sig_Set v_r86.1 (S_sig_Set.mk 0 0 (fun (_ : Fin 16) => 0)))) = true then
             if v_r60.1 = 0 then
              if v_r64.2.1 = 0 then
               some (.x0 (v_r64.2.2.1 == 0))
              else
               some (.x0 false)
             else
              some (.x0 false)
            else
             some (.x0 false)
           else
            some (.x0 false)
          else
           some (.x0 false)
         else
          some (.x0 false)
        else
         some (.x0 false)
       else
        some (.x0 false)
      else
       some (.x0 false)
     else
      some (.x0 false)
    else
     some (.x0 false)
   else
    some (.x0 false)
  else
   some (.x0 false)
theorem G_ringlaw5_SigSays_C1_ok {Fi : Ex → PS → Prop} (hF : KC 352 Fi) (ks : List Fr) (n : Nat) (v_r40 : (S_sig_Set × Int)) (v_r44 : (S_sig_Set × Int)) (v_r51 : (S_sig_Set × Int)) (v_r60 : (Int × Int)) (v_r64 : (S_sig_Set × Int × Int × Int)) (v_r86 : (S_sig_Set × Int)) (v_r108 : (Int))  (o : G_ringlaw5_SigSays_C1_R) (h : G_ringlaw5_SigSays_C1 n v_r40 v_r44 v_r51 v_r60 v_r64 v_r86 v_r108 = some o) (q : RunE Try.prog 352 Fi ks (G_ringlaw5_SigSays_C1_ex o) (G_ringlaw5_SigSays_C1_st v_r40 v_r44 v_r51 v_r60 v_r64 v_r86 v_r108 o)) : RunE Try.prog 352 Fi (.s (cL (cT (cR (cL (cR (cR (cR (cR (cR (cR (cR (cR (cR (cR (bodyOf Try.f7))))))))))))))) :: ks) .normal (G_ringlaw5_SigSays_C1_hd v_r40 v_r44 v_r51 v_r60 v_r64 v_r86 v_r108) := by
  unfold G_ringlaw5_SigSays_C1 at h
  by_cases h207 : v_r40.2 = v_r108
  · rw [if_pos h207] at h
    by_cases h208 : v_r44.2 = v_r108
    · rw [if_pos h208] at h
      by_cases h209 : v_r51.2 = v_r108
      · rw [if_pos h209] at h
        by_cases h210 : v_r60.2 = v_r108
        · rw [if_pos h210] at h
          by_cases h211 : v_r64.2.2.2 = v_r108
          · rw [if_pos h211] at h
            by_cases h212 : v_r86.2 = v_r108
            · rw [if_pos h212] at h
              by_cases h213 : (eqRes .eql (eqS_sig_Set v_r40.1 (S_sig_Set.mk 0 0 (fun (_ : Fin 16) => 0)))) = true
              · rw [if_pos h213] at h
                by_cases h214 : (eqRes .eql (eqS_sig_Set v_r44.1 (S_sig_Set.mk 0 0 (fun (_ : Fin 16) => 0)))) = true
                · rw [if_pos h214] at h
                  by_cases h215 : (eqRes .eql (eqS_sig_Set v_r51.1 (S_sig_Set.mk 0 0 (fun (_ : Fin 16) => 0)))) = true
                  · rw [if_pos h215] at h
                    by_cases h216 : (eqRes .eql (eqS_sig_Set v_r64.1 (S_sig_Set.mk 0 0 (fun (_ : Fin 16) => 0)))) = true
                    · rw [if_pos h216] at h
                      by_cases h217 : (eqRes .eql (eqS_sig_Set v_r86.1 (S_sig_Set.mk 0 0 (fun (_ : Fin 16) => 0)))) = true
                      · rw [if_pos h217] at h
                        by_cases h218 : v_r60.1 = 0
                        · rw [if_pos h218] at h
                          by_cases h219 : v_r64.2.1 = 0
                          · rw [if_pos h219] at h
                            cases h
                            exact pkk_sound TTok mix hF 1 (hs := [.t true, .c, .c, .t true, .c, .c, .t true, .c, .c, .t true, .c, .c, .t true, .c, .c, .t true, .c, .c, .c, .c, .q (eqS_sig_Set v_r40.1 (S_sig_Set.mk 0 0 (fun (_ : Fin 16) => 0))), .t true, .c, .c, .c, .c, .q (eqS_sig_Set v_r44.1 (S_sig_Set.mk 0 0 (fun (_ : Fin 16) => 0))), .t true, .c, .c, .c, .c, .q (eqS_sig_Set v_r51.1 (S_sig_Set.mk 0 0 (fun (_ : Fin 16) => 0))), .t true, .c, .c, .c, .c, .q (eqS_sig_Set v_r64.1 (S_sig_Set.mk 0 0 (fun (_ : Fin 16) => 0))), .t true, .c, .c, .c, .c, .q (eqS_sig_Set v_r86.1 (S_sig_Set.mk 0 0 (fun (_ : Fin 16) => 0))), .t true, .c, .t true, .c, .t true, .c]) (ts := []) (s := []) (l := [8]) (by kernel_rfl) (by kernel_rfl) (.cons (bt h207) (.cons (bt h208) (.cons (bt h209) (.cons (bt h210) (.cons (bt h211) (.cons (bt h212) (.cons (eqS_sig_Set_ok v_r40.1 (S_sig_Set.mk 0 0 (fun (_ : Fin 16) => 0))) (.cons h213 (.cons (eqS_sig_Set_ok v_r44.1 (S_sig_Set.mk 0 0 (fun (_ : Fin 16) => 0))) (.cons h214 (.cons (eqS_sig_Set_ok v_r51.1 (S_sig_Set.mk 0 0 (fun (_ : Fin 16) => 0))) (.cons h215 (.cons (eqS_sig_Set_ok v_r64.1 (S_sig_Set.mk 0 0 (fun (_ : Fin 16) => 0))) (.cons h216 (.cons (eqS_sig_Set_ok v_r86.1 (S_sig_Set.mk 0 0 (fun (_ : Fin 16) => 0))) (.cons h217 (.cons (bt h218) (.cons (bt h219) .nil)))))))))))))))))) q
                          · rw [if_neg h219] at h
                            cases h
                            exact pkk_sound TTok mix hF 1 (hs := [.t true, .c, .c, .t true, .c, .c, .t true, .c, .c, .t true, .c, .c, .t true, .c, .c, .t true, .c, .c, .c, .c, .q (eqS_sig_Set v_r40.1 (S_sig_Set.mk 0 0 (fun (_ : Fin 16) => 0))), .t true, .c, .c, .c, .c, .q (eqS_sig_Set v_r44.1 (S_sig_Set.mk 0 0 (fun (_ : Fin 16) => 0))), .t true, .c, .c, .c, .c, .q (eqS_sig_Set v_r51.1 (S_sig_Set.mk 0 0 (fun (_ : Fin 16) => 0))), .t true, .c, .c, .c, .c, .q (eqS_sig_Set v_r64.1 (S_sig_Set.mk 0 0 (fun (_ : Fin 16) => 0))), .t true, .c, .c, .c, .c, .q (eqS_sig_Set v_r86.1 (S_sig_Set.mk 0 0 (fun (_ : Fin 16) => 0))), .t true, .c, .t true, .c, .t false, .c]) (ts := []) (s := []) (l := [8]) (by kernel_rfl) (by kernel_rfl) (.cons (bt h207) (.cons (bt h208) (.cons (bt h209) (.cons (bt h210) (.cons (bt h211) (.cons (bt h212) (.cons (eqS_sig_Set_ok v_r40.1 (S_sig_Set.mk 0 0 (fun (_ : Fin 16) => 0))) (.cons h213 (.cons (eqS_sig_Set_ok v_r44.1 (S_sig_Set.mk 0 0 (fun (_ : Fin 16) => 0))) (.cons h214 (.cons (eqS_sig_Set_ok v_r51.1 (S_sig_Set.mk 0 0 (fun (_ : Fin 16) => 0))) (.cons h215 (.cons (eqS_sig_Set_ok v_r64.1 (S_sig_Set.mk 0 0 (fun (_ : Fin 16) => 0))) (.cons h216 (.cons (eqS_sig_Set_ok v_r86.1 (S_sig_Set.mk 0 0 (fun (_ : Fin 16) => 0))) (.cons h217 (.cons (bt h218) (.cons (bf h219) .nil)))))))))))))))))) q
                        · rw [if_neg h218] at h
                          cases h
                          exact pkk_sound TTok mix hF 1 (hs := [.t true, .c, .c, .t true, .c, .c, .t true, .c, .c, .t true, .c, .c, .t true, .c, .c, .t true, .c, .c, .c, .c, .q (eqS_sig_Set v_r40.1 (S_sig_Set.mk 0 0 (fun (_ : Fin 16) => 0))), .t true, .c, .c, .c, .c, .q (eqS_sig_Set v_r44.1 (S_sig_Set.mk 0 0 (fun (_ : Fin 16) => 0))), .t true, .c, .c, .c, .c, .q (eqS_sig_Set v_r51.1 (S_sig_Set.mk 0 0 (fun (_ : Fin 16) => 0))), .t true, .c, .c, .c, .c, .q (eqS_sig_Set v_r64.1 (S_sig_Set.mk 0 0 (fun (_ : Fin 16) => 0))), .t true, .c, .c, .c, .c, .q (eqS_sig_Set v_r86.1 (S_sig_Set.mk 0 0 (fun (_ : Fin 16) => 0))), .t true, .c, .t false, .c, .c, .c]) (ts := []) (s := []) (l := [8]) (by kernel_rfl) (by kernel_rfl) (.cons (bt h207) (.cons (bt h208) (.cons (bt h209) (.cons (bt h210) (.cons (bt h211) (.cons (bt h212) (.cons (eqS_sig_Set_ok v_r40.1 (S_sig_Set.mk 0 0 (fun (_ : Fin 16) => 0))) (.cons h213 (.cons (eqS_sig_Set_ok v_r44.1 (S_sig_Set.mk 0 0 (fun (_ : Fin 16) => 0))) (.cons h214 (.cons (eqS_sig_Set_ok v_r51.1 (S_sig_Set.mk 0 0 (fun (_ : Fin 16) => 0))) (.cons h215 (.cons (eqS_sig_Set_ok v_r64.1 (S_sig_Set.mk 0 0 (fun (_ : Fin 16) => 0))) (.cons h216 (.cons (eqS_sig_Set_ok v_r86.1 (S_sig_Set.mk 0 0 (fun (_ : Fin 16) => 0))) (.cons h217 (.cons (bf h218) .nil))))))))))))))))) q
                      · rw [if_neg h217] at h
                        cases h
                        exact pkk_sound TTok mix hF 1 (hs := [.t true, .c, .c, .t true, .c, .c, .t true, .c, .c, .t true, .c, .c, .t true, .c, .c, .t true, .c, .c, .c, .c, .q (eqS_sig_Set v_r40.1 (S_sig_Set.mk 0 0 (fun (_ : Fin 16) => 0))), .t true, .c, .c, .c, .c, .q (eqS_sig_Set v_r44.1 (S_sig_Set.mk 0 0 (fun (_ : Fin 16) => 0))), .t true, .c, .c, .c, .c, .q (eqS_sig_Set v_r51.1 (S_sig_Set.mk 0 0 (fun (_ : Fin 16) => 0))), .t true, .c, .c, .c, .c, .q (eqS_sig_Set v_r64.1 (S_sig_Set.mk 0 0 (fun (_ : Fin 16) => 0))), .t true, .c, .c, .c, .c, .q (eqS_sig_Set v_r86.1 (S_sig_Set.mk 0 0 (fun (_ : Fin 16) => 0))), .t false, .c, .c, .c, .c, .c]) (ts := []) (s := []) (l := [8]) (by kernel_rfl) (by kernel_rfl) (.cons (bt h207) (.cons (bt h208) (.cons (bt h209) (.cons (bt h210) (.cons (bt h211) (.cons (bt h212) (.cons (eqS_sig_Set_ok v_r40.1 (S_sig_Set.mk 0 0 (fun (_ : Fin 16) => 0))) (.cons h213 (.cons (eqS_sig_Set_ok v_r44.1 (S_sig_Set.mk 0 0 (fun (_ : Fin 16) => 0))) (.cons h214 (.cons (eqS_sig_Set_ok v_r51.1 (S_sig_Set.mk 0 0 (fun (_ : Fin 16) => 0))) (.cons h215 (.cons (eqS_sig_Set_ok v_r64.1 (S_sig_Set.mk 0 0 (fun (_ : Fin 16) => 0))) (.cons h216 (.cons (eqS_sig_Set_ok v_r86.1 (S_sig_Set.mk 0 0 (fun (_ : Fin 16) => 0))) (.cons (vf h217) .nil)))))))))))))))) q
                    · rw [if_neg h216] at h
                      cases h
                      exact pkk_sound TTok mix hF 1 (hs := [.t true, .c, .c, .t true, .c, .c, .t true, .c, .c, .t true, .c, .c, .t true, .c, .c, .t true, .c, .c, .c, .c, .q (eqS_sig_Set v_r40.1 (S_sig_Set.mk 0 0 (fun (_ : Fin 16) => 0))), .t true, .c, .c, .c, .c, .q (eqS_sig_Set v_r44.1 (S_sig_Set.mk 0 0 (fun (_ : Fin 16) => 0))), .t true, .c, .c, .c, .c, .q (eqS_sig_Set v_r51.1 (S_sig_Set.mk 0 0 (fun (_ : Fin 16) => 0))), .t true, .c, .c, .c, .c, .q (eqS_sig_Set v_r64.1 (S_sig_Set.mk 0 0 (fun (_ : Fin 16) => 0))), .t false, .c, .c, .c, .c, .c, .c, .c, .c]) (ts := []) (s := []) (l := [8]) (by kernel_rfl) (by kernel_rfl) (.cons (bt h207) (.cons (bt h208) (.cons (bt h209) (.cons (bt h210) (.cons (bt h211) (.cons (bt h212) (.cons (eqS_sig_Set_ok v_r40.1 (S_sig_Set.mk 0 0 (fun (_ : Fin 16) => 0))) (.cons h213 (.cons (eqS_sig_Set_ok v_r44.1 (S_sig_Set.mk 0 0 (fun (_ : Fin 16) => 0))) (.cons h214 (.cons (eqS_sig_Set_ok v_r51.1 (S_sig_Set.mk 0 0 (fun (_ : Fin 16) => 0))) (.cons h215 (.cons (eqS_sig_Set_ok v_r64.1 (S_sig_Set.mk 0 0 (fun (_ : Fin 16) => 0))) (.cons (vf h216) .nil)))))))))))))) q
                  · rw [if_neg h215] at h
                    cases h
                    exact pkk_sound TTok mix hF 1 (hs := [.t true, .c, .c, .t true, .c, .c, .t true, .c, .c, .t true, .c, .c, .t true, .c, .c, .t true, .c, .c, .c, .c, .q (eqS_sig_Set v_r40.1 (S_sig_Set.mk 0 0 (fun (_ : Fin 16) => 0))), .t true, .c, .c, .c, .c, .q (eqS_sig_Set v_r44.1 (S_sig_Set.mk 0 0 (fun (_ : Fin 16) => 0))), .t true, .c, .c, .c, .c, .q (eqS_sig_Set v_r51.1 (S_sig_Set.mk 0 0 (fun (_ : Fin 16) => 0))), .t false, .c, .c, .c, .c, .c, .c, .c, .c, .c, .c, .c]) (ts := []) (s := []) (l := [8]) (by kernel_rfl) (by kernel_rfl) (.cons (bt h207) (.cons (bt h208) (.cons (bt h209) (.cons (bt h210) (.cons (bt h211) (.cons (bt h212) (.cons (eqS_sig_Set_ok v_r40.1 (S_sig_Set.mk 0 0 (fun (_ : Fin 16) => 0))) (.cons h213 (.cons (eqS_sig_Set_ok v_r44.1 (S_sig_Set.mk 0 0 (fun (_ : Fin 16) => 0))) (.cons h214 (.cons (eqS_sig_Set_ok v_r51.1 (S_sig_Set.mk 0 0 (fun (_ : Fin 16) => 0))) (.cons (vf h215) .nil)))))))))))) q
                · rw [if_neg h214] at h
                  cases h
                  exact pkk_sound TTok mix hF 1 (hs := [.t true, .c, .c, .t true, .c, .c, .t true, .c, .c, .t true, .c, .c, .t true, .c, .c, .t true, .c, .c, .c, .c, .q (eqS_sig_Set v_r40.1 (S_sig_Set.mk 0 0 (fun (_ : Fin 16) => 0))), .t true, .c, .c, .c, .c, .q (eqS_sig_Set v_r44.1 (S_sig_Set.mk 0 0 (fun (_ : Fin 16) => 0))), .t false, .c, .c, .c, .c, .c, .c, .c, .c, .c, .c, .c, .c, .c, .c]) (ts := []) (s := []) (l := [8]) (by kernel_rfl) (by kernel_rfl) (.cons (bt h207) (.cons (bt h208) (.cons (bt h209) (.cons (bt h210) (.cons (bt h211) (.cons (bt h212) (.cons (eqS_sig_Set_ok v_r40.1 (S_sig_Set.mk 0 0 (fun (_ : Fin 16) => 0))) (.cons h213 (.cons (eqS_sig_Set_ok v_r44.1 (S_sig_Set.mk 0 0 (fun (_ : Fin 16) => 0))) (.cons (vf h214) .nil)))))))))) q
              · rw [if_neg h213] at h
                cases h
                exact pkk_sound TTok mix hF 1 (hs := [.t true, .c, .c, .t true, .c, .c, .t true, .c, .c, .t true, .c, .c, .t true, .c, .c, .t true, .c, .c, .c, .c, .q (eqS_sig_Set v_r40.1 (S_sig_Set.mk 0 0 (fun (_ : Fin 16) => 0))), .t false, .c, .c, .c, .c, .c, .c, .c, .c, .c, .c, .c, .c, .c, .c, .c, .c, .c]) (ts := []) (s := []) (l := [8]) (by kernel_rfl) (by kernel_rfl) (.cons (bt h207) (.cons (bt h208) (.cons (bt h209) (.cons (bt h210) (.cons (bt h211) (.cons (bt h212) (.cons (eqS_sig_Set_ok v_r40.1 (S_sig_Set.mk 0 0 (fun (_ : Fin 16) => 0))) (.cons (vf h213) .nil)))))))) q
            · rw [if_neg h212] at h
              cases h
              exact pkk_sound TTok mix hF 1 (hs := [.t true, .c, .c, .t true, .c, .c, .t true, .c, .c, .t true, .c, .c, .t true, .c, .c, .t false, .c, .c, .c, .c, .c, .c, .c, .c, .c, .c, .c, .c, .c, .c, .c, .c, .c, .c, .c, .c]) (ts := []) (s := []) (l := [8]) (by kernel_rfl) (by kernel_rfl) (.cons (bt h207) (.cons (bt h208) (.cons (bt h209) (.cons (bt h210) (.cons (bt h211) (.cons (bf h212) .nil)))))) q
          · rw [if_neg h211] at h
            cases h
            exact pkk_sound TTok mix hF 1 (hs := [.t true, .c, .c, .t true, .c, .c, .t true, .c, .c, .t true, .c, .c, .t false, .c, .c, .c, .c, .c, .c, .c, .c, .c, .c, .c, .c, .c, .c, .c, .c, .c, .c, .c, .c, .c, .c, .c]) (ts := []) (s := []) (l := [8]) (by kernel_rfl) (by kernel_rfl) (.cons (bt h207) (.cons (bt h208) (.cons (bt h209) (.cons (bt h210) (.cons (bf h211) .nil))))) q
        · rw [if_neg h210] at h
          cases h
          exact pkk_sound TTok mix hF 1 (hs := [.t true, .c, .c, .t true, .c, .c, .t true, .c, .c, .t false, .c, .c, .c, .c, .c, .c, .c, .c, .c, .c, .c, .c, .c, .c, .c, .c, .c, .c, .c, .c, .c, .c, .c, .c, .c, .c]) (ts := []) (s := []) (l := [8]) (by kernel_rfl) (by kernel_rfl) (.cons (bt h207) (.cons (bt h208) (.cons (bt h209) (.cons (bf h210) .nil)))) q
      · rw [if_neg h209] at h
        cases h
        exact pkk_sound TTok mix hF 1 (hs := [.t true, .c, .c, .t true, .c, .c, .t false, .c, .c, .c, .c, .c, .c, .c, .c, .c, .c, .c, .c, .c, .c, .c, .c, .c, .c, .c, .c, .c, .c, .c, .c, .c, .c, .c, .c, .c]) (ts := []) (s := []) (l := [8]) (by kernel_rfl) (by kernel_rfl) (.cons (bt h207) (.cons (bt h208) (.cons (bf h209) .nil))) q
    · rw [if_neg h208] at h
      cases h
      exact pkk_sound TTok mix hF 1 (hs := [.t true, .c, .c, .t false, .c, .c, .c, .c, .c, .c, .c, .c, .c, .c, .c, .c, .c, .c, .c, .c, .c, .c, .c, .c, .c, .c, .c, .c, .c, .c, .c, .c, .c, .c, .c, .c]) (ts := []) (s := []) (l := [8]) (by kernel_rfl) (by kernel_rfl) (.cons (bt h207) (.cons (bf h208) .nil)) q
  · rw [if_neg h207] at h
    cases h
    exact pkk_sound TTok mix hF 1 (hs := [.t false, .c, .c, .c, .c, .c, .c, .c, .c, .c, .c, .c, .c, .c, .c, .c, .c, .c, .c, .c, .c, .c, .c, .c, .c, .c, .c, .c, .c, .c, .c, .c, .c, .c, .c, .c]) (ts := []) (s := []) (l := [8]) (by kernel_rfl) (by kernel_rfl) (.cons (bf h207) .nil) q
inductive G_ringlaw5_SigSays_C2_R where
  | x0 (v_x265 : Bool)
def G_ringlaw5_SigSays_C2_ex : G_ringlaw5_SigSays_C2_R → Ex
  | .x0 _ => .normal
def G_ringlaw5_SigSays_C2_st (v_n2 : Int) (v_how3 : Int) (v_exec4 : Bool) (v_r40 : (S_sig_Set × Int)) (v_r44 : (S_sig_Set × Int)) (v_r51 : (S_sig_Set × Int)) (v_r60 : (Int × Int)) (v_r64 : (S_sig_Set × Int × Int × Int)) (v_r86 : (S_sig_Set × Int)) (v_s1 : S_sig_Set) (v_r157 : (S_ringref5_Signals)) : G_ringlaw5_SigSays_C2_R → PS
  | .x0 v_x265 => ⟨[dd, .d (.v (.int .i64 v_n2)), .d (.v (.int .i64 v_how3)), .d (.v (.bool v_exec4)), .ref 0 0, dd, dd, dd, dd, .ref 1 0, .d (.v (.int .i64 v_r40.2)), .ref 2 0, .d (.v (.int .i64 v_r44.2)), .ref 3 0, .d (.v (.int .i64 v_r51.2)), dd, dd, dd, dd, dd, dd, .ref 4 0, .d (.v (.int .i64 v_r86.2)), .ref 5 0, dd, .ref 6 0, dd, dd, dd, dd, dd, dd, dd, dd, dd, dd, dd, dd, dd, dd, dd, dd, dd, dd, dd, dd, dd, dd, dd, dd, dd, dd, dd, dd, dd, dd, dd, dd, dd, dd, dd, dd, dd, dd, dd, dd, dd, dd, dd, dd, dd, dd, dd, dd, dd, dd, dd, dd, dd, dd, dd, dd, dd, dd, dd, dd, dd, dd, dd, dd, dd, dd, dd, dd, dd, dd, dd, dd, dd, dd, dd, dd, dd, dd, dd, dd, dd, dd, dd, dd, dd, dd, dd, dd, dd, dd, dd, dd, dd, dd, dd, dd, dd, dd, dd, dd, dd, dd, dd, dd, dd, dd, dd, dd, dd, dd, dd, dd, dd, dd, dd, dd, dd, dd, dd, dd, dd, dd, dd, dd, dd, dd, dd, dd, dd, dd, dd, dd, dd, dd, dd, dd, dd, dd, dd, dd, dd, dd, dd, dd, dd, dd, dd, dd, dd, dd, dd, dd, dd, .d (.v (.bool v_x265)), dd, dd, dd, dd, dd, dd, dd, dd, dd, dd, dd, dd, dd, dd, dd, dd, dd, dd, dd, dd, dd, dd, dd, dd, dd, dd, dd, dd, dd, dd, dd, dd, dd, dd, dd, dd, dd, dd, dd, dd, dd, dd, dd, dd, dd, dd, dd, dd, dd, dd, dd, dd, dd, dd, dd, dd, dd, dd, dd, dd, dd, dd, dd, dd, dd, dd, dd, dd, dd, dd, dd, dd, dd, dd, dd, dd, dd, dd, dd, dd, dd, dd, dd, dd, dd, dd, dd, dd, dd, dd, dd, dd, dd, dd, dd, dd, dd, dd, dd, dd, dd, dd, dd, dd, dd, dd, dd, dd, dd, dd, dd, dd, dd, dd, dd, dd, dd, dd, dd, dd, dd, dd, dd, dd, dd, dd, dd, dd, dd, dd, dd, dd, dd, dd, dd, dd, dd, dd, dd, dd, dd, dd, dd, dd, dd, dd, dd, dd, dd, dd, dd, dd, dd, dd, dd, dd, dd, dd, dd, dd, dd, dd, dd, dd, dd, dd, dd, dd, dd, dd, dd, dd], [.box ((cS_sig_Set v_s1).map FV.d), .box ((cS_sig_Set v_r40.1).map FV.d), .box ((cS_sig_Set v_r44.1).map FV.d), .box ((cS_sig_Set v_r51.1).map FV.d), .box ((cS_sig_Set v_r86.1).map FV.d), .box ((cS_sig_Set (S_sig_Set.mk 0 0 (fun (_ : Fin 16) => 0))).map FV.d), .box ((cS_ringref5_Signals v_r157).map FV.d)]⟩
def G_ringlaw5_SigSays_C2_hd (v_n2 : Int) (v_how3 : Int) (v_exec4 : Bool) (v_r40 : (S_sig_Set × Int)) (v_r44 : (S_sig_Set × Int)) (v_r51 : (S_sig_Set × Int)) (v_r60 : (Int × Int)) (v_r64 : (S_sig_Set × Int × Int × Int)) (v_r86 : (S_sig_Set × Int)) (v_s1 : S_sig_Set) (v_r157 : (S_ringref5_Signals))  : PS := ⟨[dd, .d (.v (.int .i64 v_n2)), .d (.v (.int .i64 v_how3)), .d (.v (.bool v_exec4)), .ref 0 0, dd, dd, dd, dd, .ref 1 0, .d (.v (.int .i64 v_r40.2)), .ref 2 0, .d (.v (.int .i64 v_r44.2)), .ref 3 0, .d (.v (.int .i64 v_r51.2)), .d (.v (.int .i64 v_r60.1)), .d (.v (.int .i64 v_r60.2)), .ref 4 0, .d (.v (.int .i64 v_r64.2.1)), .d (.v (.int .i64 v_r64.2.2.1)), .d (.v (.int .i64 v_r64.2.2.2)), .ref 5 0, .d (.v (.int .i64 v_r86.2)), .ref 6 0, dd, .ref 7 0, dd, dd, dd, dd, dd, dd, dd, dd, dd, dd, dd, dd, dd, dd, dd, dd, dd, dd, dd, dd, dd, dd, dd, dd, dd, dd, dd, dd, dd, dd, dd, dd, dd, dd, dd, dd, dd, dd, dd, dd, dd, dd, dd, dd, dd, dd, dd, dd, dd, dd, dd, dd, dd, dd, dd, dd, dd, dd, dd, dd, dd, dd, dd, dd, dd, dd, dd, dd, dd, dd, dd, dd, dd, dd, dd, dd, dd, dd, dd, dd, dd, dd, dd, dd, dd, dd, dd, dd, dd, dd, dd, dd, dd, dd, dd, dd, dd, dd, dd, dd, dd, dd, dd, dd, dd, dd, dd, dd, dd, dd, dd, dd, dd, dd, dd, dd, dd, dd, dd, dd, dd, dd, dd, dd, dd, dd, dd, dd, dd, dd, dd, dd, dd, dd, dd, dd, dd, dd, dd, dd, dd, dd, dd, dd, dd, dd, dd, dd, dd, dd, dd, dd, dd, dd, dd, dd, dd, dd, dd, dd, dd, dd, dd, dd, dd, dd, dd, dd, dd, dd, dd, dd, dd, dd, dd, dd, dd, dd, dd, dd, dd, dd, dd, dd, dd, dd, dd, dd, dd, dd, dd, dd, dd, dd, dd, dd, dd, dd, dd, dd, dd, dd, dd, dd, dd, dd, dd, dd, dd, dd, dd, dd, dd, dd, dd, dd, dd, dd, dd, dd, dd, dd, dd, dd, dd, dd, dd, dd, dd, dd, dd, dd, dd, dd, dd, dd, dd, dd, dd, dd, dd, dd, dd, dd, dd, dd, dd, dd, dd, dd, dd, dd, dd, dd, dd, dd, dd, dd, dd, dd, dd, dd, dd, dd, dd, dd, dd, dd, dd, dd, dd, dd, dd, dd, dd, dd, dd, dd, dd, dd, dd, dd, dd, dd, dd, dd, dd, dd, dd, dd, dd, dd, dd, dd, dd, dd, dd, dd, dd, dd, dd, dd, dd, dd, dd, dd, dd, dd, dd, dd, dd, dd, dd, dd, dd, dd, dd, dd, dd, dd, dd, dd, dd, dd, dd, dd], [.box ((cS_sig_Set v_s1).map FV.d), .box ((cS_sig_Set v_r40.1).map FV.d), .box ((cS_sig_Set v_r44.1).map FV.d), .box ((cS_sig_Set v_r51.1).map FV.d), .box ((cS_sig_Set v_r64.1).map FV.d), .box ((cS_sig_Set v_r86.1).map FV.d), .box ((cS_sig_Set (S_sig_Set.mk 0 0 (fun (_ : Fin 16) => 0))).map FV.d), .box ((cS_ringref5_Signals v_r157).map FV.d)]⟩
def G_ringlaw5_SigSays_C2 (n : Nat) (v_n2 : Int) (v_how3 : Int) (v_exec4 : Bool) (v_r40 : (S_sig_Set × Int)) (v_r44 : (S_sig_Set × Int)) (v_r51 : (S_sig_Set × Int)) (v_r60 : (Int × Int)) (v_r64 : (S_sig_Set × Int × Int × Int)) (v_r86 : (S_sig_Set × Int)) (v_s1 : S_sig_Set) (v_r157 : (S_ringref5_Signals)) : Option G_ringlaw5_SigSays_C2_R :=
  if v_r60.2 = 4 then
   if v_r64.2.2.2 = v_r60.2 then
    if v_r60.1 = 0 then
     if v_r64.2.1 = 0 then
      if v_r64.2.2.1 = 0 then
       some (.x0 (eqRes .neq (eqS_sig_Set v_r64.1 (S_sig_Set.mk 0 0 (fun (_ : Fin 16) => 0)))))
      else
       some (.x0 true)
     else
      some (.x0 true)
    else
     some (.x0 true)
   else
    some (.x0 true)
  else
   some (.x0 true)
theorem G_ringlaw5_SigSays_C2_ok {Fi : Ex → PS → Prop} (hF : KC 352 Fi) (ks : List Fr) (n : Nat) (v_n2 : Int) (v_how3 : Int) (v_exec4 : Bool) (v_r40 : (S_sig_Set × Int)) (v_r44 : (S_sig_Set × Int)) (v_r51 : (S_sig_Set × Int)) (v_r60 : (Int × Int)) (v_r64 : (S_sig_Set × Int × Int × Int)) (v_r86 : (S_sig_Set × Int)) (v_s1 : S_sig_Set) (v_r157 : (S_ringref5_Signals))  (o : G_ringlaw5_SigSays_C2_R) (h : G_ringlaw5_SigSays_C2 n v_n2 v_how3 v_exec4 v_r40 v_r44 v_r51 v_r60 v_r64 v_r86 v_s1 v_r157 = some o) (q : RunE Try.prog 352 Fi ks (G_ringlaw5_SigSays_C2_ex o) (G_ringlaw5_SigSays_C2_st v_n2 v_how3 v_exec4 v_r40 v_r44 v_r51 v_r60 v_r64 v_r86 v_s1 v_r157 o)) : RunE Try.prog 352 Fi (.s (cL (cT (cR (cR (cL (cR (cR (cR (cR (cR (cR (cR (cR (cR (cR (cR (cR (bodyOf Try.f7)))))))))))))))))) :: ks) .normal (G_ringlaw5_SigSays_C2_hd v_n2 v_how3 v_exec4 v_r40 v_r44 v_r51 v_r60 v_r64 v_r86 v_s1 v_r157) := by
  unfold G_ringlaw5_SigSays_C2 at h
  by_cases h346 : v_r60.2 = 4
  · rw [if_pos h346] at h
    by_cases h347 : v_r64.2.2.2 = v_r60.2
    · rw [if_pos h347] at h
      by_cases h348 : v_r60.1 = 0
      · rw [if_pos h348] at h
        by_cases h349 : v_r64.2.1 = 0
        · rw [if_pos h349] at h
          by_cases h350 : v_r64.2.2.1 = 0
          · rw [if_pos h350] at h
            cases h
            exact pkk_sound TTok mix hF 1 (hs := [.t false, .c, .c, .t false, .c, .t false, .c, .t false, .c, .t false, .c, .c, .c, .c, .q (eqS_sig_Set v_r64.1 (S_sig_Set.mk 0 0 (fun (_ : Fin 16) => 0)))]) (ts := []) (s := [0, 1, 2, 3, 5, 6, 7]) (l := [1, 2, 3, 4, 9, 10, 11, 12, 13, 14, 21, 22, 23, 25, 179]) (by kernel_rfl) (by kernel_rfl) (.cons (nf h346) (.cons (nf h347) (.cons (nf h348) (.cons (nf h349) (.cons (nf h350) (.cons (eqS_sig_Set_ok v_r64.1 (S_sig_Set.mk 0 0 (fun (_ : Fin 16) => 0))) .nil)))))) q
          · rw [if_neg h350] at h
            cases h
            exact pkk_sound TTok mix hF 1 (hs := [.t false, .c, .c, .t false, .c, .t false, .c, .t false, .c, .t true, .c, .c]) (ts := []) (s := [0, 1, 2, 3, 5, 6, 7]) (l := [1, 2, 3, 4, 9, 10, 11, 12, 13, 14, 21, 22, 23, 25, 179]) (by kernel_rfl) (by kernel_rfl) (.cons (nf h346) (.cons (nf h347) (.cons (nf h348) (.cons (nf h349) (.cons (nt h350) .nil))))) q
        · rw [if_neg h349] at h
          cases h
          exact pkk_sound TTok mix hF 1 (hs := [.t false, .c, .c, .t false, .c, .t false, .c, .t true, .c, .c, .c, .c]) (ts := []) (s := [0, 1, 2, 3, 5, 6, 7]) (l := [1, 2, 3, 4, 9, 10, 11, 12, 13, 14, 21, 22, 23, 25, 179]) (by kernel_rfl) (by kernel_rfl) (.cons (nf h346) (.cons (nf h347) (.cons (nf h348) (.cons (nt h349) .nil)))) q
      · rw [if_neg h348] at h
        cases h
        exact pkk_sound TTok mix hF 1 (hs := [.t false, .c, .c, .t false, .c, .t true, .c, .c, .c, .c, .c, .c]) (ts := []) (s := [0, 1, 2, 3, 5, 6, 7]) (l := [1, 2, 3, 4, 9, 10, 11, 12, 13, 14, 21, 22, 23, 25, 179]) (by kernel_rfl) (by kernel_rfl) (.cons (nf h346) (.cons (nf h347) (.cons (nt h348) .nil))) q
    · rw [if_neg h347] at h
      cases h
      exact pkk_sound TTok mix hF 1 (hs := [.t false, .c, .c, .t true, .c, .c, .c, .c, .c, .c, .c, .c]) (ts := []) (s := [0, 1, 2, 3, 5, 6, 7]) (l := [1, 2, 3, 4, 9, 10, 11, 12, 13, 14, 21, 22, 23, 25, 179]) (by kernel_rfl) (by kernel_rfl) (.cons (nf h346) (.cons (nt h347) .nil)) q
  · rw [if_neg h346] at h
    cases h
    exact pkk_sound TTok mix hF 1 (hs := [.t true, .c, .c, .c, .c, .c, .c, .c, .c, .c, .c, .c]) (ts := []) (s := [0, 1, 2, 3, 5, 6, 7]) (l := [1, 2, 3, 4, 9, 10, 11, 12, 13, 14, 21, 22, 23, 25, 179]) (by kernel_rfl) (by kernel_rfl) (.cons (nt h346) .nil) q
inductive G_ringlaw5_SigSays_C3_R where
  | x0 (v_x277 : Bool)
def G_ringlaw5_SigSays_C3_ex : G_ringlaw5_SigSays_C3_R → Ex
  | .x0 _ => .normal
def G_ringlaw5_SigSays_C3_st (v_n2 : Int) (v_how3 : Int) (v_exec4 : Bool) (v_r40 : (S_sig_Set × Int)) (v_r44 : (S_sig_Set × Int)) (v_r51 : (S_sig_Set × Int)) (v_r60 : (Int × Int)) (v_r64 : (S_sig_Set × Int × Int × Int)) (v_r86 : (S_sig_Set × Int)) (v_r179 : (Int)) (v_s1 : S_sig_Set) (v_r157 : (S_ringref5_Signals)) : G_ringlaw5_SigSays_C3_R → PS
  | .x0 v_x277 => ⟨[dd, .d (.v (.int .i64 v_n2)), .d (.v (.int .i64 v_how3)), .d (.v (.bool v_exec4)), .ref 0 0, dd, dd, dd, dd, .ref 1 0, .d (.v (.int .i64 v_r40.2)), .ref 2 0, .d (.v (.int .i64 v_r44.2)), .ref 3 0, .d (.v (.int .i64 v_r51.2)), dd, dd, dd, dd, dd, dd, .ref 4 0, .d (.v (.int .i64 v_r86.2)), .ref 5 0, dd, .ref 6 0, dd, dd, dd, dd, dd, dd, dd, dd, dd, dd, dd, dd, dd, dd, dd, dd, dd, dd, dd, dd, dd, dd, dd, dd, dd, dd, dd, dd, dd, dd, dd, dd, dd, dd, dd, dd, dd, dd, dd, dd, dd, dd, dd, dd, dd, dd, dd, dd, dd, dd, dd, dd, dd, dd, dd, dd, dd, dd, dd, dd, dd, dd, dd, dd, dd, dd, dd, dd, dd, dd, dd, dd, dd, dd, dd, dd, dd, dd, dd, dd, dd, dd, dd, dd, dd, dd, dd, dd, dd, dd, dd, dd, dd, dd, dd, dd, dd, dd, dd, dd, dd, dd, dd, dd, dd, dd, dd, dd, dd, dd, dd, dd, dd, dd, dd, dd, dd, dd, dd, dd, dd, dd, dd, dd, dd, dd, dd, dd, dd, dd, dd, dd, dd, dd, dd, dd, dd, dd, dd, dd, dd, dd, dd, dd, dd, dd, dd, dd, dd, dd, dd, dd, dd, dd, dd, dd, dd, dd, dd, dd, dd, dd, dd, dd, dd, dd, dd, dd, dd, dd, dd, dd, dd, dd, dd, dd, dd, dd, dd, dd, dd, dd, dd, dd, dd, .d (.v (.bool v_x277)), dd, dd, dd, dd, dd, dd, dd, dd, dd, dd, dd, dd, dd, dd, dd, dd, dd, dd, dd, dd, dd, dd, dd, dd, dd, dd, dd, dd, dd, dd, dd, dd, dd, dd, dd, dd, dd, dd, dd, dd, dd, dd, dd, dd, dd, dd, dd, dd, dd, dd, dd, dd, dd, dd, dd, dd, dd, dd, dd, dd, dd, dd, dd, dd, dd, dd, dd, dd, dd, dd, dd, dd, dd, dd, dd, dd, dd, dd, dd, dd, dd, dd, dd, dd, dd, dd, dd, dd, dd, dd, dd, dd, dd, dd, dd, dd, dd, dd, dd, dd, dd, dd, dd, dd, dd, dd, dd, dd, dd, dd, dd, dd, dd, dd, dd, dd, dd, dd, dd, dd, dd, dd, dd, dd, dd, dd, dd, dd, dd, dd, dd, dd, dd, dd, dd, dd, dd, dd, dd, dd], [.box ((cS_sig_Set v_s1).map FV.d), .box ((cS_sig_Set v_r40.1).map FV.d), .box ((cS_sig_Set v_r44.1).map FV.d), .box ((cS_sig_Set v_r51.1).map FV.d), .box ((cS_sig_Set v_r86.1).map FV.d), .box ((cS_sig_Set (S_sig_Set.mk 0 0 (fun (_ : Fin 16) => 0))).map FV.d), .box ((cS_ringref5_Signals v_r157).map FV.d)]⟩
def G_ringlaw5_SigSays_C3_hd (v_n2 : Int) (v_how3 : Int) (v_exec4 : Bool) (v_r40 : (S_sig_Set × Int)) (v_r44 : (S_sig_Set × Int)) (v_r51 : (S_sig_Set × Int)) (v_r60 : (Int × Int)) (v_r64 : (S_sig_Set × Int × Int × Int)) (v_r86 : (S_sig_Set × Int)) (v_r179 : (Int)) (v_s1 : S_sig_Set) (v_r157 : (S_ringref5_Signals))  : PS := ⟨[dd, .d (.v (.int .i64 v_n2)), .d (.v (.int .i64 v_how3)), .d (.v (.bool v_exec4)), .ref 0 0, dd, dd, dd, dd, .ref 1 0, .d (.v (.int .i64 v_r40.2)), .ref 2 0, .d (.v (.int .i64 v_r44.2)), .ref 3 0, .d (.v (.int .i64 v_r51.2)), .d (.v (.int .i64 v_r60.1)), .d (.v (.int .i64 v_r60.2)), .ref 4 0, .d (.v (.int .i64 v_r64.2.1)), .d (.v (.int .i64 v_r64.2.2.1)), .d (.v (.int .i64 v_r64.2.2.2)), .ref 5 0, .d (.v (.int .i64 v_r86.2)), .ref 6 0, dd, .ref 7 0, .d (.v (.int .i64 v_r179)), dd, dd, dd, dd, dd, dd, dd, dd, dd, dd, dd, dd, dd, dd, dd, dd, dd, dd, dd, dd, dd, dd, dd, dd, dd, dd, dd, dd, dd, dd, dd, dd, dd, dd, dd, dd, dd, dd, dd, dd, dd, dd, dd, dd, dd, dd, dd, dd, dd, dd, dd, dd, dd, dd, dd, dd, dd, dd, dd, dd, dd, dd, dd, dd, dd, dd, dd, dd, dd, dd, dd, dd, dd, dd, dd, dd, dd, dd, dd, dd, dd, dd, dd, dd, dd, dd, dd, dd, dd, dd, dd, dd, dd, dd, dd, dd, dd, dd, dd, dd, dd, dd, dd, dd, dd, dd, dd, dd, dd, dd, dd, dd, dd, dd, dd, dd, dd, dd, dd, dd, dd, dd, dd, dd, dd, dd, dd, dd, dd, dd, dd, dd, dd, dd, dd, dd, dd, dd, dd, dd, dd, dd, dd, dd, dd, dd, dd, dd, dd, dd, dd, dd, dd, dd, dd, dd, dd, dd, dd, dd, dd, dd, dd, dd, dd, dd, dd, dd, dd, dd, dd, dd, dd, dd, dd, dd, dd, dd, dd, dd, dd, dd, dd, dd, dd, dd, dd, dd, dd, dd, dd, dd, dd, dd, dd, dd, dd, dd, dd, dd, dd, dd, dd, dd, dd, dd, dd, dd, dd, dd, dd, dd, dd, dd, dd, dd, dd, dd, dd, dd, dd, dd, dd, dd, dd, dd, dd, dd, dd, dd, dd, dd, dd, dd, dd, dd, dd, dd, dd, dd, dd, dd, dd, dd, dd, dd, dd, dd, dd, dd, dd, dd, dd, dd, dd, dd, dd, dd, dd, dd, dd, dd, dd, dd, dd, dd, dd, dd, dd, dd, dd, dd, dd, dd, dd, dd, dd, dd, dd, dd, dd, dd, dd, dd, dd, dd, dd, dd, dd, dd, dd, dd, dd, dd, dd, dd, dd, dd, dd, dd, dd, dd, dd, dd, dd, dd, dd, dd, dd, dd, dd, dd, dd, dd, dd, dd, dd, dd, dd, dd, dd, dd, dd, dd, dd], [.box ((cS_sig_Set v_s1).map FV.d), .box ((cS_sig_Set v_r40.1).map FV.d), .box ((cS_sig_Set v_r44.1).map FV.d), .box ((cS_sig_Set v_r51.1).map FV.d), .box ((cS_sig_Set v_r64.1).map FV.d), .box ((cS_sig_Set v_r86.1).map FV.d), .box ((cS_sig_Set (S_sig_Set.mk 0 0 (fun (_ : Fin 16) => 0))).map FV.d), .box ((cS_ringref5_Signals v_r157).map FV.d)]⟩
def G_ringlaw5_SigSays_C3 (n : Nat) (v_n2 : Int) (v_how3 : Int) (v_exec4 : Bool) (v_r40 : (S_sig_Set × Int)) (v_r44 : (S_sig_Set × Int)) (v_r51 : (S_sig_Set × Int)) (v_r60 : (Int × Int)) (v_r64 : (S_sig_Set × Int × Int × Int)) (v_r86 : (S_sig_Set × Int)) (v_r179 : (Int)) (v_s1 : S_sig_Set) (v_r157 : (S_ringref5_Signals)) : Option G_ringlaw5_SigSays_C3_R :=
  if v_r60.2 = 0 then
   if v_r60.1 = v_r179 then
    if v_r64.2.2.2 = 0 then
     if v_r64.2.1 = v_r179 then
      if 0 ≤ v_r179 ∧ v_r179 < (16 : Int) then
       (getA v_s1.fHow v_r179).bind fun (v_y281 : Int) =>
       if v_r64.2.2.1 = v_y281 then
        (G_ringref5_Signals_Without n v_r157 v_r179).bind fun (v_r283 : (S_ringref5_Signals)) =>
        (G_ringlaw5_same n v_r64.1 v_r283).bind fun (v_r284 : (Bool)) =>
        some (.x0 (!v_r284))
       else
        some (.x0 true)
      else none
     else
      some (.x0 true)
    else
     some (.x0 true)
   else
    some (.x0 true)
  else
   some (.x0 true)
theorem G_ringlaw5_SigSays_C3_ok {Fi : Ex → PS → Prop} (hF : KC 352 Fi) (ks : List Fr) (n : Nat) (v_n2 : Int) (v_how3 : Int) (v_exec4 : Bool) (v_r40 : (S_sig_Set × Int)) (v_r44 : (S_sig_Set × Int)) (v_r51 : (S_sig_Set × Int)) (v_r60 : (Int × Int)) (v_r64 : (S_sig_Set × Int × Int × Int)) (v_r86 : (S_sig_Set × Int)) (v_r179 : (Int)) (v_s1 : S_sig_Set) (v_r157 : (S_ringref5_Signals))  (o : G_ringlaw5_SigSays_C3_R) (h : G_ringlaw5_SigSays_C3 n v_n2 v_how3 v_exec4 v_r40 v_r44 v_r51 v_r60 v_r64 v_r86 v_r179 v_s1 v_r157 = some o) (q : RunE Try.prog 352 Fi ks (G_ringlaw5_SigSays_C3_ex o) (G_ringlaw5_SigSays_C3_st v_n2 v_how3 v_exec4 v_r40 v_r44 v_r51 v_r60 v_r64 v_r86 v_r179 v_s1 v_r157 o)) : RunE Try.prog 352 Fi (.s (cL (cF (cR (cR (cL (cR (cR (cR (cR (cR (cR (cR (cR (cR (cR (cR (cR (bodyOf Try.f7)))))))))))))))))) :: ks) .normal (G_ringlaw5_SigSays_C3_hd v_n2 v_how3 v_exec4 v_r40 v_r44 v_r51 v_r60 v_r64 v_r86 v_r179 v_s1 v_r157) := by
  unfold G_ringlaw5_SigSays_C3 at h
  by_cases h362 : v_r60.2 = 0
  · rw [if_pos h362] at h
    by_cases h363 : v_r60.1 = v_r179
    · rw [if_pos h363] at h
      by_cases h364 : v_r64.2.2.2 = 0
      · rw [if_pos h364] at h
        by_cases h365 : v_r64.2.1 = v_r179
        · rw [if_pos h365] at h
          by_cases h366 : 0 ≤ v_r179 ∧ v_r179 < (16 : Int)
          · rw [if_pos h366] at h
            obtain ⟨v_y281, h367, h⟩ := bind_some h
            by_cases h368 : v_r64.2.2.1 = v_y281
            · rw [if_pos h368] at h
              obtain ⟨v_r283, h369, h⟩ := bind_some h
              obtain ⟨v_r284, h370, h⟩ := bind_some h
              cases h
              exact pkk_sound TTok mix hF 1 (hs := [.t false, .c, .c, .t false, .c, .t false, .c, .c, .t false, .c, .c, .c, .c, .l (.d (.v (.int .i64 v_y281))), .c, .t false, .c, .c, .c, .c, .c, .r (eS_ringref5_Signals v_r283), .c, .r (eB v_r284), .c]) (ts := []) (s := [0, 1, 2, 3, 5, 6, 7]) (l := [1, 2, 3, 4, 9, 10, 11, 12, 13, 14, 21, 22, 23, 25, 211]) (by kernel_rfl) (by kernel_rfl) (.cons (nf h362) (.cons (nf h363) (.cons (nf h364) (.cons (nf h365) (.cons h366 (.cons (arr_cell (γ := FV) (sz := 1) (g := (fun x => [.d (.v (.int .i64 x))])) (pre := [.d (.v (.int .i64 v_s1.fPending)), .d (.v (.int .i64 v_s1.fMask))]) (post := []) (o := 0) (fun _ => rfl) h367 rfl) (.cons (nf h368) (.cons (G_ringref5_Signals_Without_ok n v_r157 v_r179 _ h369) (.cons (G_ringlaw5_same_ok n v_r64.1 v_r283 _ h370) .nil))))))))) q
            · rw [if_neg h368] at h
              cases h
              exact pkk_sound TTok mix hF 1 (hs := [.t false, .c, .c, .t false, .c, .t false, .c, .c, .t false, .c, .c, .c, .c, .l (.d (.v (.int .i64 v_y281))), .c, .t true, .c, .c, .c, .c, .c]) (ts := []) (s := [0, 1, 2, 3, 5, 6, 7]) (l := [1, 2, 3, 4, 9, 10, 11, 12, 13, 14, 21, 22, 23, 25, 211]) (by kernel_rfl) (by kernel_rfl) (.cons (nf h362) (.cons (nf h363) (.cons (nf h364) (.cons (nf h365) (.cons h366 (.cons (arr_cell (γ := FV) (sz := 1) (g := (fun x => [.d (.v (.int .i64 x))])) (pre := [.d (.v (.int .i64 v_s1.fPending)), .d (.v (.int .i64 v_s1.fMask))]) (post := []) (o := 0) (fun _ => rfl) h367 rfl) (.cons (nt h368) .nil))))))) q
          · rw [if_neg h366] at h; cases h
        · rw [if_neg h365] at h
          cases h
          exact pkk_sound TTok mix hF 1 (hs := [.t false, .c, .c, .t false, .c, .t false, .c, .c, .t true, .c, .c, .c, .c, .c, .c, .c, .c, .c, .c, .c]) (ts := []) (s := [0, 1, 2, 3, 5, 6, 7]) (l := [1, 2, 3, 4, 9, 10, 11, 12, 13, 14, 21, 22, 23, 25, 211]) (by kernel_rfl) (by kernel_rfl) (.cons (nf h362) (.cons (nf h363) (.cons (nf h364) (.cons (nt h365) .nil)))) q
      · rw [if_neg h364] at h
        cases h
        exact pkk_sound TTok mix hF 1 (hs := [.t false, .c, .c, .t false, .c, .t true, .c, .c, .c, .c, .c, .c, .c, .c, .c, .c, .c, .c, .c, .c]) (ts := []) (s := [0, 1, 2, 3, 5, 6, 7]) (l := [1, 2, 3, 4, 9, 10, 11, 12, 13, 14, 21, 22, 23, 25, 211]) (by kernel_rfl) (by kernel_rfl) (.cons (nf h362) (.cons (nf h363) (.cons (nt h364) .nil))) q
    · rw [if_neg h363] at h
      cases h
      exact pkk_sound TTok mix hF 1 (hs := [.t false, .c, .c, .t true, .c, .c, .c, .c, .c, .c, .c, .c, .c, .c, .c, .c, .c, .c, .c, .c]) (ts := []) (s := [0, 1, 2, 3, 5, 6, 7]) (l := [1, 2, 3, 4, 9, 10, 11, 12, 13, 14, 21, 22, 23, 25, 211]) (by kernel_rfl) (by kernel_rfl) (.cons (nf h362) (.cons (nt h363) .nil)) q
  · rw [if_neg h362] at h
    cases h
    exact pkk_sound TTok mix hF 1 (hs := [.t true, .c, .c, .c, .c, .c, .c, .c, .c, .c, .c, .c, .c, .c, .c, .c, .c, .c, .c, .c]) (ts := []) (s := [0, 1, 2, 3, 5, 6, 7]) (l := [1, 2, 3, 4, 9, 10, 11, 12, 13, 14, 21, 22, 23, 25, 211]) (by kernel_rfl) (by kernel_rfl) (.cons (nt h362) .nil) q
inductive G_ringlaw5_SigSays_C4_R where
  | x0 (v_x273 : Bool)
  | x1 
def G_ringlaw5_SigSays_C4_ex : G_ringlaw5_SigSays_C4_R → Ex
  | .x0 _ => .ret
  | .x1  => .normal
def G_ringlaw5_SigSays_C4_st (v_n2 : Int) (v_how3 : Int) (v_exec4 : Bool) (v_r40 : (S_sig_Set × Int)) (v_r44 : (S_sig_Set × Int)) (v_r51 : (S_sig_Set × Int)) (v_r60 : (Int × Int)) (v_r64 : (S_sig_Set × Int × Int × Int)) (v_r86 : (S_sig_Set × Int)) (v_r179 : (Int)) (v_s1 : S_sig_Set) (v_r157 : (S_ringref5_Signals)) : G_ringlaw5_SigSays_C4_R → PS
  | .x0 v_x273 => ⟨[dd, dd, dd, dd, dd, dd, dd, dd, .d (.v (.bool v_x273)), dd, dd, dd, dd, dd, dd, dd, dd, dd, dd, dd, dd, dd, dd, dd, dd, dd, dd, dd, dd, dd, dd, dd, dd, dd, dd, dd, dd, dd, dd, dd, dd, dd, dd, dd, dd, dd, dd, dd, dd, dd, dd, dd, dd, dd, dd, dd, dd, dd, dd, dd, dd, dd, dd, dd, dd, dd, dd, dd, dd, dd, dd, dd, dd, dd, dd, dd, dd, dd, dd, dd, dd, dd, dd, dd, dd, dd, dd, dd, dd, dd, dd, dd, dd, dd, dd, dd, dd, dd, dd, dd, dd, dd, dd, dd, dd, dd, dd, dd, dd, dd, dd, dd, dd, dd, dd, dd, dd, dd, dd, dd, dd, dd, dd, dd, dd, dd, dd, dd, dd, dd, dd, dd, dd, dd, dd, dd, dd, dd, dd, dd, dd, dd, dd, dd, dd, dd, dd, dd, dd, dd, dd, dd, dd, dd, dd, dd, dd, dd, dd, dd, dd, dd, dd, dd, dd, dd, dd, dd, dd, dd, dd, dd, dd, dd, dd, dd, dd, dd, dd, dd, dd, dd, dd, dd, dd, dd, dd, dd, dd, dd, dd, dd, dd, dd, dd, dd, dd, dd, dd, dd, dd, dd, dd, dd, dd, dd, dd, dd, dd, dd, dd, dd, dd, dd, dd, dd, dd, dd, dd, dd, dd, dd, dd, dd, dd, dd, dd, dd, dd, dd, dd, dd, dd, dd, dd, dd, dd, dd, dd, dd, dd, dd, dd, dd, dd, dd, dd, dd, dd, dd, dd, dd, dd, dd, dd, dd, dd, dd, dd, dd, dd, dd, dd, dd, dd, dd, dd, dd, dd, dd, dd, dd, dd, dd, dd, dd, dd, dd, dd, dd, dd, dd, dd, dd, dd, dd, dd, dd, dd, dd, dd, dd, dd, dd, dd, dd, dd, dd, dd, dd, dd, dd, dd, dd, dd, dd, dd, dd, dd, dd, dd, dd, dd, dd, dd, dd, dd, dd, dd, dd, dd, dd, dd, dd, dd, dd, dd, dd, dd, dd, dd, dd, dd, dd, dd, dd, dd, dd, dd, dd, dd, dd, dd, dd, dd, dd, dd, dd, dd, dd, dd, dd], []⟩
  | .x1  => ⟨[dd, .d (.v (.int .i64 v_n2)), .d (.v (.int .i64 v_how3)), .d (.v (.bool v_exec4)), .ref 0 0, dd, dd, dd, dd, .ref 1 0, .d (.v (.int .i64 v_r40.2)), .ref 2 0, .d (.v (.int .i64 v_r44.2)), .ref 3 0, .d (.v (.int .i64 v_r51.2)), dd, dd, dd, dd, dd, dd, .ref 4 0, .d (.v (.int .i64 v_r86.2)), .ref 5 0, dd, .ref 6 0, dd, dd, dd, dd, dd, dd, dd, dd, dd, dd, dd, dd, dd, dd, dd, dd, dd, dd, dd, dd, dd, dd, dd, dd, dd, dd, dd, dd, dd, dd, dd, dd, dd, dd, dd, dd, dd, dd, dd, dd, dd, dd, dd, dd, dd, dd, dd, dd, dd, dd, dd, dd, dd, dd, dd, dd, dd, dd, dd, dd, dd, dd, dd, dd, dd, dd, dd, dd, dd, dd, dd, dd, dd, dd, dd, dd, dd, dd, dd, dd, dd, dd, dd, dd, dd, dd, dd, dd, dd, dd, dd, dd, dd, dd, dd, dd, dd, dd, dd, dd, dd, dd, dd, dd, dd, dd, dd, dd, dd, dd, dd, dd, dd, dd, dd, dd, dd, dd, dd, dd, dd, dd, dd, dd, dd, dd, dd, dd, dd, dd, dd, dd, dd, dd, dd, dd, dd, dd, dd, dd, dd, dd, dd, dd, dd, dd, dd, dd, dd, dd, dd, dd, dd, dd, dd, dd, dd, dd, dd, dd, dd, dd, dd, dd, dd, dd, dd, dd, dd, dd, dd, dd, dd, dd, dd, dd, dd, dd, dd, dd, dd, dd, dd, dd, dd, dd, dd, dd, dd, dd, dd, dd, dd, dd, dd, dd, dd, dd, dd, dd, dd, dd, dd, dd, dd, dd, dd, dd, dd, dd, dd, dd, dd, dd, dd, dd, dd, dd, dd, dd, dd, dd, dd, dd, dd, dd, dd, dd, dd, dd, dd, dd, dd, dd, dd, dd, dd, dd, dd, dd, dd, dd, dd, dd, dd, dd, dd, dd, dd, dd, dd, dd, dd, dd, dd, dd, dd, dd, dd, dd, dd, dd, dd, dd, dd, dd, dd, dd, dd, dd, dd, dd, dd, dd, dd, dd, dd, dd, dd, dd, dd, dd, dd, dd, dd, dd, dd, dd, dd, dd, dd, dd, dd, dd, dd, dd, dd, dd, dd, dd, dd, dd, dd, dd, dd, dd, dd, dd, dd, dd, dd, dd, dd, dd, dd, dd, dd, dd, dd, dd, dd, dd, dd, dd, dd, dd], [.box ((cS_sig_Set v_s1).map FV.d), .box ((cS_sig_Set v_r40.1).map FV.d), .box ((cS_sig_Set v_r44.1).map FV.d), .box ((cS_sig_Set v_r51.1).map FV.d), .box ((cS_sig_Set v_r86.1).map FV.d), .box ((cS_sig_Set (S_sig_Set.mk 0 0 (fun (_ : Fin 16) => 0))).map FV.d), .box ((cS_ringref5_Signals v_r157).map FV.d)]⟩
def G_ringlaw5_SigSays_C4_hd (v_n2 : Int) (v_how3 : Int) (v_exec4 : Bool) (v_r40 : (S_sig_Set × Int)) (v_r44 : (S_sig_Set × Int)) (v_r51 : (S_sig_Set × Int)) (v_r60 : (Int × Int)) (v_r64 : (S_sig_Set × Int × Int × Int)) (v_r86 : (S_sig_Set × Int)) (v_r179 : (Int)) (v_s1 : S_sig_Set) (v_r157 : (S_ringref5_Signals))  : PS := ⟨[dd, .d (.v (.int .i64 v_n2)), .d (.v (.int .i64 v_how3)), .d (.v (.bool v_exec4)), .ref 0 0, dd, dd, dd, dd, .ref 1 0, .d (.v (.int .i64 v_r40.2)), .ref 2 0, .d (.v (.int .i64 v_r44.2)), .ref 3 0, .d (.v (.int .i64 v_r51.2)), .d (.v (.int .i64 v_r60.1)), .d (.v (.int .i64 v_r60.2)), .ref 4 0, .d (.v (.int .i64 v_r64.2.1)), .d (.v (.int .i64 v_r64.2.2.1)), .d (.v (.int .i64 v_r64.2.2.2)), .ref 5 0, .d (.v (.int .i64 v_r86.2)), .ref 6 0, dd, .ref 7 0, .d (.v (.int .i64 v_r179)), dd, dd, dd, dd, dd, dd, dd, dd, dd, dd, dd, dd, dd, dd, dd, dd, dd, dd, dd, dd, dd, dd, dd, dd, dd, dd, dd, dd, dd, dd, dd, dd, dd, dd, dd, dd, dd, dd, dd, dd, dd, dd, dd, dd, dd, dd, dd, dd, dd, dd, dd, dd, dd, dd, dd, dd, dd, dd, dd, dd, dd, dd, dd, dd, dd, dd, dd, dd, dd, dd, dd, dd, dd, dd, dd, dd, dd, dd, dd, dd, dd, dd, dd, dd, dd, dd, dd, dd, dd, dd, dd, dd, dd, dd, dd, dd, dd, dd, dd, dd, dd, dd, dd, dd, dd, dd, dd, dd, dd, dd, dd, dd, dd, dd, dd, dd, dd, dd, dd, dd, dd, dd, dd, dd, dd, dd, dd, dd, .d (.v (.bool (v_r179 == 0))), dd, dd, dd, dd, dd, dd, dd, dd, dd, dd, dd, dd, dd, dd, dd, dd, dd, dd, dd, dd, dd, dd, dd, dd, dd, dd, dd, dd, dd, dd, dd, dd, dd, dd, dd, dd, dd, dd, dd, dd, dd, dd, dd, dd, dd, dd, dd, dd, dd, dd, dd, dd, dd, dd, dd, dd, dd, dd, dd, dd, dd, dd, dd, dd, dd, dd, dd, dd, dd, dd, dd, dd, dd, dd, dd, dd, dd, dd, dd, dd, dd, dd, dd, dd, dd, dd, dd, dd, dd, dd, dd, dd, dd, dd, dd, dd, dd, dd, dd, dd, dd, dd, dd, dd, dd, dd, dd, dd, dd, dd, dd, dd, dd, dd, dd, dd, dd, dd, dd, dd, dd, dd, dd, dd, dd, dd, dd, dd, dd, dd, dd, dd, dd, dd, dd, dd, dd, dd, dd, dd, dd, dd, dd, dd, dd, dd, dd, dd, dd, dd, dd, dd, dd, dd, dd, dd, dd, dd, dd, dd, dd, dd, dd, dd, dd, dd, dd, dd, dd, dd, dd, dd, dd, dd, dd, dd, dd, dd, dd, dd, dd, dd, dd, dd, dd, dd, dd, dd, dd, dd, dd, dd, dd, dd, dd, dd], [.box ((cS_sig_Set v_s1).map FV.d), .box ((cS_sig_Set v_r40.1).map FV.d), .box ((cS_sig_Set v_r44.1).map FV.d), .box ((cS_sig_Set v_r51.1).map FV.d), .box ((cS_sig_Set v_r64.1).map FV.d), .box ((cS_sig_Set v_r86.1).map FV.d), .box ((cS_sig_Set (S_sig_Set.mk 0 0 (fun (_ : Fin 16) => 0))).map FV.d), .box ((cS_ringref5_Signals v_r157).map FV.d)]⟩
def G_ringlaw5_SigSays_C4 (n : Nat) (v_n2 : Int) (v_how3 : Int) (v_exec4 : Bool) (v_r40 : (S_sig_Set × Int)) (v_r44 : (S_sig_Set × Int)) (v_r51 : (S_sig_Set × Int)) (v_r60 : (Int × Int)) (v_r64 : (S_sig_Set × Int × Int × Int)) (v_r86 : (S_sig_Set × Int)) (v_r179 : (Int)) (v_s1 : S_sig_Set) (v_r157 : (S_ringref5_Signals)) : Option G_ringlaw5_SigSays_C4_R :=
  if v_r179 = 0 then
   (G_ringlaw5_SigSays_C2 n v_n2 v_how3 v_exec4 v_r40 v_r44 v_r51 v_r60 v_r64 v_r86 v_s1 v_r157).bind fun v_o271 => match v_o271 with
   | .x0 v_z272 =>
     if v_z272 = true then
      some (.x0 false)
     else
      some (.x1 )
  else
   (G_ringlaw5_SigSays_C3 n v_n2 v_how3 v_exec4 v_r40 v_r44 v_r51 v_r60 v_r64 v_r86 v_r179 v_s1 v_r157).bind fun v_o286 => match v_o286 with
   | .x0 v_z287 =>
     if v_z287 = true then
      some (.x0 false)
     else
      some (.x1 )
theorem G_ringlaw5_SigSays_C4_ok {Fi : Ex → PS → Prop} (hF : KC 352 Fi) (ks : List Fr) (n : Nat) (v_n2 : Int) (v_how3 : Int) (v_exec4 : Bool) (v_r40 : (S_sig_Set × Int)) (v_r44 : (S_sig_Set × Int)) (v_r51 : (S_sig_Set × Int)) (v_r60 : (Int × Int)) (v_r64 : (S_sig_Set × Int × Int × Int)) (v_r86 : (S_sig_Set × Int)) (v_r179 : (Int)) (v_s1 : S_sig_Set) (v_r157 : (S_ringref5_Signals))  (o : G_ringlaw5_SigSays_C4_R) (h : G_ringlaw5_SigSays_C4 n v_n2 v_how3 v_exec4 v_r40 v_r44 v_r51 v_r60 v_r64 v_r86 v_r179 v_s1 v_r157 = some o) (q : RunE Try.prog 352 Fi ks (G_ringlaw5_SigSays_C4_ex o) (G_ringlaw5_SigSays_C4_st v_n2 v_how3 v_exec4 v_r40 v_r44 v_r51 v_r60 v_r64 v_r86 v_r179 v_s1 v_r157 o)) : RunE Try.prog 352 Fi (.s (cR (cR (cL (cR (cR (cR (cR (cR (cR (cR (cR (cR (cR (cR (cR (bodyOf Try.f7)))))))))))))))) :: ks) .normal (G_ringlaw5_SigSays_C4_hd v_n2 v_how3 v_exec4 v_r40 v_r44 v_r51 v_r60 v_r64 v_r86 v_r179 v_s1 v_r157) := by
  unfold G_ringlaw5_SigSays_C4 at h
  by_cases h340 : v_r179 = 0
  · rw [if_pos h340] at h
    obtain ⟨v_o271, h351, h⟩ := bind_some h
    refine pkk_sound TTok mix hF 2 (hs := [.t true]) (ts := []) (s := [0, 1, 2, 3, 4, 5, 6, 7]) (l := [1, 2, 3, 4, 9, 10, 11, 12, 13, 14, 15, 16, 17, 18, 19, 20, 21, 22, 23, 25]) (by kernel_rfl) (by kernel_rfl) (.cons (bt h340) .nil) (G_ringlaw5_SigSays_C2_ok hF (.s (cR (cT (cR (cR (cL (cR (cR (cR (cR (cR (cR (cR (cR (cR (cR (cR (cR (bodyOf Try.f7)))))))))))))))))) :: ks) n v_n2 v_how3 v_exec4 v_r40 v_r44 v_r51 v_r60 v_r64 v_r86 v_s1 v_r157 _ h351 ?_)
    cases v_o271 with
    | x0 v_z272 =>
      try dsimp only at h
      by_cases h352 : v_z272 = true
      · rw [if_pos h352] at h
        cases h
        exact pkk_sound TTok mix hF 4 (hs := [.t true]) (ts := []) (s := []) (l := [8]) (by kernel_rfl) (by kernel_rfl) (.cons h352 .nil) q
      · rw [if_neg h352] at h
        cases h
        exact pkk_sound TTok mix hF 2 (hs := [.t false]) (ts := []) (s := [0, 1, 2, 3, 4, 5, 6]) (l := [1, 2, 3, 4, 9, 10, 11, 12, 13, 14, 21, 22, 23, 25]) (by kernel_rfl) (by kernel_rfl) (.cons (vf h352) .nil) q
  · rw [if_neg h340] at h
    obtain ⟨v_o286, h371, h⟩ := bind_some h
    refine pkk_sound TTok mix hF 2 (hs := [.t false]) (ts := []) (s := [0, 1, 2, 3, 4, 5, 6, 7]) (l := [1, 2, 3, 4, 9, 10, 11, 12, 13, 14, 15, 16, 17, 18, 19, 20, 21, 22, 23, 25, 26]) (by kernel_rfl) (by kernel_rfl) (.cons (bf h340) .nil) (G_ringlaw5_SigSays_C3_ok hF (.s (cR (cF (cR (cR (cL (cR (cR (cR (cR (cR (cR (cR (cR (cR (cR (cR (cR (bodyOf Try.f7)))))))))))))))))) :: ks) n v_n2 v_how3 v_exec4 v_r40 v_r44 v_r51 v_r60 v_r64 v_r86 v_r179 v_s1 v_r157 _ h371 ?_)
    cases v_o286 with
    | x0 v_z287 =>
      try dsimp only at h
      by_cases h372 : v_z287 = true
      · rw [if_pos h372] at h
        cases h
        exact pkk_sound TTok mix hF 4 (hs := [.t true]) (ts := []) (s := []) (l := [8]) (by kernel_rfl) (by kernel_rfl) (.cons h372 .nil) q
      · rw [if_neg h372] at h
        cases h
        exact pkk_sound TTok mix hF 2 (hs := [.t false]) (ts := []) (s := [0, 1, 2, 3, 4, 5, 6]) (l := [1, 2, 3, 4, 9, 10, 11, 12, 13, 14, 21, 22, 23, 25]) (by kernel_rfl) (by kernel_rfl) (.cons (vf h372) .nil) q
inductive G_ringlaw5_SigSays_L5_R where
  | x0 (v_b306 : S_ringref5_Signals)
def G_ringlaw5_SigSays_L5_ex : G_ringlaw5_SigSays_L5_R → Ex
  | .x0 _ => .exit 0
def G_ringlaw5_SigSays_L5_st (v_n2 : Int) (v_how3 : Int) (v_r40 : (S_sig_Set × Int)) (v_r44 : (S_sig_Set × Int)) (v_r51 : (S_sig_Set × Int)) (v_r86 : (S_sig_Set × Int)) (v_s1 : S_sig_Set) (v_r157 : (S_ringref5_Signals)) : G_ringlaw5_SigSays_L5_R → PS
  | .x0 v_b306 => ⟨[dd, .d (.v (.int .i64 v_n2)), .d (.v (.int .i64 v_how3)), dd, .ref 0 0, dd, dd, dd, dd, .ref 1 0, .d (.v (.int .i64 v_r40.2)), .ref 2 0, .d (.v (.int .i64 v_r44.2)), .ref 3 0, .d (.v (.int .i64 v_r51.2)), dd, dd, dd, dd, dd, dd, .ref 4 0, .d (.v (.int .i64 v_r86.2)), .ref 5 0, dd, .ref 6 0, dd, .ref 7 0, dd, dd, dd, dd, dd, dd, dd, dd, dd, dd, dd, dd, dd, dd, dd, dd, dd, dd, dd, dd, dd, dd, dd, dd, dd, dd, dd, dd, dd, dd, dd, dd, dd, dd, dd, dd, dd, dd, dd, dd, dd, dd, dd, dd, dd, dd, dd, dd, dd, dd, dd, dd, dd, dd, dd, dd, dd, dd, dd, dd, dd, dd, dd, dd, dd, dd, dd, dd, dd, dd, dd, dd, dd, dd, dd, dd, dd, dd, dd, dd, dd, dd, dd, dd, dd, dd, dd, dd, dd, dd, dd, dd, dd, dd, dd, dd, dd, dd, dd, dd, dd, dd, dd, dd, dd, dd, dd, dd, dd, dd, dd, dd, dd, dd, dd, dd, dd, dd, dd, dd, dd, dd, dd, dd, dd, dd, dd, dd, dd, dd, dd, dd, dd, dd, dd, dd, dd, dd, dd, dd, dd, dd, dd, dd, dd, dd, dd, dd, dd, dd, dd, dd, dd, dd, dd, dd, dd, dd, dd, dd, dd, dd, dd, dd, dd, dd, dd, dd, dd, dd, dd, dd, dd, dd, dd, dd, dd, dd, dd, dd, dd, dd, dd, dd, dd, dd, dd, dd, dd, dd, dd, dd, dd, dd, dd, dd, dd, dd, dd, dd, dd, dd, dd, dd, dd, dd, dd, dd, dd, dd, dd, dd, dd, dd, dd, dd, dd, dd, dd, dd, dd, dd, dd, dd, dd, dd, dd, dd, dd, dd, dd, dd, dd, dd, dd, dd, dd, dd, dd, dd, dd, dd, dd, dd, dd, dd, dd, dd, dd, dd, dd, dd, dd, dd, dd, dd, dd, dd, dd, dd, dd, dd, dd, dd, dd, dd, dd, dd, dd, dd, dd, dd, dd, dd, dd, dd, dd, dd, dd, dd, dd, dd, dd, dd, dd, dd, dd, dd, dd, dd, dd, dd, dd, dd, dd, dd, dd, dd, dd, dd, dd, dd, dd, dd, dd, dd, dd, dd, dd, dd, dd, dd, dd, dd, dd, dd, dd, dd, dd, dd, dd, dd, dd, dd], [.box ((cS_sig_Set v_s1).map FV.d), .box ((cS_sig_Set v_r40.1).map FV.d), .box ((cS_sig_Set v_r44.1).map FV.d), .box ((cS_sig_Set v_r51.1).map FV.d), .box ((cS_sig_Set v_r86.1).map FV.d), .box ((cS_sig_Set (S_sig_Set.mk 0 0 (fun (_ : Fin 16) => 0))).map FV.d), .box ((cS_ringref5_Signals v_r157).map FV.d), .box ((cS_ringref5_Signals v_b306).map FV.d)]⟩
def G_ringlaw5_SigSays_L5_hd (v_n2 : Int) (v_how3 : Int) (v_r40 : (S_sig_Set × Int)) (v_r44 : (S_sig_Set × Int)) (v_r51 : (S_sig_Set × Int)) (v_r86 : (S_sig_Set × Int)) (v_s1 : S_sig_Set) (v_r157 : (S_ringref5_Signals)) (v_x298 : Int) (v_b299 : S_ringref5_Signals) : PS := ⟨[dd, .d (.v (.int .i64 v_n2)), .d (.v (.int .i64 v_how3)), dd, .ref 0 0, dd, dd, dd, dd, .ref 1 0, .d (.v (.int .i64 v_r40.2)), .ref 2 0, .d (.v (.int .i64 v_r44.2)), .ref 3 0, .d (.v (.int .i64 v_r51.2)), dd, dd, dd, dd, dd, dd, .ref 4 0, .d (.v (.int .i64 v_r86.2)), .ref 5 0, dd, .ref 6 0, dd, .ref 7 0, dd, dd, dd, dd, dd, dd, dd, dd, dd, dd, dd, dd, dd, dd, dd, dd, dd, dd, dd, dd, dd, dd, dd, dd, dd, dd, dd, dd, dd, dd, dd, dd, dd, dd, dd, dd, dd, dd, dd, dd, dd, dd, dd, dd, dd, dd, dd, dd, dd, dd, dd, dd, dd, dd, dd, dd, dd, dd, dd, dd, dd, dd, dd, dd, dd, dd, dd, dd, dd, dd, dd, dd, dd, dd, dd, dd, dd, dd, dd, dd, dd, dd, dd, dd, dd, dd, dd, dd, dd, dd, dd, dd, dd, dd, dd, dd, dd, dd, dd, dd, dd, dd, dd, dd, dd, dd, dd, dd, dd, dd, dd, dd, dd, dd, dd, dd, dd, dd, dd, dd, dd, dd, dd, dd, dd, dd, dd, dd, dd, dd, dd, dd, dd, dd, dd, dd, dd, dd, dd, dd, dd, dd, dd, dd, dd, dd, dd, dd, dd, dd, dd, dd, dd, dd, dd, dd, dd, dd, dd, dd, dd, dd, dd, dd, dd, dd, dd, dd, dd, dd, dd, dd, dd, dd, dd, dd, dd, dd, dd, dd, dd, dd, dd, dd, dd, dd, .d (.v (.int .i64 v_x298)), dd, dd, dd, dd, dd, dd, dd, dd, dd, dd, dd, dd, dd, dd, dd, dd, dd, dd, dd, dd, dd, dd, dd, dd, dd, dd, dd, dd, dd, dd, dd, dd, dd, dd, dd, dd, dd, dd, dd, dd, dd, dd, dd, dd, dd, dd, dd, dd, dd, dd, dd, dd, dd, dd, dd, dd, dd, dd, dd, dd, dd, dd, dd, dd, dd, dd, dd, dd, dd, dd, dd, dd, dd, dd, dd, dd, dd, dd, dd, dd, dd, dd, dd, dd, dd, dd, dd, dd, dd, dd, dd, dd, dd, dd, dd, dd, dd, dd, dd, dd, dd, dd, dd, dd, dd, dd, dd, dd, dd, dd, dd, dd, dd, dd, dd, dd, dd, dd, dd, dd, dd, dd, dd, dd, dd, dd, dd, dd, dd, dd, dd, dd, dd, dd, dd, dd, dd], [.box ((cS_sig_Set v_s1).map FV.d), .box ((cS_sig_Set v_r40.1).map FV.d), .box ((cS_sig_Set v_r44.1).map FV.d), .box ((cS_sig_Set v_r51.1).map FV.d), .box ((cS_sig_Set v_r86.1).map FV.d), .box ((cS_sig_Set (S_sig_Set.mk 0 0 (fun (_ : Fin 16) => 0))).map FV.d), .box ((cS_ringref5_Signals v_r157).map FV.d), .box ((cS_ringref5_Signals v_b299).map FV.d)]⟩
def G_ringlaw5_SigSays_L5 (n : Nat) (v_n2 : Int) (v_how3 : Int) (v_r40 : (S_sig_Set × Int)) (v_r44 : (S_sig_Set × Int)) (v_r51 : (S_sig_Set × Int)) (v_r86 : (S_sig_Set × Int)) (v_s1 : S_sig_Set) (v_r157 : (S_ringref5_Signals)) : Nat → Int → S_ringref5_Signals → Option G_ringlaw5_SigSays_L5_R
  | 0, _, _ => none
  | k + 1, v_x298, v_b299 =>
    if v_x298 < 16 then
     if 0 ≤ v_x298 ∧ v_x298 < (16 : Int) then
      (getA v_s1.fHow v_x298).bind fun (v_y303 : Int) =>
      if v_y303 > 1 then
       if 0 ≤ v_x298 ∧ v_x298 < (16 : Int) then
        (getA v_b299.fHow v_x298).bind fun (v_y305 : Int) =>
        G_ringlaw5_SigSays_L5 n v_n2 v_how3 v_r40 v_r44 v_r51 v_r86 v_s1 v_r157 k (wi .i64 (v_x298 + 1)) (S_ringref5_Signals.mk v_b299.fWait v_b299.fBack (setA v_b299.fHow v_x298 0))
       else none
      else
       G_ringlaw5_SigSays_L5 n v_n2 v_how3 v_r40 v_r44 v_r51 v_r86 v_s1 v_r157 k (wi .i64 (v_x298 + 1)) v_b299
     else none
    else
     some (.x0 v_b299)
theorem G_ringlaw5_SigSays_L5_ok {Fi : Ex → PS → Prop} (hF : KC 352 Fi) (ks : List Fr) (n : Nat) (v_n2 : Int) (v_how3 : Int) (v_r40 : (S_sig_Set × Int)) (v_r44 : (S_sig_Set × Int)) (v_r51 : (S_sig_Set × Int)) (v_r86 : (S_sig_Set × Int)) (v_s1 : S_sig_Set) (v_r157 : (S_ringref5_Signals))  : ∀ (k : Nat) (v_x298 : Int) (v_b299 : S_ringref5_Signals) (o : G_ringlaw5_SigSays_L5_R), G_ringlaw5_SigSays_L5 n v_n2 v_how3 v_r40 v_r44 v_r51 v_r86 v_s1 v_r157 k v_x298 v_b299 = some o → RunE Try.prog 352 Fi ks (G_ringlaw5_SigSays_L5_ex o) (G_ringlaw5_SigSays_L5_st v_n2 v_how3 v_r40 v_r44 v_r51 v_r86 v_s1 v_r157 o) → RunE Try.prog 352 Fi (.l k (cP (cB (cR (cT (cR (cL (cR (cR (cR (cR (cR (cR (cR (cR (cR (cR (cR (cR (cR (cR (bodyOf Try.f7))))))))))))))))))))) :: ks) .normal (G_ringlaw5_SigSays_L5_hd v_n2 v_how3 v_r40 v_r44 v_r51 v_r86 v_s1 v_r157 v_x298 v_b299)
  | 0, v_x298, v_b299, o, h, q => by rw [G_ringlaw5_SigSays_L5] at h; cases h
  | k + 1, v_x298, v_b299, o, h, q => by
    rw [G_ringlaw5_SigSays_L5] at h
    by_cases h392 : v_x298 < 16
    · rw [if_pos h392] at h
      by_cases h401 : 0 ≤ v_x298 ∧ v_x298 < (16 : Int)
      · rw [if_pos h401] at h
        obtain ⟨v_y303, h402, h⟩ := bind_some h
        by_cases h406 : v_y303 > 1
        · rw [if_pos h406] at h
          by_cases h407 : 0 ≤ v_x298 ∧ v_x298 < (16 : Int)
          · rw [if_pos h407] at h
            obtain ⟨v_y305, h408, h⟩ := bind_some h
            exact pkk_sound TTok mix hF 16 (hs := [.t true, .l (.d (.v (.int .i64 v_y303))), .t true, .x ((cS_ringref5_Signals (S_ringref5_Signals.mk v_b299.fWait v_b299.fBack (setA v_b299.fHow v_x298 0))).map FV.d), .c]) (ts := []) (s := [0, 1, 2, 3, 4, 5, 6, 7]) (l := [1, 2, 4, 9, 10, 11, 12, 13, 14, 21, 22, 23, 25, 27, 214]) (by kernel_rfl) (by kernel_rfl) (.cons (dt h392) (.cons h401 (.cons (arr_cell (γ := FV) (sz := 1) (g := (fun x => [.d (.v (.int .i64 x))])) (pre := [.d (.v (.int .i64 v_s1.fPending)), .d (.v (.int .i64 v_s1.fMask))]) (post := []) (o := 0) (fun _ => rfl) h402 rfl) (.cons (dt h406) (.cons h407 (.cons (arr_store (γ := FV) (sz := 1) (g := (fun x => [.d (.v (.int .i64 x))])) (pre := [.d (.sl (v_b299.fWait.map (eI .i64))), .d (.sl (v_b299.fBack.map (eI .i64)))]) (post := []) (o := 0) (y := 0) (zs := [.d (.v (.int .i64 0))]) (fun _ => rfl) h408 rfl (Nat.le_of_ble_eq_true rfl)).1 (.cons (arr_store (γ := FV) (sz := 1) (g := (fun x => [.d (.v (.int .i64 x))])) (pre := [.d (.sl (v_b299.fWait.map (eI .i64))), .d (.sl (v_b299.fBack.map (eI .i64)))]) (post := []) (o := 0) (y := 0) (zs := [.d (.v (.int .i64 0))]) (fun _ => rfl) h408 rfl (Nat.le_of_ble_eq_true rfl)).2 .nil))))))) (G_ringlaw5_SigSays_L5_ok hF ks n v_n2 v_how3 v_r40 v_r44 v_r51 v_r86 v_s1 v_r157 k (wi .i64 (v_x298 + 1)) (S_ringref5_Signals.mk v_b299.fWait v_b299.fBack (setA v_b299.fHow v_x298 0)) _ h q)
          · rw [if_neg h407] at h; cases h
        · rw [if_neg h406] at h
          exact pkk_sound TTok mix hF 16 (hs := [.t true, .l (.d (.v (.int .i64 v_y303))), .t false]) (ts := []) (s := [0, 1, 2, 3, 4, 5, 6, 7]) (l := [1, 2, 4, 9, 10, 11, 12, 13, 14, 21, 22, 23, 25, 27, 214]) (by kernel_rfl) (by kernel_rfl) (.cons (dt h392) (.cons h401 (.cons (arr_cell (γ := FV) (sz := 1) (g := (fun x => [.d (.v (.int .i64 x))])) (pre := [.d (.v (.int .i64 v_s1.fPending)), .d (.v (.int .i64 v_s1.fMask))]) (post := []) (o := 0) (fun _ => rfl) h402 rfl) (.cons (df h406) .nil)))) (G_ringlaw5_SigSays_L5_ok hF ks n v_n2 v_how3 v_r40 v_r44 v_r51 v_r86 v_s1 v_r157 k (wi .i64 (v_x298 + 1)) v_b299 _ h q)
      · rw [if_neg h401] at h; cases h
    · rw [if_neg h392] at h
      cases h
      exact pkk_sound TTok mix hF 8 (hs := [.t false]) (ts := []) (s := [0, 1, 2, 3, 4, 5, 6, 7]) (l := [1, 2, 4, 9, 10, 11, 12, 13, 14, 21, 22, 23, 25, 27]) (by kernel_rfl) (by kernel_rfl) (.cons (df h392) .nil) q
inductive G_ringlaw5_SigSays_C6_R where
  | x0 (v_x310 : Bool)
def G_ringlaw5_SigSays_C6_ex : G_ringlaw5_SigSays_C6_R → Ex
  | .x0 _ => .normal
def G_ringlaw5_SigSays_C6_st (v_n2 : Int) (v_how3 : Int) (v_r40 : (S_sig_Set × Int)) (v_r44 : (S_sig_Set × Int)) (v_r51 : (S_sig_Set × Int)) (v_r86 : (S_sig_Set × Int)) (v_s1 : S_sig_Set) (v_r157 : (S_ringref5_Signals)) (v_z308 : S_ringref5_Signals) : G_ringlaw5_SigSays_C6_R → PS
  | .x0 v_x310 => ⟨[dd, .d (.v (.int .i64 v_n2)), .d (.v (.int .i64 v_how3)), dd, .ref 0 0, dd, dd, dd, dd, .ref 1 0, .d (.v (.int .i64 v_r40.2)), .ref 2 0, .d (.v (.int .i64 v_r44.2)), .ref 3 0, .d (.v (.int .i64 v_r51.2)), dd, dd, dd, dd, dd, dd, dd, dd, .ref 4 0, dd, .ref 5 0, dd, dd, dd, dd, dd, dd, dd, dd, dd, dd, dd, dd, dd, dd, dd, dd, dd, dd, dd, dd, dd, dd, dd, dd, dd, dd, dd, dd, dd, dd, dd, dd, dd, dd, dd, dd, dd, dd, dd, dd, dd, dd, dd, dd, dd, dd, dd, dd, dd, dd, dd, dd, dd, dd, dd, dd, dd, dd, dd, dd, dd, dd, dd, dd, dd, dd, dd, dd, dd, dd, dd, dd, dd, dd, dd, dd, dd, dd, dd, dd, dd, dd, dd, dd, dd, dd, dd, dd, dd, dd, dd, dd, dd, dd, dd, dd, dd, dd, dd, dd, dd, dd, dd, dd, dd, dd, dd, dd, dd, dd, dd, dd, dd, dd, dd, dd, dd, dd, dd, dd, dd, dd, dd, dd, dd, dd, dd, dd, dd, dd, dd, dd, dd, dd, dd, dd, dd, dd, dd, dd, dd, dd, dd, dd, dd, dd, dd, dd, dd, dd, dd, dd, dd, dd, dd, dd, dd, dd, dd, dd, dd, dd, dd, dd, dd, dd, dd, dd, dd, dd, dd, dd, dd, dd, dd, dd, dd, dd, dd, dd, dd, dd, dd, dd, dd, dd, dd, dd, dd, dd, dd, dd, dd, dd, dd, dd, dd, dd, dd, dd, dd, dd, dd, dd, dd, dd, dd, dd, .d (.v (.bool v_x310)), dd, dd, dd, dd, dd, dd, dd, dd, dd, dd, dd, dd, dd, dd, dd, dd, dd, dd, dd, dd, dd, dd, dd, dd, dd, dd, dd, dd, dd, dd, dd, dd, dd, dd, dd, dd, dd, dd, dd, dd, dd, dd, dd, dd, dd, dd, dd, dd, dd, dd, dd, dd, dd, dd, dd, dd, dd, dd, dd, dd, dd, dd, dd, dd, dd, dd, dd, dd, dd, dd, dd, dd, dd, dd, dd, dd, dd, dd, dd, dd, dd, dd, dd, dd, dd, dd, dd, dd, dd, dd, dd, dd, dd, dd, dd, dd, dd, dd, dd, dd, dd, dd, dd, dd, dd, dd, dd, dd, dd, dd, dd, dd, dd, dd, dd, dd, dd], [.box ((cS_sig_Set v_s1).map FV.d), .box ((cS_sig_Set v_r40.1).map FV.d), .box ((cS_sig_Set v_r44.1).map FV.d), .box ((cS_sig_Set v_r51.1).map FV.d), .box ((cS_sig_Set (S_sig_Set.mk 0 0 (fun (_ : Fin 16) => 0))).map FV.d), .box ((cS_ringref5_Signals v_r157).map FV.d)]⟩
def G_ringlaw5_SigSays_C6_hd (v_n2 : Int) (v_how3 : Int) (v_r40 : (S_sig_Set × Int)) (v_r44 : (S_sig_Set × Int)) (v_r51 : (S_sig_Set × Int)) (v_r86 : (S_sig_Set × Int)) (v_s1 : S_sig_Set) (v_r157 : (S_ringref5_Signals)) (v_z308 : S_ringref5_Signals)  : PS := ⟨[dd, .d (.v (.int .i64 v_n2)), .d (.v (.int .i64 v_how3)), dd, .ref 0 0, dd, dd, dd, dd, .ref 1 0, .d (.v (.int .i64 v_r40.2)), .ref 2 0, .d (.v (.int .i64 v_r44.2)), .ref 3 0, .d (.v (.int .i64 v_r51.2)), dd, dd, dd, dd, dd, dd, .ref 4 0, .d (.v (.int .i64 v_r86.2)), .ref 5 0, dd, .ref 6 0, dd, .ref 7 0, dd, dd, dd, dd, dd, dd, dd, dd, dd, dd, dd, dd, dd, dd, dd, dd, dd, dd, dd, dd, dd, dd, dd, dd, dd, dd, dd, dd, dd, dd, dd, dd, dd, dd, dd, dd, dd, dd, dd, dd, dd, dd, dd, dd, dd, dd, dd, dd, dd, dd, dd, dd, dd, dd, dd, dd, dd, dd, dd, dd, dd, dd, dd, dd, dd, dd, dd, dd, dd, dd, dd, dd, dd, dd, dd, dd, dd, dd, dd, dd, dd, dd, dd, dd, dd, dd, dd, dd, dd, dd, dd, dd, dd, dd, dd, dd, dd, dd, dd, dd, dd, dd, dd, dd, dd, dd, dd, dd, dd, dd, dd, dd, dd, dd, dd, dd, dd, dd, dd, dd, dd, dd, dd, dd, dd, dd, dd, dd, dd, dd, dd, dd, dd, dd, dd, dd, dd, dd, dd, dd, dd, dd, dd, dd, dd, dd, dd, dd, dd, dd, dd, dd, dd, dd, dd, dd, dd, dd, dd, dd, dd, dd, dd, dd, dd, dd, dd, dd, dd, dd, dd, dd, dd, dd, dd, dd, dd, dd, dd, dd, dd, dd, dd, dd, dd, dd, dd, dd, dd, dd, dd, dd, dd, dd, dd, dd, dd, dd, dd, dd, dd, dd, dd, dd, dd, dd, dd, dd, dd, dd, dd, dd, dd, dd, dd, dd, dd, dd, dd, dd, dd, dd, dd, dd, dd, dd, dd, dd, dd, dd, dd, dd, dd, dd, dd, dd, dd, dd, dd, dd, dd, dd, dd, dd, dd, dd, dd, dd, dd, dd, dd, dd, dd, dd, dd, dd, dd, dd, dd, dd, dd, dd, dd, dd, dd, dd, dd, dd, dd, dd, dd, dd, dd, dd, dd, dd, dd, dd, dd, dd, dd, dd, dd, dd, dd, dd, dd, dd, dd, dd, dd, dd, dd, dd, dd, dd, dd, dd, dd, dd, dd, dd, dd, dd, dd, dd, dd, dd, dd, dd, dd, dd, dd, dd, dd, dd, dd, dd, dd, dd, dd, dd, dd, dd], [.box ((cS_sig_Set v_s1).map FV.d), .box ((cS_sig_Set v_r40.1).map FV.d), .box ((cS_sig_Set v_r44.1).map FV.d), .box ((cS_sig_Set v_r51.1).map FV.d), .box ((cS_sig_Set v_r86.1).map FV.d), .box ((cS_sig_Set (S_sig_Set.mk 0 0 (fun (_ : Fin 16) => 0))).map FV.d), .box ((cS_ringref5_Signals v_r157).map FV.d), .box ((cS_ringref5_Signals v_z308).map FV.d)]⟩
def G_ringlaw5_SigSays_C6 (n : Nat) (v_n2 : Int) (v_how3 : Int) (v_r40 : (S_sig_Set × Int)) (v_r44 : (S_sig_Set × Int)) (v_r51 : (S_sig_Set × Int)) (v_r86 : (S_sig_Set × Int)) (v_s1 : S_sig_Set) (v_r157 : (S_ringref5_Signals)) (v_z308 : S_ringref5_Signals) : Option G_ringlaw5_SigSays_C6_R :=
  if v_r86.2 = 0 then
   (G_ringlaw5_same n v_r86.1 v_z308).bind fun (v_r311 : (Bool)) =>
   some (.x0 (!v_r311))
  else
   some (.x0 true)
theorem G_ringlaw5_SigSays_C6_ok {Fi : Ex → PS → Prop} (hF : KC 352 Fi) (ks : List Fr) (n : Nat) (v_n2 : Int) (v_how3 : Int) (v_r40 : (S_sig_Set × Int)) (v_r44 : (S_sig_Set × Int)) (v_r51 : (S_sig_Set × Int)) (v_r86 : (S_sig_Set × Int)) (v_s1 : S_sig_Set) (v_r157 : (S_ringref5_Signals)) (v_z308 : S_ringref5_Signals)  (o : G_ringlaw5_SigSays_C6_R) (h : G_ringlaw5_SigSays_C6 n v_n2 v_how3 v_r40 v_r44 v_r51 v_r86 v_s1 v_r157 v_z308 = some o) (q : RunE Try.prog 352 Fi ks (G_ringlaw5_SigSays_C6_ex o) (G_ringlaw5_SigSays_C6_st v_n2 v_how3 v_r40 v_r44 v_r51 v_r86 v_s1 v_r157 v_z308 o)) : RunE Try.prog 352 Fi (.s (cL (cL (cR (cR (cR (cR (cR (cR (cR (cR (cR (cR (cR (cR (cR (cR (cR (bodyOf Try.f7)))))))))))))))))) :: ks) .normal (G_ringlaw5_SigSays_C6_hd v_n2 v_how3 v_r40 v_r44 v_r51 v_r86 v_s1 v_r157 v_z308) := by
  unfold G_ringlaw5_SigSays_C6 at h
  by_cases h412 : v_r86.2 = 0
  · rw [if_pos h412] at h
    obtain ⟨v_r311, h413, h⟩ := bind_some h
    cases h
    exact pkk_sound TTok mix hF 1 (hs := [.t false, .c, .c, .c, .c, .r (eB v_r311), .c]) (ts := []) (s := [0, 1, 2, 3, 5, 6]) (l := [1, 2, 4, 9, 10, 11, 12, 13, 14, 23, 25, 234]) (by kernel_rfl) (by kernel_rfl) (.cons (nf h412) (.cons (G_ringlaw5_same_ok n v_r86.1 v_z308 _ h413) .nil)) q
  · rw [if_neg h412] at h
    cases h
    exact pkk_sound TTok mix hF 1 (hs := [.t true, .c, .c, .c]) (ts := []) (s := [0, 1, 2, 3, 5, 6]) (l := [1, 2, 4, 9, 10, 11, 12, 13, 14, 23, 25, 234]) (by kernel_rfl) (by kernel_rfl) (.cons (nt h412) .nil) q
inductive G_ringlaw5_SigSays_C7_R where
  | x0 (v_x315 : Bool)
def G_ringlaw5_SigSays_C7_ex : G_ringlaw5_SigSays_C7_R → Ex
  | .x0 _ => .normal
def G_ringlaw5_SigSays_C7_st (v_n2 : Int) (v_how3 : Int) (v_r40 : (S_sig_Set × Int)) (v_r44 : (S_sig_Set × Int)) (v_r51 : (S_sig_Set × Int)) (v_s1 : S_sig_Set) (v_r157 : (S_ringref5_Signals)) : G_ringlaw5_SigSays_C7_R → PS
  | .x0 v_x315 => ⟨[dd, .d (.v (.int .i64 v_n2)), .d (.v (.int .i64 v_how3)), dd, .ref 0 0, dd, dd, dd, dd, .ref 1 0, .d (.v (.int .i64 v_r40.2)), .ref 2 0, .d (.v (.int .i64 v_r44.2)), .ref 3 0, .d (.v (.int .i64 v_r51.2)), dd, dd, dd, dd, dd, dd, dd, dd, .ref 4 0, dd, .ref 5 0, dd, dd, dd, dd, dd, dd, dd, dd, dd, dd, dd, dd, dd, dd, dd, dd, dd, dd, dd, dd, dd, dd, dd, dd, dd, dd, dd, dd, dd, dd, dd, dd, dd, dd, dd, dd, dd, dd, dd, dd, dd, dd, dd, dd, dd, dd, dd, dd, dd, dd, dd, dd, dd, dd, dd, dd, dd, dd, dd, dd, dd, dd, dd, dd, dd, dd, dd, dd, dd, dd, dd, dd, dd, dd, dd, dd, dd, dd, dd, dd, dd, dd, dd, dd, dd, dd, dd, dd, dd, dd, dd, dd, dd, dd, dd, dd, dd, dd, dd, dd, dd, dd, dd, dd, dd, dd, dd, dd, dd, dd, dd, dd, dd, dd, dd, dd, dd, dd, dd, dd, dd, dd, dd, dd, dd, dd, dd, dd, dd, dd, dd, dd, dd, dd, dd, dd, dd, dd, dd, dd, dd, dd, dd, dd, dd, dd, dd, dd, dd, dd, dd, dd, dd, dd, dd, dd, dd, dd, dd, dd, dd, dd, dd, dd, dd, dd, dd, dd, dd, dd, dd, dd, dd, dd, dd, dd, dd, dd, dd, dd, dd, dd, dd, dd, dd, dd, dd, dd, dd, dd, dd, dd, dd, dd, dd, dd, dd, dd, dd, dd, dd, dd, dd, dd, dd, dd, dd, dd, dd, dd, dd, dd, dd, dd, dd, dd, dd, dd, dd, .d (.v (.bool v_x315)), dd, dd, dd, dd, dd, dd, dd, dd, dd, dd, dd, dd, dd, dd, dd, dd, dd, dd, dd, dd, dd, dd, dd, dd, dd, dd, dd, dd, dd, dd, dd, dd, dd, dd, dd, dd, dd, dd, dd, dd, dd, dd, dd, dd, dd, dd, dd, dd, dd, dd, dd, dd, dd, dd, dd, dd, dd, dd, dd, dd, dd, dd, dd, dd, dd, dd, dd, dd, dd, dd, dd, dd, dd, dd, dd, dd, dd, dd, dd, dd, dd, dd, dd, dd, dd, dd, dd, dd, dd, dd, dd, dd, dd, dd, dd, dd, dd, dd, dd, dd, dd, dd, dd, dd, dd, dd], [.box ((cS_sig_Set v_s1).map FV.d), .box ((cS_sig_Set v_r40.1).map FV.d), .box ((cS_sig_Set v_r44.1).map FV.d), .box ((cS_sig_Set v_r51.1).map FV.d), .box ((cS_sig_Set (S_sig_Set.mk 0 0 (fun (_ : Fin 16) => 0))).map FV.d), .box ((cS_ringref5_Signals v_r157).map FV.d)]⟩
def G_ringlaw5_SigSays_C7_hd (v_n2 : Int) (v_how3 : Int) (v_r40 : (S_sig_Set × Int)) (v_r44 : (S_sig_Set × Int)) (v_r51 : (S_sig_Set × Int)) (v_s1 : S_sig_Set) (v_r157 : (S_ringref5_Signals))  : PS := ⟨[dd, .d (.v (.int .i64 v_n2)), .d (.v (.int .i64 v_how3)), dd, .ref 0 0, dd, dd, dd, dd, .ref 1 0, .d (.v (.int .i64 v_r40.2)), .ref 2 0, .d (.v (.int .i64 v_r44.2)), .ref 3 0, .d (.v (.int .i64 v_r51.2)), dd, dd, dd, dd, dd, dd, dd, dd, .ref 4 0, dd, .ref 5 0, dd, dd, dd, dd, dd, dd, dd, dd, dd, dd, dd, dd, dd, dd, dd, dd, dd, dd, dd, dd, dd, dd, dd, dd, dd, dd, dd, dd, dd, dd, dd, dd, dd, dd, dd, dd, dd, dd, dd, dd, dd, dd, dd, dd, dd, dd, dd, dd, dd, dd, dd, dd, dd, dd, dd, dd, dd, dd, dd, dd, dd, dd, dd, dd, dd, dd, dd, dd, dd, dd, dd, dd, dd, dd, dd, dd, dd, dd, dd, dd, dd, dd, dd, dd, dd, dd, dd, dd, dd, dd, dd, dd, dd, dd, dd, dd, dd, dd, dd, dd, dd, dd, dd, dd, dd, dd, dd, dd, dd, dd, dd, dd, dd, dd, dd, dd, dd, dd, dd, dd, dd, dd, dd, dd, dd, dd, dd, dd, dd, dd, dd, dd, dd, dd, dd, dd, dd, dd, dd, dd, dd, dd, dd, dd, dd, dd, dd, dd, dd, dd, dd, dd, dd, dd, dd, dd, dd, dd, dd, dd, dd, dd, dd, dd, dd, dd, dd, dd, dd, dd, dd, dd, dd, dd, dd, dd, dd, dd, dd, dd, dd, dd, dd, dd, dd, dd, dd, dd, dd, dd, dd, dd, dd, dd, dd, dd, dd, dd, dd, dd, dd, dd, dd, dd, dd, dd, dd, dd, dd, dd, dd, dd, dd, dd, dd, dd, dd, dd, dd, dd, dd, dd, dd, dd, dd, dd, dd, dd, dd, dd, dd, dd, dd, dd, dd, dd, dd, dd, dd, dd, dd, dd, dd, dd, dd, dd, dd, dd, dd, dd, dd, dd, dd, dd, dd, dd, dd, dd, dd, dd, dd, dd, dd, dd, dd, dd, dd, dd, dd, dd, dd, dd, dd, dd, dd, dd, dd, dd, dd, dd, dd, dd, dd, dd, dd, dd, dd, dd, dd, dd, dd, dd, dd, dd, dd, dd, dd, dd, dd, dd, dd, dd, dd, dd, dd, dd, dd, dd, dd, dd, dd, dd, dd, dd, dd, dd, dd, dd, dd, dd, dd, dd, dd, dd, dd, dd], [.box ((cS_sig_Set v_s1).map FV.d), .box ((cS_sig_Set v_r40.1).map FV.d), .box ((cS_sig_Set v_r44.1).map FV.d), .box ((cS_sig_Set v_r51.1).map FV.d), .box ((cS_sig_Set (S_sig_Set.mk 0 0 (fun (_ : Fin 16) => 0))).map FV.d), .box ((cS_ringref5_Signals v_r157).map FV.d)]⟩
def G_ringlaw5_SigSays_C7 (n : Nat) (v_n2 : Int) (v_how3 : Int) (v_r40 : (S_sig_Set × Int)) (v_r44 : (S_sig_Set × Int)) (v_r51 : (S_sig_Set × Int)) (v_s1 : S_sig_Set) (v_r157 : (S_ringref5_Signals)) : Option G_ringlaw5_SigSays_C7_R :=
  if v_n2 < 0 then
   some (.x0 true)
  else
   if v_n2 > 65535 then
    some (.x0 true)
   else
    some (.x0 ((remI v_n2 2) == 1))
theorem G_ringlaw5_SigSays_C7_ok {Fi : Ex → PS → Prop} (hF : KC 352 Fi) (ks : List Fr) (n : Nat) (v_n2 : Int) (v_how3 : Int) (v_r40 : (S_sig_Set × Int)) (v_r44 : (S_sig_Set × Int)) (v_r51 : (S_sig_Set × Int)) (v_s1 : S_sig_Set) (v_r157 : (S_ringref5_Signals))  (o : G_ringlaw5_SigSays_C7_R) (h : G_ringlaw5_SigSays_C7 n v_n2 v_how3 v_r40 v_r44 v_r51 v_s1 v_r157 = some o) (q : RunE Try.prog 352 Fi ks (G_ringlaw5_SigSays_C7_ex o) (G_ringlaw5_SigSays_C7_st v_n2 v_how3 v_r40 v_r44 v_r51 v_s1 v_r157 o)) : RunE Try.prog 352 Fi (.s (cL (cL (cR (cR (cR (cR (cR (cR (cR (cR (cR (cR (cR (cR (cR (cR (cR (cR (bodyOf Try.f7))))))))))))))))))) :: ks) .normal (G_ringlaw5_SigSays_C7_hd v_n2 v_how3 v_r40 v_r44 v_r51 v_s1 v_r157) := by
  unfold G_ringlaw5_SigSays_C7 at h
  by_cases h419 : v_n2 < 0
  · rw [if_pos h419] at h
    cases h
    exact pkk_sound TTok mix hF 1 (hs := [.t true, .c, .c, .c, .c]) (ts := []) (s := [0, 1, 2, 3, 4, 5]) (l := [1, 2, 4, 9, 10, 11, 12, 13, 14, 23, 25, 245]) (by kernel_rfl) (by kernel_rfl) (.cons (dt h419) .nil) q
  · rw [if_neg h419] at h
    by_cases h420 : v_n2 > 65535
    · rw [if_pos h420] at h
      cases h
      exact pkk_sound TTok mix hF 1 (hs := [.t false, .c, .t true, .c, .c]) (ts := []) (s := [0, 1, 2, 3, 4, 5]) (l := [1, 2, 4, 9, 10, 11, 12, 13, 14, 23, 25, 245]) (by kernel_rfl) (by kernel_rfl) (.cons (df h419) (.cons (dt h420) .nil)) q
    · rw [if_neg h420] at h
      cases h
      exact pkk_sound TTok mix hF 1 (hs := [.t false, .c, .t false, .c, .c]) (ts := []) (s := [0, 1, 2, 3, 4, 5]) (l := [1, 2, 4, 9, 10, 11, 12, 13, 14, 23, 25, 245]) (by kernel_rfl) (by kernel_rfl) (.cons (df h419) (.cons (df h420) (.cons (show (2 : Int) ≠ 0 by decide) .nil))) q
inductive G_ringlaw5_SigSays_C8_R where
  | x0 (v_x328 : Bool)
def G_ringlaw5_SigSays_C8_ex : G_ringlaw5_SigSays_C8_R → Ex
  | .x0 _ => .normal
def G_ringlaw5_SigSays_C8_st (v_n2 : Int) (v_how3 : Int) (v_r40 : (S_sig_Set × Int)) (v_r44 : (S_sig_Set × Int)) (v_r51 : (S_sig_Set × Int)) (v_s1 : S_sig_Set) (v_r157 : (S_ringref5_Signals)) : G_ringlaw5_SigSays_C8_R → PS
  | .x0 v_x328 => ⟨[dd, .d (.v (.int .i64 v_n2)), .d (.v (.int .i64 v_how3)), dd, dd, dd, dd, dd, dd, .ref 0 0, .d (.v (.int .i64 v_r40.2)), dd, dd, .ref 1 0, .d (.v (.int .i64 v_r51.2)), dd, dd, dd, dd, dd, dd, dd, dd, .ref 2 0, dd, .ref 3 0, dd, dd, dd, dd, dd, dd, dd, dd, dd, dd, dd, dd, dd, dd, dd, dd, dd, dd, dd, dd, dd, dd, dd, dd, dd, dd, dd, dd, dd, dd, dd, dd, dd, dd, dd, dd, dd, dd, dd, dd, dd, dd, dd, dd, dd, dd, dd, dd, dd, dd, dd, dd, dd, dd, dd, dd, dd, dd, dd, dd, dd, dd, dd, dd, dd, dd, dd, dd, dd, dd, dd, dd, dd, dd, dd, dd, dd, dd, dd, dd, dd, dd, dd, dd, dd, dd, dd, dd, dd, dd, dd, dd, dd, dd, dd, dd, dd, dd, dd, dd, dd, dd, dd, dd, dd, dd, dd, dd, dd, dd, dd, dd, dd, dd, dd, dd, dd, dd, dd, dd, dd, dd, dd, dd, dd, dd, dd, dd, dd, dd, dd, dd, dd, dd, dd, dd, dd, dd, dd, dd, dd, dd, dd, dd, dd, dd, dd, dd, dd, dd, dd, dd, dd, dd, dd, dd, dd, dd, dd, dd, dd, dd, dd, dd, dd, dd, dd, dd, dd, dd, dd, dd, dd, dd, dd, dd, dd, dd, dd, dd, dd, dd, dd, dd, dd, dd, dd, dd, dd, dd, dd, dd, dd, dd, dd, dd, dd, dd, dd, dd, dd, dd, dd, dd, dd, dd, dd, dd, dd, dd, dd, dd, dd, dd, dd, dd, dd, dd, dd, dd, dd, dd, dd, dd, dd, dd, dd, dd, dd, dd, dd, dd, dd, dd, dd, dd, dd, dd, dd, dd, dd, dd, dd, dd, dd, dd, dd, dd, dd, dd, dd, .d (.v (.bool v_x328)), dd, dd, dd, dd, dd, dd, dd, dd, dd, dd, dd, dd, dd, dd, dd, dd, dd, dd, dd, dd, dd, dd, dd, dd, dd, dd, dd, dd, dd, dd, dd, dd, dd, dd, dd, dd, dd, dd, dd, dd, dd, dd, dd, dd, dd, dd, dd, dd, dd, dd, dd, dd, dd, dd, dd, dd, dd, dd, dd, dd, dd, dd, dd, dd, dd, dd, dd, dd, dd, dd, dd, dd, dd, dd], [.box ((cS_sig_Set v_r40.1).map FV.d), .box ((cS_sig_Set v_r51.1).map FV.d), .box ((cS_sig_Set (S_sig_Set.mk 0 0 (fun (_ : Fin 16) => 0))).map FV.d), .box ((cS_ringref5_Signals v_r157).map FV.d)]⟩
def G_ringlaw5_SigSays_C8_hd (v_n2 : Int) (v_how3 : Int) (v_r40 : (S_sig_Set × Int)) (v_r44 : (S_sig_Set × Int)) (v_r51 : (S_sig_Set × Int)) (v_s1 : S_sig_Set) (v_r157 : (S_ringref5_Signals))  : PS := ⟨[dd, .d (.v (.int .i64 v_n2)), .d (.v (.int .i64 v_how3)), dd, .ref 0 0, dd, dd, dd, dd, .ref 1 0, .d (.v (.int .i64 v_r40.2)), .ref 2 0, .d (.v (.int .i64 v_r44.2)), .ref 3 0, .d (.v (.int .i64 v_r51.2)), dd, dd, dd, dd, dd, dd, dd, dd, .ref 4 0, dd, .ref 5 0, dd, dd, dd, dd, dd, dd, dd, dd, dd, dd, dd, dd, dd, dd, dd, dd, dd, dd, dd, dd, dd, dd, dd, dd, dd, dd, dd, dd, dd, dd, dd, dd, dd, dd, dd, dd, dd, dd, dd, dd, dd, dd, dd, dd, dd, dd, dd, dd, dd, dd, dd, dd, dd, dd, dd, dd, dd, dd, dd, dd, dd, dd, dd, dd, dd, dd, dd, dd, dd, dd, dd, dd, dd, dd, dd, dd, dd, dd, dd, dd, dd, dd, dd, dd, dd, dd, dd, dd, dd, dd, dd, dd, dd, dd, dd, dd, dd, dd, dd, dd, dd, dd, dd, dd, dd, dd, dd, dd, dd, dd, dd, dd, dd, dd, dd, dd, dd, dd, dd, dd, dd, dd, dd, dd, dd, dd, dd, dd, dd, dd, dd, dd, dd, dd, dd, dd, dd, dd, dd, dd, dd, dd, dd, dd, dd, dd, dd, dd, dd, dd, dd, dd, dd, dd, dd, dd, dd, dd, dd, dd, dd, dd, dd, dd, dd, dd, dd, dd, dd, dd, dd, dd, dd, dd, dd, dd, dd, dd, dd, dd, dd, dd, dd, dd, dd, dd, dd, dd, dd, dd, dd, dd, dd, dd, dd, dd, dd, dd, dd, dd, dd, dd, dd, dd, dd, dd, dd, dd, dd, dd, dd, dd, dd, dd, dd, dd, dd, dd, dd, dd, dd, dd, dd, dd, dd, dd, dd, dd, dd, dd, dd, dd, dd, dd, dd, dd, dd, dd, dd, dd, dd, dd, dd, dd, dd, dd, dd, dd, dd, dd, dd, dd, dd, dd, dd, dd, dd, dd, dd, dd, dd, dd, dd, dd, dd, dd, dd, dd, dd, dd, dd, dd, dd, dd, dd, dd, dd, dd, dd, dd, dd, dd, dd, dd, dd, dd, dd, dd, dd, dd, dd, dd, dd, dd, dd, dd, dd, dd, dd, dd, dd, dd, dd, dd, dd, dd, dd, dd, dd, dd, dd, dd, dd, dd, dd, dd, dd, dd, dd, dd, dd, dd, dd, dd, dd, dd], [.box ((cS_sig_Set v_s1).map FV.d), .box ((cS_sig_Set v_r40.1).map FV.d), .box ((cS_sig_Set v_r44.1).map FV.d), .box ((cS_sig_Set v_r51.1).map FV.d), .box ((cS_sig_Set (S_sig_Set.mk 0 0 (fun (_ : Fin 16) => 0))).map FV.d), .box ((cS_ringref5_Signals v_r157).map FV.d)]⟩
def G_ringlaw5_SigSays_C8 (n : Nat) (v_n2 : Int) (v_how3 : Int) (v_r40 : (S_sig_Set × Int)) (v_r44 : (S_sig_Set × Int)) (v_r51 : (S_sig_Set × Int)) (v_s1 : S_sig_Set) (v_r157 : (S_ringref5_Signals)) : Option G_ringlaw5_SigSays_C8_R :=
  if v_r44.2 = 0 then
   if v_r44.1.fMask = (wi .i64 (v_n2 - (bits .and .i64 v_n2 512))) then
    if v_r44.1.fPending = v_s1.fPending then
     some (.x0 (eqRes .neq (eqA_16_int v_r44.1.fHow v_s1.fHow)))
    else
     some (.x0 true)
   else
    some (.x0 true)
  else
   some (.x0 true)
theorem G_ringlaw5_SigSays_C8_ok {Fi : Ex → PS → Prop} (hF : KC 352 Fi) (ks : List Fr) (n : Nat) (v_n2 : Int) (v_how3 : Int) (v_r40 : (S_sig_Set × Int)) (v_r44 : (S_sig_Set × Int)) (v_r51 : (S_sig_Set × Int)) (v_s1 : S_sig_Set) (v_r157 : (S_ringref5_Signals))  (o : G_ringlaw5_SigSays_C8_R) (h : G_ringlaw5_SigSays_C8 n v_n2 v_how3 v_r40 v_r44 v_r51 v_s1 v_r157 = some o) (q : RunE Try.prog 352 Fi ks (G_ringlaw5_SigSays_C8_ex o) (G_ringlaw5_SigSays_C8_st v_n2 v_how3 v_r40 v_r44 v_r51 v_s1 v_r157 o)) : RunE Try.prog 352 Fi (.s (cL (cF (cR (cL (cR (cR (cR (cR (cR (cR (cR (cR (cR (cR (cR (cR (cR (cR (cR (cR (bodyOf Try.f7))))))))))))))))))))) :: ks) .normal (G_ringlaw5_SigSays_C8_hd v_n2 v_how3 v_r40 v_r44 v_r51 v_s1 v_r157) := by
  unfold G_ringlaw5_SigSays_C8 at h
  by_cases h440 : v_r44.2 = 0
  · rw [if_pos h440] at h
    by_cases h441 : v_r44.1.fMask = (wi .i64 (v_n2 - (bits .and .i64 v_n2 512)))
    · rw [if_pos h441] at h
      by_cases h442 : v_r44.1.fPending = v_s1.fPending
      · rw [if_pos h442] at h
        cases h
        exact pkk_sound TTok mix hF 1 (hs := [.t false, .c, .c, .c, .c, .c, .c, .c, .t false, .c, .c, .c, .c, .c, .c, .t false, .c, .c, .c, .c, .c, .c, .q (eqA_16_int v_r44.1.fHow v_s1.fHow)]) (ts := []) (s := [1, 3, 4, 5]) (l := [1, 2, 9, 10, 13, 14, 23, 25, 277]) (by kernel_rfl) (by kernel_rfl) (.cons (nf h440) (.cons (nf h441) (.cons (nf h442) (.cons (eqA_16_int_ok v_r44.1.fHow v_s1.fHow) .nil)))) q
      · rw [if_neg h442] at h
        cases h
        exact pkk_sound TTok mix hF 1 (hs := [.t false, .c, .c, .c, .c, .c, .c, .c, .t false, .c, .c, .c, .c, .c, .c, .t true, .c, .c, .c, .c]) (ts := []) (s := [1, 3, 4, 5]) (l := [1, 2, 9, 10, 13, 14, 23, 25, 277]) (by kernel_rfl) (by kernel_rfl) (.cons (nf h440) (.cons (nf h441) (.cons (nt h442) .nil))) q
    · rw [if_neg h441] at h
      cases h
      exact pkk_sound TTok mix hF 1 (hs := [.t false, .c, .c, .c, .c, .c, .c, .c, .t true, .c, .c, .c, .c, .c, .c, .c, .c, .c]) (ts := []) (s := [1, 3, 4, 5]) (l := [1, 2, 9, 10, 13, 14, 23, 25, 277]) (by kernel_rfl) (by kernel_rfl) (.cons (nf h440) (.cons (nt h441) .nil)) q
  · rw [if_neg h440] at h
    cases h
    exact pkk_sound TTok mix hF 1 (hs := [.t true, .c, .c, .c, .c, .c, .c, .c, .c, .c, .c, .c, .c, .c, .c, .c, .c]) (ts := []) (s := [1, 3, 4, 5]) (l := [1, 2, 9, 10, 13, 14, 23, 25, 277]) (by kernel_rfl) (by kernel_rfl) (.cons (nt h440) .nil) q
inductive G_ringlaw5_SigSays_C9_R where
  | x0 (v_x326 : Bool)
  | x1 
def G_ringlaw5_SigSays_C9_ex : G_ringlaw5_SigSays_C9_R → Ex
  | .x0 _ => .ret
  | .x1  => .normal
def G_ringlaw5_SigSays_C9_st (v_n2 : Int) (v_how3 : Int) (v_r40 : (S_sig_Set × Int)) (v_r44 : (S_sig_Set × Int)) (v_r51 : (S_sig_Set × Int)) (v_z319 : Bool) (v_s1 : S_sig_Set) (v_r157 : (S_ringref5_Signals)) : G_ringlaw5_SigSays_C9_R → PS
  | .x0 v_x326 => ⟨[dd, dd, dd, dd, dd, dd, dd, dd, .d (.v (.bool v_x326)), dd, dd, dd, dd, dd, dd, dd, dd, dd, dd, dd, dd, dd, dd, dd, dd, dd, dd, dd, dd, dd, dd, dd, dd, dd, dd, dd, dd, dd, dd, dd, dd, dd, dd, dd, dd, dd, dd, dd, dd, dd, dd, dd, dd, dd, dd, dd, dd, dd, dd, dd, dd, dd, dd, dd, dd, dd, dd, dd, dd, dd, dd, dd, dd, dd, dd, dd, dd, dd, dd, dd, dd, dd, dd, dd, dd, dd, dd, dd, dd, dd, dd, dd, dd, dd, dd, dd, dd, dd, dd, dd, dd, dd, dd, dd, dd, dd, dd, dd, dd, dd, dd, dd, dd, dd, dd, dd, dd, dd, dd, dd, dd, dd, dd, dd, dd, dd, dd, dd, dd, dd, dd, dd, dd, dd, dd, dd, dd, dd, dd, dd, dd, dd, dd, dd, dd, dd, dd, dd, dd, dd, dd, dd, dd, dd, dd, dd, dd, dd, dd, dd, dd, dd, dd, dd, dd, dd, dd, dd, dd, dd, dd, dd, dd, dd, dd, dd, dd, dd, dd, dd, dd, dd, dd, dd, dd, dd, dd, dd, dd, dd, dd, dd, dd, dd, dd, dd, dd, dd, dd, dd, dd, dd, dd, dd, dd, dd, dd, dd, dd, dd, dd, dd, dd, dd, dd, dd, dd, dd, dd, dd, dd, dd, dd, dd, dd, dd, dd, dd, dd, dd, dd, dd, dd, dd, dd, dd, dd, dd, dd, dd, dd, dd, dd, dd, dd, dd, dd, dd, dd, dd, dd, dd, dd, dd, dd, dd, dd, dd, dd, dd, dd, dd, dd, dd, dd, dd, dd, dd, dd, dd, dd, dd, dd, dd, dd, dd, dd, dd, dd, dd, dd, dd, dd, dd, dd, dd, dd, dd, dd, dd, dd, dd, dd, dd, dd, dd, dd, dd, dd, dd, dd, dd, dd, dd, dd, dd, dd, dd, dd, dd, dd, dd, dd, dd, dd, dd, dd, dd, dd, dd, dd, dd, dd, dd, dd, dd, dd, dd, dd, dd, dd, dd, dd, dd, dd, dd, dd, dd, dd, dd, dd, dd, dd, dd, dd, dd, dd, dd, dd, dd, dd, dd], []⟩
  | .x1  => ⟨[dd, .d (.v (.int .i64 v_n2)), .d (.v (.int .i64 v_how3)), dd, dd, dd, dd, dd, dd, .ref 0 0, .d (.v (.int .i64 v_r40.2)), dd, dd, .ref 1 0, .d (.v (.int .i64 v_r51.2)), dd, dd, dd, dd, dd, dd, dd, dd, .ref 2 0, dd, .ref 3 0, dd, dd, dd, dd, dd, dd, dd, dd, dd, dd, dd, dd, dd, dd, dd, dd, dd, dd, dd, dd, dd, dd, dd, dd, dd, dd, dd, dd, dd, dd, dd, dd, dd, dd, dd, dd, dd, dd, dd, dd, dd, dd, dd, dd, dd, dd, dd, dd, dd, dd, dd, dd, dd, dd, dd, dd, dd, dd, dd, dd, dd, dd, dd, dd, dd, dd, dd, dd, dd, dd, dd, dd, dd, dd, dd, dd, dd, dd, dd, dd, dd, dd, dd, dd, dd, dd, dd, dd, dd, dd, dd, dd, dd, dd, dd, dd, dd, dd, dd, dd, dd, dd, dd, dd, dd, dd, dd, dd, dd, dd, dd, dd, dd, dd, dd, dd, dd, dd, dd, dd, dd, dd, dd, dd, dd, dd, dd, dd, dd, dd, dd, dd, dd, dd, dd, dd, dd, dd, dd, dd, dd, dd, dd, dd, dd, dd, dd, dd, dd, dd, dd, dd, dd, dd, dd, dd, dd, dd, dd, dd, dd, dd, dd, dd, dd, dd, dd, dd, dd, dd, dd, dd, dd, dd, dd, dd, dd, dd, dd, dd, dd, dd, dd, dd, dd, dd, dd, dd, dd, dd, dd, dd, dd, dd, dd, dd, dd, dd, dd, dd, dd, dd, dd, dd, dd, dd, dd, dd, dd, dd, dd, dd, dd, dd, dd, dd, dd, dd, dd, dd, dd, dd, dd, dd, dd, dd, dd, dd, dd, dd, dd, dd, dd, dd, dd, dd, dd, dd, dd, dd, dd, dd, dd, dd, dd, dd, dd, dd, dd, dd, dd, dd, dd, dd, dd, dd, dd, dd, dd, dd, dd, dd, dd, dd, dd, dd, dd, dd, dd, dd, dd, dd, dd, dd, dd, dd, dd, dd, dd, dd, dd, dd, dd, dd, dd, dd, dd, dd, dd, dd, dd, dd, dd, dd, dd, dd, dd, dd, dd, dd, dd, dd, dd, dd, dd, dd, dd, dd, dd, dd, dd, dd, dd, dd, dd, dd, dd, dd, dd, dd, dd, dd, dd, dd, dd, dd], [.box ((cS_sig_Set v_r40.1).map FV.d), .box ((cS_sig_Set v_r51.1).map FV.d), .box ((cS_sig_Set (S_sig_Set.mk 0 0 (fun (_ : Fin 16) => 0))).map FV.d), .box ((cS_ringref5_Signals v_r157).map FV.d)]⟩
def G_ringlaw5_SigSays_C9_hd (v_n2 : Int) (v_how3 : Int) (v_r40 : (S_sig_Set × Int)) (v_r44 : (S_sig_Set × Int)) (v_r51 : (S_sig_Set × Int)) (v_z319 : Bool) (v_s1 : S_sig_Set) (v_r157 : (S_ringref5_Signals))  : PS := ⟨[dd, .d (.v (.int .i64 v_n2)), .d (.v (.int .i64 v_how3)), dd, .ref 0 0, dd, dd, dd, dd, .ref 1 0, .d (.v (.int .i64 v_r40.2)), .ref 2 0, .d (.v (.int .i64 v_r44.2)), .ref 3 0, .d (.v (.int .i64 v_r51.2)), dd, dd, dd, dd, dd, dd, dd, dd, .ref 4 0, dd, .ref 5 0, dd, dd, dd, dd, dd, dd, dd, dd, dd, dd, dd, dd, dd, dd, dd, dd, dd, dd, dd, dd, dd, dd, dd, dd, dd, dd, dd, dd, dd, dd, dd, dd, dd, dd, dd, dd, dd, dd, dd, dd, dd, dd, dd, dd, dd, dd, dd, dd, dd, dd, dd, dd, dd, dd, dd, dd, dd, dd, dd, dd, dd, dd, dd, dd, dd, dd, dd, dd, dd, dd, dd, dd, dd, dd, dd, dd, dd, dd, dd, dd, dd, dd, dd, dd, dd, dd, dd, dd, dd, dd, dd, dd, dd, dd, dd, dd, dd, dd, dd, dd, dd, dd, dd, dd, dd, dd, dd, dd, dd, dd, dd, dd, dd, dd, dd, dd, dd, dd, dd, dd, dd, dd, dd, dd, dd, dd, dd, dd, dd, dd, dd, dd, dd, dd, dd, dd, dd, dd, dd, dd, dd, dd, dd, dd, dd, dd, dd, dd, dd, dd, dd, dd, dd, dd, dd, dd, dd, dd, dd, dd, dd, dd, dd, dd, dd, dd, dd, dd, dd, dd, dd, dd, dd, dd, dd, dd, dd, dd, dd, dd, dd, dd, dd, dd, dd, dd, dd, dd, dd, dd, dd, dd, dd, dd, dd, dd, dd, dd, dd, dd, dd, dd, dd, dd, dd, dd, dd, dd, dd, dd, dd, dd, dd, dd, dd, dd, dd, dd, dd, .d (.v (.bool v_z319)), dd, dd, dd, dd, dd, dd, dd, dd, dd, dd, dd, dd, dd, dd, dd, dd, dd, dd, dd, dd, dd, dd, dd, dd, dd, dd, dd, dd, dd, dd, dd, dd, dd, dd, dd, dd, dd, dd, dd, dd, dd, dd, dd, dd, dd, dd, dd, dd, dd, dd, dd, dd, dd, dd, dd, dd, dd, dd, dd, dd, dd, dd, dd, dd, dd, dd, dd, dd, dd, dd, dd, dd, dd, dd, dd, dd, dd, dd, dd, dd, dd, dd, dd, dd, dd, dd, dd, dd, dd, dd, dd, dd, dd, dd, dd, dd, dd, dd, dd, dd, dd, dd, dd, dd, dd, dd], [.box ((cS_sig_Set v_s1).map FV.d), .box ((cS_sig_Set v_r40.1).map FV.d), .box ((cS_sig_Set v_r44.1).map FV.d), .box ((cS_sig_Set v_r51.1).map FV.d), .box ((cS_sig_Set (S_sig_Set.mk 0 0 (fun (_ : Fin 16) => 0))).map FV.d), .box ((cS_ringref5_Signals v_r157).map FV.d)]⟩
def G_ringlaw5_SigSays_C9 (n : Nat) (v_n2 : Int) (v_how3 : Int) (v_r40 : (S_sig_Set × Int)) (v_r44 : (S_sig_Set × Int)) (v_r51 : (S_sig_Set × Int)) (v_z319 : Bool) (v_s1 : S_sig_Set) (v_r157 : (S_ringref5_Signals)) : Option G_ringlaw5_SigSays_C9_R :=
  if v_z319 = true then
   if v_r44.2 = 1 then
    if (eqRes .neq (eqS_sig_Set v_r44.1 (S_sig_Set.mk 0 0 (fun (_ : Fin 16) => 0)))) = true then
     some (.x0 false)
    else
     some (.x1 )
   else
    some (.x0 false)
  else
   (G_ringlaw5_SigSays_C8 n v_n2 v_how3 v_r40 v_r44 v_r51 v_s1 v_r157).bind fun v_o332 => match v_o332 with
   | .x0 v_z333 =>
     if v_z333 = true then
      some (.x0 false)
     else
      some (.x1 )
theorem G_ringlaw5_SigSays_C9_ok {Fi : Ex → PS → Prop} (hF : KC 352 Fi) (ks : List Fr) (n : Nat) (v_n2 : Int) (v_how3 : Int) (v_r40 : (S_sig_Set × Int)) (v_r44 : (S_sig_Set × Int)) (v_r51 : (S_sig_Set × Int)) (v_z319 : Bool) (v_s1 : S_sig_Set) (v_r157 : (S_ringref5_Signals))  (o : G_ringlaw5_SigSays_C9_R) (h : G_ringlaw5_SigSays_C9 n v_n2 v_how3 v_r40 v_r44 v_r51 v_z319 v_s1 v_r157 = some o) (q : RunE Try.prog 352 Fi ks (G_ringlaw5_SigSays_C9_ex o) (G_ringlaw5_SigSays_C9_st v_n2 v_how3 v_r40 v_r44 v_r51 v_z319 v_s1 v_r157 o)) : RunE Try.prog 352 Fi (.s (cR (cL (cR (cR (cR (cR (cR (cR (cR (cR (cR (cR (cR (cR (cR (cR (cR (cR (bodyOf Try.f7))))))))))))))))))) :: ks) .normal (G_ringlaw5_SigSays_C9_hd v_n2 v_how3 v_r40 v_r44 v_r51 v_z319 v_s1 v_r157) := by
  unfold G_ringlaw5_SigSays_C9 at h
  by_cases h434 : v_z319 = true
  · rw [if_pos h434] at h
    by_cases h435 : v_r44.2 = 1
    · rw [if_pos h435] at h
      by_cases h436 : (eqRes .neq (eqS_sig_Set v_r44.1 (S_sig_Set.mk 0 0 (fun (_ : Fin 16) => 0)))) = true
      · rw [if_pos h436] at h
        cases h
        exact pkk_sound TTok mix hF 7 (hs := [.t true, .t false, .c, .c, .c, .c, .q (eqS_sig_Set v_r44.1 (S_sig_Set.mk 0 0 (fun (_ : Fin 16) => 0))), .t true]) (ts := []) (s := []) (l := [8]) (by kernel_rfl) (by kernel_rfl) (.cons h434 (.cons (nf h435) (.cons (eqS_sig_Set_ok v_r44.1 (S_sig_Set.mk 0 0 (fun (_ : Fin 16) => 0))) (.cons h436 .nil)))) q
      · rw [if_neg h436] at h
        cases h
        exact pkk_sound TTok mix hF 5 (hs := [.t true, .t false, .c, .c, .c, .c, .q (eqS_sig_Set v_r44.1 (S_sig_Set.mk 0 0 (fun (_ : Fin 16) => 0))), .t false]) (ts := []) (s := [1, 3, 4, 5]) (l := [1, 2, 9, 10, 13, 14, 23, 25]) (by kernel_rfl) (by kernel_rfl) (.cons h434 (.cons (nf h435) (.cons (eqS_sig_Set_ok v_r44.1 (S_sig_Set.mk 0 0 (fun (_ : Fin 16) => 0))) (.cons (vf h436) .nil)))) q
    · rw [if_neg h435] at h
      cases h
      exact pkk_sound TTok mix hF 7 (hs := [.t true, .t true, .c, .c, .c]) (ts := []) (s := []) (l := [8]) (by kernel_rfl) (by kernel_rfl) (.cons h434 (.cons (nt h435) .nil)) q
  · rw [if_neg h434] at h
    obtain ⟨v_o332, h443, h⟩ := bind_some h
    refine pkk_sound TTok mix hF 2 (hs := [.t false]) (ts := []) (s := [0, 1, 2, 3, 4, 5]) (l := [1, 2, 4, 9, 10, 11, 12, 13, 14, 23, 25]) (by kernel_rfl) (by kernel_rfl) (.cons (vf h434) .nil) (G_ringlaw5_SigSays_C8_ok hF (.s (cR (cF (cR (cL (cR (cR (cR (cR (cR (cR (cR (cR (cR (cR (cR (cR (cR (cR (cR (cR (bodyOf Try.f7))))))))))))))))))))) :: ks) n v_n2 v_how3 v_r40 v_r44 v_r51 v_s1 v_r157 _ h443 ?_)
    cases v_o332 with
    | x0 v_z333 =>
      try dsimp only at h
      by_cases h444 : v_z333 = true
      · rw [if_pos h444] at h
        cases h
        exact pkk_sound TTok mix hF 4 (hs := [.t true]) (ts := []) (s := []) (l := [8]) (by kernel_rfl) (by kernel_rfl) (.cons h444 .nil) q
      · rw [if_neg h444] at h
        cases h
        exact pkk_sound TTok mix hF 2 (hs := [.t false]) (ts := []) (s := [0, 1, 2, 3]) (l := [1, 2, 9, 10, 13, 14, 23, 25]) (by kernel_rfl) (by kernel_rfl) (.cons (vf h444) .nil) q
inductive G_ringlaw5_SigSays_C10_R where
  | x0 (v_x343 : Bool)
def G_ringlaw5_SigSays_C10_ex : G_ringlaw5_SigSays_C10_R → Ex
  | .x0 _ => .normal
def G_ringlaw5_SigSays_C10_st (v_r40 : (S_sig_Set × Int)) (v_r51 : (S_sig_Set × Int)) : G_ringlaw5_SigSays_C10_R → PS
  | .x0 v_x343 => ⟨[dd, dd, dd, dd, dd, dd, dd, dd, .d (.v (.bool v_x343)), dd, dd, dd, dd, dd, dd, dd, dd, dd, dd, dd, dd, dd, dd, dd, dd, dd, dd, dd, dd, dd, dd, dd, dd, dd, dd, dd, dd, dd, dd, dd, dd, dd, dd, dd, dd, dd, dd, dd, dd, dd, dd, dd, dd, dd, dd, dd, dd, dd, dd, dd, dd, dd, dd, dd, dd, dd, dd, dd, dd, dd, dd, dd, dd, dd, dd, dd, dd, dd, dd, dd, dd, dd, dd, dd, dd, dd, dd, dd, dd, dd, dd, dd, dd, dd, dd, dd, dd, dd, dd, dd, dd, dd, dd, dd, dd, dd, dd, dd, dd, dd, dd, dd, dd, dd, dd, dd, dd, dd, dd, dd, dd, dd, dd, dd, dd, dd, dd, dd, dd, dd, dd, dd, dd, dd, dd, dd, dd, dd, dd, dd, dd, dd, dd, dd, dd, dd, dd, dd, dd, dd, dd, dd, dd, dd, dd, dd, dd, dd, dd, dd, dd, dd, dd, dd, dd, dd, dd, dd, dd, dd, dd, dd, dd, dd, dd, dd, dd, dd, dd, dd, dd, dd, dd, dd, dd, dd, dd, dd, dd, dd, dd, dd, dd, dd, dd, dd, dd, dd, dd, dd, dd, dd, dd, dd, dd, dd, dd, dd, dd, dd, dd, dd, dd, dd, dd, dd, dd, dd, dd, dd, dd, dd, dd, dd, dd, dd, dd, dd, dd, dd, dd, dd, dd, dd, dd, dd, dd, dd, dd, dd, dd, dd, dd, dd, dd, dd, dd, dd, dd, dd, dd, dd, dd, dd, dd, dd, dd, dd, dd, dd, dd, dd, dd, dd, dd, dd, dd, dd, dd, dd, dd, dd, dd, dd, dd, dd, dd, dd, dd, dd, dd, dd, dd, dd, dd, dd, dd, dd, dd, dd, dd, dd, dd, dd, dd, dd, dd, dd, dd, dd, dd, dd, dd, dd, dd, dd, dd, dd, dd, dd, dd, dd, dd, dd, dd, dd, dd, dd, dd, dd, dd, dd, dd, dd, dd, dd, dd, dd, dd, dd, dd, dd, dd, dd, dd, dd, dd, dd, dd, dd, dd, dd, dd, dd, dd, dd, dd, dd, dd, dd, dd, dd], []⟩
def G_ringlaw5_SigSays_C10_hd (v_r40 : (S_sig_Set × Int)) (v_r51 : (S_sig_Set × Int))  : PS := ⟨[dd, dd, dd, dd, dd, dd, dd, dd, dd, .ref 0 0, .d (.v (.int .i64 v_r40.2)), dd, dd, .ref 1 0, .d (.v (.int .i64 v_r51.2)), dd, dd, dd, dd, dd, dd, dd, dd, .ref 2 0, dd, dd, dd, dd, dd, dd, dd, dd, dd, dd, dd, dd, dd, dd, dd, dd, dd, dd, dd, dd, dd, dd, dd, dd, dd, dd, dd, dd, dd, dd, dd, dd, dd, dd, dd, dd, dd, dd, dd, dd, dd, dd, dd, dd, dd, dd, dd, dd, dd, dd, dd, dd, dd, dd, dd, dd, dd, dd, dd, dd, dd, dd, dd, dd, dd, dd, dd, dd, dd, dd, dd, dd, dd, dd, dd, dd, dd, dd, dd, dd, dd, dd, dd, dd, dd, dd, dd, dd, dd, dd, dd, dd, dd, dd, dd, dd, dd, dd, dd, dd, dd, dd, dd, dd, dd, dd, dd, dd, dd, dd, dd, dd, dd, dd, dd, dd, dd, dd, dd, dd, dd, dd, dd, dd, dd, dd, dd, dd, dd, dd, dd, dd, dd, dd, dd, dd, dd, dd, dd, dd, dd, dd, dd, dd, dd, dd, dd, dd, dd, dd, dd, dd, dd, dd, dd, dd, dd, dd, dd, dd, dd, dd, dd, dd, dd, dd, dd, dd, dd, dd, dd, dd, dd, dd, dd, dd, dd, dd, dd, dd, dd, dd, dd, dd, dd, dd, dd, dd, dd, dd, dd, dd, dd, dd, dd, dd, dd, dd, dd, dd, dd, dd, dd, dd, dd, dd, dd, dd, dd, dd, dd, dd, dd, dd, dd, dd, dd, dd, dd, dd, dd, dd, dd, dd, dd, dd, dd, dd, dd, dd, dd, dd, dd, dd, dd, dd, dd, dd, dd, dd, dd, dd, dd, dd, dd, dd, dd, dd, dd, dd, dd, dd, dd, dd, dd, dd, dd, dd, dd, dd, dd, dd, dd, dd, dd, dd, dd, dd, dd, dd, dd, dd, dd, dd, dd, dd, dd, dd, dd, dd, dd, dd, dd, dd, dd, dd, dd, dd, dd, dd, dd, dd, dd, dd, dd, dd, dd, dd, dd, dd, dd, dd, dd, dd, dd, dd, dd, dd, dd, dd, dd, dd, dd, dd, dd, dd, dd, dd, dd, dd, dd, dd, dd, dd, dd, dd, dd, dd], [.box ((cS_sig_Set v_r40.1).map FV.d), .box ((cS_sig_Set v_r51.1).map FV.d), .box ((cS_sig_Set (S_sig_Set.mk 0 0 (fun (_ : Fin 16) => 0))).map FV.d)]⟩
def G_ringlaw5_SigSays_C10 (n : Nat) (v_r40 : (S_sig_Set × Int)) (v_r51 : (S_sig_Set × Int)) : Option G_ringlaw5_SigSays_C10_R :=
  if v_r40.2 = 1 then
   if v_r51.2 = v_r40.2 then
    if (eqRes .eql (eqS_sig_Set v_r40.1 (S_sig_Set.mk 0 0 (fun (_ : Fin 16) => 0)))) = true then
     some (.x0 (eqRes .eql (eqS_sig_Set v_r51.1 (S_sig_Set.mk 0 0 (fun (_ : Fin 16) => 0)))))
    else
     some (.x0 false)
   else
    some (.x0 false)
  else
   some (.x0 false)
theorem G_ringlaw5_SigSays_C10_ok {Fi : Ex → PS → Prop} (hF : KC 352 Fi) (ks : List Fr) (n : Nat) (v_r40 : (S_sig_Set × Int)) (v_r51 : (S_sig_Set × Int))  (o : G_ringlaw5_SigSays_C10_R) (h : G_ringlaw5_SigSays_C10 n v_r40 v_r51 = some o) (q : RunE Try.prog 352 Fi ks (G_ringlaw5_SigSays_C10_ex o) (G_ringlaw5_SigSays_C10_st v_r40 v_r51 o)) : RunE Try.prog 352 Fi (.s (cL (cT (cR (cL (cR (cR (cR (cR (cR (cR (cR (cR (cR (cR (cR (cR (cR (cR (cR (cR (cR (bodyOf Try.f7)))))))))))))))))))))) :: ks) .normal (G_ringlaw5_SigSays_C10_hd v_r40 v_r51) := by
  unfold G_ringlaw5_SigSays_C10 at h
  by_cases h457 : v_r40.2 = 1
  · rw [if_pos h457] at h
    by_cases h458 : v_r51.2 = v_r40.2
    · rw [if_pos h458] at h
      by_cases h459 : (eqRes .eql (eqS_sig_Set v_r40.1 (S_sig_Set.mk 0 0 (fun (_ : Fin 16) => 0)))) = true
      · rw [if_pos h459] at h
        cases h
        exact pkk_sound TTok mix hF 1 (hs := [.t true, .c, .c, .t true, .c, .c, .c, .c, .q (eqS_sig_Set v_r40.1 (S_sig_Set.mk 0 0 (fun (_ : Fin 16) => 0))), .t true, .c, .c, .c, .c, .q (eqS_sig_Set v_r51.1 (S_sig_Set.mk 0 0 (fun (_ : Fin 16) => 0)))]) (ts := []) (s := []) (l := [8]) (by kernel_rfl) (by kernel_rfl) (.cons (bt h457) (.cons (bt h458) (.cons (eqS_sig_Set_ok v_r40.1 (S_sig_Set.mk 0 0 (fun (_ : Fin 16) => 0))) (.cons h459 (.cons (eqS_sig_Set_ok v_r51.1 (S_sig_Set.mk 0 0 (fun (_ : Fin 16) => 0))) .nil))))) q
      · rw [if_neg h459] at h
        cases h
        exact pkk_sound TTok mix hF 1 (hs := [.t true, .c, .c, .t true, .c, .c, .c, .c, .q (eqS_sig_Set v_r40.1 (S_sig_Set.mk 0 0 (fun (_ : Fin 16) => 0))), .t false, .c, .c]) (ts := []) (s := []) (l := [8]) (by kernel_rfl) (by kernel_rfl) (.cons (bt h457) (.cons (bt h458) (.cons (eqS_sig_Set_ok v_r40.1 (S_sig_Set.mk 0 0 (fun (_ : Fin 16) => 0))) (.cons (vf h459) .nil)))) q
    · rw [if_neg h458] at h
      cases h
      exact pkk_sound TTok mix hF 1 (hs := [.t true, .c, .c, .t false, .c, .c, .c, .c, .c]) (ts := []) (s := []) (l := [8]) (by kernel_rfl) (by kernel_rfl) (.cons (bt h457) (.cons (bf h458) .nil)) q
  · rw [if_neg h457] at h
    cases h
    exact pkk_sound TTok mix hF 1 (hs := [.t false, .c, .c, .c, .c, .c, .c, .c, .c]) (ts := []) (s := []) (l := [8]) (by kernel_rfl) (by kernel_rfl) (.cons (bf h457) .nil) q
inductive G_ringlaw5_SigSays_C11_R where
  | x0 (v_x355 : Bool)
def G_ringlaw5_SigSays_C11_ex : G_ringlaw5_SigSays_C11_R → Ex
  | .x0 _ => .normal
def G_ringlaw5_SigSays_C11_st (v_r40 : (S_sig_Set × Int)) (v_r51 : (S_sig_Set × Int)) : G_ringlaw5_SigSays_C11_R → PS
  | .x0 v_x355 => ⟨[dd, dd, dd, dd, dd, dd, dd, dd, .d (.v (.bool v_x355)), dd, dd, dd, dd, dd, dd, dd, dd, dd, dd, dd, dd, dd, dd, dd, dd, dd, dd, dd, dd, dd, dd, dd, dd, dd, dd, dd, dd, dd, dd, dd, dd, dd, dd, dd, dd, dd, dd, dd, dd, dd, dd, dd, dd, dd, dd, dd, dd, dd, dd, dd, dd, dd, dd, dd, dd, dd, dd, dd, dd, dd, dd, dd, dd, dd, dd, dd, dd, dd, dd, dd, dd, dd, dd, dd, dd, dd, dd, dd, dd, dd, dd, dd, dd, dd, dd, dd, dd, dd, dd, dd, dd, dd, dd, dd, dd, dd, dd, dd, dd, dd, dd, dd, dd, dd, dd, dd, dd, dd, dd, dd, dd, dd, dd, dd, dd, dd, dd, dd, dd, dd, dd, dd, dd, dd, dd, dd, dd, dd, dd, dd, dd, dd, dd, dd, dd, dd, dd, dd, dd, dd, dd, dd, dd, dd, dd, dd, dd, dd, dd, dd, dd, dd, dd, dd, dd, dd, dd, dd, dd, dd, dd, dd, dd, dd, dd, dd, dd, dd, dd, dd, dd, dd, dd, dd, dd, dd, dd, dd, dd, dd, dd, dd, dd, dd, dd, dd, dd, dd, dd, dd, dd, dd, dd, dd, dd, dd, dd, dd, dd, dd, dd, dd, dd, dd, dd, dd, dd, dd, dd, dd, dd, dd, dd, dd, dd, dd, dd, dd, dd, dd, dd, dd, dd, dd, dd, dd, dd, dd, dd, dd, dd, dd, dd, dd, dd, dd, dd, dd, dd, dd, dd, dd, dd, dd, dd, dd, dd, dd, dd, dd, dd, dd, dd, dd, dd, dd, dd, dd, dd, dd, dd, dd, dd, dd, dd, dd, dd, dd, dd, dd, dd, dd, dd, dd, dd, dd, dd, dd, dd, dd, dd, dd, dd, dd, dd, dd, dd, dd, dd, dd, dd, dd, dd, dd, dd, dd, dd, dd, dd, dd, dd, dd, dd, dd, dd, dd, dd, dd, dd, dd, dd, dd, dd, dd, dd, dd, dd, dd, dd, dd, dd, dd, dd, dd, dd, dd, dd, dd, dd, dd, dd, dd, dd, dd, dd, dd, dd, dd, dd, dd, dd, dd], []⟩
def G_ringlaw5_SigSays_C11_hd (v_r40 : (S_sig_Set × Int)) (v_r51 : (S_sig_Set × Int))  : PS := ⟨[dd, dd, dd, dd, dd, dd, dd, dd, dd, .ref 0 0, .d (.v (.int .i64 v_r40.2)), dd, dd, .ref 1 0, .d (.v (.int .i64 v_r51.2)), dd, dd, dd, dd, dd, dd, dd, dd, .ref 2 0, dd, dd, dd, dd, dd, dd, dd, dd, dd, dd, dd, dd, dd, dd, dd, dd, dd, dd, dd, dd, dd, dd, dd, dd, dd, dd, dd, dd, dd, dd, dd, dd, dd, dd, dd, dd, dd, dd, dd, dd, dd, dd, dd, dd, dd, dd, dd, dd, dd, dd, dd, dd, dd, dd, dd, dd, dd, dd, dd, dd, dd, dd, dd, dd, dd, dd, dd, dd, dd, dd, dd, dd, dd, dd, dd, dd, dd, dd, dd, dd, dd, dd, dd, dd, dd, dd, dd, dd, dd, dd, dd, dd, dd, dd, dd, dd, dd, dd, dd, dd, dd, dd, dd, dd, dd, dd, dd, dd, dd, dd, dd, dd, dd, dd, dd, dd, dd, dd, dd, dd, dd, dd, dd, dd, dd, dd, dd, dd, dd, dd, dd, dd, dd, dd, dd, dd, dd, dd, dd, dd, dd, dd, dd, dd, dd, dd, dd, dd, dd, dd, dd, dd, dd, dd, dd, dd, dd, dd, dd, dd, dd, dd, dd, dd, dd, dd, dd, dd, dd, dd, dd, dd, dd, dd, dd, dd, dd, dd, dd, dd, dd, dd, dd, dd, dd, dd, dd, dd, dd, dd, dd, dd, dd, dd, dd, dd, dd, dd, dd, dd, dd, dd, dd, dd, dd, dd, dd, dd, dd, dd, dd, dd, dd, dd, dd, dd, dd, dd, dd, dd, dd, dd, dd, dd, dd, dd, dd, dd, dd, dd, dd, dd, dd, dd, dd, dd, dd, dd, dd, dd, dd, dd, dd, dd, dd, dd, dd, dd, dd, dd, dd, dd, dd, dd, dd, dd, dd, dd, dd, dd, dd, dd, dd, dd, dd, dd, dd, dd, dd, dd, dd, dd, dd, dd, dd, dd, dd, dd, dd, dd, dd, dd, dd, dd, dd, dd, dd, dd, dd, dd, dd, dd, dd, dd, dd, dd, dd, dd, dd, dd, dd, dd, dd, dd, dd, dd, dd, dd, dd, dd, dd, dd, dd, dd, dd, dd, dd, dd, dd, dd, dd, dd, dd, dd, dd, dd, dd, dd], [.box ((cS_sig_Set v_r40.1).map FV.d), .box ((cS_sig_Set v_r51.1).map FV.d), .box ((cS_sig_Set (S_sig_Set.mk 0 0 (fun (_ : Fin 16) => 0))).map FV.d)]⟩
def G_ringlaw5_SigSays_C11 (n : Nat) (v_r40 : (S_sig_Set × Int)) (v_r51 : (S_sig_Set × Int)) : Option G_ringlaw5_SigSays_C11_R :=
  if v_r40.2 = 1 then
   if v_r51.2 = v_r40.2 then
    if (eqRes .eql (eqS_sig_Set v_r40.1 (S_sig_Set.mk 0 0 (fun (_ : Fin 16) => 0)))) = true then
     some (.x0 (eqRes .eql (eqS_sig_Set v_r51.1 (S_sig_Set.mk 0 0 (fun (_ : Fin 16) => 0)))))
    else
     some (.x0 false)
   else
    some (.x0 false)
  else
   some (.x0 false)
theorem G_ringlaw5_SigSays_C11_ok {Fi : Ex → PS → Prop} (hF : KC 352 Fi) (ks : List Fr) (n : Nat) (v_r40 : (S_sig_Set × Int)) (v_r51 : (S_sig_Set × Int))  (o : G_ringlaw5_SigSays_C11_R) (h : G_ringlaw5_SigSays_C11 n v_r40 v_r51 = some o) (q : RunE Try.prog 352 Fi ks (G_ringlaw5_SigSays_C11_ex o) (G_ringlaw5_SigSays_C11_st v_r40 v_r51 o)) : RunE Try.prog 352 Fi (.s (cL (cT (cR (cL (cR (cR (cR (cR (cR (cR (cR (cR (cR (cR (cR (cR (cR (cR (cR (cR (cR (bodyOf Try.f7)))))))))))))))))))))) :: ks) .normal (G_ringlaw5_SigSays_C11_hd v_r40 v_r51) := by
  unfold G_ringlaw5_SigSays_C11 at h
  by_cases h473 : v_r40.2 = 1
  · rw [if_pos h473] at h
    by_cases h474 : v_r51.2 = v_r40.2
    · rw [if_pos h474] at h
      by_cases h475 : (eqRes .eql (eqS_sig_Set v_r40.1 (S_sig_Set.mk 0 0 (fun (_ : Fin 16) => 0)))) = true
      · rw [if_pos h475] at h
        cases h
        exact pkk_sound TTok mix hF 1 (hs := [.t true, .c, .c, .t true, .c, .c, .c, .c, .q (eqS_sig_Set v_r40.1 (S_sig_Set.mk 0 0 (fun (_ : Fin 16) => 0))), .t true, .c, .c, .c, .c, .q (eqS_sig_Set v_r51.1 (S_sig_Set.mk 0 0 (fun (_ : Fin 16) => 0)))]) (ts := []) (s := []) (l := [8]) (by kernel_rfl) (by kernel_rfl) (.cons (bt h473) (.cons (bt h474) (.cons (eqS_sig_Set_ok v_r40.1 (S_sig_Set.mk 0 0 (fun (_ : Fin 16) => 0))) (.cons h475 (.cons (eqS_sig_Set_ok v_r51.1 (S_sig_Set.mk 0 0 (fun (_ : Fin 16) => 0))) .nil))))) q
      · rw [if_neg h475] at h
        cases h
        exact pkk_sound TTok mix hF 1 (hs := [.t true, .c, .c, .t true, .c, .c, .c, .c, .q (eqS_sig_Set v_r40.1 (S_sig_Set.mk 0 0 (fun (_ : Fin 16) => 0))), .t false, .c, .c]) (ts := []) (s := []) (l := [8]) (by kernel_rfl) (by kernel_rfl) (.cons (bt h473) (.cons (bt h474) (.cons (eqS_sig_Set_ok v_r40.1 (S_sig_Set.mk 0 0 (fun (_ : Fin 16) => 0))) (.cons (vf h475) .nil)))) q
    · rw [if_neg h474] at h
      cases h
      exact pkk_sound TTok mix hF 1 (hs := [.t true, .c, .c, .t false, .c, .c, .c, .c, .c]) (ts := []) (s := []) (l := [8]) (by kernel_rfl) (by kernel_rfl) (.cons (bt h473) (.cons (bf h474) .nil)) q
  · rw [if_neg h473] at h
    cases h
    exact pkk_sound TTok mix hF 1 (hs := [.t false, .c, .c, .c, .c, .c, .c, .c, .c]) (ts := []) (s := []) (l := [8]) (by kernel_rfl) (by kernel_rfl) (.cons (bf h473) .nil) q
inductive G_ringlaw5_SigSays_C12_R where
  | x0 (v_x1144 : Bool)
def G_ringlaw5_SigSays_C12_ex : G_ringlaw5_SigSays_C12_R → Ex
  | .x0 _ => .normal
def G_ringlaw5_SigSays_C12_st (v_n2 : Int) (v_how3 : Int) (v_r40 : (S_sig_Set × Int)) (v_r51 : (S_sig_Set × Int)) (v_r157 : (S_ringref5_Signals)) : G_ringlaw5_SigSays_C12_R → PS
  | .x0 v_x1144 => ⟨[dd, .d (.v (.int .i64 v_n2)), .d (.v (.int .i64 v_how3)), dd, dd, dd, dd, dd, dd, dd, dd, dd, dd, .ref 0 0, .d (.v (.int .i64 v_r51.2)), dd, dd, dd, dd, dd, dd, dd, dd, .ref 1 0, dd, .ref 2 0, dd, dd, dd, dd, dd, dd, dd, dd, dd, dd, dd, dd, dd, dd, dd, dd, dd, dd, dd, dd, dd, dd, dd, dd, dd, dd, dd, dd, dd, dd, dd, dd, dd, dd, dd, dd, dd, dd, dd, dd, dd, dd, dd, dd, dd, dd, dd, dd, dd, dd, dd, dd, dd, dd, dd, dd, dd, dd, dd, dd, dd, dd, dd, dd, dd, dd, dd, dd, dd, dd, dd, dd, dd, dd, dd, dd, dd, dd, dd, dd, dd, dd, dd, dd, dd, dd, dd, dd, dd, dd, dd, dd, dd, dd, dd, dd, dd, dd, dd, dd, dd, dd, dd, dd, dd, dd, dd, dd, dd, dd, dd, dd, dd, dd, dd, dd, dd, dd, dd, dd, dd, dd, dd, dd, dd, dd, dd, dd, dd, dd, dd, dd, dd, dd, dd, dd, dd, dd, dd, dd, dd, dd, dd, dd, dd, dd, dd, dd, dd, dd, dd, dd, dd, dd, dd, dd, dd, dd, dd, dd, dd, dd, dd, dd, dd, dd, dd, dd, dd, dd, dd, dd, dd, dd, dd, dd, dd, dd, dd, dd, dd, dd, dd, dd, dd, dd, dd, dd, dd, dd, dd, dd, dd, dd, dd, dd, dd, dd, dd, dd, dd, dd, dd, dd, dd, dd, dd, dd, dd, dd, dd, dd, dd, dd, dd, dd, dd, dd, dd, dd, dd, dd, dd, dd, dd, dd, dd, dd, dd, dd, dd, dd, dd, dd, dd, dd, dd, dd, dd, dd, dd, dd, dd, dd, dd, dd, dd, dd, dd, dd, dd, dd, dd, dd, dd, dd, dd, dd, dd, dd, dd, dd, dd, dd, dd, dd, dd, dd, dd, dd, dd, dd, dd, dd, dd, dd, dd, dd, dd, dd, dd, dd, dd, dd, .d (.v (.bool v_x1144)), dd, dd, dd, dd, dd, dd, dd, dd, dd, dd, dd, dd, dd, dd, dd, dd, dd, dd, dd, dd, dd, dd, dd, dd, dd, dd, dd, dd, dd, dd, dd, dd, dd, dd, dd, dd, dd, dd, dd, dd, dd], [.box ((cS_sig_Set v_r51.1).map FV.d), .box ((cS_sig_Set (S_sig_Set.mk 0 0 (fun (_ : Fin 16) => 0))).map FV.d), .box ((cS_ringref5_Signals v_r157).map FV.d)]⟩
def G_ringlaw5_SigSays_C12_hd (v_n2 : Int) (v_how3 : Int) (v_r40 : (S_sig_Set × Int)) (v_r51 : (S_sig_Set × Int)) (v_r157 : (S_ringref5_Signals))  : PS := ⟨[dd, .d (.v (.int .i64 v_n2)), .d (.v (.int .i64 v_how3)), dd, dd, dd, dd, dd, dd, .ref 0 0, .d (.v (.int .i64 v_r40.2)), dd, dd, .ref 1 0, .d (.v (.int .i64 v_r51.2)), dd, dd, dd, dd, dd, dd, dd, dd, .ref 2 0, dd, .ref 3 0, dd, dd, dd, dd, dd, dd, dd, dd, dd, dd, dd, dd, dd, dd, dd, dd, dd, dd, dd, dd, dd, dd, dd, dd, dd, dd, dd, dd, dd, dd, dd, dd, dd, dd, dd, dd, dd, dd, dd, dd, dd, dd, dd, dd, dd, dd, dd, dd, dd, dd, dd, dd, dd, dd, dd, dd, dd, dd, dd, dd, dd, dd, dd, dd, dd, dd, dd, dd, dd, dd, dd, dd, dd, dd, dd, dd, dd, dd, dd, dd, dd, dd, dd, dd, dd, dd, dd, dd, dd, dd, dd, dd, dd, dd, dd, dd, dd, dd, dd, dd, dd, dd, dd, dd, dd, dd, dd, dd, dd, dd, dd, dd, dd, dd, dd, dd, dd, dd, dd, dd, dd, dd, dd, dd, dd, dd, dd, dd, dd, dd, dd, dd, dd, dd, dd, dd, dd, dd, dd, dd, dd, dd, dd, dd, dd, dd, dd, dd, dd, dd, dd, dd, dd, dd, dd, dd, dd, dd, dd, dd, dd, dd, dd, dd, dd, dd, dd, dd, dd, dd, dd, dd, dd, dd, dd, dd, dd, dd, dd, dd, dd, dd, dd, dd, dd, dd, dd, dd, dd, dd, dd, dd, dd, dd, dd, dd, dd, dd, dd, dd, dd, dd, dd, dd, dd, dd, dd, dd, dd, dd, dd, dd, dd, dd, dd, dd, dd, dd, dd, dd, dd, dd, dd, dd, dd, dd, dd, dd, dd, dd, dd, dd, dd, dd, dd, dd, dd, dd, dd, dd, dd, dd, dd, dd, dd, dd, dd, dd, dd, dd, dd, dd, dd, dd, dd, dd, dd, dd, dd, dd, dd, dd, dd, dd, dd, dd, dd, dd, dd, dd, dd, dd, dd, dd, dd, dd, dd, dd, dd, dd, dd, dd, dd, dd, dd, dd, dd, dd, dd, dd, dd, dd, dd, dd, dd, dd, dd, dd, dd, dd, dd, dd, dd, dd, dd, dd, dd, dd, dd, dd, dd, dd, dd, dd, dd, dd, dd, dd, dd, dd, dd, dd, dd, dd, dd, dd], [.box ((cS_sig_Set v_r40.1).map FV.d), .box ((cS_sig_Set v_r51.1).map FV.d), .box ((cS_sig_Set (S_sig_Set.mk 0 0 (fun (_ : Fin 16) => 0))).map FV.d), .box ((cS_ringref5_Signals v_r157).map FV.d)]⟩
def G_ringlaw5_SigSays_C12 (n : Nat) (v_n2 : Int) (v_how3 : Int) (v_r40 : (S_sig_Set × Int)) (v_r51 : (S_sig_Set × Int)) (v_r157 : (S_ringref5_Signals)) : Option G_ringlaw5_SigSays_C12_R :=
  if v_r40.2 = 0 then
   (G_ringref5_Signals_Sent n v_r157 v_n2).bind fun (v_r1145 : (S_ringref5_Signals)) =>
   (G_ringlaw5_same n v_r40.1 v_r1145).bind fun (v_r1146 : (Bool)) =>
   some (.x0 (!v_r1146))
  else
   some (.x0 true)
theorem G_ringlaw5_SigSays_C12_ok {Fi : Ex → PS → Prop} (hF : KC 352 Fi) (ks : List Fr) (n : Nat) (v_n2 : Int) (v_how3 : Int) (v_r40 : (S_sig_Set × Int)) (v_r51 : (S_sig_Set × Int)) (v_r157 : (S_ringref5_Signals))  (o : G_ringlaw5_SigSays_C12_R) (h : G_ringlaw5_SigSays_C12 n v_n2 v_how3 v_r40 v_r51 v_r157 = some o) (q : RunE Try.prog 352 Fi ks (G_ringlaw5_SigSays_C12_ex o) (G_ringlaw5_SigSays_C12_st v_n2 v_how3 v_r40 v_r51 v_r157 o)) : RunE Try.prog 352 Fi (.s (cL (cL (cR (cR (cR (cR (cR (cR (cR (cR (cR (cR (cR (cR (cR (cR (cR (cR (cR (cR (bodyOf Try.f7))))))))))))))))))))) :: ks) .normal (G_ringlaw5_SigSays_C12_hd v_n2 v_how3 v_r40 v_r51 v_r157) := by
  unfold G_ringlaw5_SigSays_C12 at h
  by_cases h1291 : v_r40.2 = 0
  · rw [if_pos h1291] at h
    obtain ⟨v_r1145, h1292, h⟩ := bind_some h
    obtain ⟨v_r1146, h1293, h⟩ := bind_some h
    cases h
    exact pkk_sound TTok mix hF 1 (hs := [.t false, .c, .c, .c, .c, .c, .r (eS_ringref5_Signals v_r1145), .c, .r (eB v_r1146), .c]) (ts := []) (s := [1, 2, 3]) (l := [1, 2, 13, 14, 23, 25, 310]) (by kernel_rfl) (by kernel_rfl) (.cons (nf h1291) (.cons (G_ringref5_Signals_Sent_ok n v_r157 v_n2 _ h1292) (.cons (G_ringlaw5_same_ok n v_r40.1 v_r1145 _ h1293) .nil))) q
  · rw [if_neg h1291] at h
    cases h
    exact pkk_sound TTok mix hF 1 (hs := [.t true, .c, .c, .c, .c, .c]) (ts := []) (s := [1, 2, 3]) (l := [1, 2, 13, 14, 23, 25, 310]) (by kernel_rfl) (by kernel_rfl) (.cons (nt h1291) .nil) q
inductive G_ringlaw5_SigSays_C13_R where
  | x0 (v_x1159 : Bool)
def G_ringlaw5_SigSays_C13_ex : G_ringlaw5_SigSays_C13_R → Ex
  | .x0 _ => .normal
def G_ringlaw5_SigSays_C13_st (v_how3 : Int) (v_r51 : (S_sig_Set × Int)) : G_ringlaw5_SigSays_C13_R → PS
  | .x0 v_x1159 => ⟨[dd, dd, dd, dd, dd, dd, dd, dd, .d (.v (.bool v_x1159)), dd, dd, dd, dd, dd, dd, dd, dd, dd, dd, dd, dd, dd, dd, dd, dd, dd, dd, dd, dd, dd, dd, dd, dd, dd, dd, dd, dd, dd, dd, dd, dd, dd, dd, dd, dd, dd, dd, dd, dd, dd, dd, dd, dd, dd, dd, dd, dd, dd, dd, dd, dd, dd, dd, dd, dd, dd, dd, dd, dd, dd, dd, dd, dd, dd, dd, dd, dd, dd, dd, dd, dd, dd, dd, dd, dd, dd, dd, dd, dd, dd, dd, dd, dd, dd, dd, dd, dd, dd, dd, dd, dd, dd, dd, dd, dd, dd, dd, dd, dd, dd, dd, dd, dd, dd, dd, dd, dd, dd, dd, dd, dd, dd, dd, dd, dd, dd, dd, dd, dd, dd, dd, dd, dd, dd, dd, dd, dd, dd, dd, dd, dd, dd, dd, dd, dd, dd, dd, dd, dd, dd, dd, dd, dd, dd, dd, dd, dd, dd, dd, dd, dd, dd, dd, dd, dd, dd, dd, dd, dd, dd, dd, dd, dd, dd, dd, dd, dd, dd, dd, dd, dd, dd, dd, dd, dd, dd, dd, dd, dd, dd, dd, dd, dd, dd, dd, dd, dd, dd, dd, dd, dd, dd, dd, dd, dd, dd, dd, dd, dd, dd, dd, dd, dd, dd, dd, dd, dd, dd, dd, dd, dd, dd, dd, dd, dd, dd, dd, dd, dd, dd, dd, dd, dd, dd, dd, dd, dd, dd, dd, dd, dd, dd, dd, dd, dd, dd, dd, dd, dd, dd, dd, dd, dd, dd, dd, dd, dd, dd, dd, dd, dd, dd, dd, dd, dd, dd, dd, dd, dd, dd, dd, dd, dd, dd, dd, dd, dd, dd, dd, dd, dd, dd, dd, dd, dd, dd, dd, dd, dd, dd, dd, dd, dd, dd, dd, dd, dd, dd, dd, dd, dd, dd, dd, dd, dd, dd, dd, dd, dd, dd, dd, dd, dd, dd, dd, dd, dd, dd, dd, dd, dd, dd, dd, dd, dd, dd, dd, dd, dd, dd, dd, dd, dd, dd, dd, dd, dd, dd, dd, dd, dd, dd, dd, dd, dd, dd, dd, dd, dd, dd, dd, dd], []⟩
def G_ringlaw5_SigSays_C13_hd (v_how3 : Int) (v_r51 : (S_sig_Set × Int))  : PS := ⟨[dd, dd, .d (.v (.int .i64 v_how3)), dd, dd, dd, dd, dd, dd, dd, dd, dd, dd, .ref 0 0, .d (.v (.int .i64 v_r51.2)), dd, dd, dd, dd, dd, dd, dd, dd, .ref 1 0, dd, dd, dd, dd, dd, dd, dd, dd, dd, dd, dd, dd, dd, dd, dd, dd, dd, dd, dd, dd, dd, dd, dd, dd, dd, dd, dd, dd, dd, dd, dd, dd, dd, dd, dd, dd, dd, dd, dd, dd, dd, dd, dd, dd, dd, dd, dd, dd, dd, dd, dd, dd, dd, dd, dd, dd, dd, dd, dd, dd, dd, dd, dd, dd, dd, dd, dd, dd, dd, dd, dd, dd, dd, dd, dd, dd, dd, dd, dd, dd, dd, dd, dd, dd, dd, dd, dd, dd, dd, dd, dd, dd, dd, dd, dd, dd, dd, dd, dd, dd, dd, dd, dd, dd, dd, dd, dd, dd, dd, dd, dd, dd, dd, dd, dd, dd, dd, dd, dd, dd, dd, dd, dd, dd, dd, dd, dd, dd, dd, dd, dd, dd, dd, dd, dd, dd, dd, dd, dd, dd, dd, dd, dd, dd, dd, dd, dd, dd, dd, dd, dd, dd, dd, dd, dd, dd, dd, dd, dd, dd, dd, dd, dd, dd, dd, dd, dd, dd, dd, dd, dd, dd, dd, dd, dd, dd, dd, dd, dd, dd, dd, dd, dd, dd, dd, dd, dd, dd, dd, dd, dd, dd, dd, dd, dd, dd, dd, dd, dd, dd, dd, dd, dd, dd, dd, dd, dd, dd, dd, dd, dd, dd, dd, dd, dd, dd, dd, dd, dd, dd, dd, dd, dd, dd, dd, dd, dd, dd, dd, dd, dd, dd, dd, dd, dd, dd, dd, dd, dd, dd, dd, dd, dd, dd, dd, dd, dd, dd, dd, dd, dd, dd, dd, dd, dd, dd, dd, dd, dd, dd, dd, dd, dd, dd, dd, dd, dd, dd, dd, dd, dd, dd, dd, dd, dd, dd, dd, dd, dd, dd, dd, dd, dd, dd, dd, dd, dd, dd, dd, dd, dd, dd, dd, dd, dd, dd, dd, dd, dd, dd, dd, dd, dd, dd, dd, dd, dd, dd, dd, dd, dd, dd, dd, dd, dd, dd, dd, dd, dd, dd, dd, dd, dd, dd, dd, dd, dd, dd], [.box ((cS_sig_Set v_r51.1).map FV.d), .box ((cS_sig_Set (S_sig_Set.mk 0 0 (fun (_ : Fin 16) => 0))).map FV.d)]⟩
def G_ringlaw5_SigSays_C13 (n : Nat) (v_how3 : Int) (v_r51 : (S_sig_Set × Int)) : Option G_ringlaw5_SigSays_C13_R :=
  if v_how3 < 0 then
   if v_r51.2 = 1 then
    some (.x0 (eqRes .eql (eqS_sig_Set v_r51.1 (S_sig_Set.mk 0 0 (fun (_ : Fin 16) => 0)))))
   else
    if v_how3 ≥ 0 then
     if v_r51.2 = 7 then
      some (.x0 (eqRes .eql (eqS_sig_Set v_r51.1 (S_sig_Set.mk 0 0 (fun (_ : Fin 16) => 0)))))
     else
      some (.x0 false)
    else
     some (.x0 false)
  else
   if v_how3 ≥ 0 then
    if v_r51.2 = 7 then
     some (.x0 (eqRes .eql (eqS_sig_Set v_r51.1 (S_sig_Set.mk 0 0 (fun (_ : Fin 16) => 0)))))
    else
     some (.x0 false)
   else
    some (.x0 false)
theorem G_ringlaw5_SigSays_C13_ok {Fi : Ex → PS → Prop} (hF : KC 352 Fi) (ks : List Fr) (n : Nat) (v_how3 : Int) (v_r51 : (S_sig_Set × Int))  (o : G_ringlaw5_SigSays_C13_R) (h : G_ringlaw5_SigSays_C13 n v_how3 v_r51 = some o) (q : RunE Try.prog 352 Fi ks (G_ringlaw5_SigSays_C13_ex o) (G_ringlaw5_SigSays_C13_st v_how3 v_r51 o)) : RunE Try.prog 352 Fi (.s (cL (cT (cR (cL (cR (cR (cR (cR (cR (cR (cR (cR (cR (cR (cR (cR (cR (cR (cR (cR (cR (cR (cR (bodyOf Try.f7)))))))))))))))))))))))) :: ks) .normal (G_ringlaw5_SigSays_C13_hd v_how3 v_r51) := by
  unfold G_ringlaw5_SigSays_C13 at h
  by_cases h1316 : v_how3 < 0
  · rw [if_pos h1316] at h
    by_cases h1317 : v_r51.2 = 1
    · rw [if_pos h1317] at h
      cases h
      exact pkk_sound TTok mix hF 1 (hs := [.t true, .c, .t true, .c, .c, .c, .c, .c, .c, .c, .c, .q (eqS_sig_Set v_r51.1 (S_sig_Set.mk 0 0 (fun (_ : Fin 16) => 0)))]) (ts := []) (s := []) (l := [8]) (by kernel_rfl) (by kernel_rfl) (.cons (dt h1316) (.cons (bt h1317) (.cons (eqS_sig_Set_ok v_r51.1 (S_sig_Set.mk 0 0 (fun (_ : Fin 16) => 0))) .nil))) q
    · rw [if_neg h1317] at h
      by_cases h1318 : v_how3 ≥ 0
      · rw [if_pos h1318] at h
        by_cases h1319 : v_r51.2 = 7
        · rw [if_pos h1319] at h
          cases h
          exact pkk_sound TTok mix hF 1 (hs := [.t true, .c, .t false, .c, .c, .t true, .c, .c, .t true, .c, .c, .c, .c, .q (eqS_sig_Set v_r51.1 (S_sig_Set.mk 0 0 (fun (_ : Fin 16) => 0)))]) (ts := []) (s := []) (l := [8]) (by kernel_rfl) (by kernel_rfl) (.cons (dt h1316) (.cons (bf h1317) (.cons (dt h1318) (.cons (bt h1319) (.cons (eqS_sig_Set_ok v_r51.1 (S_sig_Set.mk 0 0 (fun (_ : Fin 16) => 0))) .nil))))) q
        · rw [if_neg h1319] at h
          cases h
          exact pkk_sound TTok mix hF 1 (hs := [.t true, .c, .t false, .c, .c, .t true, .c, .c, .t false, .c, .c]) (ts := []) (s := []) (l := [8]) (by kernel_rfl) (by kernel_rfl) (.cons (dt h1316) (.cons (bf h1317) (.cons (dt h1318) (.cons (bf h1319) .nil)))) q
      · rw [if_neg h1318] at h
        cases h
        exact pkk_sound TTok mix hF 1 (hs := [.t true, .c, .t false, .c, .c, .t false, .c, .c, .c, .c, .c]) (ts := []) (s := []) (l := [8]) (by kernel_rfl) (by kernel_rfl) (.cons (dt h1316) (.cons (bf h1317) (.cons (df h1318) .nil))) q
  · rw [if_neg h1316] at h
    by_cases h1320 : v_how3 ≥ 0
    · rw [if_pos h1320] at h
      by_cases h1321 : v_r51.2 = 7
      · rw [if_pos h1321] at h
        cases h
        exact pkk_sound TTok mix hF 1 (hs := [.t false, .c, .c, .c, .c, .t true, .c, .c, .t true, .c, .c, .c, .c, .q (eqS_sig_Set v_r51.1 (S_sig_Set.mk 0 0 (fun (_ : Fin 16) => 0)))]) (ts := []) (s := []) (l := [8]) (by kernel_rfl) (by kernel_rfl) (.cons (df h1316) (.cons (dt h1320) (.cons (bt h1321) (.cons (eqS_sig_Set_ok v_r51.1 (S_sig_Set.mk 0 0 (fun (_ : Fin 16) => 0))) .nil)))) q
      · rw [if_neg h1321] at h
        cases h
        exact pkk_sound TTok mix hF 1 (hs := [.t false, .c, .c, .c, .c, .t true, .c, .c, .t false, .c, .c]) (ts := []) (s := []) (l := [8]) (by kernel_rfl) (by kernel_rfl) (.cons (df h1316) (.cons (dt h1320) (.cons (bf h1321) .nil))) q
    · rw [if_neg h1320] at h
      cases h
      exact pkk_sound TTok mix hF 1 (hs := [.t false, .c, .c, .c, .c, .t false, .c, .c, .c, .c, .c]) (ts := []) (s := []) (l := [8]) (by kernel_rfl) (by kernel_rfl) (.cons (df h1316) (.cons (df h1320) .nil)) q
inductive G_ringlaw5_SigSays_C14_R where
  | x0 (v_x1177 : Bool)
def G_ringlaw5_SigSays_C14_ex : G_ringlaw5_SigSays_C14_R → Ex
  | .x0 _ => .normal
def G_ringlaw5_SigSays_C14_st (v_how3 : Int) (v_r51 : (S_sig_Set × Int)) : G_ringlaw5_SigSays_C14_R → PS
  | .x0 v_x1177 => ⟨[dd, dd, dd, dd, dd, dd, dd, dd, .d (.v (.bool v_x1177)), dd, dd, dd, dd, dd, dd, dd, dd, dd, dd, dd, dd, dd, dd, dd, dd, dd, dd, dd, dd, dd, dd, dd, dd, dd, dd, dd, dd, dd, dd, dd, dd, dd, dd, dd, dd, dd, dd, dd, dd, dd, dd, dd, dd, dd, dd, dd, dd, dd, dd, dd, dd, dd, dd, dd, dd, dd, dd, dd, dd, dd, dd, dd, dd, dd, dd, dd, dd, dd, dd, dd, dd, dd, dd, dd, dd, dd, dd, dd, dd, dd, dd, dd, dd, dd, dd, dd, dd, dd, dd, dd, dd, dd, dd, dd, dd, dd, dd, dd, dd, dd, dd, dd, dd, dd, dd, dd, dd, dd, dd, dd, dd, dd, dd, dd, dd, dd, dd, dd, dd, dd, dd, dd, dd, dd, dd, dd, dd, dd, dd, dd, dd, dd, dd, dd, dd, dd, dd, dd, dd, dd, dd, dd, dd, dd, dd, dd, dd, dd, dd, dd, dd, dd, dd, dd, dd, dd, dd, dd, dd, dd, dd, dd, dd, dd, dd, dd, dd, dd, dd, dd, dd, dd, dd, dd, dd, dd, dd, dd, dd, dd, dd, dd, dd, dd, dd, dd, dd, dd, dd, dd, dd, dd, dd, dd, dd, dd, dd, dd, dd, dd, dd, dd, dd, dd, dd, dd, dd, dd, dd, dd, dd, dd, dd, dd, dd, dd, dd, dd, dd, dd, dd, dd, dd, dd, dd, dd, dd, dd, dd, dd, dd, dd, dd, dd, dd, dd, dd, dd, dd, dd, dd, dd, dd, dd, dd, dd, dd, dd, dd, dd, dd, dd, dd, dd, dd, dd, dd, dd, dd, dd, dd, dd, dd, dd, dd, dd, dd, dd, dd, dd, dd, dd, dd, dd, dd, dd, dd, dd, dd, dd, dd, dd, dd, dd, dd, dd, dd, dd, dd, dd, dd, dd, dd, dd, dd, dd, dd, dd, dd, dd, dd, dd, dd, dd, dd, dd, dd, dd, dd, dd, dd, dd, dd, dd, dd, dd, dd, dd, dd, dd, dd, dd, dd, dd, dd, dd, dd, dd, dd, dd, dd, dd, dd, dd, dd, dd, dd, dd, dd, dd, dd, dd], []⟩
def G_ringlaw5_SigSays_C14_hd (v_how3 : Int) (v_r51 : (S_sig_Set × Int))  : PS := ⟨[dd, dd, .d (.v (.int .i64 v_how3)), dd, dd, dd, dd, dd, dd, dd, dd, dd, dd, .ref 0 0, .d (.v (.int .i64 v_r51.2)), dd, dd, dd, dd, dd, dd, dd, dd, .ref 1 0, dd, dd, dd, dd, dd, dd, dd, dd, dd, dd, dd, dd, dd, dd, dd, dd, dd, dd, dd, dd, dd, dd, dd, dd, dd, dd, dd, dd, dd, dd, dd, dd, dd, dd, dd, dd, dd, dd, dd, dd, dd, dd, dd, dd, dd, dd, dd, dd, dd, dd, dd, dd, dd, dd, dd, dd, dd, dd, dd, dd, dd, dd, dd, dd, dd, dd, dd, dd, dd, dd, dd, dd, dd, dd, dd, dd, dd, dd, dd, dd, dd, dd, dd, dd, dd, dd, dd, dd, dd, dd, dd, dd, dd, dd, dd, dd, dd, dd, dd, dd, dd, dd, dd, dd, dd, dd, dd, dd, dd, dd, dd, dd, dd, dd, dd, dd, dd, dd, dd, dd, dd, dd, dd, dd, dd, dd, dd, dd, dd, dd, dd, dd, dd, dd, dd, dd, dd, dd, dd, dd, dd, dd, dd, dd, dd, dd, dd, dd, dd, dd, dd, dd, dd, dd, dd, dd, dd, dd, dd, dd, dd, dd, dd, dd, dd, dd, dd, dd, dd, dd, dd, dd, dd, dd, dd, dd, dd, dd, dd, dd, dd, dd, dd, dd, dd, dd, dd, dd, dd, dd, dd, dd, dd, dd, dd, dd, dd, dd, dd, dd, dd, dd, dd, dd, dd, dd, dd, dd, dd, dd, dd, dd, dd, dd, dd, dd, dd, dd, dd, dd, dd, dd, dd, dd, dd, dd, dd, dd, dd, dd, dd, dd, dd, dd, dd, dd, dd, dd, dd, dd, dd, dd, dd, dd, dd, dd, dd, dd, dd, dd, dd, dd, dd, dd, dd, dd, dd, dd, dd, dd, dd, dd, dd, dd, dd, dd, dd, dd, dd, dd, dd, dd, dd, dd, dd, dd, dd, dd, dd, dd, dd, dd, dd, dd, dd, dd, dd, dd, dd, dd, dd, dd, dd, dd, dd, dd, dd, dd, dd, dd, dd, dd, dd, dd, dd, dd, dd, dd, dd, dd, dd, dd, dd, dd, dd, dd, dd, dd, dd, dd, dd, dd, dd, dd, dd, dd, dd, dd], [.box ((cS_sig_Set v_r51.1).map FV.d), .box ((cS_sig_Set (S_sig_Set.mk 0 0 (fun (_ : Fin 16) => 0))).map FV.d)]⟩
def G_ringlaw5_SigSays_C14 (n : Nat) (v_how3 : Int) (v_r51 : (S_sig_Set × Int)) : Option G_ringlaw5_SigSays_C14_R :=
  if v_how3 < 0 then
   if v_r51.2 = 1 then
    some (.x0 (eqRes .eql (eqS_sig_Set v_r51.1 (S_sig_Set.mk 0 0 (fun (_ : Fin 16) => 0)))))
   else
    if v_how3 ≥ 0 then
     if v_r51.2 = 7 then
      some (.x0 (eqRes .eql (eqS_sig_Set v_r51.1 (S_sig_Set.mk 0 0 (fun (_ : Fin 16) => 0)))))
     else
      some (.x0 false)
    else
     some (.x0 false)
  else
   if v_how3 ≥ 0 then
    if v_r51.2 = 7 then
     some (.x0 (eqRes .eql (eqS_sig_Set v_r51.1 (S_sig_Set.mk 0 0 (fun (_ : Fin 16) => 0)))))
    else
     some (.x0 false)
   else
    some (.x0 false)
theorem G_ringlaw5_SigSays_C14_ok {Fi : Ex → PS → Prop} (hF : KC 352 Fi) (ks : List Fr) (n : Nat) (v_how3 : Int) (v_r51 : (S_sig_Set × Int))  (o : G_ringlaw5_SigSays_C14_R) (h : G_ringlaw5_SigSays_C14 n v_how3 v_r51 = some o) (q : RunE Try.prog 352 Fi ks (G_ringlaw5_SigSays_C14_ex o) (G_ringlaw5_SigSays_C14_st v_how3 v_r51 o)) : RunE Try.prog 352 Fi (.s (cL (cT (cR (cL (cR (cR (cR (cR (cR (cR (cR (cR (cR (cR (cR (cR (cR (cR (cR (cR (cR (cR (cR (bodyOf Try.f7)))))))))))))))))))))))) :: ks) .normal (G_ringlaw5_SigSays_C14_hd v_how3 v_r51) := by
  unfold G_ringlaw5_SigSays_C14 at h
  by_cases h1344 : v_how3 < 0
  · rw [if_pos h1344] at h
    by_cases h1345 : v_r51.2 = 1
    · rw [if_pos h1345] at h
      cases h
      exact pkk_sound TTok mix hF 1 (hs := [.t true, .c, .t true, .c, .c, .c, .c, .c, .c, .c, .c, .q (eqS_sig_Set v_r51.1 (S_sig_Set.mk 0 0 (fun (_ : Fin 16) => 0)))]) (ts := []) (s := []) (l := [8]) (by kernel_rfl) (by kernel_rfl) (.cons (dt h1344) (.cons (bt h1345) (.cons (eqS_sig_Set_ok v_r51.1 (S_sig_Set.mk 0 0 (fun (_ : Fin 16) => 0))) .nil))) q
    · rw [if_neg h1345] at h
      by_cases h1346 : v_how3 ≥ 0
      · rw [if_pos h1346] at h
        by_cases h1347 : v_r51.2 = 7
        · rw [if_pos h1347] at h
          cases h
          exact pkk_sound TTok mix hF 1 (hs := [.t true, .c, .t false, .c, .c, .t true, .c, .c, .t true, .c, .c, .c, .c, .q (eqS_sig_Set v_r51.1 (S_sig_Set.mk 0 0 (fun (_ : Fin 16) => 0)))]) (ts := []) (s := []) (l := [8]) (by kernel_rfl) (by kernel_rfl) (.cons (dt h1344) (.cons (bf h1345) (.cons (dt h1346) (.cons (bt h1347) (.cons (eqS_sig_Set_ok v_r51.1 (S_sig_Set.mk 0 0 (fun (_ : Fin 16) => 0))) .nil))))) q
        · rw [if_neg h1347] at h
          cases h
          exact pkk_sound TTok mix hF 1 (hs := [.t true, .c, .t false, .c, .c, .t true, .c, .c, .t false, .c, .c]) (ts := []) (s := []) (l := [8]) (by kernel_rfl) (by kernel_rfl) (.cons (dt h1344) (.cons (bf h1345) (.cons (dt h1346) (.cons (bf h1347) .nil)))) q
      · rw [if_neg h1346] at h
        cases h
        exact pkk_sound TTok mix hF 1 (hs := [.t true, .c, .t false, .c, .c, .t false, .c, .c, .c, .c, .c]) (ts := []) (s := []) (l := [8]) (by kernel_rfl) (by kernel_rfl) (.cons (dt h1344) (.cons (bf h1345) (.cons (df h1346) .nil))) q
  · rw [if_neg h1344] at h
    by_cases h1348 : v_how3 ≥ 0
    · rw [if_pos h1348] at h
      by_cases h1349 : v_r51.2 = 7
      · rw [if_pos h1349] at h
        cases h
        exact pkk_sound TTok mix hF 1 (hs := [.t false, .c, .c, .c, .c, .t true, .c, .c, .t true, .c, .c, .c, .c, .q (eqS_sig_Set v_r51.1 (S_sig_Set.mk 0 0 (fun (_ : Fin 16) => 0)))]) (ts := []) (s := []) (l := [8]) (by kernel_rfl) (by kernel_rfl) (.cons (df h1344) (.cons (dt h1348) (.cons (bt h1349) (.cons (eqS_sig_Set_ok v_r51.1 (S_sig_Set.mk 0 0 (fun (_ : Fin 16) => 0))) .nil)))) q
      · rw [if_neg h1349] at h
        cases h
        exact pkk_sound TTok mix hF 1 (hs := [.t false, .c, .c, .c, .c, .t true, .c, .c, .t false, .c, .c]) (ts := []) (s := []) (l := [8]) (by kernel_rfl) (by kernel_rfl) (.cons (df h1344) (.cons (dt h1348) (.cons (bf h1349) .nil))) q
    · rw [if_neg h1348] at h
      cases h
      exact pkk_sound TTok mix hF 1 (hs := [.t false, .c, .c, .c, .c, .t false, .c, .c, .c, .c, .c]) (ts := []) (s := []) (l := [8]) (by kernel_rfl) (by kernel_rfl) (.cons (df h1344) (.cons (df h1348) .nil)) q
inductive G_ringlaw5_SigSays_C15_R where
  | x0 (v_x1192 : Bool)
def G_ringlaw5_SigSays_C15_ex : G_ringlaw5_SigSays_C15_R → Ex
  | .x0 _ => .normal

end Go.Proofs.Ytjjjaakefnnbpaa.pv
