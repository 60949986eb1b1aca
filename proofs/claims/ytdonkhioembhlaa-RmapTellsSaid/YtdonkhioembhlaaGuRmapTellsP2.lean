/- What the functions compute (part 2): written by gen.py. -/
import Derived.Test.YtdonkhioembhlaaGuRmapTellsP1
set_option maxRecDepth 100000
set_option linter.all false
namespace Go.Proofs.Ytdonkhioembhlaa.pv
open Go.RowKit
theorem G_slices_partialInsertionSortCmpFunc_rmap_Pair_h_L5_ok {Fi : Ex → PS → Prop} (hF : KC 141 Fi) (ks : List Fr) (n : Nat) (v_a904 : Int) (v_b905 : Int) (v_cmp906 : (S_rmap_Pair → S_rmap_Pair → Option (Int))) (v_cmp906_g : FuncId) (v_cmp906_c : (List PV)) (v_cmp906_h : ∀ (x0 : S_rmap_Pair) (x1 : S_rmap_Pair) (r : Int), v_cmp906 x0 x1 = some r → Ret Try.prog v_cmp906_g ([eS_rmap_Pair x0, eS_rmap_Pair x1] ++ v_cmp906_c) ((eI .i64) r)) : ∀ (k : Nat) (v_i907 : Int) (v_j908 : Int) (v_w909 : (List S_rmap_Pair)) (o : G_slices_partialInsertionSortCmpFunc_rmap_Pair_h_L5_R), G_slices_partialInsertionSortCmpFunc_rmap_Pair_h_L5 n v_a904 v_b905 v_cmp906 k v_i907 v_j908 v_w909 = some o → RunE Try.prog 141 Fi ks (G_slices_partialInsertionSortCmpFunc_rmap_Pair_h_L5_ex o) (G_slices_partialInsertionSortCmpFunc_rmap_Pair_h_L5_st v_a904 v_b905 v_cmp906 v_cmp906_g v_cmp906_c o) → RunE Try.prog 141 Fi (.l k (cP (cB (cR (cL (cR (cR (bodyOf Try.f44))))))) :: ks) .normal (G_slices_partialInsertionSortCmpFunc_rmap_Pair_h_L5_hd v_a904 v_b905 v_cmp906 v_cmp906_g v_cmp906_c v_i907 v_j908 v_w909)
  | 0, v_i907, v_j908, v_w909, o, h, q => by rw [G_slices_partialInsertionSortCmpFunc_rmap_Pair_h_L5] at h; cases h
  | k + 1, v_i907, v_j908, v_w909, o, h, q => by
    rw [G_slices_partialInsertionSortCmpFunc_rmap_Pair_h_L5] at h
    by_cases h673 : v_j908 < 5
    · rw [if_pos h673] at h
      obtain ⟨v_o922, h687, h⟩ := bind_some h
      refine pkk_sound TTok mix hF 11 (hs := [.t true, .n n]) (ts := []) (s := [0, 1]) (l := [0, 1, 2, 3, 9, 10]) (by kernel_rfl) (by kernel_rfl) (.cons (dt h673) .nil) (G_slices_partialInsertionSortCmpFunc_rmap_Pair_h_L1_ok hF (.b 2 :: .s (cR (cB (cL (cR (cP (cB (cR (cL (cR (cR (bodyOf Try.f44))))))))))) :: .b 1 :: .s (cR (cR (cP (cB (cR (cL (cR (cR (bodyOf Try.f44))))))))) :: .l k (cP (cB (cR (cL (cR (cR (bodyOf Try.f44))))))) :: ks) n v_a904 v_b905 v_cmp906 v_j908 v_cmp906_g v_cmp906_c v_cmp906_h n v_i907 v_w909 _ h687 ?_)
      cases v_o922 with
      | x0 v_z923 v_z924 =>
        try dsimp only at h
        by_cases h688 : v_z923 = v_b905
        · rw [if_pos h688] at h
          cases h
          exact pkk_sound TTok mix hF 12 (hs := [.t true]) (ts := []) (s := [0, 1]) (l := [8]) (by kernel_rfl) (by kernel_rfl) (.cons (bt h688) .nil) q
        · rw [if_neg h688] at h
          by_cases h689 : (wi .i64 (v_b905 - v_a904)) < 50
          · rw [if_pos h689] at h
            cases h
            exact pkk_sound TTok mix hF 17 (hs := [.t false, .t true]) (ts := []) (s := [0, 1]) (l := [8]) (by kernel_rfl) (by kernel_rfl) (.cons (bf h688) (.cons (dt h689) .nil)) q
          · rw [if_neg h689] at h
            by_cases h690 : 0 ≤ (wi .i64 (v_z923 - 1)) ∧ ((wi .i64 (v_z923 - 1))).toNat < v_z924.length
            · rw [if_pos h690] at h
              obtain ⟨v_y929, h691, h⟩ := bind_some h
              by_cases h692 : 0 ≤ v_z923 ∧ (v_z923).toNat < v_z924.length
              · rw [if_pos h692] at h
                obtain ⟨v_y930, h693, h⟩ := bind_some h
                by_cases h694 : 0 ≤ v_z923 ∧ (v_z923).toNat < v_z924.length
                · rw [if_pos h694] at h
                  obtain ⟨v_y931, h695, h⟩ := bind_some h
                  by_cases h696 : 0 ≤ (wi .i64 (v_z923 - 1)) ∧ ((wi .i64 (v_z923 - 1))).toNat < (v_z924.set (v_z923).toNat v_y929).length
                  · rw [if_pos h696] at h
                    obtain ⟨v_y932, h697, h⟩ := bind_some h
                    by_cases h698 : (wi .i64 (v_z923 - v_a904)) ≥ 2
                    · rw [if_pos h698] at h
                      obtain ⟨v_o951, h728, h⟩ := bind_some h
                      refine pkk_sound TTok mix hF 21 (hs := [.t false, .t false, .y (eS_rmap_Pair v_y929), .y (eS_rmap_Pair v_y930), .w ((v_z924.set (v_z923).toNat v_y929).map eS_rmap_Pair), .y (eS_rmap_Pair v_y931), .w (((v_z924.set (v_z923).toNat v_y929).set ((wi .i64 (v_z923 - 1))).toNat v_y930).map eS_rmap_Pair), .y (eS_rmap_Pair v_y932), .t true, .n n]) (ts := []) (s := [0, 1]) (l := [0, 1, 2, 3, 9, 10, 11]) (by kernel_rfl) (by kernel_rfl) (.cons (bf h688) (.cons (df h689) (.cons (idx_ob (f := eS_rmap_Pair) h690) (.cons (get_ob (f := eS_rmap_Pair) h691) (.cons (idx_ob (f := eS_rmap_Pair) h692) (.cons (get_ob (f := eS_rmap_Pair) h693) (.cons (idx_ob (f := eS_rmap_Pair) h694) (.cons (get_ob (f := eS_rmap_Pair) h695) (.cons (Eq.refl (pcells (.agg [.v (.int .i64 v_y929.fFrame), .v (.int .i64 v_y929.fSpace), .v (.int .i64 v_y929.fPage)]))) (.cons (set_ob (f := eS_rmap_Pair) (l := v_z924) (k := (v_z923).toNat) (z := v_y929) (p := .agg [.v (.int .i64 v_y929.fFrame), .v (.int .i64 v_y929.fSpace), .v (.int .i64 v_y929.fPage)]) rfl) (.cons (idx_ob (f := eS_rmap_Pair) h696) (.cons (get_ob (f := eS_rmap_Pair) h697) (.cons (Eq.refl (pcells (.agg [.v (.int .i64 v_y930.fFrame), .v (.int .i64 v_y930.fSpace), .v (.int .i64 v_y930.fPage)]))) (.cons (set_ob (f := eS_rmap_Pair) (l := (v_z924.set (v_z923).toNat v_y929)) (k := ((wi .i64 (v_z923 - 1))).toNat) (z := v_y930) (p := .agg [.v (.int .i64 v_y930.fFrame), .v (.int .i64 v_y930.fSpace), .v (.int .i64 v_y930.fPage)]) rfl) (.cons (dt h698) .nil))))))))))))))) (G_slices_partialInsertionSortCmpFunc_rmap_Pair_h_L2_ok hF (.b 4 :: .s (cR (cR (cR (cR (cR (cB (cL (cR (cP (cB (cR (cL (cR (cR (bodyOf Try.f44))))))))))))))) :: .b 1 :: .s (cR (cR (cP (cB (cR (cL (cR (cR (bodyOf Try.f44))))))))) :: .l k (cP (cB (cR (cL (cR (cR (bodyOf Try.f44))))))) :: ks) n v_a904 v_b905 v_cmp906 v_z923 v_j908 v_cmp906_g v_cmp906_c v_cmp906_h n (wi .i64 (v_z923 - 1)) ((v_z924.set (v_z923).toNat v_y929).set ((wi .i64 (v_z923 - 1))).toNat v_y930) _ h728 ?_)
                      cases v_o951 with
                      | x0 v_z952 =>
                        try dsimp only at h
                        by_cases h729 : (wi .i64 (v_b905 - v_z923)) ≥ 2
                        · rw [if_pos h729] at h
                          obtain ⟨v_o971, h759, h⟩ := bind_some h
                          refine pkk_sound TTok mix hF 8 (hs := [.t true, .n n]) (ts := []) (s := [0, 1]) (l := [0, 1, 2, 3, 9, 10, 12]) (by kernel_rfl) (by kernel_rfl) (.cons (dt h729) .nil) (G_slices_partialInsertionSortCmpFunc_rmap_Pair_h_L3_ok hF (.b 6 :: .b 1 :: .s (cR (cR (cP (cB (cR (cL (cR (cR (bodyOf Try.f44))))))))) :: .l k (cP (cB (cR (cL (cR (cR (bodyOf Try.f44))))))) :: ks) n v_a904 v_b905 v_cmp906 v_z923 v_j908 v_cmp906_g v_cmp906_c v_cmp906_h n (wi .i64 (v_z923 + 1)) v_z952 _ h759 ?_)
                          cases v_o971 with
                          | x0 v_z972 =>
                            try dsimp only at h
                            exact pkk_sound TTok mix hF 3 (hs := []) (ts := []) (s := [0, 1]) (l := [0, 1, 2, 3, 9, 10]) (by kernel_rfl) (by kernel_rfl) .nil (G_slices_partialInsertionSortCmpFunc_rmap_Pair_h_L5_ok hF ks n v_a904 v_b905 v_cmp906 v_cmp906_g v_cmp906_c v_cmp906_h k v_z923 (wi .i64 (v_j908 + 1)) v_z972 _ h q)
                        · rw [if_neg h729] at h
                          exact pkk_sound TTok mix hF 7 (hs := [.t false]) (ts := []) (s := [0, 1]) (l := [0, 1, 2, 3, 9, 10]) (by kernel_rfl) (by kernel_rfl) (.cons (df h729) .nil) (G_slices_partialInsertionSortCmpFunc_rmap_Pair_h_L5_ok hF ks n v_a904 v_b905 v_cmp906 v_cmp906_g v_cmp906_c v_cmp906_h k v_z923 (wi .i64 (v_j908 + 1)) v_z952 _ h q)
                    · rw [if_neg h698] at h
                      by_cases h760 : (wi .i64 (v_b905 - v_z923)) ≥ 2
                      · rw [if_pos h760] at h
                        obtain ⟨v_o991, h790, h⟩ := bind_some h
                        refine pkk_sound TTok mix hF 25 (hs := [.t false, .t false, .y (eS_rmap_Pair v_y929), .y (eS_rmap_Pair v_y930), .w ((v_z924.set (v_z923).toNat v_y929).map eS_rmap_Pair), .y (eS_rmap_Pair v_y931), .w (((v_z924.set (v_z923).toNat v_y929).set ((wi .i64 (v_z923 - 1))).toNat v_y930).map eS_rmap_Pair), .y (eS_rmap_Pair v_y932), .t false, .t true, .n n]) (ts := []) (s := [0, 1]) (l := [0, 1, 2, 3, 9, 10, 12]) (by kernel_rfl) (by kernel_rfl) (.cons (bf h688) (.cons (df h689) (.cons (idx_ob (f := eS_rmap_Pair) h690) (.cons (get_ob (f := eS_rmap_Pair) h691) (.cons (idx_ob (f := eS_rmap_Pair) h692) (.cons (get_ob (f := eS_rmap_Pair) h693) (.cons (idx_ob (f := eS_rmap_Pair) h694) (.cons (get_ob (f := eS_rmap_Pair) h695) (.cons (Eq.refl (pcells (.agg [.v (.int .i64 v_y929.fFrame), .v (.int .i64 v_y929.fSpace), .v (.int .i64 v_y929.fPage)]))) (.cons (set_ob (f := eS_rmap_Pair) (l := v_z924) (k := (v_z923).toNat) (z := v_y929) (p := .agg [.v (.int .i64 v_y929.fFrame), .v (.int .i64 v_y929.fSpace), .v (.int .i64 v_y929.fPage)]) rfl) (.cons (idx_ob (f := eS_rmap_Pair) h696) (.cons (get_ob (f := eS_rmap_Pair) h697) (.cons (Eq.refl (pcells (.agg [.v (.int .i64 v_y930.fFrame), .v (.int .i64 v_y930.fSpace), .v (.int .i64 v_y930.fPage)]))) (.cons (set_ob (f := eS_rmap_Pair) (l := (v_z924.set (v_z923).toNat v_y929)) (k := ((wi .i64 (v_z923 - 1))).toNat) (z := v_y930) (p := .agg [.v (.int .i64 v_y930.fFrame), .v (.int .i64 v_y930.fSpace), .v (.int .i64 v_y930.fPage)]) rfl) (.cons (df h698) (.cons (dt h760) .nil)))))))))))))))) (G_slices_partialInsertionSortCmpFunc_rmap_Pair_h_L4_ok hF (.b 6 :: .b 1 :: .s (cR (cR (cP (cB (cR (cL (cR (cR (bodyOf Try.f44))))))))) :: .l k (cP (cB (cR (cL (cR (cR (bodyOf Try.f44))))))) :: ks) n v_a904 v_b905 v_cmp906 v_z923 v_j908 v_cmp906_g v_cmp906_c v_cmp906_h n (wi .i64 (v_z923 + 1)) ((v_z924.set (v_z923).toNat v_y929).set ((wi .i64 (v_z923 - 1))).toNat v_y930) _ h790 ?_)
                        cases v_o991 with
                        | x0 v_z992 =>
                          try dsimp only at h
                          exact pkk_sound TTok mix hF 3 (hs := []) (ts := []) (s := [0, 1]) (l := [0, 1, 2, 3, 9, 10]) (by kernel_rfl) (by kernel_rfl) .nil (G_slices_partialInsertionSortCmpFunc_rmap_Pair_h_L5_ok hF ks n v_a904 v_b905 v_cmp906 v_cmp906_g v_cmp906_c v_cmp906_h k v_z923 (wi .i64 (v_j908 + 1)) v_z992 _ h q)
                      · rw [if_neg h760] at h
                        exact pkk_sound TTok mix hF 24 (hs := [.t false, .t false, .y (eS_rmap_Pair v_y929), .y (eS_rmap_Pair v_y930), .w ((v_z924.set (v_z923).toNat v_y929).map eS_rmap_Pair), .y (eS_rmap_Pair v_y931), .w (((v_z924.set (v_z923).toNat v_y929).set ((wi .i64 (v_z923 - 1))).toNat v_y930).map eS_rmap_Pair), .y (eS_rmap_Pair v_y932), .t false, .t false]) (ts := []) (s := [0, 1]) (l := [0, 1, 2, 3, 9, 10]) (by kernel_rfl) (by kernel_rfl) (.cons (bf h688) (.cons (df h689) (.cons (idx_ob (f := eS_rmap_Pair) h690) (.cons (get_ob (f := eS_rmap_Pair) h691) (.cons (idx_ob (f := eS_rmap_Pair) h692) (.cons (get_ob (f := eS_rmap_Pair) h693) (.cons (idx_ob (f := eS_rmap_Pair) h694) (.cons (get_ob (f := eS_rmap_Pair) h695) (.cons (Eq.refl (pcells (.agg [.v (.int .i64 v_y929.fFrame), .v (.int .i64 v_y929.fSpace), .v (.int .i64 v_y929.fPage)]))) (.cons (set_ob (f := eS_rmap_Pair) (l := v_z924) (k := (v_z923).toNat) (z := v_y929) (p := .agg [.v (.int .i64 v_y929.fFrame), .v (.int .i64 v_y929.fSpace), .v (.int .i64 v_y929.fPage)]) rfl) (.cons (idx_ob (f := eS_rmap_Pair) h696) (.cons (get_ob (f := eS_rmap_Pair) h697) (.cons (Eq.refl (pcells (.agg [.v (.int .i64 v_y930.fFrame), .v (.int .i64 v_y930.fSpace), .v (.int .i64 v_y930.fPage)]))) (.cons (set_ob (f := eS_rmap_Pair) (l := (v_z924.set (v_z923).toNat v_y929)) (k := ((wi .i64 (v_z923 - 1))).toNat) (z := v_y930) (p := .agg [.v (.int .i64 v_y930.fFrame), .v (.int .i64 v_y930.fSpace), .v (.int .i64 v_y930.fPage)]) rfl) (.cons (df h698) (.cons (df h760) .nil)))))))))))))))) (G_slices_partialInsertionSortCmpFunc_rmap_Pair_h_L5_ok hF ks n v_a904 v_b905 v_cmp906 v_cmp906_g v_cmp906_c v_cmp906_h k v_z923 (wi .i64 (v_j908 + 1)) ((v_z924.set (v_z923).toNat v_y929).set ((wi .i64 (v_z923 - 1))).toNat v_y930) _ h q)
                  · rw [if_neg h696] at h; cases h
                · rw [if_neg h694] at h; cases h
              · rw [if_neg h692] at h; cases h
            · rw [if_neg h690] at h; cases h
    · rw [if_neg h673] at h
      cases h
      exact pkk_sound TTok mix hF 8 (hs := [.t false]) (ts := []) (s := [0, 1]) (l := []) (by kernel_rfl) (by kernel_rfl) (.cons (df h673) .nil) q
/- slices.partialInsertionSortCmpFunc[ringhall/rmap.Pair] -/
def G_slices_partialInsertionSortCmpFunc_rmap_Pair_h (n : Nat) (v_data903 : (List S_rmap_Pair)) (v_a904 : Int) (v_b905 : Int) (v_cmp906 : (S_rmap_Pair → S_rmap_Pair → Option (Int))) : Option (Bool × (List S_rmap_Pair)) :=
  (G_slices_partialInsertionSortCmpFunc_rmap_Pair_h_L5 n v_a904 v_b905 v_cmp906 n (wi .i64 (v_a904 + 1)) 0 v_data903).bind fun v_o994 => match v_o994 with
  | .x0 v_z995 v_z996 =>
    some (v_z995, v_z996)
  | .x1 v_z997 =>
    some (false, v_z997)
theorem G_slices_partialInsertionSortCmpFunc_rmap_Pair_h_ok (n : Nat) (v_data903 : (List S_rmap_Pair)) (v_a904 : Int) (v_b905 : Int) (v_cmp906 : (S_rmap_Pair → S_rmap_Pair → Option (Int))) (v_cmp906_g : FuncId) (v_cmp906_c : List PV) (v_cmp906_h : ∀ (x0 : S_rmap_Pair) (x1 : S_rmap_Pair) (r : Int), v_cmp906 x0 x1 = some r → Ret Try.prog v_cmp906_g ([eS_rmap_Pair x0, eS_rmap_Pair x1] ++ v_cmp906_c) ((eI .i64) r)) (r : Bool × (List S_rmap_Pair)) (h : G_slices_partialInsertionSortCmpFunc_rmap_Pair_h n v_data903 v_a904 v_b905 v_cmp906 = some r) : RetH Try.prog 44 [.srf 0, .d ((eI .i64) v_a904), .d ((eI .i64) v_b905), .d ((.clo v_cmp906_g v_cmp906_c))] [.row 24 3 (v_data903.map eS_rmap_Pair)] (.d (eB r.1)) [.row 24 3 (r.2.map eS_rmap_Pair)] := by
  refine retH_run (n := 141) (fn := Try.f44) (c := bodyOf Try.f44) (by kernel_rfl) (by kernel_rfl) (by kernel_rfl) (by kernel_rfl) ?_
  have hF : KC 141 (FinH Try.prog Try.f44 [.row 24 3 (v_data903.map eS_rmap_Pair)] (.d (eB r.1)) [.row 24 3 (r.2.map eS_rmap_Pair)]) := FinH.kc' (by kernel_rfl)
  unfold G_slices_partialInsertionSortCmpFunc_rmap_Pair_h at h
  obtain ⟨v_o994, h791, h⟩ := bind_some h
  refine pkk_sound TTok mix hF 9 (hs := [.n n]) (ts := []) (s := [1, 0]) (l := [0, 1, 2, 3, 9, 10]) (by kernel_rfl) (by kernel_rfl) .nil (G_slices_partialInsertionSortCmpFunc_rmap_Pair_h_L5_ok hF (.b 0 :: .s (cR (cR (cR (bodyOf Try.f44)))) :: []) n v_a904 v_b905 v_cmp906 v_cmp906_g v_cmp906_c v_cmp906_h n (wi .i64 (v_a904 + 1)) 0 v_data903 _ h791 ?_)
  cases v_o994 with
  | x0 v_z995 v_z996 =>
    try dsimp only at h
    obtain rfl := Option.some.inj h
    exact pendH_sound TTok mix 2 (hs := []) [1] (by kernel_rfl) (by kernel_rfl) (by kernel_rfl) .nil
  | x1 v_z997 =>
    try dsimp only at h
    obtain rfl := Option.some.inj h
    exact pendH_sound TTok mix 4 (hs := []) [1] (by kernel_rfl) (by kernel_rfl) (by kernel_rfl) .nil
inductive G_slices_partitionEqualCmpFunc_rmap_Pair_h_L1_R where
  | x0 (v_i1039 : Int) (v_w1040 : (List S_rmap_Pair))
def G_slices_partitionEqualCmpFunc_rmap_Pair_h_L1_ex : G_slices_partitionEqualCmpFunc_rmap_Pair_h_L1_R → Ex
  | .x0 _ _ => .exit 2
def G_slices_partitionEqualCmpFunc_rmap_Pair_h_L1_st (v_a1020 : Int) (v_cmp1023 : (S_rmap_Pair → S_rmap_Pair → Option (Int))) (v_j1029 : Int) (v_cmp1023_g : FuncId) (v_cmp1023_c : (List PV)) : G_slices_partitionEqualCmpFunc_rmap_Pair_h_L1_R → PS
  | .x0 v_i1039 v_w1040 => ⟨(.srf 1 :: .d (.v (.int .i64 v_a1020)) :: dd :: dd :: .d (.clo v_cmp1023_g v_cmp1023_c) :: dd :: dd :: dd :: dd :: dd :: dd :: .d (.v (.int .i64 v_i1039)) :: .d (.v (.int .i64 v_j1029)) :: (dds 77 [])), [.gh 0 (.srf 1), .row 24 3 (v_w1040.map eS_rmap_Pair)]⟩
def G_slices_partitionEqualCmpFunc_rmap_Pair_h_L1_hd (v_a1020 : Int) (v_cmp1023 : (S_rmap_Pair → S_rmap_Pair → Option (Int))) (v_j1029 : Int) (v_cmp1023_g : FuncId) (v_cmp1023_c : (List PV)) (v_i1031 : Int) (v_w1032 : (List S_rmap_Pair)) : PS := ⟨(.srf 1 :: .d (.v (.int .i64 v_a1020)) :: dd :: dd :: .d (.clo v_cmp1023_g v_cmp1023_c) :: dd :: dd :: dd :: dd :: dd :: dd :: .d (.v (.int .i64 v_i1031)) :: .d (.v (.int .i64 v_j1029)) :: (dds 77 [])), [.gh 0 (.srf 1), .row 24 3 (v_w1032.map eS_rmap_Pair)]⟩
def G_slices_partitionEqualCmpFunc_rmap_Pair_h_L1 (n : Nat) (v_a1020 : Int) (v_cmp1023 : (S_rmap_Pair → S_rmap_Pair → Option (Int))) (v_j1029 : Int) : Nat → Int → (List S_rmap_Pair) → Option G_slices_partitionEqualCmpFunc_rmap_Pair_h_L1_R
  | 0, _, _ => none
  | k + 1, v_i1031, v_w1032 =>
    if v_i1031 ≤ v_j1029 then
     if 0 ≤ v_a1020 ∧ (v_a1020).toNat < v_w1032.length then
      (v_w1032[(v_a1020).toNat]?).bind fun (v_y1036 : S_rmap_Pair) =>
      if 0 ≤ v_i1031 ∧ (v_i1031).toNat < v_w1032.length then
       (v_w1032[(v_i1031).toNat]?).bind fun (v_y1037 : S_rmap_Pair) =>
       (v_cmp1023 v_y1036 v_y1037).bind fun (v_r1038 : (Int)) =>
       if v_r1038 < 0 then
        some (.x0 v_i1031 v_w1032)
       else
        G_slices_partitionEqualCmpFunc_rmap_Pair_h_L1 n v_a1020 v_cmp1023 v_j1029 k (wi .i64 (v_i1031 + 1)) v_w1032
      else none
     else none
    else
     some (.x0 v_i1031 v_w1032)
theorem G_slices_partitionEqualCmpFunc_rmap_Pair_h_L1_ok {Fi : Ex → PS → Prop} (hF : KC 90 Fi) (ks : List Fr) (n : Nat) (v_a1020 : Int) (v_cmp1023 : (S_rmap_Pair → S_rmap_Pair → Option (Int))) (v_j1029 : Int) (v_cmp1023_g : FuncId) (v_cmp1023_c : (List PV)) (v_cmp1023_h : ∀ (x0 : S_rmap_Pair) (x1 : S_rmap_Pair) (r : Int), v_cmp1023 x0 x1 = some r → Ret Try.prog v_cmp1023_g ([eS_rmap_Pair x0, eS_rmap_Pair x1] ++ v_cmp1023_c) ((eI .i64) r)) : ∀ (k : Nat) (v_i1031 : Int) (v_w1032 : (List S_rmap_Pair)) (o : G_slices_partitionEqualCmpFunc_rmap_Pair_h_L1_R), G_slices_partitionEqualCmpFunc_rmap_Pair_h_L1 n v_a1020 v_cmp1023 v_j1029 k v_i1031 v_w1032 = some o → RunE Try.prog 90 Fi ks (G_slices_partitionEqualCmpFunc_rmap_Pair_h_L1_ex o) (G_slices_partitionEqualCmpFunc_rmap_Pair_h_L1_st v_a1020 v_cmp1023 v_j1029 v_cmp1023_g v_cmp1023_c o) → RunE Try.prog 90 Fi (.l k (cP (cB (cL (cB (cP (cB (cL (cR (cR (cR (bodyOf Try.f45))))))))))) :: ks) .normal (G_slices_partitionEqualCmpFunc_rmap_Pair_h_L1_hd v_a1020 v_cmp1023 v_j1029 v_cmp1023_g v_cmp1023_c v_i1031 v_w1032)
  | 0, v_i1031, v_w1032, o, h, q => by rw [G_slices_partitionEqualCmpFunc_rmap_Pair_h_L1] at h; cases h
  | k + 1, v_i1031, v_w1032, o, h, q => by
    rw [G_slices_partitionEqualCmpFunc_rmap_Pair_h_L1] at h
    by_cases h826 : v_i1031 ≤ v_j1029
    · rw [if_pos h826] at h
      by_cases h827 : 0 ≤ v_a1020 ∧ (v_a1020).toNat < v_w1032.length
      · rw [if_pos h827] at h
        obtain ⟨v_y1036, h828, h⟩ := bind_some h
        by_cases h829 : 0 ≤ v_i1031 ∧ (v_i1031).toNat < v_w1032.length
        · rw [if_pos h829] at h
          obtain ⟨v_y1037, h830, h⟩ := bind_some h
          obtain ⟨v_r1038, h831, h⟩ := bind_some h
          by_cases h832 : v_r1038 < 0
          · rw [if_pos h832] at h
            cases h
            exact pkk_sound TTok mix hF 8 (hs := [.t true, .c, .c, .c, .c, .y (eS_rmap_Pair v_y1036), .c, .c, .c, .c, .y (eS_rmap_Pair v_y1037), .c, .r ((eI .i64) v_r1038), .c, .c, .t false]) (ts := []) (s := [0, 1]) (l := [0, 1, 4, 11, 12]) (by kernel_rfl) (by kernel_rfl) (.cons (dt h826) (.cons (idx_ob (f := eS_rmap_Pair) h827) (.cons (get_ob (f := eS_rmap_Pair) h828) (.cons (idx_ob (f := eS_rmap_Pair) h829) (.cons (get_ob (f := eS_rmap_Pair) h830) (.cons (v_cmp1023_h v_y1036 v_y1037 _ h831) (.cons (bnf (dt h832)) .nil))))))) q
          · rw [if_neg h832] at h
            exact pkk_sound TTok mix hF 9 (hs := [.t true, .c, .c, .c, .c, .y (eS_rmap_Pair v_y1036), .c, .c, .c, .c, .y (eS_rmap_Pair v_y1037), .c, .r ((eI .i64) v_r1038), .c, .c, .t true]) (ts := []) (s := [0, 1]) (l := [0, 1, 4, 11, 12]) (by kernel_rfl) (by kernel_rfl) (.cons (dt h826) (.cons (idx_ob (f := eS_rmap_Pair) h827) (.cons (get_ob (f := eS_rmap_Pair) h828) (.cons (idx_ob (f := eS_rmap_Pair) h829) (.cons (get_ob (f := eS_rmap_Pair) h830) (.cons (v_cmp1023_h v_y1036 v_y1037 _ h831) (.cons (bnt (df h832)) .nil))))))) (G_slices_partitionEqualCmpFunc_rmap_Pair_h_L1_ok hF ks n v_a1020 v_cmp1023 v_j1029 v_cmp1023_g v_cmp1023_c v_cmp1023_h k (wi .i64 (v_i1031 + 1)) v_w1032 _ h q)
        · rw [if_neg h829] at h; cases h
      · rw [if_neg h827] at h; cases h
    · rw [if_neg h826] at h
      cases h
      exact pkk_sound TTok mix hF 8 (hs := [.t false, .c, .c, .c, .c, .c, .c, .c, .c, .c, .c, .c, .c]) (ts := []) (s := [0, 1]) (l := [0, 1, 4, 11, 12]) (by kernel_rfl) (by kernel_rfl) (.cons (df h826) .nil) q
inductive G_slices_partitionEqualCmpFunc_rmap_Pair_h_L2_R where
  | x0 (v_j1054 : Int) (v_w1055 : (List S_rmap_Pair))
def G_slices_partitionEqualCmpFunc_rmap_Pair_h_L2_ex : G_slices_partitionEqualCmpFunc_rmap_Pair_h_L2_R → Ex
  | .x0 _ _ => .exit 4
def G_slices_partitionEqualCmpFunc_rmap_Pair_h_L2_st (v_a1020 : Int) (v_cmp1023 : (S_rmap_Pair → S_rmap_Pair → Option (Int))) (v_z1044 : Int) (v_cmp1023_g : FuncId) (v_cmp1023_c : (List PV)) : G_slices_partitionEqualCmpFunc_rmap_Pair_h_L2_R → PS
  | .x0 v_j1054 v_w1055 => ⟨(.srf 1 :: .d (.v (.int .i64 v_a1020)) :: dd :: dd :: .d (.clo v_cmp1023_g v_cmp1023_c) :: dd :: dd :: dd :: dd :: dd :: dd :: .d (.v (.int .i64 v_z1044)) :: .d (.v (.int .i64 v_j1054)) :: (dds 77 [])), [.gh 0 (.srf 1), .row 24 3 (v_w1055.map eS_rmap_Pair)]⟩
def G_slices_partitionEqualCmpFunc_rmap_Pair_h_L2_hd (v_a1020 : Int) (v_cmp1023 : (S_rmap_Pair → S_rmap_Pair → Option (Int))) (v_z1044 : Int) (v_cmp1023_g : FuncId) (v_cmp1023_c : (List PV)) (v_j1046 : Int) (v_w1047 : (List S_rmap_Pair)) : PS := ⟨(.srf 1 :: .d (.v (.int .i64 v_a1020)) :: dd :: dd :: .d (.clo v_cmp1023_g v_cmp1023_c) :: dd :: dd :: dd :: dd :: dd :: dd :: .d (.v (.int .i64 v_z1044)) :: .d (.v (.int .i64 v_j1046)) :: (dds 77 [])), [.gh 0 (.srf 1), .row 24 3 (v_w1047.map eS_rmap_Pair)]⟩
def G_slices_partitionEqualCmpFunc_rmap_Pair_h_L2 (n : Nat) (v_a1020 : Int) (v_cmp1023 : (S_rmap_Pair → S_rmap_Pair → Option (Int))) (v_z1044 : Int) : Nat → Int → (List S_rmap_Pair) → Option G_slices_partitionEqualCmpFunc_rmap_Pair_h_L2_R
  | 0, _, _ => none
  | k + 1, v_j1046, v_w1047 =>
    if v_z1044 ≤ v_j1046 then
     if 0 ≤ v_a1020 ∧ (v_a1020).toNat < v_w1047.length then
      (v_w1047[(v_a1020).toNat]?).bind fun (v_y1051 : S_rmap_Pair) =>
      if 0 ≤ v_j1046 ∧ (v_j1046).toNat < v_w1047.length then
       (v_w1047[(v_j1046).toNat]?).bind fun (v_y1052 : S_rmap_Pair) =>
       (v_cmp1023 v_y1051 v_y1052).bind fun (v_r1053 : (Int)) =>
       if v_r1053 < 0 then
        G_slices_partitionEqualCmpFunc_rmap_Pair_h_L2 n v_a1020 v_cmp1023 v_z1044 k (wi .i64 (v_j1046 - 1)) v_w1047
       else
        some (.x0 v_j1046 v_w1047)
      else none
     else none
    else
     some (.x0 v_j1046 v_w1047)
theorem G_slices_partitionEqualCmpFunc_rmap_Pair_h_L2_ok {Fi : Ex → PS → Prop} (hF : KC 90 Fi) (ks : List Fr) (n : Nat) (v_a1020 : Int) (v_cmp1023 : (S_rmap_Pair → S_rmap_Pair → Option (Int))) (v_z1044 : Int) (v_cmp1023_g : FuncId) (v_cmp1023_c : (List PV)) (v_cmp1023_h : ∀ (x0 : S_rmap_Pair) (x1 : S_rmap_Pair) (r : Int), v_cmp1023 x0 x1 = some r → Ret Try.prog v_cmp1023_g ([eS_rmap_Pair x0, eS_rmap_Pair x1] ++ v_cmp1023_c) ((eI .i64) r)) : ∀ (k : Nat) (v_j1046 : Int) (v_w1047 : (List S_rmap_Pair)) (o : G_slices_partitionEqualCmpFunc_rmap_Pair_h_L2_R), G_slices_partitionEqualCmpFunc_rmap_Pair_h_L2 n v_a1020 v_cmp1023 v_z1044 k v_j1046 v_w1047 = some o → RunE Try.prog 90 Fi ks (G_slices_partitionEqualCmpFunc_rmap_Pair_h_L2_ex o) (G_slices_partitionEqualCmpFunc_rmap_Pair_h_L2_st v_a1020 v_cmp1023 v_z1044 v_cmp1023_g v_cmp1023_c o) → RunE Try.prog 90 Fi (.l k (cP (cB (cL (cR (cB (cP (cB (cL (cR (cR (cR (bodyOf Try.f45)))))))))))) :: ks) .normal (G_slices_partitionEqualCmpFunc_rmap_Pair_h_L2_hd v_a1020 v_cmp1023 v_z1044 v_cmp1023_g v_cmp1023_c v_j1046 v_w1047)
  | 0, v_j1046, v_w1047, o, h, q => by rw [G_slices_partitionEqualCmpFunc_rmap_Pair_h_L2] at h; cases h
  | k + 1, v_j1046, v_w1047, o, h, q => by
    rw [G_slices_partitionEqualCmpFunc_rmap_Pair_h_L2] at h
    by_cases h840 : v_z1044 ≤ v_j1046
    · rw [if_pos h840] at h
      by_cases h841 : 0 ≤ v_a1020 ∧ (v_a1020).toNat < v_w1047.length
      · rw [if_pos h841] at h
        obtain ⟨v_y1051, h842, h⟩ := bind_some h
        by_cases h843 : 0 ≤ v_j1046 ∧ (v_j1046).toNat < v_w1047.length
        · rw [if_pos h843] at h
          obtain ⟨v_y1052, h844, h⟩ := bind_some h
          obtain ⟨v_r1053, h845, h⟩ := bind_some h
          by_cases h846 : v_r1053 < 0
          · rw [if_pos h846] at h
            exact pkk_sound TTok mix hF 9 (hs := [.t true, .c, .c, .c, .c, .y (eS_rmap_Pair v_y1051), .c, .c, .c, .c, .y (eS_rmap_Pair v_y1052), .c, .r ((eI .i64) v_r1053), .c, .t true]) (ts := []) (s := [0, 1]) (l := [0, 1, 4, 11, 12]) (by kernel_rfl) (by kernel_rfl) (.cons (dt h840) (.cons (idx_ob (f := eS_rmap_Pair) h841) (.cons (get_ob (f := eS_rmap_Pair) h842) (.cons (idx_ob (f := eS_rmap_Pair) h843) (.cons (get_ob (f := eS_rmap_Pair) h844) (.cons (v_cmp1023_h v_y1051 v_y1052 _ h845) (.cons (dt h846) .nil))))))) (G_slices_partitionEqualCmpFunc_rmap_Pair_h_L2_ok hF ks n v_a1020 v_cmp1023 v_z1044 v_cmp1023_g v_cmp1023_c v_cmp1023_h k (wi .i64 (v_j1046 - 1)) v_w1047 _ h q)
          · rw [if_neg h846] at h
            cases h
            exact pkk_sound TTok mix hF 8 (hs := [.t true, .c, .c, .c, .c, .y (eS_rmap_Pair v_y1051), .c, .c, .c, .c, .y (eS_rmap_Pair v_y1052), .c, .r ((eI .i64) v_r1053), .c, .t false]) (ts := []) (s := [0, 1]) (l := [0, 1, 4, 11, 12]) (by kernel_rfl) (by kernel_rfl) (.cons (dt h840) (.cons (idx_ob (f := eS_rmap_Pair) h841) (.cons (get_ob (f := eS_rmap_Pair) h842) (.cons (idx_ob (f := eS_rmap_Pair) h843) (.cons (get_ob (f := eS_rmap_Pair) h844) (.cons (v_cmp1023_h v_y1051 v_y1052 _ h845) (.cons (df h846) .nil))))))) q
        · rw [if_neg h843] at h; cases h
      · rw [if_neg h841] at h; cases h
    · rw [if_neg h840] at h
      cases h
      exact pkk_sound TTok mix hF 8 (hs := [.t false, .c, .c, .c, .c, .c, .c, .c, .c, .c, .c, .c]) (ts := []) (s := [0, 1]) (l := [0, 1, 4, 11, 12]) (by kernel_rfl) (by kernel_rfl) (.cons (df h840) .nil) q
inductive G_slices_partitionEqualCmpFunc_rmap_Pair_h_L3_R where
  | x0 (v_i1061 : Int) (v_w1062 : (List S_rmap_Pair))
def G_slices_partitionEqualCmpFunc_rmap_Pair_h_L3_ex : G_slices_partitionEqualCmpFunc_rmap_Pair_h_L3_R → Ex
  | .x0 _ _ => .exit 0
def G_slices_partitionEqualCmpFunc_rmap_Pair_h_L3_st (v_a1020 : Int) (v_cmp1023 : (S_rmap_Pair → S_rmap_Pair → Option (Int))) (v_cmp1023_g : FuncId) (v_cmp1023_c : (List PV)) : G_slices_partitionEqualCmpFunc_rmap_Pair_h_L3_R → PS
  | .x0 v_i1061 v_w1062 => ⟨(dds 11 (.d (.v (.int .i64 v_i1061)) :: (dds 78 []))), [.gh 0 (.srf 1), .row 24 3 (v_w1062.map eS_rmap_Pair)]⟩
def G_slices_partitionEqualCmpFunc_rmap_Pair_h_L3_hd (v_a1020 : Int) (v_cmp1023 : (S_rmap_Pair → S_rmap_Pair → Option (Int))) (v_cmp1023_g : FuncId) (v_cmp1023_c : (List PV)) (v_i1028 : Int) (v_j1029 : Int) (v_w1030 : (List S_rmap_Pair)) : PS := ⟨(.srf 1 :: .d (.v (.int .i64 v_a1020)) :: dd :: dd :: .d (.clo v_cmp1023_g v_cmp1023_c) :: dd :: dd :: dd :: dd :: dd :: dd :: .d (.v (.int .i64 v_i1028)) :: .d (.v (.int .i64 v_j1029)) :: (dds 77 [])), [.gh 0 (.srf 1), .row 24 3 (v_w1030.map eS_rmap_Pair)]⟩
def G_slices_partitionEqualCmpFunc_rmap_Pair_h_L3 (n : Nat) (v_a1020 : Int) (v_cmp1023 : (S_rmap_Pair → S_rmap_Pair → Option (Int))) : Nat → Int → Int → (List S_rmap_Pair) → Option G_slices_partitionEqualCmpFunc_rmap_Pair_h_L3_R
  | 0, _, _, _ => none
  | k + 1, v_i1028, v_j1029, v_w1030 =>
    (G_slices_partitionEqualCmpFunc_rmap_Pair_h_L1 n v_a1020 v_cmp1023 v_j1029 n v_i1028 v_w1030).bind fun v_o1043 => match v_o1043 with
    | .x0 v_z1044 v_z1045 =>
      (G_slices_partitionEqualCmpFunc_rmap_Pair_h_L2 n v_a1020 v_cmp1023 v_z1044 n v_j1029 v_z1045).bind fun v_o1058 => match v_o1058 with
      | .x0 v_z1059 v_z1060 =>
        if v_z1044 > v_z1059 then
         some (.x0 v_z1044 v_z1060)
        else
         if 0 ≤ v_z1059 ∧ (v_z1059).toNat < v_z1060.length then
          (v_z1060[(v_z1059).toNat]?).bind fun (v_y1063 : S_rmap_Pair) =>
          if 0 ≤ v_z1044 ∧ (v_z1044).toNat < v_z1060.length then
           (v_z1060[(v_z1044).toNat]?).bind fun (v_y1064 : S_rmap_Pair) =>
           if 0 ≤ v_z1044 ∧ (v_z1044).toNat < v_z1060.length then
            (v_z1060[(v_z1044).toNat]?).bind fun (v_y1065 : S_rmap_Pair) =>
            if 0 ≤ v_z1059 ∧ (v_z1059).toNat < (v_z1060.set (v_z1044).toNat v_y1063).length then
             ((v_z1060.set (v_z1044).toNat v_y1063)[(v_z1059).toNat]?).bind fun (v_y1066 : S_rmap_Pair) =>
             G_slices_partitionEqualCmpFunc_rmap_Pair_h_L3 n v_a1020 v_cmp1023 k (wi .i64 (v_z1044 + 1)) (wi .i64 (v_z1059 - 1)) ((v_z1060.set (v_z1044).toNat v_y1063).set (v_z1059).toNat v_y1064)
            else none
           else none
          else none
         else none
theorem G_slices_partitionEqualCmpFunc_rmap_Pair_h_L3_ok {Fi : Ex → PS → Prop} (hF : KC 90 Fi) (ks : List Fr) (n : Nat) (v_a1020 : Int) (v_cmp1023 : (S_rmap_Pair → S_rmap_Pair → Option (Int))) (v_cmp1023_g : FuncId) (v_cmp1023_c : (List PV)) (v_cmp1023_h : ∀ (x0 : S_rmap_Pair) (x1 : S_rmap_Pair) (r : Int), v_cmp1023 x0 x1 = some r → Ret Try.prog v_cmp1023_g ([eS_rmap_Pair x0, eS_rmap_Pair x1] ++ v_cmp1023_c) ((eI .i64) r)) : ∀ (k : Nat) (v_i1028 : Int) (v_j1029 : Int) (v_w1030 : (List S_rmap_Pair)) (o : G_slices_partitionEqualCmpFunc_rmap_Pair_h_L3_R), G_slices_partitionEqualCmpFunc_rmap_Pair_h_L3 n v_a1020 v_cmp1023 k v_i1028 v_j1029 v_w1030 = some o → RunE Try.prog 90 Fi ks (G_slices_partitionEqualCmpFunc_rmap_Pair_h_L3_ex o) (G_slices_partitionEqualCmpFunc_rmap_Pair_h_L3_st v_a1020 v_cmp1023 v_cmp1023_g v_cmp1023_c o) → RunE Try.prog 90 Fi (.l k (cP (cB (cL (cR (cR (cR (bodyOf Try.f45))))))) :: ks) .normal (G_slices_partitionEqualCmpFunc_rmap_Pair_h_L3_hd v_a1020 v_cmp1023 v_cmp1023_g v_cmp1023_c v_i1028 v_j1029 v_w1030)
  | 0, v_i1028, v_j1029, v_w1030, o, h, q => by rw [G_slices_partitionEqualCmpFunc_rmap_Pair_h_L3] at h; cases h
  | k + 1, v_i1028, v_j1029, v_w1030, o, h, q => by
    rw [G_slices_partitionEqualCmpFunc_rmap_Pair_h_L3] at h
    obtain ⟨v_o1043, h833, h⟩ := bind_some h
    refine pkk_sound TTok mix hF 5 (hs := [.n n]) (ts := []) (s := [0, 1]) (l := [0, 1, 4, 11, 12]) (by kernel_rfl) (by kernel_rfl) .nil (G_slices_partitionEqualCmpFunc_rmap_Pair_h_L1_ok hF (.b 2 :: .s (cR (cB (cP (cB (cL (cR (cR (cR (bodyOf Try.f45))))))))) :: .b 1 :: .l k (cP (cB (cL (cR (cR (cR (bodyOf Try.f45))))))) :: ks) n v_a1020 v_cmp1023 v_j1029 v_cmp1023_g v_cmp1023_c v_cmp1023_h n v_i1028 v_w1030 _ h833 ?_)
    cases v_o1043 with
    | x0 v_z1044 v_z1045 =>
      try dsimp only at h
      obtain ⟨v_o1058, h847, h⟩ := bind_some h
      refine pkk_sound TTok mix hF 4 (hs := [.n n]) (ts := []) (s := [0, 1]) (l := [0, 1, 4, 11, 12]) (by kernel_rfl) (by kernel_rfl) .nil (G_slices_partitionEqualCmpFunc_rmap_Pair_h_L2_ok hF (.b 4 :: .s (cR (cR (cB (cP (cB (cL (cR (cR (cR (bodyOf Try.f45)))))))))) :: .b 1 :: .l k (cP (cB (cL (cR (cR (cR (bodyOf Try.f45))))))) :: ks) n v_a1020 v_cmp1023 v_z1044 v_cmp1023_g v_cmp1023_c v_cmp1023_h n v_j1029 v_z1045 _ h847 ?_)
      cases v_o1058 with
      | x0 v_z1059 v_z1060 =>
        try dsimp only at h
        by_cases h848 : v_z1044 > v_z1059
        · rw [if_pos h848] at h
          cases h
          exact pkk_sound TTok mix hF 9 (hs := [.t true]) (ts := []) (s := [0, 1]) (l := [11]) (by kernel_rfl) (by kernel_rfl) (.cons (dt h848) .nil) q
        · rw [if_neg h848] at h
          by_cases h849 : 0 ≤ v_z1059 ∧ (v_z1059).toNat < v_z1060.length
          · rw [if_pos h849] at h
            obtain ⟨v_y1063, h850, h⟩ := bind_some h
            by_cases h851 : 0 ≤ v_z1044 ∧ (v_z1044).toNat < v_z1060.length
            · rw [if_pos h851] at h
              obtain ⟨v_y1064, h852, h⟩ := bind_some h
              by_cases h853 : 0 ≤ v_z1044 ∧ (v_z1044).toNat < v_z1060.length
              · rw [if_pos h853] at h
                obtain ⟨v_y1065, h854, h⟩ := bind_some h
                by_cases h855 : 0 ≤ v_z1059 ∧ (v_z1059).toNat < (v_z1060.set (v_z1044).toNat v_y1063).length
                · rw [if_pos h855] at h
                  obtain ⟨v_y1066, h856, h⟩ := bind_some h
                  exact pkk_sound TTok mix hF 12 (hs := [.t false, .y (eS_rmap_Pair v_y1063), .y (eS_rmap_Pair v_y1064), .w ((v_z1060.set (v_z1044).toNat v_y1063).map eS_rmap_Pair), .y (eS_rmap_Pair v_y1065), .w (((v_z1060.set (v_z1044).toNat v_y1063).set (v_z1059).toNat v_y1064).map eS_rmap_Pair), .y (eS_rmap_Pair v_y1066)]) (ts := []) (s := [0, 1]) (l := [0, 1, 4, 11, 12]) (by kernel_rfl) (by kernel_rfl) (.cons (df h848) (.cons (idx_ob (f := eS_rmap_Pair) h849) (.cons (get_ob (f := eS_rmap_Pair) h850) (.cons (idx_ob (f := eS_rmap_Pair) h851) (.cons (get_ob (f := eS_rmap_Pair) h852) (.cons (idx_ob (f := eS_rmap_Pair) h853) (.cons (get_ob (f := eS_rmap_Pair) h854) (.cons (Eq.refl (pcells (.agg [.v (.int .i64 v_y1063.fFrame), .v (.int .i64 v_y1063.fSpace), .v (.int .i64 v_y1063.fPage)]))) (.cons (set_ob (f := eS_rmap_Pair) (l := v_z1060) (k := (v_z1044).toNat) (z := v_y1063) (p := .agg [.v (.int .i64 v_y1063.fFrame), .v (.int .i64 v_y1063.fSpace), .v (.int .i64 v_y1063.fPage)]) rfl) (.cons (idx_ob (f := eS_rmap_Pair) h855) (.cons (get_ob (f := eS_rmap_Pair) h856) (.cons (Eq.refl (pcells (.agg [.v (.int .i64 v_y1064.fFrame), .v (.int .i64 v_y1064.fSpace), .v (.int .i64 v_y1064.fPage)]))) (.cons (set_ob (f := eS_rmap_Pair) (l := (v_z1060.set (v_z1044).toNat v_y1063)) (k := (v_z1059).toNat) (z := v_y1064) (p := .agg [.v (.int .i64 v_y1064.fFrame), .v (.int .i64 v_y1064.fSpace), .v (.int .i64 v_y1064.fPage)]) rfl) .nil))))))))))))) (G_slices_partitionEqualCmpFunc_rmap_Pair_h_L3_ok hF ks n v_a1020 v_cmp1023 v_cmp1023_g v_cmp1023_c v_cmp1023_h k (wi .i64 (v_z1044 + 1)) (wi .i64 (v_z1059 - 1)) ((v_z1060.set (v_z1044).toNat v_y1063).set (v_z1059).toNat v_y1064) _ h q)
                · rw [if_neg h855] at h; cases h
              · rw [if_neg h853] at h; cases h
            · rw [if_neg h851] at h; cases h
          · rw [if_neg h849] at h; cases h
/- slices.partitionEqualCmpFunc[ringhall/rmap.Pair] -/
def G_slices_partitionEqualCmpFunc_rmap_Pair_h (n : Nat) (v_data1019 : (List S_rmap_Pair)) (v_a1020 : Int) (v_b1021 : Int) (v_pivot1022 : Int) (v_cmp1023 : (S_rmap_Pair → S_rmap_Pair → Option (Int))) : Option (Int × (List S_rmap_Pair)) :=
  if 0 ≤ v_pivot1022 ∧ (v_pivot1022).toNat < v_data1019.length then
   (v_data1019[(v_pivot1022).toNat]?).bind fun (v_y1024 : S_rmap_Pair) =>
   if 0 ≤ v_a1020 ∧ (v_a1020).toNat < v_data1019.length then
    (v_data1019[(v_a1020).toNat]?).bind fun (v_y1025 : S_rmap_Pair) =>
    if 0 ≤ v_a1020 ∧ (v_a1020).toNat < v_data1019.length then
     (v_data1019[(v_a1020).toNat]?).bind fun (v_y1026 : S_rmap_Pair) =>
     if 0 ≤ v_pivot1022 ∧ (v_pivot1022).toNat < (v_data1019.set (v_a1020).toNat v_y1024).length then
      ((v_data1019.set (v_a1020).toNat v_y1024)[(v_pivot1022).toNat]?).bind fun (v_y1027 : S_rmap_Pair) =>
      (G_slices_partitionEqualCmpFunc_rmap_Pair_h_L3 n v_a1020 v_cmp1023 n (wi .i64 (v_a1020 + 1)) (wi .i64 (v_b1021 - 1)) ((v_data1019.set (v_a1020).toNat v_y1024).set (v_pivot1022).toNat v_y1025)).bind fun v_o1067 => match v_o1067 with
      | .x0 v_z1068 v_z1069 =>
        some (v_z1068, v_z1069)
     else none
    else none
   else none
  else none
theorem G_slices_partitionEqualCmpFunc_rmap_Pair_h_ok (n : Nat) (v_data1019 : (List S_rmap_Pair)) (v_a1020 : Int) (v_b1021 : Int) (v_pivot1022 : Int) (v_cmp1023 : (S_rmap_Pair → S_rmap_Pair → Option (Int))) (v_cmp1023_g : FuncId) (v_cmp1023_c : List PV) (v_cmp1023_h : ∀ (x0 : S_rmap_Pair) (x1 : S_rmap_Pair) (r : Int), v_cmp1023 x0 x1 = some r → Ret Try.prog v_cmp1023_g ([eS_rmap_Pair x0, eS_rmap_Pair x1] ++ v_cmp1023_c) ((eI .i64) r)) (r : Int × (List S_rmap_Pair)) (h : G_slices_partitionEqualCmpFunc_rmap_Pair_h n v_data1019 v_a1020 v_b1021 v_pivot1022 v_cmp1023 = some r) : RetH Try.prog 45 [.srf 0, .d ((eI .i64) v_a1020), .d ((eI .i64) v_b1021), .d ((eI .i64) v_pivot1022), .d ((.clo v_cmp1023_g v_cmp1023_c))] [.row 24 3 (v_data1019.map eS_rmap_Pair)] (.d ((eI .i64) r.1)) [.row 24 3 (r.2.map eS_rmap_Pair)] := by
  refine retH_run (n := 90) (fn := Try.f45) (c := bodyOf Try.f45) (by kernel_rfl) (by kernel_rfl) (by kernel_rfl) (by kernel_rfl) ?_
  have hF : KC 90 (FinH Try.prog Try.f45 [.row 24 3 (v_data1019.map eS_rmap_Pair)] (.d ((eI .i64) r.1)) [.row 24 3 (r.2.map eS_rmap_Pair)]) := FinH.kc' (by kernel_rfl)
  unfold G_slices_partitionEqualCmpFunc_rmap_Pair_h at h
  by_cases h812 : 0 ≤ v_pivot1022 ∧ (v_pivot1022).toNat < v_data1019.length
  · rw [if_pos h812] at h
    obtain ⟨v_y1024, h813, h⟩ := bind_some h
    by_cases h814 : 0 ≤ v_a1020 ∧ (v_a1020).toNat < v_data1019.length
    · rw [if_pos h814] at h
      obtain ⟨v_y1025, h815, h⟩ := bind_some h
      by_cases h816 : 0 ≤ v_a1020 ∧ (v_a1020).toNat < v_data1019.length
      · rw [if_pos h816] at h
        obtain ⟨v_y1026, h817, h⟩ := bind_some h
        by_cases h818 : 0 ≤ v_pivot1022 ∧ (v_pivot1022).toNat < (v_data1019.set (v_a1020).toNat v_y1024).length
        · rw [if_pos h818] at h
          obtain ⟨v_y1027, h819, h⟩ := bind_some h
          obtain ⟨v_o1067, h857, h⟩ := bind_some h
          refine pkk_sound TTok mix hF 9 (hs := [.y (eS_rmap_Pair v_y1024), .y (eS_rmap_Pair v_y1025), .w ((v_data1019.set (v_a1020).toNat v_y1024).map eS_rmap_Pair), .y (eS_rmap_Pair v_y1026), .w (((v_data1019.set (v_a1020).toNat v_y1024).set (v_pivot1022).toNat v_y1025).map eS_rmap_Pair), .y (eS_rmap_Pair v_y1027), .n n]) (ts := []) (s := [1, 0]) (l := [0, 1, 4, 11, 12]) (by kernel_rfl) (by kernel_rfl) (.cons (idx_ob (f := eS_rmap_Pair) h812) (.cons (get_ob (f := eS_rmap_Pair) h813) (.cons (idx_ob (f := eS_rmap_Pair) h814) (.cons (get_ob (f := eS_rmap_Pair) h815) (.cons (idx_ob (f := eS_rmap_Pair) h816) (.cons (get_ob (f := eS_rmap_Pair) h817) (.cons (Eq.refl (pcells (.agg [.v (.int .i64 v_y1024.fFrame), .v (.int .i64 v_y1024.fSpace), .v (.int .i64 v_y1024.fPage)]))) (.cons (set_ob (f := eS_rmap_Pair) (l := v_data1019) (k := (v_a1020).toNat) (z := v_y1024) (p := .agg [.v (.int .i64 v_y1024.fFrame), .v (.int .i64 v_y1024.fSpace), .v (.int .i64 v_y1024.fPage)]) rfl) (.cons (idx_ob (f := eS_rmap_Pair) h818) (.cons (get_ob (f := eS_rmap_Pair) h819) (.cons (Eq.refl (pcells (.agg [.v (.int .i64 v_y1025.fFrame), .v (.int .i64 v_y1025.fSpace), .v (.int .i64 v_y1025.fPage)]))) (.cons (set_ob (f := eS_rmap_Pair) (l := (v_data1019.set (v_a1020).toNat v_y1024)) (k := (v_pivot1022).toNat) (z := v_y1025) (p := .agg [.v (.int .i64 v_y1025.fFrame), .v (.int .i64 v_y1025.fSpace), .v (.int .i64 v_y1025.fPage)]) rfl) .nil)))))))))))) (G_slices_partitionEqualCmpFunc_rmap_Pair_h_L3_ok hF (.b 0 :: .s (cR (cR (cR (cR (bodyOf Try.f45))))) :: []) n v_a1020 v_cmp1023 v_cmp1023_g v_cmp1023_c v_cmp1023_h n (wi .i64 (v_a1020 + 1)) (wi .i64 (v_b1021 - 1)) ((v_data1019.set (v_a1020).toNat v_y1024).set (v_pivot1022).toNat v_y1025) _ h857 ?_)
          cases v_o1067 with
          | x0 v_z1068 v_z1069 =>
            try dsimp only at h
            obtain rfl := Option.some.inj h
            exact pendH_sound TTok mix 4 (hs := []) [1] (by kernel_rfl) (by kernel_rfl) (by kernel_rfl) .nil
        · rw [if_neg h818] at h; cases h
      · rw [if_neg h816] at h; cases h
    · rw [if_neg h814] at h; cases h
  · rw [if_neg h812] at h; cases h
inductive G_slices_partitionCmpFunc_rmap_Pair_h_L1_R where
  | x0 (v_i1089 : Int) (v_w1090 : (List S_rmap_Pair))
def G_slices_partitionCmpFunc_rmap_Pair_h_L1_ex : G_slices_partitionCmpFunc_rmap_Pair_h_L1_R → Ex
  | .x0 _ _ => .exit 0
def G_slices_partitionCmpFunc_rmap_Pair_h_L1_st (v_a1073 : Int) (v_cmp1076 : (S_rmap_Pair → S_rmap_Pair → Option (Int))) (v_b1074 : Int) (v_cmp1076_g : FuncId) (v_cmp1076_c : (List PV)) : G_slices_partitionCmpFunc_rmap_Pair_h_L1_R → PS
  | .x0 v_i1089 v_w1090 => ⟨(.srf 1 :: .d (.v (.int .i64 v_a1073)) :: dd :: dd :: .d (.clo v_cmp1076_g v_cmp1076_c) :: dd :: dd :: dd :: dd :: dd :: dd :: dd :: .d (.v (.int .i64 v_i1089)) :: .d (.v (.int .i64 (wi .i64 (v_b1074 - 1)))) :: (dds 164 [])), [.gh 0 (.srf 1), .row 24 3 (v_w1090.map eS_rmap_Pair)]⟩
def G_slices_partitionCmpFunc_rmap_Pair_h_L1_hd (v_a1073 : Int) (v_cmp1076 : (S_rmap_Pair → S_rmap_Pair → Option (Int))) (v_b1074 : Int) (v_cmp1076_g : FuncId) (v_cmp1076_c : (List PV)) (v_i1081 : Int) (v_w1082 : (List S_rmap_Pair)) : PS := ⟨(.srf 1 :: .d (.v (.int .i64 v_a1073)) :: dd :: dd :: .d (.clo v_cmp1076_g v_cmp1076_c) :: dd :: dd :: dd :: dd :: dd :: dd :: dd :: .d (.v (.int .i64 v_i1081)) :: .d (.v (.int .i64 (wi .i64 (v_b1074 - 1)))) :: (dds 164 [])), [.gh 0 (.srf 1), .row 24 3 (v_w1082.map eS_rmap_Pair)]⟩
def G_slices_partitionCmpFunc_rmap_Pair_h_L1 (n : Nat) (v_a1073 : Int) (v_cmp1076 : (S_rmap_Pair → S_rmap_Pair → Option (Int))) (v_b1074 : Int) : Nat → Int → (List S_rmap_Pair) → Option G_slices_partitionCmpFunc_rmap_Pair_h_L1_R
  | 0, _, _ => none
  | k + 1, v_i1081, v_w1082 =>
    if v_i1081 ≤ (wi .i64 (v_b1074 - 1)) then
     if 0 ≤ v_i1081 ∧ (v_i1081).toNat < v_w1082.length then
      (v_w1082[(v_i1081).toNat]?).bind fun (v_y1086 : S_rmap_Pair) =>
      if 0 ≤ v_a1073 ∧ (v_a1073).toNat < v_w1082.length then
       (v_w1082[(v_a1073).toNat]?).bind fun (v_y1087 : S_rmap_Pair) =>
       (v_cmp1076 v_y1086 v_y1087).bind fun (v_r1088 : (Int)) =>
       if v_r1088 < 0 then
        G_slices_partitionCmpFunc_rmap_Pair_h_L1 n v_a1073 v_cmp1076 v_b1074 k (wi .i64 (v_i1081 + 1)) v_w1082
       else
        some (.x0 v_i1081 v_w1082)
      else none
     else none
    else
     some (.x0 v_i1081 v_w1082)
theorem G_slices_partitionCmpFunc_rmap_Pair_h_L1_ok {Fi : Ex → PS → Prop} (hF : KC 178 Fi) (ks : List Fr) (n : Nat) (v_a1073 : Int) (v_cmp1076 : (S_rmap_Pair → S_rmap_Pair → Option (Int))) (v_b1074 : Int) (v_cmp1076_g : FuncId) (v_cmp1076_c : (List PV)) (v_cmp1076_h : ∀ (x0 : S_rmap_Pair) (x1 : S_rmap_Pair) (r : Int), v_cmp1076 x0 x1 = some r → Ret Try.prog v_cmp1076_g ([eS_rmap_Pair x0, eS_rmap_Pair x1] ++ v_cmp1076_c) ((eI .i64) r)) : ∀ (k : Nat) (v_i1081 : Int) (v_w1082 : (List S_rmap_Pair)) (o : G_slices_partitionCmpFunc_rmap_Pair_h_L1_R), G_slices_partitionCmpFunc_rmap_Pair_h_L1 n v_a1073 v_cmp1076 v_b1074 k v_i1081 v_w1082 = some o → RunE Try.prog 178 Fi ks (G_slices_partitionCmpFunc_rmap_Pair_h_L1_ex o) (G_slices_partitionCmpFunc_rmap_Pair_h_L1_st v_a1073 v_cmp1076 v_b1074 v_cmp1076_g v_cmp1076_c o) → RunE Try.prog 178 Fi (.l k (cP (cB (cL (cR (cR (cR (bodyOf Try.f46))))))) :: ks) .normal (G_slices_partitionCmpFunc_rmap_Pair_h_L1_hd v_a1073 v_cmp1076 v_b1074 v_cmp1076_g v_cmp1076_c v_i1081 v_w1082)
  | 0, v_i1081, v_w1082, o, h, q => by rw [G_slices_partitionCmpFunc_rmap_Pair_h_L1] at h; cases h
  | k + 1, v_i1081, v_w1082, o, h, q => by
    rw [G_slices_partitionCmpFunc_rmap_Pair_h_L1] at h
    by_cases h875 : v_i1081 ≤ (wi .i64 (v_b1074 - 1))
    · rw [if_pos h875] at h
      by_cases h876 : 0 ≤ v_i1081 ∧ (v_i1081).toNat < v_w1082.length
      · rw [if_pos h876] at h
        obtain ⟨v_y1086, h877, h⟩ := bind_some h
        by_cases h878 : 0 ≤ v_a1073 ∧ (v_a1073).toNat < v_w1082.length
        · rw [if_pos h878] at h
          obtain ⟨v_y1087, h879, h⟩ := bind_some h
          obtain ⟨v_r1088, h880, h⟩ := bind_some h
          by_cases h881 : v_r1088 < 0
          · rw [if_pos h881] at h
            exact pkk_sound TTok mix hF 9 (hs := [.t true, .c, .c, .c, .c, .y (eS_rmap_Pair v_y1086), .c, .c, .c, .c, .y (eS_rmap_Pair v_y1087), .c, .r ((eI .i64) v_r1088), .c, .t true]) (ts := []) (s := [0, 1]) (l := [0, 1, 4, 12, 13]) (by kernel_rfl) (by kernel_rfl) (.cons (dt h875) (.cons (idx_ob (f := eS_rmap_Pair) h876) (.cons (get_ob (f := eS_rmap_Pair) h877) (.cons (idx_ob (f := eS_rmap_Pair) h878) (.cons (get_ob (f := eS_rmap_Pair) h879) (.cons (v_cmp1076_h v_y1086 v_y1087 _ h880) (.cons (dt h881) .nil))))))) (G_slices_partitionCmpFunc_rmap_Pair_h_L1_ok hF ks n v_a1073 v_cmp1076 v_b1074 v_cmp1076_g v_cmp1076_c v_cmp1076_h k (wi .i64 (v_i1081 + 1)) v_w1082 _ h q)
          · rw [if_neg h881] at h
            cases h
            exact pkk_sound TTok mix hF 8 (hs := [.t true, .c, .c, .c, .c, .y (eS_rmap_Pair v_y1086), .c, .c, .c, .c, .y (eS_rmap_Pair v_y1087), .c, .r ((eI .i64) v_r1088), .c, .t false]) (ts := []) (s := [0, 1]) (l := [0, 1, 4, 12, 13]) (by kernel_rfl) (by kernel_rfl) (.cons (dt h875) (.cons (idx_ob (f := eS_rmap_Pair) h876) (.cons (get_ob (f := eS_rmap_Pair) h877) (.cons (idx_ob (f := eS_rmap_Pair) h878) (.cons (get_ob (f := eS_rmap_Pair) h879) (.cons (v_cmp1076_h v_y1086 v_y1087 _ h880) (.cons (df h881) .nil))))))) q
        · rw [if_neg h878] at h; cases h
      · rw [if_neg h876] at h; cases h
    · rw [if_neg h875] at h
      cases h
      exact pkk_sound TTok mix hF 8 (hs := [.t false, .c, .c, .c, .c, .c, .c, .c, .c, .c, .c, .c]) (ts := []) (s := [0, 1]) (l := [0, 1, 4, 12, 13]) (by kernel_rfl) (by kernel_rfl) (.cons (df h875) .nil) q
inductive G_slices_partitionCmpFunc_rmap_Pair_h_L2_R where
  | x0 (v_j1104 : Int) (v_w1105 : (List S_rmap_Pair))
def G_slices_partitionCmpFunc_rmap_Pair_h_L2_ex : G_slices_partitionCmpFunc_rmap_Pair_h_L2_R → Ex
  | .x0 _ _ => .exit 2
def G_slices_partitionCmpFunc_rmap_Pair_h_L2_st (v_a1073 : Int) (v_cmp1076 : (S_rmap_Pair → S_rmap_Pair → Option (Int))) (v_z1094 : Int) (v_cmp1076_g : FuncId) (v_cmp1076_c : (List PV)) : G_slices_partitionCmpFunc_rmap_Pair_h_L2_R → PS
  | .x0 v_j1104 v_w1105 => ⟨(.srf 1 :: .d (.v (.int .i64 v_a1073)) :: dd :: dd :: .d (.clo v_cmp1076_g v_cmp1076_c) :: dd :: dd :: dd :: dd :: dd :: dd :: dd :: .d (.v (.int .i64 v_z1094)) :: .d (.v (.int .i64 v_j1104)) :: (dds 164 [])), [.gh 0 (.srf 1), .row 24 3 (v_w1105.map eS_rmap_Pair)]⟩
def G_slices_partitionCmpFunc_rmap_Pair_h_L2_hd (v_a1073 : Int) (v_cmp1076 : (S_rmap_Pair → S_rmap_Pair → Option (Int))) (v_z1094 : Int) (v_cmp1076_g : FuncId) (v_cmp1076_c : (List PV)) (v_j1096 : Int) (v_w1097 : (List S_rmap_Pair)) : PS := ⟨(.srf 1 :: .d (.v (.int .i64 v_a1073)) :: dd :: dd :: .d (.clo v_cmp1076_g v_cmp1076_c) :: dd :: dd :: dd :: dd :: dd :: dd :: dd :: .d (.v (.int .i64 v_z1094)) :: .d (.v (.int .i64 v_j1096)) :: (dds 164 [])), [.gh 0 (.srf 1), .row 24 3 (v_w1097.map eS_rmap_Pair)]⟩
def G_slices_partitionCmpFunc_rmap_Pair_h_L2 (n : Nat) (v_a1073 : Int) (v_cmp1076 : (S_rmap_Pair → S_rmap_Pair → Option (Int))) (v_z1094 : Int) : Nat → Int → (List S_rmap_Pair) → Option G_slices_partitionCmpFunc_rmap_Pair_h_L2_R
  | 0, _, _ => none
  | k + 1, v_j1096, v_w1097 =>
    if v_z1094 ≤ v_j1096 then
     if 0 ≤ v_j1096 ∧ (v_j1096).toNat < v_w1097.length then
      (v_w1097[(v_j1096).toNat]?).bind fun (v_y1101 : S_rmap_Pair) =>
      if 0 ≤ v_a1073 ∧ (v_a1073).toNat < v_w1097.length then
       (v_w1097[(v_a1073).toNat]?).bind fun (v_y1102 : S_rmap_Pair) =>
       (v_cmp1076 v_y1101 v_y1102).bind fun (v_r1103 : (Int)) =>
       if v_r1103 < 0 then
        some (.x0 v_j1096 v_w1097)
       else
        G_slices_partitionCmpFunc_rmap_Pair_h_L2 n v_a1073 v_cmp1076 v_z1094 k (wi .i64 (v_j1096 - 1)) v_w1097
      else none
     else none
    else
     some (.x0 v_j1096 v_w1097)
theorem G_slices_partitionCmpFunc_rmap_Pair_h_L2_ok {Fi : Ex → PS → Prop} (hF : KC 178 Fi) (ks : List Fr) (n : Nat) (v_a1073 : Int) (v_cmp1076 : (S_rmap_Pair → S_rmap_Pair → Option (Int))) (v_z1094 : Int) (v_cmp1076_g : FuncId) (v_cmp1076_c : (List PV)) (v_cmp1076_h : ∀ (x0 : S_rmap_Pair) (x1 : S_rmap_Pair) (r : Int), v_cmp1076 x0 x1 = some r → Ret Try.prog v_cmp1076_g ([eS_rmap_Pair x0, eS_rmap_Pair x1] ++ v_cmp1076_c) ((eI .i64) r)) : ∀ (k : Nat) (v_j1096 : Int) (v_w1097 : (List S_rmap_Pair)) (o : G_slices_partitionCmpFunc_rmap_Pair_h_L2_R), G_slices_partitionCmpFunc_rmap_Pair_h_L2 n v_a1073 v_cmp1076 v_z1094 k v_j1096 v_w1097 = some o → RunE Try.prog 178 Fi ks (G_slices_partitionCmpFunc_rmap_Pair_h_L2_ex o) (G_slices_partitionCmpFunc_rmap_Pair_h_L2_st v_a1073 v_cmp1076 v_z1094 v_cmp1076_g v_cmp1076_c o) → RunE Try.prog 178 Fi (.l k (cP (cB (cL (cR (cR (cR (cR (bodyOf Try.f46)))))))) :: ks) .normal (G_slices_partitionCmpFunc_rmap_Pair_h_L2_hd v_a1073 v_cmp1076 v_z1094 v_cmp1076_g v_cmp1076_c v_j1096 v_w1097)
  | 0, v_j1096, v_w1097, o, h, q => by rw [G_slices_partitionCmpFunc_rmap_Pair_h_L2] at h; cases h
  | k + 1, v_j1096, v_w1097, o, h, q => by
    rw [G_slices_partitionCmpFunc_rmap_Pair_h_L2] at h
    by_cases h889 : v_z1094 ≤ v_j1096
    · rw [if_pos h889] at h
      by_cases h890 : 0 ≤ v_j1096 ∧ (v_j1096).toNat < v_w1097.length
      · rw [if_pos h890] at h
        obtain ⟨v_y1101, h891, h⟩ := bind_some h
        by_cases h892 : 0 ≤ v_a1073 ∧ (v_a1073).toNat < v_w1097.length
        · rw [if_pos h892] at h
          obtain ⟨v_y1102, h893, h⟩ := bind_some h
          obtain ⟨v_r1103, h894, h⟩ := bind_some h
          by_cases h895 : v_r1103 < 0
          · rw [if_pos h895] at h
            cases h
            exact pkk_sound TTok mix hF 8 (hs := [.t true, .c, .c, .c, .c, .y (eS_rmap_Pair v_y1101), .c, .c, .c, .c, .y (eS_rmap_Pair v_y1102), .c, .r ((eI .i64) v_r1103), .c, .c, .t false]) (ts := []) (s := [0, 1]) (l := [0, 1, 4, 12, 13]) (by kernel_rfl) (by kernel_rfl) (.cons (dt h889) (.cons (idx_ob (f := eS_rmap_Pair) h890) (.cons (get_ob (f := eS_rmap_Pair) h891) (.cons (idx_ob (f := eS_rmap_Pair) h892) (.cons (get_ob (f := eS_rmap_Pair) h893) (.cons (v_cmp1076_h v_y1101 v_y1102 _ h894) (.cons (bnf (dt h895)) .nil))))))) q
          · rw [if_neg h895] at h
            exact pkk_sound TTok mix hF 9 (hs := [.t true, .c, .c, .c, .c, .y (eS_rmap_Pair v_y1101), .c, .c, .c, .c, .y (eS_rmap_Pair v_y1102), .c, .r ((eI .i64) v_r1103), .c, .c, .t true]) (ts := []) (s := [0, 1]) (l := [0, 1, 4, 12, 13]) (by kernel_rfl) (by kernel_rfl) (.cons (dt h889) (.cons (idx_ob (f := eS_rmap_Pair) h890) (.cons (get_ob (f := eS_rmap_Pair) h891) (.cons (idx_ob (f := eS_rmap_Pair) h892) (.cons (get_ob (f := eS_rmap_Pair) h893) (.cons (v_cmp1076_h v_y1101 v_y1102 _ h894) (.cons (bnt (df h895)) .nil))))))) (G_slices_partitionCmpFunc_rmap_Pair_h_L2_ok hF ks n v_a1073 v_cmp1076 v_z1094 v_cmp1076_g v_cmp1076_c v_cmp1076_h k (wi .i64 (v_j1096 - 1)) v_w1097 _ h q)
        · rw [if_neg h892] at h; cases h
      · rw [if_neg h890] at h; cases h
    · rw [if_neg h889] at h
      cases h
      exact pkk_sound TTok mix hF 8 (hs := [.t false, .c, .c, .c, .c, .c, .c, .c, .c, .c, .c, .c, .c]) (ts := []) (s := [0, 1]) (l := [0, 1, 4, 12, 13]) (by kernel_rfl) (by kernel_rfl) (.cons (df h889) .nil) q
inductive G_slices_partitionCmpFunc_rmap_Pair_h_L3_R where
  | x0 (v_i1134 : Int) (v_w1135 : (List S_rmap_Pair))
def G_slices_partitionCmpFunc_rmap_Pair_h_L3_ex : G_slices_partitionCmpFunc_rmap_Pair_h_L3_R → Ex
  | .x0 _ _ => .exit 6
def G_slices_partitionCmpFunc_rmap_Pair_h_L3_st (v_a1073 : Int) (v_cmp1076 : (S_rmap_Pair → S_rmap_Pair → Option (Int))) (v_j1124 : Int) (v_cmp1076_g : FuncId) (v_cmp1076_c : (List PV)) : G_slices_partitionCmpFunc_rmap_Pair_h_L3_R → PS
  | .x0 v_i1134 v_w1135 => ⟨(.srf 1 :: .d (.v (.int .i64 v_a1073)) :: dd :: dd :: .d (.clo v_cmp1076_g v_cmp1076_c) :: dd :: dd :: dd :: dd :: dd :: dd :: dd :: .d (.v (.int .i64 v_i1134)) :: .d (.v (.int .i64 v_j1124)) :: (dds 164 [])), [.gh 0 (.srf 1), .row 24 3 (v_w1135.map eS_rmap_Pair)]⟩
def G_slices_partitionCmpFunc_rmap_Pair_h_L3_hd (v_a1073 : Int) (v_cmp1076 : (S_rmap_Pair → S_rmap_Pair → Option (Int))) (v_j1124 : Int) (v_cmp1076_g : FuncId) (v_cmp1076_c : (List PV)) (v_i1126 : Int) (v_w1127 : (List S_rmap_Pair)) : PS := ⟨(.srf 1 :: .d (.v (.int .i64 v_a1073)) :: dd :: dd :: .d (.clo v_cmp1076_g v_cmp1076_c) :: dd :: dd :: dd :: dd :: dd :: dd :: dd :: .d (.v (.int .i64 v_i1126)) :: .d (.v (.int .i64 v_j1124)) :: (dds 164 [])), [.gh 0 (.srf 1), .row 24 3 (v_w1127.map eS_rmap_Pair)]⟩
def G_slices_partitionCmpFunc_rmap_Pair_h_L3 (n : Nat) (v_a1073 : Int) (v_cmp1076 : (S_rmap_Pair → S_rmap_Pair → Option (Int))) (v_j1124 : Int) : Nat → Int → (List S_rmap_Pair) → Option G_slices_partitionCmpFunc_rmap_Pair_h_L3_R
  | 0, _, _ => none
  | k + 1, v_i1126, v_w1127 =>
    if v_i1126 ≤ v_j1124 then
     if 0 ≤ v_i1126 ∧ (v_i1126).toNat < v_w1127.length then
      (v_w1127[(v_i1126).toNat]?).bind fun (v_y1131 : S_rmap_Pair) =>
      if 0 ≤ v_a1073 ∧ (v_a1073).toNat < v_w1127.length then
       (v_w1127[(v_a1073).toNat]?).bind fun (v_y1132 : S_rmap_Pair) =>
       (v_cmp1076 v_y1131 v_y1132).bind fun (v_r1133 : (Int)) =>
       if v_r1133 < 0 then
        G_slices_partitionCmpFunc_rmap_Pair_h_L3 n v_a1073 v_cmp1076 v_j1124 k (wi .i64 (v_i1126 + 1)) v_w1127
       else
        some (.x0 v_i1126 v_w1127)
      else none
     else none
    else
     some (.x0 v_i1126 v_w1127)
theorem G_slices_partitionCmpFunc_rmap_Pair_h_L3_ok {Fi : Ex → PS → Prop} (hF : KC 178 Fi) (ks : List Fr) (n : Nat) (v_a1073 : Int) (v_cmp1076 : (S_rmap_Pair → S_rmap_Pair → Option (Int))) (v_j1124 : Int) (v_cmp1076_g : FuncId) (v_cmp1076_c : (List PV)) (v_cmp1076_h : ∀ (x0 : S_rmap_Pair) (x1 : S_rmap_Pair) (r : Int), v_cmp1076 x0 x1 = some r → Ret Try.prog v_cmp1076_g ([eS_rmap_Pair x0, eS_rmap_Pair x1] ++ v_cmp1076_c) ((eI .i64) r)) : ∀ (k : Nat) (v_i1126 : Int) (v_w1127 : (List S_rmap_Pair)) (o : G_slices_partitionCmpFunc_rmap_Pair_h_L3_R), G_slices_partitionCmpFunc_rmap_Pair_h_L3 n v_a1073 v_cmp1076 v_j1124 k v_i1126 v_w1127 = some o → RunE Try.prog 178 Fi ks (G_slices_partitionCmpFunc_rmap_Pair_h_L3_ex o) (G_slices_partitionCmpFunc_rmap_Pair_h_L3_st v_a1073 v_cmp1076 v_j1124 v_cmp1076_g v_cmp1076_c o) → RunE Try.prog 178 Fi (.l k (cP (cB (cL (cB (cP (cB (cL (cR (cR (cR (cR (cR (cR (cR (cR (cR (bodyOf Try.f46))))))))))))))))) :: ks) .normal (G_slices_partitionCmpFunc_rmap_Pair_h_L3_hd v_a1073 v_cmp1076 v_j1124 v_cmp1076_g v_cmp1076_c v_i1126 v_w1127)
  | 0, v_i1126, v_w1127, o, h, q => by rw [G_slices_partitionCmpFunc_rmap_Pair_h_L3] at h; cases h
  | k + 1, v_i1126, v_w1127, o, h, q => by
    rw [G_slices_partitionCmpFunc_rmap_Pair_h_L3] at h
    by_cases h929 : v_i1126 ≤ v_j1124
    · rw [if_pos h929] at h
      by_cases h930 : 0 ≤ v_i1126 ∧ (v_i1126).toNat < v_w1127.length
      · rw [if_pos h930] at h
        obtain ⟨v_y1131, h931, h⟩ := bind_some h
        by_cases h932 : 0 ≤ v_a1073 ∧ (v_a1073).toNat < v_w1127.length
        · rw [if_pos h932] at h
          obtain ⟨v_y1132, h933, h⟩ := bind_some h
          obtain ⟨v_r1133, h934, h⟩ := bind_some h
          by_cases h935 : v_r1133 < 0
          · rw [if_pos h935] at h
            exact pkk_sound TTok mix hF 9 (hs := [.t true, .c, .c, .c, .c, .y (eS_rmap_Pair v_y1131), .c, .c, .c, .c, .y (eS_rmap_Pair v_y1132), .c, .r ((eI .i64) v_r1133), .c, .t true]) (ts := []) (s := [0, 1]) (l := [0, 1, 4, 12, 13]) (by kernel_rfl) (by kernel_rfl) (.cons (dt h929) (.cons (idx_ob (f := eS_rmap_Pair) h930) (.cons (get_ob (f := eS_rmap_Pair) h931) (.cons (idx_ob (f := eS_rmap_Pair) h932) (.cons (get_ob (f := eS_rmap_Pair) h933) (.cons (v_cmp1076_h v_y1131 v_y1132 _ h934) (.cons (dt h935) .nil))))))) (G_slices_partitionCmpFunc_rmap_Pair_h_L3_ok hF ks n v_a1073 v_cmp1076 v_j1124 v_cmp1076_g v_cmp1076_c v_cmp1076_h k (wi .i64 (v_i1126 + 1)) v_w1127 _ h q)
          · rw [if_neg h935] at h
            cases h
            exact pkk_sound TTok mix hF 8 (hs := [.t true, .c, .c, .c, .c, .y (eS_rmap_Pair v_y1131), .c, .c, .c, .c, .y (eS_rmap_Pair v_y1132), .c, .r ((eI .i64) v_r1133), .c, .t false]) (ts := []) (s := [0, 1]) (l := [0, 1, 4, 12, 13]) (by kernel_rfl) (by kernel_rfl) (.cons (dt h929) (.cons (idx_ob (f := eS_rmap_Pair) h930) (.cons (get_ob (f := eS_rmap_Pair) h931) (.cons (idx_ob (f := eS_rmap_Pair) h932) (.cons (get_ob (f := eS_rmap_Pair) h933) (.cons (v_cmp1076_h v_y1131 v_y1132 _ h934) (.cons (df h935) .nil))))))) q
        · rw [if_neg h932] at h; cases h
      · rw [if_neg h930] at h; cases h
    · rw [if_neg h929] at h
      cases h
      exact pkk_sound TTok mix hF 8 (hs := [.t false, .c, .c, .c, .c, .c, .c, .c, .c, .c, .c, .c]) (ts := []) (s := [0, 1]) (l := [0, 1, 4, 12, 13]) (by kernel_rfl) (by kernel_rfl) (.cons (df h929) .nil) q
inductive G_slices_partitionCmpFunc_rmap_Pair_h_L4_R where
  | x0 (v_j1149 : Int) (v_w1150 : (List S_rmap_Pair))
def G_slices_partitionCmpFunc_rmap_Pair_h_L4_ex : G_slices_partitionCmpFunc_rmap_Pair_h_L4_R → Ex
  | .x0 _ _ => .exit 8
def G_slices_partitionCmpFunc_rmap_Pair_h_L4_st (v_a1073 : Int) (v_cmp1076 : (S_rmap_Pair → S_rmap_Pair → Option (Int))) (v_z1139 : Int) (v_cmp1076_g : FuncId) (v_cmp1076_c : (List PV)) : G_slices_partitionCmpFunc_rmap_Pair_h_L4_R → PS
  | .x0 v_j1149 v_w1150 => ⟨(.srf 1 :: .d (.v (.int .i64 v_a1073)) :: dd :: dd :: .d (.clo v_cmp1076_g v_cmp1076_c) :: dd :: dd :: dd :: dd :: dd :: dd :: dd :: .d (.v (.int .i64 v_z1139)) :: .d (.v (.int .i64 v_j1149)) :: (dds 164 [])), [.gh 0 (.srf 1), .row 24 3 (v_w1150.map eS_rmap_Pair)]⟩
def G_slices_partitionCmpFunc_rmap_Pair_h_L4_hd (v_a1073 : Int) (v_cmp1076 : (S_rmap_Pair → S_rmap_Pair → Option (Int))) (v_z1139 : Int) (v_cmp1076_g : FuncId) (v_cmp1076_c : (List PV)) (v_j1141 : Int) (v_w1142 : (List S_rmap_Pair)) : PS := ⟨(.srf 1 :: .d (.v (.int .i64 v_a1073)) :: dd :: dd :: .d (.clo v_cmp1076_g v_cmp1076_c) :: dd :: dd :: dd :: dd :: dd :: dd :: dd :: .d (.v (.int .i64 v_z1139)) :: .d (.v (.int .i64 v_j1141)) :: (dds 164 [])), [.gh 0 (.srf 1), .row 24 3 (v_w1142.map eS_rmap_Pair)]⟩
def G_slices_partitionCmpFunc_rmap_Pair_h_L4 (n : Nat) (v_a1073 : Int) (v_cmp1076 : (S_rmap_Pair → S_rmap_Pair → Option (Int))) (v_z1139 : Int) : Nat → Int → (List S_rmap_Pair) → Option G_slices_partitionCmpFunc_rmap_Pair_h_L4_R
  | 0, _, _ => none
  | k + 1, v_j1141, v_w1142 =>
    if v_z1139 ≤ v_j1141 then
     if 0 ≤ v_j1141 ∧ (v_j1141).toNat < v_w1142.length then
      (v_w1142[(v_j1141).toNat]?).bind fun (v_y1146 : S_rmap_Pair) =>
      if 0 ≤ v_a1073 ∧ (v_a1073).toNat < v_w1142.length then
       (v_w1142[(v_a1073).toNat]?).bind fun (v_y1147 : S_rmap_Pair) =>
       (v_cmp1076 v_y1146 v_y1147).bind fun (v_r1148 : (Int)) =>
       if v_r1148 < 0 then
        some (.x0 v_j1141 v_w1142)
       else
        G_slices_partitionCmpFunc_rmap_Pair_h_L4 n v_a1073 v_cmp1076 v_z1139 k (wi .i64 (v_j1141 - 1)) v_w1142
      else none
     else none
    else
     some (.x0 v_j1141 v_w1142)
theorem G_slices_partitionCmpFunc_rmap_Pair_h_L4_ok {Fi : Ex → PS → Prop} (hF : KC 178 Fi) (ks : List Fr) (n : Nat) (v_a1073 : Int) (v_cmp1076 : (S_rmap_Pair → S_rmap_Pair → Option (Int))) (v_z1139 : Int) (v_cmp1076_g : FuncId) (v_cmp1076_c : (List PV)) (v_cmp1076_h : ∀ (x0 : S_rmap_Pair) (x1 : S_rmap_Pair) (r : Int), v_cmp1076 x0 x1 = some r → Ret Try.prog v_cmp1076_g ([eS_rmap_Pair x0, eS_rmap_Pair x1] ++ v_cmp1076_c) ((eI .i64) r)) : ∀ (k : Nat) (v_j1141 : Int) (v_w1142 : (List S_rmap_Pair)) (o : G_slices_partitionCmpFunc_rmap_Pair_h_L4_R), G_slices_partitionCmpFunc_rmap_Pair_h_L4 n v_a1073 v_cmp1076 v_z1139 k v_j1141 v_w1142 = some o → RunE Try.prog 178 Fi ks (G_slices_partitionCmpFunc_rmap_Pair_h_L4_ex o) (G_slices_partitionCmpFunc_rmap_Pair_h_L4_st v_a1073 v_cmp1076 v_z1139 v_cmp1076_g v_cmp1076_c o) → RunE Try.prog 178 Fi (.l k (cP (cB (cL (cR (cB (cP (cB (cL (cR (cR (cR (cR (cR (cR (cR (cR (cR (bodyOf Try.f46)))))))))))))))))) :: ks) .normal (G_slices_partitionCmpFunc_rmap_Pair_h_L4_hd v_a1073 v_cmp1076 v_z1139 v_cmp1076_g v_cmp1076_c v_j1141 v_w1142)
  | 0, v_j1141, v_w1142, o, h, q => by rw [G_slices_partitionCmpFunc_rmap_Pair_h_L4] at h; cases h
  | k + 1, v_j1141, v_w1142, o, h, q => by
    rw [G_slices_partitionCmpFunc_rmap_Pair_h_L4] at h
    by_cases h943 : v_z1139 ≤ v_j1141
    · rw [if_pos h943] at h
      by_cases h944 : 0 ≤ v_j1141 ∧ (v_j1141).toNat < v_w1142.length
      · rw [if_pos h944] at h
        obtain ⟨v_y1146, h945, h⟩ := bind_some h
        by_cases h946 : 0 ≤ v_a1073 ∧ (v_a1073).toNat < v_w1142.length
        · rw [if_pos h946] at h
          obtain ⟨v_y1147, h947, h⟩ := bind_some h
          obtain ⟨v_r1148, h948, h⟩ := bind_some h
          by_cases h949 : v_r1148 < 0
          · rw [if_pos h949] at h
            cases h
            exact pkk_sound TTok mix hF 8 (hs := [.t true, .c, .c, .c, .c, .y (eS_rmap_Pair v_y1146), .c, .c, .c, .c, .y (eS_rmap_Pair v_y1147), .c, .r ((eI .i64) v_r1148), .c, .c, .t false]) (ts := []) (s := [0, 1]) (l := [0, 1, 4, 12, 13]) (by kernel_rfl) (by kernel_rfl) (.cons (dt h943) (.cons (idx_ob (f := eS_rmap_Pair) h944) (.cons (get_ob (f := eS_rmap_Pair) h945) (.cons (idx_ob (f := eS_rmap_Pair) h946) (.cons (get_ob (f := eS_rmap_Pair) h947) (.cons (v_cmp1076_h v_y1146 v_y1147 _ h948) (.cons (bnf (dt h949)) .nil))))))) q
          · rw [if_neg h949] at h
            exact pkk_sound TTok mix hF 9 (hs := [.t true, .c, .c, .c, .c, .y (eS_rmap_Pair v_y1146), .c, .c, .c, .c, .y (eS_rmap_Pair v_y1147), .c, .r ((eI .i64) v_r1148), .c, .c, .t true]) (ts := []) (s := [0, 1]) (l := [0, 1, 4, 12, 13]) (by kernel_rfl) (by kernel_rfl) (.cons (dt h943) (.cons (idx_ob (f := eS_rmap_Pair) h944) (.cons (get_ob (f := eS_rmap_Pair) h945) (.cons (idx_ob (f := eS_rmap_Pair) h946) (.cons (get_ob (f := eS_rmap_Pair) h947) (.cons (v_cmp1076_h v_y1146 v_y1147 _ h948) (.cons (bnt (df h949)) .nil))))))) (G_slices_partitionCmpFunc_rmap_Pair_h_L4_ok hF ks n v_a1073 v_cmp1076 v_z1139 v_cmp1076_g v_cmp1076_c v_cmp1076_h k (wi .i64 (v_j1141 - 1)) v_w1142 _ h q)
        · rw [if_neg h946] at h; cases h
      · rw [if_neg h944] at h; cases h
    · rw [if_neg h943] at h
      cases h
      exact pkk_sound TTok mix hF 8 (hs := [.t false, .c, .c, .c, .c, .c, .c, .c, .c, .c, .c, .c, .c]) (ts := []) (s := [0, 1]) (l := [0, 1, 4, 12, 13]) (by kernel_rfl) (by kernel_rfl) (.cons (df h943) .nil) q
inductive G_slices_partitionCmpFunc_rmap_Pair_h_L5_R where
  | x0 (v_j1156 : Int) (v_w1157 : (List S_rmap_Pair))
def G_slices_partitionCmpFunc_rmap_Pair_h_L5_ex : G_slices_partitionCmpFunc_rmap_Pair_h_L5_R → Ex
  | .x0 _ _ => .exit 4
def G_slices_partitionCmpFunc_rmap_Pair_h_L5_st (v_a1073 : Int) (v_cmp1076 : (S_rmap_Pair → S_rmap_Pair → Option (Int))) (v_cmp1076_g : FuncId) (v_cmp1076_c : (List PV)) : G_slices_partitionCmpFunc_rmap_Pair_h_L5_R → PS
  | .x0 v_j1156 v_w1157 => ⟨(.srf 1 :: .d (.v (.int .i64 v_a1073)) :: (dds 11 (.d (.v (.int .i64 v_j1156)) :: (dds 164 [])))), [.gh 0 (.srf 1), .row 24 3 (v_w1157.map eS_rmap_Pair)]⟩
def G_slices_partitionCmpFunc_rmap_Pair_h_L5_hd (v_a1073 : Int) (v_cmp1076 : (S_rmap_Pair → S_rmap_Pair → Option (Int))) (v_cmp1076_g : FuncId) (v_cmp1076_c : (List PV)) (v_i1123 : Int) (v_j1124 : Int) (v_w1125 : (List S_rmap_Pair)) : PS := ⟨(.srf 1 :: .d (.v (.int .i64 v_a1073)) :: dd :: dd :: .d (.clo v_cmp1076_g v_cmp1076_c) :: dd :: dd :: dd :: dd :: dd :: dd :: dd :: .d (.v (.int .i64 v_i1123)) :: .d (.v (.int .i64 v_j1124)) :: (dds 164 [])), [.gh 0 (.srf 1), .row 24 3 (v_w1125.map eS_rmap_Pair)]⟩
def G_slices_partitionCmpFunc_rmap_Pair_h_L5 (n : Nat) (v_a1073 : Int) (v_cmp1076 : (S_rmap_Pair → S_rmap_Pair → Option (Int))) : Nat → Int → Int → (List S_rmap_Pair) → Option G_slices_partitionCmpFunc_rmap_Pair_h_L5_R
  | 0, _, _, _ => none
  | k + 1, v_i1123, v_j1124, v_w1125 =>
    (G_slices_partitionCmpFunc_rmap_Pair_h_L3 n v_a1073 v_cmp1076 v_j1124 n v_i1123 v_w1125).bind fun v_o1138 => match v_o1138 with
    | .x0 v_z1139 v_z1140 =>
      (G_slices_partitionCmpFunc_rmap_Pair_h_L4 n v_a1073 v_cmp1076 v_z1139 n v_j1124 v_z1140).bind fun v_o1153 => match v_o1153 with
      | .x0 v_z1154 v_z1155 =>
        if v_z1139 > v_z1154 then
         some (.x0 v_z1154 v_z1155)
        else
         if 0 ≤ v_z1154 ∧ (v_z1154).toNat < v_z1155.length then
          (v_z1155[(v_z1154).toNat]?).bind fun (v_y1158 : S_rmap_Pair) =>
          if 0 ≤ v_z1139 ∧ (v_z1139).toNat < v_z1155.length then
           (v_z1155[(v_z1139).toNat]?).bind fun (v_y1159 : S_rmap_Pair) =>
           if 0 ≤ v_z1139 ∧ (v_z1139).toNat < v_z1155.length then
            (v_z1155[(v_z1139).toNat]?).bind fun (v_y1160 : S_rmap_Pair) =>
            if 0 ≤ v_z1154 ∧ (v_z1154).toNat < (v_z1155.set (v_z1139).toNat v_y1158).length then
             ((v_z1155.set (v_z1139).toNat v_y1158)[(v_z1154).toNat]?).bind fun (v_y1161 : S_rmap_Pair) =>
             G_slices_partitionCmpFunc_rmap_Pair_h_L5 n v_a1073 v_cmp1076 k (wi .i64 (v_z1139 + 1)) (wi .i64 (v_z1154 - 1)) ((v_z1155.set (v_z1139).toNat v_y1158).set (v_z1154).toNat v_y1159)
            else none
           else none
          else none
         else none
theorem G_slices_partitionCmpFunc_rmap_Pair_h_L5_ok {Fi : Ex → PS → Prop} (hF : KC 178 Fi) (ks : List Fr) (n : Nat) (v_a1073 : Int) (v_cmp1076 : (S_rmap_Pair → S_rmap_Pair → Option (Int))) (v_cmp1076_g : FuncId) (v_cmp1076_c : (List PV)) (v_cmp1076_h : ∀ (x0 : S_rmap_Pair) (x1 : S_rmap_Pair) (r : Int), v_cmp1076 x0 x1 = some r → Ret Try.prog v_cmp1076_g ([eS_rmap_Pair x0, eS_rmap_Pair x1] ++ v_cmp1076_c) ((eI .i64) r)) : ∀ (k : Nat) (v_i1123 : Int) (v_j1124 : Int) (v_w1125 : (List S_rmap_Pair)) (o : G_slices_partitionCmpFunc_rmap_Pair_h_L5_R), G_slices_partitionCmpFunc_rmap_Pair_h_L5 n v_a1073 v_cmp1076 k v_i1123 v_j1124 v_w1125 = some o → RunE Try.prog 178 Fi ks (G_slices_partitionCmpFunc_rmap_Pair_h_L5_ex o) (G_slices_partitionCmpFunc_rmap_Pair_h_L5_st v_a1073 v_cmp1076 v_cmp1076_g v_cmp1076_c o) → RunE Try.prog 178 Fi (.l k (cP (cB (cL (cR (cR (cR (cR (cR (cR (cR (cR (cR (bodyOf Try.f46))))))))))))) :: ks) .normal (G_slices_partitionCmpFunc_rmap_Pair_h_L5_hd v_a1073 v_cmp1076 v_cmp1076_g v_cmp1076_c v_i1123 v_j1124 v_w1125)
  | 0, v_i1123, v_j1124, v_w1125, o, h, q => by rw [G_slices_partitionCmpFunc_rmap_Pair_h_L5] at h; cases h
  | k + 1, v_i1123, v_j1124, v_w1125, o, h, q => by
    rw [G_slices_partitionCmpFunc_rmap_Pair_h_L5] at h
    obtain ⟨v_o1138, h936, h⟩ := bind_some h
    refine pkk_sound TTok mix hF 5 (hs := [.n n]) (ts := []) (s := [0, 1]) (l := [0, 1, 4, 12, 13]) (by kernel_rfl) (by kernel_rfl) .nil (G_slices_partitionCmpFunc_rmap_Pair_h_L3_ok hF (.b 6 :: .s (cR (cB (cP (cB (cL (cR (cR (cR (cR (cR (cR (cR (cR (cR (bodyOf Try.f46))))))))))))))) :: .b 5 :: .l k (cP (cB (cL (cR (cR (cR (cR (cR (cR (cR (cR (cR (bodyOf Try.f46))))))))))))) :: ks) n v_a1073 v_cmp1076 v_j1124 v_cmp1076_g v_cmp1076_c v_cmp1076_h n v_i1123 v_w1125 _ h936 ?_)
    cases v_o1138 with
    | x0 v_z1139 v_z1140 =>
      try dsimp only at h
      obtain ⟨v_o1153, h950, h⟩ := bind_some h
      refine pkk_sound TTok mix hF 4 (hs := [.n n]) (ts := []) (s := [0, 1]) (l := [0, 1, 4, 12, 13]) (by kernel_rfl) (by kernel_rfl) .nil (G_slices_partitionCmpFunc_rmap_Pair_h_L4_ok hF (.b 8 :: .s (cR (cR (cB (cP (cB (cL (cR (cR (cR (cR (cR (cR (cR (cR (cR (bodyOf Try.f46)))))))))))))))) :: .b 5 :: .l k (cP (cB (cL (cR (cR (cR (cR (cR (cR (cR (cR (cR (bodyOf Try.f46))))))))))))) :: ks) n v_a1073 v_cmp1076 v_z1139 v_cmp1076_g v_cmp1076_c v_cmp1076_h n v_j1124 v_z1140 _ h950 ?_)
      cases v_o1153 with
      | x0 v_z1154 v_z1155 =>
        try dsimp only at h
        by_cases h951 : v_z1139 > v_z1154
        · rw [if_pos h951] at h
          cases h
          exact pkk_sound TTok mix hF 9 (hs := [.t true]) (ts := []) (s := [0, 1]) (l := [0, 1, 13]) (by kernel_rfl) (by kernel_rfl) (.cons (dt h951) .nil) q
        · rw [if_neg h951] at h
          by_cases h952 : 0 ≤ v_z1154 ∧ (v_z1154).toNat < v_z1155.length
          · rw [if_pos h952] at h
            obtain ⟨v_y1158, h953, h⟩ := bind_some h
            by_cases h954 : 0 ≤ v_z1139 ∧ (v_z1139).toNat < v_z1155.length
            · rw [if_pos h954] at h
              obtain ⟨v_y1159, h955, h⟩ := bind_some h
              by_cases h956 : 0 ≤ v_z1139 ∧ (v_z1139).toNat < v_z1155.length
              · rw [if_pos h956] at h
                obtain ⟨v_y1160, h957, h⟩ := bind_some h
                by_cases h958 : 0 ≤ v_z1154 ∧ (v_z1154).toNat < (v_z1155.set (v_z1139).toNat v_y1158).length
                · rw [if_pos h958] at h
                  obtain ⟨v_y1161, h959, h⟩ := bind_some h
                  exact pkk_sound TTok mix hF 12 (hs := [.t false, .y (eS_rmap_Pair v_y1158), .y (eS_rmap_Pair v_y1159), .w ((v_z1155.set (v_z1139).toNat v_y1158).map eS_rmap_Pair), .y (eS_rmap_Pair v_y1160), .w (((v_z1155.set (v_z1139).toNat v_y1158).set (v_z1154).toNat v_y1159).map eS_rmap_Pair), .y (eS_rmap_Pair v_y1161)]) (ts := []) (s := [0, 1]) (l := [0, 1, 4, 12, 13]) (by kernel_rfl) (by kernel_rfl) (.cons (df h951) (.cons (idx_ob (f := eS_rmap_Pair) h952) (.cons (get_ob (f := eS_rmap_Pair) h953) (.cons (idx_ob (f := eS_rmap_Pair) h954) (.cons (get_ob (f := eS_rmap_Pair) h955) (.cons (idx_ob (f := eS_rmap_Pair) h956) (.cons (get_ob (f := eS_rmap_Pair) h957) (.cons (Eq.refl (pcells (.agg [.v (.int .i64 v_y1158.fFrame), .v (.int .i64 v_y1158.fSpace), .v (.int .i64 v_y1158.fPage)]))) (.cons (set_ob (f := eS_rmap_Pair) (l := v_z1155) (k := (v_z1139).toNat) (z := v_y1158) (p := .agg [.v (.int .i64 v_y1158.fFrame), .v (.int .i64 v_y1158.fSpace), .v (.int .i64 v_y1158.fPage)]) rfl) (.cons (idx_ob (f := eS_rmap_Pair) h958) (.cons (get_ob (f := eS_rmap_Pair) h959) (.cons (Eq.refl (pcells (.agg [.v (.int .i64 v_y1159.fFrame), .v (.int .i64 v_y1159.fSpace), .v (.int .i64 v_y1159.fPage)]))) (.cons (set_ob (f := eS_rmap_Pair) (l := (v_z1155.set (v_z1139).toNat v_y1158)) (k := (v_z1154).toNat) (z := v_y1159) (p := .agg [.v (.int .i64 v_y1159.fFrame), .v (.int .i64 v_y1159.fSpace), .v (.int .i64 v_y1159.fPage)]) rfl) .nil))))))))))))) (G_slices_partitionCmpFunc_rmap_Pair_h_L5_ok hF ks n v_a1073 v_cmp1076 v_cmp1076_g v_cmp1076_c v_cmp1076_h k (wi .i64 (v_z1139 + 1)) (wi .i64 (v_z1154 - 1)) ((v_z1155.set (v_z1139).toNat v_y1158).set (v_z1154).toNat v_y1159) _ h q)
                · rw [if_neg h958] at h; cases h
              · rw [if_neg h956] at h; cases h
            · rw [if_neg h954] at h; cases h
          · rw [if_neg h952] at h; cases h
/- slices.partitionCmpFunc[ringhall/rmap.Pair] -/
def G_slices_partitionCmpFunc_rmap_Pair_h (n : Nat) (v_data1072 : (List S_rmap_Pair)) (v_a1073 : Int) (v_b1074 : Int) (v_pivot1075 : Int) (v_cmp1076 : (S_rmap_Pair → S_rmap_Pair → Option (Int))) : Option (Int × Bool × (List S_rmap_Pair)) :=
  if 0 ≤ v_pivot1075 ∧ (v_pivot1075).toNat < v_data1072.length then
   (v_data1072[(v_pivot1075).toNat]?).bind fun (v_y1077 : S_rmap_Pair) =>
   if 0 ≤ v_a1073 ∧ (v_a1073).toNat < v_data1072.length then
    (v_data1072[(v_a1073).toNat]?).bind fun (v_y1078 : S_rmap_Pair) =>
    if 0 ≤ v_a1073 ∧ (v_a1073).toNat < v_data1072.length then
     (v_data1072[(v_a1073).toNat]?).bind fun (v_y1079 : S_rmap_Pair) =>
     if 0 ≤ v_pivot1075 ∧ (v_pivot1075).toNat < (v_data1072.set (v_a1073).toNat v_y1077).length then
      ((v_data1072.set (v_a1073).toNat v_y1077)[(v_pivot1075).toNat]?).bind fun (v_y1080 : S_rmap_Pair) =>
      (G_slices_partitionCmpFunc_rmap_Pair_h_L1 n v_a1073 v_cmp1076 v_b1074 n (wi .i64 (v_a1073 + 1)) ((v_data1072.set (v_a1073).toNat v_y1077).set (v_pivot1075).toNat v_y1078)).bind fun v_o1093 => match v_o1093 with
      | .x0 v_z1094 v_z1095 =>
        (G_slices_partitionCmpFunc_rmap_Pair_h_L2 n v_a1073 v_cmp1076 v_z1094 n (wi .i64 (v_b1074 - 1)) v_z1095).bind fun v_o1108 => match v_o1108 with
        | .x0 v_z1109 v_z1110 =>
          if v_z1094 > v_z1109 then
           if 0 ≤ v_a1073 ∧ (v_a1073).toNat < v_z1110.length then
            (v_z1110[(v_a1073).toNat]?).bind fun (v_y1115 : S_rmap_Pair) =>
            if 0 ≤ v_z1109 ∧ (v_z1109).toNat < v_z1110.length then
             (v_z1110[(v_z1109).toNat]?).bind fun (v_y1116 : S_rmap_Pair) =>
             if 0 ≤ v_z1109 ∧ (v_z1109).toNat < v_z1110.length then
              (v_z1110[(v_z1109).toNat]?).bind fun (v_y1117 : S_rmap_Pair) =>
              if 0 ≤ v_a1073 ∧ (v_a1073).toNat < (v_z1110.set (v_z1109).toNat v_y1115).length then
               ((v_z1110.set (v_z1109).toNat v_y1115)[(v_a1073).toNat]?).bind fun (v_y1118 : S_rmap_Pair) =>
               some (v_z1109, true, ((v_z1110.set (v_z1109).toNat v_y1115).set (v_a1073).toNat v_y1116))
              else none
             else none
            else none
           else none
          else
           if 0 ≤ v_z1109 ∧ (v_z1109).toNat < v_z1110.length then
            (v_z1110[(v_z1109).toNat]?).bind fun (v_y1119 : S_rmap_Pair) =>
            if 0 ≤ v_z1094 ∧ (v_z1094).toNat < v_z1110.length then
             (v_z1110[(v_z1094).toNat]?).bind fun (v_y1120 : S_rmap_Pair) =>
             if 0 ≤ v_z1094 ∧ (v_z1094).toNat < v_z1110.length then
              (v_z1110[(v_z1094).toNat]?).bind fun (v_y1121 : S_rmap_Pair) =>
              if 0 ≤ v_z1109 ∧ (v_z1109).toNat < (v_z1110.set (v_z1094).toNat v_y1119).length then
               ((v_z1110.set (v_z1094).toNat v_y1119)[(v_z1109).toNat]?).bind fun (v_y1122 : S_rmap_Pair) =>
               (G_slices_partitionCmpFunc_rmap_Pair_h_L5 n v_a1073 v_cmp1076 n (wi .i64 (v_z1094 + 1)) (wi .i64 (v_z1109 - 1)) ((v_z1110.set (v_z1094).toNat v_y1119).set (v_z1109).toNat v_y1120)).bind fun v_o1162 => match v_o1162 with
               | .x0 v_z1163 v_z1164 =>
                 if 0 ≤ v_a1073 ∧ (v_a1073).toNat < v_z1164.length then
                  (v_z1164[(v_a1073).toNat]?).bind fun (v_y1165 : S_rmap_Pair) =>
                  if 0 ≤ v_z1163 ∧ (v_z1163).toNat < v_z1164.length then
                   (v_z1164[(v_z1163).toNat]?).bind fun (v_y1166 : S_rmap_Pair) =>
                   if 0 ≤ v_z1163 ∧ (v_z1163).toNat < v_z1164.length then
                    (v_z1164[(v_z1163).toNat]?).bind fun (v_y1167 : S_rmap_Pair) =>
                    if 0 ≤ v_a1073 ∧ (v_a1073).toNat < (v_z1164.set (v_z1163).toNat v_y1165).length then
                     ((v_z1164.set (v_z1163).toNat v_y1165)[(v_a1073).toNat]?).bind fun (v_y1168 : S_rmap_Pair) =>
                     some (v_z1163, false, ((v_z1164.set (v_z1163).toNat v_y1165).set (v_a1073).toNat v_y1166))
                    else none
                   else none
                  else none
                 else none
              else none
             else none
            else none
           else none
     else none
    else none
   else none
  else none
theorem G_slices_partitionCmpFunc_rmap_Pair_h_ok (n : Nat) (v_data1072 : (List S_rmap_Pair)) (v_a1073 : Int) (v_b1074 : Int) (v_pivot1075 : Int) (v_cmp1076 : (S_rmap_Pair → S_rmap_Pair → Option (Int))) (v_cmp1076_g : FuncId) (v_cmp1076_c : List PV) (v_cmp1076_h : ∀ (x0 : S_rmap_Pair) (x1 : S_rmap_Pair) (r : Int), v_cmp1076 x0 x1 = some r → Ret Try.prog v_cmp1076_g ([eS_rmap_Pair x0, eS_rmap_Pair x1] ++ v_cmp1076_c) ((eI .i64) r)) (r : Int × Bool × (List S_rmap_Pair)) (h : G_slices_partitionCmpFunc_rmap_Pair_h n v_data1072 v_a1073 v_b1074 v_pivot1075 v_cmp1076 = some r) : RetH Try.prog 46 [.srf 0, .d ((eI .i64) v_a1073), .d ((eI .i64) v_b1074), .d ((eI .i64) v_pivot1075), .d ((.clo v_cmp1076_g v_cmp1076_c))] [.row 24 3 (v_data1072.map eS_rmap_Pair)] (.tup [.d ((eI .i64) r.1), .d (eB r.2.1)]) [.row 24 3 (r.2.2.map eS_rmap_Pair)] := by
  refine retH_run (n := 178) (fn := Try.f46) (c := bodyOf Try.f46) (by kernel_rfl) (by kernel_rfl) (by kernel_rfl) (by kernel_rfl) ?_
  have hF : KC 178 (FinH Try.prog Try.f46 [.row 24 3 (v_data1072.map eS_rmap_Pair)] (.tup [.d ((eI .i64) r.1), .d (eB r.2.1)]) [.row 24 3 (r.2.2.map eS_rmap_Pair)]) := FinH.kc' (by kernel_rfl)
  unfold G_slices_partitionCmpFunc_rmap_Pair_h at h
  by_cases h861 : 0 ≤ v_pivot1075 ∧ (v_pivot1075).toNat < v_data1072.length
  · rw [if_pos h861] at h
    obtain ⟨v_y1077, h862, h⟩ := bind_some h
    by_cases h863 : 0 ≤ v_a1073 ∧ (v_a1073).toNat < v_data1072.length
    · rw [if_pos h863] at h
      obtain ⟨v_y1078, h864, h⟩ := bind_some h
      by_cases h865 : 0 ≤ v_a1073 ∧ (v_a1073).toNat < v_data1072.length
      · rw [if_pos h865] at h
        obtain ⟨v_y1079, h866, h⟩ := bind_some h
        by_cases h867 : 0 ≤ v_pivot1075 ∧ (v_pivot1075).toNat < (v_data1072.set (v_a1073).toNat v_y1077).length
        · rw [if_pos h867] at h
          obtain ⟨v_y1080, h868, h⟩ := bind_some h
          obtain ⟨v_o1093, h882, h⟩ := bind_some h
          refine pkk_sound TTok mix hF 9 (hs := [.y (eS_rmap_Pair v_y1077), .y (eS_rmap_Pair v_y1078), .w ((v_data1072.set (v_a1073).toNat v_y1077).map eS_rmap_Pair), .y (eS_rmap_Pair v_y1079), .w (((v_data1072.set (v_a1073).toNat v_y1077).set (v_pivot1075).toNat v_y1078).map eS_rmap_Pair), .y (eS_rmap_Pair v_y1080), .n n]) (ts := []) (s := [1, 0]) (l := [0, 1, 4, 12, 13]) (by kernel_rfl) (by kernel_rfl) (.cons (idx_ob (f := eS_rmap_Pair) h861) (.cons (get_ob (f := eS_rmap_Pair) h862) (.cons (idx_ob (f := eS_rmap_Pair) h863) (.cons (get_ob (f := eS_rmap_Pair) h864) (.cons (idx_ob (f := eS_rmap_Pair) h865) (.cons (get_ob (f := eS_rmap_Pair) h866) (.cons (Eq.refl (pcells (.agg [.v (.int .i64 v_y1077.fFrame), .v (.int .i64 v_y1077.fSpace), .v (.int .i64 v_y1077.fPage)]))) (.cons (set_ob (f := eS_rmap_Pair) (l := v_data1072) (k := (v_a1073).toNat) (z := v_y1077) (p := .agg [.v (.int .i64 v_y1077.fFrame), .v (.int .i64 v_y1077.fSpace), .v (.int .i64 v_y1077.fPage)]) rfl) (.cons (idx_ob (f := eS_rmap_Pair) h867) (.cons (get_ob (f := eS_rmap_Pair) h868) (.cons (Eq.refl (pcells (.agg [.v (.int .i64 v_y1078.fFrame), .v (.int .i64 v_y1078.fSpace), .v (.int .i64 v_y1078.fPage)]))) (.cons (set_ob (f := eS_rmap_Pair) (l := (v_data1072.set (v_a1073).toNat v_y1077)) (k := (v_pivot1075).toNat) (z := v_y1078) (p := .agg [.v (.int .i64 v_y1078.fFrame), .v (.int .i64 v_y1078.fSpace), .v (.int .i64 v_y1078.fPage)]) rfl) .nil)))))))))))) (G_slices_partitionCmpFunc_rmap_Pair_h_L1_ok hF (.b 0 :: .s (cR (cR (cR (cR (bodyOf Try.f46))))) :: []) n v_a1073 v_cmp1076 v_b1074 v_cmp1076_g v_cmp1076_c v_cmp1076_h n (wi .i64 (v_a1073 + 1)) ((v_data1072.set (v_a1073).toNat v_y1077).set (v_pivot1075).toNat v_y1078) _ h882 ?_)
          cases v_o1093 with
          | x0 v_z1094 v_z1095 =>
            try dsimp only at h
            obtain ⟨v_o1108, h896, h⟩ := bind_some h
            refine pkk_sound TTok mix hF 4 (hs := [.n n]) (ts := []) (s := [0, 1]) (l := [0, 1, 4, 12, 13]) (by kernel_rfl) (by kernel_rfl) .nil (G_slices_partitionCmpFunc_rmap_Pair_h_L2_ok hF (.b 2 :: .s (cR (cR (cR (cR (cR (bodyOf Try.f46)))))) :: []) n v_a1073 v_cmp1076 v_z1094 v_cmp1076_g v_cmp1076_c v_cmp1076_h n (wi .i64 (v_b1074 - 1)) v_z1095 _ h896 ?_)
            cases v_o1108 with
            | x0 v_z1109 v_z1110 =>
              try dsimp only at h
              by_cases h906 : v_z1094 > v_z1109
              · rw [if_pos h906] at h
                by_cases h907 : 0 ≤ v_a1073 ∧ (v_a1073).toNat < v_z1110.length
                · rw [if_pos h907] at h
                  obtain ⟨v_y1115, h908, h⟩ := bind_some h
                  by_cases h909 : 0 ≤ v_z1109 ∧ (v_z1109).toNat < v_z1110.length
                  · rw [if_pos h909] at h
                    obtain ⟨v_y1116, h910, h⟩ := bind_some h
                    by_cases h911 : 0 ≤ v_z1109 ∧ (v_z1109).toNat < v_z1110.length
                    · rw [if_pos h911] at h
                      obtain ⟨v_y1117, h912, h⟩ := bind_some h
                      by_cases h913 : 0 ≤ v_a1073 ∧ (v_a1073).toNat < (v_z1110.set (v_z1109).toNat v_y1115).length
                      · rw [if_pos h913] at h
                        obtain ⟨v_y1118, h914, h⟩ := bind_some h
                        obtain rfl := Option.some.inj h
                        exact pendH_sound TTok mix 11 (hs := [.t true, .y (eS_rmap_Pair v_y1115), .y (eS_rmap_Pair v_y1116), .w ((v_z1110.set (v_z1109).toNat v_y1115).map eS_rmap_Pair), .y (eS_rmap_Pair v_y1117), .w (((v_z1110.set (v_z1109).toNat v_y1115).set (v_a1073).toNat v_y1116).map eS_rmap_Pair), .y (eS_rmap_Pair v_y1118)]) [1] (by kernel_rfl) (by kernel_rfl) (by kernel_rfl) (.cons (dt h906) (.cons (idx_ob (f := eS_rmap_Pair) h907) (.cons (get_ob (f := eS_rmap_Pair) h908) (.cons (idx_ob (f := eS_rmap_Pair) h909) (.cons (get_ob (f := eS_rmap_Pair) h910) (.cons (idx_ob (f := eS_rmap_Pair) h911) (.cons (get_ob (f := eS_rmap_Pair) h912) (.cons (Eq.refl (pcells (.agg [.v (.int .i64 v_y1115.fFrame), .v (.int .i64 v_y1115.fSpace), .v (.int .i64 v_y1115.fPage)]))) (.cons (set_ob (f := eS_rmap_Pair) (l := v_z1110) (k := (v_z1109).toNat) (z := v_y1115) (p := .agg [.v (.int .i64 v_y1115.fFrame), .v (.int .i64 v_y1115.fSpace), .v (.int .i64 v_y1115.fPage)]) rfl) (.cons (idx_ob (f := eS_rmap_Pair) h913) (.cons (get_ob (f := eS_rmap_Pair) h914) (.cons (Eq.refl (pcells (.agg [.v (.int .i64 v_y1116.fFrame), .v (.int .i64 v_y1116.fSpace), .v (.int .i64 v_y1116.fPage)]))) (.cons (set_ob (f := eS_rmap_Pair) (l := (v_z1110.set (v_z1109).toNat v_y1115)) (k := (v_a1073).toNat) (z := v_y1116) (p := .agg [.v (.int .i64 v_y1116.fFrame), .v (.int .i64 v_y1116.fSpace), .v (.int .i64 v_y1116.fPage)]) rfl) .nil)))))))))))))
                      · rw [if_neg h913] at h; cases h
                    · rw [if_neg h911] at h; cases h
                  · rw [if_neg h909] at h; cases h
                · rw [if_neg h907] at h; cases h
              · rw [if_neg h906] at h
                by_cases h915 : 0 ≤ v_z1109 ∧ (v_z1109).toNat < v_z1110.length
                · rw [if_pos h915] at h
                  obtain ⟨v_y1119, h916, h⟩ := bind_some h
                  by_cases h917 : 0 ≤ v_z1094 ∧ (v_z1094).toNat < v_z1110.length
                  · rw [if_pos h917] at h
                    obtain ⟨v_y1120, h918, h⟩ := bind_some h
                    by_cases h919 : 0 ≤ v_z1094 ∧ (v_z1094).toNat < v_z1110.length
                    · rw [if_pos h919] at h
                      obtain ⟨v_y1121, h920, h⟩ := bind_some h
                      by_cases h921 : 0 ≤ v_z1109 ∧ (v_z1109).toNat < (v_z1110.set (v_z1094).toNat v_y1119).length
                      · rw [if_pos h921] at h
                        obtain ⟨v_y1122, h922, h⟩ := bind_some h
                        obtain ⟨v_o1162, h960, h⟩ := bind_some h
                        refine pkk_sound TTok mix hF 15 (hs := [.t false, .y (eS_rmap_Pair v_y1119), .y (eS_rmap_Pair v_y1120), .w ((v_z1110.set (v_z1094).toNat v_y1119).map eS_rmap_Pair), .y (eS_rmap_Pair v_y1121), .w (((v_z1110.set (v_z1094).toNat v_y1119).set (v_z1109).toNat v_y1120).map eS_rmap_Pair), .y (eS_rmap_Pair v_y1122), .n n]) (ts := []) (s := [0, 1]) (l := [0, 1, 4, 12, 13]) (by kernel_rfl) (by kernel_rfl) (.cons (df h906) (.cons (idx_ob (f := eS_rmap_Pair) h915) (.cons (get_ob (f := eS_rmap_Pair) h916) (.cons (idx_ob (f := eS_rmap_Pair) h917) (.cons (get_ob (f := eS_rmap_Pair) h918) (.cons (idx_ob (f := eS_rmap_Pair) h919) (.cons (get_ob (f := eS_rmap_Pair) h920) (.cons (Eq.refl (pcells (.agg [.v (.int .i64 v_y1119.fFrame), .v (.int .i64 v_y1119.fSpace), .v (.int .i64 v_y1119.fPage)]))) (.cons (set_ob (f := eS_rmap_Pair) (l := v_z1110) (k := (v_z1094).toNat) (z := v_y1119) (p := .agg [.v (.int .i64 v_y1119.fFrame), .v (.int .i64 v_y1119.fSpace), .v (.int .i64 v_y1119.fPage)]) rfl) (.cons (idx_ob (f := eS_rmap_Pair) h921) (.cons (get_ob (f := eS_rmap_Pair) h922) (.cons (Eq.refl (pcells (.agg [.v (.int .i64 v_y1120.fFrame), .v (.int .i64 v_y1120.fSpace), .v (.int .i64 v_y1120.fPage)]))) (.cons (set_ob (f := eS_rmap_Pair) (l := (v_z1110.set (v_z1094).toNat v_y1119)) (k := (v_z1109).toNat) (z := v_y1120) (p := .agg [.v (.int .i64 v_y1120.fFrame), .v (.int .i64 v_y1120.fSpace), .v (.int .i64 v_y1120.fPage)]) rfl) .nil))))))))))))) (G_slices_partitionCmpFunc_rmap_Pair_h_L5_ok hF (.b 4 :: .s (cR (cR (cR (cR (cR (cR (cR (cR (cR (cR (bodyOf Try.f46))))))))))) :: []) n v_a1073 v_cmp1076 v_cmp1076_g v_cmp1076_c v_cmp1076_h n (wi .i64 (v_z1094 + 1)) (wi .i64 (v_z1109 - 1)) ((v_z1110.set (v_z1094).toNat v_y1119).set (v_z1109).toNat v_y1120) _ h960 ?_)
                        cases v_o1162 with
                        | x0 v_z1163 v_z1164 =>
                          try dsimp only at h
                          by_cases h961 : 0 ≤ v_a1073 ∧ (v_a1073).toNat < v_z1164.length
                          · rw [if_pos h961] at h
                            obtain ⟨v_y1165, h962, h⟩ := bind_some h
                            by_cases h963 : 0 ≤ v_z1163 ∧ (v_z1163).toNat < v_z1164.length
                            · rw [if_pos h963] at h
                              obtain ⟨v_y1166, h964, h⟩ := bind_some h
                              by_cases h965 : 0 ≤ v_z1163 ∧ (v_z1163).toNat < v_z1164.length
                              · rw [if_pos h965] at h
                                obtain ⟨v_y1167, h966, h⟩ := bind_some h
                                by_cases h967 : 0 ≤ v_a1073 ∧ (v_a1073).toNat < (v_z1164.set (v_z1163).toNat v_y1165).length
                                · rw [if_pos h967] at h
                                  obtain ⟨v_y1168, h968, h⟩ := bind_some h
                                  obtain rfl := Option.some.inj h
                                  exact pendH_sound TTok mix 6 (hs := [.y (eS_rmap_Pair v_y1165), .y (eS_rmap_Pair v_y1166), .w ((v_z1164.set (v_z1163).toNat v_y1165).map eS_rmap_Pair), .y (eS_rmap_Pair v_y1167), .w (((v_z1164.set (v_z1163).toNat v_y1165).set (v_a1073).toNat v_y1166).map eS_rmap_Pair), .y (eS_rmap_Pair v_y1168)]) [1] (by kernel_rfl) (by kernel_rfl) (by kernel_rfl) (.cons (idx_ob (f := eS_rmap_Pair) h961) (.cons (get_ob (f := eS_rmap_Pair) h962) (.cons (idx_ob (f := eS_rmap_Pair) h963) (.cons (get_ob (f := eS_rmap_Pair) h964) (.cons (idx_ob (f := eS_rmap_Pair) h965) (.cons (get_ob (f := eS_rmap_Pair) h966) (.cons (Eq.refl (pcells (.agg [.v (.int .i64 v_y1165.fFrame), .v (.int .i64 v_y1165.fSpace), .v (.int .i64 v_y1165.fPage)]))) (.cons (set_ob (f := eS_rmap_Pair) (l := v_z1164) (k := (v_z1163).toNat) (z := v_y1165) (p := .agg [.v (.int .i64 v_y1165.fFrame), .v (.int .i64 v_y1165.fSpace), .v (.int .i64 v_y1165.fPage)]) rfl) (.cons (idx_ob (f := eS_rmap_Pair) h967) (.cons (get_ob (f := eS_rmap_Pair) h968) (.cons (Eq.refl (pcells (.agg [.v (.int .i64 v_y1166.fFrame), .v (.int .i64 v_y1166.fSpace), .v (.int .i64 v_y1166.fPage)]))) (.cons (set_ob (f := eS_rmap_Pair) (l := (v_z1164.set (v_z1163).toNat v_y1165)) (k := (v_a1073).toNat) (z := v_y1166) (p := .agg [.v (.int .i64 v_y1166.fFrame), .v (.int .i64 v_y1166.fSpace), .v (.int .i64 v_y1166.fPage)]) rfl) .nil))))))))))))
                                · rw [if_neg h967] at h; cases h
                              · rw [if_neg h965] at h; cases h
                            · rw [if_neg h963] at h; cases h
                          · rw [if_neg h961] at h; cases h
                      · rw [if_neg h921] at h; cases h
                    · rw [if_neg h919] at h; cases h
                  · rw [if_neg h917] at h; cases h
                · rw [if_neg h915] at h; cases h
        · rw [if_neg h867] at h; cases h
      · rw [if_neg h865] at h; cases h
    · rw [if_neg h863] at h; cases h
  · rw [if_neg h861] at h; cases h
inductive G_slices_pdqsortCmpFunc_rmap_Pair_h_C1_R where
  | x0 (v_limit1223 : Int) (v_w1224 : (List S_rmap_Pair))
def G_slices_pdqsortCmpFunc_rmap_Pair_h_C1_ex : G_slices_pdqsortCmpFunc_rmap_Pair_h_C1_R → Ex
  | .x0 _ _ => .normal
def G_slices_pdqsortCmpFunc_rmap_Pair_h_C1_st (v_a478 : Int) (v_b479 : Int) (v_limit480 : Int) (v_cmp477 : (S_rmap_Pair → S_rmap_Pair → Option (Int))) (v_wasBalanced481 : Bool) (v_wasPartitioned482 : Bool) (v_w483 : (List S_rmap_Pair)) (v_cmp477_g : FuncId) (v_cmp477_c : (List PV)) : G_slices_pdqsortCmpFunc_rmap_Pair_h_C1_R → PS
  | .x0 v_limit1223 v_w1224 => ⟨(.srf 1 :: .d (.v (.int .i64 v_a478)) :: .d (.v (.int .i64 v_b479)) :: .d (.v (.int .i64 v_limit1223)) :: .d (.clo v_cmp477_g v_cmp477_c) :: dd :: dd :: dd :: dd :: dd :: .d (.v (.bool v_wasBalanced481)) :: .d (.v (.bool v_wasPartitioned482)) :: .d (.v (.int .i64 (wi .i64 (v_b479 - v_a478)))) :: (dds 135 [])), [.gh 0 (.srf 1), .row 24 3 (v_w1224.map eS_rmap_Pair)]⟩
def G_slices_pdqsortCmpFunc_rmap_Pair_h_C1_hd (v_a478 : Int) (v_b479 : Int) (v_limit480 : Int) (v_cmp477 : (S_rmap_Pair → S_rmap_Pair → Option (Int))) (v_wasBalanced481 : Bool) (v_wasPartitioned482 : Bool) (v_w483 : (List S_rmap_Pair)) (v_cmp477_g : FuncId) (v_cmp477_c : (List PV))  : PS := ⟨(.srf 1 :: .d (.v (.int .i64 v_a478)) :: .d (.v (.int .i64 v_b479)) :: .d (.v (.int .i64 v_limit480)) :: .d (.clo v_cmp477_g v_cmp477_c) :: dd :: dd :: dd :: dd :: dd :: .d (.v (.bool v_wasBalanced481)) :: .d (.v (.bool v_wasPartitioned482)) :: .d (.v (.int .i64 (wi .i64 (v_b479 - v_a478)))) :: (dds 26 (.d (.v (.bool (!v_wasBalanced481))) :: (dds 108 [])))), [.gh 0 (.srf 1), .row 24 3 (v_w483.map eS_rmap_Pair)]⟩
def G_slices_pdqsortCmpFunc_rmap_Pair_h_C1 (n : Nat) (v_a478 : Int) (v_b479 : Int) (v_limit480 : Int) (v_cmp477 : (S_rmap_Pair → S_rmap_Pair → Option (Int))) (v_wasBalanced481 : Bool) (v_wasPartitioned482 : Bool) (v_w483 : (List S_rmap_Pair)) : Option G_slices_pdqsortCmpFunc_rmap_Pair_h_C1_R :=
  if v_wasBalanced481 = true then
   some (.x0 v_limit480 v_w483)
  else
   (G_slices_breakPatternsCmpFunc_rmap_Pair_h n v_w483 v_a478 v_b479 v_cmp477).bind fun (v_r1222 : ((List S_rmap_Pair))) =>
   some (.x0 (wi .i64 (v_limit480 - 1)) v_r1222)
theorem G_slices_pdqsortCmpFunc_rmap_Pair_h_C1_ok {Fi : Ex → PS → Prop} (hF : KC 148 Fi) (ks : List Fr) (n : Nat) (v_a478 : Int) (v_b479 : Int) (v_limit480 : Int) (v_cmp477 : (S_rmap_Pair → S_rmap_Pair → Option (Int))) (v_wasBalanced481 : Bool) (v_wasPartitioned482 : Bool) (v_w483 : (List S_rmap_Pair)) (v_cmp477_g : FuncId) (v_cmp477_c : (List PV)) (v_cmp477_h : ∀ (x0 : S_rmap_Pair) (x1 : S_rmap_Pair) (r : Int), v_cmp477 x0 x1 = some r → Ret Try.prog v_cmp477_g ([eS_rmap_Pair x0, eS_rmap_Pair x1] ++ v_cmp477_c) ((eI .i64) r)) (o : G_slices_pdqsortCmpFunc_rmap_Pair_h_C1_R) (h : G_slices_pdqsortCmpFunc_rmap_Pair_h_C1 n v_a478 v_b479 v_limit480 v_cmp477 v_wasBalanced481 v_wasPartitioned482 v_w483 = some o) (q : RunE Try.prog 148 Fi ks (G_slices_pdqsortCmpFunc_rmap_Pair_h_C1_ex o) (G_slices_pdqsortCmpFunc_rmap_Pair_h_C1_st v_a478 v_b479 v_limit480 v_cmp477 v_wasBalanced481 v_wasPartitioned482 v_w483 v_cmp477_g v_cmp477_c o)) : RunE Try.prog 148 Fi (.s (cR (cL (cR (cR (cR (cB (cP (cB (cR (cR (bodyOf Try.f35))))))))))) :: ks) .normal (G_slices_pdqsortCmpFunc_rmap_Pair_h_C1_hd v_a478 v_b479 v_limit480 v_cmp477 v_wasBalanced481 v_wasPartitioned482 v_w483 v_cmp477_g v_cmp477_c) := by
  unfold G_slices_pdqsortCmpFunc_rmap_Pair_h_C1 at h
  by_cases h1037 : v_wasBalanced481 = true
  · rw [if_pos h1037] at h
    cases h
    exact pkk_sound TTok mix hF 2 (hs := [.t false]) (ts := []) (s := [0, 1]) (l := [0, 1, 2, 3, 4, 10, 11, 12]) (by kernel_rfl) (by kernel_rfl) (.cons (bnf h1037) .nil) q
  · rw [if_neg h1037] at h
    obtain ⟨v_r1222, h1038, h⟩ := bind_some h
    cases h
    exact pkk_sound TTok mix hF 4 (hs := [.t true, .h [1] [] [.row 24 3 (v_r1222.map eS_rmap_Pair)] (.tup [])]) (ts := []) (s := [0, 1]) (l := [0, 1, 2, 3, 4, 10, 11, 12]) (by kernel_rfl) (by kernel_rfl) (.cons (bnt (vf h1037)) (.cons (G_slices_breakPatternsCmpFunc_rmap_Pair_h_ok n v_w483 v_a478 v_b479 v_cmp477 v_cmp477_g v_cmp477_c v_cmp477_h _ h1038) .nil)) q
inductive G_slices_pdqsortCmpFunc_rmap_Pair_h_C2_R where
  | x0 (v_pivot1233 : Int) (v_hint1234 : Int) (v_w1235 : (List S_rmap_Pair))
def G_slices_pdqsortCmpFunc_rmap_Pair_h_C2_ex : G_slices_pdqsortCmpFunc_rmap_Pair_h_C2_R → Ex
  | .x0 _ _ _ => .normal
def G_slices_pdqsortCmpFunc_rmap_Pair_h_C2_st (v_a478 : Int) (v_b479 : Int) (v_z1228 : Int) (v_cmp477 : (S_rmap_Pair → S_rmap_Pair → Option (Int))) (v_wasBalanced481 : Bool) (v_wasPartitioned482 : Bool) (v_r1230 : (Int × Int)) (v_z1229 : (List S_rmap_Pair)) (v_cmp477_g : FuncId) (v_cmp477_c : (List PV)) : G_slices_pdqsortCmpFunc_rmap_Pair_h_C2_R → PS
  | .x0 v_pivot1233 v_hint1234 v_w1235 => ⟨(.srf 1 :: .d (.v (.int .i64 v_a478)) :: .d (.v (.int .i64 v_b479)) :: .d (.v (.int .i64 v_z1228)) :: .d (.clo v_cmp477_g v_cmp477_c) :: dd :: dd :: dd :: dd :: dd :: .d (.v (.bool v_wasBalanced481)) :: .d (.v (.bool v_wasPartitioned482)) :: .d (.v (.int .i64 (wi .i64 (v_b479 - v_a478)))) :: .d (.v (.int .i64 v_pivot1233)) :: .d (.v (.int .i64 v_hint1234)) :: (dds 133 [])), [.gh 0 (.srf 1), .row 24 3 (v_w1235.map eS_rmap_Pair)]⟩
def G_slices_pdqsortCmpFunc_rmap_Pair_h_C2_hd (v_a478 : Int) (v_b479 : Int) (v_z1228 : Int) (v_cmp477 : (S_rmap_Pair → S_rmap_Pair → Option (Int))) (v_wasBalanced481 : Bool) (v_wasPartitioned482 : Bool) (v_r1230 : (Int × Int)) (v_z1229 : (List S_rmap_Pair)) (v_cmp477_g : FuncId) (v_cmp477_c : (List PV))  : PS := ⟨(.srf 1 :: .d (.v (.int .i64 v_a478)) :: .d (.v (.int .i64 v_b479)) :: .d (.v (.int .i64 v_z1228)) :: .d (.clo v_cmp477_g v_cmp477_c) :: dd :: dd :: dd :: dd :: dd :: .d (.v (.bool v_wasBalanced481)) :: .d (.v (.bool v_wasPartitioned482)) :: .d (.v (.int .i64 (wi .i64 (v_b479 - v_a478)))) :: .d (.v (.int .i64 v_r1230.1)) :: .d (.v (.int .i64 v_r1230.2)) :: (dds 41 (.d (.v (.bool (v_r1230.2 == 2))) :: (dds 91 [])))), [.gh 0 (.srf 1), .row 24 3 (v_z1229.map eS_rmap_Pair)]⟩
def G_slices_pdqsortCmpFunc_rmap_Pair_h_C2 (n : Nat) (v_a478 : Int) (v_b479 : Int) (v_z1228 : Int) (v_cmp477 : (S_rmap_Pair → S_rmap_Pair → Option (Int))) (v_wasBalanced481 : Bool) (v_wasPartitioned482 : Bool) (v_r1230 : (Int × Int)) (v_z1229 : (List S_rmap_Pair)) : Option G_slices_pdqsortCmpFunc_rmap_Pair_h_C2_R :=
  if v_r1230.2 = 2 then
   (G_slices_reverseRangeCmpFunc_rmap_Pair_h n v_z1229 v_a478 v_b479 v_cmp477).bind fun (v_r1232 : ((List S_rmap_Pair))) =>
   some (.x0 (wi .i64 ((wi .i64 (v_b479 - 1)) - (wi .i64 (v_r1230.1 - v_a478)))) 1 v_r1232)
  else
   some (.x0 v_r1230.1 v_r1230.2 v_z1229)
theorem G_slices_pdqsortCmpFunc_rmap_Pair_h_C2_ok {Fi : Ex → PS → Prop} (hF : KC 148 Fi) (ks : List Fr) (n : Nat) (v_a478 : Int) (v_b479 : Int) (v_z1228 : Int) (v_cmp477 : (S_rmap_Pair → S_rmap_Pair → Option (Int))) (v_wasBalanced481 : Bool) (v_wasPartitioned482 : Bool) (v_r1230 : (Int × Int)) (v_z1229 : (List S_rmap_Pair)) (v_cmp477_g : FuncId) (v_cmp477_c : (List PV)) (v_cmp477_h : ∀ (x0 : S_rmap_Pair) (x1 : S_rmap_Pair) (r : Int), v_cmp477 x0 x1 = some r → Ret Try.prog v_cmp477_g ([eS_rmap_Pair x0, eS_rmap_Pair x1] ++ v_cmp477_c) ((eI .i64) r)) (o : G_slices_pdqsortCmpFunc_rmap_Pair_h_C2_R) (h : G_slices_pdqsortCmpFunc_rmap_Pair_h_C2 n v_a478 v_b479 v_z1228 v_cmp477 v_wasBalanced481 v_wasPartitioned482 v_r1230 v_z1229 = some o) (q : RunE Try.prog 148 Fi ks (G_slices_pdqsortCmpFunc_rmap_Pair_h_C2_ex o) (G_slices_pdqsortCmpFunc_rmap_Pair_h_C2_st v_a478 v_b479 v_z1228 v_cmp477 v_wasBalanced481 v_wasPartitioned482 v_r1230 v_z1229 v_cmp477_g v_cmp477_c o)) : RunE Try.prog 148 Fi (.s (cR (cL (cR (cR (cR (cR (cR (cB (cP (cB (cR (cR (bodyOf Try.f35))))))))))))) :: ks) .normal (G_slices_pdqsortCmpFunc_rmap_Pair_h_C2_hd v_a478 v_b479 v_z1228 v_cmp477 v_wasBalanced481 v_wasPartitioned482 v_r1230 v_z1229 v_cmp477_g v_cmp477_c) := by
  unfold G_slices_pdqsortCmpFunc_rmap_Pair_h_C2 at h
  by_cases h1043 : v_r1230.2 = 2
  · rw [if_pos h1043] at h
    obtain ⟨v_r1232, h1044, h⟩ := bind_some h
    cases h
    exact pkk_sound TTok mix hF 6 (hs := [.t true, .h [1] [] [.row 24 3 (v_r1232.map eS_rmap_Pair)] (.tup [])]) (ts := []) (s := [0, 1]) (l := [0, 1, 2, 3, 4, 10, 11, 12, 13, 14]) (by kernel_rfl) (by kernel_rfl) (.cons (bt h1043) (.cons (G_slices_reverseRangeCmpFunc_rmap_Pair_h_ok n v_z1229 v_a478 v_b479 v_cmp477 v_cmp477_g v_cmp477_c v_cmp477_h _ h1044) .nil)) q
  · rw [if_neg h1043] at h
    cases h
    exact pkk_sound TTok mix hF 2 (hs := [.t false]) (ts := []) (s := [0, 1]) (l := [0, 1, 2, 3, 4, 10, 11, 12, 13, 14]) (by kernel_rfl) (by kernel_rfl) (.cons (bf h1043) .nil) q
inductive G_slices_pdqsortCmpFunc_rmap_Pair_h_C3_R where
  | x0 (v_w1245 : (List S_rmap_Pair))
  | x1 (v_w1246 : (List S_rmap_Pair))
def G_slices_pdqsortCmpFunc_rmap_Pair_h_C3_ex : G_slices_pdqsortCmpFunc_rmap_Pair_h_C3_R → Ex
  | .x0 _ => .ret
  | .x1 _ => .normal
def G_slices_pdqsortCmpFunc_rmap_Pair_h_C3_st (v_a478 : Int) (v_b479 : Int) (v_z1228 : Int) (v_cmp477 : (S_rmap_Pair → S_rmap_Pair → Option (Int))) (v_wasBalanced481 : Bool) (v_wasPartitioned482 : Bool) (v_z1240 : Int) (v_z1241 : Int) (v_z1242 : (List S_rmap_Pair)) (v_cmp477_g : FuncId) (v_cmp477_c : (List PV)) : G_slices_pdqsortCmpFunc_rmap_Pair_h_C3_R → PS
  | .x0 v_w1245 => ⟨(dds 148 []), [.gh 0 (.srf 1), .row 24 3 (v_w1245.map eS_rmap_Pair)]⟩
  | .x1 v_w1246 => ⟨(.srf 1 :: .d (.v (.int .i64 v_a478)) :: .d (.v (.int .i64 v_b479)) :: .d (.v (.int .i64 v_z1228)) :: .d (.clo v_cmp477_g v_cmp477_c) :: dd :: dd :: dd :: dd :: dd :: .d (.v (.bool v_wasBalanced481)) :: .d (.v (.bool v_wasPartitioned482)) :: .d (.v (.int .i64 (wi .i64 (v_b479 - v_a478)))) :: .d (.v (.int .i64 v_z1240)) :: (dds 134 [])), [.gh 0 (.srf 1), .row 24 3 (v_w1246.map eS_rmap_Pair)]⟩
def G_slices_pdqsortCmpFunc_rmap_Pair_h_C3_hd (v_a478 : Int) (v_b479 : Int) (v_z1228 : Int) (v_cmp477 : (S_rmap_Pair → S_rmap_Pair → Option (Int))) (v_wasBalanced481 : Bool) (v_wasPartitioned482 : Bool) (v_z1240 : Int) (v_z1241 : Int) (v_z1242 : (List S_rmap_Pair)) (v_cmp477_g : FuncId) (v_cmp477_c : (List PV))  : PS := ⟨(.srf 1 :: .d (.v (.int .i64 v_a478)) :: .d (.v (.int .i64 v_b479)) :: .d (.v (.int .i64 v_z1228)) :: .d (.clo v_cmp477_g v_cmp477_c) :: dd :: dd :: dd :: dd :: dd :: .d (.v (.bool v_wasBalanced481)) :: .d (.v (.bool v_wasPartitioned482)) :: .d (.v (.int .i64 (wi .i64 (v_b479 - v_a478)))) :: .d (.v (.int .i64 v_z1240)) :: (dds 61 (.d (.v (.bool (v_z1241 == 1))) :: (dds 72 [])))), [.gh 0 (.srf 1), .row 24 3 (v_z1242.map eS_rmap_Pair)]⟩
def G_slices_pdqsortCmpFunc_rmap_Pair_h_C3 (n : Nat) (v_a478 : Int) (v_b479 : Int) (v_z1228 : Int) (v_cmp477 : (S_rmap_Pair → S_rmap_Pair → Option (Int))) (v_wasBalanced481 : Bool) (v_wasPartitioned482 : Bool) (v_z1240 : Int) (v_z1241 : Int) (v_z1242 : (List S_rmap_Pair)) : Option G_slices_pdqsortCmpFunc_rmap_Pair_h_C3_R :=
  if v_z1241 = 1 then
   (G_slices_partialInsertionSortCmpFunc_rmap_Pair_h n v_z1242 v_a478 v_b479 v_cmp477).bind fun (v_r1244 : (Bool × (List S_rmap_Pair))) =>
   if v_r1244.1 = true then
    some (.x0 v_r1244.2)
   else
    some (.x1 v_r1244.2)
  else
   some (.x1 v_z1242)
theorem G_slices_pdqsortCmpFunc_rmap_Pair_h_C3_ok {Fi : Ex → PS → Prop} (hF : KC 148 Fi) (ks : List Fr) (n : Nat) (v_a478 : Int) (v_b479 : Int) (v_z1228 : Int) (v_cmp477 : (S_rmap_Pair → S_rmap_Pair → Option (Int))) (v_wasBalanced481 : Bool) (v_wasPartitioned482 : Bool) (v_z1240 : Int) (v_z1241 : Int) (v_z1242 : (List S_rmap_Pair)) (v_cmp477_g : FuncId) (v_cmp477_c : (List PV)) (v_cmp477_h : ∀ (x0 : S_rmap_Pair) (x1 : S_rmap_Pair) (r : Int), v_cmp477 x0 x1 = some r → Ret Try.prog v_cmp477_g ([eS_rmap_Pair x0, eS_rmap_Pair x1] ++ v_cmp477_c) ((eI .i64) r)) (o : G_slices_pdqsortCmpFunc_rmap_Pair_h_C3_R) (h : G_slices_pdqsortCmpFunc_rmap_Pair_h_C3 n v_a478 v_b479 v_z1228 v_cmp477 v_wasBalanced481 v_wasPartitioned482 v_z1240 v_z1241 v_z1242 = some o) (q : RunE Try.prog 148 Fi ks (G_slices_pdqsortCmpFunc_rmap_Pair_h_C3_ex o) (G_slices_pdqsortCmpFunc_rmap_Pair_h_C3_st v_a478 v_b479 v_z1228 v_cmp477 v_wasBalanced481 v_wasPartitioned482 v_z1240 v_z1241 v_z1242 v_cmp477_g v_cmp477_c o)) : RunE Try.prog 148 Fi (.s (cR (cL (cR (cR (cR (cR (cR (cR (cB (cP (cB (cR (cR (bodyOf Try.f35)))))))))))))) :: ks) .normal (G_slices_pdqsortCmpFunc_rmap_Pair_h_C3_hd v_a478 v_b479 v_z1228 v_cmp477 v_wasBalanced481 v_wasPartitioned482 v_z1240 v_z1241 v_z1242 v_cmp477_g v_cmp477_c) := by
  unfold G_slices_pdqsortCmpFunc_rmap_Pair_h_C3 at h
  by_cases h1051 : v_z1241 = 1
  · rw [if_pos h1051] at h
    obtain ⟨v_r1244, h1052, h⟩ := bind_some h
    by_cases h1053 : v_r1244.1 = true
    · rw [if_pos h1053] at h
      cases h
      exact pkk_sound TTok mix hF 5 (hs := [.t true, .h [1] [] [.row 24 3 (v_r1244.2.map eS_rmap_Pair)] (.d (.v (.bool v_r1244.1))), .t true]) (ts := []) (s := [0, 1]) (l := []) (by kernel_rfl) (by kernel_rfl) (.cons (bt h1051) (.cons (G_slices_partialInsertionSortCmpFunc_rmap_Pair_h_ok n v_z1242 v_a478 v_b479 v_cmp477 v_cmp477_g v_cmp477_c v_cmp477_h _ h1052) (.cons h1053 .nil))) q
    · rw [if_neg h1053] at h
      cases h
      exact pkk_sound TTok mix hF 5 (hs := [.t true, .h [1] [] [.row 24 3 (v_r1244.2.map eS_rmap_Pair)] (.d (.v (.bool v_r1244.1))), .t false]) (ts := []) (s := [0, 1]) (l := [0, 1, 2, 3, 4, 10, 11, 12, 13]) (by kernel_rfl) (by kernel_rfl) (.cons (bt h1051) (.cons (G_slices_partialInsertionSortCmpFunc_rmap_Pair_h_ok n v_z1242 v_a478 v_b479 v_cmp477 v_cmp477_g v_cmp477_c v_cmp477_h _ h1052) (.cons (vf h1053) .nil))) q
  · rw [if_neg h1051] at h
    cases h
    exact pkk_sound TTok mix hF 2 (hs := [.t false]) (ts := []) (s := [0, 1]) (l := [0, 1, 2, 3, 4, 10, 11, 12, 13]) (by kernel_rfl) (by kernel_rfl) (.cons (bf h1051) .nil) q
inductive G_slices_pdqsortCmpFunc_rmap_Pair_h_C4_R where
  | x0 (v_x1258 : Bool) (v_w1259 : (List S_rmap_Pair))
def G_slices_pdqsortCmpFunc_rmap_Pair_h_C4_ex : G_slices_pdqsortCmpFunc_rmap_Pair_h_C4_R → Ex
  | .x0 _ _ => .normal
def G_slices_pdqsortCmpFunc_rmap_Pair_h_C4_st (v_a478 : Int) (v_b479 : Int) (v_z1228 : Int) (v_cmp477 : (S_rmap_Pair → S_rmap_Pair → Option (Int))) (v_wasBalanced481 : Bool) (v_wasPartitioned482 : Bool) (v_z1240 : Int) (v_z1251 : (List S_rmap_Pair)) (v_cmp477_g : FuncId) (v_cmp477_c : (List PV)) : G_slices_pdqsortCmpFunc_rmap_Pair_h_C4_R → PS
  | .x0 v_x1258 v_w1259 => ⟨(.srf 1 :: .d (.v (.int .i64 v_a478)) :: .d (.v (.int .i64 v_b479)) :: .d (.v (.int .i64 v_z1228)) :: .d (.clo v_cmp477_g v_cmp477_c) :: dd :: dd :: dd :: dd :: dd :: .d (.v (.bool v_wasBalanced481)) :: .d (.v (.bool v_wasPartitioned482)) :: .d (.v (.int .i64 (wi .i64 (v_b479 - v_a478)))) :: .d (.v (.int .i64 v_z1240)) :: (dds 83 (.d (.v (.bool v_x1258)) :: (dds 50 [])))), [.gh 0 (.srf 1), .row 24 3 (v_w1259.map eS_rmap_Pair)]⟩
def G_slices_pdqsortCmpFunc_rmap_Pair_h_C4_hd (v_a478 : Int) (v_b479 : Int) (v_z1228 : Int) (v_cmp477 : (S_rmap_Pair → S_rmap_Pair → Option (Int))) (v_wasBalanced481 : Bool) (v_wasPartitioned482 : Bool) (v_z1240 : Int) (v_z1251 : (List S_rmap_Pair)) (v_cmp477_g : FuncId) (v_cmp477_c : (List PV))  : PS := ⟨(.srf 1 :: .d (.v (.int .i64 v_a478)) :: .d (.v (.int .i64 v_b479)) :: .d (.v (.int .i64 v_z1228)) :: .d (.clo v_cmp477_g v_cmp477_c) :: dd :: dd :: dd :: dd :: dd :: .d (.v (.bool v_wasBalanced481)) :: .d (.v (.bool v_wasPartitioned482)) :: .d (.v (.int .i64 (wi .i64 (v_b479 - v_a478)))) :: .d (.v (.int .i64 v_z1240)) :: (dds 134 [])), [.gh 0 (.srf 1), .row 24 3 (v_z1251.map eS_rmap_Pair)]⟩
def G_slices_pdqsortCmpFunc_rmap_Pair_h_C4 (n : Nat) (v_a478 : Int) (v_b479 : Int) (v_z1228 : Int) (v_cmp477 : (S_rmap_Pair → S_rmap_Pair → Option (Int))) (v_wasBalanced481 : Bool) (v_wasPartitioned482 : Bool) (v_z1240 : Int) (v_z1251 : (List S_rmap_Pair)) : Option G_slices_pdqsortCmpFunc_rmap_Pair_h_C4_R :=
  if v_a478 > 0 then
   if 0 ≤ (wi .i64 (v_a478 - 1)) ∧ ((wi .i64 (v_a478 - 1))).toNat < v_z1251.length then
    (v_z1251[((wi .i64 (v_a478 - 1))).toNat]?).bind fun (v_y1255 : S_rmap_Pair) =>
    if 0 ≤ v_z1240 ∧ (v_z1240).toNat < v_z1251.length then
     (v_z1251[(v_z1240).toNat]?).bind fun (v_y1256 : S_rmap_Pair) =>
     (v_cmp477 v_y1255 v_y1256).bind fun (v_r1257 : (Int)) =>
     some (.x0 (!(decide (v_r1257 < 0))) v_z1251)
    else none
   else none
  else
   some (.x0 false v_z1251)
theorem G_slices_pdqsortCmpFunc_rmap_Pair_h_C4_ok {Fi : Ex → PS → Prop} (hF : KC 148 Fi) (ks : List Fr) (n : Nat) (v_a478 : Int) (v_b479 : Int) (v_z1228 : Int) (v_cmp477 : (S_rmap_Pair → S_rmap_Pair → Option (Int))) (v_wasBalanced481 : Bool) (v_wasPartitioned482 : Bool) (v_z1240 : Int) (v_z1251 : (List S_rmap_Pair)) (v_cmp477_g : FuncId) (v_cmp477_c : (List PV)) (v_cmp477_h : ∀ (x0 : S_rmap_Pair) (x1 : S_rmap_Pair) (r : Int), v_cmp477 x0 x1 = some r → Ret Try.prog v_cmp477_g ([eS_rmap_Pair x0, eS_rmap_Pair x1] ++ v_cmp477_c) ((eI .i64) r)) (o : G_slices_pdqsortCmpFunc_rmap_Pair_h_C4_R) (h : G_slices_pdqsortCmpFunc_rmap_Pair_h_C4 n v_a478 v_b479 v_z1228 v_cmp477 v_wasBalanced481 v_wasPartitioned482 v_z1240 v_z1251 = some o) (q : RunE Try.prog 148 Fi ks (G_slices_pdqsortCmpFunc_rmap_Pair_h_C4_ex o) (G_slices_pdqsortCmpFunc_rmap_Pair_h_C4_st v_a478 v_b479 v_z1228 v_cmp477 v_wasBalanced481 v_wasPartitioned482 v_z1240 v_z1251 v_cmp477_g v_cmp477_c o)) : RunE Try.prog 148 Fi (.s (cL (cL (cR (cR (cR (cR (cR (cR (cR (cB (cP (cB (cR (cR (bodyOf Try.f35))))))))))))))) :: ks) .normal (G_slices_pdqsortCmpFunc_rmap_Pair_h_C4_hd v_a478 v_b479 v_z1228 v_cmp477 v_wasBalanced481 v_wasPartitioned482 v_z1240 v_z1251 v_cmp477_g v_cmp477_c) := by
  unfold G_slices_pdqsortCmpFunc_rmap_Pair_h_C4 at h
  by_cases h1061 : v_a478 > 0
  · rw [if_pos h1061] at h
    by_cases h1062 : 0 ≤ (wi .i64 (v_a478 - 1)) ∧ ((wi .i64 (v_a478 - 1))).toNat < v_z1251.length
    · rw [if_pos h1062] at h
      obtain ⟨v_y1255, h1063, h⟩ := bind_some h
      by_cases h1064 : 0 ≤ v_z1240 ∧ (v_z1240).toNat < v_z1251.length
      · rw [if_pos h1064] at h
        obtain ⟨v_y1256, h1065, h⟩ := bind_some h
        obtain ⟨v_r1257, h1066, h⟩ := bind_some h
        cases h
        exact pkk_sound TTok mix hF 1 (hs := [.t true, .c, .c, .c, .c, .c, .y (eS_rmap_Pair v_y1255), .c, .c, .c, .c, .y (eS_rmap_Pair v_y1256), .c, .r ((eI .i64) v_r1257), .c, .c]) (ts := []) (s := [0, 1]) (l := [0, 1, 2, 3, 4, 10, 11, 12, 13, 97]) (by kernel_rfl) (by kernel_rfl) (.cons (dt h1061) (.cons (idx_ob (f := eS_rmap_Pair) h1062) (.cons (get_ob (f := eS_rmap_Pair) h1063) (.cons (idx_ob (f := eS_rmap_Pair) h1064) (.cons (get_ob (f := eS_rmap_Pair) h1065) (.cons (v_cmp477_h v_y1255 v_y1256 _ h1066) .nil)))))) q
      · rw [if_neg h1064] at h; cases h
    · rw [if_neg h1062] at h; cases h
  · rw [if_neg h1061] at h
    cases h
    exact pkk_sound TTok mix hF 1 (hs := [.t false, .c, .c, .c, .c, .c, .c, .c, .c, .c, .c, .c, .c]) (ts := []) (s := [0, 1]) (l := [0, 1, 2, 3, 4, 10, 11, 12, 13, 97]) (by kernel_rfl) (by kernel_rfl) (.cons (df h1061) .nil) q
inductive G_slices_pdqsortCmpFunc_rmap_Pair_h_C5_R where
  | x0 (v_x1296 : Bool) (v_w1297 : (List S_rmap_Pair))
def G_slices_pdqsortCmpFunc_rmap_Pair_h_C5_ex : G_slices_pdqsortCmpFunc_rmap_Pair_h_C5_R → Ex
  | .x0 _ _ => .normal
def G_slices_pdqsortCmpFunc_rmap_Pair_h_C5_st (v_a478 : Int) (v_b479 : Int) (v_z1228 : Int) (v_cmp477 : (S_rmap_Pair → S_rmap_Pair → Option (Int))) (v_wasBalanced481 : Bool) (v_wasPartitioned482 : Bool) (v_z1240 : Int) (v_z1242 : (List S_rmap_Pair)) (v_cmp477_g : FuncId) (v_cmp477_c : (List PV)) : G_slices_pdqsortCmpFunc_rmap_Pair_h_C5_R → PS
  | .x0 v_x1296 v_w1297 => ⟨(.srf 1 :: .d (.v (.int .i64 v_a478)) :: .d (.v (.int .i64 v_b479)) :: .d (.v (.int .i64 v_z1228)) :: .d (.clo v_cmp477_g v_cmp477_c) :: dd :: dd :: dd :: dd :: dd :: .d (.v (.bool v_wasBalanced481)) :: .d (.v (.bool v_wasPartitioned482)) :: .d (.v (.int .i64 (wi .i64 (v_b479 - v_a478)))) :: .d (.v (.int .i64 v_z1240)) :: (dds 83 (.d (.v (.bool v_x1296)) :: (dds 50 [])))), [.gh 0 (.srf 1), .row 24 3 (v_w1297.map eS_rmap_Pair)]⟩
def G_slices_pdqsortCmpFunc_rmap_Pair_h_C5_hd (v_a478 : Int) (v_b479 : Int) (v_z1228 : Int) (v_cmp477 : (S_rmap_Pair → S_rmap_Pair → Option (Int))) (v_wasBalanced481 : Bool) (v_wasPartitioned482 : Bool) (v_z1240 : Int) (v_z1242 : (List S_rmap_Pair)) (v_cmp477_g : FuncId) (v_cmp477_c : (List PV))  : PS := ⟨(.srf 1 :: .d (.v (.int .i64 v_a478)) :: .d (.v (.int .i64 v_b479)) :: .d (.v (.int .i64 v_z1228)) :: .d (.clo v_cmp477_g v_cmp477_c) :: dd :: dd :: dd :: dd :: dd :: .d (.v (.bool v_wasBalanced481)) :: .d (.v (.bool v_wasPartitioned482)) :: .d (.v (.int .i64 (wi .i64 (v_b479 - v_a478)))) :: .d (.v (.int .i64 v_z1240)) :: (dds 134 [])), [.gh 0 (.srf 1), .row 24 3 (v_z1242.map eS_rmap_Pair)]⟩
def G_slices_pdqsortCmpFunc_rmap_Pair_h_C5 (n : Nat) (v_a478 : Int) (v_b479 : Int) (v_z1228 : Int) (v_cmp477 : (S_rmap_Pair → S_rmap_Pair → Option (Int))) (v_wasBalanced481 : Bool) (v_wasPartitioned482 : Bool) (v_z1240 : Int) (v_z1242 : (List S_rmap_Pair)) : Option G_slices_pdqsortCmpFunc_rmap_Pair_h_C5_R :=
  if v_a478 > 0 then
   if 0 ≤ (wi .i64 (v_a478 - 1)) ∧ ((wi .i64 (v_a478 - 1))).toNat < v_z1242.length then
    (v_z1242[((wi .i64 (v_a478 - 1))).toNat]?).bind fun (v_y1293 : S_rmap_Pair) =>
    if 0 ≤ v_z1240 ∧ (v_z1240).toNat < v_z1242.length then
     (v_z1242[(v_z1240).toNat]?).bind fun (v_y1294 : S_rmap_Pair) =>
     (v_cmp477 v_y1293 v_y1294).bind fun (v_r1295 : (Int)) =>
     some (.x0 (!(decide (v_r1295 < 0))) v_z1242)
    else none
   else none
  else
   some (.x0 false v_z1242)
theorem G_slices_pdqsortCmpFunc_rmap_Pair_h_C5_ok {Fi : Ex → PS → Prop} (hF : KC 148 Fi) (ks : List Fr) (n : Nat) (v_a478 : Int) (v_b479 : Int) (v_z1228 : Int) (v_cmp477 : (S_rmap_Pair → S_rmap_Pair → Option (Int))) (v_wasBalanced481 : Bool) (v_wasPartitioned482 : Bool) (v_z1240 : Int) (v_z1242 : (List S_rmap_Pair)) (v_cmp477_g : FuncId) (v_cmp477_c : (List PV)) (v_cmp477_h : ∀ (x0 : S_rmap_Pair) (x1 : S_rmap_Pair) (r : Int), v_cmp477 x0 x1 = some r → Ret Try.prog v_cmp477_g ([eS_rmap_Pair x0, eS_rmap_Pair x1] ++ v_cmp477_c) ((eI .i64) r)) (o : G_slices_pdqsortCmpFunc_rmap_Pair_h_C5_R) (h : G_slices_pdqsortCmpFunc_rmap_Pair_h_C5 n v_a478 v_b479 v_z1228 v_cmp477 v_wasBalanced481 v_wasPartitioned482 v_z1240 v_z1242 = some o) (q : RunE Try.prog 148 Fi ks (G_slices_pdqsortCmpFunc_rmap_Pair_h_C5_ex o) (G_slices_pdqsortCmpFunc_rmap_Pair_h_C5_st v_a478 v_b479 v_z1228 v_cmp477 v_wasBalanced481 v_wasPartitioned482 v_z1240 v_z1242 v_cmp477_g v_cmp477_c o)) : RunE Try.prog 148 Fi (.s (cL (cL (cR (cR (cR (cR (cR (cR (cR (cB (cP (cB (cR (cR (bodyOf Try.f35))))))))))))))) :: ks) .normal (G_slices_pdqsortCmpFunc_rmap_Pair_h_C5_hd v_a478 v_b479 v_z1228 v_cmp477 v_wasBalanced481 v_wasPartitioned482 v_z1240 v_z1242 v_cmp477_g v_cmp477_c) := by
  unfold G_slices_pdqsortCmpFunc_rmap_Pair_h_C5 at h
  by_cases h1086 : v_a478 > 0
  · rw [if_pos h1086] at h
    by_cases h1087 : 0 ≤ (wi .i64 (v_a478 - 1)) ∧ ((wi .i64 (v_a478 - 1))).toNat < v_z1242.length
    · rw [if_pos h1087] at h
      obtain ⟨v_y1293, h1088, h⟩ := bind_some h
      by_cases h1089 : 0 ≤ v_z1240 ∧ (v_z1240).toNat < v_z1242.length
      · rw [if_pos h1089] at h
        obtain ⟨v_y1294, h1090, h⟩ := bind_some h
        obtain ⟨v_r1295, h1091, h⟩ := bind_some h
        cases h
        exact pkk_sound TTok mix hF 1 (hs := [.t true, .c, .c, .c, .c, .c, .y (eS_rmap_Pair v_y1293), .c, .c, .c, .c, .y (eS_rmap_Pair v_y1294), .c, .r ((eI .i64) v_r1295), .c, .c]) (ts := []) (s := [0, 1]) (l := [0, 1, 2, 3, 4, 10, 11, 12, 13, 97]) (by kernel_rfl) (by kernel_rfl) (.cons (dt h1086) (.cons (idx_ob (f := eS_rmap_Pair) h1087) (.cons (get_ob (f := eS_rmap_Pair) h1088) (.cons (idx_ob (f := eS_rmap_Pair) h1089) (.cons (get_ob (f := eS_rmap_Pair) h1090) (.cons (v_cmp477_h v_y1293 v_y1294 _ h1091) .nil)))))) q
      · rw [if_neg h1089] at h; cases h
    · rw [if_neg h1087] at h; cases h
  · rw [if_neg h1086] at h
    cases h
    exact pkk_sound TTok mix hF 1 (hs := [.t false, .c, .c, .c, .c, .c, .c, .c, .c, .c, .c, .c, .c]) (ts := []) (s := [0, 1]) (l := [0, 1, 2, 3, 4, 10, 11, 12, 13, 97]) (by kernel_rfl) (by kernel_rfl) (.cons (df h1086) .nil) q
inductive G_slices_pdqsortCmpFunc_rmap_Pair_h_C6_R where
  | x0 (v_x1334 : Bool) (v_w1335 : (List S_rmap_Pair))
def G_slices_pdqsortCmpFunc_rmap_Pair_h_C6_ex : G_slices_pdqsortCmpFunc_rmap_Pair_h_C6_R → Ex
  | .x0 _ _ => .normal
def G_slices_pdqsortCmpFunc_rmap_Pair_h_C6_st (v_a478 : Int) (v_b479 : Int) (v_z1228 : Int) (v_cmp477 : (S_rmap_Pair → S_rmap_Pair → Option (Int))) (v_wasBalanced481 : Bool) (v_wasPartitioned482 : Bool) (v_z1240 : Int) (v_z1242 : (List S_rmap_Pair)) (v_cmp477_g : FuncId) (v_cmp477_c : (List PV)) : G_slices_pdqsortCmpFunc_rmap_Pair_h_C6_R → PS
  | .x0 v_x1334 v_w1335 => ⟨(.srf 1 :: .d (.v (.int .i64 v_a478)) :: .d (.v (.int .i64 v_b479)) :: .d (.v (.int .i64 v_z1228)) :: .d (.clo v_cmp477_g v_cmp477_c) :: dd :: dd :: dd :: dd :: dd :: .d (.v (.bool v_wasBalanced481)) :: .d (.v (.bool v_wasPartitioned482)) :: .d (.v (.int .i64 (wi .i64 (v_b479 - v_a478)))) :: .d (.v (.int .i64 v_z1240)) :: (dds 83 (.d (.v (.bool v_x1334)) :: (dds 50 [])))), [.gh 0 (.srf 1), .row 24 3 (v_w1335.map eS_rmap_Pair)]⟩
def G_slices_pdqsortCmpFunc_rmap_Pair_h_C6_hd (v_a478 : Int) (v_b479 : Int) (v_z1228 : Int) (v_cmp477 : (S_rmap_Pair → S_rmap_Pair → Option (Int))) (v_wasBalanced481 : Bool) (v_wasPartitioned482 : Bool) (v_z1240 : Int) (v_z1242 : (List S_rmap_Pair)) (v_cmp477_g : FuncId) (v_cmp477_c : (List PV))  : PS := ⟨(.srf 1 :: .d (.v (.int .i64 v_a478)) :: .d (.v (.int .i64 v_b479)) :: .d (.v (.int .i64 v_z1228)) :: .d (.clo v_cmp477_g v_cmp477_c) :: dd :: dd :: dd :: dd :: dd :: .d (.v (.bool v_wasBalanced481)) :: .d (.v (.bool v_wasPartitioned482)) :: .d (.v (.int .i64 (wi .i64 (v_b479 - v_a478)))) :: .d (.v (.int .i64 v_z1240)) :: (dds 134 [])), [.gh 0 (.srf 1), .row 24 3 (v_z1242.map eS_rmap_Pair)]⟩
def G_slices_pdqsortCmpFunc_rmap_Pair_h_C6 (n : Nat) (v_a478 : Int) (v_b479 : Int) (v_z1228 : Int) (v_cmp477 : (S_rmap_Pair → S_rmap_Pair → Option (Int))) (v_wasBalanced481 : Bool) (v_wasPartitioned482 : Bool) (v_z1240 : Int) (v_z1242 : (List S_rmap_Pair)) : Option G_slices_pdqsortCmpFunc_rmap_Pair_h_C6_R :=
  if v_a478 > 0 then
   if 0 ≤ (wi .i64 (v_a478 - 1)) ∧ ((wi .i64 (v_a478 - 1))).toNat < v_z1242.length then
    (v_z1242[((wi .i64 (v_a478 - 1))).toNat]?).bind fun (v_y1331 : S_rmap_Pair) =>
    if 0 ≤ v_z1240 ∧ (v_z1240).toNat < v_z1242.length then
     (v_z1242[(v_z1240).toNat]?).bind fun (v_y1332 : S_rmap_Pair) =>
     (v_cmp477 v_y1331 v_y1332).bind fun (v_r1333 : (Int)) =>
     some (.x0 (!(decide (v_r1333 < 0))) v_z1242)
    else none
   else none
  else
   some (.x0 false v_z1242)
theorem G_slices_pdqsortCmpFunc_rmap_Pair_h_C6_ok {Fi : Ex → PS → Prop} (hF : KC 148 Fi) (ks : List Fr) (n : Nat) (v_a478 : Int) (v_b479 : Int) (v_z1228 : Int) (v_cmp477 : (S_rmap_Pair → S_rmap_Pair → Option (Int))) (v_wasBalanced481 : Bool) (v_wasPartitioned482 : Bool) (v_z1240 : Int) (v_z1242 : (List S_rmap_Pair)) (v_cmp477_g : FuncId) (v_cmp477_c : (List PV)) (v_cmp477_h : ∀ (x0 : S_rmap_Pair) (x1 : S_rmap_Pair) (r : Int), v_cmp477 x0 x1 = some r → Ret Try.prog v_cmp477_g ([eS_rmap_Pair x0, eS_rmap_Pair x1] ++ v_cmp477_c) ((eI .i64) r)) (o : G_slices_pdqsortCmpFunc_rmap_Pair_h_C6_R) (h : G_slices_pdqsortCmpFunc_rmap_Pair_h_C6 n v_a478 v_b479 v_z1228 v_cmp477 v_wasBalanced481 v_wasPartitioned482 v_z1240 v_z1242 = some o) (q : RunE Try.prog 148 Fi ks (G_slices_pdqsortCmpFunc_rmap_Pair_h_C6_ex o) (G_slices_pdqsortCmpFunc_rmap_Pair_h_C6_st v_a478 v_b479 v_z1228 v_cmp477 v_wasBalanced481 v_wasPartitioned482 v_z1240 v_z1242 v_cmp477_g v_cmp477_c o)) : RunE Try.prog 148 Fi (.s (cL (cL (cR (cR (cR (cR (cR (cR (cR (cB (cP (cB (cR (cR (bodyOf Try.f35))))))))))))))) :: ks) .normal (G_slices_pdqsortCmpFunc_rmap_Pair_h_C6_hd v_a478 v_b479 v_z1228 v_cmp477 v_wasBalanced481 v_wasPartitioned482 v_z1240 v_z1242 v_cmp477_g v_cmp477_c) := by
  unfold G_slices_pdqsortCmpFunc_rmap_Pair_h_C6 at h
  by_cases h1111 : v_a478 > 0
  · rw [if_pos h1111] at h
    by_cases h1112 : 0 ≤ (wi .i64 (v_a478 - 1)) ∧ ((wi .i64 (v_a478 - 1))).toNat < v_z1242.length
    · rw [if_pos h1112] at h
      obtain ⟨v_y1331, h1113, h⟩ := bind_some h
      by_cases h1114 : 0 ≤ v_z1240 ∧ (v_z1240).toNat < v_z1242.length
      · rw [if_pos h1114] at h
        obtain ⟨v_y1332, h1115, h⟩ := bind_some h
        obtain ⟨v_r1333, h1116, h⟩ := bind_some h
        cases h
        exact pkk_sound TTok mix hF 1 (hs := [.t true, .c, .c, .c, .c, .c, .y (eS_rmap_Pair v_y1331), .c, .c, .c, .c, .y (eS_rmap_Pair v_y1332), .c, .r ((eI .i64) v_r1333), .c, .c]) (ts := []) (s := [0, 1]) (l := [0, 1, 2, 3, 4, 10, 11, 12, 13, 97]) (by kernel_rfl) (by kernel_rfl) (.cons (dt h1111) (.cons (idx_ob (f := eS_rmap_Pair) h1112) (.cons (get_ob (f := eS_rmap_Pair) h1113) (.cons (idx_ob (f := eS_rmap_Pair) h1114) (.cons (get_ob (f := eS_rmap_Pair) h1115) (.cons (v_cmp477_h v_y1331 v_y1332 _ h1116) .nil)))))) q
      · rw [if_neg h1114] at h; cases h
    · rw [if_neg h1112] at h; cases h
  · rw [if_neg h1111] at h
    cases h
    exact pkk_sound TTok mix hF 1 (hs := [.t false, .c, .c, .c, .c, .c, .c, .c, .c, .c, .c, .c, .c]) (ts := []) (s := [0, 1]) (l := [0, 1, 2, 3, 4, 10, 11, 12, 13, 97]) (by kernel_rfl) (by kernel_rfl) (.cons (df h1111) .nil) q
inductive G_slices_pdqsortCmpFunc_rmap_Pair_h_C7_R where
  | x0 (v_w1217 : (List S_rmap_Pair))
  | x1 (v_a1267 : Int) (v_b1268 : Int) (v_limit1269 : Int) (v_wasBalanced1270 : Bool) (v_wasPartitioned1271 : Bool) (v_w1272 : (List S_rmap_Pair))
def G_slices_pdqsortCmpFunc_rmap_Pair_h_C7_ex : G_slices_pdqsortCmpFunc_rmap_Pair_h_C7_R → Ex
  | .x0 _ => .ret
  | .x1 _ _ _ _ _ _ => .normal
def G_slices_pdqsortCmpFunc_rmap_Pair_h_C7_st (v_a478 : Int) (v_b479 : Int) (v_limit480 : Int) (v_cmp477 : (S_rmap_Pair → S_rmap_Pair → Option (Int))) (v_wasBalanced481 : Bool) (v_wasPartitioned482 : Bool) (v_w483 : (List S_rmap_Pair)) (v_rec1170 : ((List S_rmap_Pair) → Int → Int → Int → Option ((List S_rmap_Pair)))) (v_cmp477_g : FuncId) (v_cmp477_c : (List PV)) : G_slices_pdqsortCmpFunc_rmap_Pair_h_C7_R → PS
  | .x0 v_w1217 => ⟨(dds 148 []), [.gh 0 (.srf 1), .row 24 3 (v_w1217.map eS_rmap_Pair)]⟩
  | .x1 v_a1267 v_b1268 v_limit1269 v_wasBalanced1270 v_wasPartitioned1271 v_w1272 => ⟨(.srf 1 :: .d (.v (.int .i64 v_a1267)) :: .d (.v (.int .i64 v_b1268)) :: .d (.v (.int .i64 v_limit1269)) :: .d (.clo v_cmp477_g v_cmp477_c) :: dd :: dd :: dd :: dd :: dd :: .d (.v (.bool v_wasBalanced1270)) :: .d (.v (.bool v_wasPartitioned1271)) :: (dds 136 [])), [.gh 0 (.srf 1), .row 24 3 (v_w1272.map eS_rmap_Pair)]⟩
def G_slices_pdqsortCmpFunc_rmap_Pair_h_C7_hd (v_a478 : Int) (v_b479 : Int) (v_limit480 : Int) (v_cmp477 : (S_rmap_Pair → S_rmap_Pair → Option (Int))) (v_wasBalanced481 : Bool) (v_wasPartitioned482 : Bool) (v_w483 : (List S_rmap_Pair)) (v_rec1170 : ((List S_rmap_Pair) → Int → Int → Int → Option ((List S_rmap_Pair)))) (v_cmp477_g : FuncId) (v_cmp477_c : (List PV))  : PS := ⟨(.srf 1 :: .d (.v (.int .i64 v_a478)) :: .d (.v (.int .i64 v_b479)) :: .d (.v (.int .i64 v_limit480)) :: .d (.clo v_cmp477_g v_cmp477_c) :: dd :: dd :: dd :: dd :: dd :: .d (.v (.bool v_wasBalanced481)) :: .d (.v (.bool v_wasPartitioned482)) :: (dds 136 [])), [.gh 0 (.srf 1), .row 24 3 (v_w483.map eS_rmap_Pair)]⟩
def G_slices_pdqsortCmpFunc_rmap_Pair_h_C7 (n : Nat) (v_a478 : Int) (v_b479 : Int) (v_limit480 : Int) (v_cmp477 : (S_rmap_Pair → S_rmap_Pair → Option (Int))) (v_wasBalanced481 : Bool) (v_wasPartitioned482 : Bool) (v_w483 : (List S_rmap_Pair)) (v_rec1170 : ((List S_rmap_Pair) → Int → Int → Int → Option ((List S_rmap_Pair)))) : Option G_slices_pdqsortCmpFunc_rmap_Pair_h_C7_R :=
  if (wi .i64 (v_b479 - v_a478)) ≤ 12 then
   (G_slices_insertionSortCmpFunc_rmap_Pair_h n v_w483 v_a478 v_b479 v_cmp477).bind fun (v_r1216 : ((List S_rmap_Pair))) =>
   some (.x0 v_r1216)
  else
   if v_limit480 = 0 then
    (G_slices_heapSortCmpFunc_rmap_Pair_h n v_w483 v_a478 v_b479 v_cmp477).bind fun (v_r1219 : ((List S_rmap_Pair))) =>
    some (.x0 v_r1219)
   else
    (G_slices_pdqsortCmpFunc_rmap_Pair_h_C1 n v_a478 v_b479 v_limit480 v_cmp477 v_wasBalanced481 v_wasPartitioned482 v_w483).bind fun v_o1227 => match v_o1227 with
    | .x0 v_z1228 v_z1229 =>
      (G_slices_choosePivotCmpFunc_rmap_Pair n v_z1229 v_a478 v_b479 v_cmp477).bind fun (v_r1230 : (Int × Int)) =>
      (G_slices_pdqsortCmpFunc_rmap_Pair_h_C2 n v_a478 v_b479 v_z1228 v_cmp477 v_wasBalanced481 v_wasPartitioned482 v_r1230 v_z1229).bind fun v_o1239 => match v_o1239 with
      | .x0 v_z1240 v_z1241 v_z1242 =>
        if v_wasBalanced481 = true then
         if v_wasPartitioned482 = true then
          (G_slices_pdqsortCmpFunc_rmap_Pair_h_C3 n v_a478 v_b479 v_z1228 v_cmp477 v_wasBalanced481 v_wasPartitioned482 v_z1240 v_z1241 v_z1242).bind fun v_o1248 => match v_o1248 with
          | .x0 v_z1249 =>
            some (.x0 v_z1249)
          | .x1 v_z1251 =>
            (G_slices_pdqsortCmpFunc_rmap_Pair_h_C4 n v_a478 v_b479 v_z1228 v_cmp477 v_wasBalanced481 v_wasPartitioned482 v_z1240 v_z1251).bind fun v_o1262 => match v_o1262 with
            | .x0 v_z1263 v_z1264 =>
              if v_z1263 = true then
               (G_slices_partitionEqualCmpFunc_rmap_Pair_h n v_z1264 v_a478 v_b479 v_z1240 v_cmp477).bind fun (v_r1266 : (Int × (List S_rmap_Pair))) =>
               some (.x1 v_r1266.1 v_b479 v_z1228 v_wasBalanced481 v_wasPartitioned482 v_r1266.2)
              else
               (G_slices_partitionCmpFunc_rmap_Pair_h n v_z1264 v_a478 v_b479 v_z1240 v_cmp477).bind fun (v_r1273 : (Int × Bool × (List S_rmap_Pair))) =>
               if (wi .i64 (v_r1273.1 - v_a478)) < (wi .i64 (v_b479 - v_r1273.1)) then
                (v_rec1170 v_r1273.2.2 v_a478 v_r1273.1 v_z1228).bind fun (v_r1276 : ((List S_rmap_Pair))) =>
                some (.x1 (wi .i64 (v_r1273.1 + 1)) v_b479 v_z1228 (decide ((wi .i64 (v_r1273.1 - v_a478)) ≥ (quoI .i64 (wi .i64 (v_b479 - v_a478)) 8))) v_r1273.2.1 v_r1276)
               else
                (v_rec1170 v_r1273.2.2 (wi .i64 (v_r1273.1 + 1)) v_b479 v_z1228).bind fun (v_r1283 : ((List S_rmap_Pair))) =>
                some (.x1 v_a478 v_r1273.1 v_z1228 (decide ((wi .i64 (v_b479 - v_r1273.1)) ≥ (quoI .i64 (wi .i64 (v_b479 - v_a478)) 8))) v_r1273.2.1 v_r1283)
         else
          (G_slices_pdqsortCmpFunc_rmap_Pair_h_C5 n v_a478 v_b479 v_z1228 v_cmp477 v_wasBalanced481 v_wasPartitioned482 v_z1240 v_z1242).bind fun v_o1300 => match v_o1300 with
          | .x0 v_z1301 v_z1302 =>
            if v_z1301 = true then
             (G_slices_partitionEqualCmpFunc_rmap_Pair_h n v_z1302 v_a478 v_b479 v_z1240 v_cmp477).bind fun (v_r1304 : (Int × (List S_rmap_Pair))) =>
             some (.x1 v_r1304.1 v_b479 v_z1228 v_wasBalanced481 v_wasPartitioned482 v_r1304.2)
            else
             (G_slices_partitionCmpFunc_rmap_Pair_h n v_z1302 v_a478 v_b479 v_z1240 v_cmp477).bind fun (v_r1311 : (Int × Bool × (List S_rmap_Pair))) =>
             if (wi .i64 (v_r1311.1 - v_a478)) < (wi .i64 (v_b479 - v_r1311.1)) then
              (v_rec1170 v_r1311.2.2 v_a478 v_r1311.1 v_z1228).bind fun (v_r1314 : ((List S_rmap_Pair))) =>
              some (.x1 (wi .i64 (v_r1311.1 + 1)) v_b479 v_z1228 (decide ((wi .i64 (v_r1311.1 - v_a478)) ≥ (quoI .i64 (wi .i64 (v_b479 - v_a478)) 8))) v_r1311.2.1 v_r1314)
             else
              (v_rec1170 v_r1311.2.2 (wi .i64 (v_r1311.1 + 1)) v_b479 v_z1228).bind fun (v_r1321 : ((List S_rmap_Pair))) =>
              some (.x1 v_a478 v_r1311.1 v_z1228 (decide ((wi .i64 (v_b479 - v_r1311.1)) ≥ (quoI .i64 (wi .i64 (v_b479 - v_a478)) 8))) v_r1311.2.1 v_r1321)
        else
         (G_slices_pdqsortCmpFunc_rmap_Pair_h_C6 n v_a478 v_b479 v_z1228 v_cmp477 v_wasBalanced481 v_wasPartitioned482 v_z1240 v_z1242).bind fun v_o1338 => match v_o1338 with
         | .x0 v_z1339 v_z1340 =>
           if v_z1339 = true then
            (G_slices_partitionEqualCmpFunc_rmap_Pair_h n v_z1340 v_a478 v_b479 v_z1240 v_cmp477).bind fun (v_r1342 : (Int × (List S_rmap_Pair))) =>
            some (.x1 v_r1342.1 v_b479 v_z1228 v_wasBalanced481 v_wasPartitioned482 v_r1342.2)
           else
            (G_slices_partitionCmpFunc_rmap_Pair_h n v_z1340 v_a478 v_b479 v_z1240 v_cmp477).bind fun (v_r1349 : (Int × Bool × (List S_rmap_Pair))) =>
            if (wi .i64 (v_r1349.1 - v_a478)) < (wi .i64 (v_b479 - v_r1349.1)) then
             (v_rec1170 v_r1349.2.2 v_a478 v_r1349.1 v_z1228).bind fun (v_r1352 : ((List S_rmap_Pair))) =>
             some (.x1 (wi .i64 (v_r1349.1 + 1)) v_b479 v_z1228 (decide ((wi .i64 (v_r1349.1 - v_a478)) ≥ (quoI .i64 (wi .i64 (v_b479 - v_a478)) 8))) v_r1349.2.1 v_r1352)
            else
             (v_rec1170 v_r1349.2.2 (wi .i64 (v_r1349.1 + 1)) v_b479 v_z1228).bind fun (v_r1359 : ((List S_rmap_Pair))) =>
             some (.x1 v_a478 v_r1349.1 v_z1228 (decide ((wi .i64 (v_b479 - v_r1349.1)) ≥ (quoI .i64 (wi .i64 (v_b479 - v_a478)) 8))) v_r1349.2.1 v_r1359)
theorem G_slices_pdqsortCmpFunc_rmap_Pair_h_C7_ok {Fi : Ex → PS → Prop} (hF : KC 148 Fi) (ks : List Fr) (n : Nat) (v_a478 : Int) (v_b479 : Int) (v_limit480 : Int) (v_cmp477 : (S_rmap_Pair → S_rmap_Pair → Option (Int))) (v_wasBalanced481 : Bool) (v_wasPartitioned482 : Bool) (v_w483 : (List S_rmap_Pair)) (v_rec1170 : ((List S_rmap_Pair) → Int → Int → Int → Option ((List S_rmap_Pair)))) (v_cmp477_g : FuncId) (v_cmp477_c : (List PV)) (v_cmp477_h : ∀ (x0 : S_rmap_Pair) (x1 : S_rmap_Pair) (r : Int), v_cmp477 x0 x1 = some r → Ret Try.prog v_cmp477_g ([eS_rmap_Pair x0, eS_rmap_Pair x1] ++ v_cmp477_c) ((eI .i64) r)) (v_rec1170_h : ∀ (x0 : (List S_rmap_Pair)) (x1 : Int) (x2 : Int) (x3 : Int) (r : (List S_rmap_Pair)), v_rec1170 x0 x1 x2 x3 = some r → RetH Try.prog 35 [.srf 0, .d ((eI .i64) x1), .d ((eI .i64) x2), .d ((eI .i64) x3), .d ((.clo v_cmp477_g v_cmp477_c))] [.row 24 3 (x0.map eS_rmap_Pair)] (.tup []) [.row 24 3 (r.map eS_rmap_Pair)]) (o : G_slices_pdqsortCmpFunc_rmap_Pair_h_C7_R) (h : G_slices_pdqsortCmpFunc_rmap_Pair_h_C7 n v_a478 v_b479 v_limit480 v_cmp477 v_wasBalanced481 v_wasPartitioned482 v_w483 v_rec1170 = some o) (q : RunE Try.prog 148 Fi ks (G_slices_pdqsortCmpFunc_rmap_Pair_h_C7_ex o) (G_slices_pdqsortCmpFunc_rmap_Pair_h_C7_st v_a478 v_b479 v_limit480 v_cmp477 v_wasBalanced481 v_wasPartitioned482 v_w483 v_rec1170 v_cmp477_g v_cmp477_c o)) : RunE Try.prog 148 Fi (.s (cP (cB (cR (cR (bodyOf Try.f35))))) :: ks) .normal (G_slices_pdqsortCmpFunc_rmap_Pair_h_C7_hd v_a478 v_b479 v_limit480 v_cmp477 v_wasBalanced481 v_wasPartitioned482 v_w483 v_rec1170 v_cmp477_g v_cmp477_c) := by
  unfold G_slices_pdqsortCmpFunc_rmap_Pair_h_C7 at h
  by_cases h1029 : (wi .i64 (v_b479 - v_a478)) ≤ 12
  · rw [if_pos h1029] at h
    obtain ⟨v_r1216, h1030, h⟩ := bind_some h
    cases h
    exact pkk_sound TTok mix hF 12 (hs := [.t true, .h [1] [] [.row 24 3 (v_r1216.map eS_rmap_Pair)] (.tup [])]) (ts := []) (s := [0, 1]) (l := []) (by kernel_rfl) (by kernel_rfl) (.cons (dt h1029) (.cons (G_slices_insertionSortCmpFunc_rmap_Pair_h_ok n v_w483 v_a478 v_b479 v_cmp477 v_cmp477_g v_cmp477_c v_cmp477_h _ h1030) .nil)) q
  · rw [if_neg h1029] at h
    by_cases h1033 : v_limit480 = 0
    · rw [if_pos h1033] at h
      obtain ⟨v_r1219, h1034, h⟩ := bind_some h
      cases h
      exact pkk_sound TTok mix hF 17 (hs := [.t false, .t true, .h [1] [] [.row 24 3 (v_r1219.map eS_rmap_Pair)] (.tup [])]) (ts := []) (s := [0, 1]) (l := []) (by kernel_rfl) (by kernel_rfl) (.cons (df h1029) (.cons (bt h1033) (.cons (G_slices_heapSortCmpFunc_rmap_Pair_h_ok n v_w483 v_a478 v_b479 v_cmp477 v_cmp477_g v_cmp477_c v_cmp477_h _ h1034) .nil))) q
    · rw [if_neg h1033] at h
      obtain ⟨v_o1227, h1039, h⟩ := bind_some h
      refine pkk_sound TTok mix hF 16 (hs := [.t false, .t false]) (ts := []) (s := [0, 1]) (l := [0, 1, 2, 3, 4, 10, 11, 12, 39]) (by kernel_rfl) (by kernel_rfl) (.cons (df h1029) (.cons (bf h1033) .nil)) (G_slices_pdqsortCmpFunc_rmap_Pair_h_C1_ok hF (.s (cR (cR (cR (cR (cB (cP (cB (cR (cR (bodyOf Try.f35)))))))))) :: .b 1 :: ks) n v_a478 v_b479 v_limit480 v_cmp477 v_wasBalanced481 v_wasPartitioned482 v_w483 v_cmp477_g v_cmp477_c v_cmp477_h _ h1039 ?_)
      cases v_o1227 with
      | x0 v_z1228 v_z1229 =>
        try dsimp only at h
        obtain ⟨v_r1230, h1040, h⟩ := bind_some h
        obtain ⟨v_o1239, h1045, h⟩ := bind_some h
        refine pkk_sound TTok mix hF 5 (hs := [.c, .r (.tup [(eI .i64) v_r1230.1, (eI .i64) v_r1230.2])]) (ts := []) (s := [0, 1]) (l := [0, 1, 2, 3, 4, 10, 11, 12, 13, 14, 56]) (by kernel_rfl) (by kernel_rfl) (.cons (G_slices_choosePivotCmpFunc_rmap_Pair_ok n v_z1229 v_a478 v_b479 v_cmp477 v_cmp477_g v_cmp477_c v_cmp477_h _ h1040) .nil) (G_slices_pdqsortCmpFunc_rmap_Pair_h_C2_ok hF (.s (cR (cR (cR (cR (cR (cR (cB (cP (cB (cR (cR (bodyOf Try.f35)))))))))))) :: .b 1 :: ks) n v_a478 v_b479 v_z1228 v_cmp477 v_wasBalanced481 v_wasPartitioned482 v_r1230 v_z1229 v_cmp477_g v_cmp477_c v_cmp477_h _ h1045 ?_)
        cases v_o1239 with
        | x0 v_z1240 v_z1241 v_z1242 =>
          try dsimp only at h
          by_cases h1046 : v_wasBalanced481 = true
          · rw [if_pos h1046] at h
            by_cases h1047 : v_wasPartitioned482 = true
            · rw [if_pos h1047] at h
              obtain ⟨v_o1248, h1054, h⟩ := bind_some h
              refine pkk_sound TTok mix hF 3 (hs := [.t true, .t true, .c]) (ts := []) (s := [0, 1]) (l := [0, 1, 2, 3, 4, 10, 11, 12, 13, 75]) (by kernel_rfl) (by kernel_rfl) (.cons h1046 (.cons h1047 .nil)) (G_slices_pdqsortCmpFunc_rmap_Pair_h_C3_ok hF (.s (cR (cR (cR (cR (cR (cR (cR (cB (cP (cB (cR (cR (bodyOf Try.f35))))))))))))) :: .b 1 :: ks) n v_a478 v_b479 v_z1228 v_cmp477 v_wasBalanced481 v_wasPartitioned482 v_z1240 v_z1241 v_z1242 v_cmp477_g v_cmp477_c v_cmp477_h _ h1054 ?_)
              cases v_o1248 with
              | x0 v_z1249 =>
                try dsimp only at h
                cases h
                exact pkk_sound TTok mix hF 2 (hs := []) (ts := []) (s := [0, 1]) (l := []) (by kernel_rfl) (by kernel_rfl) .nil q
              | x1 v_z1251 =>
                try dsimp only at h
                obtain ⟨v_o1262, h1067, h⟩ := bind_some h
                refine pkk_sound TTok mix hF 2 (hs := []) (ts := []) (s := [0, 1]) (l := [0, 1, 2, 3, 4, 10, 11, 12, 13]) (by kernel_rfl) (by kernel_rfl) .nil (G_slices_pdqsortCmpFunc_rmap_Pair_h_C4_ok hF (.s (cR (cL (cR (cR (cR (cR (cR (cR (cR (cB (cP (cB (cR (cR (bodyOf Try.f35))))))))))))))) :: .s (cR (cR (cR (cR (cR (cR (cR (cR (cB (cP (cB (cR (cR (bodyOf Try.f35)))))))))))))) :: .b 1 :: ks) n v_a478 v_b479 v_z1228 v_cmp477 v_wasBalanced481 v_wasPartitioned482 v_z1240 v_z1251 v_cmp477_g v_cmp477_c v_cmp477_h _ h1067 ?_)
                cases v_o1262 with
                | x0 v_z1263 v_z1264 =>
                  try dsimp only at h
                  by_cases h1070 : v_z1263 = true
                  · rw [if_pos h1070] at h
                    obtain ⟨v_r1266, h1071, h⟩ := bind_some h
                    cases h
                    exact pkk_sound TTok mix hF 8 (hs := [.t true, .h [1] [] [.row 24 3 (v_r1266.2.map eS_rmap_Pair)] (.d (.v (.int .i64 v_r1266.1)))]) (ts := []) (s := [0, 1]) (l := [0, 1, 2, 3, 4, 10, 11]) (by kernel_rfl) (by kernel_rfl) (.cons h1070 (.cons (G_slices_partitionEqualCmpFunc_rmap_Pair_h_ok n v_z1264 v_a478 v_b479 v_z1240 v_cmp477 v_cmp477_g v_cmp477_c v_cmp477_h _ h1071) .nil)) q
                  · rw [if_neg h1070] at h
                    obtain ⟨v_r1273, h1072, h⟩ := bind_some h
                    by_cases h1077 : (wi .i64 (v_r1273.1 - v_a478)) < (wi .i64 (v_b479 - v_r1273.1))
                    · rw [if_pos h1077] at h
                      obtain ⟨v_r1276, h1078, h⟩ := bind_some h
                      cases h
                      exact pkk_sound TTok mix hF 19 (hs := [.t false, .h [1] [] [.row 24 3 (v_r1273.2.2.map eS_rmap_Pair)] (.tup [.d (.v (.int .i64 v_r1273.1)), .d (.v (.bool v_r1273.2.1))]), .t true, .h [1] [] [.row 24 3 (v_r1276.map eS_rmap_Pair)] (.tup [])]) (ts := []) (s := [0, 1]) (l := [0, 1, 2, 3, 4, 10, 11]) (by kernel_rfl) (by kernel_rfl) (.cons (vf h1070) (.cons (G_slices_partitionCmpFunc_rmap_Pair_h_ok n v_z1264 v_a478 v_b479 v_z1240 v_cmp477 v_cmp477_g v_cmp477_c v_cmp477_h _ h1072) (.cons (show (8 : Int) ≠ 0 by decide) (.cons (dt h1077) (.cons (v_rec1170_h v_r1273.2.2 v_a478 v_r1273.1 v_z1228 _ h1078) .nil))))) q
                    · rw [if_neg h1077] at h
                      obtain ⟨v_r1283, h1079, h⟩ := bind_some h
                      cases h
                      exact pkk_sound TTok mix hF 19 (hs := [.t false, .h [1] [] [.row 24 3 (v_r1273.2.2.map eS_rmap_Pair)] (.tup [.d (.v (.int .i64 v_r1273.1)), .d (.v (.bool v_r1273.2.1))]), .t false, .h [1] [] [.row 24 3 (v_r1283.map eS_rmap_Pair)] (.tup [])]) (ts := []) (s := [0, 1]) (l := [0, 1, 2, 3, 4, 10, 11]) (by kernel_rfl) (by kernel_rfl) (.cons (vf h1070) (.cons (G_slices_partitionCmpFunc_rmap_Pair_h_ok n v_z1264 v_a478 v_b479 v_z1240 v_cmp477 v_cmp477_g v_cmp477_c v_cmp477_h _ h1072) (.cons (show (8 : Int) ≠ 0 by decide) (.cons (df h1077) (.cons (v_rec1170_h v_r1273.2.2 (wi .i64 (v_r1273.1 + 1)) v_b479 v_z1228 _ h1079) .nil))))) q
            · rw [if_neg h1047] at h
              obtain ⟨v_o1300, h1092, h⟩ := bind_some h
              refine pkk_sound TTok mix hF 7 (hs := [.t true, .t false, .c, .c]) (ts := []) (s := [0, 1]) (l := [0, 1, 2, 3, 4, 10, 11, 12, 13]) (by kernel_rfl) (by kernel_rfl) (.cons h1046 (.cons (vf h1047) .nil)) (G_slices_pdqsortCmpFunc_rmap_Pair_h_C5_ok hF (.s (cR (cL (cR (cR (cR (cR (cR (cR (cR (cB (cP (cB (cR (cR (bodyOf Try.f35))))))))))))))) :: .s (cR (cR (cR (cR (cR (cR (cR (cR (cB (cP (cB (cR (cR (bodyOf Try.f35)))))))))))))) :: .b 1 :: ks) n v_a478 v_b479 v_z1228 v_cmp477 v_wasBalanced481 v_wasPartitioned482 v_z1240 v_z1242 v_cmp477_g v_cmp477_c v_cmp477_h _ h1092 ?_)
              cases v_o1300 with
              | x0 v_z1301 v_z1302 =>
                try dsimp only at h
                by_cases h1095 : v_z1301 = true
                · rw [if_pos h1095] at h
                  obtain ⟨v_r1304, h1096, h⟩ := bind_some h
                  cases h
                  exact pkk_sound TTok mix hF 8 (hs := [.t true, .h [1] [] [.row 24 3 (v_r1304.2.map eS_rmap_Pair)] (.d (.v (.int .i64 v_r1304.1)))]) (ts := []) (s := [0, 1]) (l := [0, 1, 2, 3, 4, 10, 11]) (by kernel_rfl) (by kernel_rfl) (.cons h1095 (.cons (G_slices_partitionEqualCmpFunc_rmap_Pair_h_ok n v_z1302 v_a478 v_b479 v_z1240 v_cmp477 v_cmp477_g v_cmp477_c v_cmp477_h _ h1096) .nil)) q
                · rw [if_neg h1095] at h
                  obtain ⟨v_r1311, h1097, h⟩ := bind_some h
                  by_cases h1102 : (wi .i64 (v_r1311.1 - v_a478)) < (wi .i64 (v_b479 - v_r1311.1))
                  · rw [if_pos h1102] at h
                    obtain ⟨v_r1314, h1103, h⟩ := bind_some h
                    cases h
                    exact pkk_sound TTok mix hF 19 (hs := [.t false, .h [1] [] [.row 24 3 (v_r1311.2.2.map eS_rmap_Pair)] (.tup [.d (.v (.int .i64 v_r1311.1)), .d (.v (.bool v_r1311.2.1))]), .t true, .h [1] [] [.row 24 3 (v_r1314.map eS_rmap_Pair)] (.tup [])]) (ts := []) (s := [0, 1]) (l := [0, 1, 2, 3, 4, 10, 11]) (by kernel_rfl) (by kernel_rfl) (.cons (vf h1095) (.cons (G_slices_partitionCmpFunc_rmap_Pair_h_ok n v_z1302 v_a478 v_b479 v_z1240 v_cmp477 v_cmp477_g v_cmp477_c v_cmp477_h _ h1097) (.cons (show (8 : Int) ≠ 0 by decide) (.cons (dt h1102) (.cons (v_rec1170_h v_r1311.2.2 v_a478 v_r1311.1 v_z1228 _ h1103) .nil))))) q
                  · rw [if_neg h1102] at h
                    obtain ⟨v_r1321, h1104, h⟩ := bind_some h
                    cases h
                    exact pkk_sound TTok mix hF 19 (hs := [.t false, .h [1] [] [.row 24 3 (v_r1311.2.2.map eS_rmap_Pair)] (.tup [.d (.v (.int .i64 v_r1311.1)), .d (.v (.bool v_r1311.2.1))]), .t false, .h [1] [] [.row 24 3 (v_r1321.map eS_rmap_Pair)] (.tup [])]) (ts := []) (s := [0, 1]) (l := [0, 1, 2, 3, 4, 10, 11]) (by kernel_rfl) (by kernel_rfl) (.cons (vf h1095) (.cons (G_slices_partitionCmpFunc_rmap_Pair_h_ok n v_z1302 v_a478 v_b479 v_z1240 v_cmp477 v_cmp477_g v_cmp477_c v_cmp477_h _ h1097) (.cons (show (8 : Int) ≠ 0 by decide) (.cons (df h1102) (.cons (v_rec1170_h v_r1311.2.2 (wi .i64 (v_r1311.1 + 1)) v_b479 v_z1228 _ h1104) .nil))))) q
          · rw [if_neg h1046] at h
            obtain ⟨v_o1338, h1117, h⟩ := bind_some h
            refine pkk_sound TTok mix hF 7 (hs := [.t false, .c, .c, .c]) (ts := []) (s := [0, 1]) (l := [0, 1, 2, 3, 4, 10, 11, 12, 13]) (by kernel_rfl) (by kernel_rfl) (.cons (vf h1046) .nil) (G_slices_pdqsortCmpFunc_rmap_Pair_h_C6_ok hF (.s (cR (cL (cR (cR (cR (cR (cR (cR (cR (cB (cP (cB (cR (cR (bodyOf Try.f35))))))))))))))) :: .s (cR (cR (cR (cR (cR (cR (cR (cR (cB (cP (cB (cR (cR (bodyOf Try.f35)))))))))))))) :: .b 1 :: ks) n v_a478 v_b479 v_z1228 v_cmp477 v_wasBalanced481 v_wasPartitioned482 v_z1240 v_z1242 v_cmp477_g v_cmp477_c v_cmp477_h _ h1117 ?_)
            cases v_o1338 with
            | x0 v_z1339 v_z1340 =>
              try dsimp only at h
              by_cases h1120 : v_z1339 = true
              · rw [if_pos h1120] at h
                obtain ⟨v_r1342, h1121, h⟩ := bind_some h
                cases h
                exact pkk_sound TTok mix hF 8 (hs := [.t true, .h [1] [] [.row 24 3 (v_r1342.2.map eS_rmap_Pair)] (.d (.v (.int .i64 v_r1342.1)))]) (ts := []) (s := [0, 1]) (l := [0, 1, 2, 3, 4, 10, 11]) (by kernel_rfl) (by kernel_rfl) (.cons h1120 (.cons (G_slices_partitionEqualCmpFunc_rmap_Pair_h_ok n v_z1340 v_a478 v_b479 v_z1240 v_cmp477 v_cmp477_g v_cmp477_c v_cmp477_h _ h1121) .nil)) q
              · rw [if_neg h1120] at h
                obtain ⟨v_r1349, h1122, h⟩ := bind_some h
                by_cases h1127 : (wi .i64 (v_r1349.1 - v_a478)) < (wi .i64 (v_b479 - v_r1349.1))
                · rw [if_pos h1127] at h
                  obtain ⟨v_r1352, h1128, h⟩ := bind_some h
                  cases h
                  exact pkk_sound TTok mix hF 19 (hs := [.t false, .h [1] [] [.row 24 3 (v_r1349.2.2.map eS_rmap_Pair)] (.tup [.d (.v (.int .i64 v_r1349.1)), .d (.v (.bool v_r1349.2.1))]), .t true, .h [1] [] [.row 24 3 (v_r1352.map eS_rmap_Pair)] (.tup [])]) (ts := []) (s := [0, 1]) (l := [0, 1, 2, 3, 4, 10, 11]) (by kernel_rfl) (by kernel_rfl) (.cons (vf h1120) (.cons (G_slices_partitionCmpFunc_rmap_Pair_h_ok n v_z1340 v_a478 v_b479 v_z1240 v_cmp477 v_cmp477_g v_cmp477_c v_cmp477_h _ h1122) (.cons (show (8 : Int) ≠ 0 by decide) (.cons (dt h1127) (.cons (v_rec1170_h v_r1349.2.2 v_a478 v_r1349.1 v_z1228 _ h1128) .nil))))) q
                · rw [if_neg h1127] at h
                  obtain ⟨v_r1359, h1129, h⟩ := bind_some h
                  cases h
                  exact pkk_sound TTok mix hF 19 (hs := [.t false, .h [1] [] [.row 24 3 (v_r1349.2.2.map eS_rmap_Pair)] (.tup [.d (.v (.int .i64 v_r1349.1)), .d (.v (.bool v_r1349.2.1))]), .t false, .h [1] [] [.row 24 3 (v_r1359.map eS_rmap_Pair)] (.tup [])]) (ts := []) (s := [0, 1]) (l := [0, 1, 2, 3, 4, 10, 11]) (by kernel_rfl) (by kernel_rfl) (.cons (vf h1120) (.cons (G_slices_partitionCmpFunc_rmap_Pair_h_ok n v_z1340 v_a478 v_b479 v_z1240 v_cmp477 v_cmp477_g v_cmp477_c v_cmp477_h _ h1122) (.cons (show (8 : Int) ≠ 0 by decide) (.cons (df h1127) (.cons (v_rec1170_h v_r1349.2.2 (wi .i64 (v_r1349.1 + 1)) v_b479 v_z1228 _ h1129) .nil))))) q
inductive G_slices_pdqsortCmpFunc_rmap_Pair_h_L8_R where
  | x0 (v_w1368 : (List S_rmap_Pair))
def G_slices_pdqsortCmpFunc_rmap_Pair_h_L8_ex : G_slices_pdqsortCmpFunc_rmap_Pair_h_L8_R → Ex
  | .x0 _ => .ret
def G_slices_pdqsortCmpFunc_rmap_Pair_h_L8_st (v_cmp477 : (S_rmap_Pair → S_rmap_Pair → Option (Int))) (v_rec1170 : ((List S_rmap_Pair) → Int → Int → Int → Option ((List S_rmap_Pair)))) (v_cmp477_g : FuncId) (v_cmp477_c : (List PV)) : G_slices_pdqsortCmpFunc_rmap_Pair_h_L8_R → PS
  | .x0 v_w1368 => ⟨(dds 148 []), [.gh 0 (.srf 1), .row 24 3 (v_w1368.map eS_rmap_Pair)]⟩
def G_slices_pdqsortCmpFunc_rmap_Pair_h_L8_hd (v_cmp477 : (S_rmap_Pair → S_rmap_Pair → Option (Int))) (v_rec1170 : ((List S_rmap_Pair) → Int → Int → Int → Option ((List S_rmap_Pair)))) (v_cmp477_g : FuncId) (v_cmp477_c : (List PV)) (v_a478 : Int) (v_b479 : Int) (v_limit480 : Int) (v_wasBalanced481 : Bool) (v_wasPartitioned482 : Bool) (v_w483 : (List S_rmap_Pair)) : PS := ⟨(.srf 1 :: .d (.v (.int .i64 v_a478)) :: .d (.v (.int .i64 v_b479)) :: .d (.v (.int .i64 v_limit480)) :: .d (.clo v_cmp477_g v_cmp477_c) :: dd :: dd :: dd :: dd :: dd :: .d (.v (.bool v_wasBalanced481)) :: .d (.v (.bool v_wasPartitioned482)) :: (dds 136 [])), [.gh 0 (.srf 1), .row 24 3 (v_w483.map eS_rmap_Pair)]⟩
def G_slices_pdqsortCmpFunc_rmap_Pair_h_L8 (n : Nat) (v_cmp477 : (S_rmap_Pair → S_rmap_Pair → Option (Int))) (v_rec1170 : ((List S_rmap_Pair) → Int → Int → Int → Option ((List S_rmap_Pair)))) : Nat → Int → Int → Int → Bool → Bool → (List S_rmap_Pair) → Option G_slices_pdqsortCmpFunc_rmap_Pair_h_L8_R
  | 0, _, _, _, _, _, _ => none
  | k + 1, v_a478, v_b479, v_limit480, v_wasBalanced481, v_wasPartitioned482, v_w483 =>
    (G_slices_pdqsortCmpFunc_rmap_Pair_h_C7 n v_a478 v_b479 v_limit480 v_cmp477 v_wasBalanced481 v_wasPartitioned482 v_w483 v_rec1170).bind fun v_o1366 => match v_o1366 with
    | .x0 v_z1367 =>
      some (.x0 v_z1367)
    | .x1 v_z1369 v_z1370 v_z1371 v_z1372 v_z1373 v_z1374 =>
      G_slices_pdqsortCmpFunc_rmap_Pair_h_L8 n v_cmp477 v_rec1170 k v_z1369 v_z1370 v_z1371 v_z1372 v_z1373 v_z1374
theorem G_slices_pdqsortCmpFunc_rmap_Pair_h_L8_ok {Fi : Ex → PS → Prop} (hF : KC 148 Fi) (ks : List Fr) (n : Nat) (v_cmp477 : (S_rmap_Pair → S_rmap_Pair → Option (Int))) (v_rec1170 : ((List S_rmap_Pair) → Int → Int → Int → Option ((List S_rmap_Pair)))) (v_cmp477_g : FuncId) (v_cmp477_c : (List PV)) (v_cmp477_h : ∀ (x0 : S_rmap_Pair) (x1 : S_rmap_Pair) (r : Int), v_cmp477 x0 x1 = some r → Ret Try.prog v_cmp477_g ([eS_rmap_Pair x0, eS_rmap_Pair x1] ++ v_cmp477_c) ((eI .i64) r)) (v_rec1170_h : ∀ (x0 : (List S_rmap_Pair)) (x1 : Int) (x2 : Int) (x3 : Int) (r : (List S_rmap_Pair)), v_rec1170 x0 x1 x2 x3 = some r → RetH Try.prog 35 [.srf 0, .d ((eI .i64) x1), .d ((eI .i64) x2), .d ((eI .i64) x3), .d ((.clo v_cmp477_g v_cmp477_c))] [.row 24 3 (x0.map eS_rmap_Pair)] (.tup []) [.row 24 3 (r.map eS_rmap_Pair)]) : ∀ (k : Nat) (v_a478 : Int) (v_b479 : Int) (v_limit480 : Int) (v_wasBalanced481 : Bool) (v_wasPartitioned482 : Bool) (v_w483 : (List S_rmap_Pair)) (o : G_slices_pdqsortCmpFunc_rmap_Pair_h_L8_R), G_slices_pdqsortCmpFunc_rmap_Pair_h_L8 n v_cmp477 v_rec1170 k v_a478 v_b479 v_limit480 v_wasBalanced481 v_wasPartitioned482 v_w483 = some o → RunE Try.prog 148 Fi ks (G_slices_pdqsortCmpFunc_rmap_Pair_h_L8_ex o) (G_slices_pdqsortCmpFunc_rmap_Pair_h_L8_st v_cmp477 v_rec1170 v_cmp477_g v_cmp477_c o) → RunE Try.prog 148 Fi (.l k (cP (cB (cR (cR (bodyOf Try.f35))))) :: ks) .normal (G_slices_pdqsortCmpFunc_rmap_Pair_h_L8_hd v_cmp477 v_rec1170 v_cmp477_g v_cmp477_c v_a478 v_b479 v_limit480 v_wasBalanced481 v_wasPartitioned482 v_w483)
  | 0, v_a478, v_b479, v_limit480, v_wasBalanced481, v_wasPartitioned482, v_w483, o, h, q => by rw [G_slices_pdqsortCmpFunc_rmap_Pair_h_L8] at h; cases h
  | k + 1, v_a478, v_b479, v_limit480, v_wasBalanced481, v_wasPartitioned482, v_w483, o, h, q => by
    rw [G_slices_pdqsortCmpFunc_rmap_Pair_h_L8] at h
    obtain ⟨v_o1366, h1130, h⟩ := bind_some h
    refine pkk_sound TTok mix hF 1 (hs := []) (ts := []) (s := [0, 1]) (l := [0, 1, 2, 3, 4, 10, 11]) (by kernel_rfl) (by kernel_rfl) .nil (G_slices_pdqsortCmpFunc_rmap_Pair_h_C7_ok hF (.l k (cP (cB (cR (cR (bodyOf Try.f35))))) :: ks) n v_a478 v_b479 v_limit480 v_cmp477 v_wasBalanced481 v_wasPartitioned482 v_w483 v_rec1170 v_cmp477_g v_cmp477_c v_cmp477_h v_rec1170_h _ h1130 ?_)
    cases v_o1366 with
    | x0 v_z1367 =>
      try dsimp only at h
      cases h
      exact pkk_sound TTok mix hF 1 (hs := []) (ts := []) (s := [0, 1]) (l := []) (by kernel_rfl) (by kernel_rfl) .nil q
    | x1 v_z1369 v_z1370 v_z1371 v_z1372 v_z1373 v_z1374 =>
      try dsimp only at h
      exact pkk_sound TTok mix hF 0 (hs := []) (ts := []) (s := [0, 1]) (l := [0, 1, 2, 3, 4, 10, 11]) (by kernel_rfl) (by kernel_rfl) .nil (G_slices_pdqsortCmpFunc_rmap_Pair_h_L8_ok hF ks n v_cmp477 v_rec1170 v_cmp477_g v_cmp477_c v_cmp477_h v_rec1170_h k v_z1369 v_z1370 v_z1371 v_z1372 v_z1373 v_z1374 _ h q)
/- slices.pdqsortCmpFunc[ringhall/rmap.Pair] -/
def G_slices_pdqsortCmpFunc_rmap_Pair_h : Nat → (List S_rmap_Pair) → Int → Int → Int → (S_rmap_Pair → S_rmap_Pair → Option (Int)) → Option ((List S_rmap_Pair))
  | 0, _, _, _, _, _ => none
  | n + 1, v_data473, v_a474, v_b475, v_limit476, v_cmp477 =>
  (G_slices_pdqsortCmpFunc_rmap_Pair_h_L8 n v_cmp477 (fun x0 x1 x2 x3 => G_slices_pdqsortCmpFunc_rmap_Pair_h n x0 x1 x2 x3 v_cmp477) n v_a474 v_b475 v_limit476 true true v_data473).bind fun v_o1375 => match v_o1375 with
  | .x0 v_z1376 =>
    some v_z1376
theorem G_slices_pdqsortCmpFunc_rmap_Pair_h_ok : ∀ (n : Nat) (v_data473 : (List S_rmap_Pair)) (v_a474 : Int) (v_b475 : Int) (v_limit476 : Int) (v_cmp477 : (S_rmap_Pair → S_rmap_Pair → Option (Int))) (v_cmp477_g : FuncId) (v_cmp477_c : List PV) (v_cmp477_h : ∀ (x0 : S_rmap_Pair) (x1 : S_rmap_Pair) (r : Int), v_cmp477 x0 x1 = some r → Ret Try.prog v_cmp477_g ([eS_rmap_Pair x0, eS_rmap_Pair x1] ++ v_cmp477_c) ((eI .i64) r)) (r : (List S_rmap_Pair)) (h : G_slices_pdqsortCmpFunc_rmap_Pair_h n v_data473 v_a474 v_b475 v_limit476 v_cmp477 = some r), RetH Try.prog 35 [.srf 0, .d ((eI .i64) v_a474), .d ((eI .i64) v_b475), .d ((eI .i64) v_limit476), .d ((.clo v_cmp477_g v_cmp477_c))] [.row 24 3 (v_data473.map eS_rmap_Pair)] (.tup []) [.row 24 3 (r.map eS_rmap_Pair)]
  | 0, v_data473, v_a474, v_b475, v_limit476, v_cmp477, v_cmp477_g, v_cmp477_c, v_cmp477_h, r, h => by rw [G_slices_pdqsortCmpFunc_rmap_Pair_h] at h; cases h
  | n + 1, v_data473, v_a474, v_b475, v_limit476, v_cmp477, v_cmp477_g, v_cmp477_c, v_cmp477_h, r, h => by
    refine retH_run (n := 148) (fn := Try.f35) (c := bodyOf Try.f35) (by kernel_rfl) (by kernel_rfl) (by kernel_rfl) (by kernel_rfl) ?_
    have hF : KC 148 (FinH Try.prog Try.f35 [.row 24 3 (v_data473.map eS_rmap_Pair)] (.tup []) [.row 24 3 (r.map eS_rmap_Pair)]) := FinH.kc' (by kernel_rfl)
    rw [G_slices_pdqsortCmpFunc_rmap_Pair_h] at h
    obtain ⟨v_o1375, h1131, h⟩ := bind_some h
    refine pkk_sound TTok mix hF 6 (hs := [.n n]) (ts := []) (s := [1, 0]) (l := [0, 1, 2, 3, 4, 10, 11]) (by kernel_rfl) (by kernel_rfl) .nil (G_slices_pdqsortCmpFunc_rmap_Pair_h_L8_ok hF (.b 0 :: []) n v_cmp477 (fun x0 x1 x2 x3 => G_slices_pdqsortCmpFunc_rmap_Pair_h n x0 x1 x2 x3 v_cmp477) v_cmp477_g v_cmp477_c v_cmp477_h (fun x0 x1 x2 x3 r h => G_slices_pdqsortCmpFunc_rmap_Pair_h_ok n x0 x1 x2 x3 v_cmp477 v_cmp477_g v_cmp477_c v_cmp477_h r h) n v_a474 v_b475 v_limit476 true true v_data473 _ h1131 ?_)
    cases v_o1375 with
    | x0 v_z1376 =>
      try dsimp only at h
      obtain rfl := Option.some.inj h
      exact pendH_sound TTok mix 1 (hs := []) [1] (by kernel_rfl) (by kernel_rfl) (by kernel_rfl) .nil
/- slices.SortFunc[[]ringhall/rmap.Pair,ringhall/rmap.Pair] -/
def G_slices_SortFunc_rmap_Pair_rmap_Pair_h (n : Nat) (v_x414 : (List S_rmap_Pair)) (v_cmp415 : (S_rmap_Pair → S_rmap_Pair → Option (Int))) : Option ((List S_rmap_Pair)) :=
  (G_math_bits_Len n (wi .u64 (v_x414.length : Int))).bind fun (v_r472 : (Int)) =>
  (G_slices_pdqsortCmpFunc_rmap_Pair_h n v_x414 0 (v_x414.length : Int) v_r472 v_cmp415).bind fun (v_r1377 : ((List S_rmap_Pair))) =>
  some v_r1377
theorem G_slices_SortFunc_rmap_Pair_rmap_Pair_h_ok (n : Nat) (v_x414 : (List S_rmap_Pair)) (v_cmp415 : (S_rmap_Pair → S_rmap_Pair → Option (Int))) (v_cmp415_g : FuncId) (v_cmp415_c : List PV) (v_cmp415_h : ∀ (x0 : S_rmap_Pair) (x1 : S_rmap_Pair) (r : Int), v_cmp415 x0 x1 = some r → Ret Try.prog v_cmp415_g ([eS_rmap_Pair x0, eS_rmap_Pair x1] ++ v_cmp415_c) ((eI .i64) r)) (r : (List S_rmap_Pair)) (h : G_slices_SortFunc_rmap_Pair_rmap_Pair_h n v_x414 v_cmp415 = some r) : RetH Try.prog 26 [.srf 0, .d ((.clo v_cmp415_g v_cmp415_c))] [.row 24 3 (v_x414.map eS_rmap_Pair)] (.tup []) [.row 24 3 (r.map eS_rmap_Pair)] := by
  refine retH_run (n := 14) (fn := Try.f26) (c := bodyOf Try.f26) (by kernel_rfl) (by kernel_rfl) (by kernel_rfl) (by kernel_rfl) ?_
  have hF : KC 14 (FinH Try.prog Try.f26 [.row 24 3 (v_x414.map eS_rmap_Pair)] (.tup []) [.row 24 3 (r.map eS_rmap_Pair)]) := FinH.kc' (by kernel_rfl)
  unfold G_slices_SortFunc_rmap_Pair_rmap_Pair_h at h
  obtain ⟨v_r472, h329, h⟩ := bind_some h
  obtain ⟨v_r1377, h1132, h⟩ := bind_some h
  obtain rfl := Option.some.inj h
  exact pendH_sound TTok mix 3 (hs := [.u (.d (.v (.int .i64 (v_x414.length : Int)))), .r ((eI .i64) v_r472), .h [0] [] [.row 24 3 (v_r1377.map eS_rmap_Pair)] (.tup [])]) [0] (by kernel_rfl) (by kernel_rfl) (by kernel_rfl) (.cons (len_ob (f := eS_rmap_Pair) (l := v_x414)) (.cons (G_math_bits_Len_ok n (wi .u64 (v_x414.length : Int)) _ h329) (.cons (G_slices_pdqsortCmpFunc_rmap_Pair_h_ok n v_x414 0 (v_x414.length : Int) v_r472 v_cmp415 v_cmp415_g v_cmp415_c v_cmp415_h _ h1132) .nil)))
inductive G_rmap_Move_C1_R where
  | x0 (v_e370 : Int)
def G_rmap_Move_C1_ex : G_rmap_Move_C1_R → Ex
  | .x0 _ => .normal
def G_rmap_Move_C1_st (v_l359 : (List S_rmap_Pair)) (v_from360 : Int) (v_to361 : Int) (v_r362 : (Int)) : G_rmap_Move_C1_R → PS
  | .x0 v_e370 => ⟨(.d (.sl (v_l359.map eS_rmap_Pair)) :: .d (.v (.int .i64 v_from360)) :: .d (.v (.int .i64 v_to361)) :: dd :: dd :: dd :: dd :: dd :: dd :: .d (.v (.int .i64 v_e370)) :: (dds 42 [])), []⟩
def G_rmap_Move_C1_hd (v_l359 : (List S_rmap_Pair)) (v_from360 : Int) (v_to361 : Int) (v_r362 : (Int))  : PS := ⟨(.d (.sl (v_l359.map eS_rmap_Pair)) :: .d (.v (.int .i64 v_from360)) :: .d (.v (.int .i64 v_to361)) :: dd :: dd :: dd :: dd :: dd :: dd :: .d (.v (.int .i64 v_r362)) :: (dds 9 (.d (.v (.bool (v_r362 == 0))) :: (dds 32 [])))), []⟩
def G_rmap_Move_C1 (n : Nat) (v_l359 : (List S_rmap_Pair)) (v_from360 : Int) (v_to361 : Int) (v_r362 : (Int)) : Option G_rmap_Move_C1_R :=
  if v_r362 = 0 then
   (G_rmap_check n v_l359 (S_rmap_Pair.mk v_to361 1 0)).bind fun (v_r369 : (Int)) =>
   some (.x0 v_r369)
  else
   some (.x0 v_r362)
theorem G_rmap_Move_C1_ok {Fi : Ex → PS → Prop} (hF : KC 52 Fi) (ks : List Fr) (n : Nat) (v_l359 : (List S_rmap_Pair)) (v_from360 : Int) (v_to361 : Int) (v_r362 : (Int))  (o : G_rmap_Move_C1_R) (h : G_rmap_Move_C1 n v_l359 v_from360 v_to361 v_r362 = some o) (q : RunE Try.prog 52 Fi ks (G_rmap_Move_C1_ex o) (G_rmap_Move_C1_st v_l359 v_from360 v_to361 v_r362 o)) : RunE Try.prog 52 Fi (.s (cR (cL (cR (cR (bodyOf Try.f8))))) :: ks) .normal (G_rmap_Move_C1_hd v_l359 v_from360 v_to361 v_r362) := by
  unfold G_rmap_Move_C1 at h
  by_cases h268 : v_r362 = 0
  · rw [if_pos h268] at h
    obtain ⟨v_r369, h269, h⟩ := bind_some h
    cases h
    exact pkk_sound TTok mix hF 2 (hs := [.t true, .r ((eI .i64) v_r369)]) (ts := []) (s := []) (l := [0, 1, 2, 9]) (by kernel_rfl) (by kernel_rfl) (.cons (bt h268) (.cons (G_rmap_check_ok n v_l359 (S_rmap_Pair.mk v_to361 1 0) _ h269) .nil)) q
  · rw [if_neg h268] at h
    cases h
    exact pkk_sound TTok mix hF 2 (hs := [.t false]) (ts := []) (s := []) (l := [0, 1, 2, 9]) (by kernel_rfl) (by kernel_rfl) (.cons (bf h268) .nil) q
inductive G_rmap_Move_L2_R where
  | x0 (v_n409 : Int) (v_w410 : (List S_rmap_Pair))
def G_rmap_Move_L2_ex : G_rmap_Move_L2_R → Ex
  | .x0 _ _ => .exit 0
def G_rmap_Move_L2_st (v_from360 : Int) (v_to361 : Int) (v_r383 : ((List S_rmap_Pair))) : G_rmap_Move_L2_R → PS
  | .x0 v_n409 v_w410 => ⟨(dds 10 (.srf 0 :: .d (.v (.int .i64 v_n409)) :: (dds 40 []))), [.row 24 3 (v_w410.map eS_rmap_Pair)]⟩
def G_rmap_Move_L2_hd (v_from360 : Int) (v_to361 : Int) (v_r383 : ((List S_rmap_Pair))) (v_n400 : Int) (v_x401 : Int) (v_w402 : (List S_rmap_Pair)) : PS := ⟨(dd :: .d (.v (.int .i64 v_from360)) :: .d (.v (.int .i64 v_to361)) :: dd :: dd :: dd :: dd :: dd :: dd :: dd :: .srf 0 :: .d (.v (.int .i64 v_n400)) :: (dds 17 (.srf 0 :: .d (.v (.int .i64 (v_r383.length : Int))) :: .d (.v (.int .i64 v_x401)) :: (dds 20 [])))), [.row 24 3 (v_w402.map eS_rmap_Pair)]⟩
def G_rmap_Move_L2 (n : Nat) (v_from360 : Int) (v_to361 : Int) (v_r383 : ((List S_rmap_Pair))) : Nat → Int → Int → (List S_rmap_Pair) → Option G_rmap_Move_L2_R
  | 0, _, _, _ => none
  | k + 1, v_n400, v_x401, v_w402 =>
    if v_x401 < (v_r383.length : Int) then
     if 0 ≤ v_x401 ∧ (v_x401).toNat < v_w402.length then
      (v_w402[(v_x401).toNat]?).bind fun (v_y406 : S_rmap_Pair) =>
      if v_y406.fFrame = v_from360 then
       if 0 ≤ v_x401 ∧ (v_x401).toNat < v_w402.length then
        (v_w402[(v_x401).toNat]?).bind fun (v_y408 : S_rmap_Pair) =>
        G_rmap_Move_L2 n v_from360 v_to361 v_r383 k (wi .i64 (v_n400 + 1)) (wi .i64 (v_x401 + 1)) (v_w402.set (v_x401).toNat (S_rmap_Pair.mk v_to361 v_y408.fSpace v_y408.fPage))
       else none
      else
       G_rmap_Move_L2 n v_from360 v_to361 v_r383 k v_n400 (wi .i64 (v_x401 + 1)) v_w402
     else none
    else
     some (.x0 v_n400 v_w402)
theorem G_rmap_Move_L2_ok {Fi : Ex → PS → Prop} (hF : KC 52 Fi) (ks : List Fr) (n : Nat) (v_from360 : Int) (v_to361 : Int) (v_r383 : ((List S_rmap_Pair)))  : ∀ (k : Nat) (v_n400 : Int) (v_x401 : Int) (v_w402 : (List S_rmap_Pair)) (o : G_rmap_Move_L2_R), G_rmap_Move_L2 n v_from360 v_to361 v_r383 k v_n400 v_x401 v_w402 = some o → RunE Try.prog 52 Fi ks (G_rmap_Move_L2_ex o) (G_rmap_Move_L2_st v_from360 v_to361 v_r383 o) → RunE Try.prog 52 Fi (.l k (cP (cB (cR (cL (cR (cR (cR (cR (cR (cR (bodyOf Try.f8))))))))))) :: ks) .normal (G_rmap_Move_L2_hd v_from360 v_to361 v_r383 v_n400 v_x401 v_w402)
  | 0, v_n400, v_x401, v_w402, o, h, q => by rw [G_rmap_Move_L2] at h; cases h
  | k + 1, v_n400, v_x401, v_w402, o, h, q => by
    rw [G_rmap_Move_L2] at h
    by_cases h274 : v_x401 < (v_r383.length : Int)
    · rw [if_pos h274] at h
      by_cases h283 : 0 ≤ v_x401 ∧ (v_x401).toNat < v_w402.length
      · rw [if_pos h283] at h
        obtain ⟨v_y406, h284, h⟩ := bind_some h
        by_cases h288 : v_y406.fFrame = v_from360
        · rw [if_pos h288] at h
          by_cases h289 : 0 ≤ v_x401 ∧ (v_x401).toNat < v_w402.length
          · rw [if_pos h289] at h
            obtain ⟨v_y408, h290, h⟩ := bind_some h
            exact pkk_sound TTok mix hF 18 (hs := [.t true, .y (eS_rmap_Pair v_y406), .c, .c, .t true, .w ((v_w402.set (v_x401).toNat (S_rmap_Pair.mk v_to361 v_y408.fSpace v_y408.fPage)).map eS_rmap_Pair), .y (eS_rmap_Pair v_y408)]) (ts := []) (s := [0]) (l := [1, 2, 10, 11, 29, 30, 31]) (by kernel_rfl) (by kernel_rfl) (.cons (dt h274) (.cons (idx_ob (f := eS_rmap_Pair) h283) (.cons (get_ob (f := eS_rmap_Pair) h284) (.cons (show 0 + 3 ≤ 3 by decide) (.cons (bt h288) (.cons (idx_ob (f := eS_rmap_Pair) h289) (.cons (get_ob (f := eS_rmap_Pair) h290) (.cons (Eq.refl (pcells (.agg [.v (.int .i64 v_to361), .v (.int .i64 v_y408.fSpace), .v (.int .i64 v_y408.fPage)]))) (.cons (set_ob (f := eS_rmap_Pair) (l := v_w402) (k := (v_x401).toNat) (z := (S_rmap_Pair.mk v_to361 v_y408.fSpace v_y408.fPage)) (p := .agg [.v (.int .i64 v_to361), .v (.int .i64 v_y408.fSpace), .v (.int .i64 v_y408.fPage)]) rfl) .nil))))))))) (G_rmap_Move_L2_ok hF ks n v_from360 v_to361 v_r383 k (wi .i64 (v_n400 + 1)) (wi .i64 (v_x401 + 1)) (v_w402.set (v_x401).toNat (S_rmap_Pair.mk v_to361 v_y408.fSpace v_y408.fPage)) _ h q)
          · rw [if_neg h289] at h; cases h
        · rw [if_neg h288] at h
          exact pkk_sound TTok mix hF 16 (hs := [.t true, .y (eS_rmap_Pair v_y406), .c, .c, .t false]) (ts := []) (s := [0]) (l := [1, 2, 10, 11, 29, 30, 31]) (by kernel_rfl) (by kernel_rfl) (.cons (dt h274) (.cons (idx_ob (f := eS_rmap_Pair) h283) (.cons (get_ob (f := eS_rmap_Pair) h284) (.cons (show 0 + 3 ≤ 3 by decide) (.cons (bf h288) .nil))))) (G_rmap_Move_L2_ok hF ks n v_from360 v_to361 v_r383 k v_n400 (wi .i64 (v_x401 + 1)) v_w402 _ h q)
      · rw [if_neg h283] at h; cases h
    · rw [if_neg h274] at h
      cases h
      exact pkk_sound TTok mix hF 8 (hs := [.t false]) (ts := []) (s := [0]) (l := [10, 11]) (by kernel_rfl) (by kernel_rfl) (.cons (df h274) .nil) q
/- ringhall/rmap.Move -/
def G_rmap_Move (n : Nat) (v_l359 : (List S_rmap_Pair)) (v_from360 : Int) (v_to361 : Int) : Option ((List S_rmap_Pair) × Int × Int) :=
  (G_rmap_check n v_l359 (S_rmap_Pair.mk v_from360 1 0)).bind fun (v_r362 : (Int)) =>
  (G_rmap_Move_C1 n v_l359 v_from360 v_to361 v_r362).bind fun v_o372 => match v_o372 with
  | .x0 v_z373 =>
    if v_z373 = 0 then
     (G_slices_Clone_rmap_Pair_rmap_Pair n v_l359).bind fun (v_r383 : ((List S_rmap_Pair))) =>
     (G_rmap_Move_L2 n v_from360 v_to361 v_r383 n 0 0 v_r383).bind fun v_o411 => match v_o411 with
     | .x0 v_z412 v_z413 =>
       (G_slices_SortFunc_rmap_Pair_rmap_Pair_h n v_z413 (fun (y0 : S_rmap_Pair) (y1 : S_rmap_Pair) => G_rmap_order n y0 y1)).bind fun (v_r1378 : ((List S_rmap_Pair))) =>
       some (v_r1378, v_z412, 0)
    else
     some (([] : (List S_rmap_Pair)), 0, v_z373)
theorem G_rmap_Move_ok (n : Nat) (v_l359 : (List S_rmap_Pair)) (v_from360 : Int) (v_to361 : Int) (r : (List S_rmap_Pair) × Int × Int) (h : G_rmap_Move n v_l359 v_from360 v_to361 = some r) : Ret Try.prog 8 [(eL eS_rmap_Pair) v_l359, (eI .i64) v_from360, (eI .i64) v_to361] (.tup [(eL eS_rmap_Pair) r.1, (eI .i64) r.2.1, (eI .i64) r.2.2]) := by
  refine ret_run (n := 52) (fn := Try.f8) (c := bodyOf Try.f8) (by kernel_rfl) (by kernel_rfl) (by kernel_rfl) (by kernel_rfl) ?_
  have hF : KC 52 (FinR Try.prog Try.f8 (.tup [(eL eS_rmap_Pair) r.1, (eI .i64) r.2.1, (eI .i64) r.2.2])) := FinR.kc' (by kernel_rfl)
  unfold G_rmap_Move at h
  obtain ⟨v_r362, h265, h⟩ := bind_some h
  obtain ⟨v_o372, h270, h⟩ := bind_some h
  refine pkk_sound TTok mix hF 7 (hs := [.r ((eI .i64) v_r362)]) (ts := []) (s := []) (l := [0, 1, 2, 9, 19]) (by kernel_rfl) (by kernel_rfl) (.cons (G_rmap_check_ok n v_l359 (S_rmap_Pair.mk v_from360 1 0) _ h265) .nil) (G_rmap_Move_C1_ok hF (.s (cR (cR (cR (bodyOf Try.f8)))) :: []) n v_l359 v_from360 v_to361 v_r362 _ h270 ?_)
  cases v_o372 with
  | x0 v_z373 =>
    try dsimp only at h
    by_cases h272 : v_z373 = 0
    · rw [if_pos h272] at h
      obtain ⟨v_r383, h273, h⟩ := bind_some h
      obtain ⟨v_o411, h291, h⟩ := bind_some h
      refine pkk_sound TTok mix hF 14 (hs := [.t false, .h [] [] [.row 24 3 (v_r383.map eS_rmap_Pair)] (.srf 0), .u (.d (.v (.int .i64 (v_r383.length : Int)))), .n n]) (ts := []) (s := [15]) (l := [1, 2, 10, 11, 29, 30, 31]) (by kernel_rfl) (by kernel_rfl) (.cons (nf h272) (.cons (G_slices_Clone_rmap_Pair_rmap_Pair_ok n v_l359 _ h273) (.cons (len_ob (f := eS_rmap_Pair) (l := v_r383)) .nil))) (G_rmap_Move_L2_ok hF (.b 0 :: .s (cR (cR (cR (cR (cR (cR (cR (bodyOf Try.f8)))))))) :: []) n v_from360 v_to361 v_r383 n 0 0 v_r383 _ h291 ?_)
      cases v_o411 with
      | x0 v_z412 v_z413 =>
        try dsimp only at h
        obtain ⟨v_r1378, h1133, h⟩ := bind_some h
        obtain rfl := Option.some.inj h
        exact pend_sound TTok mix 6 (hs := [.h [0] [] [.row 24 3 (v_r1378.map eS_rmap_Pair)] (.tup [])]) (by kernel_rfl) (by kernel_rfl) (by kernel_rfl) (.cons (G_slices_SortFunc_rmap_Pair_rmap_Pair_h_ok n v_z413 (fun (y0 : S_rmap_Pair) (y1 : S_rmap_Pair) => G_rmap_order n y0 y1) 20 [] (fun y0 y1 r h => G_rmap_order_ok n y0 y1 r h) _ h1133) .nil)
    · rw [if_neg h272] at h
      obtain rfl := Option.some.inj h
      exact pend_sound TTok mix 8 (hs := [.t true]) (by kernel_rfl) (by kernel_rfl) (by kernel_rfl) (.cons (nt h272) .nil)
/- ringhall/ringref2.In -/
def G_ringref2_In (n : Nat) (v_n1418 : Int) (v_least1419 : Int) (v_most1420 : Int) : Option (Bool) :=
  if v_n1418 ≥ v_least1419 then
   some (decide (v_n1418 ≤ v_most1420))
  else
   some false
theorem G_ringref2_In_ok (n : Nat) (v_n1418 : Int) (v_least1419 : Int) (v_most1420 : Int) (r : Bool) (h : G_ringref2_In n v_n1418 v_least1419 v_most1420 = some r) : Ret Try.prog 14 [(eI .i64) v_n1418, (eI .i64) v_least1419, (eI .i64) v_most1420] (eB r) := by
  refine ret_run (n := 15) (fn := Try.f14) (c := bodyOf Try.f14) (by kernel_rfl) (by kernel_rfl) (by kernel_rfl) (by kernel_rfl) ?_
  have hF : KC 15 (FinR Try.prog Try.f14 (eB r)) := FinR.kc' (by kernel_rfl)
  unfold G_ringref2_In at h
  by_cases h1138 : v_n1418 ≥ v_least1419
  · rw [if_pos h1138] at h
    obtain rfl := Option.some.inj h
    exact pend_sound TTok mix 5 (hs := [.t true, .c, .c]) (by kernel_rfl) (by kernel_rfl) (by kernel_rfl) (.cons (dt h1138) .nil)
  · rw [if_neg h1138] at h
    obtain rfl := Option.some.inj h
    exact pend_sound TTok mix 5 (hs := [.t false, .c, .c]) (by kernel_rfl) (by kernel_rfl) (by kernel_rfl) (.cons (df h1138) .nil)
/- ringhall/ringref2.PageOf -/
def G_ringref2_PageOf (n : Nat) (v_space1422 : Int) (v_page1423 : Int) : Option (Bool) :=
  (G_ringref2_In n v_space1422 1 16).bind fun (v_r1424 : (Bool)) =>
  if v_r1424 = true then
   (G_ringref2_In n v_page1423 0 63).bind fun (v_r1425 : (Bool)) =>
   some v_r1425
  else
   some false
theorem G_ringref2_PageOf_ok (n : Nat) (v_space1422 : Int) (v_page1423 : Int) (r : Bool) (h : G_ringref2_PageOf n v_space1422 v_page1423 = some r) : Ret Try.prog 12 [(eI .i64) v_space1422, (eI .i64) v_page1423] (eB r) := by
  refine ret_run (n := 11) (fn := Try.f12) (c := bodyOf Try.f12) (by kernel_rfl) (by kernel_rfl) (by kernel_rfl) (by kernel_rfl) ?_
  have hF : KC 11 (FinR Try.prog Try.f12 (eB r)) := FinR.kc' (by kernel_rfl)
  unfold G_ringref2_PageOf at h
  obtain ⟨v_r1424, h1141, h⟩ := bind_some h
  by_cases h1142 : v_r1424 = true
  · rw [if_pos h1142] at h
    obtain ⟨v_r1425, h1143, h⟩ := bind_some h
    obtain rfl := Option.some.inj h
    exact pend_sound TTok mix 5 (hs := [.r (eB v_r1424), .t true, .c, .r (eB v_r1425)]) (by kernel_rfl) (by kernel_rfl) (by kernel_rfl) (.cons (G_ringref2_In_ok n v_space1422 1 16 _ h1141) (.cons h1142 (.cons (G_ringref2_In_ok n v_page1423 0 63 _ h1143) .nil)))
  · rw [if_neg h1142] at h
    obtain rfl := Option.some.inj h
    exact pend_sound TTok mix 5 (hs := [.r (eB v_r1424), .t false, .c]) (by kernel_rfl) (by kernel_rfl) (by kernel_rfl) (.cons (G_ringref2_In_ok n v_space1422 1 16 _ h1141) (.cons (vf h1142) .nil))
/- ringhall/ringref2.PairIs -/
def G_ringref2_PairIs (n : Nat) (v_p1417 : S_rmap_Pair) : Option (Bool) :=
  (G_ringref2_In n v_p1417.fFrame 0 63).bind fun (v_r1427 : (Bool)) =>
  if v_r1427 = true then
   (G_ringref2_PageOf n v_p1417.fSpace v_p1417.fPage).bind fun (v_r1428 : (Bool)) =>
   some v_r1428
  else
   some false
theorem G_ringref2_PairIs_ok (n : Nat) (v_p1417 : S_rmap_Pair) (r : Bool) (h : G_ringref2_PairIs n v_p1417 = some r) : Ret Try.prog 13 [eS_rmap_Pair v_p1417] (eB r) := by
  refine ret_run (n := 13) (fn := Try.f13) (c := bodyOf Try.f13) (by kernel_rfl) (by kernel_rfl) (by kernel_rfl) (by kernel_rfl) ?_
  have hF : KC 13 (FinR Try.prog Try.f13 (eB r)) := FinR.kc' (by kernel_rfl)
  unfold G_ringref2_PairIs at h
  obtain ⟨v_r1427, h1145, h⟩ := bind_some h
  by_cases h1146 : v_r1427 = true
  · rw [if_pos h1146] at h
    obtain ⟨v_r1428, h1147, h⟩ := bind_some h
    obtain rfl := Option.some.inj h
    exact pend_sound TTok mix 5 (hs := [.c, .r (eB v_r1427), .t true, .c, .c, .c, .c, .c, .c, .r (eB v_r1428)]) (by kernel_rfl) (by kernel_rfl) (by kernel_rfl) (.cons (G_ringref2_In_ok n v_p1417.fFrame 0 63 _ h1145) (.cons h1146 (.cons (G_ringref2_PageOf_ok n v_p1417.fSpace v_p1417.fPage _ h1147) .nil)))
  · rw [if_neg h1146] at h
    obtain rfl := Option.some.inj h
    exact pend_sound TTok mix 5 (hs := [.c, .r (eB v_r1427), .t false, .c, .c, .c, .c]) (by kernel_rfl) (by kernel_rfl) (by kernel_rfl) (.cons (G_ringref2_In_ok n v_p1417.fFrame 0 63 _ h1145) (.cons (vf h1146) .nil))
/- ringhall/ringref2.PairAhead -/
def G_ringref2_PairAhead (n : Nat) (v_a1431 : S_rmap_Pair) (v_b1432 : S_rmap_Pair) : Option (Bool) :=
  if v_a1431.fFrame = v_b1432.fFrame then
   if v_a1431.fSpace = v_b1432.fSpace then
    some (decide (v_a1431.fPage < v_b1432.fPage))
   else
    some (decide (v_a1431.fSpace < v_b1432.fSpace))
  else
   some (decide (v_a1431.fFrame < v_b1432.fFrame))
theorem G_ringref2_PairAhead_ok (n : Nat) (v_a1431 : S_rmap_Pair) (v_b1432 : S_rmap_Pair) (r : Bool) (h : G_ringref2_PairAhead n v_a1431 v_b1432 = some r) : Ret Try.prog 27 [eS_rmap_Pair v_a1431, eS_rmap_Pair v_b1432] (eB r) := by
  refine ret_run (n := 30) (fn := Try.f27) (c := bodyOf Try.f27) (by kernel_rfl) (by kernel_rfl) (by kernel_rfl) (by kernel_rfl) ?_
  have hF : KC 30 (FinR Try.prog Try.f27 (eB r)) := FinR.kc' (by kernel_rfl)
  unfold G_ringref2_PairAhead at h
  by_cases h1153 : v_a1431.fFrame = v_b1432.fFrame
  · rw [if_pos h1153] at h
    by_cases h1155 : v_a1431.fSpace = v_b1432.fSpace
    · rw [if_pos h1155] at h
      obtain rfl := Option.some.inj h
      exact pend_sound TTok mix 15 (hs := [.c, .c, .t false, .c, .c, .t false, .c, .c]) (by kernel_rfl) (by kernel_rfl) (by kernel_rfl) (.cons (nf h1153) (.cons (nf h1155) .nil))
    · rw [if_neg h1155] at h
      obtain rfl := Option.some.inj h
      exact pend_sound TTok mix 15 (hs := [.c, .c, .t false, .c, .c, .t true, .c, .c]) (by kernel_rfl) (by kernel_rfl) (by kernel_rfl) (.cons (nf h1153) (.cons (nt h1155) .nil))
  · rw [if_neg h1153] at h
    obtain rfl := Option.some.inj h
    exact pend_sound TTok mix 10 (hs := [.c, .c, .t true, .c, .c]) (by kernel_rfl) (by kernel_rfl) (by kernel_rfl) (.cons (nt h1153) .nil)
inductive G_ringref2_Pairs_L1_R where
  | x0 (v_x1501 : Int)
  | x1 
def G_ringref2_Pairs_L1_ex : G_ringref2_Pairs_L1_R → Ex
  | .x0 _ => .ret
  | .x1  => .exit 0
def G_ringref2_Pairs_L1_st (v_l1406 : (List S_rmap_Pair)) : G_ringref2_Pairs_L1_R → PS
  | .x0 v_x1501 => ⟨(dd :: dd :: .d (.v (.int .i64 v_x1501)) :: (dds 42 [])), []⟩
  | .x1  => ⟨(dds 45 []), []⟩
def G_ringref2_Pairs_L1_hd (v_l1406 : (List S_rmap_Pair)) (v_x1483 : Int) (v_b1484 : (Fin 17 → (Fin 64 → Bool))) : PS := ⟨(.d (.sl (v_l1406.map eS_rmap_Pair)) :: dd :: dd :: .ref 0 0 :: dd :: dd :: dd :: dd :: dd :: .d (.sl (v_l1406.map eS_rmap_Pair)) :: .d (.v (.int .i64 (v_l1406.length : Int))) :: .d (.v (.int .i64 v_x1483)) :: (dds 33 [])), [.box ((cA_t55 v_b1484).map FV.d)]⟩
def G_ringref2_Pairs_L1 (n : Nat) (v_l1406 : (List S_rmap_Pair)) : Nat → Int → (Fin 17 → (Fin 64 → Bool)) → Option G_ringref2_Pairs_L1_R
  | 0, _, _ => none
  | k + 1, v_x1483, v_b1484 =>
    if v_x1483 < (v_l1406.length : Int) then
     (getI v_l1406 v_x1483).bind fun (v_y1499 : S_rmap_Pair) =>
     (G_ringref2_PairIs n v_y1499).bind fun (v_r1500 : (Bool)) =>
     if v_r1500 = true then
      if v_x1483 > 0 then
       (getI v_l1406 (wi .i64 (v_x1483 - 1))).bind fun (v_y1504 : S_rmap_Pair) =>
       (G_ringref2_PairAhead n v_y1504 v_y1499).bind fun (v_r1505 : (Bool)) =>
       if v_r1505 = true then
        if 0 ≤ v_y1499.fSpace ∧ v_y1499.fSpace < (17 : Int) then
         if 0 ≤ v_y1499.fPage ∧ v_y1499.fPage < (64 : Int) then
          (getA v_b1484 v_y1499.fSpace).bind fun (v_y1507 : (Fin 64 → Bool)) =>
          (getA v_y1507 v_y1499.fPage).bind fun (v_y1508 : Bool) =>
          if v_y1508 = true then
           some (.x0 5)
          else
           if 0 ≤ v_y1499.fSpace ∧ v_y1499.fSpace < (17 : Int) then
            if 0 ≤ v_y1499.fPage ∧ v_y1499.fPage < (64 : Int) then
             (getA v_b1484 v_y1499.fSpace).bind fun (v_y1510 : (Fin 64 → Bool)) =>
             (getA v_y1510 v_y1499.fPage).bind fun (v_y1511 : Bool) =>
             G_ringref2_Pairs_L1 n v_l1406 k (wi .i64 (v_x1483 + 1)) (setA v_b1484 v_y1499.fSpace (setA v_y1510 v_y1499.fPage true))
            else none
           else none
         else none
        else none
       else
        some (.x0 3)
      else
       if 0 ≤ v_y1499.fSpace ∧ v_y1499.fSpace < (17 : Int) then
        if 0 ≤ v_y1499.fPage ∧ v_y1499.fPage < (64 : Int) then
         (getA v_b1484 v_y1499.fSpace).bind fun (v_y1512 : (Fin 64 → Bool)) =>
         (getA v_y1512 v_y1499.fPage).bind fun (v_y1513 : Bool) =>
         if v_y1513 = true then
          some (.x0 5)
         else
          if 0 ≤ v_y1499.fSpace ∧ v_y1499.fSpace < (17 : Int) then
           if 0 ≤ v_y1499.fPage ∧ v_y1499.fPage < (64 : Int) then
            (getA v_b1484 v_y1499.fSpace).bind fun (v_y1515 : (Fin 64 → Bool)) =>
            (getA v_y1515 v_y1499.fPage).bind fun (v_y1516 : Bool) =>
            G_ringref2_Pairs_L1 n v_l1406 k (wi .i64 (v_x1483 + 1)) (setA v_b1484 v_y1499.fSpace (setA v_y1515 v_y1499.fPage true))
           else none
          else none
        else none
       else none
     else
      some (.x0 1)
    else
     some (.x1 )
theorem G_ringref2_Pairs_L1_ok {Fi : Ex → PS → Prop} (hF : KC 45 Fi) (ks : List Fr) (n : Nat) (v_l1406 : (List S_rmap_Pair))  : ∀ (k : Nat) (v_x1483 : Int) (v_b1484 : (Fin 17 → (Fin 64 → Bool))) (o : G_ringref2_Pairs_L1_R), G_ringref2_Pairs_L1 n v_l1406 k v_x1483 v_b1484 = some o → RunE Try.prog 45 Fi ks (G_ringref2_Pairs_L1_ex o) (G_ringref2_Pairs_L1_st v_l1406 o) → RunE Try.prog 45 Fi (.l k (cP (cB (cR (cL (cR (cR (cR (bodyOf Try.f9)))))))) :: ks) .normal (G_ringref2_Pairs_L1_hd v_l1406 v_x1483 v_b1484)
  | 0, v_x1483, v_b1484, o, h, q => by rw [G_ringref2_Pairs_L1] at h; cases h
  | k + 1, v_x1483, v_b1484, o, h, q => by
    rw [G_ringref2_Pairs_L1] at h
    by_cases h1198 : v_x1483 < (v_l1406.length : Int)
    · rw [if_pos h1198] at h
      obtain ⟨v_y1499, h1227, h⟩ := bind_some h
      obtain ⟨v_r1500, h1228, h⟩ := bind_some h
      by_cases h1229 : v_r1500 = true
      · rw [if_pos h1229] at h
        by_cases h1233 : v_x1483 > 0
        · rw [if_pos h1233] at h
          obtain ⟨v_y1504, h1234, h⟩ := bind_some h
          obtain ⟨v_r1505, h1235, h⟩ := bind_some h
          by_cases h1236 : v_r1505 = true
          · rw [if_pos h1236] at h
            by_cases h1237 : 0 ≤ v_y1499.fSpace ∧ v_y1499.fSpace < (17 : Int)
            · rw [if_pos h1237] at h
              by_cases h1238 : 0 ≤ v_y1499.fPage ∧ v_y1499.fPage < (64 : Int)
              · rw [if_pos h1238] at h
                obtain ⟨v_y1507, h1239, h⟩ := bind_some h
                obtain ⟨v_y1508, h1240, h⟩ := bind_some h
                by_cases h1241 : v_y1508 = true
                · rw [if_pos h1241] at h
                  cases h
                  exact pkk_sound TTok mix hF 31 (hs := [.t true, .y (eS_rmap_Pair v_y1499), .c, .c, .r (eB v_r1500), .t false, .t true, .c, .c, .c, .y (eS_rmap_Pair v_y1504), .c, .c, .c, .c, .r (eB v_r1505), .c, .t false, .c, .c, .l (.d (.v (.bool v_y1508))), .t true]) (ts := []) (s := []) (l := [2]) (by kernel_rfl) (by kernel_rfl) (.cons (dt h1198) (.cons (getI_ob (f := eS_rmap_Pair) h1227) (.cons (show 0 + 3 ≤ 3 by decide) (.cons (G_ringref2_PairIs_ok n v_y1499 _ h1228) (.cons (bnf h1229) (.cons (dt h1233) (.cons (getI_ob (f := eS_rmap_Pair) h1234) (.cons (G_ringref2_PairAhead_ok n v_y1504 v_y1499 _ h1235) (.cons (bnf h1236) (.cons h1237 (.cons h1238 (.cons (arr_cell2 (γ := FV) (sz := 64) (g := fvA_64_bool) (pre := []) (post := []) (P0 := 0) (o := 0 + (v_y1499.fPage).toNat * 1 + 0) rfl (fun _ => rfl) h1239 (arr_cell2 (γ := FV) (sz := 1) (g := (fun x => [.d (.v (.bool x))])) (pre := []) (post := []) (P0 := 0) (o := 0) rfl (fun _ => rfl) h1240 rfl (idx := 0 + (v_y1499.fPage).toNat * 1 + 0) (by omega)) (idx := 0 + (v_y1499.fSpace).toNat * 64 + (v_y1499.fPage).toNat * 1) (by omega)) (.cons h1241 .nil))))))))))))) q
                · rw [if_neg h1241] at h
                  by_cases h1242 : 0 ≤ v_y1499.fSpace ∧ v_y1499.fSpace < (17 : Int)
                  · rw [if_pos h1242] at h
                    by_cases h1243 : 0 ≤ v_y1499.fPage ∧ v_y1499.fPage < (64 : Int)
                    · rw [if_pos h1243] at h
                      obtain ⟨v_y1510, h1244, h⟩ := bind_some h
                      obtain ⟨v_y1511, h1245, h⟩ := bind_some h
                      exact pkk_sound TTok mix hF 28 (hs := [.t true, .y (eS_rmap_Pair v_y1499), .c, .c, .r (eB v_r1500), .t false, .t true, .c, .c, .c, .y (eS_rmap_Pair v_y1504), .c, .c, .c, .c, .r (eB v_r1505), .c, .t false, .c, .c, .l (.d (.v (.bool v_y1508))), .t false, .c, .c, .x ((cA_t55 (setA v_b1484 v_y1499.fSpace (setA v_y1510 v_y1499.fPage true))).map FV.d), .c]) (ts := []) (s := [0]) (l := [0, 3, 9, 10, 11]) (by kernel_rfl) (by kernel_rfl) (.cons (dt h1198) (.cons (getI_ob (f := eS_rmap_Pair) h1227) (.cons (show 0 + 3 ≤ 3 by decide) (.cons (G_ringref2_PairIs_ok n v_y1499 _ h1228) (.cons (bnf h1229) (.cons (dt h1233) (.cons (getI_ob (f := eS_rmap_Pair) h1234) (.cons (G_ringref2_PairAhead_ok n v_y1504 v_y1499 _ h1235) (.cons (bnf h1236) (.cons h1237 (.cons h1238 (.cons (arr_cell2 (γ := FV) (sz := 64) (g := fvA_64_bool) (pre := []) (post := []) (P0 := 0) (o := 0 + (v_y1499.fPage).toNat * 1 + 0) rfl (fun _ => rfl) h1239 (arr_cell2 (γ := FV) (sz := 1) (g := (fun x => [.d (.v (.bool x))])) (pre := []) (post := []) (P0 := 0) (o := 0) rfl (fun _ => rfl) h1240 rfl (idx := 0 + (v_y1499.fPage).toNat * 1 + 0) (by omega)) (idx := 0 + (v_y1499.fSpace).toNat * 64 + (v_y1499.fPage).toNat * 1) (by omega)) (.cons (vf h1241) (.cons h1242 (.cons h1243 (.cons (arr_store2 (γ := FV) (sz := 64) (g := fvA_64_bool) (pre := []) (post := []) (P0 := 0) (o := 0 + (v_y1499.fPage).toNat * 1 + 0) (y := (setA v_y1510 v_y1499.fPage true)) (zs := [.d (.v (.bool true))]) rfl (fun _ => rfl) h1244 (arr_store2 (γ := FV) (sz := 1) (g := (fun x => [.d (.v (.bool x))])) (pre := []) (post := []) (P0 := 0) (o := 0) (y := true) (zs := [.d (.v (.bool true))]) rfl (fun _ => rfl) h1245 rfl (Nat.le_of_ble_eq_true rfl) (idx := 0 + (v_y1499.fPage).toNat * 1 + 0) (by omega)).2 (arr_store2 (γ := FV) (sz := 1) (g := (fun x => [.d (.v (.bool x))])) (pre := []) (post := []) (P0 := 0) (o := 0) (y := true) (zs := [.d (.v (.bool true))]) rfl (fun _ => rfl) h1245 rfl (Nat.le_of_ble_eq_true rfl) (idx := 0 + (v_y1499.fPage).toNat * 1 + 0) (by omega)).1 (idx := 0 + (v_y1499.fSpace).toNat * 64 + (v_y1499.fPage).toNat * 1) (by omega)).1 (.cons (arr_store2 (γ := FV) (sz := 64) (g := fvA_64_bool) (pre := []) (post := []) (P0 := 0) (o := 0 + (v_y1499.fPage).toNat * 1 + 0) (y := (setA v_y1510 v_y1499.fPage true)) (zs := [.d (.v (.bool true))]) rfl (fun _ => rfl) h1244 (arr_store2 (γ := FV) (sz := 1) (g := (fun x => [.d (.v (.bool x))])) (pre := []) (post := []) (P0 := 0) (o := 0) (y := true) (zs := [.d (.v (.bool true))]) rfl (fun _ => rfl) h1245 rfl (Nat.le_of_ble_eq_true rfl) (idx := 0 + (v_y1499.fPage).toNat * 1 + 0) (by omega)).2 (arr_store2 (γ := FV) (sz := 1) (g := (fun x => [.d (.v (.bool x))])) (pre := []) (post := []) (P0 := 0) (o := 0) (y := true) (zs := [.d (.v (.bool true))]) rfl (fun _ => rfl) h1245 rfl (Nat.le_of_ble_eq_true rfl) (idx := 0 + (v_y1499.fPage).toNat * 1 + 0) (by omega)).1 (idx := 0 + (v_y1499.fSpace).toNat * 64 + (v_y1499.fPage).toNat * 1) (by omega)).2 .nil))))))))))))))))) (G_ringref2_Pairs_L1_ok hF ks n v_l1406 k (wi .i64 (v_x1483 + 1)) (setA v_b1484 v_y1499.fSpace (setA v_y1510 v_y1499.fPage true)) _ h q)
                    · rw [if_neg h1243] at h; cases h
                  · rw [if_neg h1242] at h; cases h
              · rw [if_neg h1238] at h; cases h
            · rw [if_neg h1237] at h; cases h
          · rw [if_neg h1236] at h
            cases h
            exact pkk_sound TTok mix hF 26 (hs := [.t true, .y (eS_rmap_Pair v_y1499), .c, .c, .r (eB v_r1500), .t false, .t true, .c, .c, .c, .y (eS_rmap_Pair v_y1504), .c, .c, .c, .c, .r (eB v_r1505), .c, .t true]) (ts := []) (s := []) (l := [2]) (by kernel_rfl) (by kernel_rfl) (.cons (dt h1198) (.cons (getI_ob (f := eS_rmap_Pair) h1227) (.cons (show 0 + 3 ≤ 3 by decide) (.cons (G_ringref2_PairIs_ok n v_y1499 _ h1228) (.cons (bnf h1229) (.cons (dt h1233) (.cons (getI_ob (f := eS_rmap_Pair) h1234) (.cons (G_ringref2_PairAhead_ok n v_y1504 v_y1499 _ h1235) (.cons (bnt (vf h1236)) .nil))))))))) q
        · rw [if_neg h1233] at h
          by_cases h1246 : 0 ≤ v_y1499.fSpace ∧ v_y1499.fSpace < (17 : Int)
          · rw [if_pos h1246] at h
            by_cases h1247 : 0 ≤ v_y1499.fPage ∧ v_y1499.fPage < (64 : Int)
            · rw [if_pos h1247] at h
              obtain ⟨v_y1512, h1248, h⟩ := bind_some h
              obtain ⟨v_y1513, h1249, h⟩ := bind_some h
              by_cases h1250 : v_y1513 = true
              · rw [if_pos h1250] at h
                cases h
                exact pkk_sound TTok mix hF 31 (hs := [.t true, .y (eS_rmap_Pair v_y1499), .c, .c, .r (eB v_r1500), .t false, .t false, .c, .c, .c, .c, .c, .c, .c, .c, .c, .c, .l (.d (.v (.bool v_y1513))), .t true]) (ts := []) (s := []) (l := [2]) (by kernel_rfl) (by kernel_rfl) (.cons (dt h1198) (.cons (getI_ob (f := eS_rmap_Pair) h1227) (.cons (show 0 + 3 ≤ 3 by decide) (.cons (G_ringref2_PairIs_ok n v_y1499 _ h1228) (.cons (bnf h1229) (.cons (df h1233) (.cons h1246 (.cons h1247 (.cons (arr_cell2 (γ := FV) (sz := 64) (g := fvA_64_bool) (pre := []) (post := []) (P0 := 0) (o := 0 + (v_y1499.fPage).toNat * 1 + 0) rfl (fun _ => rfl) h1248 (arr_cell2 (γ := FV) (sz := 1) (g := (fun x => [.d (.v (.bool x))])) (pre := []) (post := []) (P0 := 0) (o := 0) rfl (fun _ => rfl) h1249 rfl (idx := 0 + (v_y1499.fPage).toNat * 1 + 0) (by omega)) (idx := 0 + (v_y1499.fSpace).toNat * 64 + (v_y1499.fPage).toNat * 1) (by omega)) (.cons h1250 .nil)))))))))) q
              · rw [if_neg h1250] at h
                by_cases h1251 : 0 ≤ v_y1499.fSpace ∧ v_y1499.fSpace < (17 : Int)
                · rw [if_pos h1251] at h
                  by_cases h1252 : 0 ≤ v_y1499.fPage ∧ v_y1499.fPage < (64 : Int)
                  · rw [if_pos h1252] at h
                    obtain ⟨v_y1515, h1253, h⟩ := bind_some h
                    obtain ⟨v_y1516, h1254, h⟩ := bind_some h
                    exact pkk_sound TTok mix hF 28 (hs := [.t true, .y (eS_rmap_Pair v_y1499), .c, .c, .r (eB v_r1500), .t false, .t false, .c, .c, .c, .c, .c, .c, .c, .c, .c, .c, .l (.d (.v (.bool v_y1513))), .t false, .c, .c, .x ((cA_t55 (setA v_b1484 v_y1499.fSpace (setA v_y1515 v_y1499.fPage true))).map FV.d), .c]) (ts := []) (s := [0]) (l := [0, 3, 9, 10, 11]) (by kernel_rfl) (by kernel_rfl) (.cons (dt h1198) (.cons (getI_ob (f := eS_rmap_Pair) h1227) (.cons (show 0 + 3 ≤ 3 by decide) (.cons (G_ringref2_PairIs_ok n v_y1499 _ h1228) (.cons (bnf h1229) (.cons (df h1233) (.cons h1246 (.cons h1247 (.cons (arr_cell2 (γ := FV) (sz := 64) (g := fvA_64_bool) (pre := []) (post := []) (P0 := 0) (o := 0 + (v_y1499.fPage).toNat * 1 + 0) rfl (fun _ => rfl) h1248 (arr_cell2 (γ := FV) (sz := 1) (g := (fun x => [.d (.v (.bool x))])) (pre := []) (post := []) (P0 := 0) (o := 0) rfl (fun _ => rfl) h1249 rfl (idx := 0 + (v_y1499.fPage).toNat * 1 + 0) (by omega)) (idx := 0 + (v_y1499.fSpace).toNat * 64 + (v_y1499.fPage).toNat * 1) (by omega)) (.cons (vf h1250) (.cons h1251 (.cons h1252 (.cons (arr_store2 (γ := FV) (sz := 64) (g := fvA_64_bool) (pre := []) (post := []) (P0 := 0) (o := 0 + (v_y1499.fPage).toNat * 1 + 0) (y := (setA v_y1515 v_y1499.fPage true)) (zs := [.d (.v (.bool true))]) rfl (fun _ => rfl) h1253 (arr_store2 (γ := FV) (sz := 1) (g := (fun x => [.d (.v (.bool x))])) (pre := []) (post := []) (P0 := 0) (o := 0) (y := true) (zs := [.d (.v (.bool true))]) rfl (fun _ => rfl) h1254 rfl (Nat.le_of_ble_eq_true rfl) (idx := 0 + (v_y1499.fPage).toNat * 1 + 0) (by omega)).2 (arr_store2 (γ := FV) (sz := 1) (g := (fun x => [.d (.v (.bool x))])) (pre := []) (post := []) (P0 := 0) (o := 0) (y := true) (zs := [.d (.v (.bool true))]) rfl (fun _ => rfl) h1254 rfl (Nat.le_of_ble_eq_true rfl) (idx := 0 + (v_y1499.fPage).toNat * 1 + 0) (by omega)).1 (idx := 0 + (v_y1499.fSpace).toNat * 64 + (v_y1499.fPage).toNat * 1) (by omega)).1 (.cons (arr_store2 (γ := FV) (sz := 64) (g := fvA_64_bool) (pre := []) (post := []) (P0 := 0) (o := 0 + (v_y1499.fPage).toNat * 1 + 0) (y := (setA v_y1515 v_y1499.fPage true)) (zs := [.d (.v (.bool true))]) rfl (fun _ => rfl) h1253 (arr_store2 (γ := FV) (sz := 1) (g := (fun x => [.d (.v (.bool x))])) (pre := []) (post := []) (P0 := 0) (o := 0) (y := true) (zs := [.d (.v (.bool true))]) rfl (fun _ => rfl) h1254 rfl (Nat.le_of_ble_eq_true rfl) (idx := 0 + (v_y1499.fPage).toNat * 1 + 0) (by omega)).2 (arr_store2 (γ := FV) (sz := 1) (g := (fun x => [.d (.v (.bool x))])) (pre := []) (post := []) (P0 := 0) (o := 0) (y := true) (zs := [.d (.v (.bool true))]) rfl (fun _ => rfl) h1254 rfl (Nat.le_of_ble_eq_true rfl) (idx := 0 + (v_y1499.fPage).toNat * 1 + 0) (by omega)).1 (idx := 0 + (v_y1499.fSpace).toNat * 64 + (v_y1499.fPage).toNat * 1) (by omega)).2 .nil)))))))))))))) (G_ringref2_Pairs_L1_ok hF ks n v_l1406 k (wi .i64 (v_x1483 + 1)) (setA v_b1484 v_y1499.fSpace (setA v_y1515 v_y1499.fPage true)) _ h q)
                  · rw [if_neg h1252] at h; cases h
                · rw [if_neg h1251] at h; cases h
            · rw [if_neg h1247] at h; cases h
          · rw [if_neg h1246] at h; cases h
      · rw [if_neg h1229] at h
        cases h
        exact pkk_sound TTok mix hF 21 (hs := [.t true, .y (eS_rmap_Pair v_y1499), .c, .c, .r (eB v_r1500), .t true]) (ts := []) (s := []) (l := [2]) (by kernel_rfl) (by kernel_rfl) (.cons (dt h1198) (.cons (getI_ob (f := eS_rmap_Pair) h1227) (.cons (show 0 + 3 ≤ 3 by decide) (.cons (G_ringref2_PairIs_ok n v_y1499 _ h1228) (.cons (bnt (vf h1229)) .nil))))) q
    · rw [if_neg h1198] at h
      cases h
      exact pkk_sound TTok mix hF 8 (hs := [.t false]) (ts := []) (s := []) (l := []) (by kernel_rfl) (by kernel_rfl) (.cons (df h1198) .nil) q
/- ringhall/ringref2.Pairs -/
def G_ringref2_Pairs (n : Nat) (v_l1406 : (List S_rmap_Pair)) : Option (Int) :=
  if (v_l1406.length : Int) > 1024 then
   some 2
  else
   (G_ringref2_Pairs_L1 n v_l1406 n 0 (fun (_ : Fin 17) => (fun (_ : Fin 64) => false))).bind fun v_o1517 => match v_o1517 with
   | .x0 v_z1518 =>
     some v_z1518
   | .x1  =>
     some 0
theorem G_ringref2_Pairs_ok (n : Nat) (v_l1406 : (List S_rmap_Pair)) (r : Int) (h : G_ringref2_Pairs n v_l1406 = some r) : Ret Try.prog 9 [(eL eS_rmap_Pair) v_l1406] ((eI .i64) r) := by
  refine ret_run (n := 45) (fn := Try.f9) (c := bodyOf Try.f9) (by kernel_rfl) (by kernel_rfl) (by kernel_rfl) (by kernel_rfl) ?_
  have hF : KC 45 (FinR Try.prog Try.f9 ((eI .i64) r)) := FinR.kc' (by kernel_rfl)
  unfold G_ringref2_Pairs at h
  by_cases h1135 : (v_l1406.length : Int) > 1024
  · rw [if_pos h1135] at h
    obtain rfl := Option.some.inj h
    exact pend_sound TTok mix 10 (hs := [.u (.d (.v (.int .i64 (v_l1406.length : Int)))), .t true]) (by kernel_rfl) (by kernel_rfl) (by kernel_rfl) (.cons (len_ob (f := eS_rmap_Pair) (l := v_l1406)) (.cons (dt h1135) .nil))
  · rw [if_neg h1135] at h
    obtain ⟨v_o1517, h1255, h⟩ := bind_some h
    refine pkk_sound TTok mix hF 14 (hs := [.u (.d (.v (.int .i64 (v_l1406.length : Int)))), .t false, .u (.d (.v (.int .i64 (v_l1406.length : Int)))), .n n]) (ts := []) (s := [20]) (l := [0, 3, 9, 10, 11]) (by kernel_rfl) (by kernel_rfl) (.cons (len_ob (f := eS_rmap_Pair) (l := v_l1406)) (.cons (df h1135) (.cons (len_ob (f := eS_rmap_Pair) (l := v_l1406)) .nil))) (G_ringref2_Pairs_L1_ok hF (.b 0 :: .s (cR (cR (cR (cR (bodyOf Try.f9))))) :: []) n v_l1406 n 0 (fun (_ : Fin 17) => (fun (_ : Fin 64) => false)) _ h1255 ?_)
    cases v_o1517 with
    | x0 v_z1518 =>
      try dsimp only at h
      obtain rfl := Option.some.inj h
      exact pend_sound TTok mix 2 (hs := []) (by kernel_rfl) (by kernel_rfl) (by kernel_rfl) .nil
    | x1  =>
      try dsimp only at h
      obtain rfl := Option.some.inj h
      exact pend_sound TTok mix 4 (hs := []) (by kernel_rfl) (by kernel_rfl) (by kernel_rfl) .nil
inductive G_ringref2_PairGrid_L1_R where
  | x0 (v_b1768 : (Fin 17 → (Fin 64 → Int)))
def G_ringref2_PairGrid_L1_ex : G_ringref2_PairGrid_L1_R → Ex
  | .x0 _ => .exit 0
def G_ringref2_PairGrid_L1_st (v_l1738 : (List S_rmap_Pair)) : G_ringref2_PairGrid_L1_R → PS
  | .x0 v_b1768 => ⟨(dd :: dd :: .ref 0 0 :: .ref 1 0 :: (dds 19 [])), [.box ((cA_t36 (fun (_ : Fin 17) => (fun (_ : Fin 64) => 0))).map FV.d), .box ((cA_t36 v_b1768).map FV.d)]⟩
def G_ringref2_PairGrid_L1_hd (v_l1738 : (List S_rmap_Pair)) (v_x1760 : Int) (v_b1761 : (Fin 17 → (Fin 64 → Int))) : PS := ⟨(dd :: dd :: .ref 0 0 :: .ref 1 0 :: dd :: dd :: .d (.sl (v_l1738.map eS_rmap_Pair)) :: .d (.v (.int .i64 (v_l1738.length : Int))) :: .d (.v (.int .i64 v_x1760)) :: (dds 14 [])), [.box ((cA_t36 (fun (_ : Fin 17) => (fun (_ : Fin 64) => 0))).map FV.d), .box ((cA_t36 v_b1761).map FV.d)]⟩
def G_ringref2_PairGrid_L1 (n : Nat) (v_l1738 : (List S_rmap_Pair)) : Nat → Int → (Fin 17 → (Fin 64 → Int)) → Option G_ringref2_PairGrid_L1_R
  | 0, _, _ => none
  | k + 1, v_x1760, v_b1761 =>
    if v_x1760 < (v_l1738.length : Int) then
     (getI v_l1738 v_x1760).bind fun (v_y1765 : S_rmap_Pair) =>
     if 0 ≤ v_y1765.fSpace ∧ v_y1765.fSpace < (17 : Int) then
      if 0 ≤ v_y1765.fPage ∧ v_y1765.fPage < (64 : Int) then
       (getA v_b1761 v_y1765.fSpace).bind fun (v_y1766 : (Fin 64 → Int)) =>
       (getA v_y1766 v_y1765.fPage).bind fun (v_y1767 : Int) =>
       G_ringref2_PairGrid_L1 n v_l1738 k (wi .i64 (v_x1760 + 1)) (setA v_b1761 v_y1765.fSpace (setA v_y1766 v_y1765.fPage (wi .i64 (v_y1765.fFrame + 1))))
      else none
     else none
    else
     some (.x0 v_b1761)
theorem G_ringref2_PairGrid_L1_ok {Fi : Ex → PS → Prop} (hF : KC 23 Fi) (ks : List Fr) (n : Nat) (v_l1738 : (List S_rmap_Pair))  : ∀ (k : Nat) (v_x1760 : Int) (v_b1761 : (Fin 17 → (Fin 64 → Int))) (o : G_ringref2_PairGrid_L1_R), G_ringref2_PairGrid_L1 n v_l1738 k v_x1760 v_b1761 = some o → RunE Try.prog 23 Fi ks (G_ringref2_PairGrid_L1_ex o) (G_ringref2_PairGrid_L1_st v_l1738 o) → RunE Try.prog 23 Fi (.l k (cP (cB (cR (cL (cR (cR (bodyOf Try.f11))))))) :: ks) .normal (G_ringref2_PairGrid_L1_hd v_l1738 v_x1760 v_b1761)
  | 0, v_x1760, v_b1761, o, h, q => by rw [G_ringref2_PairGrid_L1] at h; cases h
  | k + 1, v_x1760, v_b1761, o, h, q => by
    rw [G_ringref2_PairGrid_L1] at h
    by_cases h1306 : v_x1760 < (v_l1738.length : Int)
    · rw [if_pos h1306] at h
      obtain ⟨v_y1765, h1312, h⟩ := bind_some h
      by_cases h1313 : 0 ≤ v_y1765.fSpace ∧ v_y1765.fSpace < (17 : Int)
      · rw [if_pos h1313] at h
        by_cases h1314 : 0 ≤ v_y1765.fPage ∧ v_y1765.fPage < (64 : Int)
        · rw [if_pos h1314] at h
          obtain ⟨v_y1766, h1315, h⟩ := bind_some h
          obtain ⟨v_y1767, h1316, h⟩ := bind_some h
          exact pkk_sound TTok mix hF 13 (hs := [.t true, .y (eS_rmap_Pair v_y1765), .c, .c, .c, .c, .x ((cA_t36 (setA v_b1761 v_y1765.fSpace (setA v_y1766 v_y1765.fPage (wi .i64 (v_y1765.fFrame + 1))))).map FV.d), .c]) (ts := []) (s := [0, 1]) (l := [2, 3, 6, 7, 8]) (by kernel_rfl) (by kernel_rfl) (.cons (dt h1306) (.cons (getI_ob (f := eS_rmap_Pair) h1312) (.cons (show 0 + 3 ≤ 3 by decide) (.cons h1313 (.cons h1314 (.cons (arr_store2 (γ := FV) (sz := 64) (g := fvA_64_int_i64) (pre := []) (post := []) (P0 := 0) (o := 0 + (v_y1765.fPage).toNat * 1 + 0) (y := (setA v_y1766 v_y1765.fPage (wi .i64 (v_y1765.fFrame + 1)))) (zs := [.d (.v (.int .i64 (wi .i64 (v_y1765.fFrame + 1))))]) rfl (fun _ => rfl) h1315 (arr_store2 (γ := FV) (sz := 1) (g := (fun x => [.d (.v (.int .i64 x))])) (pre := []) (post := []) (P0 := 0) (o := 0) (y := (wi .i64 (v_y1765.fFrame + 1))) (zs := [.d (.v (.int .i64 (wi .i64 (v_y1765.fFrame + 1))))]) rfl (fun _ => rfl) h1316 rfl (Nat.le_of_ble_eq_true rfl) (idx := 0 + (v_y1765.fPage).toNat * 1 + 0) (by omega)).2 (arr_store2 (γ := FV) (sz := 1) (g := (fun x => [.d (.v (.int .i64 x))])) (pre := []) (post := []) (P0 := 0) (o := 0) (y := (wi .i64 (v_y1765.fFrame + 1))) (zs := [.d (.v (.int .i64 (wi .i64 (v_y1765.fFrame + 1))))]) rfl (fun _ => rfl) h1316 rfl (Nat.le_of_ble_eq_true rfl) (idx := 0 + (v_y1765.fPage).toNat * 1 + 0) (by omega)).1 (idx := 0 + (v_y1765.fSpace).toNat * 64 + (v_y1765.fPage).toNat * 1) (by omega)).1 (.cons (arr_store2 (γ := FV) (sz := 64) (g := fvA_64_int_i64) (pre := []) (post := []) (P0 := 0) (o := 0 + (v_y1765.fPage).toNat * 1 + 0) (y := (setA v_y1766 v_y1765.fPage (wi .i64 (v_y1765.fFrame + 1)))) (zs := [.d (.v (.int .i64 (wi .i64 (v_y1765.fFrame + 1))))]) rfl (fun _ => rfl) h1315 (arr_store2 (γ := FV) (sz := 1) (g := (fun x => [.d (.v (.int .i64 x))])) (pre := []) (post := []) (P0 := 0) (o := 0) (y := (wi .i64 (v_y1765.fFrame + 1))) (zs := [.d (.v (.int .i64 (wi .i64 (v_y1765.fFrame + 1))))]) rfl (fun _ => rfl) h1316 rfl (Nat.le_of_ble_eq_true rfl) (idx := 0 + (v_y1765.fPage).toNat * 1 + 0) (by omega)).2 (arr_store2 (γ := FV) (sz := 1) (g := (fun x => [.d (.v (.int .i64 x))])) (pre := []) (post := []) (P0 := 0) (o := 0) (y := (wi .i64 (v_y1765.fFrame + 1))) (zs := [.d (.v (.int .i64 (wi .i64 (v_y1765.fFrame + 1))))]) rfl (fun _ => rfl) h1316 rfl (Nat.le_of_ble_eq_true rfl) (idx := 0 + (v_y1765.fPage).toNat * 1 + 0) (by omega)).1 (idx := 0 + (v_y1765.fSpace).toNat * 64 + (v_y1765.fPage).toNat * 1) (by omega)).2 .nil))))))) (G_ringref2_PairGrid_L1_ok hF ks n v_l1738 k (wi .i64 (v_x1760 + 1)) (setA v_b1761 v_y1765.fSpace (setA v_y1766 v_y1765.fPage (wi .i64 (v_y1765.fFrame + 1)))) _ h q)
        · rw [if_neg h1314] at h; cases h
      · rw [if_neg h1313] at h; cases h
    · rw [if_neg h1306] at h
      cases h
      exact pkk_sound TTok mix hF 8 (hs := [.t false]) (ts := []) (s := [0, 1]) (l := [2, 3]) (by kernel_rfl) (by kernel_rfl) (.cons (df h1306) .nil) q
/- ringhall/ringref2.PairGrid -/
def G_ringref2_PairGrid (n : Nat) (v_l1738 : (List S_rmap_Pair)) : Option ((Fin 17 → (Fin 64 → Int))) :=
  (G_ringref2_PairGrid_L1 n v_l1738 n 0 (fun (_ : Fin 17) => (fun (_ : Fin 64) => 0))).bind fun v_o1769 => match v_o1769 with
  | .x0 v_z1770 =>
    some v_z1770
theorem G_ringref2_PairGrid_ok (n : Nat) (v_l1738 : (List S_rmap_Pair)) (r : (Fin 17 → (Fin 64 → Int))) (h : G_ringref2_PairGrid n v_l1738 = some r) : Ret Try.prog 11 [(eL eS_rmap_Pair) v_l1738] ((fun x => PV.agg (cA_t36 x)) r) := by
  refine ret_run (n := 23) (fn := Try.f11) (c := bodyOf Try.f11) (by kernel_rfl) (by kernel_rfl) (by kernel_rfl) (by kernel_rfl) ?_
  have hF : KC 23 (FinR Try.prog Try.f11 ((fun x => PV.agg (cA_t36 x)) r)) := FinR.kc' (by kernel_rfl)
  unfold G_ringref2_PairGrid at h
  obtain ⟨v_o1769, h1317, h⟩ := bind_some h
  refine pkk_sound TTok mix hF 9 (hs := [.u (.d (.v (.int .i64 (v_l1738.length : Int)))), .n n]) (ts := []) (s := [0, 5]) (l := [2, 3, 6, 7, 8]) (by kernel_rfl) (by kernel_rfl) (.cons (len_ob (f := eS_rmap_Pair) (l := v_l1738)) .nil) (G_ringref2_PairGrid_L1_ok hF (.b 0 :: .s (cR (cR (cR (bodyOf Try.f11)))) :: []) n v_l1738 n 0 (fun (_ : Fin 17) => (fun (_ : Fin 64) => 0)) _ h1317 ?_)
  cases v_o1769 with
  | x0 v_z1770 =>
    try dsimp only at h
    obtain rfl := Option.some.inj h
    exact pend_sound TTok mix 4 (hs := [.c, .c]) (by kernel_rfl) (by kernel_rfl) (by kernel_rfl) (.cons (show 0 + 1088 ≤ 1088 by decide) .nil)
inductive G_ringref2_PairsOf_L1_R where
  | x0 (v_w2469 : (List S_rmap_Pair))
def G_ringref2_PairsOf_L1_ex : G_ringref2_PairsOf_L1_R → Ex
  | .x0 _ => .exit 4
def G_ringref2_PairsOf_L1_st (v_x2456 : Int) (v_x2458 : Int) (v_y2460 : (Fin 64 → Int)) (v_g2446 : (Fin 17 → (Fin 64 → Int))) : G_ringref2_PairsOf_L1_R → PS
  | .x0 v_w2469 => ⟨(dd :: .ref 0 0 :: dd :: .srf 1 :: .d (.v (.int .i64 v_x2456)) :: dd :: dd :: dd :: .d (.v (.int .i64 v_x2456)) :: dd :: dd :: .d (.v (.int .i64 v_x2458)) :: (dds 24 [])), [.box ((cA_t36 v_g2446).map FV.d), .row 24 3 (v_w2469.map eS_rmap_Pair)]⟩
def G_ringref2_PairsOf_L1_hd (v_x2456 : Int) (v_x2458 : Int) (v_y2460 : (Fin 64 → Int)) (v_g2446 : (Fin 17 → (Fin 64 → Int))) (v_x2461 : Int) (v_w2462 : (List S_rmap_Pair)) : PS := ⟨(dd :: .ref 0 0 :: dd :: .srf 1 :: .d (.v (.int .i64 v_x2456)) :: .d (.v (.int .i64 v_x2458)) :: dd :: dd :: .d (.v (.int .i64 v_x2456)) :: dd :: dd :: .d (.v (.int .i64 v_x2458)) :: dd :: dd :: dd :: dd :: .d (.agg (cA_t34 v_y2460)) :: .d (.v (.int .i64 v_x2461)) :: (dds 18 [])), [.box ((cA_t36 v_g2446).map FV.d), .row 24 3 (v_w2462.map eS_rmap_Pair)]⟩
def G_ringref2_PairsOf_L1 (n : Nat) (v_x2456 : Int) (v_x2458 : Int) (v_y2460 : (Fin 64 → Int)) (v_g2446 : (Fin 17 → (Fin 64 → Int))) : Nat → Int → (List S_rmap_Pair) → Option G_ringref2_PairsOf_L1_R
  | 0, _, _ => none
  | k + 1, v_x2461, v_w2462 =>
    if v_x2461 < 64 then
     (getA v_y2460 v_x2461).bind fun (v_y2466 : Int) =>
     if v_y2466 = (wi .i64 (v_x2456 + 1)) then
      (app 24 v_w2462 ([(S_rmap_Pair.mk v_x2456 v_x2458 v_x2461)])).bind fun (v_a2468 : (List S_rmap_Pair)) =>
      G_ringref2_PairsOf_L1 n v_x2456 v_x2458 v_y2460 v_g2446 k (wi .i64 (v_x2461 + 1)) v_a2468
     else
      G_ringref2_PairsOf_L1 n v_x2456 v_x2458 v_y2460 v_g2446 k (wi .i64 (v_x2461 + 1)) v_w2462
    else
     some (.x0 v_w2462)
theorem G_ringref2_PairsOf_L1_ok {Fi : Ex → PS → Prop} (hF : KC 36 Fi) (ks : List Fr) (n : Nat) (v_x2456 : Int) (v_x2458 : Int) (v_y2460 : (Fin 64 → Int)) (v_g2446 : (Fin 17 → (Fin 64 → Int)))  : ∀ (k : Nat) (v_x2461 : Int) (v_w2462 : (List S_rmap_Pair)) (o : G_ringref2_PairsOf_L1_R), G_ringref2_PairsOf_L1 n v_x2456 v_x2458 v_y2460 v_g2446 k v_x2461 v_w2462 = some o → RunE Try.prog 36 Fi ks (G_ringref2_PairsOf_L1_ex o) (G_ringref2_PairsOf_L1_st v_x2456 v_x2458 v_y2460 v_g2446 o) → RunE Try.prog 36 Fi (.l k (cP (cB (cR (cR (cB (cL (cR (cR (cP (cB (cR (cR (cB (cL (cR (cR (cP (cB (cR (cL (cR (cR (bodyOf Try.f15))))))))))))))))))))))) :: ks) .normal (G_ringref2_PairsOf_L1_hd v_x2456 v_x2458 v_y2460 v_g2446 v_x2461 v_w2462)
  | 0, v_x2461, v_w2462, o, h, q => by rw [G_ringref2_PairsOf_L1] at h; cases h
  | k + 1, v_x2461, v_w2462, o, h, q => by
    rw [G_ringref2_PairsOf_L1] at h
    by_cases h1369 : v_x2461 < 64
    · rw [if_pos h1369] at h
      obtain ⟨v_y2466, h1375, h⟩ := bind_some h
      by_cases h1378 : v_y2466 = (wi .i64 (v_x2456 + 1))
      · rw [if_pos h1378] at h
        obtain ⟨v_a2468, h1379, h⟩ := bind_some h
        exact pkk_sound TTok mix hF 16 (hs := [.t true, .l (.d (.v (.int .i64 v_y2466))), .t true, .bd, .w (v_a2468.map eS_rmap_Pair)]) (ts := []) (s := [0, 77]) (l := [1, 3, 4, 5, 8, 11, 16, 17]) (by kernel_rfl) (by kernel_rfl) (.cons (dt h1369) (.cons (getA_ob0 (fun x => FV.d ((eI .i64) x)) h1375) (.cons (bt h1378) (.cons (app_ob (f := eS_rmap_Pair) (s := 3) h1379 (fun _ => rfl)).1 (.cons (app_ob (f := eS_rmap_Pair) (s := 3) h1379 (fun _ => rfl)).2.1 (.cons (app_ob (f := eS_rmap_Pair) (s := 3) h1379 (fun _ => rfl)).2.2.1 (.cons (app_ob (f := eS_rmap_Pair) (s := 3) h1379 (fun _ => rfl)).2.2.2 .nil))))))) (G_ringref2_PairsOf_L1_ok hF ks n v_x2456 v_x2458 v_y2460 v_g2446 k (wi .i64 (v_x2461 + 1)) v_a2468 _ h q)
      · rw [if_neg h1378] at h
        exact pkk_sound TTok mix hF 16 (hs := [.t true, .l (.d (.v (.int .i64 v_y2466))), .t false]) (ts := []) (s := [0, 1]) (l := [1, 3, 4, 5, 8, 11, 16, 17]) (by kernel_rfl) (by kernel_rfl) (.cons (dt h1369) (.cons (getA_ob0 (fun x => FV.d ((eI .i64) x)) h1375) (.cons (bf h1378) .nil))) (G_ringref2_PairsOf_L1_ok hF ks n v_x2456 v_x2458 v_y2460 v_g2446 k (wi .i64 (v_x2461 + 1)) v_w2462 _ h q)
    · rw [if_neg h1369] at h
      cases h
      exact pkk_sound TTok mix hF 8 (hs := [.t false]) (ts := []) (s := [0, 1]) (l := [1, 3, 4, 8, 11]) (by kernel_rfl) (by kernel_rfl) (.cons (df h1369) .nil) q
inductive G_ringref2_PairsOf_L2_R where
  | x0 (v_w2472 : (List S_rmap_Pair))
def G_ringref2_PairsOf_L2_ex : G_ringref2_PairsOf_L2_R → Ex
  | .x0 _ => .exit 2
def G_ringref2_PairsOf_L2_st (v_x2456 : Int) (v_g2446 : (Fin 17 → (Fin 64 → Int))) : G_ringref2_PairsOf_L2_R → PS
  | .x0 v_w2472 => ⟨(dd :: .ref 0 0 :: dd :: .srf 1 :: dd :: dd :: dd :: dd :: .d (.v (.int .i64 v_x2456)) :: (dds 27 [])), [.box ((cA_t36 v_g2446).map FV.d), .row 24 3 (v_w2472.map eS_rmap_Pair)]⟩
def G_ringref2_PairsOf_L2_hd (v_x2456 : Int) (v_g2446 : (Fin 17 → (Fin 64 → Int))) (v_x2458 : Int) (v_w2459 : (List S_rmap_Pair)) : PS := ⟨(dd :: .ref 0 0 :: dd :: .srf 1 :: .d (.v (.int .i64 v_x2456)) :: dd :: dd :: dd :: .d (.v (.int .i64 v_x2456)) :: dd :: dd :: .d (.v (.int .i64 v_x2458)) :: (dds 24 [])), [.box ((cA_t36 v_g2446).map FV.d), .row 24 3 (v_w2459.map eS_rmap_Pair)]⟩
def G_ringref2_PairsOf_L2 (n : Nat) (v_x2456 : Int) (v_g2446 : (Fin 17 → (Fin 64 → Int))) : Nat → Int → (List S_rmap_Pair) → Option G_ringref2_PairsOf_L2_R
  | 0, _, _ => none
  | k + 1, v_x2458, v_w2459 =>
    if v_x2458 < 17 then
     if 0 ≤ v_x2458 ∧ v_x2458 < (17 : Int) then
      (getA v_g2446 v_x2458).bind fun (v_y2460 : (Fin 64 → Int)) =>
      (G_ringref2_PairsOf_L1 n v_x2456 v_x2458 v_y2460 v_g2446 n 0 v_w2459).bind fun v_o2470 => match v_o2470 with
      | .x0 v_z2471 =>
        G_ringref2_PairsOf_L2 n v_x2456 v_g2446 k (wi .i64 (v_x2458 + 1)) v_z2471
     else none
    else
     some (.x0 v_w2459)
theorem G_ringref2_PairsOf_L2_ok {Fi : Ex → PS → Prop} (hF : KC 36 Fi) (ks : List Fr) (n : Nat) (v_x2456 : Int) (v_g2446 : (Fin 17 → (Fin 64 → Int)))  : ∀ (k : Nat) (v_x2458 : Int) (v_w2459 : (List S_rmap_Pair)) (o : G_ringref2_PairsOf_L2_R), G_ringref2_PairsOf_L2 n v_x2456 v_g2446 k v_x2458 v_w2459 = some o → RunE Try.prog 36 Fi ks (G_ringref2_PairsOf_L2_ex o) (G_ringref2_PairsOf_L2_st v_x2456 v_g2446 o) → RunE Try.prog 36 Fi (.l k (cP (cB (cR (cR (cB (cL (cR (cR (cP (cB (cR (cL (cR (cR (bodyOf Try.f15))))))))))))))) :: ks) .normal (G_ringref2_PairsOf_L2_hd v_x2456 v_g2446 v_x2458 v_w2459)
  | 0, v_x2458, v_w2459, o, h, q => by rw [G_ringref2_PairsOf_L2] at h; cases h
  | k + 1, v_x2458, v_w2459, o, h, q => by
    rw [G_ringref2_PairsOf_L2] at h
    by_cases h1366 : v_x2458 < 17
    · rw [if_pos h1366] at h
      by_cases h1367 : 0 ≤ v_x2458 ∧ v_x2458 < (17 : Int)
      · rw [if_pos h1367] at h
        obtain ⟨v_y2460, h1368, h⟩ := bind_some h
        obtain ⟨v_o2470, h1380, h⟩ := bind_some h
        refine pkk_sound TTok mix hF 14 (hs := [.t true, .l (.d (.agg [.v (.int .i64 (v_y2460 0)), .v (.int .i64 (v_y2460 1)), .v (.int .i64 (v_y2460 2)), .v (.int .i64 (v_y2460 3)), .v (.int .i64 (v_y2460 4)), .v (.int .i64 (v_y2460 5)), .v (.int .i64 (v_y2460 6)), .v (.int .i64 (v_y2460 7)), .v (.int .i64 (v_y2460 8)), .v (.int .i64 (v_y2460 9)), .v (.int .i64 (v_y2460 10)), .v (.int .i64 (v_y2460 11)), .v (.int .i64 (v_y2460 12)), .v (.int .i64 (v_y2460 13)), .v (.int .i64 (v_y2460 14)), .v (.int .i64 (v_y2460 15)), .v (.int .i64 (v_y2460 16)), .v (.int .i64 (v_y2460 17)), .v (.int .i64 (v_y2460 18)), .v (.int .i64 (v_y2460 19)), .v (.int .i64 (v_y2460 20)), .v (.int .i64 (v_y2460 21)), .v (.int .i64 (v_y2460 22)), .v (.int .i64 (v_y2460 23)), .v (.int .i64 (v_y2460 24)), .v (.int .i64 (v_y2460 25)), .v (.int .i64 (v_y2460 26)), .v (.int .i64 (v_y2460 27)), .v (.int .i64 (v_y2460 28)), .v (.int .i64 (v_y2460 29)), .v (.int .i64 (v_y2460 30)), .v (.int .i64 (v_y2460 31)), .v (.int .i64 (v_y2460 32)), .v (.int .i64 (v_y2460 33)), .v (.int .i64 (v_y2460 34)), .v (.int .i64 (v_y2460 35)), .v (.int .i64 (v_y2460 36)), .v (.int .i64 (v_y2460 37)), .v (.int .i64 (v_y2460 38)), .v (.int .i64 (v_y2460 39)), .v (.int .i64 (v_y2460 40)), .v (.int .i64 (v_y2460 41)), .v (.int .i64 (v_y2460 42)), .v (.int .i64 (v_y2460 43)), .v (.int .i64 (v_y2460 44)), .v (.int .i64 (v_y2460 45)), .v (.int .i64 (v_y2460 46)), .v (.int .i64 (v_y2460 47)), .v (.int .i64 (v_y2460 48)), .v (.int .i64 (v_y2460 49)), .v (.int .i64 (v_y2460 50)), .v (.int .i64 (v_y2460 51)), .v (.int .i64 (v_y2460 52)), .v (.int .i64 (v_y2460 53)), .v (.int .i64 (v_y2460 54)), .v (.int .i64 (v_y2460 55)), .v (.int .i64 (v_y2460 56)), .v (.int .i64 (v_y2460 57)), .v (.int .i64 (v_y2460 58)), .v (.int .i64 (v_y2460 59)), .v (.int .i64 (v_y2460 60)), .v (.int .i64 (v_y2460 61)), .v (.int .i64 (v_y2460 62)), .v (.int .i64 (v_y2460 63))])), .n n]) (ts := []) (s := [0, 1]) (l := [1, 3, 4, 5, 8, 11, 16, 17]) (by kernel_rfl) (by kernel_rfl) (.cons (dt h1366) (.cons h1367 (.cons (And.intro (congrArg mkAgg (arr_take (γ := FV) (sz := 64) (g := fvA_64_int_i64) (pre := []) (post := []) (fun _ => rfl) h1368).1) (arr_take (γ := FV) (sz := 64) (g := fvA_64_int_i64) (pre := []) (post := []) (fun _ => rfl) h1368).2) .nil))) (G_ringref2_PairsOf_L1_ok hF (.b 4 :: .b 3 :: .s (cR (cR (cR (cP (cB (cR (cR (cB (cL (cR (cR (cP (cB (cR (cL (cR (cR (bodyOf Try.f15)))))))))))))))))) :: .l k (cP (cB (cR (cR (cB (cL (cR (cR (cP (cB (cR (cL (cR (cR (bodyOf Try.f15))))))))))))))) :: ks) n v_x2456 v_x2458 v_y2460 v_g2446 n 0 v_w2459 _ h1380 ?_)
        cases v_o2470 with
        | x0 v_z2471 =>
          try dsimp only at h
          exact pkk_sound TTok mix hF 3 (hs := []) (ts := []) (s := [0, 1]) (l := [1, 3, 4, 8, 11]) (by kernel_rfl) (by kernel_rfl) .nil (G_ringref2_PairsOf_L2_ok hF ks n v_x2456 v_g2446 k (wi .i64 (v_x2458 + 1)) v_z2471 _ h q)
      · rw [if_neg h1367] at h; cases h
    · rw [if_neg h1366] at h
      cases h
      exact pkk_sound TTok mix hF 8 (hs := [.t false]) (ts := []) (s := [0, 1]) (l := [1, 3, 8]) (by kernel_rfl) (by kernel_rfl) (.cons (df h1366) .nil) q
inductive G_ringref2_PairsOf_L3_R where
  | x0 (v_w2475 : (List S_rmap_Pair))
def G_ringref2_PairsOf_L3_ex : G_ringref2_PairsOf_L3_R → Ex
  | .x0 _ => .exit 0
def G_ringref2_PairsOf_L3_st (v_g2446 : (Fin 17 → (Fin 64 → Int))) : G_ringref2_PairsOf_L3_R → PS
  | .x0 v_w2475 => ⟨(dd :: dd :: dd :: .srf 0 :: (dds 32 [])), [.row 24 3 (v_w2475.map eS_rmap_Pair)]⟩
def G_ringref2_PairsOf_L3_hd (v_g2446 : (Fin 17 → (Fin 64 → Int))) (v_x2456 : Int) (v_w2457 : (List S_rmap_Pair)) : PS := ⟨(dd :: .ref 0 0 :: dd :: .srf 1 :: dd :: dd :: dd :: dd :: .d (.v (.int .i64 v_x2456)) :: (dds 27 [])), [.box ((cA_t36 v_g2446).map FV.d), .row 24 3 (v_w2457.map eS_rmap_Pair)]⟩
def G_ringref2_PairsOf_L3 (n : Nat) (v_g2446 : (Fin 17 → (Fin 64 → Int))) : Nat → Int → (List S_rmap_Pair) → Option G_ringref2_PairsOf_L3_R
  | 0, _, _ => none
  | k + 1, v_x2456, v_w2457 =>
    if v_x2456 < 64 then
     (G_ringref2_PairsOf_L2 n v_x2456 v_g2446 n 0 v_w2457).bind fun v_o2473 => match v_o2473 with
     | .x0 v_z2474 =>
       G_ringref2_PairsOf_L3 n v_g2446 k (wi .i64 (v_x2456 + 1)) v_z2474
    else
     some (.x0 v_w2457)
theorem G_ringref2_PairsOf_L3_ok {Fi : Ex → PS → Prop} (hF : KC 36 Fi) (ks : List Fr) (n : Nat) (v_g2446 : (Fin 17 → (Fin 64 → Int)))  : ∀ (k : Nat) (v_x2456 : Int) (v_w2457 : (List S_rmap_Pair)) (o : G_ringref2_PairsOf_L3_R), G_ringref2_PairsOf_L3 n v_g2446 k v_x2456 v_w2457 = some o → RunE Try.prog 36 Fi ks (G_ringref2_PairsOf_L3_ex o) (G_ringref2_PairsOf_L3_st v_g2446 o) → RunE Try.prog 36 Fi (.l k (cP (cB (cR (cL (cR (cR (bodyOf Try.f15))))))) :: ks) .normal (G_ringref2_PairsOf_L3_hd v_g2446 v_x2456 v_w2457)
  | 0, v_x2456, v_w2457, o, h, q => by rw [G_ringref2_PairsOf_L3] at h; cases h
  | k + 1, v_x2456, v_w2457, o, h, q => by
    rw [G_ringref2_PairsOf_L3] at h
    by_cases h1365 : v_x2456 < 64
    · rw [if_pos h1365] at h
      obtain ⟨v_o2473, h1381, h⟩ := bind_some h
      refine pkk_sound TTok mix hF 14 (hs := [.t true, .n n]) (ts := []) (s := [0, 1]) (l := [1, 3, 4, 8, 11]) (by kernel_rfl) (by kernel_rfl) (.cons (dt h1365) .nil) (G_ringref2_PairsOf_L2_ok hF (.b 2 :: .b 1 :: .s (cR (cR (cR (cP (cB (cR (cL (cR (cR (bodyOf Try.f15)))))))))) :: .l k (cP (cB (cR (cL (cR (cR (bodyOf Try.f15))))))) :: ks) n v_x2456 v_g2446 n 0 v_w2457 _ h1381 ?_)
      cases v_o2473 with
      | x0 v_z2474 =>
        try dsimp only at h
        exact pkk_sound TTok mix hF 3 (hs := []) (ts := []) (s := [0, 1]) (l := [1, 3, 8]) (by kernel_rfl) (by kernel_rfl) .nil (G_ringref2_PairsOf_L3_ok hF ks n v_g2446 k (wi .i64 (v_x2456 + 1)) v_z2474 _ h q)
    · rw [if_neg h1365] at h
      cases h
      exact pkk_sound TTok mix hF 8 (hs := [.t false]) (ts := []) (s := [1]) (l := [3]) (by kernel_rfl) (by kernel_rfl) (.cons (df h1365) .nil) q
/- ringhall/ringref2.PairsOf -/
def G_ringref2_PairsOf (n : Nat) (v_g2446 : (Fin 17 → (Fin 64 → Int))) : Option ((List S_rmap_Pair)) :=
  (G_ringref2_PairsOf_L3 n v_g2446 n 0 ([] : List S_rmap_Pair)).bind fun v_o2476 => match v_o2476 with
  | .x0 v_z2477 =>
    some v_z2477
theorem G_ringref2_PairsOf_ok (n : Nat) (v_g2446 : (Fin 17 → (Fin 64 → Int))) (r : (List S_rmap_Pair)) (h : G_ringref2_PairsOf n v_g2446 = some r) : Ret Try.prog 15 [(fun x => PV.agg (cA_t36 x)) v_g2446] ((eL eS_rmap_Pair) r) := by
  refine ret_run (n := 36) (fn := Try.f15) (c := bodyOf Try.f15) (by kernel_rfl) (by kernel_rfl) (by kernel_rfl) (by kernel_rfl) ?_
  have hF : KC 36 (FinR Try.prog Try.f15 ((eL eS_rmap_Pair) r)) := FinR.kc' (by kernel_rfl)
  unfold G_ringref2_PairsOf at h
  obtain ⟨v_o2476, h1382, h⟩ := bind_some h
  refine pkk_sound TTok mix hF 9 (hs := [.n n]) (ts := [(3, 24, 3)]) (s := [0, 20]) (l := [1, 3, 8]) (by kernel_rfl) (by kernel_rfl) .nil (G_ringref2_PairsOf_L3_ok hF (.b 0 :: .s (cR (cR (cR (bodyOf Try.f15)))) :: []) n v_g2446 n 0 ([] : List S_rmap_Pair) _ h1382 ?_)
  cases v_o2476 with
  | x0 v_z2477 =>
    try dsimp only at h
    obtain rfl := Option.some.inj h
    exact pend_sound TTok mix 4 (hs := []) (by kernel_rfl) (by kernel_rfl) (by kernel_rfl) .nil
inductive G_ringref2_PairSame_L1_R where
  | x0 (v_x3082 : Bool)
  | x1 
def G_ringref2_PairSame_L1_ex : G_ringref2_PairSame_L1_R → Ex
  | .x0 _ => .ret
  | .x1  => .exit 0
def G_ringref2_PairSame_L1_st (v_a3072 : (List S_rmap_Pair)) (v_b3073 : (List S_rmap_Pair)) : G_ringref2_PairSame_L1_R → PS
  | .x0 v_x3082 => ⟨(dd :: dd :: dd :: dd :: .d (.v (.bool v_x3082)) :: (dds 21 [])), []⟩
  | .x1  => ⟨(dds 26 []), []⟩
def G_ringref2_PairSame_L1_hd (v_a3072 : (List S_rmap_Pair)) (v_b3073 : (List S_rmap_Pair)) (v_x3077 : Int) : PS := ⟨(.d (.sl (v_a3072.map eS_rmap_Pair)) :: .d (.sl (v_b3073.map eS_rmap_Pair)) :: (dds 10 (.d (.v (.int .i64 (v_a3072.length : Int))) :: .d (.v (.int .i64 v_x3077)) :: (dds 12 [])))), []⟩
def G_ringref2_PairSame_L1 (n : Nat) (v_a3072 : (List S_rmap_Pair)) (v_b3073 : (List S_rmap_Pair)) : Nat → Int → Option G_ringref2_PairSame_L1_R
  | 0, _ => none
  | k + 1, v_x3077 =>
    if v_x3077 < (v_a3072.length : Int) then
     (getI v_a3072 v_x3077).bind fun (v_y3080 : S_rmap_Pair) =>
     (getI v_b3073 v_x3077).bind fun (v_y3081 : S_rmap_Pair) =>
     if (eqRes .neq (eqS_rmap_Pair v_y3080 v_y3081)) = true then
      some (.x0 false)
     else
      G_ringref2_PairSame_L1 n v_a3072 v_b3073 k (wi .i64 (v_x3077 + 1))
    else
     some (.x1 )
theorem G_ringref2_PairSame_L1_ok {Fi : Ex → PS → Prop} (hF : KC 26 Fi) (ks : List Fr) (n : Nat) (v_a3072 : (List S_rmap_Pair)) (v_b3073 : (List S_rmap_Pair))  : ∀ (k : Nat) (v_x3077 : Int) (o : G_ringref2_PairSame_L1_R), G_ringref2_PairSame_L1 n v_a3072 v_b3073 k v_x3077 = some o → RunE Try.prog 26 Fi ks (G_ringref2_PairSame_L1_ex o) (G_ringref2_PairSame_L1_st v_a3072 v_b3073 o) → RunE Try.prog 26 Fi (.l k (cP (cB (cR (cL (cR (cR (bodyOf Try.f16))))))) :: ks) .normal (G_ringref2_PairSame_L1_hd v_a3072 v_b3073 v_x3077)
  | 0, v_x3077, o, h, q => by rw [G_ringref2_PairSame_L1] at h; cases h
  | k + 1, v_x3077, o, h, q => by
    rw [G_ringref2_PairSame_L1] at h
    by_cases h1560 : v_x3077 < (v_a3072.length : Int)
    · rw [if_pos h1560] at h
      obtain ⟨v_y3080, h1564, h⟩ := bind_some h
      obtain ⟨v_y3081, h1565, h⟩ := bind_some h
      by_cases h1566 : (eqRes .neq (eqS_rmap_Pair v_y3080 v_y3081)) = true
      · rw [if_pos h1566] at h
        cases h
        exact pkk_sound TTok mix hF 19 (hs := [.t true, .y (eS_rmap_Pair v_y3080), .y (eS_rmap_Pair v_y3081), .q (eqS_rmap_Pair v_y3080 v_y3081), .t true]) (ts := []) (s := []) (l := [4]) (by kernel_rfl) (by kernel_rfl) (.cons (dt h1560) (.cons (getI_ob (f := eS_rmap_Pair) h1564) (.cons (getI_ob (f := eS_rmap_Pair) h1565) (.cons (eqS_rmap_Pair_ok v_y3080 v_y3081) (.cons h1566 .nil))))) q
      · rw [if_neg h1566] at h
        exact pkk_sound TTok mix hF 16 (hs := [.t true, .y (eS_rmap_Pair v_y3080), .y (eS_rmap_Pair v_y3081), .q (eqS_rmap_Pair v_y3080 v_y3081), .t false]) (ts := []) (s := []) (l := [0, 1, 12, 13]) (by kernel_rfl) (by kernel_rfl) (.cons (dt h1560) (.cons (getI_ob (f := eS_rmap_Pair) h1564) (.cons (getI_ob (f := eS_rmap_Pair) h1565) (.cons (eqS_rmap_Pair_ok v_y3080 v_y3081) (.cons (vf h1566) .nil))))) (G_ringref2_PairSame_L1_ok hF ks n v_a3072 v_b3073 k (wi .i64 (v_x3077 + 1)) _ h q)
    · rw [if_neg h1560] at h
      cases h
      exact pkk_sound TTok mix hF 8 (hs := [.t false]) (ts := []) (s := []) (l := []) (by kernel_rfl) (by kernel_rfl) (.cons (df h1560) .nil) q
/- ringhall/ringref2.PairSame -/
def G_ringref2_PairSame (n : Nat) (v_a3072 : (List S_rmap_Pair)) (v_b3073 : (List S_rmap_Pair)) : Option (Bool) :=
  if (v_a3072.length : Int) = (v_b3073.length : Int) then
   (G_ringref2_PairSame_L1 n v_a3072 v_b3073 n 0).bind fun v_o3083 => match v_o3083 with
   | .x0 v_z3084 =>
     some v_z3084
   | .x1  =>
     some true
  else
   some false
theorem G_ringref2_PairSame_ok (n : Nat) (v_a3072 : (List S_rmap_Pair)) (v_b3073 : (List S_rmap_Pair)) (r : Bool) (h : G_ringref2_PairSame n v_a3072 v_b3073 = some r) : Ret Try.prog 16 [(eL eS_rmap_Pair) v_a3072, (eL eS_rmap_Pair) v_b3073] (eB r) := by
  refine ret_run (n := 26) (fn := Try.f16) (c := bodyOf Try.f16) (by kernel_rfl) (by kernel_rfl) (by kernel_rfl) (by kernel_rfl) ?_
  have hF : KC 26 (FinR Try.prog Try.f16 (eB r)) := FinR.kc' (by kernel_rfl)
  unfold G_ringref2_PairSame at h
  by_cases h1559 : (v_a3072.length : Int) = (v_b3073.length : Int)
  · rw [if_pos h1559] at h
    obtain ⟨v_o3083, h1567, h⟩ := bind_some h
    refine pkk_sound TTok mix hF 12 (hs := [.u (.d (.v (.int .i64 (v_a3072.length : Int)))), .u (.d (.v (.int .i64 (v_b3073.length : Int)))), .t false, .u (.d (.v (.int .i64 (v_a3072.length : Int)))), .n n]) (ts := []) (s := []) (l := [0, 1, 12, 13]) (by kernel_rfl) (by kernel_rfl) (.cons (len_ob (f := eS_rmap_Pair) (l := v_a3072)) (.cons (len_ob (f := eS_rmap_Pair) (l := v_b3073)) (.cons (nf h1559) (.cons (len_ob (f := eS_rmap_Pair) (l := v_a3072)) .nil)))) (G_ringref2_PairSame_L1_ok hF (.b 0 :: .s (cR (cR (cR (bodyOf Try.f16)))) :: []) n v_a3072 v_b3073 n 0 _ h1567 ?_)
    cases v_o3083 with
    | x0 v_z3084 =>
      try dsimp only at h
      obtain rfl := Option.some.inj h
      exact pend_sound TTok mix 2 (hs := []) (by kernel_rfl) (by kernel_rfl) (by kernel_rfl) .nil
    | x1  =>
      try dsimp only at h
      obtain rfl := Option.some.inj h
      exact pend_sound TTok mix 4 (hs := []) (by kernel_rfl) (by kernel_rfl) (by kernel_rfl) .nil
  · rw [if_neg h1559] at h
    obtain rfl := Option.some.inj h
    exact pend_sound TTok mix 10 (hs := [.u (.d (.v (.int .i64 (v_a3072.length : Int)))), .u (.d (.v (.int .i64 (v_b3073.length : Int)))), .t true]) (by kernel_rfl) (by kernel_rfl) (by kernel_rfl) (.cons (len_ob (f := eS_rmap_Pair) (l := v_a3072)) (.cons (len_ob (f := eS_rmap_Pair) (l := v_b3073)) (.cons (nt h1559) .nil)))
inductive G_ringlaw2_RmapTells_C1_R where
  | x0 (v_x1687 : Bool)
def G_ringlaw2_RmapTells_C1_ex : G_ringlaw2_RmapTells_C1_R → Ex
  | .x0 _ => .normal
def G_ringlaw2_RmapTells_C1_st (v_r220 : ((List S_rmap_Pair) × Int)) (v_r256 : ((List S_rmap_Pair) × Int × Int)) (v_r304 : ((List S_rmap_Pair) × Int)) (v_r338 : (Int × Int)) (v_r1379 : ((List S_rmap_Pair) × Int × Int)) (v_r1519 : (Int)) : G_ringlaw2_RmapTells_C1_R → PS
  | .x0 v_x1687 => ⟨(dd :: dd :: dd :: dd :: dd :: dd :: .d (.v (.bool v_x1687)) :: (dds 301 [])), []⟩
def G_ringlaw2_RmapTells_C1_hd (v_r220 : ((List S_rmap_Pair) × Int)) (v_r256 : ((List S_rmap_Pair) × Int × Int)) (v_r304 : ((List S_rmap_Pair) × Int)) (v_r338 : (Int × Int)) (v_r1379 : ((List S_rmap_Pair) × Int × Int)) (v_r1519 : (Int))  : PS := ⟨(dd :: dd :: dd :: dd :: dd :: dd :: dd :: .d (.sl (v_r220.1.map eS_rmap_Pair)) :: .d (.v (.int .i64 v_r220.2)) :: .d (.sl (v_r256.1.map eS_rmap_Pair)) :: .d (.v (.int .i64 v_r256.2.1)) :: .d (.v (.int .i64 v_r256.2.2)) :: .d (.sl (v_r304.1.map eS_rmap_Pair)) :: .d (.v (.int .i64 v_r304.2)) :: .d (.v (.int .i64 v_r338.1)) :: .d (.v (.int .i64 v_r338.2)) :: .d (.sl (v_r1379.1.map eS_rmap_Pair)) :: .d (.v (.int .i64 v_r1379.2.1)) :: .d (.v (.int .i64 v_r1379.2.2)) :: .d (.v (.int .i64 v_r1519)) :: (dds 288 [])), []⟩
def G_ringlaw2_RmapTells_C1 (n : Nat) (v_r220 : ((List S_rmap_Pair) × Int)) (v_r256 : ((List S_rmap_Pair) × Int × Int)) (v_r304 : ((List S_rmap_Pair) × Int)) (v_r338 : (Int × Int)) (v_r1379 : ((List S_rmap_Pair) × Int × Int)) (v_r1519 : (Int)) : Option G_ringlaw2_RmapTells_C1_R :=
  if (wi .i64 ((wi .i64 ((wi .i64 ((v_r220.1.length : Int) + (v_r256.1.length : Int))) + (v_r304.1.length : Int))) + (v_r1379.1.length : Int))) = 0 then
   if v_r256.2.1 = 0 then
    if v_r338.1 = 0 then
     if v_r1379.2.1 = 0 then
      if v_r220.2 = v_r1519 then
       if v_r256.2.2 = v_r1519 then
        if v_r304.2 = v_r1519 then
         if v_r338.2 = v_r1519 then
          some (.x0 (v_r1379.2.2 == v_r1519))
         else
          some (.x0 false)
        else
         some (.x0 false)
       else
        some (.x0 false)
      else
       some (.x0 false)
     else
      some (.x0 false)
    else
     some (.x0 false)
   else
    some (.x0 false)
  else
   some (.x0 false)
theorem G_ringlaw2_RmapTells_C1_e0 {Fi : Ex → PS → Prop} (hF : KC 308 Fi) (ks : List Fr) (n : Nat) (v_r220 : ((List S_rmap_Pair) × Int)) (v_r256 : ((List S_rmap_Pair) × Int × Int)) (v_r304 : ((List S_rmap_Pair) × Int)) (v_r338 : (Int × Int)) (v_r1379 : ((List S_rmap_Pair) × Int × Int)) (v_r1519 : (Int))  (h1286 : (wi .i64 ((wi .i64 ((wi .i64 ((v_r220.1.length : Int) + (v_r256.1.length : Int))) + (v_r304.1.length : Int))) + (v_r1379.1.length : Int))) = 0) (h1287 : v_r256.2.1 = 0) (h1288 : v_r338.1 = 0) (h1289 : v_r1379.2.1 = 0) (h1290 : v_r220.2 = v_r1519) (h1291 : v_r256.2.2 = v_r1519) (h1292 : v_r304.2 = v_r1519) (h1293 : v_r338.2 = v_r1519) (q : RunE Try.prog 308 Fi ks (G_ringlaw2_RmapTells_C1_ex (.x0 (v_r1379.2.2 == v_r1519))) (G_ringlaw2_RmapTells_C1_st v_r220 v_r256 v_r304 v_r338 v_r1379 v_r1519 (.x0 (v_r1379.2.2 == v_r1519)))) : RunE Try.prog 308 Fi (.s (cL (cT (cR (cL (cR (cR (cR (cR (cR (cR (cR (cR (bodyOf Try.f3))))))))))))) :: ks) .normal (G_ringlaw2_RmapTells_C1_hd v_r220 v_r256 v_r304 v_r338 v_r1379 v_r1519) := pkk_sound TTok mix hF 1 (hs := [.u (.d (.v (.int .i64 (v_r220.1.length : Int)))), .u (.d (.v (.int .i64 (v_r256.1.length : Int)))), .u (.d (.v (.int .i64 (v_r304.1.length : Int)))), .u (.d (.v (.int .i64 (v_r1379.1.length : Int)))), .t true, .c, .t true, .c, .t true, .c, .t true, .c, .c, .t true, .c, .c, .t true, .c, .c, .t true, .c, .c, .t true, .c, .c]) (ts := []) (s := []) (l := [6]) (by kernel_rfl) (by kernel_rfl) (.cons (len_ob (f := eS_rmap_Pair) (l := v_r220.1)) (.cons (len_ob (f := eS_rmap_Pair) (l := v_r256.1)) (.cons (len_ob (f := eS_rmap_Pair) (l := v_r304.1)) (.cons (len_ob (f := eS_rmap_Pair) (l := v_r1379.1)) (.cons (bt h1286) (.cons (bt h1287) (.cons (bt h1288) (.cons (bt h1289) (.cons (bt h1290) (.cons (bt h1291) (.cons (bt h1292) (.cons (bt h1293) .nil)))))))))))) q
theorem G_ringlaw2_RmapTells_C1_e1 {Fi : Ex → PS → Prop} (hF : KC 308 Fi) (ks : List Fr) (n : Nat) (v_r220 : ((List S_rmap_Pair) × Int)) (v_r256 : ((List S_rmap_Pair) × Int × Int)) (v_r304 : ((List S_rmap_Pair) × Int)) (v_r338 : (Int × Int)) (v_r1379 : ((List S_rmap_Pair) × Int × Int)) (v_r1519 : (Int))  (h1286 : (wi .i64 ((wi .i64 ((wi .i64 ((v_r220.1.length : Int) + (v_r256.1.length : Int))) + (v_r304.1.length : Int))) + (v_r1379.1.length : Int))) = 0) (h1287 : v_r256.2.1 = 0) (h1288 : v_r338.1 = 0) (h1289 : v_r1379.2.1 = 0) (h1290 : v_r220.2 = v_r1519) (h1291 : v_r256.2.2 = v_r1519) (h1292 : v_r304.2 = v_r1519) (h1293 : ¬ (v_r338.2 = v_r1519)) (q : RunE Try.prog 308 Fi ks (G_ringlaw2_RmapTells_C1_ex (.x0 false)) (G_ringlaw2_RmapTells_C1_st v_r220 v_r256 v_r304 v_r338 v_r1379 v_r1519 (.x0 false))) : RunE Try.prog 308 Fi (.s (cL (cT (cR (cL (cR (cR (cR (cR (cR (cR (cR (cR (bodyOf Try.f3))))))))))))) :: ks) .normal (G_ringlaw2_RmapTells_C1_hd v_r220 v_r256 v_r304 v_r338 v_r1379 v_r1519) := pkk_sound TTok mix hF 1 (hs := [.u (.d (.v (.int .i64 (v_r220.1.length : Int)))), .u (.d (.v (.int .i64 (v_r256.1.length : Int)))), .u (.d (.v (.int .i64 (v_r304.1.length : Int)))), .u (.d (.v (.int .i64 (v_r1379.1.length : Int)))), .t true, .c, .t true, .c, .t true, .c, .t true, .c, .c, .t true, .c, .c, .t true, .c, .c, .t true, .c, .c, .t false, .c, .c]) (ts := []) (s := []) (l := [6]) (by kernel_rfl) (by kernel_rfl) (.cons (len_ob (f := eS_rmap_Pair) (l := v_r220.1)) (.cons (len_ob (f := eS_rmap_Pair) (l := v_r256.1)) (.cons (len_ob (f := eS_rmap_Pair) (l := v_r304.1)) (.cons (len_ob (f := eS_rmap_Pair) (l := v_r1379.1)) (.cons (bt h1286) (.cons (bt h1287) (.cons (bt h1288) (.cons (bt h1289) (.cons (bt h1290) (.cons (bt h1291) (.cons (bt h1292) (.cons (bf h1293) .nil)))))))))))) q
theorem G_ringlaw2_RmapTells_C1_e2 {Fi : Ex → PS → Prop} (hF : KC 308 Fi) (ks : List Fr) (n : Nat) (v_r220 : ((List S_rmap_Pair) × Int)) (v_r256 : ((List S_rmap_Pair) × Int × Int)) (v_r304 : ((List S_rmap_Pair) × Int)) (v_r338 : (Int × Int)) (v_r1379 : ((List S_rmap_Pair) × Int × Int)) (v_r1519 : (Int))  (h1286 : (wi .i64 ((wi .i64 ((wi .i64 ((v_r220.1.length : Int) + (v_r256.1.length : Int))) + (v_r304.1.length : Int))) + (v_r1379.1.length : Int))) = 0) (h1287 : v_r256.2.1 = 0) (h1288 : v_r338.1 = 0) (h1289 : v_r1379.2.1 = 0) (h1290 : v_r220.2 = v_r1519) (h1291 : v_r256.2.2 = v_r1519) (h1292 : ¬ (v_r304.2 = v_r1519)) (q : RunE Try.prog 308 Fi ks (G_ringlaw2_RmapTells_C1_ex (.x0 false)) (G_ringlaw2_RmapTells_C1_st v_r220 v_r256 v_r304 v_r338 v_r1379 v_r1519 (.x0 false))) : RunE Try.prog 308 Fi (.s (cL (cT (cR (cL (cR (cR (cR (cR (cR (cR (cR (cR (bodyOf Try.f3))))))))))))) :: ks) .normal (G_ringlaw2_RmapTells_C1_hd v_r220 v_r256 v_r304 v_r338 v_r1379 v_r1519) := pkk_sound TTok mix hF 1 (hs := [.u (.d (.v (.int .i64 (v_r220.1.length : Int)))), .u (.d (.v (.int .i64 (v_r256.1.length : Int)))), .u (.d (.v (.int .i64 (v_r304.1.length : Int)))), .u (.d (.v (.int .i64 (v_r1379.1.length : Int)))), .t true, .c, .t true, .c, .t true, .c, .t true, .c, .c, .t true, .c, .c, .t true, .c, .c, .t false, .c, .c, .c, .c, .c]) (ts := []) (s := []) (l := [6]) (by kernel_rfl) (by kernel_rfl) (.cons (len_ob (f := eS_rmap_Pair) (l := v_r220.1)) (.cons (len_ob (f := eS_rmap_Pair) (l := v_r256.1)) (.cons (len_ob (f := eS_rmap_Pair) (l := v_r304.1)) (.cons (len_ob (f := eS_rmap_Pair) (l := v_r1379.1)) (.cons (bt h1286) (.cons (bt h1287) (.cons (bt h1288) (.cons (bt h1289) (.cons (bt h1290) (.cons (bt h1291) (.cons (bf h1292) .nil))))))))))) q
theorem G_ringlaw2_RmapTells_C1_e3 {Fi : Ex → PS → Prop} (hF : KC 308 Fi) (ks : List Fr) (n : Nat) (v_r220 : ((List S_rmap_Pair) × Int)) (v_r256 : ((List S_rmap_Pair) × Int × Int)) (v_r304 : ((List S_rmap_Pair) × Int)) (v_r338 : (Int × Int)) (v_r1379 : ((List S_rmap_Pair) × Int × Int)) (v_r1519 : (Int))  (h1286 : (wi .i64 ((wi .i64 ((wi .i64 ((v_r220.1.length : Int) + (v_r256.1.length : Int))) + (v_r304.1.length : Int))) + (v_r1379.1.length : Int))) = 0) (h1287 : v_r256.2.1 = 0) (h1288 : v_r338.1 = 0) (h1289 : v_r1379.2.1 = 0) (h1290 : v_r220.2 = v_r1519) (h1291 : ¬ (v_r256.2.2 = v_r1519)) (q : RunE Try.prog 308 Fi ks (G_ringlaw2_RmapTells_C1_ex (.x0 false)) (G_ringlaw2_RmapTells_C1_st v_r220 v_r256 v_r304 v_r338 v_r1379 v_r1519 (.x0 false))) : RunE Try.prog 308 Fi (.s (cL (cT (cR (cL (cR (cR (cR (cR (cR (cR (cR (cR (bodyOf Try.f3))))))))))))) :: ks) .normal (G_ringlaw2_RmapTells_C1_hd v_r220 v_r256 v_r304 v_r338 v_r1379 v_r1519) := pkk_sound TTok mix hF 1 (hs := [.u (.d (.v (.int .i64 (v_r220.1.length : Int)))), .u (.d (.v (.int .i64 (v_r256.1.length : Int)))), .u (.d (.v (.int .i64 (v_r304.1.length : Int)))), .u (.d (.v (.int .i64 (v_r1379.1.length : Int)))), .t true, .c, .t true, .c, .t true, .c, .t true, .c, .c, .t true, .c, .c, .t false, .c, .c, .c, .c, .c, .c, .c, .c]) (ts := []) (s := []) (l := [6]) (by kernel_rfl) (by kernel_rfl) (.cons (len_ob (f := eS_rmap_Pair) (l := v_r220.1)) (.cons (len_ob (f := eS_rmap_Pair) (l := v_r256.1)) (.cons (len_ob (f := eS_rmap_Pair) (l := v_r304.1)) (.cons (len_ob (f := eS_rmap_Pair) (l := v_r1379.1)) (.cons (bt h1286) (.cons (bt h1287) (.cons (bt h1288) (.cons (bt h1289) (.cons (bt h1290) (.cons (bf h1291) .nil)))))))))) q
theorem G_ringlaw2_RmapTells_C1_e4 {Fi : Ex → PS → Prop} (hF : KC 308 Fi) (ks : List Fr) (n : Nat) (v_r220 : ((List S_rmap_Pair) × Int)) (v_r256 : ((List S_rmap_Pair) × Int × Int)) (v_r304 : ((List S_rmap_Pair) × Int)) (v_r338 : (Int × Int)) (v_r1379 : ((List S_rmap_Pair) × Int × Int)) (v_r1519 : (Int))  (h1286 : (wi .i64 ((wi .i64 ((wi .i64 ((v_r220.1.length : Int) + (v_r256.1.length : Int))) + (v_r304.1.length : Int))) + (v_r1379.1.length : Int))) = 0) (h1287 : v_r256.2.1 = 0) (h1288 : v_r338.1 = 0) (h1289 : v_r1379.2.1 = 0) (h1290 : ¬ (v_r220.2 = v_r1519)) (q : RunE Try.prog 308 Fi ks (G_ringlaw2_RmapTells_C1_ex (.x0 false)) (G_ringlaw2_RmapTells_C1_st v_r220 v_r256 v_r304 v_r338 v_r1379 v_r1519 (.x0 false))) : RunE Try.prog 308 Fi (.s (cL (cT (cR (cL (cR (cR (cR (cR (cR (cR (cR (cR (bodyOf Try.f3))))))))))))) :: ks) .normal (G_ringlaw2_RmapTells_C1_hd v_r220 v_r256 v_r304 v_r338 v_r1379 v_r1519) := pkk_sound TTok mix hF 1 (hs := [.u (.d (.v (.int .i64 (v_r220.1.length : Int)))), .u (.d (.v (.int .i64 (v_r256.1.length : Int)))), .u (.d (.v (.int .i64 (v_r304.1.length : Int)))), .u (.d (.v (.int .i64 (v_r1379.1.length : Int)))), .t true, .c, .t true, .c, .t true, .c, .t true, .c, .c, .t false, .c, .c, .c, .c, .c, .c, .c, .c, .c, .c, .c]) (ts := []) (s := []) (l := [6]) (by kernel_rfl) (by kernel_rfl) (.cons (len_ob (f := eS_rmap_Pair) (l := v_r220.1)) (.cons (len_ob (f := eS_rmap_Pair) (l := v_r256.1)) (.cons (len_ob (f := eS_rmap_Pair) (l := v_r304.1)) (.cons (len_ob (f := eS_rmap_Pair) (l := v_r1379.1)) (.cons (bt h1286) (.cons (bt h1287) (.cons (bt h1288) (.cons (bt h1289) (.cons (bf h1290) .nil))))))))) q
theorem G_ringlaw2_RmapTells_C1_e5 {Fi : Ex → PS → Prop} (hF : KC 308 Fi) (ks : List Fr) (n : Nat) (v_r220 : ((List S_rmap_Pair) × Int)) (v_r256 : ((List S_rmap_Pair) × Int × Int)) (v_r304 : ((List S_rmap_Pair) × Int)) (v_r338 : (Int × Int)) (v_r1379 : ((List S_rmap_Pair) × Int × Int)) (v_r1519 : (Int))  (h1286 : (wi .i64 ((wi .i64 ((wi .i64 ((v_r220.1.length : Int) + (v_r256.1.length : Int))) + (v_r304.1.length : Int))) + (v_r1379.1.length : Int))) = 0) (h1287 : v_r256.2.1 = 0) (h1288 : v_r338.1 = 0) (h1289 : ¬ (v_r1379.2.1 = 0)) (q : RunE Try.prog 308 Fi ks (G_ringlaw2_RmapTells_C1_ex (.x0 false)) (G_ringlaw2_RmapTells_C1_st v_r220 v_r256 v_r304 v_r338 v_r1379 v_r1519 (.x0 false))) : RunE Try.prog 308 Fi (.s (cL (cT (cR (cL (cR (cR (cR (cR (cR (cR (cR (cR (bodyOf Try.f3))))))))))))) :: ks) .normal (G_ringlaw2_RmapTells_C1_hd v_r220 v_r256 v_r304 v_r338 v_r1379 v_r1519) := pkk_sound TTok mix hF 1 (hs := [.u (.d (.v (.int .i64 (v_r220.1.length : Int)))), .u (.d (.v (.int .i64 (v_r256.1.length : Int)))), .u (.d (.v (.int .i64 (v_r304.1.length : Int)))), .u (.d (.v (.int .i64 (v_r1379.1.length : Int)))), .t true, .c, .t true, .c, .t true, .c, .t false, .c, .c, .c, .c, .c, .c, .c, .c, .c, .c, .c, .c, .c, .c]) (ts := []) (s := []) (l := [6]) (by kernel_rfl) (by kernel_rfl) (.cons (len_ob (f := eS_rmap_Pair) (l := v_r220.1)) (.cons (len_ob (f := eS_rmap_Pair) (l := v_r256.1)) (.cons (len_ob (f := eS_rmap_Pair) (l := v_r304.1)) (.cons (len_ob (f := eS_rmap_Pair) (l := v_r1379.1)) (.cons (bt h1286) (.cons (bt h1287) (.cons (bt h1288) (.cons (bf h1289) .nil)))))))) q
theorem G_ringlaw2_RmapTells_C1_e6 {Fi : Ex → PS → Prop} (hF : KC 308 Fi) (ks : List Fr) (n : Nat) (v_r220 : ((List S_rmap_Pair) × Int)) (v_r256 : ((List S_rmap_Pair) × Int × Int)) (v_r304 : ((List S_rmap_Pair) × Int)) (v_r338 : (Int × Int)) (v_r1379 : ((List S_rmap_Pair) × Int × Int)) (v_r1519 : (Int))  (h1286 : (wi .i64 ((wi .i64 ((wi .i64 ((v_r220.1.length : Int) + (v_r256.1.length : Int))) + (v_r304.1.length : Int))) + (v_r1379.1.length : Int))) = 0) (h1287 : v_r256.2.1 = 0) (h1288 : ¬ (v_r338.1 = 0)) (q : RunE Try.prog 308 Fi ks (G_ringlaw2_RmapTells_C1_ex (.x0 false)) (G_ringlaw2_RmapTells_C1_st v_r220 v_r256 v_r304 v_r338 v_r1379 v_r1519 (.x0 false))) : RunE Try.prog 308 Fi (.s (cL (cT (cR (cL (cR (cR (cR (cR (cR (cR (cR (cR (bodyOf Try.f3))))))))))))) :: ks) .normal (G_ringlaw2_RmapTells_C1_hd v_r220 v_r256 v_r304 v_r338 v_r1379 v_r1519) := pkk_sound TTok mix hF 1 (hs := [.u (.d (.v (.int .i64 (v_r220.1.length : Int)))), .u (.d (.v (.int .i64 (v_r256.1.length : Int)))), .u (.d (.v (.int .i64 (v_r304.1.length : Int)))), .u (.d (.v (.int .i64 (v_r1379.1.length : Int)))), .t true, .c, .t true, .c, .t false, .c, .c, .c, .c, .c, .c, .c, .c, .c, .c, .c, .c, .c, .c, .c, .c]) (ts := []) (s := []) (l := [6]) (by kernel_rfl) (by kernel_rfl) (.cons (len_ob (f := eS_rmap_Pair) (l := v_r220.1)) (.cons (len_ob (f := eS_rmap_Pair) (l := v_r256.1)) (.cons (len_ob (f := eS_rmap_Pair) (l := v_r304.1)) (.cons (len_ob (f := eS_rmap_Pair) (l := v_r1379.1)) (.cons (bt h1286) (.cons (bt h1287) (.cons (bf h1288) .nil))))))) q
theorem G_ringlaw2_RmapTells_C1_e7 {Fi : Ex → PS → Prop} (hF : KC 308 Fi) (ks : List Fr) (n : Nat) (v_r220 : ((List S_rmap_Pair) × Int)) (v_r256 : ((List S_rmap_Pair) × Int × Int)) (v_r304 : ((List S_rmap_Pair) × Int)) (v_r338 : (Int × Int)) (v_r1379 : ((List S_rmap_Pair) × Int × Int)) (v_r1519 : (Int))  (h1286 : (wi .i64 ((wi .i64 ((wi .i64 ((v_r220.1.length : Int) + (v_r256.1.length : Int))) + (v_r304.1.length : Int))) + (v_r1379.1.length : Int))) = 0) (h1287 : ¬ (v_r256.2.1 = 0)) (q : RunE Try.prog 308 Fi ks (G_ringlaw2_RmapTells_C1_ex (.x0 false)) (G_ringlaw2_RmapTells_C1_st v_r220 v_r256 v_r304 v_r338 v_r1379 v_r1519 (.x0 false))) : RunE Try.prog 308 Fi (.s (cL (cT (cR (cL (cR (cR (cR (cR (cR (cR (cR (cR (bodyOf Try.f3))))))))))))) :: ks) .normal (G_ringlaw2_RmapTells_C1_hd v_r220 v_r256 v_r304 v_r338 v_r1379 v_r1519) := pkk_sound TTok mix hF 1 (hs := [.u (.d (.v (.int .i64 (v_r220.1.length : Int)))), .u (.d (.v (.int .i64 (v_r256.1.length : Int)))), .u (.d (.v (.int .i64 (v_r304.1.length : Int)))), .u (.d (.v (.int .i64 (v_r1379.1.length : Int)))), .t true, .c, .t false, .c, .c, .c, .c, .c, .c, .c, .c, .c, .c, .c, .c, .c, .c, .c, .c, .c, .c]) (ts := []) (s := []) (l := [6]) (by kernel_rfl) (by kernel_rfl) (.cons (len_ob (f := eS_rmap_Pair) (l := v_r220.1)) (.cons (len_ob (f := eS_rmap_Pair) (l := v_r256.1)) (.cons (len_ob (f := eS_rmap_Pair) (l := v_r304.1)) (.cons (len_ob (f := eS_rmap_Pair) (l := v_r1379.1)) (.cons (bt h1286) (.cons (bf h1287) .nil)))))) q
theorem G_ringlaw2_RmapTells_C1_e8 {Fi : Ex → PS → Prop} (hF : KC 308 Fi) (ks : List Fr) (n : Nat) (v_r220 : ((List S_rmap_Pair) × Int)) (v_r256 : ((List S_rmap_Pair) × Int × Int)) (v_r304 : ((List S_rmap_Pair) × Int)) (v_r338 : (Int × Int)) (v_r1379 : ((List S_rmap_Pair) × Int × Int)) (v_r1519 : (Int))  (h1286 : ¬ ((wi .i64 ((wi .i64 ((wi .i64 ((v_r220.1.length : Int) + (v_r256.1.length : Int))) + (v_r304.1.length : Int))) + (v_r1379.1.length : Int))) = 0)) (q : RunE Try.prog 308 Fi ks (G_ringlaw2_RmapTells_C1_ex (.x0 false)) (G_ringlaw2_RmapTells_C1_st v_r220 v_r256 v_r304 v_r338 v_r1379 v_r1519 (.x0 false))) : RunE Try.prog 308 Fi (.s (cL (cT (cR (cL (cR (cR (cR (cR (cR (cR (cR (cR (bodyOf Try.f3))))))))))))) :: ks) .normal (G_ringlaw2_RmapTells_C1_hd v_r220 v_r256 v_r304 v_r338 v_r1379 v_r1519) := pkk_sound TTok mix hF 1 (hs := [.u (.d (.v (.int .i64 (v_r220.1.length : Int)))), .u (.d (.v (.int .i64 (v_r256.1.length : Int)))), .u (.d (.v (.int .i64 (v_r304.1.length : Int)))), .u (.d (.v (.int .i64 (v_r1379.1.length : Int)))), .t false, .c, .c, .c, .c, .c, .c, .c, .c, .c, .c, .c, .c, .c, .c, .c, .c, .c, .c, .c, .c]) (ts := []) (s := []) (l := [6]) (by kernel_rfl) (by kernel_rfl) (.cons (len_ob (f := eS_rmap_Pair) (l := v_r220.1)) (.cons (len_ob (f := eS_rmap_Pair) (l := v_r256.1)) (.cons (len_ob (f := eS_rmap_Pair) (l := v_r304.1)) (.cons (len_ob (f := eS_rmap_Pair) (l := v_r1379.1)) (.cons (bf h1286) .nil))))) q
theorem G_ringlaw2_RmapTells_C1_ok {Fi : Ex → PS → Prop} (hF : KC 308 Fi) (ks : List Fr) (n : Nat) (v_r220 : ((List S_rmap_Pair) × Int)) (v_r256 : ((List S_rmap_Pair) × Int × Int)) (v_r304 : ((List S_rmap_Pair) × Int)) (v_r338 : (Int × Int)) (v_r1379 : ((List S_rmap_Pair) × Int × Int)) (v_r1519 : (Int))  (o : G_ringlaw2_RmapTells_C1_R) (h : G_ringlaw2_RmapTells_C1 n v_r220 v_r256 v_r304 v_r338 v_r1379 v_r1519 = some o) (q : RunE Try.prog 308 Fi ks (G_ringlaw2_RmapTells_C1_ex o) (G_ringlaw2_RmapTells_C1_st v_r220 v_r256 v_r304 v_r338 v_r1379 v_r1519 o)) : RunE Try.prog 308 Fi (.s (cL (cT (cR (cL (cR (cR (cR (cR (cR (cR (cR (cR (bodyOf Try.f3))))))))))))) :: ks) .normal (G_ringlaw2_RmapTells_C1_hd v_r220 v_r256 v_r304 v_r338 v_r1379 v_r1519) := by
  unfold G_ringlaw2_RmapTells_C1 at h
  by_cases h1286 : (wi .i64 ((wi .i64 ((wi .i64 ((v_r220.1.length : Int) + (v_r256.1.length : Int))) + (v_r304.1.length : Int))) + (v_r1379.1.length : Int))) = 0
  · rw [if_pos h1286] at h
    by_cases h1287 : v_r256.2.1 = 0
    · rw [if_pos h1287] at h
      by_cases h1288 : v_r338.1 = 0
      · rw [if_pos h1288] at h
        by_cases h1289 : v_r1379.2.1 = 0
        · rw [if_pos h1289] at h
          by_cases h1290 : v_r220.2 = v_r1519
          · rw [if_pos h1290] at h
            by_cases h1291 : v_r256.2.2 = v_r1519
            · rw [if_pos h1291] at h
              by_cases h1292 : v_r304.2 = v_r1519
              · rw [if_pos h1292] at h
                by_cases h1293 : v_r338.2 = v_r1519
                · rw [if_pos h1293] at h
                  cases h
                  exact G_ringlaw2_RmapTells_C1_e0 hF ks n v_r220 v_r256 v_r304 v_r338 v_r1379 v_r1519 h1286 h1287 h1288 h1289 h1290 h1291 h1292 h1293 q
                · rw [if_neg h1293] at h
                  cases h
                  exact G_ringlaw2_RmapTells_C1_e1 hF ks n v_r220 v_r256 v_r304 v_r338 v_r1379 v_r1519 h1286 h1287 h1288 h1289 h1290 h1291 h1292 h1293 q
              · rw [if_neg h1292] at h
                cases h
                exact G_ringlaw2_RmapTells_C1_e2 hF ks n v_r220 v_r256 v_r304 v_r338 v_r1379 v_r1519 h1286 h1287 h1288 h1289 h1290 h1291 h1292 q
            · rw [if_neg h1291] at h
              cases h
              exact G_ringlaw2_RmapTells_C1_e3 hF ks n v_r220 v_r256 v_r304 v_r338 v_r1379 v_r1519 h1286 h1287 h1288 h1289 h1290 h1291 q
          · rw [if_neg h1290] at h
            cases h
            exact G_ringlaw2_RmapTells_C1_e4 hF ks n v_r220 v_r256 v_r304 v_r338 v_r1379 v_r1519 h1286 h1287 h1288 h1289 h1290 q
        · rw [if_neg h1289] at h
          cases h
          exact G_ringlaw2_RmapTells_C1_e5 hF ks n v_r220 v_r256 v_r304 v_r338 v_r1379 v_r1519 h1286 h1287 h1288 h1289 q
      · rw [if_neg h1288] at h
        cases h
        exact G_ringlaw2_RmapTells_C1_e6 hF ks n v_r220 v_r256 v_r304 v_r338 v_r1379 v_r1519 h1286 h1287 h1288 q
    · rw [if_neg h1287] at h
      cases h
      exact G_ringlaw2_RmapTells_C1_e7 hF ks n v_r220 v_r256 v_r304 v_r338 v_r1379 v_r1519 h1286 h1287 q
  · rw [if_neg h1286] at h
    cases h
    exact G_ringlaw2_RmapTells_C1_e8 hF ks n v_r220 v_r256 v_r304 v_r338 v_r1379 v_r1519 h1286 q
inductive G_ringlaw2_RmapTells_C2_R where
  | x0 (v_at1900 : Int)
def G_ringlaw2_RmapTells_C2_ex : G_ringlaw2_RmapTells_C2_R → Ex
  | .x0 _ => .normal
def G_ringlaw2_RmapTells_C2_st (v_l1 : (List S_rmap_Pair)) (v_to3 : Int) (v_r220 : ((List S_rmap_Pair) × Int)) (v_r256 : ((List S_rmap_Pair) × Int × Int)) (v_r304 : ((List S_rmap_Pair) × Int)) (v_r338 : (Int × Int)) (v_r1379 : ((List S_rmap_Pair) × Int × Int)) (v_r1800 : (Bool)) (v_p2 : S_rmap_Pair) (v_r1771 : ((Fin 17 → (Fin 64 → Int)))) : G_ringlaw2_RmapTells_C2_R → PS
  | .x0 v_at1900 => ⟨(.d (.sl (v_l1.map eS_rmap_Pair)) :: dd :: .d (.v (.int .i64 v_to3)) :: dd :: .ref 0 0 :: dd :: dd :: .d (.sl (v_r220.1.map eS_rmap_Pair)) :: .d (.v (.int .i64 v_r220.2)) :: .d (.sl (v_r256.1.map eS_rmap_Pair)) :: .d (.v (.int .i64 v_r256.2.1)) :: .d (.v (.int .i64 v_r256.2.2)) :: .d (.sl (v_r304.1.map eS_rmap_Pair)) :: .d (.v (.int .i64 v_r304.2)) :: .d (.v (.int .i64 v_r338.1)) :: .d (.v (.int .i64 v_r338.2)) :: .d (.sl (v_r1379.1.map eS_rmap_Pair)) :: .d (.v (.int .i64 v_r1379.2.1)) :: .d (.v (.int .i64 v_r1379.2.2)) :: dd :: .ref 1 0 :: .d (.v (.bool v_r1800)) :: .d (.v (.int .i64 v_at1900)) :: (dds 285 [])), [.box [.d (.v (.int .i64 v_p2.fFrame)), .d (.v (.int .i64 v_p2.fSpace)), .d (.v (.int .i64 v_p2.fPage))], .box ((cA_t36 v_r1771).map FV.d)]⟩
def G_ringlaw2_RmapTells_C2_hd (v_l1 : (List S_rmap_Pair)) (v_to3 : Int) (v_r220 : ((List S_rmap_Pair) × Int)) (v_r256 : ((List S_rmap_Pair) × Int × Int)) (v_r304 : ((List S_rmap_Pair) × Int)) (v_r338 : (Int × Int)) (v_r1379 : ((List S_rmap_Pair) × Int × Int)) (v_r1800 : (Bool)) (v_p2 : S_rmap_Pair) (v_r1771 : ((Fin 17 → (Fin 64 → Int))))  : PS := ⟨(.d (.sl (v_l1.map eS_rmap_Pair)) :: dd :: .d (.v (.int .i64 v_to3)) :: dd :: .ref 0 0 :: dd :: dd :: .d (.sl (v_r220.1.map eS_rmap_Pair)) :: .d (.v (.int .i64 v_r220.2)) :: .d (.sl (v_r256.1.map eS_rmap_Pair)) :: .d (.v (.int .i64 v_r256.2.1)) :: .d (.v (.int .i64 v_r256.2.2)) :: .d (.sl (v_r304.1.map eS_rmap_Pair)) :: .d (.v (.int .i64 v_r304.2)) :: .d (.v (.int .i64 v_r338.1)) :: .d (.v (.int .i64 v_r338.2)) :: .d (.sl (v_r1379.1.map eS_rmap_Pair)) :: .d (.v (.int .i64 v_r1379.2.1)) :: .d (.v (.int .i64 v_r1379.2.2)) :: dd :: .ref 1 0 :: .d (.v (.bool v_r1800)) :: .d (.v (.int .i64 0)) :: (dds 124 (.d (.v (.bool v_r1800)) :: (dds 160 [])))), [.box [.d (.v (.int .i64 v_p2.fFrame)), .d (.v (.int .i64 v_p2.fSpace)), .d (.v (.int .i64 v_p2.fPage))], .box ((cA_t36 v_r1771).map FV.d)]⟩
def G_ringlaw2_RmapTells_C2 (n : Nat) (v_l1 : (List S_rmap_Pair)) (v_to3 : Int) (v_r220 : ((List S_rmap_Pair) × Int)) (v_r256 : ((List S_rmap_Pair) × Int × Int)) (v_r304 : ((List S_rmap_Pair) × Int)) (v_r338 : (Int × Int)) (v_r1379 : ((List S_rmap_Pair) × Int × Int)) (v_r1800 : (Bool)) (v_p2 : S_rmap_Pair) (v_r1771 : ((Fin 17 → (Fin 64 → Int)))) : Option G_ringlaw2_RmapTells_C2_R :=
  if v_r1800 = true then
   if 0 ≤ v_p2.fSpace ∧ v_p2.fSpace < (17 : Int) then
    if 0 ≤ v_p2.fPage ∧ v_p2.fPage < (64 : Int) then
     (getA v_r1771 v_p2.fSpace).bind fun (v_y1898 : (Fin 64 → Int)) =>
     (getA v_y1898 v_p2.fPage).bind fun (v_y1899 : Int) =>
     some (.x0 v_y1899)
    else none
   else none
  else
   some (.x0 0)
theorem G_ringlaw2_RmapTells_C2_ok {Fi : Ex → PS → Prop} (hF : KC 308 Fi) (ks : List Fr) (n : Nat) (v_l1 : (List S_rmap_Pair)) (v_to3 : Int) (v_r220 : ((List S_rmap_Pair) × Int)) (v_r256 : ((List S_rmap_Pair) × Int × Int)) (v_r304 : ((List S_rmap_Pair) × Int)) (v_r338 : (Int × Int)) (v_r1379 : ((List S_rmap_Pair) × Int × Int)) (v_r1800 : (Bool)) (v_p2 : S_rmap_Pair) (v_r1771 : ((Fin 17 → (Fin 64 → Int))))  (o : G_ringlaw2_RmapTells_C2_R) (h : G_ringlaw2_RmapTells_C2 n v_l1 v_to3 v_r220 v_r256 v_r304 v_r338 v_r1379 v_r1800 v_p2 v_r1771 = some o) (q : RunE Try.prog 308 Fi ks (G_ringlaw2_RmapTells_C2_ex o) (G_ringlaw2_RmapTells_C2_st v_l1 v_to3 v_r220 v_r256 v_r304 v_r338 v_r1379 v_r1800 v_p2 v_r1771 o)) : RunE Try.prog 308 Fi (.s (cR (cL (cR (cR (cR (cR (cR (cR (cR (cR (cR (cR (cR (cR (bodyOf Try.f3))))))))))))))) :: ks) .normal (G_ringlaw2_RmapTells_C2_hd v_l1 v_to3 v_r220 v_r256 v_r304 v_r338 v_r1379 v_r1800 v_p2 v_r1771) := by
  unfold G_ringlaw2_RmapTells_C2 at h
  by_cases h1325 : v_r1800 = true
  · rw [if_pos h1325] at h
    by_cases h1326 : 0 ≤ v_p2.fSpace ∧ v_p2.fSpace < (17 : Int)
    · rw [if_pos h1326] at h
      by_cases h1327 : 0 ≤ v_p2.fPage ∧ v_p2.fPage < (64 : Int)
      · rw [if_pos h1327] at h
        obtain ⟨v_y1898, h1328, h⟩ := bind_some h
        obtain ⟨v_y1899, h1329, h⟩ := bind_some h
        cases h
        exact pkk_sound TTok mix hF 2 (hs := [.t true, .c, .c, .l (.d (.v (.int .i64 v_y1899)))]) (ts := []) (s := [0, 1]) (l := [0, 2, 4, 7, 8, 9, 10, 11, 12, 13, 14, 15, 16, 17, 18, 20, 21, 22]) (by kernel_rfl) (by kernel_rfl) (.cons h1325 (.cons h1326 (.cons h1327 (.cons (arr_cell2 (γ := FV) (sz := 64) (g := fvA_64_int_i64) (pre := []) (post := []) (P0 := 0) (o := 0 + (v_p2.fPage).toNat * 1 + 0) rfl (fun _ => rfl) h1328 (arr_cell2 (γ := FV) (sz := 1) (g := (fun x => [.d (.v (.int .i64 x))])) (pre := []) (post := []) (P0 := 0) (o := 0) rfl (fun _ => rfl) h1329 rfl (idx := 0 + (v_p2.fPage).toNat * 1 + 0) (by omega)) (idx := 0 + (v_p2.fSpace).toNat * 64 + (v_p2.fPage).toNat * 1) (by omega)) .nil)))) q
      · rw [if_neg h1327] at h; cases h
    · rw [if_neg h1326] at h; cases h
  · rw [if_neg h1325] at h
    cases h
    exact pkk_sound TTok mix hF 2 (hs := [.t false]) (ts := []) (s := [0, 1]) (l := [0, 2, 4, 7, 8, 9, 10, 11, 12, 13, 14, 15, 16, 17, 18, 20, 21, 22]) (by kernel_rfl) (by kernel_rfl) (.cons (vf h1325) .nil) q
inductive G_ringlaw2_RmapTells_C3_R where
  | x0 (v_put2022 : Int)
def G_ringlaw2_RmapTells_C3_ex : G_ringlaw2_RmapTells_C3_R → Ex
  | .x0 _ => .normal
def G_ringlaw2_RmapTells_C3_st (v_l1 : (List S_rmap_Pair)) (v_to3 : Int) (v_r220 : ((List S_rmap_Pair) × Int)) (v_r256 : ((List S_rmap_Pair) × Int × Int)) (v_r304 : ((List S_rmap_Pair) × Int)) (v_r338 : (Int × Int)) (v_r1379 : ((List S_rmap_Pair) × Int × Int)) (v_r1800 : (Bool)) (v_z1903 : Int) (v_r1999 : (Bool)) (v_p2 : S_rmap_Pair) (v_r1771 : ((Fin 17 → (Fin 64 → Int)))) : G_ringlaw2_RmapTells_C3_R → PS
  | .x0 v_put2022 => ⟨(.d (.sl (v_l1.map eS_rmap_Pair)) :: dd :: .d (.v (.int .i64 v_to3)) :: dd :: .ref 0 0 :: dd :: dd :: .d (.sl (v_r220.1.map eS_rmap_Pair)) :: .d (.v (.int .i64 v_r220.2)) :: .d (.sl (v_r256.1.map eS_rmap_Pair)) :: .d (.v (.int .i64 v_r256.2.1)) :: .d (.v (.int .i64 v_r256.2.2)) :: .d (.sl (v_r304.1.map eS_rmap_Pair)) :: .d (.v (.int .i64 v_r304.2)) :: .d (.v (.int .i64 v_r338.1)) :: .d (.v (.int .i64 v_r338.2)) :: .d (.sl (v_r1379.1.map eS_rmap_Pair)) :: .d (.v (.int .i64 v_r1379.2.1)) :: .d (.v (.int .i64 v_r1379.2.2)) :: dd :: .ref 1 0 :: .d (.v (.bool v_r1800)) :: .d (.v (.int .i64 v_z1903)) :: .d (.v (.int .i64 v_put2022)) :: .d (.v (.int .i64 0)) :: .d (.v (.int .i64 0)) :: .d (.v (.int .i64 0)) :: .d (.v (.int .i64 0)) :: (dds 280 [])), [.box [.d (.v (.int .i64 v_p2.fFrame)), .d (.v (.int .i64 v_p2.fSpace)), .d (.v (.int .i64 v_p2.fPage))], .box ((cA_t36 v_r1771).map FV.d)]⟩
def G_ringlaw2_RmapTells_C3_hd (v_l1 : (List S_rmap_Pair)) (v_to3 : Int) (v_r220 : ((List S_rmap_Pair) × Int)) (v_r256 : ((List S_rmap_Pair) × Int × Int)) (v_r304 : ((List S_rmap_Pair) × Int)) (v_r338 : (Int × Int)) (v_r1379 : ((List S_rmap_Pair) × Int × Int)) (v_r1800 : (Bool)) (v_z1903 : Int) (v_r1999 : (Bool)) (v_p2 : S_rmap_Pair) (v_r1771 : ((Fin 17 → (Fin 64 → Int))))  : PS := ⟨(.d (.sl (v_l1.map eS_rmap_Pair)) :: dd :: .d (.v (.int .i64 v_to3)) :: dd :: .ref 0 0 :: dd :: dd :: .d (.sl (v_r220.1.map eS_rmap_Pair)) :: .d (.v (.int .i64 v_r220.2)) :: .d (.sl (v_r256.1.map eS_rmap_Pair)) :: .d (.v (.int .i64 v_r256.2.1)) :: .d (.v (.int .i64 v_r256.2.2)) :: .d (.sl (v_r304.1.map eS_rmap_Pair)) :: .d (.v (.int .i64 v_r304.2)) :: .d (.v (.int .i64 v_r338.1)) :: .d (.v (.int .i64 v_r338.2)) :: .d (.sl (v_r1379.1.map eS_rmap_Pair)) :: .d (.v (.int .i64 v_r1379.2.1)) :: .d (.v (.int .i64 v_r1379.2.2)) :: dd :: .ref 1 0 :: .d (.v (.bool v_r1800)) :: .d (.v (.int .i64 v_z1903)) :: .d (.v (.int .i64 0)) :: .d (.v (.int .i64 0)) :: .d (.v (.int .i64 0)) :: .d (.v (.int .i64 0)) :: .d (.v (.int .i64 0)) :: (dds 129 (.d (.v (.bool (!v_r1999))) :: (dds 150 [])))), [.box [.d (.v (.int .i64 v_p2.fFrame)), .d (.v (.int .i64 v_p2.fSpace)), .d (.v (.int .i64 v_p2.fPage))], .box ((cA_t36 v_r1771).map FV.d)]⟩
def G_ringlaw2_RmapTells_C3 (n : Nat) (v_l1 : (List S_rmap_Pair)) (v_to3 : Int) (v_r220 : ((List S_rmap_Pair) × Int)) (v_r256 : ((List S_rmap_Pair) × Int × Int)) (v_r304 : ((List S_rmap_Pair) × Int)) (v_r338 : (Int × Int)) (v_r1379 : ((List S_rmap_Pair) × Int × Int)) (v_r1800 : (Bool)) (v_z1903 : Int) (v_r1999 : (Bool)) (v_p2 : S_rmap_Pair) (v_r1771 : ((Fin 17 → (Fin 64 → Int)))) : Option G_ringlaw2_RmapTells_C3_R :=
  if v_r1999 = true then
   if v_z1903 > 0 then
    some (.x0 5)
   else
    some (.x0 0)
  else
   some (.x0 1)
theorem G_ringlaw2_RmapTells_C3_ok {Fi : Ex → PS → Prop} (hF : KC 308 Fi) (ks : List Fr) (n : Nat) (v_l1 : (List S_rmap_Pair)) (v_to3 : Int) (v_r220 : ((List S_rmap_Pair) × Int)) (v_r256 : ((List S_rmap_Pair) × Int × Int)) (v_r304 : ((List S_rmap_Pair) × Int)) (v_r338 : (Int × Int)) (v_r1379 : ((List S_rmap_Pair) × Int × Int)) (v_r1800 : (Bool)) (v_z1903 : Int) (v_r1999 : (Bool)) (v_p2 : S_rmap_Pair) (v_r1771 : ((Fin 17 → (Fin 64 → Int))))  (o : G_ringlaw2_RmapTells_C3_R) (h : G_ringlaw2_RmapTells_C3 n v_l1 v_to3 v_r220 v_r256 v_r304 v_r338 v_r1379 v_r1800 v_z1903 v_r1999 v_p2 v_r1771 = some o) (q : RunE Try.prog 308 Fi ks (G_ringlaw2_RmapTells_C3_ex o) (G_ringlaw2_RmapTells_C3_st v_l1 v_to3 v_r220 v_r256 v_r304 v_r338 v_r1379 v_r1800 v_z1903 v_r1999 v_p2 v_r1771 o)) : RunE Try.prog 308 Fi (.s (cR (cL (cR (cR (cR (cR (cR (cR (cR (cR (cR (cR (cR (cR (cR (cR (bodyOf Try.f3))))))))))))))))) :: ks) .normal (G_ringlaw2_RmapTells_C3_hd v_l1 v_to3 v_r220 v_r256 v_r304 v_r338 v_r1379 v_r1800 v_z1903 v_r1999 v_p2 v_r1771) := by
  unfold G_ringlaw2_RmapTells_C3 at h
  by_cases h1334 : v_r1999 = true
  · rw [if_pos h1334] at h
    by_cases h1335 : v_z1903 > 0
    · rw [if_pos h1335] at h
      cases h
      exact pkk_sound TTok mix hF 5 (hs := [.t false, .t true]) (ts := []) (s := [0, 1]) (l := [0, 2, 4, 7, 8, 9, 10, 11, 12, 13, 14, 15, 16, 17, 18, 20, 21, 22, 23, 24, 25, 26, 27]) (by kernel_rfl) (by kernel_rfl) (.cons (bnf h1334) (.cons (dt h1335) .nil)) q
    · rw [if_neg h1335] at h
      cases h
      exact pkk_sound TTok mix hF 5 (hs := [.t false, .t false]) (ts := []) (s := [0, 1]) (l := [0, 2, 4, 7, 8, 9, 10, 11, 12, 13, 14, 15, 16, 17, 18, 20, 21, 22, 23, 24, 25, 26, 27]) (by kernel_rfl) (by kernel_rfl) (.cons (bnf h1334) (.cons (df h1335) .nil)) q
  · rw [if_neg h1334] at h
    cases h
    exact pkk_sound TTok mix hF 2 (hs := [.t true]) (ts := []) (s := [0, 1]) (l := [0, 2, 4, 7, 8, 9, 10, 11, 12, 13, 14, 15, 16, 17, 18, 20, 21, 22, 23, 24, 25, 26, 27]) (by kernel_rfl) (by kernel_rfl) (.cons (bnt (vf h1334)) .nil) q
inductive G_ringlaw2_RmapTells_C4_R where
  | x0 (v_out2111 : Int) (v_where2112 : Int)
def G_ringlaw2_RmapTells_C4_ex : G_ringlaw2_RmapTells_C4_R → Ex
  | .x0 _ _ => .normal
def G_ringlaw2_RmapTells_C4_st (v_l1 : (List S_rmap_Pair)) (v_to3 : Int) (v_r220 : ((List S_rmap_Pair) × Int)) (v_r256 : ((List S_rmap_Pair) × Int × Int)) (v_r304 : ((List S_rmap_Pair) × Int)) (v_r338 : (Int × Int)) (v_r1379 : ((List S_rmap_Pair) × Int × Int)) (v_z1903 : Int) (v_z2026 : Int) (v_r1800 : (Bool)) (v_p2 : S_rmap_Pair) (v_r1771 : ((Fin 17 → (Fin 64 → Int)))) : G_ringlaw2_RmapTells_C4_R → PS
  | .x0 v_out2111 v_where2112 => ⟨(.d (.sl (v_l1.map eS_rmap_Pair)) :: dd :: .d (.v (.int .i64 v_to3)) :: dd :: .ref 0 0 :: dd :: dd :: .d (.sl (v_r220.1.map eS_rmap_Pair)) :: .d (.v (.int .i64 v_r220.2)) :: .d (.sl (v_r256.1.map eS_rmap_Pair)) :: .d (.v (.int .i64 v_r256.2.1)) :: .d (.v (.int .i64 v_r256.2.2)) :: .d (.sl (v_r304.1.map eS_rmap_Pair)) :: .d (.v (.int .i64 v_r304.2)) :: .d (.v (.int .i64 v_r338.1)) :: .d (.v (.int .i64 v_r338.2)) :: .d (.sl (v_r1379.1.map eS_rmap_Pair)) :: .d (.v (.int .i64 v_r1379.2.1)) :: .d (.v (.int .i64 v_r1379.2.2)) :: dd :: .ref 1 0 :: dd :: .d (.v (.int .i64 v_z1903)) :: .d (.v (.int .i64 v_z2026)) :: .d (.v (.int .i64 v_out2111)) :: .d (.v (.int .i64 0)) :: .d (.v (.int .i64 v_where2112)) :: .d (.v (.int .i64 0)) :: (dds 280 [])), [.box [.d (.v (.int .i64 v_p2.fFrame)), .d (.v (.int .i64 v_p2.fSpace)), .d (.v (.int .i64 v_p2.fPage))], .box ((cA_t36 v_r1771).map FV.d)]⟩
def G_ringlaw2_RmapTells_C4_hd (v_l1 : (List S_rmap_Pair)) (v_to3 : Int) (v_r220 : ((List S_rmap_Pair) × Int)) (v_r256 : ((List S_rmap_Pair) × Int × Int)) (v_r304 : ((List S_rmap_Pair) × Int)) (v_r338 : (Int × Int)) (v_r1379 : ((List S_rmap_Pair) × Int × Int)) (v_z1903 : Int) (v_z2026 : Int) (v_r1800 : (Bool)) (v_p2 : S_rmap_Pair) (v_r1771 : ((Fin 17 → (Fin 64 → Int))))  : PS := ⟨(.d (.sl (v_l1.map eS_rmap_Pair)) :: dd :: .d (.v (.int .i64 v_to3)) :: dd :: .ref 0 0 :: dd :: dd :: .d (.sl (v_r220.1.map eS_rmap_Pair)) :: .d (.v (.int .i64 v_r220.2)) :: .d (.sl (v_r256.1.map eS_rmap_Pair)) :: .d (.v (.int .i64 v_r256.2.1)) :: .d (.v (.int .i64 v_r256.2.2)) :: .d (.sl (v_r304.1.map eS_rmap_Pair)) :: .d (.v (.int .i64 v_r304.2)) :: .d (.v (.int .i64 v_r338.1)) :: .d (.v (.int .i64 v_r338.2)) :: .d (.sl (v_r1379.1.map eS_rmap_Pair)) :: .d (.v (.int .i64 v_r1379.2.1)) :: .d (.v (.int .i64 v_r1379.2.2)) :: dd :: .ref 1 0 :: dd :: .d (.v (.int .i64 v_z1903)) :: .d (.v (.int .i64 v_z2026)) :: .d (.v (.int .i64 0)) :: .d (.v (.int .i64 0)) :: .d (.v (.int .i64 0)) :: .d (.v (.int .i64 0)) :: (dds 133 (.d (.v (.bool (!v_r1800))) :: (dds 146 [])))), [.box [.d (.v (.int .i64 v_p2.fFrame)), .d (.v (.int .i64 v_p2.fSpace)), .d (.v (.int .i64 v_p2.fPage))], .box ((cA_t36 v_r1771).map FV.d)]⟩
def G_ringlaw2_RmapTells_C4 (n : Nat) (v_l1 : (List S_rmap_Pair)) (v_to3 : Int) (v_r220 : ((List S_rmap_Pair) × Int)) (v_r256 : ((List S_rmap_Pair) × Int × Int)) (v_r304 : ((List S_rmap_Pair) × Int)) (v_r338 : (Int × Int)) (v_r1379 : ((List S_rmap_Pair) × Int × Int)) (v_z1903 : Int) (v_z2026 : Int) (v_r1800 : (Bool)) (v_p2 : S_rmap_Pair) (v_r1771 : ((Fin 17 → (Fin 64 → Int)))) : Option G_ringlaw2_RmapTells_C4_R :=
  if v_r1800 = true then
   if v_z1903 = 0 then
    some (.x0 4 0)
   else
    some (.x0 0 0)
  else
   some (.x0 1 1)
theorem G_ringlaw2_RmapTells_C4_ok {Fi : Ex → PS → Prop} (hF : KC 308 Fi) (ks : List Fr) (n : Nat) (v_l1 : (List S_rmap_Pair)) (v_to3 : Int) (v_r220 : ((List S_rmap_Pair) × Int)) (v_r256 : ((List S_rmap_Pair) × Int × Int)) (v_r304 : ((List S_rmap_Pair) × Int)) (v_r338 : (Int × Int)) (v_r1379 : ((List S_rmap_Pair) × Int × Int)) (v_z1903 : Int) (v_z2026 : Int) (v_r1800 : (Bool)) (v_p2 : S_rmap_Pair) (v_r1771 : ((Fin 17 → (Fin 64 → Int))))  (o : G_ringlaw2_RmapTells_C4_R) (h : G_ringlaw2_RmapTells_C4 n v_l1 v_to3 v_r220 v_r256 v_r304 v_r338 v_r1379 v_z1903 v_z2026 v_r1800 v_p2 v_r1771 = some o) (q : RunE Try.prog 308 Fi ks (G_ringlaw2_RmapTells_C4_ex o) (G_ringlaw2_RmapTells_C4_st v_l1 v_to3 v_r220 v_r256 v_r304 v_r338 v_r1379 v_z1903 v_z2026 v_r1800 v_p2 v_r1771 o)) : RunE Try.prog 308 Fi (.s (cR (cL (cR (cR (cR (cR (cR (cR (cR (cR (cR (cR (cR (cR (cR (cR (cR (bodyOf Try.f3)))))))))))))))))) :: ks) .normal (G_ringlaw2_RmapTells_C4_hd v_l1 v_to3 v_r220 v_r256 v_r304 v_r338 v_r1379 v_z1903 v_z2026 v_r1800 v_p2 v_r1771) := by
  unfold G_ringlaw2_RmapTells_C4 at h
  by_cases h1339 : v_r1800 = true
  · rw [if_pos h1339] at h
    by_cases h1340 : v_z1903 = 0
    · rw [if_pos h1340] at h
      cases h
      exact pkk_sound TTok mix hF 5 (hs := [.t false, .t true]) (ts := []) (s := [0, 1]) (l := [0, 2, 4, 7, 8, 9, 10, 11, 12, 13, 14, 15, 16, 17, 18, 20, 22, 23, 24, 25, 26, 27]) (by kernel_rfl) (by kernel_rfl) (.cons (bnf h1339) (.cons (bt h1340) .nil)) q
    · rw [if_neg h1340] at h
      cases h
      exact pkk_sound TTok mix hF 5 (hs := [.t false, .t false]) (ts := []) (s := [0, 1]) (l := [0, 2, 4, 7, 8, 9, 10, 11, 12, 13, 14, 15, 16, 17, 18, 20, 22, 23, 24, 25, 26, 27]) (by kernel_rfl) (by kernel_rfl) (.cons (bnf h1339) (.cons (bf h1340) .nil)) q
  · rw [if_neg h1339] at h
    cases h
    exact pkk_sound TTok mix hF 2 (hs := [.t true]) (ts := []) (s := [0, 1]) (l := [0, 2, 4, 7, 8, 9, 10, 11, 12, 13, 14, 15, 16, 17, 18, 20, 22, 23, 24, 25, 26, 27]) (by kernel_rfl) (by kernel_rfl) (.cons (bnt (vf h1339)) .nil) q
inductive G_ringlaw2_RmapTells_C5_R where
  | x0 (v_who2203 : Int) (v_move2204 : Int)
def G_ringlaw2_RmapTells_C5_ex : G_ringlaw2_RmapTells_C5_R → Ex
  | .x0 _ _ => .normal
def G_ringlaw2_RmapTells_C5_st (v_l1 : (List S_rmap_Pair)) (v_to3 : Int) (v_r220 : ((List S_rmap_Pair) × Int)) (v_r256 : ((List S_rmap_Pair) × Int × Int)) (v_r304 : ((List S_rmap_Pair) × Int)) (v_r338 : (Int × Int)) (v_r1379 : ((List S_rmap_Pair) × Int × Int)) (v_z1903 : Int) (v_z2026 : Int) (v_z2118 : Int) (v_z2119 : Int) (v_r2180 : (Bool)) (v_p2 : S_rmap_Pair) (v_r1771 : ((Fin 17 → (Fin 64 → Int)))) : G_ringlaw2_RmapTells_C5_R → PS
  | .x0 v_who2203 v_move2204 => ⟨(.d (.sl (v_l1.map eS_rmap_Pair)) :: dd :: .d (.v (.int .i64 v_to3)) :: dd :: .ref 0 0 :: dd :: dd :: .d (.sl (v_r220.1.map eS_rmap_Pair)) :: .d (.v (.int .i64 v_r220.2)) :: .d (.sl (v_r256.1.map eS_rmap_Pair)) :: .d (.v (.int .i64 v_r256.2.1)) :: .d (.v (.int .i64 v_r256.2.2)) :: .d (.sl (v_r304.1.map eS_rmap_Pair)) :: .d (.v (.int .i64 v_r304.2)) :: .d (.v (.int .i64 v_r338.1)) :: .d (.v (.int .i64 v_r338.2)) :: .d (.sl (v_r1379.1.map eS_rmap_Pair)) :: .d (.v (.int .i64 v_r1379.2.1)) :: .d (.v (.int .i64 v_r1379.2.2)) :: dd :: .ref 1 0 :: dd :: .d (.v (.int .i64 v_z1903)) :: .d (.v (.int .i64 v_z2026)) :: .d (.v (.int .i64 v_z2118)) :: .d (.v (.int .i64 v_who2203)) :: .d (.v (.int .i64 v_z2119)) :: .d (.v (.int .i64 v_move2204)) :: (dds 280 [])), [.box [.d (.v (.int .i64 v_p2.fFrame)), .d (.v (.int .i64 v_p2.fSpace)), .d (.v (.int .i64 v_p2.fPage))], .box ((cA_t36 v_r1771).map FV.d)]⟩
def G_ringlaw2_RmapTells_C5_hd (v_l1 : (List S_rmap_Pair)) (v_to3 : Int) (v_r220 : ((List S_rmap_Pair) × Int)) (v_r256 : ((List S_rmap_Pair) × Int × Int)) (v_r304 : ((List S_rmap_Pair) × Int)) (v_r338 : (Int × Int)) (v_r1379 : ((List S_rmap_Pair) × Int × Int)) (v_z1903 : Int) (v_z2026 : Int) (v_z2118 : Int) (v_z2119 : Int) (v_r2180 : (Bool)) (v_p2 : S_rmap_Pair) (v_r1771 : ((Fin 17 → (Fin 64 → Int))))  : PS := ⟨(.d (.sl (v_l1.map eS_rmap_Pair)) :: dd :: .d (.v (.int .i64 v_to3)) :: dd :: .ref 0 0 :: dd :: dd :: .d (.sl (v_r220.1.map eS_rmap_Pair)) :: .d (.v (.int .i64 v_r220.2)) :: .d (.sl (v_r256.1.map eS_rmap_Pair)) :: .d (.v (.int .i64 v_r256.2.1)) :: .d (.v (.int .i64 v_r256.2.2)) :: .d (.sl (v_r304.1.map eS_rmap_Pair)) :: .d (.v (.int .i64 v_r304.2)) :: .d (.v (.int .i64 v_r338.1)) :: .d (.v (.int .i64 v_r338.2)) :: .d (.sl (v_r1379.1.map eS_rmap_Pair)) :: .d (.v (.int .i64 v_r1379.2.1)) :: .d (.v (.int .i64 v_r1379.2.2)) :: dd :: .ref 1 0 :: dd :: .d (.v (.int .i64 v_z1903)) :: .d (.v (.int .i64 v_z2026)) :: .d (.v (.int .i64 v_z2118)) :: .d (.v (.int .i64 0)) :: .d (.v (.int .i64 v_z2119)) :: .d (.v (.int .i64 0)) :: (dds 139 (.d (.v (.bool (!v_r2180))) :: (dds 140 [])))), [.box [.d (.v (.int .i64 v_p2.fFrame)), .d (.v (.int .i64 v_p2.fSpace)), .d (.v (.int .i64 v_p2.fPage))], .box ((cA_t36 v_r1771).map FV.d)]⟩
def G_ringlaw2_RmapTells_C5 (n : Nat) (v_l1 : (List S_rmap_Pair)) (v_to3 : Int) (v_r220 : ((List S_rmap_Pair) × Int)) (v_r256 : ((List S_rmap_Pair) × Int × Int)) (v_r304 : ((List S_rmap_Pair) × Int)) (v_r338 : (Int × Int)) (v_r1379 : ((List S_rmap_Pair) × Int × Int)) (v_z1903 : Int) (v_z2026 : Int) (v_z2118 : Int) (v_z2119 : Int) (v_r2180 : (Bool)) (v_p2 : S_rmap_Pair) (v_r1771 : ((Fin 17 → (Fin 64 → Int)))) : Option G_ringlaw2_RmapTells_C5_R :=
  if v_r2180 = true then
   (G_ringref2_In n v_to3 0 63).bind fun (v_r2205 : (Bool)) =>
   if v_r2205 = true then
    some (.x0 0 0)
   else
    some (.x0 0 1)
  else
   some (.x0 1 1)
theorem G_ringlaw2_RmapTells_C5_ok {Fi : Ex → PS → Prop} (hF : KC 308 Fi) (ks : List Fr) (n : Nat) (v_l1 : (List S_rmap_Pair)) (v_to3 : Int) (v_r220 : ((List S_rmap_Pair) × Int)) (v_r256 : ((List S_rmap_Pair) × Int × Int)) (v_r304 : ((List S_rmap_Pair) × Int)) (v_r338 : (Int × Int)) (v_r1379 : ((List S_rmap_Pair) × Int × Int)) (v_z1903 : Int) (v_z2026 : Int) (v_z2118 : Int) (v_z2119 : Int) (v_r2180 : (Bool)) (v_p2 : S_rmap_Pair) (v_r1771 : ((Fin 17 → (Fin 64 → Int))))  (o : G_ringlaw2_RmapTells_C5_R) (h : G_ringlaw2_RmapTells_C5 n v_l1 v_to3 v_r220 v_r256 v_r304 v_r338 v_r1379 v_z1903 v_z2026 v_z2118 v_z2119 v_r2180 v_p2 v_r1771 = some o) (q : RunE Try.prog 308 Fi ks (G_ringlaw2_RmapTells_C5_ex o) (G_ringlaw2_RmapTells_C5_st v_l1 v_to3 v_r220 v_r256 v_r304 v_r338 v_r1379 v_z1903 v_z2026 v_z2118 v_z2119 v_r2180 v_p2 v_r1771 o)) : RunE Try.prog 308 Fi (.s (cR (cL (cR (cR (cR (cR (cR (cR (cR (cR (cR (cR (cR (cR (cR (cR (cR (cR (bodyOf Try.f3))))))))))))))))))) :: ks) .normal (G_ringlaw2_RmapTells_C5_hd v_l1 v_to3 v_r220 v_r256 v_r304 v_r338 v_r1379 v_z1903 v_z2026 v_z2118 v_z2119 v_r2180 v_p2 v_r1771) := by
  unfold G_ringlaw2_RmapTells_C5 at h
  by_cases h1346 : v_r2180 = true
  · rw [if_pos h1346] at h
    obtain ⟨v_r2205, h1347, h⟩ := bind_some h
    by_cases h1348 : v_r2205 = true
    · rw [if_pos h1348] at h
      cases h
      exact pkk_sound TTok mix hF 5 (hs := [.t false, .r (eB v_r2205), .t false]) (ts := []) (s := [0, 1]) (l := [0, 2, 4, 7, 8, 9, 10, 11, 12, 13, 14, 15, 16, 17, 18, 20, 22, 23, 24, 25, 26, 27]) (by kernel_rfl) (by kernel_rfl) (.cons (bnf h1346) (.cons (G_ringref2_In_ok n v_to3 0 63 _ h1347) (.cons (bnf h1348) .nil))) q
    · rw [if_neg h1348] at h
      cases h
      exact pkk_sound TTok mix hF 5 (hs := [.t false, .r (eB v_r2205), .t true]) (ts := []) (s := [0, 1]) (l := [0, 2, 4, 7, 8, 9, 10, 11, 12, 13, 14, 15, 16, 17, 18, 20, 22, 23, 24, 25, 26, 27]) (by kernel_rfl) (by kernel_rfl) (.cons (bnf h1346) (.cons (G_ringref2_In_ok n v_to3 0 63 _ h1347) (.cons (bnt (vf h1348)) .nil))) q
  · rw [if_neg h1346] at h
    cases h
    exact pkk_sound TTok mix hF 2 (hs := [.t true]) (ts := []) (s := [0, 1]) (l := [0, 2, 4, 7, 8, 9, 10, 11, 12, 13, 14, 15, 16, 17, 18, 20, 22, 23, 24, 25, 26, 27]) (by kernel_rfl) (by kernel_rfl) (.cons (bnt (vf h1346)) .nil) q
inductive G_ringlaw2_RmapTells_C6_R where
  | x0 (v_x2273 : Bool)
def G_ringlaw2_RmapTells_C6_ex : G_ringlaw2_RmapTells_C6_R → Ex
  | .x0 _ => .normal
def G_ringlaw2_RmapTells_C6_st (v_l1 : (List S_rmap_Pair)) (v_to3 : Int) (v_r220 : ((List S_rmap_Pair) × Int)) (v_r256 : ((List S_rmap_Pair) × Int × Int)) (v_r304 : ((List S_rmap_Pair) × Int)) (v_r338 : (Int × Int)) (v_r1379 : ((List S_rmap_Pair) × Int × Int)) (v_z1903 : Int) (v_z2026 : Int) (v_z2118 : Int) (v_z2211 : Int) (v_z2119 : Int) (v_z2212 : Int) (v_p2 : S_rmap_Pair) (v_r1771 : ((Fin 17 → (Fin 64 → Int)))) : G_ringlaw2_RmapTells_C6_R → PS
  | .x0 v_x2273 => ⟨(.d (.sl (v_l1.map eS_rmap_Pair)) :: dd :: .d (.v (.int .i64 v_to3)) :: dd :: .ref 0 0 :: dd :: dd :: .d (.sl (v_r220.1.map eS_rmap_Pair)) :: dd :: .d (.sl (v_r256.1.map eS_rmap_Pair)) :: .d (.v (.int .i64 v_r256.2.1)) :: dd :: .d (.sl (v_r304.1.map eS_rmap_Pair)) :: dd :: .d (.v (.int .i64 v_r338.1)) :: dd :: .d (.sl (v_r1379.1.map eS_rmap_Pair)) :: .d (.v (.int .i64 v_r1379.2.1)) :: dd :: dd :: .ref 1 0 :: dd :: .d (.v (.int .i64 v_z1903)) :: .d (.v (.int .i64 v_z2026)) :: .d (.v (.int .i64 v_z2118)) :: .d (.v (.int .i64 v_z2211)) :: .d (.v (.int .i64 v_z2119)) :: .d (.v (.int .i64 v_z2212)) :: (dds 165 (.d (.v (.bool v_x2273)) :: (dds 114 [])))), [.box [.d (.v (.int .i64 v_p2.fFrame)), .d (.v (.int .i64 v_p2.fSpace)), .d (.v (.int .i64 v_p2.fPage))], .box ((cA_t36 v_r1771).map FV.d)]⟩
def G_ringlaw2_RmapTells_C6_hd (v_l1 : (List S_rmap_Pair)) (v_to3 : Int) (v_r220 : ((List S_rmap_Pair) × Int)) (v_r256 : ((List S_rmap_Pair) × Int × Int)) (v_r304 : ((List S_rmap_Pair) × Int)) (v_r338 : (Int × Int)) (v_r1379 : ((List S_rmap_Pair) × Int × Int)) (v_z1903 : Int) (v_z2026 : Int) (v_z2118 : Int) (v_z2211 : Int) (v_z2119 : Int) (v_z2212 : Int) (v_p2 : S_rmap_Pair) (v_r1771 : ((Fin 17 → (Fin 64 → Int))))  : PS := ⟨(.d (.sl (v_l1.map eS_rmap_Pair)) :: dd :: .d (.v (.int .i64 v_to3)) :: dd :: .ref 0 0 :: dd :: dd :: .d (.sl (v_r220.1.map eS_rmap_Pair)) :: .d (.v (.int .i64 v_r220.2)) :: .d (.sl (v_r256.1.map eS_rmap_Pair)) :: .d (.v (.int .i64 v_r256.2.1)) :: .d (.v (.int .i64 v_r256.2.2)) :: .d (.sl (v_r304.1.map eS_rmap_Pair)) :: .d (.v (.int .i64 v_r304.2)) :: .d (.v (.int .i64 v_r338.1)) :: .d (.v (.int .i64 v_r338.2)) :: .d (.sl (v_r1379.1.map eS_rmap_Pair)) :: .d (.v (.int .i64 v_r1379.2.1)) :: .d (.v (.int .i64 v_r1379.2.2)) :: dd :: .ref 1 0 :: dd :: .d (.v (.int .i64 v_z1903)) :: .d (.v (.int .i64 v_z2026)) :: .d (.v (.int .i64 v_z2118)) :: .d (.v (.int .i64 v_z2211)) :: .d (.v (.int .i64 v_z2119)) :: .d (.v (.int .i64 v_z2212)) :: (dds 280 [])), [.box [.d (.v (.int .i64 v_p2.fFrame)), .d (.v (.int .i64 v_p2.fSpace)), .d (.v (.int .i64 v_p2.fPage))], .box ((cA_t36 v_r1771).map FV.d)]⟩
def G_ringlaw2_RmapTells_C6 (n : Nat) (v_l1 : (List S_rmap_Pair)) (v_to3 : Int) (v_r220 : ((List S_rmap_Pair) × Int)) (v_r256 : ((List S_rmap_Pair) × Int × Int)) (v_r304 : ((List S_rmap_Pair) × Int)) (v_r338 : (Int × Int)) (v_r1379 : ((List S_rmap_Pair) × Int × Int)) (v_z1903 : Int) (v_z2026 : Int) (v_z2118 : Int) (v_z2211 : Int) (v_z2119 : Int) (v_z2212 : Int) (v_p2 : S_rmap_Pair) (v_r1771 : ((Fin 17 → (Fin 64 → Int)))) : Option G_ringlaw2_RmapTells_C6_R :=
  if v_r220.2 = v_z2026 then
   if v_r256.2.2 = v_z2118 then
    if v_r304.2 = v_z2211 then
     if v_r338.2 = v_z2119 then
      some (.x0 (v_r1379.2.2 != v_z2212))
     else
      some (.x0 true)
    else
     some (.x0 true)
   else
    some (.x0 true)
  else
   some (.x0 true)
theorem G_ringlaw2_RmapTells_C6_ok {Fi : Ex → PS → Prop} (hF : KC 308 Fi) (ks : List Fr) (n : Nat) (v_l1 : (List S_rmap_Pair)) (v_to3 : Int) (v_r220 : ((List S_rmap_Pair) × Int)) (v_r256 : ((List S_rmap_Pair) × Int × Int)) (v_r304 : ((List S_rmap_Pair) × Int)) (v_r338 : (Int × Int)) (v_r1379 : ((List S_rmap_Pair) × Int × Int)) (v_z1903 : Int) (v_z2026 : Int) (v_z2118 : Int) (v_z2211 : Int) (v_z2119 : Int) (v_z2212 : Int) (v_p2 : S_rmap_Pair) (v_r1771 : ((Fin 17 → (Fin 64 → Int))))  (o : G_ringlaw2_RmapTells_C6_R) (h : G_ringlaw2_RmapTells_C6 n v_l1 v_to3 v_r220 v_r256 v_r304 v_r338 v_r1379 v_z1903 v_z2026 v_z2118 v_z2211 v_z2119 v_z2212 v_p2 v_r1771 = some o) (q : RunE Try.prog 308 Fi ks (G_ringlaw2_RmapTells_C6_ex o) (G_ringlaw2_RmapTells_C6_st v_l1 v_to3 v_r220 v_r256 v_r304 v_r338 v_r1379 v_z1903 v_z2026 v_z2118 v_z2211 v_z2119 v_z2212 v_p2 v_r1771 o)) : RunE Try.prog 308 Fi (.s (cL (cL (cR (cR (cR (cR (cR (cR (cR (cR (cR (cR (cR (cR (cR (cR (cR (cR (cR (bodyOf Try.f3)))))))))))))))))))) :: ks) .normal (G_ringlaw2_RmapTells_C6_hd v_l1 v_to3 v_r220 v_r256 v_r304 v_r338 v_r1379 v_z1903 v_z2026 v_z2118 v_z2211 v_z2119 v_z2212 v_p2 v_r1771) := by
  unfold G_ringlaw2_RmapTells_C6 at h
  by_cases h1354 : v_r220.2 = v_z2026
  · rw [if_pos h1354] at h
    by_cases h1355 : v_r256.2.2 = v_z2118
    · rw [if_pos h1355] at h
      by_cases h1356 : v_r304.2 = v_z2211
      · rw [if_pos h1356] at h
        by_cases h1357 : v_r338.2 = v_z2119
        · rw [if_pos h1357] at h
          cases h
          exact pkk_sound TTok mix hF 1 (hs := [.t false, .c, .c, .t false, .c, .c, .t false, .c, .c, .t false, .c, .c]) (ts := []) (s := [0, 1]) (l := [0, 2, 4, 7, 9, 10, 12, 14, 16, 17, 20, 22, 23, 24, 25, 26, 27, 193]) (by kernel_rfl) (by kernel_rfl) (.cons (nf h1354) (.cons (nf h1355) (.cons (nf h1356) (.cons (nf h1357) .nil)))) q
        · rw [if_neg h1357] at h
          cases h
          exact pkk_sound TTok mix hF 1 (hs := [.t false, .c, .c, .t false, .c, .c, .t false, .c, .c, .t true, .c, .c]) (ts := []) (s := [0, 1]) (l := [0, 2, 4, 7, 9, 10, 12, 14, 16, 17, 20, 22, 23, 24, 25, 26, 27, 193]) (by kernel_rfl) (by kernel_rfl) (.cons (nf h1354) (.cons (nf h1355) (.cons (nf h1356) (.cons (nt h1357) .nil)))) q
      · rw [if_neg h1356] at h
        cases h
        exact pkk_sound TTok mix hF 1 (hs := [.t false, .c, .c, .t false, .c, .c, .t true, .c, .c, .c, .c, .c]) (ts := []) (s := [0, 1]) (l := [0, 2, 4, 7, 9, 10, 12, 14, 16, 17, 20, 22, 23, 24, 25, 26, 27, 193]) (by kernel_rfl) (by kernel_rfl) (.cons (nf h1354) (.cons (nf h1355) (.cons (nt h1356) .nil))) q
    · rw [if_neg h1355] at h
      cases h
      exact pkk_sound TTok mix hF 1 (hs := [.t false, .c, .c, .t true, .c, .c, .c, .c, .c, .c, .c, .c]) (ts := []) (s := [0, 1]) (l := [0, 2, 4, 7, 9, 10, 12, 14, 16, 17, 20, 22, 23, 24, 25, 26, 27, 193]) (by kernel_rfl) (by kernel_rfl) (.cons (nf h1354) (.cons (nt h1355) .nil)) q
  · rw [if_neg h1354] at h
    cases h
    exact pkk_sound TTok mix hF 1 (hs := [.t true, .c, .c, .c, .c, .c, .c, .c, .c, .c, .c, .c]) (ts := []) (s := [0, 1]) (l := [0, 2, 4, 7, 9, 10, 12, 14, 16, 17, 20, 22, 23, 24, 25, 26, 27, 193]) (by kernel_rfl) (by kernel_rfl) (.cons (nt h1354) .nil) q
inductive G_ringlaw2_RmapTells_C7_R where
  | x0 (v_want2486 : (List S_rmap_Pair))
def G_ringlaw2_RmapTells_C7_ex : G_ringlaw2_RmapTells_C7_R → Ex
  | .x0 _ => .normal
def G_ringlaw2_RmapTells_C7_st (v_l1 : (List S_rmap_Pair)) (v_to3 : Int) (v_r220 : ((List S_rmap_Pair) × Int)) (v_r256 : ((List S_rmap_Pair) × Int × Int)) (v_r304 : ((List S_rmap_Pair) × Int)) (v_r338 : (Int × Int)) (v_r1379 : ((List S_rmap_Pair) × Int × Int)) (v_z1903 : Int) (v_z2118 : Int) (v_z2211 : Int) (v_z2119 : Int) (v_z2212 : Int) (v_z2026 : Int) (v_p2 : S_rmap_Pair) (v_r1771 : ((Fin 17 → (Fin 64 → Int)))) : G_ringlaw2_RmapTells_C7_R → PS
  | .x0 v_want2486 => ⟨(.d (.sl (v_l1.map eS_rmap_Pair)) :: dd :: .d (.v (.int .i64 v_to3)) :: dd :: .ref 0 0 :: dd :: dd :: .d (.sl (v_r220.1.map eS_rmap_Pair)) :: dd :: .d (.sl (v_r256.1.map eS_rmap_Pair)) :: .d (.v (.int .i64 v_r256.2.1)) :: dd :: .d (.sl (v_r304.1.map eS_rmap_Pair)) :: dd :: .d (.v (.int .i64 v_r338.1)) :: dd :: .d (.sl (v_r1379.1.map eS_rmap_Pair)) :: .d (.v (.int .i64 v_r1379.2.1)) :: dd :: dd :: .ref 1 0 :: dd :: .d (.v (.int .i64 v_z1903)) :: dd :: .d (.v (.int .i64 v_z2118)) :: .d (.v (.int .i64 v_z2211)) :: .d (.v (.int .i64 v_z2119)) :: .d (.v (.int .i64 v_z2212)) :: .d (.sl (v_want2486.map eS_rmap_Pair)) :: .d (vnil) :: .d (vnil) :: .d (vnil) :: .d (.v (.int .i64 0)) :: .d (.v (.int .i64 0)) :: .d (.v (.int .i64 0)) :: (dds 273 [])), [.box [.d (.v (.int .i64 v_p2.fFrame)), .d (.v (.int .i64 v_p2.fSpace)), .d (.v (.int .i64 v_p2.fPage))], .box ((cA_t36 v_r1771).map FV.d)]⟩
def G_ringlaw2_RmapTells_C7_hd (v_l1 : (List S_rmap_Pair)) (v_to3 : Int) (v_r220 : ((List S_rmap_Pair) × Int)) (v_r256 : ((List S_rmap_Pair) × Int × Int)) (v_r304 : ((List S_rmap_Pair) × Int)) (v_r338 : (Int × Int)) (v_r1379 : ((List S_rmap_Pair) × Int × Int)) (v_z1903 : Int) (v_z2118 : Int) (v_z2211 : Int) (v_z2119 : Int) (v_z2212 : Int) (v_z2026 : Int) (v_p2 : S_rmap_Pair) (v_r1771 : ((Fin 17 → (Fin 64 → Int))))  : PS := ⟨(.d (.sl (v_l1.map eS_rmap_Pair)) :: dd :: .d (.v (.int .i64 v_to3)) :: dd :: .ref 0 0 :: dd :: dd :: .d (.sl (v_r220.1.map eS_rmap_Pair)) :: dd :: .d (.sl (v_r256.1.map eS_rmap_Pair)) :: .d (.v (.int .i64 v_r256.2.1)) :: dd :: .d (.sl (v_r304.1.map eS_rmap_Pair)) :: dd :: .d (.v (.int .i64 v_r338.1)) :: dd :: .d (.sl (v_r1379.1.map eS_rmap_Pair)) :: .d (.v (.int .i64 v_r1379.2.1)) :: dd :: dd :: .ref 1 0 :: dd :: .d (.v (.int .i64 v_z1903)) :: dd :: .d (.v (.int .i64 v_z2118)) :: .d (.v (.int .i64 v_z2211)) :: .d (.v (.int .i64 v_z2119)) :: .d (.v (.int .i64 v_z2212)) :: .d (vnil) :: .d (vnil) :: .d (vnil) :: .d (vnil) :: .d (.v (.int .i64 0)) :: .d (.v (.int .i64 0)) :: .d (.v (.int .i64 0)) :: (dds 160 (.d (.v (.bool (v_z2026 == 0))) :: (dds 112 [])))), [.box [.d (.v (.int .i64 v_p2.fFrame)), .d (.v (.int .i64 v_p2.fSpace)), .d (.v (.int .i64 v_p2.fPage))], .box ((cA_t36 v_r1771).map FV.d)]⟩
def G_ringlaw2_RmapTells_C7 (n : Nat) (v_l1 : (List S_rmap_Pair)) (v_to3 : Int) (v_r220 : ((List S_rmap_Pair) × Int)) (v_r256 : ((List S_rmap_Pair) × Int × Int)) (v_r304 : ((List S_rmap_Pair) × Int)) (v_r338 : (Int × Int)) (v_r1379 : ((List S_rmap_Pair) × Int × Int)) (v_z1903 : Int) (v_z2118 : Int) (v_z2211 : Int) (v_z2119 : Int) (v_z2212 : Int) (v_z2026 : Int) (v_p2 : S_rmap_Pair) (v_r1771 : ((Fin 17 → (Fin 64 → Int)))) : Option G_ringlaw2_RmapTells_C7_R :=
  if v_z2026 = 0 then
   if 0 ≤ v_p2.fSpace ∧ v_p2.fSpace < (17 : Int) then
    if 0 ≤ v_p2.fPage ∧ v_p2.fPage < (64 : Int) then
     (getA v_r1771 v_p2.fSpace).bind fun (v_y2483 : (Fin 64 → Int)) =>
     (getA v_y2483 v_p2.fPage).bind fun (v_y2484 : Int) =>
     (G_ringref2_PairsOf n (setA v_r1771 v_p2.fSpace (setA v_y2483 v_p2.fPage (wi .i64 (v_p2.fFrame + 1))))).bind fun (v_r2485 : ((List S_rmap_Pair))) =>
     some (.x0 v_r2485)
    else none
   else none
  else
   some (.x0 ([] : (List S_rmap_Pair)))
theorem G_ringlaw2_RmapTells_C7_ok {Fi : Ex → PS → Prop} (hF : KC 308 Fi) (ks : List Fr) (n : Nat) (v_l1 : (List S_rmap_Pair)) (v_to3 : Int) (v_r220 : ((List S_rmap_Pair) × Int)) (v_r256 : ((List S_rmap_Pair) × Int × Int)) (v_r304 : ((List S_rmap_Pair) × Int)) (v_r338 : (Int × Int)) (v_r1379 : ((List S_rmap_Pair) × Int × Int)) (v_z1903 : Int) (v_z2118 : Int) (v_z2211 : Int) (v_z2119 : Int) (v_z2212 : Int) (v_z2026 : Int) (v_p2 : S_rmap_Pair) (v_r1771 : ((Fin 17 → (Fin 64 → Int))))  (o : G_ringlaw2_RmapTells_C7_R) (h : G_ringlaw2_RmapTells_C7 n v_l1 v_to3 v_r220 v_r256 v_r304 v_r338 v_r1379 v_z1903 v_z2118 v_z2211 v_z2119 v_z2212 v_z2026 v_p2 v_r1771 = some o) (q : RunE Try.prog 308 Fi ks (G_ringlaw2_RmapTells_C7_ex o) (G_ringlaw2_RmapTells_C7_st v_l1 v_to3 v_r220 v_r256 v_r304 v_r338 v_r1379 v_z1903 v_z2118 v_z2211 v_z2119 v_z2212 v_z2026 v_p2 v_r1771 o)) : RunE Try.prog 308 Fi (.s (cR (cL (cR (cR (cR (cR (cR (cR (cR (cR (cR (cR (cR (cR (cR (cR (cR (cR (cR (cR (cR (cR (bodyOf Try.f3))))))))))))))))))))))) :: ks) .normal (G_ringlaw2_RmapTells_C7_hd v_l1 v_to3 v_r220 v_r256 v_r304 v_r338 v_r1379 v_z1903 v_z2118 v_z2211 v_z2119 v_z2212 v_z2026 v_p2 v_r1771) := by
  unfold G_ringlaw2_RmapTells_C7 at h
  by_cases h1390 : v_z2026 = 0
  · rw [if_pos h1390] at h
    by_cases h1391 : 0 ≤ v_p2.fSpace ∧ v_p2.fSpace < (17 : Int)
    · rw [if_pos h1391] at h
      by_cases h1392 : 0 ≤ v_p2.fPage ∧ v_p2.fPage < (64 : Int)
      · rw [if_pos h1392] at h
        obtain ⟨v_y2483, h1393, h⟩ := bind_some h
        obtain ⟨v_y2484, h1394, h⟩ := bind_some h
        obtain ⟨v_r2485, h1395, h⟩ := bind_some h
        cases h
        exact pkk_sound TTok mix hF 6 (hs := [.t true, .c, .c, .c, .c, .c, .x ((cA_t36 (setA v_r1771 v_p2.fSpace (setA v_y2483 v_p2.fPage (wi .i64 (v_p2.fFrame + 1))))).map FV.d), .c, .c, .r ((eL eS_rmap_Pair) v_r2485)]) (ts := []) (s := [0, 1]) (l := [0, 2, 4, 7, 9, 10, 12, 14, 16, 17, 20, 22, 24, 25, 26, 27, 28, 29, 30, 31, 32, 33, 34]) (by kernel_rfl) (by kernel_rfl) (.cons (bt h1390) (.cons (show 0 + 1088 ≤ 1088 by decide) (.cons h1391 (.cons h1392 (.cons (arr_store2 (γ := FV) (sz := 64) (g := fvA_64_int_i64) (pre := []) (post := []) (P0 := 0) (o := 0 + (v_p2.fPage).toNat * 1 + 0) (y := (setA v_y2483 v_p2.fPage (wi .i64 (v_p2.fFrame + 1)))) (zs := [.d (.v (.int .i64 (wi .i64 (v_p2.fFrame + 1))))]) rfl (fun _ => rfl) h1393 (arr_store2 (γ := FV) (sz := 1) (g := (fun x => [.d (.v (.int .i64 x))])) (pre := []) (post := []) (P0 := 0) (o := 0) (y := (wi .i64 (v_p2.fFrame + 1))) (zs := [.d (.v (.int .i64 (wi .i64 (v_p2.fFrame + 1))))]) rfl (fun _ => rfl) h1394 rfl (Nat.le_of_ble_eq_true rfl) (idx := 0 + (v_p2.fPage).toNat * 1 + 0) (by omega)).2 (arr_store2 (γ := FV) (sz := 1) (g := (fun x => [.d (.v (.int .i64 x))])) (pre := []) (post := []) (P0 := 0) (o := 0) (y := (wi .i64 (v_p2.fFrame + 1))) (zs := [.d (.v (.int .i64 (wi .i64 (v_p2.fFrame + 1))))]) rfl (fun _ => rfl) h1394 rfl (Nat.le_of_ble_eq_true rfl) (idx := 0 + (v_p2.fPage).toNat * 1 + 0) (by omega)).1 (idx := 0 + (v_p2.fSpace).toNat * 64 + (v_p2.fPage).toNat * 1) (by omega)).1 (.cons (arr_store2 (γ := FV) (sz := 64) (g := fvA_64_int_i64) (pre := []) (post := []) (P0 := 0) (o := 0 + (v_p2.fPage).toNat * 1 + 0) (y := (setA v_y2483 v_p2.fPage (wi .i64 (v_p2.fFrame + 1)))) (zs := [.d (.v (.int .i64 (wi .i64 (v_p2.fFrame + 1))))]) rfl (fun _ => rfl) h1393 (arr_store2 (γ := FV) (sz := 1) (g := (fun x => [.d (.v (.int .i64 x))])) (pre := []) (post := []) (P0 := 0) (o := 0) (y := (wi .i64 (v_p2.fFrame + 1))) (zs := [.d (.v (.int .i64 (wi .i64 (v_p2.fFrame + 1))))]) rfl (fun _ => rfl) h1394 rfl (Nat.le_of_ble_eq_true rfl) (idx := 0 + (v_p2.fPage).toNat * 1 + 0) (by omega)).2 (arr_store2 (γ := FV) (sz := 1) (g := (fun x => [.d (.v (.int .i64 x))])) (pre := []) (post := []) (P0 := 0) (o := 0) (y := (wi .i64 (v_p2.fFrame + 1))) (zs := [.d (.v (.int .i64 (wi .i64 (v_p2.fFrame + 1))))]) rfl (fun _ => rfl) h1394 rfl (Nat.le_of_ble_eq_true rfl) (idx := 0 + (v_p2.fPage).toNat * 1 + 0) (by omega)).1 (idx := 0 + (v_p2.fSpace).toNat * 64 + (v_p2.fPage).toNat * 1) (by omega)).2 (.cons (G_ringref2_PairsOf_ok n (setA v_r1771 v_p2.fSpace (setA v_y2483 v_p2.fPage (wi .i64 (v_p2.fFrame + 1)))) _ h1395) .nil))))))) q
      · rw [if_neg h1392] at h; cases h
    · rw [if_neg h1391] at h; cases h
  · rw [if_neg h1390] at h
    cases h
    exact pkk_sound TTok mix hF 3 (hs := [.t false, .dl 1, .ns 28]) (ts := []) (s := [0, 1]) (l := [0, 2, 4, 7, 9, 10, 12, 14, 16, 17, 20, 22, 24, 25, 26, 27, 28, 29, 30, 31, 32, 33, 34]) (by kernel_rfl) (by kernel_rfl) (.cons (bf h1390) .nil) q
inductive G_ringlaw2_RmapTells_C8_R where
  | x0 (v_rest2574 : (List S_rmap_Pair)) (v_frame2575 : Int)
def G_ringlaw2_RmapTells_C8_ex : G_ringlaw2_RmapTells_C8_R → Ex
  | .x0 _ _ => .normal
def G_ringlaw2_RmapTells_C8_st (v_l1 : (List S_rmap_Pair)) (v_to3 : Int) (v_r220 : ((List S_rmap_Pair) × Int)) (v_r256 : ((List S_rmap_Pair) × Int × Int)) (v_r304 : ((List S_rmap_Pair) × Int)) (v_r338 : (Int × Int)) (v_r1379 : ((List S_rmap_Pair) × Int × Int)) (v_z1903 : Int) (v_z2211 : Int) (v_z2119 : Int) (v_z2212 : Int) (v_z2489 : (List S_rmap_Pair)) (v_z2118 : Int) (v_p2 : S_rmap_Pair) (v_r1771 : ((Fin 17 → (Fin 64 → Int)))) : G_ringlaw2_RmapTells_C8_R → PS
  | .x0 v_rest2574 v_frame2575 => ⟨(.d (.sl (v_l1.map eS_rmap_Pair)) :: dd :: .d (.v (.int .i64 v_to3)) :: dd :: .ref 0 0 :: dd :: dd :: .d (.sl (v_r220.1.map eS_rmap_Pair)) :: dd :: .d (.sl (v_r256.1.map eS_rmap_Pair)) :: .d (.v (.int .i64 v_r256.2.1)) :: dd :: .d (.sl (v_r304.1.map eS_rmap_Pair)) :: dd :: .d (.v (.int .i64 v_r338.1)) :: dd :: .d (.sl (v_r1379.1.map eS_rmap_Pair)) :: .d (.v (.int .i64 v_r1379.2.1)) :: dd :: dd :: .ref 1 0 :: dd :: .d (.v (.int .i64 v_z1903)) :: dd :: dd :: .d (.v (.int .i64 v_z2211)) :: .d (.v (.int .i64 v_z2119)) :: .d (.v (.int .i64 v_z2212)) :: .d (.sl (v_z2489.map eS_rmap_Pair)) :: .d (.sl (v_rest2574.map eS_rmap_Pair)) :: .d (vnil) :: .d (vnil) :: .d (.v (.int .i64 v_frame2575)) :: .d (.v (.int .i64 0)) :: .d (.v (.int .i64 0)) :: (dds 273 [])), [.box [.d (.v (.int .i64 v_p2.fFrame)), .d (.v (.int .i64 v_p2.fSpace)), .d (.v (.int .i64 v_p2.fPage))], .box ((cA_t36 v_r1771).map FV.d)]⟩

end Go.Proofs.Ytdonkhioembhlaa.pv
