/- What the functions compute (part 3): written by gen.py. -/
import Derived.Test.YtdonkhioembhlaaGuRmapTellsP2
set_option maxRecDepth 100000
set_option linter.all false
namespace Go.Proofs.Ytdonkhioembhlaa.pv
open Go.RowKit
def G_ringlaw2_RmapTells_C8_hd (v_l1 : (List S_rmap_Pair)) (v_to3 : Int) (v_r220 : ((List S_rmap_Pair) × Int)) (v_r256 : ((List S_rmap_Pair) × Int × Int)) (v_r304 : ((List S_rmap_Pair) × Int)) (v_r338 : (Int × Int)) (v_r1379 : ((List S_rmap_Pair) × Int × Int)) (v_z1903 : Int) (v_z2211 : Int) (v_z2119 : Int) (v_z2212 : Int) (v_z2489 : (List S_rmap_Pair)) (v_z2118 : Int) (v_p2 : S_rmap_Pair) (v_r1771 : ((Fin 17 → (Fin 64 → Int))))  : PS := ⟨(.d (.sl (v_l1.map eS_rmap_Pair)) :: dd :: .d (.v (.int .i64 v_to3)) :: dd :: .ref 0 0 :: dd :: dd :: .d (.sl (v_r220.1.map eS_rmap_Pair)) :: dd :: .d (.sl (v_r256.1.map eS_rmap_Pair)) :: .d (.v (.int .i64 v_r256.2.1)) :: dd :: .d (.sl (v_r304.1.map eS_rmap_Pair)) :: dd :: .d (.v (.int .i64 v_r338.1)) :: dd :: .d (.sl (v_r1379.1.map eS_rmap_Pair)) :: .d (.v (.int .i64 v_r1379.2.1)) :: dd :: dd :: .ref 1 0 :: dd :: .d (.v (.int .i64 v_z1903)) :: dd :: dd :: .d (.v (.int .i64 v_z2211)) :: .d (.v (.int .i64 v_z2119)) :: .d (.v (.int .i64 v_z2212)) :: .d (.sl (v_z2489.map eS_rmap_Pair)) :: .d (vnil) :: .d (vnil) :: .d (vnil) :: .d (.v (.int .i64 0)) :: .d (.v (.int .i64 0)) :: .d (.v (.int .i64 0)) :: (dds 174 (.d (.v (.bool (v_z2118 == 0))) :: (dds 98 [])))), [.box [.d (.v (.int .i64 v_p2.fFrame)), .d (.v (.int .i64 v_p2.fSpace)), .d (.v (.int .i64 v_p2.fPage))], .box ((cA_t36 v_r1771).map FV.d)]⟩
def G_ringlaw2_RmapTells_C8 (n : Nat) (v_l1 : (List S_rmap_Pair)) (v_to3 : Int) (v_r220 : ((List S_rmap_Pair) × Int)) (v_r256 : ((List S_rmap_Pair) × Int × Int)) (v_r304 : ((List S_rmap_Pair) × Int)) (v_r338 : (Int × Int)) (v_r1379 : ((List S_rmap_Pair) × Int × Int)) (v_z1903 : Int) (v_z2211 : Int) (v_z2119 : Int) (v_z2212 : Int) (v_z2489 : (List S_rmap_Pair)) (v_z2118 : Int) (v_p2 : S_rmap_Pair) (v_r1771 : ((Fin 17 → (Fin 64 → Int)))) : Option G_ringlaw2_RmapTells_C8_R :=
  if v_z2118 = 0 then
   if 0 ≤ v_p2.fSpace ∧ v_p2.fSpace < (17 : Int) then
    if 0 ≤ v_p2.fPage ∧ v_p2.fPage < (64 : Int) then
     (getA v_r1771 v_p2.fSpace).bind fun (v_y2571 : (Fin 64 → Int)) =>
     (getA v_y2571 v_p2.fPage).bind fun (v_y2572 : Int) =>
     (G_ringref2_PairsOf n (setA v_r1771 v_p2.fSpace (setA v_y2571 v_p2.fPage 0))).bind fun (v_r2573 : ((List S_rmap_Pair))) =>
     some (.x0 v_r2573 (wi .i64 (v_z1903 - 1)))
    else none
   else none
  else
   some (.x0 ([] : (List S_rmap_Pair)) 0)
theorem G_ringlaw2_RmapTells_C8_ok {Fi : Ex → PS → Prop} (hF : KC 308 Fi) (ks : List Fr) (n : Nat) (v_l1 : (List S_rmap_Pair)) (v_to3 : Int) (v_r220 : ((List S_rmap_Pair) × Int)) (v_r256 : ((List S_rmap_Pair) × Int × Int)) (v_r304 : ((List S_rmap_Pair) × Int)) (v_r338 : (Int × Int)) (v_r1379 : ((List S_rmap_Pair) × Int × Int)) (v_z1903 : Int) (v_z2211 : Int) (v_z2119 : Int) (v_z2212 : Int) (v_z2489 : (List S_rmap_Pair)) (v_z2118 : Int) (v_p2 : S_rmap_Pair) (v_r1771 : ((Fin 17 → (Fin 64 → Int))))  (o : G_ringlaw2_RmapTells_C8_R) (h : G_ringlaw2_RmapTells_C8 n v_l1 v_to3 v_r220 v_r256 v_r304 v_r338 v_r1379 v_z1903 v_z2211 v_z2119 v_z2212 v_z2489 v_z2118 v_p2 v_r1771 = some o) (q : RunE Try.prog 308 Fi ks (G_ringlaw2_RmapTells_C8_ex o) (G_ringlaw2_RmapTells_C8_st v_l1 v_to3 v_r220 v_r256 v_r304 v_r338 v_r1379 v_z1903 v_z2211 v_z2119 v_z2212 v_z2489 v_z2118 v_p2 v_r1771 o)) : RunE Try.prog 308 Fi (.s (cR (cL (cR (cR (cR (cR (cR (cR (cR (cR (cR (cR (cR (cR (cR (cR (cR (cR (cR (cR (cR (cR (cR (bodyOf Try.f3)))))))))))))))))))))))) :: ks) .normal (G_ringlaw2_RmapTells_C8_hd v_l1 v_to3 v_r220 v_r256 v_r304 v_r338 v_r1379 v_z1903 v_z2211 v_z2119 v_z2212 v_z2489 v_z2118 v_p2 v_r1771) := by
  unfold G_ringlaw2_RmapTells_C8 at h
  by_cases h1409 : v_z2118 = 0
  · rw [if_pos h1409] at h
    by_cases h1410 : 0 ≤ v_p2.fSpace ∧ v_p2.fSpace < (17 : Int)
    · rw [if_pos h1410] at h
      by_cases h1411 : 0 ≤ v_p2.fPage ∧ v_p2.fPage < (64 : Int)
      · rw [if_pos h1411] at h
        obtain ⟨v_y2571, h1412, h⟩ := bind_some h
        obtain ⟨v_y2572, h1413, h⟩ := bind_some h
        obtain ⟨v_r2573, h1414, h⟩ := bind_some h
        cases h
        exact pkk_sound TTok mix hF 6 (hs := [.t true, .c, .c, .c, .c, .x ((cA_t36 (setA v_r1771 v_p2.fSpace (setA v_y2571 v_p2.fPage 0))).map FV.d), .c, .c, .r ((eL eS_rmap_Pair) v_r2573)]) (ts := []) (s := [0, 1]) (l := [0, 2, 4, 7, 9, 10, 12, 14, 16, 17, 20, 22, 25, 26, 27, 28, 29, 30, 31, 32, 33, 34]) (by kernel_rfl) (by kernel_rfl) (.cons (bt h1409) (.cons (show 0 + 1088 ≤ 1088 by decide) (.cons h1410 (.cons h1411 (.cons (arr_store2 (γ := FV) (sz := 64) (g := fvA_64_int_i64) (pre := []) (post := []) (P0 := 0) (o := 0 + (v_p2.fPage).toNat * 1 + 0) (y := (setA v_y2571 v_p2.fPage 0)) (zs := [.d (.v (.int .i64 0))]) rfl (fun _ => rfl) h1412 (arr_store2 (γ := FV) (sz := 1) (g := (fun x => [.d (.v (.int .i64 x))])) (pre := []) (post := []) (P0 := 0) (o := 0) (y := 0) (zs := [.d (.v (.int .i64 0))]) rfl (fun _ => rfl) h1413 rfl (Nat.le_of_ble_eq_true rfl) (idx := 0 + (v_p2.fPage).toNat * 1 + 0) (by omega)).2 (arr_store2 (γ := FV) (sz := 1) (g := (fun x => [.d (.v (.int .i64 x))])) (pre := []) (post := []) (P0 := 0) (o := 0) (y := 0) (zs := [.d (.v (.int .i64 0))]) rfl (fun _ => rfl) h1413 rfl (Nat.le_of_ble_eq_true rfl) (idx := 0 + (v_p2.fPage).toNat * 1 + 0) (by omega)).1 (idx := 0 + (v_p2.fSpace).toNat * 64 + (v_p2.fPage).toNat * 1) (by omega)).1 (.cons (arr_store2 (γ := FV) (sz := 64) (g := fvA_64_int_i64) (pre := []) (post := []) (P0 := 0) (o := 0 + (v_p2.fPage).toNat * 1 + 0) (y := (setA v_y2571 v_p2.fPage 0)) (zs := [.d (.v (.int .i64 0))]) rfl (fun _ => rfl) h1412 (arr_store2 (γ := FV) (sz := 1) (g := (fun x => [.d (.v (.int .i64 x))])) (pre := []) (post := []) (P0 := 0) (o := 0) (y := 0) (zs := [.d (.v (.int .i64 0))]) rfl (fun _ => rfl) h1413 rfl (Nat.le_of_ble_eq_true rfl) (idx := 0 + (v_p2.fPage).toNat * 1 + 0) (by omega)).2 (arr_store2 (γ := FV) (sz := 1) (g := (fun x => [.d (.v (.int .i64 x))])) (pre := []) (post := []) (P0 := 0) (o := 0) (y := 0) (zs := [.d (.v (.int .i64 0))]) rfl (fun _ => rfl) h1413 rfl (Nat.le_of_ble_eq_true rfl) (idx := 0 + (v_p2.fPage).toNat * 1 + 0) (by omega)).1 (idx := 0 + (v_p2.fSpace).toNat * 64 + (v_p2.fPage).toNat * 1) (by omega)).2 (.cons (G_ringref2_PairsOf_ok n (setA v_r1771 v_p2.fSpace (setA v_y2571 v_p2.fPage 0)) _ h1414) .nil))))))) q
      · rw [if_neg h1411] at h; cases h
    · rw [if_neg h1410] at h; cases h
  · rw [if_neg h1409] at h
    cases h
    exact pkk_sound TTok mix hF 3 (hs := [.t false, .dl 1, .ns 29]) (ts := []) (s := [0, 1]) (l := [0, 2, 4, 7, 9, 10, 12, 14, 16, 17, 20, 22, 25, 26, 27, 28, 29, 30, 31, 32, 33, 34]) (by kernel_rfl) (by kernel_rfl) (.cons (bf h1409) .nil) q
inductive G_ringlaw2_RmapTells_C9_R where
  | x0 (v_w2681 : (List S_rmap_Pair))
def G_ringlaw2_RmapTells_C9_ex : G_ringlaw2_RmapTells_C9_R → Ex
  | .x0 _ => .normal
def G_ringlaw2_RmapTells_C9_st (v_to3 : Int) (v_r220 : ((List S_rmap_Pair) × Int)) (v_r256 : ((List S_rmap_Pair) × Int × Int)) (v_r304 : ((List S_rmap_Pair) × Int)) (v_r338 : (Int × Int)) (v_r1379 : ((List S_rmap_Pair) × Int × Int)) (v_z1903 : Int) (v_z2211 : Int) (v_z2119 : Int) (v_z2212 : Int) (v_z2489 : (List S_rmap_Pair)) (v_z2579 : (List S_rmap_Pair)) (v_z2580 : Int) (v_l1 : (List S_rmap_Pair)) (v_x2673 : Int) (v_p2 : S_rmap_Pair) (v_r1771 : ((Fin 17 → (Fin 64 → Int)))) (v_w2674 : (List S_rmap_Pair)) : G_ringlaw2_RmapTells_C9_R → PS
  | .x0 v_w2681 => ⟨(dd :: dd :: .d (.v (.int .i64 v_to3)) :: dd :: .ref 0 0 :: dd :: dd :: .d (.sl (v_r220.1.map eS_rmap_Pair)) :: dd :: .d (.sl (v_r256.1.map eS_rmap_Pair)) :: .d (.v (.int .i64 v_r256.2.1)) :: dd :: .d (.sl (v_r304.1.map eS_rmap_Pair)) :: dd :: .d (.v (.int .i64 v_r338.1)) :: dd :: .d (.sl (v_r1379.1.map eS_rmap_Pair)) :: .d (.v (.int .i64 v_r1379.2.1)) :: dd :: dd :: .ref 1 0 :: dd :: .d (.v (.int .i64 v_z1903)) :: dd :: dd :: .d (.v (.int .i64 v_z2211)) :: .d (.v (.int .i64 v_z2119)) :: .d (.v (.int .i64 v_z2212)) :: .d (.sl (v_z2489.map eS_rmap_Pair)) :: .d (.sl (v_z2579.map eS_rmap_Pair)) :: .srf 2 :: .d (vnil) :: .d (.v (.int .i64 v_z2580)) :: .d (.v (.int .i64 0)) :: .d (.v (.int .i64 0)) :: (dds 186 (.d (.sl (v_l1.map eS_rmap_Pair)) :: .d (.v (.int .i64 (v_l1.length : Int))) :: .d (.v (.int .i64 v_x2673)) :: (dds 84 [])))), [.box [.d (.v (.int .i64 v_p2.fFrame)), .d (.v (.int .i64 v_p2.fSpace)), .d (.v (.int .i64 v_p2.fPage))], .box ((cA_t36 v_r1771).map FV.d), .row 24 3 (v_w2681.map eS_rmap_Pair)]⟩
def G_ringlaw2_RmapTells_C9_hd (v_to3 : Int) (v_r220 : ((List S_rmap_Pair) × Int)) (v_r256 : ((List S_rmap_Pair) × Int × Int)) (v_r304 : ((List S_rmap_Pair) × Int)) (v_r338 : (Int × Int)) (v_r1379 : ((List S_rmap_Pair) × Int × Int)) (v_z1903 : Int) (v_z2211 : Int) (v_z2119 : Int) (v_z2212 : Int) (v_z2489 : (List S_rmap_Pair)) (v_z2579 : (List S_rmap_Pair)) (v_z2580 : Int) (v_l1 : (List S_rmap_Pair)) (v_x2673 : Int) (v_p2 : S_rmap_Pair) (v_r1771 : ((Fin 17 → (Fin 64 → Int)))) (v_w2674 : (List S_rmap_Pair))  : PS := ⟨(dd :: dd :: .d (.v (.int .i64 v_to3)) :: dd :: .ref 0 0 :: dd :: dd :: .d (.sl (v_r220.1.map eS_rmap_Pair)) :: dd :: .d (.sl (v_r256.1.map eS_rmap_Pair)) :: .d (.v (.int .i64 v_r256.2.1)) :: dd :: .d (.sl (v_r304.1.map eS_rmap_Pair)) :: dd :: .d (.v (.int .i64 v_r338.1)) :: dd :: .d (.sl (v_r1379.1.map eS_rmap_Pair)) :: .d (.v (.int .i64 v_r1379.2.1)) :: dd :: dd :: .ref 1 0 :: dd :: .d (.v (.int .i64 v_z1903)) :: dd :: dd :: .d (.v (.int .i64 v_z2211)) :: .d (.v (.int .i64 v_z2119)) :: .d (.v (.int .i64 v_z2212)) :: .d (.sl (v_z2489.map eS_rmap_Pair)) :: .d (.sl (v_z2579.map eS_rmap_Pair)) :: .srf 2 :: .d (vnil) :: .d (.v (.int .i64 v_z2580)) :: .d (.v (.int .i64 0)) :: .d (.v (.int .i64 0)) :: (dds 186 (.d (.sl (v_l1.map eS_rmap_Pair)) :: .d (.v (.int .i64 (v_l1.length : Int))) :: .d (.v (.int .i64 v_x2673)) :: (dds 84 [])))), [.box [.d (.v (.int .i64 v_p2.fFrame)), .d (.v (.int .i64 v_p2.fSpace)), .d (.v (.int .i64 v_p2.fPage))], .box ((cA_t36 v_r1771).map FV.d), .row 24 3 (v_w2674.map eS_rmap_Pair)]⟩
def G_ringlaw2_RmapTells_C9 (n : Nat) (v_to3 : Int) (v_r220 : ((List S_rmap_Pair) × Int)) (v_r256 : ((List S_rmap_Pair) × Int × Int)) (v_r304 : ((List S_rmap_Pair) × Int)) (v_r338 : (Int × Int)) (v_r1379 : ((List S_rmap_Pair) × Int × Int)) (v_z1903 : Int) (v_z2211 : Int) (v_z2119 : Int) (v_z2212 : Int) (v_z2489 : (List S_rmap_Pair)) (v_z2579 : (List S_rmap_Pair)) (v_z2580 : Int) (v_l1 : (List S_rmap_Pair)) (v_x2673 : Int) (v_p2 : S_rmap_Pair) (v_r1771 : ((Fin 17 → (Fin 64 → Int)))) (v_w2674 : (List S_rmap_Pair)) : Option G_ringlaw2_RmapTells_C9_R :=
  (getI v_l1 v_x2673).bind fun (v_y2678 : S_rmap_Pair) =>
  if v_z2211 = 0 then
   if v_y2678.fFrame = v_p2.fFrame then
    (app 24 v_w2674 ([v_y2678])).bind fun (v_a2680 : (List S_rmap_Pair)) =>
    some (.x0 v_a2680)
   else
    some (.x0 v_w2674)
  else
   some (.x0 v_w2674)
theorem G_ringlaw2_RmapTells_C9_ok {Fi : Ex → PS → Prop} (hF : KC 308 Fi) (ks : List Fr) (n : Nat) (v_to3 : Int) (v_r220 : ((List S_rmap_Pair) × Int)) (v_r256 : ((List S_rmap_Pair) × Int × Int)) (v_r304 : ((List S_rmap_Pair) × Int)) (v_r338 : (Int × Int)) (v_r1379 : ((List S_rmap_Pair) × Int × Int)) (v_z1903 : Int) (v_z2211 : Int) (v_z2119 : Int) (v_z2212 : Int) (v_z2489 : (List S_rmap_Pair)) (v_z2579 : (List S_rmap_Pair)) (v_z2580 : Int) (v_l1 : (List S_rmap_Pair)) (v_x2673 : Int) (v_p2 : S_rmap_Pair) (v_r1771 : ((Fin 17 → (Fin 64 → Int)))) (v_w2674 : (List S_rmap_Pair))  (o : G_ringlaw2_RmapTells_C9_R) (h : G_ringlaw2_RmapTells_C9 n v_to3 v_r220 v_r256 v_r304 v_r338 v_r1379 v_z1903 v_z2211 v_z2119 v_z2212 v_z2489 v_z2579 v_z2580 v_l1 v_x2673 v_p2 v_r1771 v_w2674 = some o) (q : RunE Try.prog 308 Fi ks (G_ringlaw2_RmapTells_C9_ex o) (G_ringlaw2_RmapTells_C9_st v_to3 v_r220 v_r256 v_r304 v_r338 v_r1379 v_z1903 v_z2211 v_z2119 v_z2212 v_z2489 v_z2579 v_z2580 v_l1 v_x2673 v_p2 v_r1771 v_w2674 o)) : RunE Try.prog 308 Fi (.s (cL (cR (cR (cP (cB (cR (cL (cR (cR (cR (cR (cR (cR (cR (cR (cR (cR (cR (cR (cR (cR (cR (cR (cR (cR (cR (cR (cR (cR (bodyOf Try.f3)))))))))))))))))))))))))))))) :: ks) .normal (G_ringlaw2_RmapTells_C9_hd v_to3 v_r220 v_r256 v_r304 v_r338 v_r1379 v_z1903 v_z2211 v_z2119 v_z2212 v_z2489 v_z2579 v_z2580 v_l1 v_x2673 v_p2 v_r1771 v_w2674) := by
  unfold G_ringlaw2_RmapTells_C9 at h
  obtain ⟨v_y2678, h1424, h⟩ := bind_some h
  by_cases h1426 : v_z2211 = 0
  · rw [if_pos h1426] at h
    by_cases h1429 : v_y2678.fFrame = v_p2.fFrame
    · rw [if_pos h1429] at h
      obtain ⟨v_a2680, h1430, h⟩ := bind_some h
      cases h
      exact pkk_sound TTok mix hF 8 (hs := [.y (eS_rmap_Pair v_y2678), .c, .t true, .c, .c, .c, .c, .c, .c, .t true, .c, .bd, .w (v_a2680.map eS_rmap_Pair)]) (ts := []) (s := [0, 1, 83]) (l := [2, 4, 7, 9, 10, 12, 14, 16, 17, 20, 22, 25, 26, 27, 28, 29, 30, 31, 32, 33, 34, 221, 222, 223]) (by kernel_rfl) (by kernel_rfl) (.cons (getI_ob (f := eS_rmap_Pair) h1424) (.cons (show 0 + 3 ≤ 3 by decide) (.cons (bt h1426) (.cons (bt h1429) (.cons (app_ob (f := eS_rmap_Pair) (s := 3) h1430 (fun _ => rfl)).1 (.cons (app_ob (f := eS_rmap_Pair) (s := 3) h1430 (fun _ => rfl)).2.1 (.cons (app_ob (f := eS_rmap_Pair) (s := 3) h1430 (fun _ => rfl)).2.2.1 (.cons (app_ob (f := eS_rmap_Pair) (s := 3) h1430 (fun _ => rfl)).2.2.2 .nil)))))))) q
    · rw [if_neg h1429] at h
      cases h
      exact pkk_sound TTok mix hF 8 (hs := [.y (eS_rmap_Pair v_y2678), .c, .t true, .c, .c, .c, .c, .c, .c, .t false]) (ts := []) (s := [0, 1, 2]) (l := [2, 4, 7, 9, 10, 12, 14, 16, 17, 20, 22, 25, 26, 27, 28, 29, 30, 31, 32, 33, 34, 221, 222, 223]) (by kernel_rfl) (by kernel_rfl) (.cons (getI_ob (f := eS_rmap_Pair) h1424) (.cons (show 0 + 3 ≤ 3 by decide) (.cons (bt h1426) (.cons (bf h1429) .nil)))) q
  · rw [if_neg h1426] at h
    cases h
    exact pkk_sound TTok mix hF 8 (hs := [.y (eS_rmap_Pair v_y2678), .c, .t false, .c, .c, .c, .c, .c]) (ts := []) (s := [0, 1, 2]) (l := [2, 4, 7, 9, 10, 12, 14, 16, 17, 20, 22, 25, 26, 27, 28, 29, 30, 31, 32, 33, 34, 221, 222, 223]) (by kernel_rfl) (by kernel_rfl) (.cons (getI_ob (f := eS_rmap_Pair) h1424) (.cons (show 0 + 3 ≤ 3 by decide) (.cons (bf h1426) .nil))) q
inductive G_ringlaw2_RmapTells_L10_R where
  | x0 (v_w2686 : (List S_rmap_Pair))
def G_ringlaw2_RmapTells_L10_ex : G_ringlaw2_RmapTells_L10_R → Ex
  | .x0 _ => .exit 0
def G_ringlaw2_RmapTells_L10_st (v_to3 : Int) (v_r220 : ((List S_rmap_Pair) × Int)) (v_r256 : ((List S_rmap_Pair) × Int × Int)) (v_r304 : ((List S_rmap_Pair) × Int)) (v_r338 : (Int × Int)) (v_r1379 : ((List S_rmap_Pair) × Int × Int)) (v_z1903 : Int) (v_z2211 : Int) (v_z2119 : Int) (v_z2212 : Int) (v_z2489 : (List S_rmap_Pair)) (v_z2579 : (List S_rmap_Pair)) (v_z2580 : Int) (v_l1 : (List S_rmap_Pair)) (v_p2 : S_rmap_Pair) (v_r1771 : ((Fin 17 → (Fin 64 → Int)))) : G_ringlaw2_RmapTells_L10_R → PS
  | .x0 v_w2686 => ⟨(dd :: dd :: .d (.v (.int .i64 v_to3)) :: dd :: .ref 0 0 :: dd :: dd :: .d (.sl (v_r220.1.map eS_rmap_Pair)) :: dd :: .d (.sl (v_r256.1.map eS_rmap_Pair)) :: .d (.v (.int .i64 v_r256.2.1)) :: dd :: .d (.sl (v_r304.1.map eS_rmap_Pair)) :: dd :: .d (.v (.int .i64 v_r338.1)) :: dd :: .d (.sl (v_r1379.1.map eS_rmap_Pair)) :: .d (.v (.int .i64 v_r1379.2.1)) :: dd :: dd :: .ref 1 0 :: dd :: .d (.v (.int .i64 v_z1903)) :: dd :: dd :: dd :: .d (.v (.int .i64 v_z2119)) :: .d (.v (.int .i64 v_z2212)) :: .d (.sl (v_z2489.map eS_rmap_Pair)) :: .d (.sl (v_z2579.map eS_rmap_Pair)) :: .srf 2 :: .d (vnil) :: .d (.v (.int .i64 v_z2580)) :: .d (.v (.int .i64 0)) :: .d (.v (.int .i64 0)) :: (dds 273 [])), [.box [.d (.v (.int .i64 v_p2.fFrame)), .d (.v (.int .i64 v_p2.fSpace)), .d (.v (.int .i64 v_p2.fPage))], .box ((cA_t36 v_r1771).map FV.d), .row 24 3 (v_w2686.map eS_rmap_Pair)]⟩
def G_ringlaw2_RmapTells_L10_hd (v_to3 : Int) (v_r220 : ((List S_rmap_Pair) × Int)) (v_r256 : ((List S_rmap_Pair) × Int × Int)) (v_r304 : ((List S_rmap_Pair) × Int)) (v_r338 : (Int × Int)) (v_r1379 : ((List S_rmap_Pair) × Int × Int)) (v_z1903 : Int) (v_z2211 : Int) (v_z2119 : Int) (v_z2212 : Int) (v_z2489 : (List S_rmap_Pair)) (v_z2579 : (List S_rmap_Pair)) (v_z2580 : Int) (v_l1 : (List S_rmap_Pair)) (v_p2 : S_rmap_Pair) (v_r1771 : ((Fin 17 → (Fin 64 → Int)))) (v_x2673 : Int) (v_w2674 : (List S_rmap_Pair)) : PS := ⟨(dd :: dd :: .d (.v (.int .i64 v_to3)) :: dd :: .ref 0 0 :: dd :: dd :: .d (.sl (v_r220.1.map eS_rmap_Pair)) :: dd :: .d (.sl (v_r256.1.map eS_rmap_Pair)) :: .d (.v (.int .i64 v_r256.2.1)) :: dd :: .d (.sl (v_r304.1.map eS_rmap_Pair)) :: dd :: .d (.v (.int .i64 v_r338.1)) :: dd :: .d (.sl (v_r1379.1.map eS_rmap_Pair)) :: .d (.v (.int .i64 v_r1379.2.1)) :: dd :: dd :: .ref 1 0 :: dd :: .d (.v (.int .i64 v_z1903)) :: dd :: dd :: .d (.v (.int .i64 v_z2211)) :: .d (.v (.int .i64 v_z2119)) :: .d (.v (.int .i64 v_z2212)) :: .d (.sl (v_z2489.map eS_rmap_Pair)) :: .d (.sl (v_z2579.map eS_rmap_Pair)) :: .srf 2 :: .d (vnil) :: .d (.v (.int .i64 v_z2580)) :: .d (.v (.int .i64 0)) :: .d (.v (.int .i64 0)) :: (dds 186 (.d (.sl (v_l1.map eS_rmap_Pair)) :: .d (.v (.int .i64 (v_l1.length : Int))) :: .d (.v (.int .i64 v_x2673)) :: (dds 84 [])))), [.box [.d (.v (.int .i64 v_p2.fFrame)), .d (.v (.int .i64 v_p2.fSpace)), .d (.v (.int .i64 v_p2.fPage))], .box ((cA_t36 v_r1771).map FV.d), .row 24 3 (v_w2674.map eS_rmap_Pair)]⟩
def G_ringlaw2_RmapTells_L10 (n : Nat) (v_to3 : Int) (v_r220 : ((List S_rmap_Pair) × Int)) (v_r256 : ((List S_rmap_Pair) × Int × Int)) (v_r304 : ((List S_rmap_Pair) × Int)) (v_r338 : (Int × Int)) (v_r1379 : ((List S_rmap_Pair) × Int × Int)) (v_z1903 : Int) (v_z2211 : Int) (v_z2119 : Int) (v_z2212 : Int) (v_z2489 : (List S_rmap_Pair)) (v_z2579 : (List S_rmap_Pair)) (v_z2580 : Int) (v_l1 : (List S_rmap_Pair)) (v_p2 : S_rmap_Pair) (v_r1771 : ((Fin 17 → (Fin 64 → Int)))) : Nat → Int → (List S_rmap_Pair) → Option G_ringlaw2_RmapTells_L10_R
  | 0, _, _ => none
  | k + 1, v_x2673, v_w2674 =>
    if v_x2673 < (v_l1.length : Int) then
     (G_ringlaw2_RmapTells_C9 n v_to3 v_r220 v_r256 v_r304 v_r338 v_r1379 v_z1903 v_z2211 v_z2119 v_z2212 v_z2489 v_z2579 v_z2580 v_l1 v_x2673 v_p2 v_r1771 v_w2674).bind fun v_o2684 => match v_o2684 with
     | .x0 v_z2685 =>
       G_ringlaw2_RmapTells_L10 n v_to3 v_r220 v_r256 v_r304 v_r338 v_r1379 v_z1903 v_z2211 v_z2119 v_z2212 v_z2489 v_z2579 v_z2580 v_l1 v_p2 v_r1771 k (wi .i64 (v_x2673 + 1)) v_z2685
    else
     some (.x0 v_w2674)
theorem G_ringlaw2_RmapTells_L10_ok {Fi : Ex → PS → Prop} (hF : KC 308 Fi) (ks : List Fr) (n : Nat) (v_to3 : Int) (v_r220 : ((List S_rmap_Pair) × Int)) (v_r256 : ((List S_rmap_Pair) × Int × Int)) (v_r304 : ((List S_rmap_Pair) × Int)) (v_r338 : (Int × Int)) (v_r1379 : ((List S_rmap_Pair) × Int × Int)) (v_z1903 : Int) (v_z2211 : Int) (v_z2119 : Int) (v_z2212 : Int) (v_z2489 : (List S_rmap_Pair)) (v_z2579 : (List S_rmap_Pair)) (v_z2580 : Int) (v_l1 : (List S_rmap_Pair)) (v_p2 : S_rmap_Pair) (v_r1771 : ((Fin 17 → (Fin 64 → Int))))  : ∀ (k : Nat) (v_x2673 : Int) (v_w2674 : (List S_rmap_Pair)) (o : G_ringlaw2_RmapTells_L10_R), G_ringlaw2_RmapTells_L10 n v_to3 v_r220 v_r256 v_r304 v_r338 v_r1379 v_z1903 v_z2211 v_z2119 v_z2212 v_z2489 v_z2579 v_z2580 v_l1 v_p2 v_r1771 k v_x2673 v_w2674 = some o → RunE Try.prog 308 Fi ks (G_ringlaw2_RmapTells_L10_ex o) (G_ringlaw2_RmapTells_L10_st v_to3 v_r220 v_r256 v_r304 v_r338 v_r1379 v_z1903 v_z2211 v_z2119 v_z2212 v_z2489 v_z2579 v_z2580 v_l1 v_p2 v_r1771 o) → RunE Try.prog 308 Fi (.l k (cP (cB (cR (cL (cR (cR (cR (cR (cR (cR (cR (cR (cR (cR (cR (cR (cR (cR (cR (cR (cR (cR (cR (cR (cR (cR (bodyOf Try.f3))))))))))))))))))))))))))) :: ks) .normal (G_ringlaw2_RmapTells_L10_hd v_to3 v_r220 v_r256 v_r304 v_r338 v_r1379 v_z1903 v_z2211 v_z2119 v_z2212 v_z2489 v_z2579 v_z2580 v_l1 v_p2 v_r1771 v_x2673 v_w2674)
  | 0, v_x2673, v_w2674, o, h, q => by rw [G_ringlaw2_RmapTells_L10] at h; cases h
  | k + 1, v_x2673, v_w2674, o, h, q => by
    rw [G_ringlaw2_RmapTells_L10] at h
    by_cases h1416 : v_x2673 < (v_l1.length : Int)
    · rw [if_pos h1416] at h
      obtain ⟨v_o2684, h1431, h⟩ := bind_some h
      refine pkk_sound TTok mix hF 7 (hs := [.t true]) (ts := []) (s := [0, 1, 2]) (l := [2, 4, 7, 9, 10, 12, 14, 16, 17, 20, 22, 25, 26, 27, 28, 29, 30, 31, 32, 33, 34, 221, 222, 223]) (by kernel_rfl) (by kernel_rfl) (.cons (dt h1416) .nil) (G_ringlaw2_RmapTells_C9_ok hF (.s (cR (cR (cR (cP (cB (cR (cL (cR (cR (cR (cR (cR (cR (cR (cR (cR (cR (cR (cR (cR (cR (cR (cR (cR (cR (cR (cR (cR (cR (bodyOf Try.f3)))))))))))))))))))))))))))))) :: .l k (cP (cB (cR (cL (cR (cR (cR (cR (cR (cR (cR (cR (cR (cR (cR (cR (cR (cR (cR (cR (cR (cR (cR (cR (cR (cR (bodyOf Try.f3))))))))))))))))))))))))))) :: ks) n v_to3 v_r220 v_r256 v_r304 v_r338 v_r1379 v_z1903 v_z2211 v_z2119 v_z2212 v_z2489 v_z2579 v_z2580 v_l1 v_x2673 v_p2 v_r1771 v_w2674 _ h1431 ?_)
      cases v_o2684 with
      | x0 v_z2685 =>
        try dsimp only at h
        exact pkk_sound TTok mix hF 1 (hs := []) (ts := []) (s := [0, 1, 2]) (l := [2, 4, 7, 9, 10, 12, 14, 16, 17, 20, 22, 25, 26, 27, 28, 29, 30, 31, 32, 33, 34, 221, 222, 223]) (by kernel_rfl) (by kernel_rfl) .nil (G_ringlaw2_RmapTells_L10_ok hF ks n v_to3 v_r220 v_r256 v_r304 v_r338 v_r1379 v_z1903 v_z2211 v_z2119 v_z2212 v_z2489 v_z2579 v_z2580 v_l1 v_p2 v_r1771 k (wi .i64 (v_x2673 + 1)) v_z2685 _ h q)
    · rw [if_neg h1416] at h
      cases h
      exact pkk_sound TTok mix hF 8 (hs := [.t false]) (ts := []) (s := [0, 1, 2]) (l := [2, 4, 7, 9, 10, 12, 14, 16, 17, 20, 22, 26, 27, 28, 29, 30, 31, 32, 33, 34]) (by kernel_rfl) (by kernel_rfl) (.cons (df h1416) .nil) q
inductive G_ringlaw2_RmapTells_C11_R where
  | x0 (v_k2761 : Int) (v_w2762 : (List S_rmap_Pair))
def G_ringlaw2_RmapTells_C11_ex : G_ringlaw2_RmapTells_C11_R → Ex
  | .x0 _ _ => .normal
def G_ringlaw2_RmapTells_C11_st (v_to3 : Int) (v_r220 : ((List S_rmap_Pair) × Int)) (v_r256 : ((List S_rmap_Pair) × Int × Int)) (v_r304 : ((List S_rmap_Pair) × Int)) (v_r338 : (Int × Int)) (v_r1379 : ((List S_rmap_Pair) × Int × Int)) (v_z1903 : Int) (v_z2212 : Int) (v_z2489 : (List S_rmap_Pair)) (v_z2579 : (List S_rmap_Pair)) (v_z2580 : Int) (v_z2119 : Int) (v_p2 : S_rmap_Pair) (v_r1771 : ((Fin 17 → (Fin 64 → Int)))) (v_z2688 : (List S_rmap_Pair)) : G_ringlaw2_RmapTells_C11_R → PS
  | .x0 v_k2761 v_w2762 => ⟨(dd :: dd :: .d (.v (.int .i64 v_to3)) :: dd :: .ref 0 0 :: dd :: dd :: .d (.sl (v_r220.1.map eS_rmap_Pair)) :: dd :: .d (.sl (v_r256.1.map eS_rmap_Pair)) :: .d (.v (.int .i64 v_r256.2.1)) :: dd :: .d (.sl (v_r304.1.map eS_rmap_Pair)) :: dd :: .d (.v (.int .i64 v_r338.1)) :: dd :: .d (.sl (v_r1379.1.map eS_rmap_Pair)) :: .d (.v (.int .i64 v_r1379.2.1)) :: dd :: dd :: .ref 1 0 :: dd :: dd :: dd :: dd :: dd :: dd :: .d (.v (.int .i64 v_z2212)) :: .d (.sl (v_z2489.map eS_rmap_Pair)) :: .d (.sl (v_z2579.map eS_rmap_Pair)) :: .srf 2 :: .d (vnil) :: .d (.v (.int .i64 v_z2580)) :: .d (.v (.int .i64 v_k2761)) :: .d (.v (.int .i64 0)) :: (dds 273 [])), [.box [.d (.v (.int .i64 v_p2.fFrame)), .d (.v (.int .i64 v_p2.fSpace)), .d (.v (.int .i64 v_p2.fPage))], .box ((cA_t36 v_r1771).map FV.d), .row 24 3 (v_w2762.map eS_rmap_Pair)]⟩
def G_ringlaw2_RmapTells_C11_hd (v_to3 : Int) (v_r220 : ((List S_rmap_Pair) × Int)) (v_r256 : ((List S_rmap_Pair) × Int × Int)) (v_r304 : ((List S_rmap_Pair) × Int)) (v_r338 : (Int × Int)) (v_r1379 : ((List S_rmap_Pair) × Int × Int)) (v_z1903 : Int) (v_z2212 : Int) (v_z2489 : (List S_rmap_Pair)) (v_z2579 : (List S_rmap_Pair)) (v_z2580 : Int) (v_z2119 : Int) (v_p2 : S_rmap_Pair) (v_r1771 : ((Fin 17 → (Fin 64 → Int)))) (v_z2688 : (List S_rmap_Pair))  : PS := ⟨(dd :: dd :: .d (.v (.int .i64 v_to3)) :: dd :: .ref 0 0 :: dd :: dd :: .d (.sl (v_r220.1.map eS_rmap_Pair)) :: dd :: .d (.sl (v_r256.1.map eS_rmap_Pair)) :: .d (.v (.int .i64 v_r256.2.1)) :: dd :: .d (.sl (v_r304.1.map eS_rmap_Pair)) :: dd :: .d (.v (.int .i64 v_r338.1)) :: dd :: .d (.sl (v_r1379.1.map eS_rmap_Pair)) :: .d (.v (.int .i64 v_r1379.2.1)) :: dd :: dd :: .ref 1 0 :: dd :: .d (.v (.int .i64 v_z1903)) :: dd :: dd :: dd :: dd :: .d (.v (.int .i64 v_z2212)) :: .d (.sl (v_z2489.map eS_rmap_Pair)) :: .d (.sl (v_z2579.map eS_rmap_Pair)) :: .srf 2 :: .d (vnil) :: .d (.v (.int .i64 v_z2580)) :: .d (.v (.int .i64 0)) :: .d (.v (.int .i64 0)) :: (dds 207 (.d (.v (.bool (v_z2119 == 0))) :: (dds 65 [])))), [.box [.d (.v (.int .i64 v_p2.fFrame)), .d (.v (.int .i64 v_p2.fSpace)), .d (.v (.int .i64 v_p2.fPage))], .box ((cA_t36 v_r1771).map FV.d), .row 24 3 (v_z2688.map eS_rmap_Pair)]⟩
def G_ringlaw2_RmapTells_C11 (n : Nat) (v_to3 : Int) (v_r220 : ((List S_rmap_Pair) × Int)) (v_r256 : ((List S_rmap_Pair) × Int × Int)) (v_r304 : ((List S_rmap_Pair) × Int)) (v_r338 : (Int × Int)) (v_r1379 : ((List S_rmap_Pair) × Int × Int)) (v_z1903 : Int) (v_z2212 : Int) (v_z2489 : (List S_rmap_Pair)) (v_z2579 : (List S_rmap_Pair)) (v_z2580 : Int) (v_z2119 : Int) (v_p2 : S_rmap_Pair) (v_r1771 : ((Fin 17 → (Fin 64 → Int)))) (v_z2688 : (List S_rmap_Pair)) : Option G_ringlaw2_RmapTells_C11_R :=
  if v_z2119 = 0 then
   some (.x0 (wi .i64 (v_z1903 - 1)) v_z2688)
  else
   some (.x0 0 v_z2688)
theorem G_ringlaw2_RmapTells_C11_ok {Fi : Ex → PS → Prop} (hF : KC 308 Fi) (ks : List Fr) (n : Nat) (v_to3 : Int) (v_r220 : ((List S_rmap_Pair) × Int)) (v_r256 : ((List S_rmap_Pair) × Int × Int)) (v_r304 : ((List S_rmap_Pair) × Int)) (v_r338 : (Int × Int)) (v_r1379 : ((List S_rmap_Pair) × Int × Int)) (v_z1903 : Int) (v_z2212 : Int) (v_z2489 : (List S_rmap_Pair)) (v_z2579 : (List S_rmap_Pair)) (v_z2580 : Int) (v_z2119 : Int) (v_p2 : S_rmap_Pair) (v_r1771 : ((Fin 17 → (Fin 64 → Int)))) (v_z2688 : (List S_rmap_Pair))  (o : G_ringlaw2_RmapTells_C11_R) (h : G_ringlaw2_RmapTells_C11 n v_to3 v_r220 v_r256 v_r304 v_r338 v_r1379 v_z1903 v_z2212 v_z2489 v_z2579 v_z2580 v_z2119 v_p2 v_r1771 v_z2688 = some o) (q : RunE Try.prog 308 Fi ks (G_ringlaw2_RmapTells_C11_ex o) (G_ringlaw2_RmapTells_C11_st v_to3 v_r220 v_r256 v_r304 v_r338 v_r1379 v_z1903 v_z2212 v_z2489 v_z2579 v_z2580 v_z2119 v_p2 v_r1771 v_z2688 o)) : RunE Try.prog 308 Fi (.s (cR (cL (cR (cR (cR (cR (cR (cR (cR (cR (cR (cR (cR (cR (cR (cR (cR (cR (cR (cR (cR (cR (cR (cR (cR (bodyOf Try.f3)))))))))))))))))))))))))) :: ks) .normal (G_ringlaw2_RmapTells_C11_hd v_to3 v_r220 v_r256 v_r304 v_r338 v_r1379 v_z1903 v_z2212 v_z2489 v_z2579 v_z2580 v_z2119 v_p2 v_r1771 v_z2688) := by
  unfold G_ringlaw2_RmapTells_C11 at h
  by_cases h1434 : v_z2119 = 0
  · rw [if_pos h1434] at h
    cases h
    exact pkk_sound TTok mix hF 2 (hs := [.t true]) (ts := []) (s := [0, 1, 2]) (l := [2, 4, 7, 9, 10, 12, 14, 16, 17, 20, 27, 28, 29, 30, 31, 32, 33, 34]) (by kernel_rfl) (by kernel_rfl) (.cons (bt h1434) .nil) q
  · rw [if_neg h1434] at h
    cases h
    exact pkk_sound TTok mix hF 2 (hs := [.t false]) (ts := []) (s := [0, 1, 2]) (l := [2, 4, 7, 9, 10, 12, 14, 16, 17, 20, 27, 28, 29, 30, 31, 32, 33, 34]) (by kernel_rfl) (by kernel_rfl) (.cons (bf h1434) .nil) q
inductive G_ringlaw2_RmapTells_L13_R where
  | x0 (v_many3015 : Int) (v_w3016 : (List S_rmap_Pair)) (v_b3017 : (Fin 17 → (Fin 64 → Int)))
def G_ringlaw2_RmapTells_L13_ex : G_ringlaw2_RmapTells_L13_R → Ex
  | .x0 _ _ _ => .exit 4
def G_ringlaw2_RmapTells_L13_st (v_to3 : Int) (v_r220 : ((List S_rmap_Pair) × Int)) (v_r256 : ((List S_rmap_Pair) × Int × Int)) (v_r304 : ((List S_rmap_Pair) × Int)) (v_r338 : (Int × Int)) (v_r1379 : ((List S_rmap_Pair) × Int × Int)) (v_z2489 : (List S_rmap_Pair)) (v_z2579 : (List S_rmap_Pair)) (v_z2580 : Int) (v_z2766 : Int) (v_x2981 : Int) (v_p2 : S_rmap_Pair) : G_ringlaw2_RmapTells_L13_R → PS
  | .x0 v_many3015 v_w3016 v_b3017 => ⟨(dd :: dd :: .d (.v (.int .i64 v_to3)) :: dd :: .ref 0 0 :: dd :: dd :: .d (.sl (v_r220.1.map eS_rmap_Pair)) :: dd :: .d (.sl (v_r256.1.map eS_rmap_Pair)) :: .d (.v (.int .i64 v_r256.2.1)) :: dd :: .d (.sl (v_r304.1.map eS_rmap_Pair)) :: dd :: .d (.v (.int .i64 v_r338.1)) :: dd :: .d (.sl (v_r1379.1.map eS_rmap_Pair)) :: .d (.v (.int .i64 v_r1379.2.1)) :: (dds 10 (.d (.sl (v_z2489.map eS_rmap_Pair)) :: .d (.sl (v_z2579.map eS_rmap_Pair)) :: .srf 1 :: dd :: .d (.v (.int .i64 v_z2580)) :: .d (.v (.int .i64 v_z2766)) :: .d (.v (.int .i64 v_many3015)) :: dd :: dd :: dd :: dd :: .ref 2 0 :: (dds 208 (.d (.v (.int .i64 v_x2981)) :: (dds 59 [])))))), [.box [.d (.v (.int .i64 v_p2.fFrame)), .d (.v (.int .i64 v_p2.fSpace)), .d (.v (.int .i64 v_p2.fPage))], .row 24 3 (v_w3016.map eS_rmap_Pair), .box ((cA_t36 v_b3017).map FV.d)]⟩
def G_ringlaw2_RmapTells_L13_hd (v_to3 : Int) (v_r220 : ((List S_rmap_Pair) × Int)) (v_r256 : ((List S_rmap_Pair) × Int × Int)) (v_r304 : ((List S_rmap_Pair) × Int)) (v_r338 : (Int × Int)) (v_r1379 : ((List S_rmap_Pair) × Int × Int)) (v_z2489 : (List S_rmap_Pair)) (v_z2579 : (List S_rmap_Pair)) (v_z2580 : Int) (v_z2766 : Int) (v_x2981 : Int) (v_p2 : S_rmap_Pair) (v_many2999 : Int) (v_x3000 : Int) (v_w3001 : (List S_rmap_Pair)) (v_b3002 : (Fin 17 → (Fin 64 → Int))) : PS := ⟨(dd :: dd :: .d (.v (.int .i64 v_to3)) :: dd :: .ref 0 0 :: dd :: dd :: .d (.sl (v_r220.1.map eS_rmap_Pair)) :: dd :: .d (.sl (v_r256.1.map eS_rmap_Pair)) :: .d (.v (.int .i64 v_r256.2.1)) :: dd :: .d (.sl (v_r304.1.map eS_rmap_Pair)) :: dd :: .d (.v (.int .i64 v_r338.1)) :: dd :: .d (.sl (v_r1379.1.map eS_rmap_Pair)) :: .d (.v (.int .i64 v_r1379.2.1)) :: (dds 10 (.d (.sl (v_z2489.map eS_rmap_Pair)) :: .d (.sl (v_z2579.map eS_rmap_Pair)) :: .srf 1 :: dd :: .d (.v (.int .i64 v_z2580)) :: .d (.v (.int .i64 v_z2766)) :: .d (.v (.int .i64 v_many2999)) :: dd :: dd :: dd :: dd :: .ref 2 0 :: .d (.v (.int .i64 v_x2981)) :: (dds 207 (.d (.v (.int .i64 v_x2981)) :: dd :: dd :: .d (.v (.int .i64 v_x3000)) :: (dds 56 [])))))), [.box [.d (.v (.int .i64 v_p2.fFrame)), .d (.v (.int .i64 v_p2.fSpace)), .d (.v (.int .i64 v_p2.fPage))], .row 24 3 (v_w3001.map eS_rmap_Pair), .box ((cA_t36 v_b3002).map FV.d)]⟩
def G_ringlaw2_RmapTells_L13 (n : Nat) (v_to3 : Int) (v_r220 : ((List S_rmap_Pair) × Int)) (v_r256 : ((List S_rmap_Pair) × Int × Int)) (v_r304 : ((List S_rmap_Pair) × Int)) (v_r338 : (Int × Int)) (v_r1379 : ((List S_rmap_Pair) × Int × Int)) (v_z2489 : (List S_rmap_Pair)) (v_z2579 : (List S_rmap_Pair)) (v_z2580 : Int) (v_z2766 : Int) (v_x2981 : Int) (v_p2 : S_rmap_Pair) : Nat → Int → Int → (List S_rmap_Pair) → (Fin 17 → (Fin 64 → Int)) → Option G_ringlaw2_RmapTells_L13_R
  | 0, _, _, _, _ => none
  | k + 1, v_many2999, v_x3000, v_w3001, v_b3002 =>
    if v_x3000 < 64 then
     if 0 ≤ v_x2981 ∧ v_x2981 < (17 : Int) then
      if 0 ≤ v_x3000 ∧ v_x3000 < (64 : Int) then
       (getA v_b3002 v_x2981).bind fun (v_y3009 : (Fin 64 → Int)) =>
       (getA v_y3009 v_x3000).bind fun (v_y3010 : Int) =>
       if v_y3010 = (wi .i64 (v_p2.fFrame + 1)) then
        if 0 ≤ v_x2981 ∧ v_x2981 < (17 : Int) then
         if 0 ≤ v_x3000 ∧ v_x3000 < (64 : Int) then
          (getA v_b3002 v_x2981).bind fun (v_y3013 : (Fin 64 → Int)) =>
          (getA v_y3013 v_x3000).bind fun (v_y3014 : Int) =>
          G_ringlaw2_RmapTells_L13 n v_to3 v_r220 v_r256 v_r304 v_r338 v_r1379 v_z2489 v_z2579 v_z2580 v_z2766 v_x2981 v_p2 k (wi .i64 (v_many2999 + 1)) (wi .i64 (v_x3000 + 1)) v_w3001 (setA v_b3002 v_x2981 (setA v_y3013 v_x3000 (wi .i64 (v_to3 + 1))))
         else none
        else none
       else
        G_ringlaw2_RmapTells_L13 n v_to3 v_r220 v_r256 v_r304 v_r338 v_r1379 v_z2489 v_z2579 v_z2580 v_z2766 v_x2981 v_p2 k v_many2999 (wi .i64 (v_x3000 + 1)) v_w3001 v_b3002
      else none
     else none
    else
     some (.x0 v_many2999 v_w3001 v_b3002)
theorem G_ringlaw2_RmapTells_L13_ok {Fi : Ex → PS → Prop} (hF : KC 308 Fi) (ks : List Fr) (n : Nat) (v_to3 : Int) (v_r220 : ((List S_rmap_Pair) × Int)) (v_r256 : ((List S_rmap_Pair) × Int × Int)) (v_r304 : ((List S_rmap_Pair) × Int)) (v_r338 : (Int × Int)) (v_r1379 : ((List S_rmap_Pair) × Int × Int)) (v_z2489 : (List S_rmap_Pair)) (v_z2579 : (List S_rmap_Pair)) (v_z2580 : Int) (v_z2766 : Int) (v_x2981 : Int) (v_p2 : S_rmap_Pair)  : ∀ (k : Nat) (v_many2999 : Int) (v_x3000 : Int) (v_w3001 : (List S_rmap_Pair)) (v_b3002 : (Fin 17 → (Fin 64 → Int))) (o : G_ringlaw2_RmapTells_L13_R), G_ringlaw2_RmapTells_L13 n v_to3 v_r220 v_r256 v_r304 v_r338 v_r1379 v_z2489 v_z2579 v_z2580 v_z2766 v_x2981 v_p2 k v_many2999 v_x3000 v_w3001 v_b3002 = some o → RunE Try.prog 308 Fi ks (G_ringlaw2_RmapTells_L13_ex o) (G_ringlaw2_RmapTells_L13_st v_to3 v_r220 v_r256 v_r304 v_r338 v_r1379 v_z2489 v_z2579 v_z2580 v_z2766 v_x2981 v_p2 o) → RunE Try.prog 308 Fi (.l k (cP (cB (cR (cR (cB (cL (cR (cR (cP (cB (cR (cL (cR (cT (cR (cL (cR (cR (cR (cR (cR (cR (cR (cR (cR (cR (cR (cR (cR (cR (cR (cR (cR (cR (cR (cR (cR (cR (cR (cR (bodyOf Try.f3))))))))))))))))))))))))))))))))))))))))) :: ks) .normal (G_ringlaw2_RmapTells_L13_hd v_to3 v_r220 v_r256 v_r304 v_r338 v_r1379 v_z2489 v_z2579 v_z2580 v_z2766 v_x2981 v_p2 v_many2999 v_x3000 v_w3001 v_b3002)
  | 0, v_many2999, v_x3000, v_w3001, v_b3002, o, h, q => by rw [G_ringlaw2_RmapTells_L13] at h; cases h
  | k + 1, v_many2999, v_x3000, v_w3001, v_b3002, o, h, q => by
    rw [G_ringlaw2_RmapTells_L13] at h
    by_cases h1527 : v_x3000 < 64
    · rw [if_pos h1527] at h
      by_cases h1542 : 0 ≤ v_x2981 ∧ v_x2981 < (17 : Int)
      · rw [if_pos h1542] at h
        by_cases h1543 : 0 ≤ v_x3000 ∧ v_x3000 < (64 : Int)
        · rw [if_pos h1543] at h
          obtain ⟨v_y3009, h1544, h⟩ := bind_some h
          obtain ⟨v_y3010, h1545, h⟩ := bind_some h
          by_cases h1551 : v_y3010 = (wi .i64 (v_p2.fFrame + 1))
          · rw [if_pos h1551] at h
            by_cases h1552 : 0 ≤ v_x2981 ∧ v_x2981 < (17 : Int)
            · rw [if_pos h1552] at h
              by_cases h1553 : 0 ≤ v_x3000 ∧ v_x3000 < (64 : Int)
              · rw [if_pos h1553] at h
                obtain ⟨v_y3013, h1554, h⟩ := bind_some h
                obtain ⟨v_y3014, h1555, h⟩ := bind_some h
                exact pkk_sound TTok mix hF 18 (hs := [.t true, .l (.d (.v (.int .i64 v_y3010))), .c, .t true, .x ((cA_t36 (setA v_b3002 v_x2981 (setA v_y3013 v_x3000 (wi .i64 (v_to3 + 1))))).map FV.d), .c]) (ts := []) (s := [0, 1, 2]) (l := [2, 4, 7, 9, 10, 12, 14, 16, 17, 28, 29, 30, 32, 33, 34, 39, 40, 248, 251]) (by kernel_rfl) (by kernel_rfl) (.cons (dt h1527) (.cons h1542 (.cons h1543 (.cons (arr_cell2 (γ := FV) (sz := 64) (g := fvA_64_int_i64) (pre := []) (post := []) (P0 := 0) (o := 0 + (v_x3000).toNat * 1 + 0) rfl (fun _ => rfl) h1544 (arr_cell2 (γ := FV) (sz := 1) (g := (fun x => [.d (.v (.int .i64 x))])) (pre := []) (post := []) (P0 := 0) (o := 0) rfl (fun _ => rfl) h1545 rfl (idx := 0 + (v_x3000).toNat * 1 + 0) (by omega)) (idx := 0 + (v_x2981).toNat * 64 + (v_x3000).toNat * 1) (by omega)) (.cons (bt h1551) (.cons h1552 (.cons h1553 (.cons (arr_store2 (γ := FV) (sz := 64) (g := fvA_64_int_i64) (pre := []) (post := []) (P0 := 0) (o := 0 + (v_x3000).toNat * 1 + 0) (y := (setA v_y3013 v_x3000 (wi .i64 (v_to3 + 1)))) (zs := [.d (.v (.int .i64 (wi .i64 (v_to3 + 1))))]) rfl (fun _ => rfl) h1554 (arr_store2 (γ := FV) (sz := 1) (g := (fun x => [.d (.v (.int .i64 x))])) (pre := []) (post := []) (P0 := 0) (o := 0) (y := (wi .i64 (v_to3 + 1))) (zs := [.d (.v (.int .i64 (wi .i64 (v_to3 + 1))))]) rfl (fun _ => rfl) h1555 rfl (Nat.le_of_ble_eq_true rfl) (idx := 0 + (v_x3000).toNat * 1 + 0) (by omega)).2 (arr_store2 (γ := FV) (sz := 1) (g := (fun x => [.d (.v (.int .i64 x))])) (pre := []) (post := []) (P0 := 0) (o := 0) (y := (wi .i64 (v_to3 + 1))) (zs := [.d (.v (.int .i64 (wi .i64 (v_to3 + 1))))]) rfl (fun _ => rfl) h1555 rfl (Nat.le_of_ble_eq_true rfl) (idx := 0 + (v_x3000).toNat * 1 + 0) (by omega)).1 (idx := 0 + (v_x2981).toNat * 64 + (v_x3000).toNat * 1) (by omega)).1 (.cons (arr_store2 (γ := FV) (sz := 64) (g := fvA_64_int_i64) (pre := []) (post := []) (P0 := 0) (o := 0 + (v_x3000).toNat * 1 + 0) (y := (setA v_y3013 v_x3000 (wi .i64 (v_to3 + 1)))) (zs := [.d (.v (.int .i64 (wi .i64 (v_to3 + 1))))]) rfl (fun _ => rfl) h1554 (arr_store2 (γ := FV) (sz := 1) (g := (fun x => [.d (.v (.int .i64 x))])) (pre := []) (post := []) (P0 := 0) (o := 0) (y := (wi .i64 (v_to3 + 1))) (zs := [.d (.v (.int .i64 (wi .i64 (v_to3 + 1))))]) rfl (fun _ => rfl) h1555 rfl (Nat.le_of_ble_eq_true rfl) (idx := 0 + (v_x3000).toNat * 1 + 0) (by omega)).2 (arr_store2 (γ := FV) (sz := 1) (g := (fun x => [.d (.v (.int .i64 x))])) (pre := []) (post := []) (P0 := 0) (o := 0) (y := (wi .i64 (v_to3 + 1))) (zs := [.d (.v (.int .i64 (wi .i64 (v_to3 + 1))))]) rfl (fun _ => rfl) h1555 rfl (Nat.le_of_ble_eq_true rfl) (idx := 0 + (v_x3000).toNat * 1 + 0) (by omega)).1 (idx := 0 + (v_x2981).toNat * 64 + (v_x3000).toNat * 1) (by omega)).2 .nil))))))))) (G_ringlaw2_RmapTells_L13_ok hF ks n v_to3 v_r220 v_r256 v_r304 v_r338 v_r1379 v_z2489 v_z2579 v_z2580 v_z2766 v_x2981 v_p2 k (wi .i64 (v_many2999 + 1)) (wi .i64 (v_x3000 + 1)) v_w3001 (setA v_b3002 v_x2981 (setA v_y3013 v_x3000 (wi .i64 (v_to3 + 1)))) _ h q)
              · rw [if_neg h1553] at h; cases h
            · rw [if_neg h1552] at h; cases h
          · rw [if_neg h1551] at h
            exact pkk_sound TTok mix hF 16 (hs := [.t true, .l (.d (.v (.int .i64 v_y3010))), .c, .t false]) (ts := []) (s := [0, 1, 2]) (l := [2, 4, 7, 9, 10, 12, 14, 16, 17, 28, 29, 30, 32, 33, 34, 39, 40, 248, 251]) (by kernel_rfl) (by kernel_rfl) (.cons (dt h1527) (.cons h1542 (.cons h1543 (.cons (arr_cell2 (γ := FV) (sz := 64) (g := fvA_64_int_i64) (pre := []) (post := []) (P0 := 0) (o := 0 + (v_x3000).toNat * 1 + 0) rfl (fun _ => rfl) h1544 (arr_cell2 (γ := FV) (sz := 1) (g := (fun x => [.d (.v (.int .i64 x))])) (pre := []) (post := []) (P0 := 0) (o := 0) rfl (fun _ => rfl) h1545 rfl (idx := 0 + (v_x3000).toNat * 1 + 0) (by omega)) (idx := 0 + (v_x2981).toNat * 64 + (v_x3000).toNat * 1) (by omega)) (.cons (bf h1551) .nil))))) (G_ringlaw2_RmapTells_L13_ok hF ks n v_to3 v_r220 v_r256 v_r304 v_r338 v_r1379 v_z2489 v_z2579 v_z2580 v_z2766 v_x2981 v_p2 k v_many2999 (wi .i64 (v_x3000 + 1)) v_w3001 v_b3002 _ h q)
        · rw [if_neg h1543] at h; cases h
      · rw [if_neg h1542] at h; cases h
    · rw [if_neg h1527] at h
      cases h
      exact pkk_sound TTok mix hF 8 (hs := [.t false]) (ts := []) (s := [0, 1, 2]) (l := [2, 4, 7, 9, 10, 12, 14, 16, 17, 28, 29, 30, 32, 33, 34, 39, 248]) (by kernel_rfl) (by kernel_rfl) (.cons (df h1527) .nil) q
inductive G_ringlaw2_RmapTells_L14_R where
  | x0 (v_many3022 : Int) (v_w3023 : (List S_rmap_Pair)) (v_b3024 : (Fin 17 → (Fin 64 → Int)))
def G_ringlaw2_RmapTells_L14_ex : G_ringlaw2_RmapTells_L14_R → Ex
  | .x0 _ _ _ => .exit 2
def G_ringlaw2_RmapTells_L14_st (v_to3 : Int) (v_r220 : ((List S_rmap_Pair) × Int)) (v_r256 : ((List S_rmap_Pair) × Int × Int)) (v_r304 : ((List S_rmap_Pair) × Int)) (v_r338 : (Int × Int)) (v_r1379 : ((List S_rmap_Pair) × Int × Int)) (v_z2489 : (List S_rmap_Pair)) (v_z2579 : (List S_rmap_Pair)) (v_z2580 : Int) (v_z2766 : Int) (v_p2 : S_rmap_Pair) : G_ringlaw2_RmapTells_L14_R → PS
  | .x0 v_many3022 v_w3023 v_b3024 => ⟨(dd :: dd :: dd :: dd :: dd :: dd :: dd :: .d (.sl (v_r220.1.map eS_rmap_Pair)) :: dd :: .d (.sl (v_r256.1.map eS_rmap_Pair)) :: .d (.v (.int .i64 v_r256.2.1)) :: dd :: .d (.sl (v_r304.1.map eS_rmap_Pair)) :: dd :: .d (.v (.int .i64 v_r338.1)) :: dd :: .d (.sl (v_r1379.1.map eS_rmap_Pair)) :: .d (.v (.int .i64 v_r1379.2.1)) :: (dds 10 (.d (.sl (v_z2489.map eS_rmap_Pair)) :: .d (.sl (v_z2579.map eS_rmap_Pair)) :: .srf 0 :: dd :: .d (.v (.int .i64 v_z2580)) :: .d (.v (.int .i64 v_z2766)) :: .d (.v (.int .i64 v_many3022)) :: dd :: dd :: dd :: dd :: .ref 1 0 :: (dds 268 [])))), [.row 24 3 (v_w3023.map eS_rmap_Pair), .box ((cA_t36 v_b3024).map FV.d)]⟩
def G_ringlaw2_RmapTells_L14_hd (v_to3 : Int) (v_r220 : ((List S_rmap_Pair) × Int)) (v_r256 : ((List S_rmap_Pair) × Int × Int)) (v_r304 : ((List S_rmap_Pair) × Int)) (v_r338 : (Int × Int)) (v_r1379 : ((List S_rmap_Pair) × Int × Int)) (v_z2489 : (List S_rmap_Pair)) (v_z2579 : (List S_rmap_Pair)) (v_z2580 : Int) (v_z2766 : Int) (v_p2 : S_rmap_Pair) (v_many2980 : Int) (v_x2981 : Int) (v_w2982 : (List S_rmap_Pair)) (v_b2983 : (Fin 17 → (Fin 64 → Int))) : PS := ⟨(dd :: dd :: .d (.v (.int .i64 v_to3)) :: dd :: .ref 0 0 :: dd :: dd :: .d (.sl (v_r220.1.map eS_rmap_Pair)) :: dd :: .d (.sl (v_r256.1.map eS_rmap_Pair)) :: .d (.v (.int .i64 v_r256.2.1)) :: dd :: .d (.sl (v_r304.1.map eS_rmap_Pair)) :: dd :: .d (.v (.int .i64 v_r338.1)) :: dd :: .d (.sl (v_r1379.1.map eS_rmap_Pair)) :: .d (.v (.int .i64 v_r1379.2.1)) :: (dds 10 (.d (.sl (v_z2489.map eS_rmap_Pair)) :: .d (.sl (v_z2579.map eS_rmap_Pair)) :: .srf 1 :: dd :: .d (.v (.int .i64 v_z2580)) :: .d (.v (.int .i64 v_z2766)) :: .d (.v (.int .i64 v_many2980)) :: dd :: dd :: dd :: dd :: .ref 2 0 :: (dds 208 (.d (.v (.int .i64 v_x2981)) :: (dds 59 [])))))), [.box [.d (.v (.int .i64 v_p2.fFrame)), .d (.v (.int .i64 v_p2.fSpace)), .d (.v (.int .i64 v_p2.fPage))], .row 24 3 (v_w2982.map eS_rmap_Pair), .box ((cA_t36 v_b2983).map FV.d)]⟩
def G_ringlaw2_RmapTells_L14 (n : Nat) (v_to3 : Int) (v_r220 : ((List S_rmap_Pair) × Int)) (v_r256 : ((List S_rmap_Pair) × Int × Int)) (v_r304 : ((List S_rmap_Pair) × Int)) (v_r338 : (Int × Int)) (v_r1379 : ((List S_rmap_Pair) × Int × Int)) (v_z2489 : (List S_rmap_Pair)) (v_z2579 : (List S_rmap_Pair)) (v_z2580 : Int) (v_z2766 : Int) (v_p2 : S_rmap_Pair) : Nat → Int → Int → (List S_rmap_Pair) → (Fin 17 → (Fin 64 → Int)) → Option G_ringlaw2_RmapTells_L14_R
  | 0, _, _, _, _ => none
  | k + 1, v_many2980, v_x2981, v_w2982, v_b2983 =>
    if v_x2981 < 17 then
     (G_ringlaw2_RmapTells_L13 n v_to3 v_r220 v_r256 v_r304 v_r338 v_r1379 v_z2489 v_z2579 v_z2580 v_z2766 v_x2981 v_p2 n v_many2980 0 v_w2982 v_b2983).bind fun v_o3018 => match v_o3018 with
     | .x0 v_z3019 v_z3020 v_z3021 =>
       G_ringlaw2_RmapTells_L14 n v_to3 v_r220 v_r256 v_r304 v_r338 v_r1379 v_z2489 v_z2579 v_z2580 v_z2766 v_p2 k v_z3019 (wi .i64 (v_x2981 + 1)) v_z3020 v_z3021
    else
     some (.x0 v_many2980 v_w2982 v_b2983)
theorem G_ringlaw2_RmapTells_L14_ok {Fi : Ex → PS → Prop} (hF : KC 308 Fi) (ks : List Fr) (n : Nat) (v_to3 : Int) (v_r220 : ((List S_rmap_Pair) × Int)) (v_r256 : ((List S_rmap_Pair) × Int × Int)) (v_r304 : ((List S_rmap_Pair) × Int)) (v_r338 : (Int × Int)) (v_r1379 : ((List S_rmap_Pair) × Int × Int)) (v_z2489 : (List S_rmap_Pair)) (v_z2579 : (List S_rmap_Pair)) (v_z2580 : Int) (v_z2766 : Int) (v_p2 : S_rmap_Pair)  : ∀ (k : Nat) (v_many2980 : Int) (v_x2981 : Int) (v_w2982 : (List S_rmap_Pair)) (v_b2983 : (Fin 17 → (Fin 64 → Int))) (o : G_ringlaw2_RmapTells_L14_R), G_ringlaw2_RmapTells_L14 n v_to3 v_r220 v_r256 v_r304 v_r338 v_r1379 v_z2489 v_z2579 v_z2580 v_z2766 v_p2 k v_many2980 v_x2981 v_w2982 v_b2983 = some o → RunE Try.prog 308 Fi ks (G_ringlaw2_RmapTells_L14_ex o) (G_ringlaw2_RmapTells_L14_st v_to3 v_r220 v_r256 v_r304 v_r338 v_r1379 v_z2489 v_z2579 v_z2580 v_z2766 v_p2 o) → RunE Try.prog 308 Fi (.l k (cP (cB (cR (cL (cR (cT (cR (cL (cR (cR (cR (cR (cR (cR (cR (cR (cR (cR (cR (cR (cR (cR (cR (cR (cR (cR (cR (cR (cR (cR (cR (cR (bodyOf Try.f3))))))))))))))))))))))))))))))))) :: ks) .normal (G_ringlaw2_RmapTells_L14_hd v_to3 v_r220 v_r256 v_r304 v_r338 v_r1379 v_z2489 v_z2579 v_z2580 v_z2766 v_p2 v_many2980 v_x2981 v_w2982 v_b2983)
  | 0, v_many2980, v_x2981, v_w2982, v_b2983, o, h, q => by rw [G_ringlaw2_RmapTells_L14] at h; cases h
  | k + 1, v_many2980, v_x2981, v_w2982, v_b2983, o, h, q => by
    rw [G_ringlaw2_RmapTells_L14] at h
    by_cases h1497 : v_x2981 < 17
    · rw [if_pos h1497] at h
      obtain ⟨v_o3018, h1556, h⟩ := bind_some h
      refine pkk_sound TTok mix hF 14 (hs := [.t true, .n n]) (ts := []) (s := [0, 1, 2]) (l := [2, 4, 7, 9, 10, 12, 14, 16, 17, 28, 29, 30, 32, 33, 34, 39, 40, 248, 251]) (by kernel_rfl) (by kernel_rfl) (.cons (dt h1497) .nil) (G_ringlaw2_RmapTells_L13_ok hF (.b 4 :: .b 3 :: .s (cR (cR (cR (cP (cB (cR (cL (cR (cT (cR (cL (cR (cR (cR (cR (cR (cR (cR (cR (cR (cR (cR (cR (cR (cR (cR (cR (cR (cR (cR (cR (cR (cR (cR (cR (bodyOf Try.f3)))))))))))))))))))))))))))))))))))) :: .l k (cP (cB (cR (cL (cR (cT (cR (cL (cR (cR (cR (cR (cR (cR (cR (cR (cR (cR (cR (cR (cR (cR (cR (cR (cR (cR (cR (cR (cR (cR (cR (cR (bodyOf Try.f3))))))))))))))))))))))))))))))))) :: ks) n v_to3 v_r220 v_r256 v_r304 v_r338 v_r1379 v_z2489 v_z2579 v_z2580 v_z2766 v_x2981 v_p2 n v_many2980 0 v_w2982 v_b2983 _ h1556 ?_)
      cases v_o3018 with
      | x0 v_z3019 v_z3020 v_z3021 =>
        try dsimp only at h
        exact pkk_sound TTok mix hF 3 (hs := []) (ts := []) (s := [0, 1, 2]) (l := [2, 4, 7, 9, 10, 12, 14, 16, 17, 28, 29, 30, 32, 33, 34, 39, 248]) (by kernel_rfl) (by kernel_rfl) .nil (G_ringlaw2_RmapTells_L14_ok hF ks n v_to3 v_r220 v_r256 v_r304 v_r338 v_r1379 v_z2489 v_z2579 v_z2580 v_z2766 v_p2 k v_z3019 (wi .i64 (v_x2981 + 1)) v_z3020 v_z3021 _ h q)
    · rw [if_neg h1497] at h
      cases h
      exact pkk_sound TTok mix hF 8 (hs := [.t false]) (ts := []) (s := [1, 2]) (l := [7, 9, 10, 12, 14, 16, 17, 28, 29, 30, 32, 33, 34, 39]) (by kernel_rfl) (by kernel_rfl) (.cons (df h1497) .nil) q
inductive G_ringlaw2_RmapTells_C15_R where
  | x0 (v_x3093 : Bool)
def G_ringlaw2_RmapTells_C15_ex : G_ringlaw2_RmapTells_C15_R → Ex
  | .x0 _ => .normal
def G_ringlaw2_RmapTells_C15_st (v_r220 : ((List S_rmap_Pair) × Int)) (v_r256 : ((List S_rmap_Pair) × Int × Int)) (v_r304 : ((List S_rmap_Pair) × Int)) (v_r338 : (Int × Int)) (v_r1379 : ((List S_rmap_Pair) × Int × Int)) (v_z2489 : (List S_rmap_Pair)) (v_z2579 : (List S_rmap_Pair)) (v_r3043 : ((List S_rmap_Pair))) (v_z2580 : Int) (v_z2766 : Int) (v_z3026 : Int) (v_z3027 : (List S_rmap_Pair)) : G_ringlaw2_RmapTells_C15_R → PS
  | .x0 v_x3093 => ⟨(dd :: dd :: dd :: dd :: dd :: dd :: .d (.v (.bool v_x3093)) :: (dds 301 [])), []⟩
def G_ringlaw2_RmapTells_C15_hd (v_r220 : ((List S_rmap_Pair) × Int)) (v_r256 : ((List S_rmap_Pair) × Int × Int)) (v_r304 : ((List S_rmap_Pair) × Int)) (v_r338 : (Int × Int)) (v_r1379 : ((List S_rmap_Pair) × Int × Int)) (v_z2489 : (List S_rmap_Pair)) (v_z2579 : (List S_rmap_Pair)) (v_r3043 : ((List S_rmap_Pair))) (v_z2580 : Int) (v_z2766 : Int) (v_z3026 : Int) (v_z3027 : (List S_rmap_Pair))  : PS := ⟨(dd :: dd :: dd :: dd :: dd :: dd :: dd :: .d (.sl (v_r220.1.map eS_rmap_Pair)) :: dd :: .d (.sl (v_r256.1.map eS_rmap_Pair)) :: .d (.v (.int .i64 v_r256.2.1)) :: dd :: .d (.sl (v_r304.1.map eS_rmap_Pair)) :: dd :: .d (.v (.int .i64 v_r338.1)) :: dd :: .d (.sl (v_r1379.1.map eS_rmap_Pair)) :: .d (.v (.int .i64 v_r1379.2.1)) :: (dds 10 (.d (.sl (v_z2489.map eS_rmap_Pair)) :: .d (.sl (v_z2579.map eS_rmap_Pair)) :: .srf 0 :: .d (.sl (v_r3043.map eS_rmap_Pair)) :: .d (.v (.int .i64 v_z2580)) :: .d (.v (.int .i64 v_z2766)) :: .d (.v (.int .i64 v_z3026)) :: (dds 273 [])))), [.row 24 3 (v_z3027.map eS_rmap_Pair)]⟩
def G_ringlaw2_RmapTells_C15 (n : Nat) (v_r220 : ((List S_rmap_Pair) × Int)) (v_r256 : ((List S_rmap_Pair) × Int × Int)) (v_r304 : ((List S_rmap_Pair) × Int)) (v_r338 : (Int × Int)) (v_r1379 : ((List S_rmap_Pair) × Int × Int)) (v_z2489 : (List S_rmap_Pair)) (v_z2579 : (List S_rmap_Pair)) (v_r3043 : ((List S_rmap_Pair))) (v_z2580 : Int) (v_z2766 : Int) (v_z3026 : Int) (v_z3027 : (List S_rmap_Pair)) : Option G_ringlaw2_RmapTells_C15_R :=
  (G_ringref2_PairSame n v_r220.1 v_z2489).bind fun (v_r3089 : (Bool)) =>
  if v_r3089 = true then
   (G_ringref2_PairSame n v_r256.1 v_z2579).bind fun (v_r3090 : (Bool)) =>
   if v_r3090 = true then
    if v_r256.2.1 = v_z2580 then
     (G_ringref2_PairSame n v_r304.1 v_z3027).bind fun (v_r3091 : (Bool)) =>
     if v_r3091 = true then
      if v_r338.1 = v_z2766 then
       (G_ringref2_PairSame n v_r1379.1 v_r3043).bind fun (v_r3092 : (Bool)) =>
       if v_r3092 = true then
        some (.x0 (v_r1379.2.1 == v_z3026))
       else
        some (.x0 false)
      else
       some (.x0 false)
     else
      some (.x0 false)
    else
     some (.x0 false)
   else
    some (.x0 false)
  else
   some (.x0 false)
theorem G_ringlaw2_RmapTells_C15_e0 {Fi : Ex → PS → Prop} (hF : KC 308 Fi) (ks : List Fr) (n : Nat) (v_r220 : ((List S_rmap_Pair) × Int)) (v_r256 : ((List S_rmap_Pair) × Int × Int)) (v_r304 : ((List S_rmap_Pair) × Int)) (v_r338 : (Int × Int)) (v_r1379 : ((List S_rmap_Pair) × Int × Int)) (v_z2489 : (List S_rmap_Pair)) (v_z2579 : (List S_rmap_Pair)) (v_r3043 : ((List S_rmap_Pair))) (v_z2580 : Int) (v_z2766 : Int) (v_z3026 : Int) (v_z3027 : (List S_rmap_Pair))  (v_r3089 : (Bool)) (h1578 : G_ringref2_PairSame n v_r220.1 v_z2489 = some v_r3089) (h1579 : v_r3089 = true) (v_r3090 : (Bool)) (h1580 : G_ringref2_PairSame n v_r256.1 v_z2579 = some v_r3090) (h1581 : v_r3090 = true) (h1582 : v_r256.2.1 = v_z2580) (v_r3091 : (Bool)) (h1583 : G_ringref2_PairSame n v_r304.1 v_z3027 = some v_r3091) (h1584 : v_r3091 = true) (h1585 : v_r338.1 = v_z2766) (v_r3092 : (Bool)) (h1586 : G_ringref2_PairSame n v_r1379.1 v_r3043 = some v_r3092) (h1587 : v_r3092 = true) (q : RunE Try.prog 308 Fi ks (G_ringlaw2_RmapTells_C15_ex (.x0 (v_r1379.2.1 == v_z3026))) (G_ringlaw2_RmapTells_C15_st v_r220 v_r256 v_r304 v_r338 v_r1379 v_z2489 v_z2579 v_r3043 v_z2580 v_z2766 v_z3026 v_z3027 (.x0 (v_r1379.2.1 == v_z3026)))) : RunE Try.prog 308 Fi (.s (cL (cR (cR (cR (cR (cR (cR (cR (cR (cR (cR (cR (cR (cR (cR (cR (cR (cR (cR (cR (cR (cR (cR (cR (cR (cR (bodyOf Try.f3))))))))))))))))))))))))))) :: ks) .normal (G_ringlaw2_RmapTells_C15_hd v_r220 v_r256 v_r304 v_r338 v_r1379 v_z2489 v_z2579 v_r3043 v_z2580 v_z2766 v_z3026 v_z3027) := pkk_sound TTok mix hF 1 (hs := [.r (eB v_r3089), .t true, .c, .c, .r (eB v_r3090), .t true, .c, .c, .t true, .c, .c, .c, .r (eB v_r3091), .t true, .c, .c, .t true, .c, .c, .r (eB v_r3092), .t true, .c, .c]) (ts := []) (s := []) (l := [6]) (by kernel_rfl) (by kernel_rfl) (.cons (G_ringref2_PairSame_ok n v_r220.1 v_z2489 _ h1578) (.cons h1579 (.cons (G_ringref2_PairSame_ok n v_r256.1 v_z2579 _ h1580) (.cons h1581 (.cons (bt h1582) (.cons (G_ringref2_PairSame_ok n v_r304.1 v_z3027 _ h1583) (.cons h1584 (.cons (bt h1585) (.cons (G_ringref2_PairSame_ok n v_r1379.1 v_r3043 _ h1586) (.cons h1587 .nil)))))))))) q
theorem G_ringlaw2_RmapTells_C15_e1 {Fi : Ex → PS → Prop} (hF : KC 308 Fi) (ks : List Fr) (n : Nat) (v_r220 : ((List S_rmap_Pair) × Int)) (v_r256 : ((List S_rmap_Pair) × Int × Int)) (v_r304 : ((List S_rmap_Pair) × Int)) (v_r338 : (Int × Int)) (v_r1379 : ((List S_rmap_Pair) × Int × Int)) (v_z2489 : (List S_rmap_Pair)) (v_z2579 : (List S_rmap_Pair)) (v_r3043 : ((List S_rmap_Pair))) (v_z2580 : Int) (v_z2766 : Int) (v_z3026 : Int) (v_z3027 : (List S_rmap_Pair))  (v_r3089 : (Bool)) (h1578 : G_ringref2_PairSame n v_r220.1 v_z2489 = some v_r3089) (h1579 : v_r3089 = true) (v_r3090 : (Bool)) (h1580 : G_ringref2_PairSame n v_r256.1 v_z2579 = some v_r3090) (h1581 : v_r3090 = true) (h1582 : v_r256.2.1 = v_z2580) (v_r3091 : (Bool)) (h1583 : G_ringref2_PairSame n v_r304.1 v_z3027 = some v_r3091) (h1584 : v_r3091 = true) (h1585 : v_r338.1 = v_z2766) (v_r3092 : (Bool)) (h1586 : G_ringref2_PairSame n v_r1379.1 v_r3043 = some v_r3092) (h1587 : ¬ (v_r3092 = true)) (q : RunE Try.prog 308 Fi ks (G_ringlaw2_RmapTells_C15_ex (.x0 false)) (G_ringlaw2_RmapTells_C15_st v_r220 v_r256 v_r304 v_r338 v_r1379 v_z2489 v_z2579 v_r3043 v_z2580 v_z2766 v_z3026 v_z3027 (.x0 false))) : RunE Try.prog 308 Fi (.s (cL (cR (cR (cR (cR (cR (cR (cR (cR (cR (cR (cR (cR (cR (cR (cR (cR (cR (cR (cR (cR (cR (cR (cR (cR (cR (bodyOf Try.f3))))))))))))))))))))))))))) :: ks) .normal (G_ringlaw2_RmapTells_C15_hd v_r220 v_r256 v_r304 v_r338 v_r1379 v_z2489 v_z2579 v_r3043 v_z2580 v_z2766 v_z3026 v_z3027) := pkk_sound TTok mix hF 1 (hs := [.r (eB v_r3089), .t true, .c, .c, .r (eB v_r3090), .t true, .c, .c, .t true, .c, .c, .c, .r (eB v_r3091), .t true, .c, .c, .t true, .c, .c, .r (eB v_r3092), .t false, .c, .c]) (ts := []) (s := []) (l := [6]) (by kernel_rfl) (by kernel_rfl) (.cons (G_ringref2_PairSame_ok n v_r220.1 v_z2489 _ h1578) (.cons h1579 (.cons (G_ringref2_PairSame_ok n v_r256.1 v_z2579 _ h1580) (.cons h1581 (.cons (bt h1582) (.cons (G_ringref2_PairSame_ok n v_r304.1 v_z3027 _ h1583) (.cons h1584 (.cons (bt h1585) (.cons (G_ringref2_PairSame_ok n v_r1379.1 v_r3043 _ h1586) (.cons (vf h1587) .nil)))))))))) q
theorem G_ringlaw2_RmapTells_C15_e2 {Fi : Ex → PS → Prop} (hF : KC 308 Fi) (ks : List Fr) (n : Nat) (v_r220 : ((List S_rmap_Pair) × Int)) (v_r256 : ((List S_rmap_Pair) × Int × Int)) (v_r304 : ((List S_rmap_Pair) × Int)) (v_r338 : (Int × Int)) (v_r1379 : ((List S_rmap_Pair) × Int × Int)) (v_z2489 : (List S_rmap_Pair)) (v_z2579 : (List S_rmap_Pair)) (v_r3043 : ((List S_rmap_Pair))) (v_z2580 : Int) (v_z2766 : Int) (v_z3026 : Int) (v_z3027 : (List S_rmap_Pair))  (v_r3089 : (Bool)) (h1578 : G_ringref2_PairSame n v_r220.1 v_z2489 = some v_r3089) (h1579 : v_r3089 = true) (v_r3090 : (Bool)) (h1580 : G_ringref2_PairSame n v_r256.1 v_z2579 = some v_r3090) (h1581 : v_r3090 = true) (h1582 : v_r256.2.1 = v_z2580) (v_r3091 : (Bool)) (h1583 : G_ringref2_PairSame n v_r304.1 v_z3027 = some v_r3091) (h1584 : v_r3091 = true) (h1585 : ¬ (v_r338.1 = v_z2766)) (q : RunE Try.prog 308 Fi ks (G_ringlaw2_RmapTells_C15_ex (.x0 false)) (G_ringlaw2_RmapTells_C15_st v_r220 v_r256 v_r304 v_r338 v_r1379 v_z2489 v_z2579 v_r3043 v_z2580 v_z2766 v_z3026 v_z3027 (.x0 false))) : RunE Try.prog 308 Fi (.s (cL (cR (cR (cR (cR (cR (cR (cR (cR (cR (cR (cR (cR (cR (cR (cR (cR (cR (cR (cR (cR (cR (cR (cR (cR (cR (bodyOf Try.f3))))))))))))))))))))))))))) :: ks) .normal (G_ringlaw2_RmapTells_C15_hd v_r220 v_r256 v_r304 v_r338 v_r1379 v_z2489 v_z2579 v_r3043 v_z2580 v_z2766 v_z3026 v_z3027) := pkk_sound TTok mix hF 1 (hs := [.r (eB v_r3089), .t true, .c, .c, .r (eB v_r3090), .t true, .c, .c, .t true, .c, .c, .c, .r (eB v_r3091), .t true, .c, .c, .t false, .c, .c, .c, .c, .c]) (ts := []) (s := []) (l := [6]) (by kernel_rfl) (by kernel_rfl) (.cons (G_ringref2_PairSame_ok n v_r220.1 v_z2489 _ h1578) (.cons h1579 (.cons (G_ringref2_PairSame_ok n v_r256.1 v_z2579 _ h1580) (.cons h1581 (.cons (bt h1582) (.cons (G_ringref2_PairSame_ok n v_r304.1 v_z3027 _ h1583) (.cons h1584 (.cons (bf h1585) .nil)))))))) q
theorem G_ringlaw2_RmapTells_C15_e3 {Fi : Ex → PS → Prop} (hF : KC 308 Fi) (ks : List Fr) (n : Nat) (v_r220 : ((List S_rmap_Pair) × Int)) (v_r256 : ((List S_rmap_Pair) × Int × Int)) (v_r304 : ((List S_rmap_Pair) × Int)) (v_r338 : (Int × Int)) (v_r1379 : ((List S_rmap_Pair) × Int × Int)) (v_z2489 : (List S_rmap_Pair)) (v_z2579 : (List S_rmap_Pair)) (v_r3043 : ((List S_rmap_Pair))) (v_z2580 : Int) (v_z2766 : Int) (v_z3026 : Int) (v_z3027 : (List S_rmap_Pair))  (v_r3089 : (Bool)) (h1578 : G_ringref2_PairSame n v_r220.1 v_z2489 = some v_r3089) (h1579 : v_r3089 = true) (v_r3090 : (Bool)) (h1580 : G_ringref2_PairSame n v_r256.1 v_z2579 = some v_r3090) (h1581 : v_r3090 = true) (h1582 : v_r256.2.1 = v_z2580) (v_r3091 : (Bool)) (h1583 : G_ringref2_PairSame n v_r304.1 v_z3027 = some v_r3091) (h1584 : ¬ (v_r3091 = true)) (q : RunE Try.prog 308 Fi ks (G_ringlaw2_RmapTells_C15_ex (.x0 false)) (G_ringlaw2_RmapTells_C15_st v_r220 v_r256 v_r304 v_r338 v_r1379 v_z2489 v_z2579 v_r3043 v_z2580 v_z2766 v_z3026 v_z3027 (.x0 false))) : RunE Try.prog 308 Fi (.s (cL (cR (cR (cR (cR (cR (cR (cR (cR (cR (cR (cR (cR (cR (cR (cR (cR (cR (cR (cR (cR (cR (cR (cR (cR (cR (bodyOf Try.f3))))))))))))))))))))))))))) :: ks) .normal (G_ringlaw2_RmapTells_C15_hd v_r220 v_r256 v_r304 v_r338 v_r1379 v_z2489 v_z2579 v_r3043 v_z2580 v_z2766 v_z3026 v_z3027) := pkk_sound TTok mix hF 1 (hs := [.r (eB v_r3089), .t true, .c, .c, .r (eB v_r3090), .t true, .c, .c, .t true, .c, .c, .c, .r (eB v_r3091), .t false, .c, .c, .c, .c, .c, .c, .c, .c]) (ts := []) (s := []) (l := [6]) (by kernel_rfl) (by kernel_rfl) (.cons (G_ringref2_PairSame_ok n v_r220.1 v_z2489 _ h1578) (.cons h1579 (.cons (G_ringref2_PairSame_ok n v_r256.1 v_z2579 _ h1580) (.cons h1581 (.cons (bt h1582) (.cons (G_ringref2_PairSame_ok n v_r304.1 v_z3027 _ h1583) (.cons (vf h1584) .nil))))))) q
theorem G_ringlaw2_RmapTells_C15_e4 {Fi : Ex → PS → Prop} (hF : KC 308 Fi) (ks : List Fr) (n : Nat) (v_r220 : ((List S_rmap_Pair) × Int)) (v_r256 : ((List S_rmap_Pair) × Int × Int)) (v_r304 : ((List S_rmap_Pair) × Int)) (v_r338 : (Int × Int)) (v_r1379 : ((List S_rmap_Pair) × Int × Int)) (v_z2489 : (List S_rmap_Pair)) (v_z2579 : (List S_rmap_Pair)) (v_r3043 : ((List S_rmap_Pair))) (v_z2580 : Int) (v_z2766 : Int) (v_z3026 : Int) (v_z3027 : (List S_rmap_Pair))  (v_r3089 : (Bool)) (h1578 : G_ringref2_PairSame n v_r220.1 v_z2489 = some v_r3089) (h1579 : v_r3089 = true) (v_r3090 : (Bool)) (h1580 : G_ringref2_PairSame n v_r256.1 v_z2579 = some v_r3090) (h1581 : v_r3090 = true) (h1582 : ¬ (v_r256.2.1 = v_z2580)) (q : RunE Try.prog 308 Fi ks (G_ringlaw2_RmapTells_C15_ex (.x0 false)) (G_ringlaw2_RmapTells_C15_st v_r220 v_r256 v_r304 v_r338 v_r1379 v_z2489 v_z2579 v_r3043 v_z2580 v_z2766 v_z3026 v_z3027 (.x0 false))) : RunE Try.prog 308 Fi (.s (cL (cR (cR (cR (cR (cR (cR (cR (cR (cR (cR (cR (cR (cR (cR (cR (cR (cR (cR (cR (cR (cR (cR (cR (cR (cR (bodyOf Try.f3))))))))))))))))))))))))))) :: ks) .normal (G_ringlaw2_RmapTells_C15_hd v_r220 v_r256 v_r304 v_r338 v_r1379 v_z2489 v_z2579 v_r3043 v_z2580 v_z2766 v_z3026 v_z3027) := pkk_sound TTok mix hF 1 (hs := [.r (eB v_r3089), .t true, .c, .c, .r (eB v_r3090), .t true, .c, .c, .t false, .c, .c, .c, .c, .c, .c, .c, .c, .c, .c, .c]) (ts := []) (s := []) (l := [6]) (by kernel_rfl) (by kernel_rfl) (.cons (G_ringref2_PairSame_ok n v_r220.1 v_z2489 _ h1578) (.cons h1579 (.cons (G_ringref2_PairSame_ok n v_r256.1 v_z2579 _ h1580) (.cons h1581 (.cons (bf h1582) .nil))))) q
theorem G_ringlaw2_RmapTells_C15_e5 {Fi : Ex → PS → Prop} (hF : KC 308 Fi) (ks : List Fr) (n : Nat) (v_r220 : ((List S_rmap_Pair) × Int)) (v_r256 : ((List S_rmap_Pair) × Int × Int)) (v_r304 : ((List S_rmap_Pair) × Int)) (v_r338 : (Int × Int)) (v_r1379 : ((List S_rmap_Pair) × Int × Int)) (v_z2489 : (List S_rmap_Pair)) (v_z2579 : (List S_rmap_Pair)) (v_r3043 : ((List S_rmap_Pair))) (v_z2580 : Int) (v_z2766 : Int) (v_z3026 : Int) (v_z3027 : (List S_rmap_Pair))  (v_r3089 : (Bool)) (h1578 : G_ringref2_PairSame n v_r220.1 v_z2489 = some v_r3089) (h1579 : v_r3089 = true) (v_r3090 : (Bool)) (h1580 : G_ringref2_PairSame n v_r256.1 v_z2579 = some v_r3090) (h1581 : ¬ (v_r3090 = true)) (q : RunE Try.prog 308 Fi ks (G_ringlaw2_RmapTells_C15_ex (.x0 false)) (G_ringlaw2_RmapTells_C15_st v_r220 v_r256 v_r304 v_r338 v_r1379 v_z2489 v_z2579 v_r3043 v_z2580 v_z2766 v_z3026 v_z3027 (.x0 false))) : RunE Try.prog 308 Fi (.s (cL (cR (cR (cR (cR (cR (cR (cR (cR (cR (cR (cR (cR (cR (cR (cR (cR (cR (cR (cR (cR (cR (cR (cR (cR (cR (bodyOf Try.f3))))))))))))))))))))))))))) :: ks) .normal (G_ringlaw2_RmapTells_C15_hd v_r220 v_r256 v_r304 v_r338 v_r1379 v_z2489 v_z2579 v_r3043 v_z2580 v_z2766 v_z3026 v_z3027) := pkk_sound TTok mix hF 1 (hs := [.r (eB v_r3089), .t true, .c, .c, .r (eB v_r3090), .t false, .c, .c, .c, .c, .c, .c, .c, .c, .c, .c, .c, .c, .c, .c]) (ts := []) (s := []) (l := [6]) (by kernel_rfl) (by kernel_rfl) (.cons (G_ringref2_PairSame_ok n v_r220.1 v_z2489 _ h1578) (.cons h1579 (.cons (G_ringref2_PairSame_ok n v_r256.1 v_z2579 _ h1580) (.cons (vf h1581) .nil)))) q
theorem G_ringlaw2_RmapTells_C15_e6 {Fi : Ex → PS → Prop} (hF : KC 308 Fi) (ks : List Fr) (n : Nat) (v_r220 : ((List S_rmap_Pair) × Int)) (v_r256 : ((List S_rmap_Pair) × Int × Int)) (v_r304 : ((List S_rmap_Pair) × Int)) (v_r338 : (Int × Int)) (v_r1379 : ((List S_rmap_Pair) × Int × Int)) (v_z2489 : (List S_rmap_Pair)) (v_z2579 : (List S_rmap_Pair)) (v_r3043 : ((List S_rmap_Pair))) (v_z2580 : Int) (v_z2766 : Int) (v_z3026 : Int) (v_z3027 : (List S_rmap_Pair))  (v_r3089 : (Bool)) (h1578 : G_ringref2_PairSame n v_r220.1 v_z2489 = some v_r3089) (h1579 : ¬ (v_r3089 = true)) (q : RunE Try.prog 308 Fi ks (G_ringlaw2_RmapTells_C15_ex (.x0 false)) (G_ringlaw2_RmapTells_C15_st v_r220 v_r256 v_r304 v_r338 v_r1379 v_z2489 v_z2579 v_r3043 v_z2580 v_z2766 v_z3026 v_z3027 (.x0 false))) : RunE Try.prog 308 Fi (.s (cL (cR (cR (cR (cR (cR (cR (cR (cR (cR (cR (cR (cR (cR (cR (cR (cR (cR (cR (cR (cR (cR (cR (cR (cR (cR (bodyOf Try.f3))))))))))))))))))))))))))) :: ks) .normal (G_ringlaw2_RmapTells_C15_hd v_r220 v_r256 v_r304 v_r338 v_r1379 v_z2489 v_z2579 v_r3043 v_z2580 v_z2766 v_z3026 v_z3027) := pkk_sound TTok mix hF 1 (hs := [.r (eB v_r3089), .t false, .c, .c, .c, .c, .c, .c, .c, .c, .c, .c, .c, .c, .c, .c, .c, .c, .c]) (ts := []) (s := []) (l := [6]) (by kernel_rfl) (by kernel_rfl) (.cons (G_ringref2_PairSame_ok n v_r220.1 v_z2489 _ h1578) (.cons (vf h1579) .nil)) q
theorem G_ringlaw2_RmapTells_C15_ok {Fi : Ex → PS → Prop} (hF : KC 308 Fi) (ks : List Fr) (n : Nat) (v_r220 : ((List S_rmap_Pair) × Int)) (v_r256 : ((List S_rmap_Pair) × Int × Int)) (v_r304 : ((List S_rmap_Pair) × Int)) (v_r338 : (Int × Int)) (v_r1379 : ((List S_rmap_Pair) × Int × Int)) (v_z2489 : (List S_rmap_Pair)) (v_z2579 : (List S_rmap_Pair)) (v_r3043 : ((List S_rmap_Pair))) (v_z2580 : Int) (v_z2766 : Int) (v_z3026 : Int) (v_z3027 : (List S_rmap_Pair))  (o : G_ringlaw2_RmapTells_C15_R) (h : G_ringlaw2_RmapTells_C15 n v_r220 v_r256 v_r304 v_r338 v_r1379 v_z2489 v_z2579 v_r3043 v_z2580 v_z2766 v_z3026 v_z3027 = some o) (q : RunE Try.prog 308 Fi ks (G_ringlaw2_RmapTells_C15_ex o) (G_ringlaw2_RmapTells_C15_st v_r220 v_r256 v_r304 v_r338 v_r1379 v_z2489 v_z2579 v_r3043 v_z2580 v_z2766 v_z3026 v_z3027 o)) : RunE Try.prog 308 Fi (.s (cL (cR (cR (cR (cR (cR (cR (cR (cR (cR (cR (cR (cR (cR (cR (cR (cR (cR (cR (cR (cR (cR (cR (cR (cR (cR (bodyOf Try.f3))))))))))))))))))))))))))) :: ks) .normal (G_ringlaw2_RmapTells_C15_hd v_r220 v_r256 v_r304 v_r338 v_r1379 v_z2489 v_z2579 v_r3043 v_z2580 v_z2766 v_z3026 v_z3027) := by
  unfold G_ringlaw2_RmapTells_C15 at h
  obtain ⟨v_r3089, h1578, h⟩ := bind_some h
  by_cases h1579 : v_r3089 = true
  · rw [if_pos h1579] at h
    obtain ⟨v_r3090, h1580, h⟩ := bind_some h
    by_cases h1581 : v_r3090 = true
    · rw [if_pos h1581] at h
      by_cases h1582 : v_r256.2.1 = v_z2580
      · rw [if_pos h1582] at h
        obtain ⟨v_r3091, h1583, h⟩ := bind_some h
        by_cases h1584 : v_r3091 = true
        · rw [if_pos h1584] at h
          by_cases h1585 : v_r338.1 = v_z2766
          · rw [if_pos h1585] at h
            obtain ⟨v_r3092, h1586, h⟩ := bind_some h
            by_cases h1587 : v_r3092 = true
            · rw [if_pos h1587] at h
              cases h
              exact G_ringlaw2_RmapTells_C15_e0 hF ks n v_r220 v_r256 v_r304 v_r338 v_r1379 v_z2489 v_z2579 v_r3043 v_z2580 v_z2766 v_z3026 v_z3027 v_r3089 h1578 h1579 v_r3090 h1580 h1581 h1582 v_r3091 h1583 h1584 h1585 v_r3092 h1586 h1587 q
            · rw [if_neg h1587] at h
              cases h
              exact G_ringlaw2_RmapTells_C15_e1 hF ks n v_r220 v_r256 v_r304 v_r338 v_r1379 v_z2489 v_z2579 v_r3043 v_z2580 v_z2766 v_z3026 v_z3027 v_r3089 h1578 h1579 v_r3090 h1580 h1581 h1582 v_r3091 h1583 h1584 h1585 v_r3092 h1586 h1587 q
          · rw [if_neg h1585] at h
            cases h
            exact G_ringlaw2_RmapTells_C15_e2 hF ks n v_r220 v_r256 v_r304 v_r338 v_r1379 v_z2489 v_z2579 v_r3043 v_z2580 v_z2766 v_z3026 v_z3027 v_r3089 h1578 h1579 v_r3090 h1580 h1581 h1582 v_r3091 h1583 h1584 h1585 q
        · rw [if_neg h1584] at h
          cases h
          exact G_ringlaw2_RmapTells_C15_e3 hF ks n v_r220 v_r256 v_r304 v_r338 v_r1379 v_z2489 v_z2579 v_r3043 v_z2580 v_z2766 v_z3026 v_z3027 v_r3089 h1578 h1579 v_r3090 h1580 h1581 h1582 v_r3091 h1583 h1584 q
      · rw [if_neg h1582] at h
        cases h
        exact G_ringlaw2_RmapTells_C15_e4 hF ks n v_r220 v_r256 v_r304 v_r338 v_r1379 v_z2489 v_z2579 v_r3043 v_z2580 v_z2766 v_z3026 v_z3027 v_r3089 h1578 h1579 v_r3090 h1580 h1581 h1582 q
    · rw [if_neg h1581] at h
      cases h
      exact G_ringlaw2_RmapTells_C15_e5 hF ks n v_r220 v_r256 v_r304 v_r338 v_r1379 v_z2489 v_z2579 v_r3043 v_z2580 v_z2766 v_z3026 v_z3027 v_r3089 h1578 h1579 v_r3090 h1580 h1581 q
  · rw [if_neg h1579] at h
    cases h
    exact G_ringlaw2_RmapTells_C15_e6 hF ks n v_r220 v_r256 v_r304 v_r338 v_r1379 v_z2489 v_z2579 v_r3043 v_z2580 v_z2766 v_z3026 v_z3027 v_r3089 h1578 h1579 q
inductive G_ringlaw2_RmapTells_C16_R where
  | x0 (v_x3149 : Bool)
def G_ringlaw2_RmapTells_C16_ex : G_ringlaw2_RmapTells_C16_R → Ex
  | .x0 _ => .normal
def G_ringlaw2_RmapTells_C16_st (v_r220 : ((List S_rmap_Pair) × Int)) (v_r256 : ((List S_rmap_Pair) × Int × Int)) (v_r304 : ((List S_rmap_Pair) × Int)) (v_r338 : (Int × Int)) (v_r1379 : ((List S_rmap_Pair) × Int × Int)) (v_z2489 : (List S_rmap_Pair)) (v_z2579 : (List S_rmap_Pair)) (v_z2580 : Int) (v_z2766 : Int) (v_z2767 : (List S_rmap_Pair)) : G_ringlaw2_RmapTells_C16_R → PS
  | .x0 v_x3149 => ⟨(dd :: dd :: dd :: dd :: dd :: dd :: .d (.v (.bool v_x3149)) :: (dds 301 [])), []⟩
def G_ringlaw2_RmapTells_C16_hd (v_r220 : ((List S_rmap_Pair) × Int)) (v_r256 : ((List S_rmap_Pair) × Int × Int)) (v_r304 : ((List S_rmap_Pair) × Int)) (v_r338 : (Int × Int)) (v_r1379 : ((List S_rmap_Pair) × Int × Int)) (v_z2489 : (List S_rmap_Pair)) (v_z2579 : (List S_rmap_Pair)) (v_z2580 : Int) (v_z2766 : Int) (v_z2767 : (List S_rmap_Pair))  : PS := ⟨(dd :: dd :: dd :: dd :: dd :: dd :: dd :: .d (.sl (v_r220.1.map eS_rmap_Pair)) :: dd :: .d (.sl (v_r256.1.map eS_rmap_Pair)) :: .d (.v (.int .i64 v_r256.2.1)) :: dd :: .d (.sl (v_r304.1.map eS_rmap_Pair)) :: dd :: .d (.v (.int .i64 v_r338.1)) :: dd :: .d (.sl (v_r1379.1.map eS_rmap_Pair)) :: .d (.v (.int .i64 v_r1379.2.1)) :: (dds 10 (.d (.sl (v_z2489.map eS_rmap_Pair)) :: .d (.sl (v_z2579.map eS_rmap_Pair)) :: .srf 0 :: .d (vnil) :: .d (.v (.int .i64 v_z2580)) :: .d (.v (.int .i64 v_z2766)) :: .d (.v (.int .i64 0)) :: (dds 273 [])))), [.row 24 3 (v_z2767.map eS_rmap_Pair)]⟩
def G_ringlaw2_RmapTells_C16 (n : Nat) (v_r220 : ((List S_rmap_Pair) × Int)) (v_r256 : ((List S_rmap_Pair) × Int × Int)) (v_r304 : ((List S_rmap_Pair) × Int)) (v_r338 : (Int × Int)) (v_r1379 : ((List S_rmap_Pair) × Int × Int)) (v_z2489 : (List S_rmap_Pair)) (v_z2579 : (List S_rmap_Pair)) (v_z2580 : Int) (v_z2766 : Int) (v_z2767 : (List S_rmap_Pair)) : Option G_ringlaw2_RmapTells_C16_R :=
  (G_ringref2_PairSame n v_r220.1 v_z2489).bind fun (v_r3145 : (Bool)) =>
  if v_r3145 = true then
   (G_ringref2_PairSame n v_r256.1 v_z2579).bind fun (v_r3146 : (Bool)) =>
   if v_r3146 = true then
    if v_r256.2.1 = v_z2580 then
     (G_ringref2_PairSame n v_r304.1 v_z2767).bind fun (v_r3147 : (Bool)) =>
     if v_r3147 = true then
      if v_r338.1 = v_z2766 then
       (G_ringref2_PairSame n v_r1379.1 ([] : (List S_rmap_Pair))).bind fun (v_r3148 : (Bool)) =>
       if v_r3148 = true then
        some (.x0 (v_r1379.2.1 == 0))
       else
        some (.x0 false)
      else
       some (.x0 false)
     else
      some (.x0 false)
    else
     some (.x0 false)
   else
    some (.x0 false)
  else
   some (.x0 false)
theorem G_ringlaw2_RmapTells_C16_e0 {Fi : Ex → PS → Prop} (hF : KC 308 Fi) (ks : List Fr) (n : Nat) (v_r220 : ((List S_rmap_Pair) × Int)) (v_r256 : ((List S_rmap_Pair) × Int × Int)) (v_r304 : ((List S_rmap_Pair) × Int)) (v_r338 : (Int × Int)) (v_r1379 : ((List S_rmap_Pair) × Int × Int)) (v_z2489 : (List S_rmap_Pair)) (v_z2579 : (List S_rmap_Pair)) (v_z2580 : Int) (v_z2766 : Int) (v_z2767 : (List S_rmap_Pair))  (v_r3145 : (Bool)) (h1599 : G_ringref2_PairSame n v_r220.1 v_z2489 = some v_r3145) (h1600 : v_r3145 = true) (v_r3146 : (Bool)) (h1601 : G_ringref2_PairSame n v_r256.1 v_z2579 = some v_r3146) (h1602 : v_r3146 = true) (h1603 : v_r256.2.1 = v_z2580) (v_r3147 : (Bool)) (h1604 : G_ringref2_PairSame n v_r304.1 v_z2767 = some v_r3147) (h1605 : v_r3147 = true) (h1606 : v_r338.1 = v_z2766) (v_r3148 : (Bool)) (h1607 : G_ringref2_PairSame n v_r1379.1 ([] : (List S_rmap_Pair)) = some v_r3148) (h1608 : v_r3148 = true) (q : RunE Try.prog 308 Fi ks (G_ringlaw2_RmapTells_C16_ex (.x0 (v_r1379.2.1 == 0))) (G_ringlaw2_RmapTells_C16_st v_r220 v_r256 v_r304 v_r338 v_r1379 v_z2489 v_z2579 v_z2580 v_z2766 v_z2767 (.x0 (v_r1379.2.1 == 0)))) : RunE Try.prog 308 Fi (.s (cL (cR (cR (cR (cR (cR (cR (cR (cR (cR (cR (cR (cR (cR (cR (cR (cR (cR (cR (cR (cR (cR (cR (cR (cR (cR (bodyOf Try.f3))))))))))))))))))))))))))) :: ks) .normal (G_ringlaw2_RmapTells_C16_hd v_r220 v_r256 v_r304 v_r338 v_r1379 v_z2489 v_z2579 v_z2580 v_z2766 v_z2767) := pkk_sound TTok mix hF 1 (hs := [.r (eB v_r3145), .t true, .c, .c, .r (eB v_r3146), .t true, .c, .c, .t true, .c, .c, .c, .r (eB v_r3147), .t true, .c, .c, .t true, .c, .c, .r (eB v_r3148), .t true, .c, .c]) (ts := []) (s := []) (l := [6]) (by kernel_rfl) (by kernel_rfl) (.cons (G_ringref2_PairSame_ok n v_r220.1 v_z2489 _ h1599) (.cons h1600 (.cons (G_ringref2_PairSame_ok n v_r256.1 v_z2579 _ h1601) (.cons h1602 (.cons (bt h1603) (.cons (G_ringref2_PairSame_ok n v_r304.1 v_z2767 _ h1604) (.cons h1605 (.cons (bt h1606) (.cons (G_ringref2_PairSame_ok n v_r1379.1 ([] : (List S_rmap_Pair)) _ h1607) (.cons h1608 .nil)))))))))) q
theorem G_ringlaw2_RmapTells_C16_e1 {Fi : Ex → PS → Prop} (hF : KC 308 Fi) (ks : List Fr) (n : Nat) (v_r220 : ((List S_rmap_Pair) × Int)) (v_r256 : ((List S_rmap_Pair) × Int × Int)) (v_r304 : ((List S_rmap_Pair) × Int)) (v_r338 : (Int × Int)) (v_r1379 : ((List S_rmap_Pair) × Int × Int)) (v_z2489 : (List S_rmap_Pair)) (v_z2579 : (List S_rmap_Pair)) (v_z2580 : Int) (v_z2766 : Int) (v_z2767 : (List S_rmap_Pair))  (v_r3145 : (Bool)) (h1599 : G_ringref2_PairSame n v_r220.1 v_z2489 = some v_r3145) (h1600 : v_r3145 = true) (v_r3146 : (Bool)) (h1601 : G_ringref2_PairSame n v_r256.1 v_z2579 = some v_r3146) (h1602 : v_r3146 = true) (h1603 : v_r256.2.1 = v_z2580) (v_r3147 : (Bool)) (h1604 : G_ringref2_PairSame n v_r304.1 v_z2767 = some v_r3147) (h1605 : v_r3147 = true) (h1606 : v_r338.1 = v_z2766) (v_r3148 : (Bool)) (h1607 : G_ringref2_PairSame n v_r1379.1 ([] : (List S_rmap_Pair)) = some v_r3148) (h1608 : ¬ (v_r3148 = true)) (q : RunE Try.prog 308 Fi ks (G_ringlaw2_RmapTells_C16_ex (.x0 false)) (G_ringlaw2_RmapTells_C16_st v_r220 v_r256 v_r304 v_r338 v_r1379 v_z2489 v_z2579 v_z2580 v_z2766 v_z2767 (.x0 false))) : RunE Try.prog 308 Fi (.s (cL (cR (cR (cR (cR (cR (cR (cR (cR (cR (cR (cR (cR (cR (cR (cR (cR (cR (cR (cR (cR (cR (cR (cR (cR (cR (bodyOf Try.f3))))))))))))))))))))))))))) :: ks) .normal (G_ringlaw2_RmapTells_C16_hd v_r220 v_r256 v_r304 v_r338 v_r1379 v_z2489 v_z2579 v_z2580 v_z2766 v_z2767) := pkk_sound TTok mix hF 1 (hs := [.r (eB v_r3145), .t true, .c, .c, .r (eB v_r3146), .t true, .c, .c, .t true, .c, .c, .c, .r (eB v_r3147), .t true, .c, .c, .t true, .c, .c, .r (eB v_r3148), .t false, .c, .c]) (ts := []) (s := []) (l := [6]) (by kernel_rfl) (by kernel_rfl) (.cons (G_ringref2_PairSame_ok n v_r220.1 v_z2489 _ h1599) (.cons h1600 (.cons (G_ringref2_PairSame_ok n v_r256.1 v_z2579 _ h1601) (.cons h1602 (.cons (bt h1603) (.cons (G_ringref2_PairSame_ok n v_r304.1 v_z2767 _ h1604) (.cons h1605 (.cons (bt h1606) (.cons (G_ringref2_PairSame_ok n v_r1379.1 ([] : (List S_rmap_Pair)) _ h1607) (.cons (vf h1608) .nil)))))))))) q
theorem G_ringlaw2_RmapTells_C16_e2 {Fi : Ex → PS → Prop} (hF : KC 308 Fi) (ks : List Fr) (n : Nat) (v_r220 : ((List S_rmap_Pair) × Int)) (v_r256 : ((List S_rmap_Pair) × Int × Int)) (v_r304 : ((List S_rmap_Pair) × Int)) (v_r338 : (Int × Int)) (v_r1379 : ((List S_rmap_Pair) × Int × Int)) (v_z2489 : (List S_rmap_Pair)) (v_z2579 : (List S_rmap_Pair)) (v_z2580 : Int) (v_z2766 : Int) (v_z2767 : (List S_rmap_Pair))  (v_r3145 : (Bool)) (h1599 : G_ringref2_PairSame n v_r220.1 v_z2489 = some v_r3145) (h1600 : v_r3145 = true) (v_r3146 : (Bool)) (h1601 : G_ringref2_PairSame n v_r256.1 v_z2579 = some v_r3146) (h1602 : v_r3146 = true) (h1603 : v_r256.2.1 = v_z2580) (v_r3147 : (Bool)) (h1604 : G_ringref2_PairSame n v_r304.1 v_z2767 = some v_r3147) (h1605 : v_r3147 = true) (h1606 : ¬ (v_r338.1 = v_z2766)) (q : RunE Try.prog 308 Fi ks (G_ringlaw2_RmapTells_C16_ex (.x0 false)) (G_ringlaw2_RmapTells_C16_st v_r220 v_r256 v_r304 v_r338 v_r1379 v_z2489 v_z2579 v_z2580 v_z2766 v_z2767 (.x0 false))) : RunE Try.prog 308 Fi (.s (cL (cR (cR (cR (cR (cR (cR (cR (cR (cR (cR (cR (cR (cR (cR (cR (cR (cR (cR (cR (cR (cR (cR (cR (cR (cR (bodyOf Try.f3))))))))))))))))))))))))))) :: ks) .normal (G_ringlaw2_RmapTells_C16_hd v_r220 v_r256 v_r304 v_r338 v_r1379 v_z2489 v_z2579 v_z2580 v_z2766 v_z2767) := pkk_sound TTok mix hF 1 (hs := [.r (eB v_r3145), .t true, .c, .c, .r (eB v_r3146), .t true, .c, .c, .t true, .c, .c, .c, .r (eB v_r3147), .t true, .c, .c, .t false, .c, .c, .c, .c, .c]) (ts := []) (s := []) (l := [6]) (by kernel_rfl) (by kernel_rfl) (.cons (G_ringref2_PairSame_ok n v_r220.1 v_z2489 _ h1599) (.cons h1600 (.cons (G_ringref2_PairSame_ok n v_r256.1 v_z2579 _ h1601) (.cons h1602 (.cons (bt h1603) (.cons (G_ringref2_PairSame_ok n v_r304.1 v_z2767 _ h1604) (.cons h1605 (.cons (bf h1606) .nil)))))))) q
theorem G_ringlaw2_RmapTells_C16_e3 {Fi : Ex → PS → Prop} (hF : KC 308 Fi) (ks : List Fr) (n : Nat) (v_r220 : ((List S_rmap_Pair) × Int)) (v_r256 : ((List S_rmap_Pair) × Int × Int)) (v_r304 : ((List S_rmap_Pair) × Int)) (v_r338 : (Int × Int)) (v_r1379 : ((List S_rmap_Pair) × Int × Int)) (v_z2489 : (List S_rmap_Pair)) (v_z2579 : (List S_rmap_Pair)) (v_z2580 : Int) (v_z2766 : Int) (v_z2767 : (List S_rmap_Pair))  (v_r3145 : (Bool)) (h1599 : G_ringref2_PairSame n v_r220.1 v_z2489 = some v_r3145) (h1600 : v_r3145 = true) (v_r3146 : (Bool)) (h1601 : G_ringref2_PairSame n v_r256.1 v_z2579 = some v_r3146) (h1602 : v_r3146 = true) (h1603 : v_r256.2.1 = v_z2580) (v_r3147 : (Bool)) (h1604 : G_ringref2_PairSame n v_r304.1 v_z2767 = some v_r3147) (h1605 : ¬ (v_r3147 = true)) (q : RunE Try.prog 308 Fi ks (G_ringlaw2_RmapTells_C16_ex (.x0 false)) (G_ringlaw2_RmapTells_C16_st v_r220 v_r256 v_r304 v_r338 v_r1379 v_z2489 v_z2579 v_z2580 v_z2766 v_z2767 (.x0 false))) : RunE Try.prog 308 Fi (.s (cL (cR (cR (cR (cR (cR (cR (cR (cR (cR (cR (cR (cR (cR (cR (cR (cR (cR (cR (cR (cR (cR (cR (cR (cR (cR (bodyOf Try.f3))))))))))))))))))))))))))) :: ks) .normal (G_ringlaw2_RmapTells_C16_hd v_r220 v_r256 v_r304 v_r338 v_r1379 v_z2489 v_z2579 v_z2580 v_z2766 v_z2767) := pkk_sound TTok mix hF 1 (hs := [.r (eB v_r3145), .t true, .c, .c, .r (eB v_r3146), .t true, .c, .c, .t true, .c, .c, .c, .r (eB v_r3147), .t false, .c, .c, .c, .c, .c, .c, .c, .c]) (ts := []) (s := []) (l := [6]) (by kernel_rfl) (by kernel_rfl) (.cons (G_ringref2_PairSame_ok n v_r220.1 v_z2489 _ h1599) (.cons h1600 (.cons (G_ringref2_PairSame_ok n v_r256.1 v_z2579 _ h1601) (.cons h1602 (.cons (bt h1603) (.cons (G_ringref2_PairSame_ok n v_r304.1 v_z2767 _ h1604) (.cons (vf h1605) .nil))))))) q
theorem G_ringlaw2_RmapTells_C16_e4 {Fi : Ex → PS → Prop} (hF : KC 308 Fi) (ks : List Fr) (n : Nat) (v_r220 : ((List S_rmap_Pair) × Int)) (v_r256 : ((List S_rmap_Pair) × Int × Int)) (v_r304 : ((List S_rmap_Pair) × Int)) (v_r338 : (Int × Int)) (v_r1379 : ((List S_rmap_Pair) × Int × Int)) (v_z2489 : (List S_rmap_Pair)) (v_z2579 : (List S_rmap_Pair)) (v_z2580 : Int) (v_z2766 : Int) (v_z2767 : (List S_rmap_Pair))  (v_r3145 : (Bool)) (h1599 : G_ringref2_PairSame n v_r220.1 v_z2489 = some v_r3145) (h1600 : v_r3145 = true) (v_r3146 : (Bool)) (h1601 : G_ringref2_PairSame n v_r256.1 v_z2579 = some v_r3146) (h1602 : v_r3146 = true) (h1603 : ¬ (v_r256.2.1 = v_z2580)) (q : RunE Try.prog 308 Fi ks (G_ringlaw2_RmapTells_C16_ex (.x0 false)) (G_ringlaw2_RmapTells_C16_st v_r220 v_r256 v_r304 v_r338 v_r1379 v_z2489 v_z2579 v_z2580 v_z2766 v_z2767 (.x0 false))) : RunE Try.prog 308 Fi (.s (cL (cR (cR (cR (cR (cR (cR (cR (cR (cR (cR (cR (cR (cR (cR (cR (cR (cR (cR (cR (cR (cR (cR (cR (cR (cR (bodyOf Try.f3))))))))))))))))))))))))))) :: ks) .normal (G_ringlaw2_RmapTells_C16_hd v_r220 v_r256 v_r304 v_r338 v_r1379 v_z2489 v_z2579 v_z2580 v_z2766 v_z2767) := pkk_sound TTok mix hF 1 (hs := [.r (eB v_r3145), .t true, .c, .c, .r (eB v_r3146), .t true, .c, .c, .t false, .c, .c, .c, .c, .c, .c, .c, .c, .c, .c, .c]) (ts := []) (s := []) (l := [6]) (by kernel_rfl) (by kernel_rfl) (.cons (G_ringref2_PairSame_ok n v_r220.1 v_z2489 _ h1599) (.cons h1600 (.cons (G_ringref2_PairSame_ok n v_r256.1 v_z2579 _ h1601) (.cons h1602 (.cons (bf h1603) .nil))))) q
theorem G_ringlaw2_RmapTells_C16_e5 {Fi : Ex → PS → Prop} (hF : KC 308 Fi) (ks : List Fr) (n : Nat) (v_r220 : ((List S_rmap_Pair) × Int)) (v_r256 : ((List S_rmap_Pair) × Int × Int)) (v_r304 : ((List S_rmap_Pair) × Int)) (v_r338 : (Int × Int)) (v_r1379 : ((List S_rmap_Pair) × Int × Int)) (v_z2489 : (List S_rmap_Pair)) (v_z2579 : (List S_rmap_Pair)) (v_z2580 : Int) (v_z2766 : Int) (v_z2767 : (List S_rmap_Pair))  (v_r3145 : (Bool)) (h1599 : G_ringref2_PairSame n v_r220.1 v_z2489 = some v_r3145) (h1600 : v_r3145 = true) (v_r3146 : (Bool)) (h1601 : G_ringref2_PairSame n v_r256.1 v_z2579 = some v_r3146) (h1602 : ¬ (v_r3146 = true)) (q : RunE Try.prog 308 Fi ks (G_ringlaw2_RmapTells_C16_ex (.x0 false)) (G_ringlaw2_RmapTells_C16_st v_r220 v_r256 v_r304 v_r338 v_r1379 v_z2489 v_z2579 v_z2580 v_z2766 v_z2767 (.x0 false))) : RunE Try.prog 308 Fi (.s (cL (cR (cR (cR (cR (cR (cR (cR (cR (cR (cR (cR (cR (cR (cR (cR (cR (cR (cR (cR (cR (cR (cR (cR (cR (cR (bodyOf Try.f3))))))))))))))))))))))))))) :: ks) .normal (G_ringlaw2_RmapTells_C16_hd v_r220 v_r256 v_r304 v_r338 v_r1379 v_z2489 v_z2579 v_z2580 v_z2766 v_z2767) := pkk_sound TTok mix hF 1 (hs := [.r (eB v_r3145), .t true, .c, .c, .r (eB v_r3146), .t false, .c, .c, .c, .c, .c, .c, .c, .c, .c, .c, .c, .c, .c, .c]) (ts := []) (s := []) (l := [6]) (by kernel_rfl) (by kernel_rfl) (.cons (G_ringref2_PairSame_ok n v_r220.1 v_z2489 _ h1599) (.cons h1600 (.cons (G_ringref2_PairSame_ok n v_r256.1 v_z2579 _ h1601) (.cons (vf h1602) .nil)))) q
theorem G_ringlaw2_RmapTells_C16_e6 {Fi : Ex → PS → Prop} (hF : KC 308 Fi) (ks : List Fr) (n : Nat) (v_r220 : ((List S_rmap_Pair) × Int)) (v_r256 : ((List S_rmap_Pair) × Int × Int)) (v_r304 : ((List S_rmap_Pair) × Int)) (v_r338 : (Int × Int)) (v_r1379 : ((List S_rmap_Pair) × Int × Int)) (v_z2489 : (List S_rmap_Pair)) (v_z2579 : (List S_rmap_Pair)) (v_z2580 : Int) (v_z2766 : Int) (v_z2767 : (List S_rmap_Pair))  (v_r3145 : (Bool)) (h1599 : G_ringref2_PairSame n v_r220.1 v_z2489 = some v_r3145) (h1600 : ¬ (v_r3145 = true)) (q : RunE Try.prog 308 Fi ks (G_ringlaw2_RmapTells_C16_ex (.x0 false)) (G_ringlaw2_RmapTells_C16_st v_r220 v_r256 v_r304 v_r338 v_r1379 v_z2489 v_z2579 v_z2580 v_z2766 v_z2767 (.x0 false))) : RunE Try.prog 308 Fi (.s (cL (cR (cR (cR (cR (cR (cR (cR (cR (cR (cR (cR (cR (cR (cR (cR (cR (cR (cR (cR (cR (cR (cR (cR (cR (cR (bodyOf Try.f3))))))))))))))))))))))))))) :: ks) .normal (G_ringlaw2_RmapTells_C16_hd v_r220 v_r256 v_r304 v_r338 v_r1379 v_z2489 v_z2579 v_z2580 v_z2766 v_z2767) := pkk_sound TTok mix hF 1 (hs := [.r (eB v_r3145), .t false, .c, .c, .c, .c, .c, .c, .c, .c, .c, .c, .c, .c, .c, .c, .c, .c, .c]) (ts := []) (s := []) (l := [6]) (by kernel_rfl) (by kernel_rfl) (.cons (G_ringref2_PairSame_ok n v_r220.1 v_z2489 _ h1599) (.cons (vf h1600) .nil)) q
theorem G_ringlaw2_RmapTells_C16_ok {Fi : Ex → PS → Prop} (hF : KC 308 Fi) (ks : List Fr) (n : Nat) (v_r220 : ((List S_rmap_Pair) × Int)) (v_r256 : ((List S_rmap_Pair) × Int × Int)) (v_r304 : ((List S_rmap_Pair) × Int)) (v_r338 : (Int × Int)) (v_r1379 : ((List S_rmap_Pair) × Int × Int)) (v_z2489 : (List S_rmap_Pair)) (v_z2579 : (List S_rmap_Pair)) (v_z2580 : Int) (v_z2766 : Int) (v_z2767 : (List S_rmap_Pair))  (o : G_ringlaw2_RmapTells_C16_R) (h : G_ringlaw2_RmapTells_C16 n v_r220 v_r256 v_r304 v_r338 v_r1379 v_z2489 v_z2579 v_z2580 v_z2766 v_z2767 = some o) (q : RunE Try.prog 308 Fi ks (G_ringlaw2_RmapTells_C16_ex o) (G_ringlaw2_RmapTells_C16_st v_r220 v_r256 v_r304 v_r338 v_r1379 v_z2489 v_z2579 v_z2580 v_z2766 v_z2767 o)) : RunE Try.prog 308 Fi (.s (cL (cR (cR (cR (cR (cR (cR (cR (cR (cR (cR (cR (cR (cR (cR (cR (cR (cR (cR (cR (cR (cR (cR (cR (cR (cR (bodyOf Try.f3))))))))))))))))))))))))))) :: ks) .normal (G_ringlaw2_RmapTells_C16_hd v_r220 v_r256 v_r304 v_r338 v_r1379 v_z2489 v_z2579 v_z2580 v_z2766 v_z2767) := by
  unfold G_ringlaw2_RmapTells_C16 at h
  obtain ⟨v_r3145, h1599, h⟩ := bind_some h
  by_cases h1600 : v_r3145 = true
  · rw [if_pos h1600] at h
    obtain ⟨v_r3146, h1601, h⟩ := bind_some h
    by_cases h1602 : v_r3146 = true
    · rw [if_pos h1602] at h
      by_cases h1603 : v_r256.2.1 = v_z2580
      · rw [if_pos h1603] at h
        obtain ⟨v_r3147, h1604, h⟩ := bind_some h
        by_cases h1605 : v_r3147 = true
        · rw [if_pos h1605] at h
          by_cases h1606 : v_r338.1 = v_z2766
          · rw [if_pos h1606] at h
            obtain ⟨v_r3148, h1607, h⟩ := bind_some h
            by_cases h1608 : v_r3148 = true
            · rw [if_pos h1608] at h
              cases h
              exact G_ringlaw2_RmapTells_C16_e0 hF ks n v_r220 v_r256 v_r304 v_r338 v_r1379 v_z2489 v_z2579 v_z2580 v_z2766 v_z2767 v_r3145 h1599 h1600 v_r3146 h1601 h1602 h1603 v_r3147 h1604 h1605 h1606 v_r3148 h1607 h1608 q
            · rw [if_neg h1608] at h
              cases h
              exact G_ringlaw2_RmapTells_C16_e1 hF ks n v_r220 v_r256 v_r304 v_r338 v_r1379 v_z2489 v_z2579 v_z2580 v_z2766 v_z2767 v_r3145 h1599 h1600 v_r3146 h1601 h1602 h1603 v_r3147 h1604 h1605 h1606 v_r3148 h1607 h1608 q
          · rw [if_neg h1606] at h
            cases h
            exact G_ringlaw2_RmapTells_C16_e2 hF ks n v_r220 v_r256 v_r304 v_r338 v_r1379 v_z2489 v_z2579 v_z2580 v_z2766 v_z2767 v_r3145 h1599 h1600 v_r3146 h1601 h1602 h1603 v_r3147 h1604 h1605 h1606 q
        · rw [if_neg h1605] at h
          cases h
          exact G_ringlaw2_RmapTells_C16_e3 hF ks n v_r220 v_r256 v_r304 v_r338 v_r1379 v_z2489 v_z2579 v_z2580 v_z2766 v_z2767 v_r3145 h1599 h1600 v_r3146 h1601 h1602 h1603 v_r3147 h1604 h1605 q
      · rw [if_neg h1603] at h
        cases h
        exact G_ringlaw2_RmapTells_C16_e4 hF ks n v_r220 v_r256 v_r304 v_r338 v_r1379 v_z2489 v_z2579 v_z2580 v_z2766 v_z2767 v_r3145 h1599 h1600 v_r3146 h1601 h1602 h1603 q
    · rw [if_neg h1602] at h
      cases h
      exact G_ringlaw2_RmapTells_C16_e5 hF ks n v_r220 v_r256 v_r304 v_r338 v_r1379 v_z2489 v_z2579 v_z2580 v_z2766 v_z2767 v_r3145 h1599 h1600 v_r3146 h1601 h1602 q
  · rw [if_neg h1600] at h
    cases h
    exact G_ringlaw2_RmapTells_C16_e6 hF ks n v_r220 v_r256 v_r304 v_r338 v_r1379 v_z2489 v_z2579 v_z2580 v_z2766 v_z2767 v_r3145 h1599 h1600 q
/- ringhall/ringlaw2.RmapTells -/
def G_ringlaw2_RmapTells (n : Nat) (v_l1 : (List S_rmap_Pair)) (v_p2 : S_rmap_Pair) (v_to3 : Int) : Option (Bool) :=
  (G_rmap_Put n v_l1 v_p2).bind fun (v_r220 : ((List S_rmap_Pair) × Int)) =>
  (G_rmap_Out n v_l1 v_p2.fSpace v_p2.fPage).bind fun (v_r256 : ((List S_rmap_Pair) × Int × Int)) =>
  (G_rmap_Who n v_l1 v_p2.fFrame).bind fun (v_r304 : ((List S_rmap_Pair) × Int)) =>
  (G_rmap_Where n v_l1 v_p2.fSpace v_p2.fPage).bind fun (v_r338 : (Int × Int)) =>
  (G_rmap_Move n v_l1 v_p2.fFrame v_to3).bind fun (v_r1379 : ((List S_rmap_Pair) × Int × Int)) =>
  (G_ringref2_Pairs n v_l1).bind fun (v_r1519 : (Int)) =>
  (G_rmap_Check n v_l1).bind fun (v_r1562 : (Int)) =>
  if v_r1562 = v_r1519 then
   if v_r1519 = 0 then
    (G_ringref2_PairGrid n v_l1).bind fun (v_r1771 : ((Fin 17 → (Fin 64 → Int)))) =>
    (G_ringref2_PageOf n v_p2.fSpace v_p2.fPage).bind fun (v_r1800 : (Bool)) =>
    (G_ringlaw2_RmapTells_C2 n v_l1 v_to3 v_r220 v_r256 v_r304 v_r338 v_r1379 v_r1800 v_p2 v_r1771).bind fun v_o1902 => match v_o1902 with
    | .x0 v_z1903 =>
      (G_ringref2_PairIs n v_p2).bind fun (v_r1999 : (Bool)) =>
      (G_ringlaw2_RmapTells_C3 n v_l1 v_to3 v_r220 v_r256 v_r304 v_r338 v_r1379 v_r1800 v_z1903 v_r1999 v_p2 v_r1771).bind fun v_o2025 => match v_o2025 with
      | .x0 v_z2026 =>
        (G_ringlaw2_RmapTells_C4 n v_l1 v_to3 v_r220 v_r256 v_r304 v_r338 v_r1379 v_z1903 v_z2026 v_r1800 v_p2 v_r1771).bind fun v_o2117 => match v_o2117 with
        | .x0 v_z2118 v_z2119 =>
          (G_ringref2_In n v_p2.fFrame 0 63).bind fun (v_r2180 : (Bool)) =>
          (G_ringlaw2_RmapTells_C5 n v_l1 v_to3 v_r220 v_r256 v_r304 v_r338 v_r1379 v_z1903 v_z2026 v_z2118 v_z2119 v_r2180 v_p2 v_r1771).bind fun v_o2210 => match v_o2210 with
          | .x0 v_z2211 v_z2212 =>
            (G_ringlaw2_RmapTells_C6 n v_l1 v_to3 v_r220 v_r256 v_r304 v_r338 v_r1379 v_z1903 v_z2026 v_z2118 v_z2211 v_z2119 v_z2212 v_p2 v_r1771).bind fun v_o2278 => match v_o2278 with
            | .x0 v_z2279 =>
              if v_z2279 = true then
               some false
              else
               (G_ringlaw2_RmapTells_C7 n v_l1 v_to3 v_r220 v_r256 v_r304 v_r338 v_r1379 v_z1903 v_z2118 v_z2211 v_z2119 v_z2212 v_z2026 v_p2 v_r1771).bind fun v_o2488 => match v_o2488 with
               | .x0 v_z2489 =>
                 (G_ringlaw2_RmapTells_C8 n v_l1 v_to3 v_r220 v_r256 v_r304 v_r338 v_r1379 v_z1903 v_z2211 v_z2119 v_z2212 v_z2489 v_z2118 v_p2 v_r1771).bind fun v_o2578 => match v_o2578 with
                 | .x0 v_z2579 v_z2580 =>
                   (G_ringlaw2_RmapTells_L10 n v_to3 v_r220 v_r256 v_r304 v_r338 v_r1379 v_z1903 v_z2211 v_z2119 v_z2212 v_z2489 v_z2579 v_z2580 v_l1 v_p2 v_r1771 n 0 ([] : List S_rmap_Pair)).bind fun v_o2687 => match v_o2687 with
                   | .x0 v_z2688 =>
                     (G_ringlaw2_RmapTells_C11 n v_to3 v_r220 v_r256 v_r304 v_r338 v_r1379 v_z1903 v_z2212 v_z2489 v_z2579 v_z2580 v_z2119 v_p2 v_r1771 v_z2688).bind fun v_o2765 => match v_o2765 with
                     | .x0 v_z2766 v_z2767 =>
                       if v_z2212 = 0 then
                        (G_ringlaw2_RmapTells_L14 n v_to3 v_r220 v_r256 v_r304 v_r338 v_r1379 v_z2489 v_z2579 v_z2580 v_z2766 v_p2 n 0 0 v_z2767 v_r1771).bind fun v_o3025 => match v_o3025 with
                        | .x0 v_z3026 v_z3027 v_z3028 =>
                          (G_ringref2_PairsOf n v_z3028).bind fun (v_r3043 : ((List S_rmap_Pair))) =>
                          (G_ringlaw2_RmapTells_C15 n v_r220 v_r256 v_r304 v_r338 v_r1379 v_z2489 v_z2579 v_r3043 v_z2580 v_z2766 v_z3026 v_z3027).bind fun v_o3100 => match v_o3100 with
                          | .x0 v_z3101 =>
                            some v_z3101
                       else
                        (G_ringlaw2_RmapTells_C16 n v_r220 v_r256 v_r304 v_r338 v_r1379 v_z2489 v_z2579 v_z2580 v_z2766 v_z2767).bind fun v_o3156 => match v_o3156 with
                        | .x0 v_z3157 =>
                          some v_z3157
   else
    (G_ringlaw2_RmapTells_C1 n v_r220 v_r256 v_r304 v_r338 v_r1379 v_r1519).bind fun v_o1696 => match v_o1696 with
    | .x0 v_z1697 =>
      some v_z1697
  else
   some false
theorem G_ringlaw2_RmapTells_ok (n : Nat) (v_l1 : (List S_rmap_Pair)) (v_p2 : S_rmap_Pair) (v_to3 : Int) (r : Bool) (h : G_ringlaw2_RmapTells n v_l1 v_p2 v_to3 = some r) : Ret Try.prog 3 [(eL eS_rmap_Pair) v_l1, eS_rmap_Pair v_p2, (eI .i64) v_to3] (eB r) := by
  refine ret_run (n := 308) (fn := Try.f3) (c := bodyOf Try.f3) (by kernel_rfl) (by kernel_rfl) (by kernel_rfl) (by kernel_rfl) ?_
  have hF : KC 308 (FinR Try.prog Try.f3 (eB r)) := FinR.kc' (by kernel_rfl)
  unfold G_ringlaw2_RmapTells at h
  obtain ⟨v_r220, h205, h⟩ := bind_some h
  obtain ⟨v_r256, h223, h⟩ := bind_some h
  obtain ⟨v_r304, h255, h⟩ := bind_some h
  obtain ⟨v_r338, h264, h⟩ := bind_some h
  obtain ⟨v_r1379, h1134, h⟩ := bind_some h
  obtain ⟨v_r1519, h1256, h⟩ := bind_some h
  obtain ⟨v_r1562, h1257, h⟩ := bind_some h
  by_cases h1258 : v_r1562 = v_r1519
  · rw [if_pos h1258] at h
    by_cases h1277 : v_r1519 = 0
    · rw [if_pos h1277] at h
      obtain ⟨v_r1771, h1318, h⟩ := bind_some h
      obtain ⟨v_r1800, h1319, h⟩ := bind_some h
      obtain ⟨v_o1902, h1330, h⟩ := bind_some h
      refine pkk_sound TTok mix hF 33 (hs := [.c, .r (.tup [(eL eS_rmap_Pair) v_r220.1, (eI .i64) v_r220.2]), .c, .c, .r (.tup [(eL eS_rmap_Pair) v_r256.1, (eI .i64) v_r256.2.1, (eI .i64) v_r256.2.2]), .c, .r (.tup [(eL eS_rmap_Pair) v_r304.1, (eI .i64) v_r304.2]), .c, .c, .r (.tup [(eI .i64) v_r338.1, (eI .i64) v_r338.2]), .c, .r (.tup [(eL eS_rmap_Pair) v_r1379.1, (eI .i64) v_r1379.2.1, (eI .i64) v_r1379.2.2]), .r ((eI .i64) v_r1519), .r ((eI .i64) v_r1562), .t false, .t false, .r ((fun x => PV.agg (cA_t36 x)) v_r1771), .c, .c, .c, .r (eB v_r1800)]) (ts := []) (s := [0, 330]) (l := [0, 2, 4, 7, 8, 9, 10, 11, 12, 13, 14, 15, 16, 17, 18, 20, 21, 22, 147]) (by kernel_rfl) (by kernel_rfl) (.cons (G_rmap_Put_ok n v_l1 v_p2 _ h205) (.cons (G_rmap_Out_ok n v_l1 v_p2.fSpace v_p2.fPage _ h223) (.cons (G_rmap_Who_ok n v_l1 v_p2.fFrame _ h255) (.cons (G_rmap_Where_ok n v_l1 v_p2.fSpace v_p2.fPage _ h264) (.cons (G_rmap_Move_ok n v_l1 v_p2.fFrame v_to3 _ h1134) (.cons (G_ringref2_Pairs_ok n v_l1 _ h1256) (.cons (G_rmap_Check_ok n v_l1 _ h1257) (.cons (nf h1258) (.cons (nf h1277) (.cons (G_ringref2_PairGrid_ok n v_l1 _ h1318) (.cons (show 0 + 1088 ≤ 1088 by decide) (.cons (G_ringref2_PageOf_ok n v_p2.fSpace v_p2.fPage _ h1319) .nil)))))))))))) (G_ringlaw2_RmapTells_C2_ok hF (.s (cR (cR (cR (cR (cR (cR (cR (cR (cR (cR (cR (cR (cR (bodyOf Try.f3)))))))))))))) :: []) n v_l1 v_to3 v_r220 v_r256 v_r304 v_r338 v_r1379 v_r1800 v_p2 v_r1771 _ h1330 ?_)
      cases v_o1902 with
      | x0 v_z1903 =>
        try dsimp only at h
        obtain ⟨v_r1999, h1331, h⟩ := bind_some h
        obtain ⟨v_o2025, h1336, h⟩ := bind_some h
        refine pkk_sound TTok mix hF 5 (hs := [.c, .r (eB v_r1999)]) (ts := []) (s := [0, 1]) (l := [0, 2, 4, 7, 8, 9, 10, 11, 12, 13, 14, 15, 16, 17, 18, 20, 21, 22, 23, 24, 25, 26, 27, 157]) (by kernel_rfl) (by kernel_rfl) (.cons (G_ringref2_PairIs_ok n v_p2 _ h1331) .nil) (G_ringlaw2_RmapTells_C3_ok hF (.s (cR (cR (cR (cR (cR (cR (cR (cR (cR (cR (cR (cR (cR (cR (cR (bodyOf Try.f3)))))))))))))))) :: []) n v_l1 v_to3 v_r220 v_r256 v_r304 v_r338 v_r1379 v_r1800 v_z1903 v_r1999 v_p2 v_r1771 _ h1336 ?_)
        cases v_o2025 with
        | x0 v_z2026 =>
          try dsimp only at h
          obtain ⟨v_o2117, h1341, h⟩ := bind_some h
          refine pkk_sound TTok mix hF 3 (hs := []) (ts := []) (s := [0, 1]) (l := [0, 2, 4, 7, 8, 9, 10, 11, 12, 13, 14, 15, 16, 17, 18, 20, 22, 23, 24, 25, 26, 27, 161]) (by kernel_rfl) (by kernel_rfl) .nil (G_ringlaw2_RmapTells_C4_ok hF (.s (cR (cR (cR (cR (cR (cR (cR (cR (cR (cR (cR (cR (cR (cR (cR (cR (bodyOf Try.f3))))))))))))))))) :: []) n v_l1 v_to3 v_r220 v_r256 v_r304 v_r338 v_r1379 v_z1903 v_z2026 v_r1800 v_p2 v_r1771 _ h1341 ?_)
          cases v_o2117 with
          | x0 v_z2118 v_z2119 =>
            try dsimp only at h
            obtain ⟨v_r2180, h1342, h⟩ := bind_some h
            obtain ⟨v_o2210, h1349, h⟩ := bind_some h
            refine pkk_sound TTok mix hF 3 (hs := [.c, .r (eB v_r2180)]) (ts := []) (s := [0, 1]) (l := [0, 2, 4, 7, 8, 9, 10, 11, 12, 13, 14, 15, 16, 17, 18, 20, 22, 23, 24, 25, 26, 27, 167]) (by kernel_rfl) (by kernel_rfl) (.cons (G_ringref2_In_ok n v_p2.fFrame 0 63 _ h1342) .nil) (G_ringlaw2_RmapTells_C5_ok hF (.s (cR (cR (cR (cR (cR (cR (cR (cR (cR (cR (cR (cR (cR (cR (cR (cR (cR (bodyOf Try.f3)))))))))))))))))) :: []) n v_l1 v_to3 v_r220 v_r256 v_r304 v_r338 v_r1379 v_z1903 v_z2026 v_z2118 v_z2119 v_r2180 v_p2 v_r1771 _ h1349 ?_)
            cases v_o2210 with
            | x0 v_z2211 v_z2212 =>
              try dsimp only at h
              obtain ⟨v_o2278, h1358, h⟩ := bind_some h
              refine pkk_sound TTok mix hF 2 (hs := []) (ts := []) (s := [0, 1]) (l := [0, 2, 4, 7, 8, 9, 10, 11, 12, 13, 14, 15, 16, 17, 18, 20, 22, 23, 24, 25, 26, 27]) (by kernel_rfl) (by kernel_rfl) .nil (G_ringlaw2_RmapTells_C6_ok hF (.s (cR (cL (cR (cR (cR (cR (cR (cR (cR (cR (cR (cR (cR (cR (cR (cR (cR (cR (cR (bodyOf Try.f3)))))))))))))))))))) :: .s (cR (cR (cR (cR (cR (cR (cR (cR (cR (cR (cR (cR (cR (cR (cR (cR (cR (cR (bodyOf Try.f3))))))))))))))))))) :: []) n v_l1 v_to3 v_r220 v_r256 v_r304 v_r338 v_r1379 v_z1903 v_z2026 v_z2118 v_z2211 v_z2119 v_z2212 v_p2 v_r1771 _ h1358 ?_)
              cases v_o2278 with
              | x0 v_z2279 =>
                try dsimp only at h
                by_cases h1359 : v_z2279 = true
                · rw [if_pos h1359] at h
                  obtain rfl := Option.some.inj h
                  exact pend_sound TTok mix 5 (hs := [.t true]) (by kernel_rfl) (by kernel_rfl) (by kernel_rfl) (.cons h1359 .nil)
                · rw [if_neg h1359] at h
                  obtain ⟨v_o2488, h1396, h⟩ := bind_some h
                  refine pkk_sound TTok mix hF 9 (hs := [.t false]) (ts := []) (s := [0, 1]) (l := [0, 2, 4, 7, 9, 10, 12, 14, 16, 17, 20, 22, 24, 25, 26, 27, 28, 29, 30, 31, 32, 33, 34, 195]) (by kernel_rfl) (by kernel_rfl) (.cons (vf h1359) .nil) (G_ringlaw2_RmapTells_C7_ok hF (.s (cR (cR (cR (cR (cR (cR (cR (cR (cR (cR (cR (cR (cR (cR (cR (cR (cR (cR (cR (cR (cR (bodyOf Try.f3)))))))))))))))))))))) :: []) n v_l1 v_to3 v_r220 v_r256 v_r304 v_r338 v_r1379 v_z1903 v_z2118 v_z2211 v_z2119 v_z2212 v_z2026 v_p2 v_r1771 _ h1396 ?_)
                  cases v_o2488 with
                  | x0 v_z2489 =>
                    try dsimp only at h
                    obtain ⟨v_o2578, h1415, h⟩ := bind_some h
                    refine pkk_sound TTok mix hF 3 (hs := []) (ts := []) (s := [0, 1]) (l := [0, 2, 4, 7, 9, 10, 12, 14, 16, 17, 20, 22, 25, 26, 27, 28, 29, 30, 31, 32, 33, 34, 209]) (by kernel_rfl) (by kernel_rfl) .nil (G_ringlaw2_RmapTells_C8_ok hF (.s (cR (cR (cR (cR (cR (cR (cR (cR (cR (cR (cR (cR (cR (cR (cR (cR (cR (cR (cR (cR (cR (cR (bodyOf Try.f3))))))))))))))))))))))) :: []) n v_l1 v_to3 v_r220 v_r256 v_r304 v_r338 v_r1379 v_z1903 v_z2211 v_z2119 v_z2212 v_z2489 v_z2118 v_p2 v_r1771 _ h1415 ?_)
                    cases v_o2578 with
                    | x0 v_z2579 v_z2580 =>
                      try dsimp only at h
                      obtain ⟨v_o2687, h1432, h⟩ := bind_some h
                      refine pkk_sound TTok mix hF 5 (hs := [.u (.d (.v (.int .i64 (v_l1.length : Int)))), .n n]) (ts := [(30, 24, 3)]) (s := [0, 1, 17]) (l := [2, 4, 7, 9, 10, 12, 14, 16, 17, 20, 22, 25, 26, 27, 28, 29, 30, 31, 32, 33, 34, 221, 222, 223]) (by kernel_rfl) (by kernel_rfl) (.cons (len_ob (f := eS_rmap_Pair) (l := v_l1)) .nil) (G_ringlaw2_RmapTells_L10_ok hF (.b 0 :: .s (cR (cR (cR (cR (cR (cR (cR (cR (cR (cR (cR (cR (cR (cR (cR (cR (cR (cR (cR (cR (cR (cR (cR (bodyOf Try.f3)))))))))))))))))))))))) :: []) n v_to3 v_r220 v_r256 v_r304 v_r338 v_r1379 v_z1903 v_z2211 v_z2119 v_z2212 v_z2489 v_z2579 v_z2580 v_l1 v_p2 v_r1771 n 0 ([] : List S_rmap_Pair) _ h1432 ?_)
                      cases v_o2687 with
                      | x0 v_z2688 =>
                        try dsimp only at h
                        obtain ⟨v_o2765, h1435, h⟩ := bind_some h
                        refine pkk_sound TTok mix hF 4 (hs := []) (ts := []) (s := [0, 1, 2]) (l := [2, 4, 7, 9, 10, 12, 14, 16, 17, 20, 22, 27, 28, 29, 30, 31, 32, 33, 34, 242]) (by kernel_rfl) (by kernel_rfl) .nil (G_ringlaw2_RmapTells_C11_ok hF (.s (cR (cR (cR (cR (cR (cR (cR (cR (cR (cR (cR (cR (cR (cR (cR (cR (cR (cR (cR (cR (cR (cR (cR (cR (bodyOf Try.f3))))))))))))))))))))))))) :: []) n v_to3 v_r220 v_r256 v_r304 v_r338 v_r1379 v_z1903 v_z2212 v_z2489 v_z2579 v_z2580 v_z2119 v_p2 v_r1771 v_z2688 _ h1435 ?_)
                        cases v_o2765 with
                        | x0 v_z2766 v_z2767 =>
                          try dsimp only at h
                          by_cases h1436 : v_z2212 = 0
                          · rw [if_pos h1436] at h
                            obtain ⟨v_o3025, h1557, h⟩ := bind_some h
                            refine pkk_sound TTok mix hF 11 (hs := [.t true, .c, .c, .n n]) (ts := []) (s := [0, 2, 18]) (l := [2, 4, 7, 9, 10, 12, 14, 16, 17, 28, 29, 30, 32, 33, 34, 39, 248]) (by kernel_rfl) (by kernel_rfl) (.cons (bt h1436) (.cons (show 0 + 1088 ≤ 1088 by decide) .nil)) (G_ringlaw2_RmapTells_L14_ok hF (.b 2 :: .s (cR (cR (cT (cR (cL (cR (cR (cR (cR (cR (cR (cR (cR (cR (cR (cR (cR (cR (cR (cR (cR (cR (cR (cR (cR (cR (cR (cR (cR (bodyOf Try.f3)))))))))))))))))))))))))))))) :: .s (cR (cR (cR (cR (cR (cR (cR (cR (cR (cR (cR (cR (cR (cR (cR (cR (cR (cR (cR (cR (cR (cR (cR (cR (cR (bodyOf Try.f3)))))))))))))))))))))))))) :: []) n v_to3 v_r220 v_r256 v_r304 v_r338 v_r1379 v_z2489 v_z2579 v_z2580 v_z2766 v_p2 n 0 0 v_z2767 v_r1771 _ h1557 ?_)
                            cases v_o3025 with
                            | x0 v_z3026 v_z3027 v_z3028 =>
                              try dsimp only at h
                              obtain ⟨v_r3043, h1558, h⟩ := bind_some h
                              obtain ⟨v_o3100, h1588, h⟩ := bind_some h
                              refine pkk_sound TTok mix hF 3 (hs := [.c, .r ((eL eS_rmap_Pair) v_r3043)]) (ts := []) (s := [0]) (l := [7, 9, 10, 12, 14, 16, 17, 28, 29, 30, 31, 32, 33, 34]) (by kernel_rfl) (by kernel_rfl) (.cons (G_ringref2_PairsOf_ok n v_z3028 _ h1558) .nil) (G_ringlaw2_RmapTells_C15_ok hF (.s (cR (cR (cR (cR (cR (cR (cR (cR (cR (cR (cR (cR (cR (cR (cR (cR (cR (cR (cR (cR (cR (cR (cR (cR (cR (cR (bodyOf Try.f3))))))))))))))))))))))))))) :: []) n v_r220 v_r256 v_r304 v_r338 v_r1379 v_z2489 v_z2579 v_r3043 v_z2580 v_z2766 v_z3026 v_z3027 _ h1588 ?_)
                              cases v_o3100 with
                              | x0 v_z3101 =>
                                try dsimp only at h
                                obtain rfl := Option.some.inj h
                                exact pend_sound TTok mix 1 (hs := []) (by kernel_rfl) (by kernel_rfl) (by kernel_rfl) .nil
                          · rw [if_neg h1436] at h
                            obtain ⟨v_o3156, h1609, h⟩ := bind_some h
                            refine pkk_sound TTok mix hF 6 (hs := [.t false]) (ts := []) (s := [2]) (l := [7, 9, 10, 12, 14, 16, 17, 28, 29, 30, 31, 32, 33, 34]) (by kernel_rfl) (by kernel_rfl) (.cons (bf h1436) .nil) (G_ringlaw2_RmapTells_C16_ok hF (.s (cR (cR (cR (cR (cR (cR (cR (cR (cR (cR (cR (cR (cR (cR (cR (cR (cR (cR (cR (cR (cR (cR (cR (cR (cR (cR (bodyOf Try.f3))))))))))))))))))))))))))) :: []) n v_r220 v_r256 v_r304 v_r338 v_r1379 v_z2489 v_z2579 v_z2580 v_z2766 v_z2767 _ h1609 ?_)
                            cases v_o3156 with
                            | x0 v_z3157 =>
                              try dsimp only at h
                              obtain rfl := Option.some.inj h
                              exact pend_sound TTok mix 1 (hs := []) (by kernel_rfl) (by kernel_rfl) (by kernel_rfl) .nil
    · rw [if_neg h1277] at h
      obtain ⟨v_o1696, h1294, h⟩ := bind_some h
      refine pkk_sound TTok mix hF 24 (hs := [.c, .r (.tup [(eL eS_rmap_Pair) v_r220.1, (eI .i64) v_r220.2]), .c, .c, .r (.tup [(eL eS_rmap_Pair) v_r256.1, (eI .i64) v_r256.2.1, (eI .i64) v_r256.2.2]), .c, .r (.tup [(eL eS_rmap_Pair) v_r304.1, (eI .i64) v_r304.2]), .c, .c, .r (.tup [(eI .i64) v_r338.1, (eI .i64) v_r338.2]), .c, .r (.tup [(eL eS_rmap_Pair) v_r1379.1, (eI .i64) v_r1379.2.1, (eI .i64) v_r1379.2.2]), .r ((eI .i64) v_r1519), .r ((eI .i64) v_r1562), .t false, .t true]) (ts := []) (s := []) (l := [7, 8, 9, 10, 11, 12, 13, 14, 15, 16, 17, 18, 19]) (by kernel_rfl) (by kernel_rfl) (.cons (G_rmap_Put_ok n v_l1 v_p2 _ h205) (.cons (G_rmap_Out_ok n v_l1 v_p2.fSpace v_p2.fPage _ h223) (.cons (G_rmap_Who_ok n v_l1 v_p2.fFrame _ h255) (.cons (G_rmap_Where_ok n v_l1 v_p2.fSpace v_p2.fPage _ h264) (.cons (G_rmap_Move_ok n v_l1 v_p2.fFrame v_to3 _ h1134) (.cons (G_ringref2_Pairs_ok n v_l1 _ h1256) (.cons (G_rmap_Check_ok n v_l1 _ h1257) (.cons (nf h1258) (.cons (nt h1277) .nil))))))))) (G_ringlaw2_RmapTells_C1_ok hF (.s (cR (cT (cR (cL (cR (cR (cR (cR (cR (cR (cR (cR (bodyOf Try.f3))))))))))))) :: .s (cR (cR (cR (cR (cR (cR (cR (cR (cR (bodyOf Try.f3)))))))))) :: []) n v_r220 v_r256 v_r304 v_r338 v_r1379 v_r1519 _ h1294 ?_)
      cases v_o1696 with
      | x0 v_z1697 =>
        try dsimp only at h
        obtain rfl := Option.some.inj h
        exact pend_sound TTok mix 2 (hs := []) (by kernel_rfl) (by kernel_rfl) (by kernel_rfl) .nil
  · rw [if_neg h1258] at h
    obtain rfl := Option.some.inj h
    exact pend_sound TTok mix 22 (hs := [.c, .r (.tup [(eL eS_rmap_Pair) v_r220.1, (eI .i64) v_r220.2]), .c, .c, .r (.tup [(eL eS_rmap_Pair) v_r256.1, (eI .i64) v_r256.2.1, (eI .i64) v_r256.2.2]), .c, .r (.tup [(eL eS_rmap_Pair) v_r304.1, (eI .i64) v_r304.2]), .c, .c, .r (.tup [(eI .i64) v_r338.1, (eI .i64) v_r338.2]), .c, .r (.tup [(eL eS_rmap_Pair) v_r1379.1, (eI .i64) v_r1379.2.1, (eI .i64) v_r1379.2.2]), .r ((eI .i64) v_r1519), .r ((eI .i64) v_r1562), .t true]) (by kernel_rfl) (by kernel_rfl) (by kernel_rfl) (.cons (G_rmap_Put_ok n v_l1 v_p2 _ h205) (.cons (G_rmap_Out_ok n v_l1 v_p2.fSpace v_p2.fPage _ h223) (.cons (G_rmap_Who_ok n v_l1 v_p2.fFrame _ h255) (.cons (G_rmap_Where_ok n v_l1 v_p2.fSpace v_p2.fPage _ h264) (.cons (G_rmap_Move_ok n v_l1 v_p2.fFrame v_to3 _ h1134) (.cons (G_ringref2_Pairs_ok n v_l1 _ h1256) (.cons (G_rmap_Check_ok n v_l1 _ h1257) (.cons (nt h1258) .nil))))))))
def okS_rmap_Pair (x : S_rmap_Pair) : Prop := (fun a => (Lit.int .i64 a).wf = true) x.fFrame ∧ (fun a => (Lit.int .i64 a).wf = true) x.fSpace ∧ (fun a => (Lit.int .i64 a).wf = true) x.fPage ∧ True
theorem brS_rmap_Pair : Br (.pair (.int .i64) (.pair (.int .i64) (.pair (.int .i64) .unit))) (fun x : S_rmap_Pair => [.v (.int .i64 x.fFrame), .v (.int .i64 x.fSpace), .v (.int .i64 x.fPage)]) okS_rmap_Pair := br_map (br_pair (br_int .i64) (br_pair (br_int .i64) (br_pair (br_int .i64) br_unit))) (fun p => S_rmap_Pair.mk p.1 p.2.1 p.2.2.1) (fun p h => ⟨rfl, h⟩)
theorem RmapTells_walk (H : ∀ (a0 : (List S_rmap_Pair)) (a1 : S_rmap_Pair) (a2 : Int), (okL 24 okS_rmap_Pair) a0 → okS_rmap_Pair a1 → (fun a => (Lit.int .i64 a).wf = true) a2 → ∃ n, G_ringlaw2_RmapTells n a0 a1 a2 = some true) (w : World) (v0 : Value) (v1 : Value) (v2 : Value) (h0 : rep.Arg w (.slice 24 (.pair (.int .i64) (.pair (.int .i64) (.pair (.int .i64) .unit)))) v0) (h1 : rep.Arg w (.pair (.int .i64) (.pair (.int .i64) (.pair (.int .i64) .unit))) v1) (h2 : rep.Arg w (.int .i64) v2) : Calls Try.prog 3 #[v0, v1, v2] w (help.Ret (.bool true) w) := by
  obtain ⟨a0, o0, r0⟩ := arg_one (br_slice (f := eS_rmap_Pair) (ok := okS_rmap_Pair) brS_rmap_Pair (fun _ => rfl) (by decide)) (by rfl) h0
  obtain ⟨a1, o1, r1⟩ := arg_agg brS_rmap_Pair (by rfl) h1
  obtain ⟨a2, o2, r2⟩ := arg_one (br_int .i64) (by rfl) h2
  obtain ⟨n, hn⟩ := H a0 a1 a2 o0 o1 o2
  exact walk_of (G_ringlaw2_RmapTells_ok n a0 a1 a2 true hn) (RT_cons r0 (RT_cons r1 (RT_cons r2 RT_nil)))
/- FRAME RmapTells; ringhall/ringlaw2.RmapTells; (.slice 24 (.pair (.int .i64) (.pair (.int .i64) (.pair (.int .i64) .unit)))) | (.pair (.int .i64) (.pair (.int .i64) (.pair (.int .i64) .unit))) | (.int .i64); .slice none 0 0 | .agg #[.int .i64 0, .int .i64 0, .int .i64 0] | .int .i64 0 -/
end Go.Proofs.Ytdonkhioembhlaa.pv
