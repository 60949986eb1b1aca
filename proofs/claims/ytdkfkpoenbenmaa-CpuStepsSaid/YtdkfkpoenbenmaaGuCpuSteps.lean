/- What the functions compute (part 2): written by gen.py. -/
import Derived.Test.YtdkfkpoenbenmaaGuCpuStepsP1
set_option maxRecDepth 100000
set_option linter.all false
namespace Go.Proofs.Ytdkfkpoenbenmaa.pv
open Go.RowKit
theorem G_ringref5_move_h_ok (n : Nat) (v_r1192 : S_api_Regs) (v_i1193 : S_api_Ins) (v_m1194 : S_ringref5_Room) (v_at1195 : Int) (r : S_api_Regs × S_api_Trap × S_ringref5_Room) (h : G_ringref5_move_h n v_r1192 v_i1193 v_m1194 v_at1195 = some r) : RetH Try.prog 18 [.d (eS_api_Regs v_r1192), .d (eS_api_Ins v_i1193), .ref 0 0, .d ((eI .u32) v_at1195)] [.box [.d (.v (.int .u32 v_m1194.fAt)), .srf 1, .d (.v (.int .i64 v_m1194.fMay))], .row 5 1 (v_m1194.fBytes.map (eI .u8))] (.tup [.d (eS_api_Regs r.1), .d (eS_api_Trap r.2.1)]) [.box [.d (.v (.int .u32 r.2.2.fAt)), .srf 2, .d (.v (.int .i64 r.2.2.fMay))], .none, .row 5 1 (r.2.2.fBytes.map (eI .u8))] := by
  refine retH_run (n := 95) (fn := Try.f18) (c := bodyOf Try.f18) (by kernel_rfl) (by kernel_rfl) (by kernel_rfl) (by kernel_rfl) ?_
  have hF : KC 95 (FinH Try.prog Try.f18 [.box [.d (.v (.int .u32 v_m1194.fAt)), .srf 1, .d (.v (.int .i64 v_m1194.fMay))], .row 5 1 (v_m1194.fBytes.map (eI .u8))] (.tup [.d (eS_api_Regs r.1), .d (eS_api_Trap r.2.1)]) [.box [.d (.v (.int .u32 r.2.2.fAt)), .srf 2, .d (.v (.int .i64 r.2.2.fMay))], .none, .row 5 1 (r.2.2.fBytes.map (eI .u8))]) := FinH.kc' (by kernel_rfl)
  unfold G_ringref5_move_h at h
  by_cases h1599 : v_i1193.fOp = 16
  · rw [if_pos h1599] at h
    obtain ⟨v_r1198, h1600, h⟩ := bind_some h
    by_cases h1602 : v_r1198.2.1 = 0
    · rw [if_pos h1602] at h
      by_cases h1603 : 0 ≤ v_i1193.fA ∧ v_i1193.fA < (8 : Int)
      · rw [if_pos h1603] at h
        obtain ⟨v_y1199, h1604, h⟩ := bind_some h
        obtain rfl := Option.some.inj h
        exact pendH_sound TTok mix 19 (hs := [.c, .t true, .h [0, 1] [] [.box [.d (.v (.int .u32 v_r1198.2.2.fAt)), .srf 2, .d (.v (.int .i64 v_r1198.2.2.fMay))], .none, .row 5 1 (v_r1198.2.2.fBytes.map (eI .u8))] (.tup [.d (.v (.int .u8 v_r1198.1)), .d (.v (.int .i64 v_r1198.2.1))]), .t false, .c, .x ((cS_api_Regs (S_api_Regs.mk (setA v_r1192.fR v_i1193.fA (wi .u32 v_r1198.1)) v_r1192.fPc v_r1192.fRing)).map FV.d), .c, .c, .c, .c]) [0, 1, 49] (by kernel_rfl) (by kernel_rfl) (by kernel_rfl) (.cons (bt h1599) (.cons (G_ringref5_Room_Load_h_ok n v_m1194 v_at1195 1 _ h1600) (.cons (nf h1602) (.cons h1603 (.cons (arr_store (γ := FV) (sz := 1) (g := (fun x => [.d (.v (.int .u32 x))])) (pre := []) (post := [.d (.v (.int .u32 v_r1192.fPc)), .d (.v (.int .i64 v_r1192.fRing))]) (o := 0) (y := (wi .u32 v_r1198.1)) (zs := [.d (.v (.int .u32 (wi .u32 v_r1198.1)))]) (fun _ => rfl) h1604 rfl (Nat.le_of_ble_eq_true rfl)).1 (.cons (arr_store (γ := FV) (sz := 1) (g := (fun x => [.d (.v (.int .u32 x))])) (pre := []) (post := [.d (.v (.int .u32 v_r1192.fPc)), .d (.v (.int .i64 v_r1192.fRing))]) (o := 0) (y := (wi .u32 v_r1198.1)) (zs := [.d (.v (.int .u32 (wi .u32 v_r1198.1)))]) (fun _ => rfl) h1604 rfl (Nat.le_of_ble_eq_true rfl)).2 (.cons (show 0 + 10 ≤ 10 by decide) (.cons (show 0 + 2 ≤ 2 by decide) .nil))))))))
      · rw [if_neg h1603] at h; cases h
    · rw [if_neg h1602] at h
      obtain rfl := Option.some.inj h
      exact pendH_sound TTok mix 17 (hs := [.c, .t true, .h [0, 1] [] [.box [.d (.v (.int .u32 v_r1198.2.2.fAt)), .srf 2, .d (.v (.int .i64 v_r1198.2.2.fMay))], .none, .row 5 1 (v_r1198.2.2.fBytes.map (eI .u8))] (.tup [.d (.v (.int .u8 v_r1198.1)), .d (.v (.int .i64 v_r1198.2.1))]), .t true, .c, .c, .c]) [0, 1, 49] (by kernel_rfl) (by kernel_rfl) (by kernel_rfl) (.cons (bt h1599) (.cons (G_ringref5_Room_Load_h_ok n v_m1194 v_at1195 1 _ h1600) (.cons (nt h1602) (.cons (show 0 + 10 ≤ 10 by decide) (.cons (show 0 + 2 ≤ 2 by decide) .nil)))))
  · rw [if_neg h1599] at h
    by_cases h1611 : v_i1193.fOp = 18
    · rw [if_pos h1611] at h
      by_cases h1612 : 0 ≤ v_i1193.fA ∧ v_i1193.fA < (8 : Int)
      · rw [if_pos h1612] at h
        obtain ⟨v_y1202, h1613, h⟩ := bind_some h
        obtain ⟨v_r1203, h1614, h⟩ := bind_some h
        by_cases h1616 : v_r1203.1 = 0
        · rw [if_pos h1616] at h
          obtain rfl := Option.some.inj h
          exact pendH_sound TTok mix 20 (hs := [.c, .t false, .c, .t true, .c, .l (.d (.v (.int .u32 v_y1202))), .h [0, 1] [] [.box [.d (.v (.int .u32 v_r1203.2.fAt)), .srf 2, .d (.v (.int .i64 v_r1203.2.fMay))], .none, .row 5 1 (v_r1203.2.fBytes.map (eI .u8))] (.d (.v (.int .i64 v_r1203.1))), .t false, .c, .c, .c]) [0, 1, 94] (by kernel_rfl) (by kernel_rfl) (by kernel_rfl) (.cons (bf h1599) (.cons (bt h1611) (.cons h1612 (.cons (arr_cell (γ := FV) (sz := 1) (g := (fun x => [.d (.v (.int .u32 x))])) (pre := []) (post := [.d (.v (.int .u32 v_r1192.fPc)), .d (.v (.int .i64 v_r1192.fRing))]) (o := 0) (fun _ => rfl) h1613 rfl) (.cons (G_ringref5_Room_Store_h_ok n v_m1194 v_at1195 (wi .u8 v_y1202) _ h1614) (.cons (nf h1616) (.cons (show 0 + 10 ≤ 10 by decide) (.cons (show 0 + 2 ≤ 2 by decide) .nil))))))))
        · rw [if_neg h1616] at h
          obtain rfl := Option.some.inj h
          exact pendH_sound TTok mix 20 (hs := [.c, .t false, .c, .t true, .c, .l (.d (.v (.int .u32 v_y1202))), .h [0, 1] [] [.box [.d (.v (.int .u32 v_r1203.2.fAt)), .srf 2, .d (.v (.int .i64 v_r1203.2.fMay))], .none, .row 5 1 (v_r1203.2.fBytes.map (eI .u8))] (.d (.v (.int .i64 v_r1203.1))), .t true, .c, .c, .c]) [0, 1, 94] (by kernel_rfl) (by kernel_rfl) (by kernel_rfl) (.cons (bf h1599) (.cons (bt h1611) (.cons h1612 (.cons (arr_cell (γ := FV) (sz := 1) (g := (fun x => [.d (.v (.int .u32 x))])) (pre := []) (post := [.d (.v (.int .u32 v_r1192.fPc)), .d (.v (.int .i64 v_r1192.fRing))]) (o := 0) (fun _ => rfl) h1613 rfl) (.cons (G_ringref5_Room_Store_h_ok n v_m1194 v_at1195 (wi .u8 v_y1202) _ h1614) (.cons (nt h1616) (.cons (show 0 + 10 ≤ 10 by decide) (.cons (show 0 + 2 ≤ 2 by decide) .nil))))))))
      · rw [if_neg h1612] at h; cases h
    · rw [if_neg h1611] at h
      obtain ⟨v_o1214, h1621, h⟩ := bind_some h
      refine pkk_sound TTok mix hF 17 (hs := [.c, .t false, .c, .t false, .c, .c]) (ts := []) (s := [2, 3, 0, 1, 4, 9, 14, 19, 59]) (l := [2, 3, 4, 5, 8, 9, 12, 13, 57]) (by kernel_rfl) (by kernel_rfl) (.cons (bf h1599) (.cons (bf h1611) (.cons (show 0 + 2 ≤ 2 by decide) .nil))) (G_ringref5_move_h_C1_ok hF (.s (cR (cR (cR (cR (cR (bodyOf Try.f18)))))) :: []) n v_at1195 v_i1193 v_m1194 v_r1192 _ h1621 ?_)
      cases v_o1214 with
      | x0 v_z1215 v_z1216 v_z1217 v_z1218 v_z1219 =>
        try dsimp only at h
        by_cases h1622 : v_i1193.fOp = 15
        · rw [if_pos h1622] at h
          by_cases h1679 : v_i1193.fOp = 17
          · rw [if_pos h1679] at h
            obtain rfl := Option.some.inj h
            exact pendH_sound TTok mix 13 (hs := [.c, .t false, .c, .c, .c, .c, .t false, .c, .c, .c, .c, .c, .c, .c]) [2, 4, 3] (by kernel_rfl) (by kernel_rfl) (by kernel_rfl) (.cons (nf h1622) (.cons (nf h1679) (.cons (show 0 + 10 ≤ 10 by decide) (.cons (show 0 + 2 ≤ 2 by decide) .nil))))
          · rw [if_neg h1679] at h
            by_cases h1683 : v_z1219.fKind = 0
            · rw [if_pos h1683] at h
              by_cases h1684 : 0 ≤ v_i1193.fA ∧ v_i1193.fA < (8 : Int)
              · rw [if_pos h1684] at h
                obtain ⟨v_y1277, h1685, h⟩ := bind_some h
                obtain rfl := Option.some.inj h
                exact pendH_sound TTok mix 13 (hs := [.c, .t false, .c, .c, .c, .c, .t true, .c, .c, .c, .t true, .c, .x ((cS_api_Regs (S_api_Regs.mk (setA v_r1192.fR v_i1193.fA v_z1215) v_r1192.fPc v_r1192.fRing)).map FV.d), .c, .c, .c, .c, .c]) [2, 4, 3] (by kernel_rfl) (by kernel_rfl) (by kernel_rfl) (.cons (nf h1622) (.cons (nt h1679) (.cons (bt h1683) (.cons h1684 (.cons (arr_store (γ := FV) (sz := 1) (g := (fun x => [.d (.v (.int .u32 x))])) (pre := []) (post := [.d (.v (.int .u32 v_r1192.fPc)), .d (.v (.int .i64 v_r1192.fRing))]) (o := 0) (y := v_z1215) (zs := [.d (.v (.int .u32 v_z1215))]) (fun _ => rfl) h1685 rfl (Nat.le_of_ble_eq_true rfl)).1 (.cons (arr_store (γ := FV) (sz := 1) (g := (fun x => [.d (.v (.int .u32 x))])) (pre := []) (post := [.d (.v (.int .u32 v_r1192.fPc)), .d (.v (.int .i64 v_r1192.fRing))]) (o := 0) (y := v_z1215) (zs := [.d (.v (.int .u32 v_z1215))]) (fun _ => rfl) h1685 rfl (Nat.le_of_ble_eq_true rfl)).2 (.cons (show 0 + 10 ≤ 10 by decide) (.cons (show 0 + 2 ≤ 2 by decide) .nil))))))))
              · rw [if_neg h1684] at h; cases h
            · rw [if_neg h1683] at h
              obtain rfl := Option.some.inj h
              exact pendH_sound TTok mix 13 (hs := [.c, .t false, .c, .c, .c, .c, .t true, .c, .c, .c, .t false, .c, .c, .c, .c]) [2, 4, 3] (by kernel_rfl) (by kernel_rfl) (by kernel_rfl) (.cons (nf h1622) (.cons (nt h1679) (.cons (bf h1683) (.cons (show 0 + 10 ≤ 10 by decide) (.cons (show 0 + 2 ≤ 2 by decide) .nil)))))
        · rw [if_neg h1622] at h
          by_cases h1664 : v_z1219.fKind = 0
          · rw [if_pos h1664] at h
            by_cases h1665 : 0 ≤ v_i1193.fA ∧ v_i1193.fA < (8 : Int)
            · rw [if_pos h1665] at h
              obtain ⟨v_y1271, h1666, h⟩ := bind_some h
              obtain ⟨v_r1272, h1667, h⟩ := bind_some h
              by_cases h1668 : v_i1193.fOp = 17
              · rw [if_pos h1668] at h
                obtain rfl := Option.some.inj h
                exact pendH_sound TTok mix 13 (hs := [.c, .t true, .c, .c, .c, .t true, .c, .l (.d (.v (.int .u32 v_y1271))), .h [2, 3] [] [.box [.d (.v (.int .u32 v_r1272.2.fAt)), .srf 2, .d (.v (.int .i64 v_r1272.2.fMay))], .none, .row 5 1 (v_r1272.2.fBytes.map (eI .u8))] (.d (.agg [.v (.int .i64 v_r1272.1.fKind), .v (.int .u32 v_r1272.1.fAddr)])), .c, .c, .t false, .c, .c, .c, .c, .c, .c, .c]) [2, 4, 85] (by kernel_rfl) (by kernel_rfl) (by kernel_rfl) (.cons (nt h1622) (.cons (bt h1664) (.cons h1665 (.cons (arr_cell (γ := FV) (sz := 1) (g := (fun x => [.d (.v (.int .u32 x))])) (pre := []) (post := [.d (.v (.int .u32 v_r1192.fPc)), .d (.v (.int .i64 v_r1192.fRing))]) (o := 0) (fun _ => rfl) h1666 rfl) (.cons (G_ringref5_Room_lay_h_ok n (S_ringref5_Room.mk v_z1216 v_z1218 v_z1217) v_at1195 v_y1271 _ h1667) (.cons (show 0 + 2 ≤ 2 by decide) (.cons (nf h1668) (.cons (show 0 + 10 ≤ 10 by decide) (.cons (show 0 + 2 ≤ 2 by decide) .nil)))))))))
              · rw [if_neg h1668] at h
                by_cases h1672 : v_r1272.1.fKind = 0
                · rw [if_pos h1672] at h
                  by_cases h1673 : 0 ≤ v_i1193.fA ∧ v_i1193.fA < (8 : Int)
                  · rw [if_pos h1673] at h
                    obtain ⟨v_y1274, h1674, h⟩ := bind_some h
                    obtain rfl := Option.some.inj h
                    exact pendH_sound TTok mix 13 (hs := [.c, .t true, .c, .c, .c, .t true, .c, .l (.d (.v (.int .u32 v_y1271))), .h [2, 3] [] [.box [.d (.v (.int .u32 v_r1272.2.fAt)), .srf 2, .d (.v (.int .i64 v_r1272.2.fMay))], .none, .row 5 1 (v_r1272.2.fBytes.map (eI .u8))] (.d (.agg [.v (.int .i64 v_r1272.1.fKind), .v (.int .u32 v_r1272.1.fAddr)])), .c, .c, .t true, .c, .c, .c, .t true, .c, .x ((cS_api_Regs (S_api_Regs.mk (setA v_r1192.fR v_i1193.fA v_z1215) v_r1192.fPc v_r1192.fRing)).map FV.d), .c, .c, .c, .c, .c]) [2, 4, 85] (by kernel_rfl) (by kernel_rfl) (by kernel_rfl) (.cons (nt h1622) (.cons (bt h1664) (.cons h1665 (.cons (arr_cell (γ := FV) (sz := 1) (g := (fun x => [.d (.v (.int .u32 x))])) (pre := []) (post := [.d (.v (.int .u32 v_r1192.fPc)), .d (.v (.int .i64 v_r1192.fRing))]) (o := 0) (fun _ => rfl) h1666 rfl) (.cons (G_ringref5_Room_lay_h_ok n (S_ringref5_Room.mk v_z1216 v_z1218 v_z1217) v_at1195 v_y1271 _ h1667) (.cons (show 0 + 2 ≤ 2 by decide) (.cons (nt h1668) (.cons (bt h1672) (.cons h1673 (.cons (arr_store (γ := FV) (sz := 1) (g := (fun x => [.d (.v (.int .u32 x))])) (pre := []) (post := [.d (.v (.int .u32 v_r1192.fPc)), .d (.v (.int .i64 v_r1192.fRing))]) (o := 0) (y := v_z1215) (zs := [.d (.v (.int .u32 v_z1215))]) (fun _ => rfl) h1674 rfl (Nat.le_of_ble_eq_true rfl)).1 (.cons (arr_store (γ := FV) (sz := 1) (g := (fun x => [.d (.v (.int .u32 x))])) (pre := []) (post := [.d (.v (.int .u32 v_r1192.fPc)), .d (.v (.int .i64 v_r1192.fRing))]) (o := 0) (y := v_z1215) (zs := [.d (.v (.int .u32 v_z1215))]) (fun _ => rfl) h1674 rfl (Nat.le_of_ble_eq_true rfl)).2 (.cons (show 0 + 10 ≤ 10 by decide) (.cons (show 0 + 2 ≤ 2 by decide) .nil)))))))))))))
                  · rw [if_neg h1673] at h; cases h
                · rw [if_neg h1672] at h
                  obtain rfl := Option.some.inj h
                  exact pendH_sound TTok mix 13 (hs := [.c, .t true, .c, .c, .c, .t true, .c, .l (.d (.v (.int .u32 v_y1271))), .h [2, 3] [] [.box [.d (.v (.int .u32 v_r1272.2.fAt)), .srf 2, .d (.v (.int .i64 v_r1272.2.fMay))], .none, .row 5 1 (v_r1272.2.fBytes.map (eI .u8))] (.d (.agg [.v (.int .i64 v_r1272.1.fKind), .v (.int .u32 v_r1272.1.fAddr)])), .c, .c, .t true, .c, .c, .c, .t false, .c, .c, .c, .c]) [2, 4, 85] (by kernel_rfl) (by kernel_rfl) (by kernel_rfl) (.cons (nt h1622) (.cons (bt h1664) (.cons h1665 (.cons (arr_cell (γ := FV) (sz := 1) (g := (fun x => [.d (.v (.int .u32 x))])) (pre := []) (post := [.d (.v (.int .u32 v_r1192.fPc)), .d (.v (.int .i64 v_r1192.fRing))]) (o := 0) (fun _ => rfl) h1666 rfl) (.cons (G_ringref5_Room_lay_h_ok n (S_ringref5_Room.mk v_z1216 v_z1218 v_z1217) v_at1195 v_y1271 _ h1667) (.cons (show 0 + 2 ≤ 2 by decide) (.cons (nt h1668) (.cons (bf h1672) (.cons (show 0 + 10 ≤ 10 by decide) (.cons (show 0 + 2 ≤ 2 by decide) .nil))))))))))
            · rw [if_neg h1665] at h; cases h
          · rw [if_neg h1664] at h
            by_cases h1675 : v_i1193.fOp = 17
            · rw [if_pos h1675] at h
              obtain rfl := Option.some.inj h
              exact pendH_sound TTok mix 13 (hs := [.c, .t true, .c, .c, .c, .t false, .c, .t false, .c, .c, .c, .c, .c, .c, .c]) [2, 4, 3] (by kernel_rfl) (by kernel_rfl) (by kernel_rfl) (.cons (nt h1622) (.cons (bf h1664) (.cons (nf h1675) (.cons (show 0 + 10 ≤ 10 by decide) (.cons (show 0 + 2 ≤ 2 by decide) .nil)))))
            · rw [if_neg h1675] at h
              obtain rfl := Option.some.inj h
              exact pendH_sound TTok mix 13 (hs := [.c, .t true, .c, .c, .c, .t false, .c, .t true, .c, .c, .c, .t false, .c, .c, .c, .c]) [2, 4, 3] (by kernel_rfl) (by kernel_rfl) (by kernel_rfl) (.cons (nt h1622) (.cons (bf h1664) (.cons (nt h1675) (.cons (bf h1664) (.cons (show 0 + 10 ≤ 10 by decide) (.cons (show 0 + 2 ≤ 2 by decide) .nil))))))
      | x1 v_z1278 v_z1279 =>
        try dsimp only at h
        by_cases h1686 : v_i1193.fOp = 15
        · rw [if_pos h1686] at h
          by_cases h1700 : v_i1193.fOp = 17
          · rw [if_pos h1700] at h
            obtain rfl := Option.some.inj h
            exact pendH_sound TTok mix 14 (hs := [.c, .t false, .c, .c, .c, .c, .t false, .c, .c, .c, .c, .c, .c, .c, .dl 1, .mv 3]) [2, 3, 109] (by kernel_rfl) (by kernel_rfl) (by kernel_rfl) (.cons (nf h1686) (.cons (nf h1700) (.cons (show 0 + 10 ≤ 10 by decide) (.cons (show 0 + 2 ≤ 2 by decide) .nil))))
          · rw [if_neg h1700] at h
            by_cases h1703 : 0 ≤ v_i1193.fA ∧ v_i1193.fA < (8 : Int)
            · rw [if_pos h1703] at h
              obtain ⟨v_y1287, h1704, h⟩ := bind_some h
              obtain rfl := Option.some.inj h
              exact pendH_sound TTok mix 14 (hs := [.c, .t false, .c, .c, .c, .c, .t true, .c, .c, .c, .c, .c, .x ((cS_api_Regs (S_api_Regs.mk (setA v_r1192.fR v_i1193.fA v_z1278) v_r1192.fPc v_r1192.fRing)).map FV.d), .c, .c, .c, .c, .c, .dl 1, .mv 3]) [2, 3, 139] (by kernel_rfl) (by kernel_rfl) (by kernel_rfl) (.cons (nf h1686) (.cons (nt h1700) (.cons h1703 (.cons (arr_store (γ := FV) (sz := 1) (g := (fun x => [.d (.v (.int .u32 x))])) (pre := []) (post := [.d (.v (.int .u32 v_r1192.fPc)), .d (.v (.int .i64 v_r1192.fRing))]) (o := 0) (y := v_z1278) (zs := [.d (.v (.int .u32 v_z1278))]) (fun _ => rfl) h1704 rfl (Nat.le_of_ble_eq_true rfl)).1 (.cons (arr_store (γ := FV) (sz := 1) (g := (fun x => [.d (.v (.int .u32 x))])) (pre := []) (post := [.d (.v (.int .u32 v_r1192.fPc)), .d (.v (.int .i64 v_r1192.fRing))]) (o := 0) (y := v_z1278) (zs := [.d (.v (.int .u32 v_z1278))]) (fun _ => rfl) h1704 rfl (Nat.le_of_ble_eq_true rfl)).2 (.cons (show 0 + 10 ≤ 10 by decide) (.cons (show 0 + 2 ≤ 2 by decide) .nil)))))))
            · rw [if_neg h1703] at h; cases h
        · rw [if_neg h1686] at h
          by_cases h1690 : 0 ≤ v_i1193.fA ∧ v_i1193.fA < (8 : Int)
          · rw [if_pos h1690] at h
            obtain ⟨v_y1282, h1691, h⟩ := bind_some h
            obtain ⟨v_r1283, h1692, h⟩ := bind_some h
            by_cases h1693 : v_i1193.fOp = 17
            · rw [if_pos h1693] at h
              obtain rfl := Option.some.inj h
              exact pendH_sound TTok mix 13 (hs := [.c, .t true, .c, .c, .c, .c, .c, .l (.d (.v (.int .u32 v_y1282))), .h [2, 3] [] [.box [.d (.v (.int .u32 v_r1283.2.fAt)), .srf 2, .d (.v (.int .i64 v_r1283.2.fMay))], .none, .row 5 1 (v_r1283.2.fBytes.map (eI .u8))] (.d (.agg [.v (.int .i64 v_r1283.1.fKind), .v (.int .u32 v_r1283.1.fAddr)])), .c, .c, .t false, .c, .c, .c, .c, .c, .c, .c]) [2, 3, 84] (by kernel_rfl) (by kernel_rfl) (by kernel_rfl) (.cons (nt h1686) (.cons h1690 (.cons (arr_cell (γ := FV) (sz := 1) (g := (fun x => [.d (.v (.int .u32 x))])) (pre := []) (post := [.d (.v (.int .u32 v_r1192.fPc)), .d (.v (.int .i64 v_r1192.fRing))]) (o := 0) (fun _ => rfl) h1691 rfl) (.cons (G_ringref5_Room_lay_h_ok n (S_ringref5_Room.mk v_m1194.fAt v_z1279 v_m1194.fMay) v_at1195 v_y1282 _ h1692) (.cons (show 0 + 2 ≤ 2 by decide) (.cons (nf h1693) (.cons (show 0 + 10 ≤ 10 by decide) (.cons (show 0 + 2 ≤ 2 by decide) .nil))))))))
            · rw [if_neg h1693] at h
              by_cases h1697 : v_r1283.1.fKind = 0
              · rw [if_pos h1697] at h
                by_cases h1698 : 0 ≤ v_i1193.fA ∧ v_i1193.fA < (8 : Int)
                · rw [if_pos h1698] at h
                  obtain ⟨v_y1285, h1699, h⟩ := bind_some h
                  obtain rfl := Option.some.inj h
                  exact pendH_sound TTok mix 13 (hs := [.c, .t true, .c, .c, .c, .c, .c, .l (.d (.v (.int .u32 v_y1282))), .h [2, 3] [] [.box [.d (.v (.int .u32 v_r1283.2.fAt)), .srf 2, .d (.v (.int .i64 v_r1283.2.fMay))], .none, .row 5 1 (v_r1283.2.fBytes.map (eI .u8))] (.d (.agg [.v (.int .i64 v_r1283.1.fKind), .v (.int .u32 v_r1283.1.fAddr)])), .c, .c, .t true, .c, .c, .c, .t true, .c, .x ((cS_api_Regs (S_api_Regs.mk (setA v_r1192.fR v_i1193.fA v_z1278) v_r1192.fPc v_r1192.fRing)).map FV.d), .c, .c, .c, .c, .c]) [2, 3, 84] (by kernel_rfl) (by kernel_rfl) (by kernel_rfl) (.cons (nt h1686) (.cons h1690 (.cons (arr_cell (γ := FV) (sz := 1) (g := (fun x => [.d (.v (.int .u32 x))])) (pre := []) (post := [.d (.v (.int .u32 v_r1192.fPc)), .d (.v (.int .i64 v_r1192.fRing))]) (o := 0) (fun _ => rfl) h1691 rfl) (.cons (G_ringref5_Room_lay_h_ok n (S_ringref5_Room.mk v_m1194.fAt v_z1279 v_m1194.fMay) v_at1195 v_y1282 _ h1692) (.cons (show 0 + 2 ≤ 2 by decide) (.cons (nt h1693) (.cons (bt h1697) (.cons h1698 (.cons (arr_store (γ := FV) (sz := 1) (g := (fun x => [.d (.v (.int .u32 x))])) (pre := []) (post := [.d (.v (.int .u32 v_r1192.fPc)), .d (.v (.int .i64 v_r1192.fRing))]) (o := 0) (y := v_z1278) (zs := [.d (.v (.int .u32 v_z1278))]) (fun _ => rfl) h1699 rfl (Nat.le_of_ble_eq_true rfl)).1 (.cons (arr_store (γ := FV) (sz := 1) (g := (fun x => [.d (.v (.int .u32 x))])) (pre := []) (post := [.d (.v (.int .u32 v_r1192.fPc)), .d (.v (.int .i64 v_r1192.fRing))]) (o := 0) (y := v_z1278) (zs := [.d (.v (.int .u32 v_z1278))]) (fun _ => rfl) h1699 rfl (Nat.le_of_ble_eq_true rfl)).2 (.cons (show 0 + 10 ≤ 10 by decide) (.cons (show 0 + 2 ≤ 2 by decide) .nil))))))))))))
                · rw [if_neg h1698] at h; cases h
              · rw [if_neg h1697] at h
                obtain rfl := Option.some.inj h
                exact pendH_sound TTok mix 13 (hs := [.c, .t true, .c, .c, .c, .c, .c, .l (.d (.v (.int .u32 v_y1282))), .h [2, 3] [] [.box [.d (.v (.int .u32 v_r1283.2.fAt)), .srf 2, .d (.v (.int .i64 v_r1283.2.fMay))], .none, .row 5 1 (v_r1283.2.fBytes.map (eI .u8))] (.d (.agg [.v (.int .i64 v_r1283.1.fKind), .v (.int .u32 v_r1283.1.fAddr)])), .c, .c, .t true, .c, .c, .c, .t false, .c, .c, .c, .c]) [2, 3, 84] (by kernel_rfl) (by kernel_rfl) (by kernel_rfl) (.cons (nt h1686) (.cons h1690 (.cons (arr_cell (γ := FV) (sz := 1) (g := (fun x => [.d (.v (.int .u32 x))])) (pre := []) (post := [.d (.v (.int .u32 v_r1192.fPc)), .d (.v (.int .i64 v_r1192.fRing))]) (o := 0) (fun _ => rfl) h1691 rfl) (.cons (G_ringref5_Room_lay_h_ok n (S_ringref5_Room.mk v_m1194.fAt v_z1279 v_m1194.fMay) v_at1195 v_y1282 _ h1692) (.cons (show 0 + 2 ≤ 2 by decide) (.cons (nt h1693) (.cons (bf h1697) (.cons (show 0 + 10 ≤ 10 by decide) (.cons (show 0 + 2 ≤ 2 by decide) .nil)))))))))
          · rw [if_neg h1690] at h; cases h
inductive G_ringref5_two_L1_R where
  | x0 (v_x1301 : Int)
def G_ringref5_two_L1_ex : G_ringref5_two_L1_R → Ex
  | .x0 _ => .exit 1
def G_ringref5_two_L1_st (v_b1295 : Int) : G_ringref5_two_L1_R → PS
  | .x0 v_x1301 => ⟨[dd, dd, dd, dd, dd, dd, dd, .d (.v (.int .u64 v_x1301)), dd, dd, dd, dd, dd, dd, dd, dd, dd, dd, dd, dd, dd, dd, dd, dd, dd, dd, dd, dd, dd, dd, dd, dd, dd, dd, dd, dd, dd, dd, dd, dd, dd, dd, dd, dd, dd, dd, dd, dd, dd, dd, dd, dd, dd, dd, dd, dd, dd, dd, dd, dd, dd, dd, dd, dd, dd, dd, dd, dd, dd, dd, dd, dd, dd, dd], []⟩
def G_ringref5_two_L1_hd (v_b1295 : Int) (v_x1298 : Int) (v_x1299 : Int) : PS := ⟨[dd, dd, dd, dd, dd, dd, dd, .d (.v (.int .u64 v_x1298)), dd, dd, dd, dd, dd, dd, dd, dd, dd, dd, dd, dd, dd, dd, dd, dd, dd, dd, dd, dd, dd, dd, dd, dd, dd, dd, dd, dd, dd, dd, dd, dd, dd, dd, dd, dd, dd, dd, dd, dd, dd, dd, dd, dd, dd, dd, dd, dd, dd, .d (.v (.int .u64 (remI (wi .u64 v_b1295) 32))), .d (.v (.int .u64 v_x1299)), dd, dd, dd, dd, dd, dd, dd, dd, dd, dd, dd, dd, dd, dd, dd], []⟩
def G_ringref5_two_L1 (n : Nat) (v_b1295 : Int) : Nat → Int → Int → Option G_ringref5_two_L1_R
  | 0, _, _ => none
  | k + 1, v_x1298, v_x1299 =>
    if v_x1299 < (remI (wi .u64 v_b1295) 32) then
     G_ringref5_two_L1 n v_b1295 k (wi .u64 (v_x1298 * 2)) (wi .u64 (v_x1299 + 1))
    else
     some (.x0 v_x1298)
theorem G_ringref5_two_L1_ok {Fi : Ex → PS → Prop} (hF : KC 74 Fi) (ks : List Fr) (n : Nat) (v_b1295 : Int)  : ∀ (k : Nat) (v_x1298 : Int) (v_x1299 : Int) (o : G_ringref5_two_L1_R), G_ringref5_two_L1 n v_b1295 k v_x1298 v_x1299 = some o → RunE Try.prog 74 Fi ks (G_ringref5_two_L1_ex o) (G_ringref5_two_L1_st v_b1295 o) → RunE Try.prog 74 Fi (.l k (cP (cB (cR (cT (cR (cF (cR (cF (cR (cF (cR (cF (cR (cF (cR (cF (cR (cF (cR (cB (cR (cL (cR (cR (bodyOf Try.f19))))))))))))))))))))))))) :: ks) .normal (G_ringref5_two_L1_hd v_b1295 v_x1298 v_x1299)
  | 0, v_x1298, v_x1299, o, h, q => by rw [G_ringref5_two_L1] at h; cases h
  | k + 1, v_x1298, v_x1299, o, h, q => by
    rw [G_ringref5_two_L1] at h
    by_cases h1734 : v_x1299 < (remI (wi .u64 v_b1295) 32)
    · rw [if_pos h1734] at h
      exact pkk_sound TTok mix hF 11 (hs := [.t true]) (ts := []) (s := []) (l := [7, 57, 58]) (by kernel_rfl) (by kernel_rfl) (.cons (dt h1734) .nil) (G_ringref5_two_L1_ok hF ks n v_b1295 k (wi .u64 (v_x1298 * 2)) (wi .u64 (v_x1299 + 1)) _ h q)
    · rw [if_neg h1734] at h
      cases h
      exact pkk_sound TTok mix hF 8 (hs := [.t false]) (ts := []) (s := []) (l := [7]) (by kernel_rfl) (by kernel_rfl) (.cons (df h1734) .nil) q
inductive G_ringref5_two_L2_R where
  | x0 (v_x1309 : Int)
def G_ringref5_two_L2_ex : G_ringref5_two_L2_R → Ex
  | .x0 _ => .exit 3
def G_ringref5_two_L2_st (v_b1295 : Int) : G_ringref5_two_L2_R → PS
  | .x0 v_x1309 => ⟨[dd, dd, dd, dd, dd, dd, dd, .d (.v (.int .u64 v_x1309)), dd, dd, dd, dd, dd, dd, dd, dd, dd, dd, dd, dd, dd, dd, dd, dd, dd, dd, dd, dd, dd, dd, dd, dd, dd, dd, dd, dd, dd, dd, dd, dd, dd, dd, dd, dd, dd, dd, dd, dd, dd, dd, dd, dd, dd, dd, dd, dd, dd, dd, dd, dd, dd, dd, dd, dd, dd, dd, dd, dd, dd, dd, dd, dd, dd, dd], []⟩
def G_ringref5_two_L2_hd (v_b1295 : Int) (v_x1306 : Int) (v_x1307 : Int) : PS := ⟨[dd, dd, dd, dd, dd, dd, dd, .d (.v (.int .u64 v_x1306)), dd, dd, dd, dd, dd, dd, dd, dd, dd, dd, dd, dd, dd, dd, dd, dd, dd, dd, dd, dd, dd, dd, dd, dd, dd, dd, dd, dd, dd, dd, dd, dd, dd, dd, dd, dd, dd, dd, dd, dd, dd, dd, dd, dd, dd, dd, dd, dd, dd, dd, dd, dd, dd, dd, dd, dd, dd, dd, .d (.v (.int .u64 (remI (wi .u64 v_b1295) 32))), .d (.v (.int .u64 v_x1307)), dd, dd, dd, dd, dd, dd], []⟩
def G_ringref5_two_L2 (n : Nat) (v_b1295 : Int) : Nat → Int → Int → Option G_ringref5_two_L2_R
  | 0, _, _ => none
  | k + 1, v_x1306, v_x1307 =>
    if v_x1307 < (remI (wi .u64 v_b1295) 32) then
     G_ringref5_two_L2 n v_b1295 k (quoI .u64 v_x1306 2) (wi .u64 (v_x1307 + 1))
    else
     some (.x0 v_x1306)
theorem G_ringref5_two_L2_ok {Fi : Ex → PS → Prop} (hF : KC 74 Fi) (ks : List Fr) (n : Nat) (v_b1295 : Int)  : ∀ (k : Nat) (v_x1306 : Int) (v_x1307 : Int) (o : G_ringref5_two_L2_R), G_ringref5_two_L2 n v_b1295 k v_x1306 v_x1307 = some o → RunE Try.prog 74 Fi ks (G_ringref5_two_L2_ex o) (G_ringref5_two_L2_st v_b1295 o) → RunE Try.prog 74 Fi (.l k (cP (cB (cR (cT (cR (cF (cR (cF (cR (cF (cR (cF (cR (cF (cR (cF (cR (cF (cR (cF (cR (cB (cR (cL (cR (cR (bodyOf Try.f19))))))))))))))))))))))))))) :: ks) .normal (G_ringref5_two_L2_hd v_b1295 v_x1306 v_x1307)
  | 0, v_x1306, v_x1307, o, h, q => by rw [G_ringref5_two_L2] at h; cases h
  | k + 1, v_x1306, v_x1307, o, h, q => by
    rw [G_ringref5_two_L2] at h
    by_cases h1738 : v_x1307 < (remI (wi .u64 v_b1295) 32)
    · rw [if_pos h1738] at h
      exact pkk_sound TTok mix hF 11 (hs := [.t true]) (ts := []) (s := []) (l := [7, 66, 67]) (by kernel_rfl) (by kernel_rfl) (.cons (dt h1738) (.cons (show (2 : Int) ≠ 0 by decide) .nil)) (G_ringref5_two_L2_ok hF ks n v_b1295 k (quoI .u64 v_x1306 2) (wi .u64 (v_x1307 + 1)) _ h q)
    · rw [if_neg h1738] at h
      cases h
      exact pkk_sound TTok mix hF 8 (hs := [.t false]) (ts := []) (s := []) (l := [7]) (by kernel_rfl) (by kernel_rfl) (.cons (df h1738) .nil) q
/- ringhall/ringref5.two -/
def G_ringref5_two (n : Nat) (v_op1293 : Int) (v_a1294 : Int) (v_b1295 : Int) : Option (Int) :=
  if v_op1293 = 5 then
   some (wi .u32 (wi .u64 ((wi .u64 v_a1294) + (wi .u64 v_b1295))))
  else
   if v_op1293 = 6 then
    some (wi .u32 (wi .u64 ((wi .u64 v_a1294) + (wi .u64 (4294967296 - (wi .u64 v_b1295))))))
   else
    if v_op1293 = 7 then
     some (wi .u32 (wi .u64 ((wi .u64 v_a1294) * (wi .u64 v_b1295))))
    else
     if v_op1293 = 8 then
      if (wi .u64 v_b1295) ≠ 0 then
       some (wi .u32 (quoI .u64 (wi .u64 v_a1294) (wi .u64 v_b1295)))
      else none
     else
      if v_op1293 = 9 then
       some (wi .u32 (bits .and .u64 (wi .u64 v_a1294) (wi .u64 v_b1295)))
      else
       if v_op1293 = 10 then
        some (wi .u32 (bits .or .u64 (wi .u64 v_a1294) (wi .u64 v_b1295)))
       else
        if v_op1293 = 11 then
         some (wi .u32 (wi .u64 ((bits .or .u64 (wi .u64 v_a1294) (wi .u64 v_b1295)) - (bits .and .u64 (wi .u64 v_a1294) (wi .u64 v_b1295)))))
        else
         if v_op1293 = 12 then
          (G_ringref5_two_L1 n v_b1295 n (wi .u64 v_a1294) 0).bind fun v_o1302 => match v_o1302 with
          | .x0 v_z1303 =>
            some (wi .u32 v_z1303)
         else
          if v_op1293 = 13 then
           (G_ringref5_two_L2 n v_b1295 n (wi .u64 v_a1294) 0).bind fun v_o1310 => match v_o1310 with
           | .x0 v_z1311 =>
             some (wi .u32 v_z1311)
          else
           some (wi .u32 (wi .u64 v_a1294))
theorem G_ringref5_two_ok (n : Nat) (v_op1293 : Int) (v_a1294 : Int) (v_b1295 : Int) (r : Int) (h : G_ringref5_two n v_op1293 v_a1294 v_b1295 = some r) : Ret Try.prog 19 [(eI .i64) v_op1293, (eI .u32) v_a1294, (eI .u32) v_b1295] ((eI .u32) r) := by
  refine ret_run (n := 74) (fn := Try.f19) (c := bodyOf Try.f19) (by kernel_rfl) (by kernel_rfl) (by kernel_rfl) (by kernel_rfl) ?_
  have hF : KC 74 (FinR Try.prog Try.f19 ((eI .u32) r)) := FinR.kc' (by kernel_rfl)
  unfold G_ringref5_two at h
  by_cases h1724 : v_op1293 = 5
  · rw [if_pos h1724] at h
    obtain rfl := Option.some.inj h
    exact pend_sound TTok mix 16 (hs := [.t true]) (by kernel_rfl) (by kernel_rfl) (by kernel_rfl) (.cons (bt h1724) .nil)
  · rw [if_neg h1724] at h
    by_cases h1725 : v_op1293 = 6
    · rw [if_pos h1725] at h
      obtain rfl := Option.some.inj h
      exact pend_sound TTok mix 19 (hs := [.t false, .t true]) (by kernel_rfl) (by kernel_rfl) (by kernel_rfl) (.cons (bf h1724) (.cons (bt h1725) .nil))
    · rw [if_neg h1725] at h
      by_cases h1726 : v_op1293 = 7
      · rw [if_pos h1726] at h
        obtain rfl := Option.some.inj h
        exact pend_sound TTok mix 22 (hs := [.t false, .t false, .t true]) (by kernel_rfl) (by kernel_rfl) (by kernel_rfl) (.cons (bf h1724) (.cons (bf h1725) (.cons (bt h1726) .nil)))
      · rw [if_neg h1726] at h
        by_cases h1727 : v_op1293 = 8
        · rw [if_pos h1727] at h
          by_cases h1728 : (wi .u64 v_b1295) ≠ 0
          · rw [if_pos h1728] at h
            obtain rfl := Option.some.inj h
            exact pend_sound TTok mix 25 (hs := [.t false, .t false, .t false, .t true]) (by kernel_rfl) (by kernel_rfl) (by kernel_rfl) (.cons (bf h1724) (.cons (bf h1725) (.cons (bf h1726) (.cons (bt h1727) (.cons h1728 .nil)))))
          · rw [if_neg h1728] at h; cases h
        · rw [if_neg h1727] at h
          by_cases h1729 : v_op1293 = 9
          · rw [if_pos h1729] at h
            obtain rfl := Option.some.inj h
            exact pend_sound TTok mix 28 (hs := [.t false, .t false, .t false, .t false, .t true]) (by kernel_rfl) (by kernel_rfl) (by kernel_rfl) (.cons (bf h1724) (.cons (bf h1725) (.cons (bf h1726) (.cons (bf h1727) (.cons (bt h1729) .nil)))))
          · rw [if_neg h1729] at h
            by_cases h1730 : v_op1293 = 10
            · rw [if_pos h1730] at h
              obtain rfl := Option.some.inj h
              exact pend_sound TTok mix 31 (hs := [.t false, .t false, .t false, .t false, .t false, .t true]) (by kernel_rfl) (by kernel_rfl) (by kernel_rfl) (.cons (bf h1724) (.cons (bf h1725) (.cons (bf h1726) (.cons (bf h1727) (.cons (bf h1729) (.cons (bt h1730) .nil))))))
            · rw [if_neg h1730] at h
              by_cases h1731 : v_op1293 = 11
              · rw [if_pos h1731] at h
                obtain rfl := Option.some.inj h
                exact pend_sound TTok mix 34 (hs := [.t false, .t false, .t false, .t false, .t false, .t false, .t true]) (by kernel_rfl) (by kernel_rfl) (by kernel_rfl) (.cons (bf h1724) (.cons (bf h1725) (.cons (bf h1726) (.cons (bf h1727) (.cons (bf h1729) (.cons (bf h1730) (.cons (bt h1731) .nil)))))))
              · rw [if_neg h1731] at h
                by_cases h1732 : v_op1293 = 12
                · rw [if_pos h1732] at h
                  obtain ⟨v_o1302, h1735, h⟩ := bind_some h
                  refine pkk_sound TTok mix hF 36 (hs := [.t false, .t false, .t false, .t false, .t false, .t false, .t false, .t true, .n n]) (ts := []) (s := []) (l := [7, 57, 58]) (by kernel_rfl) (by kernel_rfl) (.cons (bf h1724) (.cons (bf h1725) (.cons (bf h1726) (.cons (bf h1727) (.cons (bf h1729) (.cons (bf h1730) (.cons (bf h1731) (.cons (bt h1732) (.cons (show (32 : Int) ≠ 0 by decide) .nil))))))))) (G_ringref5_two_L1_ok hF (.b 1 :: .b 0 :: .s (cR (cR (cR (bodyOf Try.f19)))) :: []) n v_b1295 n (wi .u64 v_a1294) 0 _ h1735 ?_)
                  cases v_o1302 with
                  | x0 v_z1303 =>
                    try dsimp only at h
                    obtain rfl := Option.some.inj h
                    exact pend_sound TTok mix 5 (hs := []) (by kernel_rfl) (by kernel_rfl) (by kernel_rfl) .nil
                · rw [if_neg h1732] at h
                  by_cases h1736 : v_op1293 = 13
                  · rw [if_pos h1736] at h
                    obtain ⟨v_o1310, h1740, h⟩ := bind_some h
                    refine pkk_sound TTok mix hF 39 (hs := [.t false, .t false, .t false, .t false, .t false, .t false, .t false, .t false, .t true, .n n]) (ts := []) (s := []) (l := [7, 66, 67]) (by kernel_rfl) (by kernel_rfl) (.cons (bf h1724) (.cons (bf h1725) (.cons (bf h1726) (.cons (bf h1727) (.cons (bf h1729) (.cons (bf h1730) (.cons (bf h1731) (.cons (bf h1732) (.cons (bt h1736) (.cons (show (32 : Int) ≠ 0 by decide) .nil)))))))))) (G_ringref5_two_L2_ok hF (.b 3 :: .b 0 :: .s (cR (cR (cR (bodyOf Try.f19)))) :: []) n v_b1295 n (wi .u64 v_a1294) 0 _ h1740 ?_)
                    cases v_o1310 with
                    | x0 v_z1311 =>
                      try dsimp only at h
                      obtain rfl := Option.some.inj h
                      exact pend_sound TTok mix 5 (hs := []) (by kernel_rfl) (by kernel_rfl) (by kernel_rfl) .nil
                  · rw [if_neg h1736] at h
                    obtain rfl := Option.some.inj h
                    exact pend_sound TTok mix 40 (hs := [.t false, .t false, .t false, .t false, .t false, .t false, .t false, .t false, .t false]) (by kernel_rfl) (by kernel_rfl) (by kernel_rfl) (.cons (bf h1724) (.cons (bf h1725) (.cons (bf h1726) (.cons (bf h1727) (.cons (bf h1729) (.cons (bf h1730) (.cons (bf h1731) (.cons (bf h1732) (.cons (bf h1736) .nil)))))))))
inductive G_ringref5_StepOf_h_C1_R where
  | x0 (v_x1169 : Bool) (v_w1170 : (List Int))
def G_ringref5_StepOf_h_C1_ex : G_ringref5_StepOf_h_C1_R → Ex
  | .x0 _ _ => .normal
def G_ringref5_StepOf_h_C1_st (v_r1167 : (S_api_Ins × Int)) (v_r923 : (Int × S_api_Trap × S_ringref5_Room)) (v_r869 : S_api_Regs) : G_ringref5_StepOf_h_C1_R → PS
  | .x0 v_x1169 v_w1170 => ⟨[dd, .ref 2 0, .ref 5 0, dd, .ref 6 0, .ref 7 0, dd, .ref 8 0, .ref 9 0, dd, dd, dd, dd, dd, dd, dd, dd, dd, dd, dd, dd, dd, dd, dd, dd, dd, dd, dd, dd, dd, dd, dd, dd, dd, dd, dd, dd, dd, dd, dd, dd, dd, dd, dd, dd, dd, dd, dd, .d (.v (.bool v_x1169)), dd, dd, dd, dd, dd, dd, dd, dd, dd, dd, dd, dd, dd, dd, dd, dd, dd, dd, dd, dd, dd, dd, dd, dd, dd, dd, dd, dd, dd, dd, dd, dd, dd, dd, dd, dd, dd, dd, dd, dd, dd, dd, dd, dd, dd, dd, dd, dd, dd, dd, dd, dd, dd, dd, dd, dd, dd, dd, dd, dd, dd, dd, dd, dd, dd, dd, dd, dd, dd, dd, dd, dd, dd, dd, dd, dd, dd, dd, dd, dd, dd, dd, dd, dd, dd, dd, dd, dd, dd, dd, dd, dd, dd, dd, dd, dd, dd, dd, dd, dd, dd, dd, dd, dd, dd, dd, dd, dd, dd, dd, dd, dd, dd, dd, dd, dd, dd, dd, dd, dd, dd, dd, dd, dd, dd, dd, dd, dd, dd, dd, dd, dd, dd, dd, dd, dd, dd, dd, dd, dd, dd, dd, dd, dd, dd, dd, dd, dd, dd, dd, dd, dd, dd, dd, dd, dd, dd, dd, dd, dd, dd, dd, dd, dd, dd, dd, dd, dd, dd, dd, dd, dd, dd, dd, dd, dd, dd, dd], [.gh 0 (.ref 2 0), .gh 1 (.srf 4), .box [.d (.v (.int .u32 v_r923.2.2.fAt)), .srf 3, .d (.v (.int .i64 v_r923.2.2.fMay))], .row 5 1 (v_w1170.map (eI .u8)), .none, .box ((cS_api_Regs v_r869).map FV.d), .box ((cS_api_Regs (S_api_Regs.mk (fun (_ : Fin 8) => 0) 0 0)).map FV.d), .box [.d (.v (.int .i64 0)), .d (.v (.int .u32 0))], .box [.d (.v (.int .i64 v_r923.2.1.fKind)), .d (.v (.int .u32 v_r923.2.1.fAddr))], .box [.d (.v (.int .i64 v_r1167.1.fOp)), .d (.v (.int .i64 v_r1167.1.fA)), .d (.v (.int .i64 v_r1167.1.fB)), .d (.v (.int .i64 v_r1167.1.fC))]]⟩
def G_ringref5_StepOf_h_C1_hd (v_r1167 : (S_api_Ins × Int)) (v_r923 : (Int × S_api_Trap × S_ringref5_Room)) (v_r869 : S_api_Regs)  : PS := ⟨[dd, .ref 2 0, .ref 5 0, dd, .ref 6 0, .ref 7 0, dd, .ref 8 0, .ref 9 0, .d (.v (.int .i64 v_r1167.2)), dd, dd, dd, dd, dd, dd, dd, dd, dd, dd, dd, dd, dd, dd, dd, dd, dd, dd, dd, dd, dd, dd, dd, dd, dd, dd, dd, dd, dd, dd, dd, dd, dd, dd, dd, dd, dd, dd, dd, dd, dd, dd, dd, dd, dd, dd, dd, dd, dd, dd, dd, dd, dd, dd, dd, dd, dd, dd, dd, dd, dd, dd, dd, dd, dd, dd, dd, dd, dd, dd, dd, dd, dd, dd, dd, dd, dd, dd, dd, dd, dd, dd, dd, dd, dd, dd, dd, dd, dd, dd, dd, dd, dd, dd, dd, dd, dd, dd, dd, dd, dd, dd, dd, dd, dd, dd, dd, dd, dd, dd, dd, dd, dd, dd, dd, dd, dd, dd, dd, dd, dd, dd, dd, dd, dd, dd, dd, dd, dd, dd, dd, dd, dd, dd, dd, dd, dd, dd, dd, dd, dd, dd, dd, dd, dd, dd, dd, dd, dd, dd, dd, dd, dd, dd, dd, dd, dd, dd, dd, dd, dd, dd, dd, dd, dd, dd, dd, dd, dd, dd, dd, dd, dd, dd, dd, dd, dd, dd, dd, dd, dd, dd, dd, dd, dd, dd, dd, dd, dd, dd, dd, dd, dd, dd, dd, dd, dd, dd, dd, dd, dd, dd, dd, dd, dd, dd, dd, dd, dd, dd, dd, dd, dd, dd, dd, dd, dd], [.gh 0 (.ref 2 0), .gh 1 (.srf 4), .box [.d (.v (.int .u32 v_r923.2.2.fAt)), .srf 3, .d (.v (.int .i64 v_r923.2.2.fMay))], .row 5 1 (v_r923.2.2.fBytes.map (eI .u8)), .none, .box ((cS_api_Regs v_r869).map FV.d), .box ((cS_api_Regs (S_api_Regs.mk (fun (_ : Fin 8) => 0) 0 0)).map FV.d), .box [.d (.v (.int .i64 0)), .d (.v (.int .u32 0))], .box [.d (.v (.int .i64 v_r923.2.1.fKind)), .d (.v (.int .u32 v_r923.2.1.fAddr))], .box [.d (.v (.int .i64 v_r1167.1.fOp)), .d (.v (.int .i64 v_r1167.1.fA)), .d (.v (.int .i64 v_r1167.1.fB)), .d (.v (.int .i64 v_r1167.1.fC))]]⟩
def G_ringref5_StepOf_h_C1 (n : Nat) (v_r1167 : (S_api_Ins × Int)) (v_r923 : (Int × S_api_Trap × S_ringref5_Room)) (v_r869 : S_api_Regs) : Option G_ringref5_StepOf_h_C1_R :=
  if v_r1167.2 = 0 then
   if v_r869.fRing = 0 then
    some (.x0 false v_r923.2.2.fBytes)
   else
    if v_r1167.1.fOp = 1 then
     some (.x0 true v_r923.2.2.fBytes)
    else
     some (.x0 (v_r1167.1.fOp == 26) v_r923.2.2.fBytes)
  else
   some (.x0 true v_r923.2.2.fBytes)
theorem G_ringref5_StepOf_h_C1_ok {Fi : Ex → PS → Prop} (hF : KC 227 Fi) (ks : List Fr) (n : Nat) (v_r1167 : (S_api_Ins × Int)) (v_r923 : (Int × S_api_Trap × S_ringref5_Room)) (v_r869 : S_api_Regs)  (o : G_ringref5_StepOf_h_C1_R) (h : G_ringref5_StepOf_h_C1 n v_r1167 v_r923 v_r869 = some o) (q : RunE Try.prog 227 Fi ks (G_ringref5_StepOf_h_C1_ex o) (G_ringref5_StepOf_h_C1_st v_r1167 v_r923 v_r869 o)) : RunE Try.prog 227 Fi (.s (cL (cL (cR (cR (cR (cR (bodyOf Try.f8))))))) :: ks) .normal (G_ringref5_StepOf_h_C1_hd v_r1167 v_r923 v_r869) := by
  unfold G_ringref5_StepOf_h_C1 at h
  by_cases h1574 : v_r1167.2 = 0
  · rw [if_pos h1574] at h
    by_cases h1575 : v_r869.fRing = 0
    · rw [if_pos h1575] at h
      cases h
      exact pkk_sound TTok mix hF 1 (hs := [.t false, .c, .c, .c, .c, .t false, .c, .c, .c, .c, .c]) (ts := []) (s := [0, 1, 2, 3, 4, 5, 6, 7, 8, 9]) (l := [1, 2, 4, 5, 7, 8, 48]) (by kernel_rfl) (by kernel_rfl) (.cons (nf h1574) (.cons (nf h1575) .nil)) q
    · rw [if_neg h1575] at h
      by_cases h1576 : v_r1167.1.fOp = 1
      · rw [if_pos h1576] at h
        cases h
        exact pkk_sound TTok mix hF 1 (hs := [.t false, .c, .c, .c, .c, .t true, .c, .c, .c, .c, .t true, .c, .c, .c, .c]) (ts := []) (s := [0, 1, 2, 3, 4, 5, 6, 7, 8, 9]) (l := [1, 2, 4, 5, 7, 8, 48]) (by kernel_rfl) (by kernel_rfl) (.cons (nf h1574) (.cons (nt h1575) (.cons (bt h1576) .nil))) q
      · rw [if_neg h1576] at h
        cases h
        exact pkk_sound TTok mix hF 1 (hs := [.t false, .c, .c, .c, .c, .t true, .c, .c, .c, .c, .t false, .c, .c, .c, .c, .c]) (ts := []) (s := [0, 1, 2, 3, 4, 5, 6, 7, 8, 9]) (l := [1, 2, 4, 5, 7, 8, 48]) (by kernel_rfl) (by kernel_rfl) (.cons (nf h1574) (.cons (nt h1575) (.cons (bf h1576) .nil))) q
  · rw [if_neg h1574] at h
    cases h
    exact pkk_sound TTok mix hF 1 (hs := [.t true, .c, .c, .c, .c]) (ts := []) (s := [0, 1, 2, 3, 4, 5, 6, 7, 8, 9]) (l := [1, 2, 4, 5, 7, 8, 48]) (by kernel_rfl) (by kernel_rfl) (.cons (nt h1574) .nil) q
inductive G_ringref5_StepOf_h_C2_R where
  | x0 (v_x1183 : Bool) (v_w1184 : (List Int))
def G_ringref5_StepOf_h_C2_ex : G_ringref5_StepOf_h_C2_R → Ex
  | .x0 _ _ => .normal
def G_ringref5_StepOf_h_C2_st (v_r869 : S_api_Regs) (v_y1180 : Int) (v_y1181 : Int) (v_r1167 : (S_api_Ins × Int)) (v_r923 : (Int × S_api_Trap × S_ringref5_Room)) (v_z1179 : (List Int)) : G_ringref5_StepOf_h_C2_R → PS
  | .x0 v_x1183 v_w1184 => ⟨[dd, .ref 2 0, .ref 5 0, dd, .ref 6 0, .ref 7 0, dd, .ref 8 0, .ref 9 0, dd, .ref 10 0, .d (.v (.int .u32 v_r869.fPc)), .d (.v (.int .u32 v_y1180)), .d (.v (.int .u32 v_y1181)), .d (.v (.int .u32 (wi .u32 v_r1167.1.fC))), dd, dd, dd, dd, dd, dd, dd, dd, dd, dd, dd, dd, dd, dd, dd, dd, dd, dd, dd, dd, dd, dd, dd, dd, dd, dd, dd, dd, dd, dd, dd, dd, dd, dd, dd, dd, dd, dd, dd, dd, dd, dd, dd, dd, dd, dd, dd, dd, dd, dd, dd, dd, dd, dd, dd, dd, dd, dd, dd, dd, dd, dd, dd, dd, dd, dd, dd, dd, dd, dd, dd, dd, dd, dd, dd, dd, dd, .d (.v (.bool v_x1183)), dd, dd, dd, dd, dd, dd, dd, dd, dd, dd, dd, dd, dd, dd, dd, dd, dd, dd, dd, dd, dd, dd, dd, dd, dd, dd, dd, dd, dd, dd, dd, dd, dd, dd, dd, dd, dd, dd, dd, dd, dd, dd, dd, dd, dd, dd, dd, dd, dd, dd, dd, dd, dd, dd, dd, dd, dd, dd, dd, dd, dd, dd, dd, dd, dd, dd, dd, dd, dd, dd, dd, dd, dd, dd, dd, dd, dd, dd, dd, dd, dd, dd, dd, dd, dd, dd, dd, dd, dd, dd, dd, dd, dd, dd, dd, dd, dd, dd, dd, dd, dd, dd, dd, dd, dd, dd, dd, dd, dd, dd, dd, dd, dd, dd, dd, dd, dd, dd, dd, dd, dd, dd, dd, dd, dd, dd, dd, dd, dd, dd, dd, dd, dd, dd], [.gh 0 (.ref 2 0), .gh 1 (.srf 4), .box [.d (.v (.int .u32 v_r923.2.2.fAt)), .srf 3, .d (.v (.int .i64 v_r923.2.2.fMay))], .row 5 1 (v_w1184.map (eI .u8)), .none, .box ((cS_api_Regs (S_api_Regs.mk v_r869.fR (wi .u32 (v_r869.fPc + 4)) v_r869.fRing)).map FV.d), .box ((cS_api_Regs (S_api_Regs.mk (fun (_ : Fin 8) => 0) 0 0)).map FV.d), .box [.d (.v (.int .i64 0)), .d (.v (.int .u32 0))], .box [.d (.v (.int .i64 v_r923.2.1.fKind)), .d (.v (.int .u32 v_r923.2.1.fAddr))], .box [.d (.v (.int .i64 v_r1167.1.fOp)), .d (.v (.int .i64 v_r1167.1.fA)), .d (.v (.int .i64 v_r1167.1.fB)), .d (.v (.int .i64 v_r1167.1.fC))], .box ((cS_api_Regs v_r869).map FV.d)]⟩
def G_ringref5_StepOf_h_C2_hd (v_r869 : S_api_Regs) (v_y1180 : Int) (v_y1181 : Int) (v_r1167 : (S_api_Ins × Int)) (v_r923 : (Int × S_api_Trap × S_ringref5_Room)) (v_z1179 : (List Int))  : PS := ⟨[dd, .ref 2 0, .ref 5 0, dd, .ref 6 0, .ref 7 0, dd, .ref 8 0, .ref 9 0, dd, .ref 10 0, .d (.v (.int .u32 v_r869.fPc)), .d (.v (.int .u32 v_y1180)), .d (.v (.int .u32 v_y1181)), .d (.v (.int .u32 (wi .u32 v_r1167.1.fC))), dd, dd, dd, dd, dd, dd, dd, dd, dd, dd, dd, dd, dd, dd, dd, dd, dd, dd, dd, dd, dd, dd, dd, dd, dd, dd, dd, dd, dd, dd, dd, dd, dd, dd, dd, dd, dd, dd, dd, dd, dd, dd, dd, dd, dd, dd, dd, dd, dd, dd, dd, dd, dd, dd, dd, dd, dd, dd, dd, dd, dd, dd, dd, dd, dd, dd, dd, dd, dd, dd, dd, dd, dd, dd, dd, dd, dd, dd, dd, dd, dd, dd, dd, dd, dd, dd, dd, dd, dd, dd, dd, dd, dd, dd, dd, dd, dd, dd, dd, dd, dd, dd, dd, dd, dd, dd, dd, dd, dd, dd, dd, dd, dd, dd, dd, dd, dd, dd, dd, dd, dd, dd, dd, dd, dd, dd, dd, dd, dd, dd, dd, dd, dd, dd, dd, dd, dd, dd, dd, dd, dd, dd, dd, dd, dd, dd, dd, dd, dd, dd, dd, dd, dd, dd, dd, dd, dd, dd, dd, dd, dd, dd, dd, dd, dd, dd, dd, dd, dd, dd, dd, dd, dd, dd, dd, dd, dd, dd, dd, dd, dd, dd, dd, dd, dd, dd, dd, dd, dd, dd, dd, dd, dd, dd, dd, dd, dd, dd, dd, dd, dd, dd, dd, dd, dd, dd, dd, dd, dd, dd, dd, dd], [.gh 0 (.ref 2 0), .gh 1 (.srf 4), .box [.d (.v (.int .u32 v_r923.2.2.fAt)), .srf 3, .d (.v (.int .i64 v_r923.2.2.fMay))], .row 5 1 (v_z1179.map (eI .u8)), .none, .box ((cS_api_Regs (S_api_Regs.mk v_r869.fR (wi .u32 (v_r869.fPc + 4)) v_r869.fRing)).map FV.d), .box ((cS_api_Regs (S_api_Regs.mk (fun (_ : Fin 8) => 0) 0 0)).map FV.d), .box [.d (.v (.int .i64 0)), .d (.v (.int .u32 0))], .box [.d (.v (.int .i64 v_r923.2.1.fKind)), .d (.v (.int .u32 v_r923.2.1.fAddr))], .box [.d (.v (.int .i64 v_r1167.1.fOp)), .d (.v (.int .i64 v_r1167.1.fA)), .d (.v (.int .i64 v_r1167.1.fB)), .d (.v (.int .i64 v_r1167.1.fC))], .box ((cS_api_Regs v_r869).map FV.d)]⟩
def G_ringref5_StepOf_h_C2 (n : Nat) (v_r869 : S_api_Regs) (v_y1180 : Int) (v_y1181 : Int) (v_r1167 : (S_api_Ins × Int)) (v_r923 : (Int × S_api_Trap × S_ringref5_Room)) (v_z1179 : (List Int)) : Option G_ringref5_StepOf_h_C2_R :=
  if v_r1167.1.fOp ≥ 15 then
   if v_r1167.1.fOp ≤ 18 then
    some (.x0 true v_z1179)
   else
    some (.x0 (v_r1167.1.fOp == 25) v_z1179)
  else
   some (.x0 (v_r1167.1.fOp == 25) v_z1179)
theorem G_ringref5_StepOf_h_C2_ok {Fi : Ex → PS → Prop} (hF : KC 227 Fi) (ks : List Fr) (n : Nat) (v_r869 : S_api_Regs) (v_y1180 : Int) (v_y1181 : Int) (v_r1167 : (S_api_Ins × Int)) (v_r923 : (Int × S_api_Trap × S_ringref5_Room)) (v_z1179 : (List Int))  (o : G_ringref5_StepOf_h_C2_R) (h : G_ringref5_StepOf_h_C2 n v_r869 v_y1180 v_y1181 v_r1167 v_r923 v_z1179 = some o) (q : RunE Try.prog 227 Fi ks (G_ringref5_StepOf_h_C2_ex o) (G_ringref5_StepOf_h_C2_st v_r869 v_y1180 v_y1181 v_r1167 v_r923 v_z1179 o)) : RunE Try.prog 227 Fi (.s (cL (cL (cR (cR (cR (cR (cR (cR (cR (cR (cR (cR (bodyOf Try.f8))))))))))))) :: ks) .normal (G_ringref5_StepOf_h_C2_hd v_r869 v_y1180 v_y1181 v_r1167 v_r923 v_z1179) := by
  unfold G_ringref5_StepOf_h_C2 at h
  by_cases h1589 : v_r1167.1.fOp ≥ 15
  · rw [if_pos h1589] at h
    by_cases h1590 : v_r1167.1.fOp ≤ 18
    · rw [if_pos h1590] at h
      cases h
      exact pkk_sound TTok mix hF 1 (hs := [.c, .t true, .c, .c, .c, .t true, .c, .c]) (ts := []) (s := [0, 1, 2, 3, 4, 5, 6, 7, 8, 9, 10]) (l := [1, 2, 4, 5, 7, 8, 10, 11, 12, 13, 14, 92]) (by kernel_rfl) (by kernel_rfl) (.cons (dt h1589) (.cons (dt h1590) .nil)) q
    · rw [if_neg h1590] at h
      cases h
      exact pkk_sound TTok mix hF 1 (hs := [.c, .t true, .c, .c, .c, .t false, .c, .c, .c]) (ts := []) (s := [0, 1, 2, 3, 4, 5, 6, 7, 8, 9, 10]) (l := [1, 2, 4, 5, 7, 8, 10, 11, 12, 13, 14, 92]) (by kernel_rfl) (by kernel_rfl) (.cons (dt h1589) (.cons (df h1590) .nil)) q
  · rw [if_neg h1589] at h
    cases h
    exact pkk_sound TTok mix hF 1 (hs := [.c, .t false, .c, .c, .c, .c, .c, .c]) (ts := []) (s := [0, 1, 2, 3, 4, 5, 6, 7, 8, 9, 10]) (l := [1, 2, 4, 5, 7, 8, 10, 11, 12, 13, 14, 92]) (by kernel_rfl) (by kernel_rfl) (.cons (df h1589) .nil) q
inductive G_ringref5_StepOf_h_C3_R where
  | x0 (v_x1422 : Bool) (v_w1423 : (List Int))
def G_ringref5_StepOf_h_C3_ex : G_ringref5_StepOf_h_C3_R → Ex
  | .x0 _ _ => .normal
def G_ringref5_StepOf_h_C3_st (v_r869 : S_api_Regs) (v_y1180 : Int) (v_y1181 : Int) (v_r1167 : (S_api_Ins × Int)) (v_r923 : (Int × S_api_Trap × S_ringref5_Room)) (v_z1191 : (List Int)) : G_ringref5_StepOf_h_C3_R → PS
  | .x0 v_x1422 v_w1423 => ⟨[dd, dd, .ref 5 0, dd, .ref 6 0, .ref 7 0, dd, .ref 8 0, .ref 9 0, dd, dd, .d (.v (.int .u32 v_r869.fPc)), .d (.v (.int .u32 v_y1180)), dd, .d (.v (.int .u32 (wi .u32 v_r1167.1.fC))), dd, dd, dd, dd, dd, dd, dd, dd, dd, dd, dd, dd, dd, dd, dd, dd, dd, dd, dd, dd, dd, dd, dd, dd, dd, dd, dd, dd, dd, dd, dd, dd, dd, dd, dd, dd, dd, dd, dd, dd, dd, dd, dd, dd, dd, dd, dd, dd, dd, dd, dd, dd, dd, dd, dd, dd, dd, dd, dd, dd, dd, dd, dd, dd, dd, dd, dd, dd, dd, dd, dd, dd, dd, dd, dd, dd, dd, dd, dd, dd, dd, dd, dd, dd, dd, dd, dd, dd, dd, dd, dd, dd, dd, dd, dd, dd, dd, dd, dd, dd, dd, dd, dd, dd, dd, dd, dd, dd, dd, dd, dd, dd, dd, dd, dd, dd, dd, dd, dd, dd, dd, dd, dd, dd, dd, dd, dd, dd, dd, dd, dd, dd, dd, dd, dd, dd, dd, dd, dd, dd, dd, dd, dd, dd, dd, dd, dd, dd, dd, dd, dd, dd, dd, dd, dd, .d (.v (.bool v_x1422)), dd, dd, dd, dd, dd, dd, dd, dd, dd, dd, dd, dd, dd, dd, dd, dd, dd, dd, dd, dd, dd, dd, dd, dd, dd, dd, dd, dd, dd, dd, dd, dd, dd, dd, dd, dd, dd, dd, dd, dd, dd, dd, dd, dd, dd, dd, dd, dd, dd, dd, dd, dd, dd, dd, dd, dd], [.gh 0 (.ref 2 0), .gh 1 (.srf 4), .box [.d (.v (.int .u32 v_r923.2.2.fAt)), .srf 3, .d (.v (.int .i64 v_r923.2.2.fMay))], .row 5 1 (v_w1423.map (eI .u8)), .none, .box ((cS_api_Regs (S_api_Regs.mk v_r869.fR (wi .u32 (v_r869.fPc + 4)) v_r869.fRing)).map FV.d), .box ((cS_api_Regs (S_api_Regs.mk (fun (_ : Fin 8) => 0) 0 0)).map FV.d), .box [.d (.v (.int .i64 0)), .d (.v (.int .u32 0))], .box [.d (.v (.int .i64 v_r923.2.1.fKind)), .d (.v (.int .u32 v_r923.2.1.fAddr))], .box [.d (.v (.int .i64 v_r1167.1.fOp)), .d (.v (.int .i64 v_r1167.1.fA)), .d (.v (.int .i64 v_r1167.1.fB)), .d (.v (.int .i64 v_r1167.1.fC))]]⟩
def G_ringref5_StepOf_h_C3_hd (v_r869 : S_api_Regs) (v_y1180 : Int) (v_y1181 : Int) (v_r1167 : (S_api_Ins × Int)) (v_r923 : (Int × S_api_Trap × S_ringref5_Room)) (v_z1191 : (List Int))  : PS := ⟨[dd, dd, .ref 5 0, dd, .ref 6 0, .ref 7 0, dd, .ref 8 0, .ref 9 0, dd, dd, .d (.v (.int .u32 v_r869.fPc)), .d (.v (.int .u32 v_y1180)), .d (.v (.int .u32 v_y1181)), .d (.v (.int .u32 (wi .u32 v_r1167.1.fC))), dd, dd, dd, dd, dd, dd, dd, dd, dd, dd, dd, dd, dd, dd, dd, dd, dd, dd, dd, dd, dd, dd, dd, dd, dd, dd, dd, dd, dd, dd, dd, dd, dd, dd, dd, dd, dd, dd, dd, dd, dd, dd, dd, dd, dd, dd, dd, dd, dd, dd, dd, dd, dd, dd, dd, dd, dd, dd, dd, dd, dd, dd, dd, dd, dd, dd, dd, dd, dd, dd, dd, dd, dd, dd, dd, dd, dd, dd, dd, dd, dd, dd, dd, dd, dd, dd, dd, dd, dd, dd, dd, dd, dd, dd, dd, dd, dd, dd, dd, dd, dd, dd, dd, dd, dd, dd, dd, dd, dd, dd, dd, dd, dd, dd, dd, dd, dd, dd, dd, dd, dd, dd, dd, dd, dd, dd, dd, dd, dd, dd, dd, dd, dd, dd, dd, dd, dd, dd, dd, dd, dd, dd, dd, dd, dd, dd, dd, dd, dd, dd, dd, dd, dd, dd, dd, .d (.v (.bool (v_r1167.1.fOp == 19))), dd, dd, dd, dd, dd, dd, dd, dd, dd, dd, dd, dd, dd, dd, dd, dd, dd, dd, dd, dd, dd, dd, dd, dd, dd, dd, dd, dd, dd, dd, dd, dd, dd, dd, dd, dd, dd, dd, dd, dd, dd, dd, dd, dd, dd, dd, dd, dd, dd, dd, dd, dd, dd, dd, dd, dd], [.gh 0 (.ref 2 0), .gh 1 (.srf 4), .box [.d (.v (.int .u32 v_r923.2.2.fAt)), .srf 3, .d (.v (.int .i64 v_r923.2.2.fMay))], .row 5 1 (v_z1191.map (eI .u8)), .none, .box ((cS_api_Regs (S_api_Regs.mk v_r869.fR (wi .u32 (v_r869.fPc + 4)) v_r869.fRing)).map FV.d), .box ((cS_api_Regs (S_api_Regs.mk (fun (_ : Fin 8) => 0) 0 0)).map FV.d), .box [.d (.v (.int .i64 0)), .d (.v (.int .u32 0))], .box [.d (.v (.int .i64 v_r923.2.1.fKind)), .d (.v (.int .u32 v_r923.2.1.fAddr))], .box [.d (.v (.int .i64 v_r1167.1.fOp)), .d (.v (.int .i64 v_r1167.1.fA)), .d (.v (.int .i64 v_r1167.1.fB)), .d (.v (.int .i64 v_r1167.1.fC))]]⟩
def G_ringref5_StepOf_h_C3 (n : Nat) (v_r869 : S_api_Regs) (v_y1180 : Int) (v_y1181 : Int) (v_r1167 : (S_api_Ins × Int)) (v_r923 : (Int × S_api_Trap × S_ringref5_Room)) (v_z1191 : (List Int)) : Option G_ringref5_StepOf_h_C3_R :=
  if v_r1167.1.fOp = 19 then
   some (.x0 true v_z1191)
  else
   if v_r1167.1.fOp = 20 then
    if v_y1180 = 0 then
     some (.x0 true v_z1191)
    else
     if v_r1167.1.fOp = 21 then
      some (.x0 (decide (v_y1180 < v_y1181)) v_z1191)
     else
      some (.x0 false v_z1191)
   else
    if v_r1167.1.fOp = 21 then
     some (.x0 (decide (v_y1180 < v_y1181)) v_z1191)
    else
     some (.x0 false v_z1191)
theorem G_ringref5_StepOf_h_C3_ok {Fi : Ex → PS → Prop} (hF : KC 227 Fi) (ks : List Fr) (n : Nat) (v_r869 : S_api_Regs) (v_y1180 : Int) (v_y1181 : Int) (v_r1167 : (S_api_Ins × Int)) (v_r923 : (Int × S_api_Trap × S_ringref5_Room)) (v_z1191 : (List Int))  (o : G_ringref5_StepOf_h_C3_R) (h : G_ringref5_StepOf_h_C3 n v_r869 v_y1180 v_y1181 v_r1167 v_r923 v_z1191 = some o) (q : RunE Try.prog 227 Fi ks (G_ringref5_StepOf_h_C3_ex o) (G_ringref5_StepOf_h_C3_st v_r869 v_y1180 v_y1181 v_r1167 v_r923 v_z1191 o)) : RunE Try.prog 227 Fi (.s (cR (cL (cF (cR (cF (cR (cF (cR (cF (cR (cF (cR (cF (cR (cB (cL (cR (cR (cR (cR (cR (cR (cR (cR (cR (cR (cR (bodyOf Try.f8)))))))))))))))))))))))))))) :: ks) .normal (G_ringref5_StepOf_h_C3_hd v_r869 v_y1180 v_y1181 v_r1167 v_r923 v_z1191) := by
  unfold G_ringref5_StepOf_h_C3 at h
  by_cases h1861 : v_r1167.1.fOp = 19
  · rw [if_pos h1861] at h
    cases h
    exact pkk_sound TTok mix hF 2 (hs := [.t true]) (ts := []) (s := [0, 1, 2, 3, 4, 5, 6, 7, 8, 9]) (l := [2, 4, 5, 7, 8, 11, 12, 14, 170]) (by kernel_rfl) (by kernel_rfl) (.cons (bt h1861) .nil) q
  · rw [if_neg h1861] at h
    by_cases h1862 : v_r1167.1.fOp = 20
    · rw [if_pos h1862] at h
      by_cases h1863 : v_y1180 = 0
      · rw [if_pos h1863] at h
        cases h
        exact pkk_sound TTok mix hF 5 (hs := [.t false, .c, .t true, .c, .t true]) (ts := []) (s := [0, 1, 2, 3, 4, 5, 6, 7, 8, 9]) (l := [2, 4, 5, 7, 8, 11, 12, 14, 170]) (by kernel_rfl) (by kernel_rfl) (.cons (bf h1861) (.cons (bt h1862) (.cons (bt h1863) .nil))) q
      · rw [if_neg h1863] at h
        by_cases h1864 : v_r1167.1.fOp = 21
        · rw [if_pos h1864] at h
          cases h
          exact pkk_sound TTok mix hF 5 (hs := [.t false, .c, .t true, .c, .t false, .c, .t true, .c, .c]) (ts := []) (s := [0, 1, 2, 3, 4, 5, 6, 7, 8, 9]) (l := [2, 4, 5, 7, 8, 11, 12, 14, 170]) (by kernel_rfl) (by kernel_rfl) (.cons (bf h1861) (.cons (bt h1862) (.cons (bf h1863) (.cons (bt h1864) .nil)))) q
        · rw [if_neg h1864] at h
          cases h
          exact pkk_sound TTok mix hF 5 (hs := [.t false, .c, .t true, .c, .t false, .c, .t false, .c, .c]) (ts := []) (s := [0, 1, 2, 3, 4, 5, 6, 7, 8, 9]) (l := [2, 4, 5, 7, 8, 11, 12, 14, 170]) (by kernel_rfl) (by kernel_rfl) (.cons (bf h1861) (.cons (bt h1862) (.cons (bf h1863) (.cons (bf h1864) .nil)))) q
    · rw [if_neg h1862] at h
      by_cases h1865 : v_r1167.1.fOp = 21
      · rw [if_pos h1865] at h
        cases h
        exact pkk_sound TTok mix hF 5 (hs := [.t false, .c, .t false, .c, .c, .c, .t true, .c, .c]) (ts := []) (s := [0, 1, 2, 3, 4, 5, 6, 7, 8, 9]) (l := [2, 4, 5, 7, 8, 11, 12, 14, 170]) (by kernel_rfl) (by kernel_rfl) (.cons (bf h1861) (.cons (bf h1862) (.cons (bt h1865) .nil))) q
      · rw [if_neg h1865] at h
        cases h
        exact pkk_sound TTok mix hF 5 (hs := [.t false, .c, .t false, .c, .c, .c, .t false, .c, .c]) (ts := []) (s := [0, 1, 2, 3, 4, 5, 6, 7, 8, 9]) (l := [2, 4, 5, 7, 8, 11, 12, 14, 170]) (by kernel_rfl) (by kernel_rfl) (.cons (bf h1861) (.cons (bf h1862) (.cons (bf h1865) .nil))) q
inductive G_ringref5_StepOf_h_C4_R where
  | x0 (v_w1408 : (List Int))
  | x1 (v_w1410 : (List Int))
  | x2 (v_w1412 : (List Int))
  | x3 (v_w1414 : (List Int))
  | x4 (v_w1417 : (List Int)) (v_b1418 : S_api_Regs)
  | x5 (v_w1420 : (List Int))
  | x6 (v_w1437 : (List Int))
  | x7 (v_w1439 : (List Int))
  | x8 (v_w1440 : (List Int))
  | x9 (v_w1441 : (List Int))
  | x10 (v_w1442 : (List Int))
  | x11 (v_w1443 : (List Int))
def G_ringref5_StepOf_h_C4_ex : G_ringref5_StepOf_h_C4_R → Ex
  | .x0 _ => .normal
  | .x1 _ => .normal
  | .x2 _ => .normal
  | .x3 _ => .normal
  | .x4 _ _ => .normal
  | .x5 _ => .normal
  | .x6 _ => .normal
  | .x7 _ => .normal
  | .x8 _ => .normal
  | .x9 _ => .normal
  | .x10 _ => .normal
  | .x11 _ => .normal
def G_ringref5_StepOf_h_C4_st (v_r869 : S_api_Regs) (v_y1180 : Int) (v_y1181 : Int) (v_r1167 : (S_api_Ins × Int)) (v_r923 : (Int × S_api_Trap × S_ringref5_Room)) (v_z1191 : (List Int)) : G_ringref5_StepOf_h_C4_R → PS
  | .x0 v_w1408 => ⟨[dd, dd, .ref 5 0, dd, .ref 6 0, .ref 7 0, dd, .ref 8 0, dd, dd, dd, dd, dd, dd, dd, dd, dd, dd, dd, dd, dd, dd, dd, dd, dd, dd, dd, dd, dd, dd, dd, dd, dd, dd, dd, dd, dd, dd, dd, dd, dd, dd, dd, dd, dd, dd, dd, dd, dd, dd, dd, dd, dd, dd, dd, dd, dd, dd, dd, dd, dd, dd, dd, dd, dd, dd, dd, dd, dd, dd, dd, dd, dd, dd, dd, dd, dd, dd, dd, dd, dd, dd, dd, dd, dd, dd, dd, dd, dd, dd, dd, dd, dd, dd, dd, dd, dd, dd, dd, dd, dd, dd, dd, dd, dd, dd, dd, dd, dd, dd, dd, dd, dd, dd, dd, dd, dd, dd, dd, dd, dd, dd, dd, dd, dd, dd, dd, dd, dd, dd, dd, dd, dd, dd, dd, dd, dd, dd, dd, dd, dd, dd, dd, dd, dd, dd, dd, dd, dd, dd, dd, dd, dd, dd, dd, dd, dd, dd, dd, dd, dd, dd, dd, dd, dd, dd, dd, dd, dd, dd, dd, dd, dd, dd, dd, dd, dd, dd, dd, dd, dd, dd, dd, dd, dd, dd, dd, dd, dd, dd, dd, dd, dd, dd, dd, dd, dd, dd, dd, dd, dd, dd, dd, dd, dd, dd, dd, dd, dd, dd, dd, dd, dd, dd, dd, dd, dd, dd, dd, dd, dd, dd, dd, dd, dd, dd, dd], [.gh 0 (.ref 2 0), .gh 1 (.srf 4), .box [.d (.v (.int .u32 v_r923.2.2.fAt)), .srf 3, .d (.v (.int .i64 v_r923.2.2.fMay))], .row 5 1 (v_w1408.map (eI .u8)), .none, .box ((cS_api_Regs (S_api_Regs.mk v_r869.fR (wi .u32 (v_r869.fPc + 4)) v_r869.fRing)).map FV.d), .box ((cS_api_Regs (S_api_Regs.mk (fun (_ : Fin 8) => 0) 0 0)).map FV.d), .box [.d (.v (.int .i64 0)), .d (.v (.int .u32 0))], .box [.d (.v (.int .i64 5)), .d (.v (.int .u32 v_r923.2.1.fAddr))]]⟩
  | .x1 v_w1410 => ⟨[dd, dd, .ref 5 0, dd, .ref 6 0, .ref 7 0, dd, .ref 8 0, dd, dd, dd, dd, dd, dd, dd, dd, dd, dd, dd, dd, dd, dd, dd, dd, dd, dd, dd, dd, dd, dd, dd, dd, dd, dd, dd, dd, dd, dd, dd, dd, dd, dd, dd, dd, dd, dd, dd, dd, dd, dd, dd, dd, dd, dd, dd, dd, dd, dd, dd, dd, dd, dd, dd, dd, dd, dd, dd, dd, dd, dd, dd, dd, dd, dd, dd, dd, dd, dd, dd, dd, dd, dd, dd, dd, dd, dd, dd, dd, dd, dd, dd, dd, dd, dd, dd, dd, dd, dd, dd, dd, dd, dd, dd, dd, dd, dd, dd, dd, dd, dd, dd, dd, dd, dd, dd, dd, dd, dd, dd, dd, dd, dd, dd, dd, dd, dd, dd, dd, dd, dd, dd, dd, dd, dd, dd, dd, dd, dd, dd, dd, dd, dd, dd, dd, dd, dd, dd, dd, dd, dd, dd, dd, dd, dd, dd, dd, dd, dd, dd, dd, dd, dd, dd, dd, dd, dd, dd, dd, dd, dd, dd, dd, dd, dd, dd, dd, dd, dd, dd, dd, dd, dd, dd, dd, dd, dd, dd, dd, dd, dd, dd, dd, dd, dd, dd, dd, dd, dd, dd, dd, dd, dd, dd, dd, dd, dd, dd, dd, dd, dd, dd, dd, dd, dd, dd, dd, dd, dd, dd, dd, dd, dd, dd, dd, dd, dd, dd], [.gh 0 (.ref 2 0), .gh 1 (.srf 4), .box [.d (.v (.int .u32 v_r923.2.2.fAt)), .srf 3, .d (.v (.int .i64 v_r923.2.2.fMay))], .row 5 1 (v_w1410.map (eI .u8)), .none, .box ((cS_api_Regs (S_api_Regs.mk (setA v_r869.fR v_r1167.1.fA (wi .u32 v_r1167.1.fC)) (wi .u32 (v_r869.fPc + 4)) v_r869.fRing)).map FV.d), .box ((cS_api_Regs (S_api_Regs.mk (fun (_ : Fin 8) => 0) 0 0)).map FV.d), .box [.d (.v (.int .i64 0)), .d (.v (.int .u32 0))], .box [.d (.v (.int .i64 v_r923.2.1.fKind)), .d (.v (.int .u32 v_r923.2.1.fAddr))]]⟩
  | .x2 v_w1412 => ⟨[dd, dd, .ref 5 0, dd, .ref 6 0, .ref 7 0, dd, .ref 8 0, dd, dd, dd, dd, dd, dd, dd, dd, dd, dd, dd, dd, dd, dd, dd, dd, dd, dd, dd, dd, dd, dd, dd, dd, dd, dd, dd, dd, dd, dd, dd, dd, dd, dd, dd, dd, dd, dd, dd, dd, dd, dd, dd, dd, dd, dd, dd, dd, dd, dd, dd, dd, dd, dd, dd, dd, dd, dd, dd, dd, dd, dd, dd, dd, dd, dd, dd, dd, dd, dd, dd, dd, dd, dd, dd, dd, dd, dd, dd, dd, dd, dd, dd, dd, dd, dd, dd, dd, dd, dd, dd, dd, dd, dd, dd, dd, dd, dd, dd, dd, dd, dd, dd, dd, dd, dd, dd, dd, dd, dd, dd, dd, dd, dd, dd, dd, dd, dd, dd, dd, dd, dd, dd, dd, dd, dd, dd, dd, dd, dd, dd, dd, dd, dd, dd, dd, dd, dd, dd, dd, dd, dd, dd, dd, dd, dd, dd, dd, dd, dd, dd, dd, dd, dd, dd, dd, dd, dd, dd, dd, dd, dd, dd, dd, dd, dd, dd, dd, dd, dd, dd, dd, dd, dd, dd, dd, dd, dd, dd, dd, dd, dd, dd, dd, dd, dd, dd, dd, dd, dd, dd, dd, dd, dd, dd, dd, dd, dd, dd, dd, dd, dd, dd, dd, dd, dd, dd, dd, dd, dd, dd, dd, dd, dd, dd, dd, dd, dd, dd], [.gh 0 (.ref 2 0), .gh 1 (.srf 4), .box [.d (.v (.int .u32 v_r923.2.2.fAt)), .srf 3, .d (.v (.int .i64 v_r923.2.2.fMay))], .row 5 1 (v_w1412.map (eI .u8)), .none, .box ((cS_api_Regs (S_api_Regs.mk (setA v_r869.fR v_r1167.1.fA (wi .u32 ((shlI .u32 v_y1180 16) + (bits .and .u32 (wi .u32 v_r1167.1.fC) 65535)))) (wi .u32 (v_r869.fPc + 4)) v_r869.fRing)).map FV.d), .box ((cS_api_Regs (S_api_Regs.mk (fun (_ : Fin 8) => 0) 0 0)).map FV.d), .box [.d (.v (.int .i64 0)), .d (.v (.int .u32 0))], .box [.d (.v (.int .i64 v_r923.2.1.fKind)), .d (.v (.int .u32 v_r923.2.1.fAddr))]]⟩
  | .x3 v_w1414 => ⟨[dd, dd, .ref 5 0, dd, .ref 6 0, .ref 7 0, dd, .ref 8 0, dd, dd, dd, dd, dd, dd, dd, dd, dd, dd, dd, dd, dd, dd, dd, dd, dd, dd, dd, dd, dd, dd, dd, dd, dd, dd, dd, dd, dd, dd, dd, dd, dd, dd, dd, dd, dd, dd, dd, dd, dd, dd, dd, dd, dd, dd, dd, dd, dd, dd, dd, dd, dd, dd, dd, dd, dd, dd, dd, dd, dd, dd, dd, dd, dd, dd, dd, dd, dd, dd, dd, dd, dd, dd, dd, dd, dd, dd, dd, dd, dd, dd, dd, dd, dd, dd, dd, dd, dd, dd, dd, dd, dd, dd, dd, dd, dd, dd, dd, dd, dd, dd, dd, dd, dd, dd, dd, dd, dd, dd, dd, dd, dd, dd, dd, dd, dd, dd, dd, dd, dd, dd, dd, dd, dd, dd, dd, dd, dd, dd, dd, dd, dd, dd, dd, dd, dd, dd, dd, dd, dd, dd, dd, dd, dd, dd, dd, dd, dd, dd, dd, dd, dd, dd, dd, dd, dd, dd, dd, dd, dd, dd, dd, dd, dd, dd, dd, dd, dd, dd, dd, dd, dd, dd, dd, dd, dd, dd, dd, dd, dd, dd, dd, dd, dd, dd, dd, dd, dd, dd, dd, dd, dd, dd, dd, dd, dd, dd, dd, dd, dd, dd, dd, dd, dd, dd, dd, dd, dd, dd, dd, dd, dd, dd, dd, dd, dd, dd, dd], [.gh 0 (.ref 2 0), .gh 1 (.srf 4), .box [.d (.v (.int .u32 v_r923.2.2.fAt)), .srf 3, .d (.v (.int .i64 v_r923.2.2.fMay))], .row 5 1 (v_w1414.map (eI .u8)), .none, .box ((cS_api_Regs (S_api_Regs.mk (setA v_r869.fR v_r1167.1.fA v_y1181) (wi .u32 (v_r869.fPc + 4)) v_r869.fRing)).map FV.d), .box ((cS_api_Regs (S_api_Regs.mk (fun (_ : Fin 8) => 0) 0 0)).map FV.d), .box [.d (.v (.int .i64 0)), .d (.v (.int .u32 0))], .box [.d (.v (.int .i64 v_r923.2.1.fKind)), .d (.v (.int .u32 v_r923.2.1.fAddr))]]⟩
  | .x4 v_w1417 v_b1418 => ⟨[dd, dd, .ref 5 0, dd, .ref 6 0, .ref 7 0, dd, .ref 8 0, dd, dd, dd, dd, dd, dd, dd, dd, dd, dd, dd, dd, dd, dd, dd, dd, dd, dd, dd, dd, dd, dd, dd, dd, dd, dd, dd, dd, dd, dd, dd, dd, dd, dd, dd, dd, dd, dd, dd, dd, dd, dd, dd, dd, dd, dd, dd, dd, dd, dd, dd, dd, dd, dd, dd, dd, dd, dd, dd, dd, dd, dd, dd, dd, dd, dd, dd, dd, dd, dd, dd, dd, dd, dd, dd, dd, dd, dd, dd, dd, dd, dd, dd, dd, dd, dd, dd, dd, dd, dd, dd, dd, dd, dd, dd, dd, dd, dd, dd, dd, dd, dd, dd, dd, dd, dd, dd, dd, dd, dd, dd, dd, dd, dd, dd, dd, dd, dd, dd, dd, dd, dd, dd, dd, dd, dd, dd, dd, dd, dd, dd, dd, dd, dd, dd, dd, dd, dd, dd, dd, dd, dd, dd, dd, dd, dd, dd, dd, dd, dd, dd, dd, dd, dd, dd, dd, dd, dd, dd, dd, dd, dd, dd, dd, dd, dd, dd, dd, dd, dd, dd, dd, dd, dd, dd, dd, dd, dd, dd, dd, dd, dd, dd, dd, dd, dd, dd, dd, dd, dd, dd, dd, dd, dd, dd, dd, dd, dd, dd, dd, dd, dd, dd, dd, dd, dd, dd, dd, dd, dd, dd, dd, dd, dd, dd, dd, dd, dd, dd], [.gh 0 (.ref 2 0), .gh 1 (.srf 4), .box [.d (.v (.int .u32 v_r923.2.2.fAt)), .srf 3, .d (.v (.int .i64 v_r923.2.2.fMay))], .row 5 1 (v_w1417.map (eI .u8)), .none, .box ((cS_api_Regs v_b1418).map FV.d), .box ((cS_api_Regs (S_api_Regs.mk (fun (_ : Fin 8) => 0) 0 0)).map FV.d), .box [.d (.v (.int .i64 0)), .d (.v (.int .u32 0))], .box [.d (.v (.int .i64 v_r923.2.1.fKind)), .d (.v (.int .u32 v_r923.2.1.fAddr))]]⟩
  | .x5 v_w1420 => ⟨[dd, dd, .ref 5 0, dd, .ref 6 0, .ref 7 0, dd, .ref 8 0, dd, dd, dd, dd, dd, dd, dd, dd, dd, dd, dd, dd, dd, dd, dd, dd, dd, dd, dd, dd, dd, dd, dd, dd, dd, dd, dd, dd, dd, dd, dd, dd, dd, dd, dd, dd, dd, dd, dd, dd, dd, dd, dd, dd, dd, dd, dd, dd, dd, dd, dd, dd, dd, dd, dd, dd, dd, dd, dd, dd, dd, dd, dd, dd, dd, dd, dd, dd, dd, dd, dd, dd, dd, dd, dd, dd, dd, dd, dd, dd, dd, dd, dd, dd, dd, dd, dd, dd, dd, dd, dd, dd, dd, dd, dd, dd, dd, dd, dd, dd, dd, dd, dd, dd, dd, dd, dd, dd, dd, dd, dd, dd, dd, dd, dd, dd, dd, dd, dd, dd, dd, dd, dd, dd, dd, dd, dd, dd, dd, dd, dd, dd, dd, dd, dd, dd, dd, dd, dd, dd, dd, dd, dd, dd, dd, dd, dd, dd, dd, dd, dd, dd, dd, dd, dd, dd, dd, dd, dd, dd, dd, dd, dd, dd, dd, dd, dd, dd, dd, dd, dd, dd, dd, dd, dd, dd, dd, dd, dd, dd, dd, dd, dd, dd, dd, dd, dd, dd, dd, dd, dd, dd, dd, dd, dd, dd, dd, dd, dd, dd, dd, dd, dd, dd, dd, dd, dd, dd, dd, dd, dd, dd, dd, dd, dd, dd, dd, dd, dd], [.gh 0 (.ref 2 0), .gh 1 (.srf 4), .box [.d (.v (.int .u32 v_r923.2.2.fAt)), .srf 3, .d (.v (.int .i64 v_r923.2.2.fMay))], .row 5 1 (v_w1420.map (eI .u8)), .none, .box ((cS_api_Regs (S_api_Regs.mk (setA v_r869.fR v_r1167.1.fA (wi .u32 (v_y1181 + (wi .u32 v_r1167.1.fC)))) (wi .u32 (v_r869.fPc + 4)) v_r869.fRing)).map FV.d), .box ((cS_api_Regs (S_api_Regs.mk (fun (_ : Fin 8) => 0) 0 0)).map FV.d), .box [.d (.v (.int .i64 0)), .d (.v (.int .u32 0))], .box [.d (.v (.int .i64 v_r923.2.1.fKind)), .d (.v (.int .u32 v_r923.2.1.fAddr))]]⟩
  | .x6 v_w1437 => ⟨[dd, dd, .ref 5 0, dd, .ref 6 0, .ref 7 0, dd, .ref 8 0, dd, dd, dd, dd, dd, dd, dd, dd, dd, dd, dd, dd, dd, dd, dd, dd, dd, dd, dd, dd, dd, dd, dd, dd, dd, dd, dd, dd, dd, dd, dd, dd, dd, dd, dd, dd, dd, dd, dd, dd, dd, dd, dd, dd, dd, dd, dd, dd, dd, dd, dd, dd, dd, dd, dd, dd, dd, dd, dd, dd, dd, dd, dd, dd, dd, dd, dd, dd, dd, dd, dd, dd, dd, dd, dd, dd, dd, dd, dd, dd, dd, dd, dd, dd, dd, dd, dd, dd, dd, dd, dd, dd, dd, dd, dd, dd, dd, dd, dd, dd, dd, dd, dd, dd, dd, dd, dd, dd, dd, dd, dd, dd, dd, dd, dd, dd, dd, dd, dd, dd, dd, dd, dd, dd, dd, dd, dd, dd, dd, dd, dd, dd, dd, dd, dd, dd, dd, dd, dd, dd, dd, dd, dd, dd, dd, dd, dd, dd, dd, dd, dd, dd, dd, dd, dd, dd, dd, dd, dd, dd, dd, dd, dd, dd, dd, dd, dd, dd, dd, dd, dd, dd, dd, dd, dd, dd, dd, dd, dd, dd, dd, dd, dd, dd, dd, dd, dd, dd, dd, dd, dd, dd, dd, dd, dd, dd, dd, dd, dd, dd, dd, dd, dd, dd, dd, dd, dd, dd, dd, dd, dd, dd, dd, dd, dd, dd, dd, dd, dd], [.gh 0 (.ref 2 0), .gh 1 (.srf 4), .box [.d (.v (.int .u32 v_r923.2.2.fAt)), .srf 3, .d (.v (.int .i64 v_r923.2.2.fMay))], .row 5 1 (v_w1437.map (eI .u8)), .none, .box ((cS_api_Regs (S_api_Regs.mk v_r869.fR (wi .u32 (v_r869.fPc + (wi .u32 v_r1167.1.fC))) v_r869.fRing)).map FV.d), .box ((cS_api_Regs (S_api_Regs.mk (fun (_ : Fin 8) => 0) 0 0)).map FV.d), .box [.d (.v (.int .i64 0)), .d (.v (.int .u32 0))], .box [.d (.v (.int .i64 v_r923.2.1.fKind)), .d (.v (.int .u32 v_r923.2.1.fAddr))]]⟩
  | .x7 v_w1439 => ⟨[dd, dd, .ref 5 0, dd, .ref 6 0, .ref 7 0, dd, .ref 8 0, dd, dd, dd, dd, dd, dd, dd, dd, dd, dd, dd, dd, dd, dd, dd, dd, dd, dd, dd, dd, dd, dd, dd, dd, dd, dd, dd, dd, dd, dd, dd, dd, dd, dd, dd, dd, dd, dd, dd, dd, dd, dd, dd, dd, dd, dd, dd, dd, dd, dd, dd, dd, dd, dd, dd, dd, dd, dd, dd, dd, dd, dd, dd, dd, dd, dd, dd, dd, dd, dd, dd, dd, dd, dd, dd, dd, dd, dd, dd, dd, dd, dd, dd, dd, dd, dd, dd, dd, dd, dd, dd, dd, dd, dd, dd, dd, dd, dd, dd, dd, dd, dd, dd, dd, dd, dd, dd, dd, dd, dd, dd, dd, dd, dd, dd, dd, dd, dd, dd, dd, dd, dd, dd, dd, dd, dd, dd, dd, dd, dd, dd, dd, dd, dd, dd, dd, dd, dd, dd, dd, dd, dd, dd, dd, dd, dd, dd, dd, dd, dd, dd, dd, dd, dd, dd, dd, dd, dd, dd, dd, dd, dd, dd, dd, dd, dd, dd, dd, dd, dd, dd, dd, dd, dd, dd, dd, dd, dd, dd, dd, dd, dd, dd, dd, dd, dd, dd, dd, dd, dd, dd, dd, dd, dd, dd, dd, dd, dd, dd, dd, dd, dd, dd, dd, dd, dd, dd, dd, dd, dd, dd, dd, dd, dd, dd, dd, dd, dd, dd], [.gh 0 (.ref 2 0), .gh 1 (.srf 4), .box [.d (.v (.int .u32 v_r923.2.2.fAt)), .srf 3, .d (.v (.int .i64 v_r923.2.2.fMay))], .row 5 1 (v_w1439.map (eI .u8)), .none, .box ((cS_api_Regs (S_api_Regs.mk (setA v_r869.fR v_r1167.1.fA (wi .u32 (v_r869.fPc + 4))) (wi .u32 (v_r869.fPc + (wi .u32 v_r1167.1.fC))) v_r869.fRing)).map FV.d), .box ((cS_api_Regs (S_api_Regs.mk (fun (_ : Fin 8) => 0) 0 0)).map FV.d), .box [.d (.v (.int .i64 0)), .d (.v (.int .u32 0))], .box [.d (.v (.int .i64 v_r923.2.1.fKind)), .d (.v (.int .u32 v_r923.2.1.fAddr))]]⟩
  | .x8 v_w1440 => ⟨[dd, dd, .ref 5 0, dd, .ref 6 0, .ref 7 0, dd, .ref 8 0, dd, dd, dd, dd, dd, dd, dd, dd, dd, dd, dd, dd, dd, dd, dd, dd, dd, dd, dd, dd, dd, dd, dd, dd, dd, dd, dd, dd, dd, dd, dd, dd, dd, dd, dd, dd, dd, dd, dd, dd, dd, dd, dd, dd, dd, dd, dd, dd, dd, dd, dd, dd, dd, dd, dd, dd, dd, dd, dd, dd, dd, dd, dd, dd, dd, dd, dd, dd, dd, dd, dd, dd, dd, dd, dd, dd, dd, dd, dd, dd, dd, dd, dd, dd, dd, dd, dd, dd, dd, dd, dd, dd, dd, dd, dd, dd, dd, dd, dd, dd, dd, dd, dd, dd, dd, dd, dd, dd, dd, dd, dd, dd, dd, dd, dd, dd, dd, dd, dd, dd, dd, dd, dd, dd, dd, dd, dd, dd, dd, dd, dd, dd, dd, dd, dd, dd, dd, dd, dd, dd, dd, dd, dd, dd, dd, dd, dd, dd, dd, dd, dd, dd, dd, dd, dd, dd, dd, dd, dd, dd, dd, dd, dd, dd, dd, dd, dd, dd, dd, dd, dd, dd, dd, dd, dd, dd, dd, dd, dd, dd, dd, dd, dd, dd, dd, dd, dd, dd, dd, dd, dd, dd, dd, dd, dd, dd, dd, dd, dd, dd, dd, dd, dd, dd, dd, dd, dd, dd, dd, dd, dd, dd, dd, dd, dd, dd, dd, dd, dd], [.gh 0 (.ref 2 0), .gh 1 (.srf 4), .box [.d (.v (.int .u32 v_r923.2.2.fAt)), .srf 3, .d (.v (.int .i64 v_r923.2.2.fMay))], .row 5 1 (v_w1440.map (eI .u8)), .none, .box ((cS_api_Regs (S_api_Regs.mk v_r869.fR v_y1180 v_r869.fRing)).map FV.d), .box ((cS_api_Regs (S_api_Regs.mk (fun (_ : Fin 8) => 0) 0 0)).map FV.d), .box [.d (.v (.int .i64 0)), .d (.v (.int .u32 0))], .box [.d (.v (.int .i64 v_r923.2.1.fKind)), .d (.v (.int .u32 v_r923.2.1.fAddr))]]⟩
  | .x9 v_w1441 => ⟨[dd, dd, .ref 5 0, dd, .ref 6 0, .ref 7 0, dd, .ref 8 0, dd, dd, dd, dd, dd, dd, dd, dd, dd, dd, dd, dd, dd, dd, dd, dd, dd, dd, dd, dd, dd, dd, dd, dd, dd, dd, dd, dd, dd, dd, dd, dd, dd, dd, dd, dd, dd, dd, dd, dd, dd, dd, dd, dd, dd, dd, dd, dd, dd, dd, dd, dd, dd, dd, dd, dd, dd, dd, dd, dd, dd, dd, dd, dd, dd, dd, dd, dd, dd, dd, dd, dd, dd, dd, dd, dd, dd, dd, dd, dd, dd, dd, dd, dd, dd, dd, dd, dd, dd, dd, dd, dd, dd, dd, dd, dd, dd, dd, dd, dd, dd, dd, dd, dd, dd, dd, dd, dd, dd, dd, dd, dd, dd, dd, dd, dd, dd, dd, dd, dd, dd, dd, dd, dd, dd, dd, dd, dd, dd, dd, dd, dd, dd, dd, dd, dd, dd, dd, dd, dd, dd, dd, dd, dd, dd, dd, dd, dd, dd, dd, dd, dd, dd, dd, dd, dd, dd, dd, dd, dd, dd, dd, dd, dd, dd, dd, dd, dd, dd, dd, dd, dd, dd, dd, dd, dd, dd, dd, dd, dd, dd, dd, dd, dd, dd, dd, dd, dd, dd, dd, dd, dd, dd, dd, dd, dd, dd, dd, dd, dd, dd, dd, dd, dd, dd, dd, dd, dd, dd, dd, dd, dd, dd, dd, dd, dd, dd, dd, dd], [.gh 0 (.ref 2 0), .gh 1 (.srf 4), .box [.d (.v (.int .u32 v_r923.2.2.fAt)), .srf 3, .d (.v (.int .i64 v_r923.2.2.fMay))], .row 5 1 (v_w1441.map (eI .u8)), .none, .box ((cS_api_Regs (S_api_Regs.mk v_r869.fR (wi .u32 (v_r869.fPc + 4)) v_r869.fRing)).map FV.d), .box ((cS_api_Regs (S_api_Regs.mk (fun (_ : Fin 8) => 0) 0 0)).map FV.d), .box [.d (.v (.int .i64 0)), .d (.v (.int .u32 0))], .box [.d (.v (.int .i64 1)), .d (.v (.int .u32 v_r923.2.1.fAddr))]]⟩
  | .x10 v_w1442 => ⟨[dd, dd, .ref 5 0, dd, .ref 6 0, .ref 7 0, dd, .ref 8 0, dd, dd, dd, dd, dd, dd, dd, dd, dd, dd, dd, dd, dd, dd, dd, dd, dd, dd, dd, dd, dd, dd, dd, dd, dd, dd, dd, dd, dd, dd, dd, dd, dd, dd, dd, dd, dd, dd, dd, dd, dd, dd, dd, dd, dd, dd, dd, dd, dd, dd, dd, dd, dd, dd, dd, dd, dd, dd, dd, dd, dd, dd, dd, dd, dd, dd, dd, dd, dd, dd, dd, dd, dd, dd, dd, dd, dd, dd, dd, dd, dd, dd, dd, dd, dd, dd, dd, dd, dd, dd, dd, dd, dd, dd, dd, dd, dd, dd, dd, dd, dd, dd, dd, dd, dd, dd, dd, dd, dd, dd, dd, dd, dd, dd, dd, dd, dd, dd, dd, dd, dd, dd, dd, dd, dd, dd, dd, dd, dd, dd, dd, dd, dd, dd, dd, dd, dd, dd, dd, dd, dd, dd, dd, dd, dd, dd, dd, dd, dd, dd, dd, dd, dd, dd, dd, dd, dd, dd, dd, dd, dd, dd, dd, dd, dd, dd, dd, dd, dd, dd, dd, dd, dd, dd, dd, dd, dd, dd, dd, dd, dd, dd, dd, dd, dd, dd, dd, dd, dd, dd, dd, dd, dd, dd, dd, dd, dd, dd, dd, dd, dd, dd, dd, dd, dd, dd, dd, dd, dd, dd, dd, dd, dd, dd, dd, dd, dd, dd, dd], [.gh 0 (.ref 2 0), .gh 1 (.srf 4), .box [.d (.v (.int .u32 v_r923.2.2.fAt)), .srf 3, .d (.v (.int .i64 v_r923.2.2.fMay))], .row 5 1 (v_w1442.map (eI .u8)), .none, .box ((cS_api_Regs (S_api_Regs.mk v_r869.fR v_y1180 1)).map FV.d), .box ((cS_api_Regs (S_api_Regs.mk (fun (_ : Fin 8) => 0) 0 0)).map FV.d), .box [.d (.v (.int .i64 0)), .d (.v (.int .u32 0))], .box [.d (.v (.int .i64 v_r923.2.1.fKind)), .d (.v (.int .u32 v_r923.2.1.fAddr))]]⟩
  | .x11 v_w1443 => ⟨[dd, dd, .ref 5 0, dd, .ref 6 0, .ref 7 0, dd, .ref 8 0, dd, dd, dd, dd, dd, dd, dd, dd, dd, dd, dd, dd, dd, dd, dd, dd, dd, dd, dd, dd, dd, dd, dd, dd, dd, dd, dd, dd, dd, dd, dd, dd, dd, dd, dd, dd, dd, dd, dd, dd, dd, dd, dd, dd, dd, dd, dd, dd, dd, dd, dd, dd, dd, dd, dd, dd, dd, dd, dd, dd, dd, dd, dd, dd, dd, dd, dd, dd, dd, dd, dd, dd, dd, dd, dd, dd, dd, dd, dd, dd, dd, dd, dd, dd, dd, dd, dd, dd, dd, dd, dd, dd, dd, dd, dd, dd, dd, dd, dd, dd, dd, dd, dd, dd, dd, dd, dd, dd, dd, dd, dd, dd, dd, dd, dd, dd, dd, dd, dd, dd, dd, dd, dd, dd, dd, dd, dd, dd, dd, dd, dd, dd, dd, dd, dd, dd, dd, dd, dd, dd, dd, dd, dd, dd, dd, dd, dd, dd, dd, dd, dd, dd, dd, dd, dd, dd, dd, dd, dd, dd, dd, dd, dd, dd, dd, dd, dd, dd, dd, dd, dd, dd, dd, dd, dd, dd, dd, dd, dd, dd, dd, dd, dd, dd, dd, dd, dd, dd, dd, dd, dd, dd, dd, dd, dd, dd, dd, dd, dd, dd, dd, dd, dd, dd, dd, dd, dd, dd, dd, dd, dd, dd, dd, dd, dd, dd, dd, dd, dd], [.gh 0 (.ref 2 0), .gh 1 (.srf 4), .box [.d (.v (.int .u32 v_r923.2.2.fAt)), .srf 3, .d (.v (.int .i64 v_r923.2.2.fMay))], .row 5 1 (v_w1443.map (eI .u8)), .none, .box ((cS_api_Regs (S_api_Regs.mk v_r869.fR (wi .u32 (v_r869.fPc + 4)) v_r869.fRing)).map FV.d), .box ((cS_api_Regs (S_api_Regs.mk (fun (_ : Fin 8) => 0) 0 0)).map FV.d), .box [.d (.v (.int .i64 0)), .d (.v (.int .u32 0))], .box [.d (.v (.int .i64 v_r923.2.1.fKind)), .d (.v (.int .u32 v_r923.2.1.fAddr))]]⟩
def G_ringref5_StepOf_h_C4_hd (v_r869 : S_api_Regs) (v_y1180 : Int) (v_y1181 : Int) (v_r1167 : (S_api_Ins × Int)) (v_r923 : (Int × S_api_Trap × S_ringref5_Room)) (v_z1191 : (List Int))  : PS := ⟨[dd, dd, .ref 5 0, dd, .ref 6 0, .ref 7 0, dd, .ref 8 0, .ref 9 0, dd, dd, .d (.v (.int .u32 v_r869.fPc)), .d (.v (.int .u32 v_y1180)), .d (.v (.int .u32 v_y1181)), .d (.v (.int .u32 (wi .u32 v_r1167.1.fC))), dd, dd, dd, dd, dd, dd, dd, dd, dd, dd, dd, dd, dd, dd, dd, dd, dd, dd, dd, dd, dd, dd, dd, dd, dd, dd, dd, dd, dd, dd, dd, dd, dd, dd, dd, dd, dd, dd, dd, dd, dd, dd, dd, dd, dd, dd, dd, dd, dd, dd, dd, dd, dd, dd, dd, dd, dd, dd, dd, dd, dd, dd, dd, dd, dd, dd, dd, dd, dd, dd, dd, dd, dd, dd, dd, dd, dd, dd, dd, dd, dd, dd, dd, dd, dd, dd, dd, dd, dd, dd, dd, dd, dd, dd, dd, .d (.v (.bool (v_r1167.1.fOp == 1))), dd, dd, dd, dd, dd, dd, dd, dd, dd, dd, dd, dd, dd, dd, dd, dd, dd, dd, dd, dd, dd, dd, dd, dd, dd, dd, dd, dd, dd, dd, dd, dd, dd, dd, dd, dd, dd, dd, dd, dd, dd, dd, dd, dd, dd, dd, dd, dd, dd, dd, dd, dd, dd, dd, dd, dd, dd, dd, dd, dd, dd, dd, dd, dd, dd, dd, dd, dd, dd, dd, dd, dd, dd, dd, dd, dd, dd, dd, dd, dd, dd, dd, dd, dd, dd, dd, dd, dd, dd, dd, dd, dd, dd, dd, dd, dd, dd, dd, dd, dd, dd, dd, dd, dd, dd, dd, dd, dd, dd, dd, dd, dd, dd, dd, dd, dd], [.gh 0 (.ref 2 0), .gh 1 (.srf 4), .box [.d (.v (.int .u32 v_r923.2.2.fAt)), .srf 3, .d (.v (.int .i64 v_r923.2.2.fMay))], .row 5 1 (v_z1191.map (eI .u8)), .none, .box ((cS_api_Regs (S_api_Regs.mk v_r869.fR (wi .u32 (v_r869.fPc + 4)) v_r869.fRing)).map FV.d), .box ((cS_api_Regs (S_api_Regs.mk (fun (_ : Fin 8) => 0) 0 0)).map FV.d), .box [.d (.v (.int .i64 0)), .d (.v (.int .u32 0))], .box [.d (.v (.int .i64 v_r923.2.1.fKind)), .d (.v (.int .u32 v_r923.2.1.fAddr))], .box [.d (.v (.int .i64 v_r1167.1.fOp)), .d (.v (.int .i64 v_r1167.1.fA)), .d (.v (.int .i64 v_r1167.1.fB)), .d (.v (.int .i64 v_r1167.1.fC))]]⟩
def G_ringref5_StepOf_h_C4 (n : Nat) (v_r869 : S_api_Regs) (v_y1180 : Int) (v_y1181 : Int) (v_r1167 : (S_api_Ins × Int)) (v_r923 : (Int × S_api_Trap × S_ringref5_Room)) (v_z1191 : (List Int)) : Option G_ringref5_StepOf_h_C4_R :=
  if v_r1167.1.fOp = 1 then
   some (.x0 v_z1191)
  else
   if v_r1167.1.fOp = 2 then
    if 0 ≤ v_r1167.1.fA ∧ v_r1167.1.fA < (8 : Int) then
     (getA v_r869.fR v_r1167.1.fA).bind fun (v_y1409 : Int) =>
     some (.x1 v_z1191)
    else none
   else
    if v_r1167.1.fOp = 3 then
     if 0 ≤ v_r1167.1.fA ∧ v_r1167.1.fA < (8 : Int) then
      (getA v_r869.fR v_r1167.1.fA).bind fun (v_y1411 : Int) =>
      some (.x2 v_z1191)
     else none
    else
     if v_r1167.1.fOp = 4 then
      if 0 ≤ v_r1167.1.fA ∧ v_r1167.1.fA < (8 : Int) then
       (getA v_r869.fR v_r1167.1.fA).bind fun (v_y1413 : Int) =>
       some (.x3 v_z1191)
      else none
     else
      if v_r1167.1.fOp ≤ 13 then
       (G_ringref5_two n v_r1167.1.fOp v_y1180 v_y1181).bind fun (v_r1415 : (Int)) =>
       if 0 ≤ v_r1167.1.fA ∧ v_r1167.1.fA < (8 : Int) then
        (getA v_r869.fR v_r1167.1.fA).bind fun (v_y1416 : Int) =>
        some (.x4 v_z1191 (S_api_Regs.mk (setA v_r869.fR v_r1167.1.fA v_r1415) (wi .u32 (v_r869.fPc + 4)) v_r869.fRing))
       else none
      else
       if v_r1167.1.fOp = 14 then
        if 0 ≤ v_r1167.1.fA ∧ v_r1167.1.fA < (8 : Int) then
         (getA v_r869.fR v_r1167.1.fA).bind fun (v_y1419 : Int) =>
         some (.x5 v_z1191)
        else none
       else
        (G_ringref5_StepOf_h_C3 n v_r869 v_y1180 v_y1181 v_r1167 v_r923 v_z1191).bind fun v_o1434 => match v_o1434 with
        | .x0 v_z1435 v_z1436 =>
          if v_z1435 = true then
           some (.x6 v_z1436)
          else
           if v_r1167.1.fOp = 22 then
            if 0 ≤ v_r1167.1.fA ∧ v_r1167.1.fA < (8 : Int) then
             (getA v_r869.fR v_r1167.1.fA).bind fun (v_y1438 : Int) =>
             some (.x7 v_z1436)
            else none
           else
            if v_r1167.1.fOp = 23 then
             some (.x8 v_z1436)
            else
             if v_r1167.1.fOp = 24 then
              some (.x9 v_z1436)
             else
              if v_r1167.1.fOp = 26 then
               some (.x10 v_z1436)
              else
               some (.x11 v_z1436)
theorem G_ringref5_StepOf_h_C4_ok {Fi : Ex → PS → Prop} (hF : KC 227 Fi) (ks : List Fr) (n : Nat) (v_r869 : S_api_Regs) (v_y1180 : Int) (v_y1181 : Int) (v_r1167 : (S_api_Ins × Int)) (v_r923 : (Int × S_api_Trap × S_ringref5_Room)) (v_z1191 : (List Int))  (o : G_ringref5_StepOf_h_C4_R) (h : G_ringref5_StepOf_h_C4 n v_r869 v_y1180 v_y1181 v_r1167 v_r923 v_z1191 = some o) (q : RunE Try.prog 227 Fi ks (G_ringref5_StepOf_h_C4_ex o) (G_ringref5_StepOf_h_C4_st v_r869 v_y1180 v_y1181 v_r1167 v_r923 v_z1191 o)) : RunE Try.prog 227 Fi (.s (cR (cB (cL (cR (cR (cR (cR (cR (cR (cR (cR (cR (cR (cR (bodyOf Try.f8))))))))))))))) :: ks) .normal (G_ringref5_StepOf_h_C4_hd v_r869 v_y1180 v_y1181 v_r1167 v_r923 v_z1191) := by
  unfold G_ringref5_StepOf_h_C4 at h
  by_cases h1838 : v_r1167.1.fOp = 1
  · rw [if_pos h1838] at h
    cases h
    exact pkk_sound TTok mix hF 2 (hs := [.t true, .c]) (ts := []) (s := [0, 1, 2, 3, 4, 5, 6, 7, 8]) (l := [2, 4, 5, 7]) (by kernel_rfl) (by kernel_rfl) (.cons (bt h1838) (.cons (show 0 + 1 ≤ 2 by decide) .nil)) q
  · rw [if_neg h1838] at h
    by_cases h1839 : v_r1167.1.fOp = 2
    · rw [if_pos h1839] at h
      by_cases h1840 : 0 ≤ v_r1167.1.fA ∧ v_r1167.1.fA < (8 : Int)
      · rw [if_pos h1840] at h
        obtain ⟨v_y1409, h1841, h⟩ := bind_some h
        cases h
        exact pkk_sound TTok mix hF 5 (hs := [.t false, .c, .t true, .c, .x ((cS_api_Regs (S_api_Regs.mk (setA v_r869.fR v_r1167.1.fA (wi .u32 v_r1167.1.fC)) (wi .u32 (v_r869.fPc + 4)) v_r869.fRing)).map FV.d), .c]) (ts := []) (s := [0, 1, 2, 3, 4, 5, 6, 7, 8]) (l := [2, 4, 5, 7]) (by kernel_rfl) (by kernel_rfl) (.cons (bf h1838) (.cons (bt h1839) (.cons h1840 (.cons (arr_store (γ := FV) (sz := 1) (g := (fun x => [.d (.v (.int .u32 x))])) (pre := []) (post := [.d (.v (.int .u32 (wi .u32 (v_r869.fPc + 4)))), .d (.v (.int .i64 v_r869.fRing))]) (o := 0) (y := (wi .u32 v_r1167.1.fC)) (zs := [.d (.v (.int .u32 (wi .u32 v_r1167.1.fC)))]) (fun _ => rfl) h1841 rfl (Nat.le_of_ble_eq_true rfl)).1 (.cons (arr_store (γ := FV) (sz := 1) (g := (fun x => [.d (.v (.int .u32 x))])) (pre := []) (post := [.d (.v (.int .u32 (wi .u32 (v_r869.fPc + 4)))), .d (.v (.int .i64 v_r869.fRing))]) (o := 0) (y := (wi .u32 v_r1167.1.fC)) (zs := [.d (.v (.int .u32 (wi .u32 v_r1167.1.fC)))]) (fun _ => rfl) h1841 rfl (Nat.le_of_ble_eq_true rfl)).2 .nil))))) q
      · rw [if_neg h1840] at h; cases h
    · rw [if_neg h1839] at h
      by_cases h1842 : v_r1167.1.fOp = 3
      · rw [if_pos h1842] at h
        by_cases h1844 : 0 ≤ v_r1167.1.fA ∧ v_r1167.1.fA < (8 : Int)
        · rw [if_pos h1844] at h
          obtain ⟨v_y1411, h1845, h⟩ := bind_some h
          cases h
          exact pkk_sound TTok mix hF 8 (hs := [.t false, .c, .t false, .c, .t true, .c, .x ((cS_api_Regs (S_api_Regs.mk (setA v_r869.fR v_r1167.1.fA (wi .u32 ((shlI .u32 v_y1180 16) + (bits .and .u32 (wi .u32 v_r1167.1.fC) 65535)))) (wi .u32 (v_r869.fPc + 4)) v_r869.fRing)).map FV.d), .c]) (ts := []) (s := [0, 1, 2, 3, 4, 5, 6, 7, 8]) (l := [2, 4, 5, 7]) (by kernel_rfl) (by kernel_rfl) (.cons (bf h1838) (.cons (bf h1839) (.cons (bt h1842) (.cons (show (0 : Int) ≤ 16 by decide) (.cons h1844 (.cons (arr_store (γ := FV) (sz := 1) (g := (fun x => [.d (.v (.int .u32 x))])) (pre := []) (post := [.d (.v (.int .u32 (wi .u32 (v_r869.fPc + 4)))), .d (.v (.int .i64 v_r869.fRing))]) (o := 0) (y := (wi .u32 ((shlI .u32 v_y1180 16) + (bits .and .u32 (wi .u32 v_r1167.1.fC) 65535)))) (zs := [.d (.v (.int .u32 (wi .u32 ((shlI .u32 v_y1180 16) + (bits .and .u32 (wi .u32 v_r1167.1.fC) 65535)))))]) (fun _ => rfl) h1845 rfl (Nat.le_of_ble_eq_true rfl)).1 (.cons (arr_store (γ := FV) (sz := 1) (g := (fun x => [.d (.v (.int .u32 x))])) (pre := []) (post := [.d (.v (.int .u32 (wi .u32 (v_r869.fPc + 4)))), .d (.v (.int .i64 v_r869.fRing))]) (o := 0) (y := (wi .u32 ((shlI .u32 v_y1180 16) + (bits .and .u32 (wi .u32 v_r1167.1.fC) 65535)))) (zs := [.d (.v (.int .u32 (wi .u32 ((shlI .u32 v_y1180 16) + (bits .and .u32 (wi .u32 v_r1167.1.fC) 65535)))))]) (fun _ => rfl) h1845 rfl (Nat.le_of_ble_eq_true rfl)).2 .nil))))))) q
        · rw [if_neg h1844] at h; cases h
      · rw [if_neg h1842] at h
        by_cases h1846 : v_r1167.1.fOp = 4
        · rw [if_pos h1846] at h
          by_cases h1847 : 0 ≤ v_r1167.1.fA ∧ v_r1167.1.fA < (8 : Int)
          · rw [if_pos h1847] at h
            obtain ⟨v_y1413, h1848, h⟩ := bind_some h
            cases h
            exact pkk_sound TTok mix hF 11 (hs := [.t false, .c, .t false, .c, .t false, .c, .t true, .c, .x ((cS_api_Regs (S_api_Regs.mk (setA v_r869.fR v_r1167.1.fA v_y1181) (wi .u32 (v_r869.fPc + 4)) v_r869.fRing)).map FV.d), .c]) (ts := []) (s := [0, 1, 2, 3, 4, 5, 6, 7, 8]) (l := [2, 4, 5, 7]) (by kernel_rfl) (by kernel_rfl) (.cons (bf h1838) (.cons (bf h1839) (.cons (bf h1842) (.cons (bt h1846) (.cons h1847 (.cons (arr_store (γ := FV) (sz := 1) (g := (fun x => [.d (.v (.int .u32 x))])) (pre := []) (post := [.d (.v (.int .u32 (wi .u32 (v_r869.fPc + 4)))), .d (.v (.int .i64 v_r869.fRing))]) (o := 0) (y := v_y1181) (zs := [.d (.v (.int .u32 v_y1181))]) (fun _ => rfl) h1848 rfl (Nat.le_of_ble_eq_true rfl)).1 (.cons (arr_store (γ := FV) (sz := 1) (g := (fun x => [.d (.v (.int .u32 x))])) (pre := []) (post := [.d (.v (.int .u32 (wi .u32 (v_r869.fPc + 4)))), .d (.v (.int .i64 v_r869.fRing))]) (o := 0) (y := v_y1181) (zs := [.d (.v (.int .u32 v_y1181))]) (fun _ => rfl) h1848 rfl (Nat.le_of_ble_eq_true rfl)).2 .nil))))))) q
          · rw [if_neg h1847] at h; cases h
        · rw [if_neg h1846] at h
          by_cases h1849 : v_r1167.1.fOp ≤ 13
          · rw [if_pos h1849] at h
            obtain ⟨v_r1415, h1850, h⟩ := bind_some h
            by_cases h1851 : 0 ≤ v_r1167.1.fA ∧ v_r1167.1.fA < (8 : Int)
            · rw [if_pos h1851] at h
              obtain ⟨v_y1416, h1852, h⟩ := bind_some h
              cases h
              exact pkk_sound TTok mix hF 14 (hs := [.t false, .c, .t false, .c, .t false, .c, .t false, .c, .t true, .c, .c, .r ((eI .u32) v_r1415), .x ((cS_api_Regs (S_api_Regs.mk (setA v_r869.fR v_r1167.1.fA v_r1415) (wi .u32 (v_r869.fPc + 4)) v_r869.fRing)).map FV.d), .c]) (ts := []) (s := [0, 1, 2, 3, 4, 5, 6, 7, 8]) (l := [2, 4, 5, 7]) (by kernel_rfl) (by kernel_rfl) (.cons (bf h1838) (.cons (bf h1839) (.cons (bf h1842) (.cons (bf h1846) (.cons (dt h1849) (.cons (G_ringref5_two_ok n v_r1167.1.fOp v_y1180 v_y1181 _ h1850) (.cons h1851 (.cons (arr_store (γ := FV) (sz := 1) (g := (fun x => [.d (.v (.int .u32 x))])) (pre := []) (post := [.d (.v (.int .u32 (wi .u32 (v_r869.fPc + 4)))), .d (.v (.int .i64 v_r869.fRing))]) (o := 0) (y := v_r1415) (zs := [.d (.v (.int .u32 v_r1415))]) (fun _ => rfl) h1852 rfl (Nat.le_of_ble_eq_true rfl)).1 (.cons (arr_store (γ := FV) (sz := 1) (g := (fun x => [.d (.v (.int .u32 x))])) (pre := []) (post := [.d (.v (.int .u32 (wi .u32 (v_r869.fPc + 4)))), .d (.v (.int .i64 v_r869.fRing))]) (o := 0) (y := v_r1415) (zs := [.d (.v (.int .u32 v_r1415))]) (fun _ => rfl) h1852 rfl (Nat.le_of_ble_eq_true rfl)).2 .nil))))))))) q
            · rw [if_neg h1851] at h; cases h
          · rw [if_neg h1849] at h
            by_cases h1853 : v_r1167.1.fOp = 14
            · rw [if_pos h1853] at h
              by_cases h1854 : 0 ≤ v_r1167.1.fA ∧ v_r1167.1.fA < (8 : Int)
              · rw [if_pos h1854] at h
                obtain ⟨v_y1419, h1855, h⟩ := bind_some h
                cases h
                exact pkk_sound TTok mix hF 17 (hs := [.t false, .c, .t false, .c, .t false, .c, .t false, .c, .t false, .c, .t true, .c, .x ((cS_api_Regs (S_api_Regs.mk (setA v_r869.fR v_r1167.1.fA (wi .u32 (v_y1181 + (wi .u32 v_r1167.1.fC)))) (wi .u32 (v_r869.fPc + 4)) v_r869.fRing)).map FV.d), .c]) (ts := []) (s := [0, 1, 2, 3, 4, 5, 6, 7, 8]) (l := [2, 4, 5, 7]) (by kernel_rfl) (by kernel_rfl) (.cons (bf h1838) (.cons (bf h1839) (.cons (bf h1842) (.cons (bf h1846) (.cons (df h1849) (.cons (bt h1853) (.cons h1854 (.cons (arr_store (γ := FV) (sz := 1) (g := (fun x => [.d (.v (.int .u32 x))])) (pre := []) (post := [.d (.v (.int .u32 (wi .u32 (v_r869.fPc + 4)))), .d (.v (.int .i64 v_r869.fRing))]) (o := 0) (y := (wi .u32 (v_y1181 + (wi .u32 v_r1167.1.fC)))) (zs := [.d (.v (.int .u32 (wi .u32 (v_y1181 + (wi .u32 v_r1167.1.fC)))))]) (fun _ => rfl) h1855 rfl (Nat.le_of_ble_eq_true rfl)).1 (.cons (arr_store (γ := FV) (sz := 1) (g := (fun x => [.d (.v (.int .u32 x))])) (pre := []) (post := [.d (.v (.int .u32 (wi .u32 (v_r869.fPc + 4)))), .d (.v (.int .i64 v_r869.fRing))]) (o := 0) (y := (wi .u32 (v_y1181 + (wi .u32 v_r1167.1.fC)))) (zs := [.d (.v (.int .u32 (wi .u32 (v_y1181 + (wi .u32 v_r1167.1.fC)))))]) (fun _ => rfl) h1855 rfl (Nat.le_of_ble_eq_true rfl)).2 .nil))))))))) q
              · rw [if_neg h1854] at h; cases h
            · rw [if_neg h1853] at h
              obtain ⟨v_o1434, h1866, h⟩ := bind_some h
              refine pkk_sound TTok mix hF 19 (hs := [.t false, .c, .t false, .c, .t false, .c, .t false, .c, .t false, .c, .t false, .c]) (ts := []) (s := [0, 1, 2, 3, 4, 5, 6, 7, 8, 9]) (l := [2, 4, 5, 7, 8, 11, 12, 13, 14, 170]) (by kernel_rfl) (by kernel_rfl) (.cons (bf h1838) (.cons (bf h1839) (.cons (bf h1842) (.cons (bf h1846) (.cons (df h1849) (.cons (bf h1853) .nil)))))) (G_ringref5_StepOf_h_C3_ok hF (.s (cR (cF (cR (cF (cR (cF (cR (cF (cR (cF (cR (cF (cR (cB (cL (cR (cR (cR (cR (cR (cR (cR (cR (cR (cR (cR (bodyOf Try.f8))))))))))))))))))))))))))) :: ks) n v_r869 v_y1180 v_y1181 v_r1167 v_r923 v_z1191 _ h1866 ?_)
              cases v_o1434 with
              | x0 v_z1435 v_z1436 =>
                try dsimp only at h
                by_cases h1867 : v_z1435 = true
                · rw [if_pos h1867] at h
                  cases h
                  exact pkk_sound TTok mix hF 2 (hs := [.t true, .c]) (ts := []) (s := [0, 1, 2, 3, 4, 5, 6, 7, 8]) (l := [2, 4, 5, 7]) (by kernel_rfl) (by kernel_rfl) (.cons h1867 (.cons (show 8 + 1 ≤ 10 by decide) .nil)) q
                · rw [if_neg h1867] at h
                  by_cases h1868 : v_r1167.1.fOp = 22
                  · rw [if_pos h1868] at h
                    by_cases h1869 : 0 ≤ v_r1167.1.fA ∧ v_r1167.1.fA < (8 : Int)
                    · rw [if_pos h1869] at h
                      obtain ⟨v_y1438, h1870, h⟩ := bind_some h
                      cases h
                      exact pkk_sound TTok mix hF 5 (hs := [.t false, .c, .t true, .c, .x ((cS_api_Regs (S_api_Regs.mk (setA v_r869.fR v_r1167.1.fA (wi .u32 (v_r869.fPc + 4))) (wi .u32 (v_r869.fPc + 4)) v_r869.fRing)).map FV.d), .c, .c]) (ts := []) (s := [0, 1, 2, 3, 4, 5, 6, 7, 8]) (l := [2, 4, 5, 7]) (by kernel_rfl) (by kernel_rfl) (.cons (vf h1867) (.cons (bt h1868) (.cons h1869 (.cons (arr_store (γ := FV) (sz := 1) (g := (fun x => [.d (.v (.int .u32 x))])) (pre := []) (post := [.d (.v (.int .u32 (wi .u32 (v_r869.fPc + 4)))), .d (.v (.int .i64 v_r869.fRing))]) (o := 0) (y := (wi .u32 (v_r869.fPc + 4))) (zs := [.d (.v (.int .u32 (wi .u32 (v_r869.fPc + 4))))]) (fun _ => rfl) h1870 rfl (Nat.le_of_ble_eq_true rfl)).1 (.cons (arr_store (γ := FV) (sz := 1) (g := (fun x => [.d (.v (.int .u32 x))])) (pre := []) (post := [.d (.v (.int .u32 (wi .u32 (v_r869.fPc + 4)))), .d (.v (.int .i64 v_r869.fRing))]) (o := 0) (y := (wi .u32 (v_r869.fPc + 4))) (zs := [.d (.v (.int .u32 (wi .u32 (v_r869.fPc + 4))))]) (fun _ => rfl) h1870 rfl (Nat.le_of_ble_eq_true rfl)).2 (.cons (show 8 + 1 ≤ 10 by decide) .nil)))))) q
                    · rw [if_neg h1869] at h; cases h
                  · rw [if_neg h1868] at h
                    by_cases h1871 : v_r1167.1.fOp = 23
                    · rw [if_pos h1871] at h
                      cases h
                      exact pkk_sound TTok mix hF 8 (hs := [.t false, .c, .t false, .c, .t true, .c]) (ts := []) (s := [0, 1, 2, 3, 4, 5, 6, 7, 8]) (l := [2, 4, 5, 7]) (by kernel_rfl) (by kernel_rfl) (.cons (vf h1867) (.cons (bf h1868) (.cons (bt h1871) (.cons (show 8 + 1 ≤ 10 by decide) .nil)))) q
                    · rw [if_neg h1871] at h
                      by_cases h1872 : v_r1167.1.fOp = 24
                      · rw [if_pos h1872] at h
                        cases h
                        exact pkk_sound TTok mix hF 11 (hs := [.t false, .c, .t false, .c, .t false, .c, .t true, .c]) (ts := []) (s := [0, 1, 2, 3, 4, 5, 6, 7, 8]) (l := [2, 4, 5, 7]) (by kernel_rfl) (by kernel_rfl) (.cons (vf h1867) (.cons (bf h1868) (.cons (bf h1871) (.cons (bt h1872) (.cons (show 0 + 1 ≤ 2 by decide) .nil))))) q
                      · rw [if_neg h1872] at h
                        by_cases h1873 : v_r1167.1.fOp = 26
                        · rw [if_pos h1873] at h
                          cases h
                          exact pkk_sound TTok mix hF 14 (hs := [.t false, .c, .t false, .c, .t false, .c, .t false, .c, .t true, .c, .c]) (ts := []) (s := [0, 1, 2, 3, 4, 5, 6, 7, 8]) (l := [2, 4, 5, 7]) (by kernel_rfl) (by kernel_rfl) (.cons (vf h1867) (.cons (bf h1868) (.cons (bf h1871) (.cons (bf h1872) (.cons (bt h1873) (.cons (show 8 + 1 ≤ 10 by decide) (.cons (show 9 + 1 ≤ 10 by decide) .nil))))))) q
                        · rw [if_neg h1873] at h
                          cases h
                          exact pkk_sound TTok mix hF 14 (hs := [.t false, .c, .t false, .c, .t false, .c, .t false, .c, .t false]) (ts := []) (s := [0, 1, 2, 3, 4, 5, 6, 7, 8]) (l := [2, 4, 5, 7]) (by kernel_rfl) (by kernel_rfl) (.cons (vf h1867) (.cons (bf h1868) (.cons (bf h1871) (.cons (bf h1872) (.cons (bf h1873) .nil))))) q
inductive G_ringref5_StepOf_h_C5_R where
  | x0 (v_w1446 : (List Int))
  | x1 (v_w1448 : (List Int))
  | x2 (v_w1450 : (List Int))
  | x3 (v_w1452 : (List Int))
  | x4 (v_w1455 : (List Int)) (v_b1456 : S_api_Regs)
  | x5 (v_w1458 : (List Int))
  | x6 (v_w1460 : (List Int))
  | x7 (v_w1462 : (List Int))
  | x8 (v_w1464 : (List Int))
  | x9 (v_w1466 : (List Int))
  | x10 (v_w1468 : (List Int))
  | x11 (v_w1470 : (List Int))
def G_ringref5_StepOf_h_C5_ex : G_ringref5_StepOf_h_C5_R → Ex
  | .x0 _ => .normal
  | .x1 _ => .normal
  | .x2 _ => .normal
  | .x3 _ => .normal
  | .x4 _ _ => .normal
  | .x5 _ => .normal
  | .x6 _ => .normal
  | .x7 _ => .normal
  | .x8 _ => .normal
  | .x9 _ => .normal
  | .x10 _ => .normal
  | .x11 _ => .normal
def G_ringref5_StepOf_h_C5_st (v_r869 : S_api_Regs) (v_y1180 : Int) (v_y1181 : Int) (v_r1167 : (S_api_Ins × Int)) (v_r923 : (Int × S_api_Trap × S_ringref5_Room)) (v_z1191 : (List Int)) : G_ringref5_StepOf_h_C5_R → PS
  | .x0 v_w1446 => ⟨[dd, dd, .ref 5 0, dd, .ref 6 0, .ref 7 0, dd, .ref 8 0, dd, dd, dd, dd, dd, dd, dd, dd, dd, dd, dd, dd, dd, dd, dd, dd, dd, dd, dd, dd, dd, dd, dd, dd, dd, dd, dd, dd, dd, dd, dd, dd, dd, dd, dd, dd, dd, dd, dd, dd, dd, dd, dd, dd, dd, dd, dd, dd, dd, dd, dd, dd, dd, dd, dd, dd, dd, dd, dd, dd, dd, dd, dd, dd, dd, dd, dd, dd, dd, dd, dd, dd, dd, dd, dd, dd, dd, dd, dd, dd, dd, dd, dd, dd, dd, dd, dd, dd, dd, dd, dd, dd, dd, dd, dd, dd, dd, dd, dd, dd, dd, dd, dd, dd, dd, dd, dd, dd, dd, dd, dd, dd, dd, dd, dd, dd, dd, dd, dd, dd, dd, dd, dd, dd, dd, dd, dd, dd, dd, dd, dd, dd, dd, dd, dd, dd, dd, dd, dd, dd, dd, dd, dd, dd, dd, dd, dd, dd, dd, dd, dd, dd, dd, dd, dd, dd, dd, dd, dd, dd, dd, dd, dd, dd, dd, dd, dd, dd, dd, dd, dd, dd, dd, dd, dd, dd, dd, dd, dd, dd, dd, dd, dd, dd, dd, dd, dd, dd, dd, dd, dd, dd, dd, dd, dd, dd, dd, dd, dd, dd, dd, dd, dd, dd, dd, dd, dd, dd, dd, dd, dd, dd, dd, dd, dd, dd, dd, dd, dd], [.gh 0 (.ref 2 0), .gh 1 (.srf 4), .box [.d (.v (.int .u32 v_r923.2.2.fAt)), .srf 3, .d (.v (.int .i64 v_r923.2.2.fMay))], .row 5 1 (v_w1446.map (eI .u8)), .none, .box ((cS_api_Regs (S_api_Regs.mk v_r869.fR (wi .u32 (v_r869.fPc + 4)) v_r869.fRing)).map FV.d), .box ((cS_api_Regs (S_api_Regs.mk (fun (_ : Fin 8) => 0) 0 0)).map FV.d), .box [.d (.v (.int .i64 0)), .d (.v (.int .u32 0))], .box [.d (.v (.int .i64 5)), .d (.v (.int .u32 v_r923.2.1.fAddr))]]⟩
  | .x1 v_w1448 => ⟨[dd, dd, .ref 5 0, dd, .ref 6 0, .ref 7 0, dd, .ref 8 0, dd, dd, dd, dd, dd, dd, dd, dd, dd, dd, dd, dd, dd, dd, dd, dd, dd, dd, dd, dd, dd, dd, dd, dd, dd, dd, dd, dd, dd, dd, dd, dd, dd, dd, dd, dd, dd, dd, dd, dd, dd, dd, dd, dd, dd, dd, dd, dd, dd, dd, dd, dd, dd, dd, dd, dd, dd, dd, dd, dd, dd, dd, dd, dd, dd, dd, dd, dd, dd, dd, dd, dd, dd, dd, dd, dd, dd, dd, dd, dd, dd, dd, dd, dd, dd, dd, dd, dd, dd, dd, dd, dd, dd, dd, dd, dd, dd, dd, dd, dd, dd, dd, dd, dd, dd, dd, dd, dd, dd, dd, dd, dd, dd, dd, dd, dd, dd, dd, dd, dd, dd, dd, dd, dd, dd, dd, dd, dd, dd, dd, dd, dd, dd, dd, dd, dd, dd, dd, dd, dd, dd, dd, dd, dd, dd, dd, dd, dd, dd, dd, dd, dd, dd, dd, dd, dd, dd, dd, dd, dd, dd, dd, dd, dd, dd, dd, dd, dd, dd, dd, dd, dd, dd, dd, dd, dd, dd, dd, dd, dd, dd, dd, dd, dd, dd, dd, dd, dd, dd, dd, dd, dd, dd, dd, dd, dd, dd, dd, dd, dd, dd, dd, dd, dd, dd, dd, dd, dd, dd, dd, dd, dd, dd, dd, dd, dd, dd, dd, dd], [.gh 0 (.ref 2 0), .gh 1 (.srf 4), .box [.d (.v (.int .u32 v_r923.2.2.fAt)), .srf 3, .d (.v (.int .i64 v_r923.2.2.fMay))], .row 5 1 (v_w1448.map (eI .u8)), .none, .box ((cS_api_Regs (S_api_Regs.mk (setA v_r869.fR v_r1167.1.fA (wi .u32 v_r1167.1.fC)) (wi .u32 (v_r869.fPc + 4)) v_r869.fRing)).map FV.d), .box ((cS_api_Regs (S_api_Regs.mk (fun (_ : Fin 8) => 0) 0 0)).map FV.d), .box [.d (.v (.int .i64 0)), .d (.v (.int .u32 0))], .box [.d (.v (.int .i64 v_r923.2.1.fKind)), .d (.v (.int .u32 v_r923.2.1.fAddr))]]⟩
  | .x2 v_w1450 => ⟨[dd, dd, .ref 5 0, dd, .ref 6 0, .ref 7 0, dd, .ref 8 0, dd, dd, dd, dd, dd, dd, dd, dd, dd, dd, dd, dd, dd, dd, dd, dd, dd, dd, dd, dd, dd, dd, dd, dd, dd, dd, dd, dd, dd, dd, dd, dd, dd, dd, dd, dd, dd, dd, dd, dd, dd, dd, dd, dd, dd, dd, dd, dd, dd, dd, dd, dd, dd, dd, dd, dd, dd, dd, dd, dd, dd, dd, dd, dd, dd, dd, dd, dd, dd, dd, dd, dd, dd, dd, dd, dd, dd, dd, dd, dd, dd, dd, dd, dd, dd, dd, dd, dd, dd, dd, dd, dd, dd, dd, dd, dd, dd, dd, dd, dd, dd, dd, dd, dd, dd, dd, dd, dd, dd, dd, dd, dd, dd, dd, dd, dd, dd, dd, dd, dd, dd, dd, dd, dd, dd, dd, dd, dd, dd, dd, dd, dd, dd, dd, dd, dd, dd, dd, dd, dd, dd, dd, dd, dd, dd, dd, dd, dd, dd, dd, dd, dd, dd, dd, dd, dd, dd, dd, dd, dd, dd, dd, dd, dd, dd, dd, dd, dd, dd, dd, dd, dd, dd, dd, dd, dd, dd, dd, dd, dd, dd, dd, dd, dd, dd, dd, dd, dd, dd, dd, dd, dd, dd, dd, dd, dd, dd, dd, dd, dd, dd, dd, dd, dd, dd, dd, dd, dd, dd, dd, dd, dd, dd, dd, dd, dd, dd, dd, dd], [.gh 0 (.ref 2 0), .gh 1 (.srf 4), .box [.d (.v (.int .u32 v_r923.2.2.fAt)), .srf 3, .d (.v (.int .i64 v_r923.2.2.fMay))], .row 5 1 (v_w1450.map (eI .u8)), .none, .box ((cS_api_Regs (S_api_Regs.mk (setA v_r869.fR v_r1167.1.fA (wi .u32 ((shlI .u32 v_y1180 16) + (bits .and .u32 (wi .u32 v_r1167.1.fC) 65535)))) (wi .u32 (v_r869.fPc + 4)) v_r869.fRing)).map FV.d), .box ((cS_api_Regs (S_api_Regs.mk (fun (_ : Fin 8) => 0) 0 0)).map FV.d), .box [.d (.v (.int .i64 0)), .d (.v (.int .u32 0))], .box [.d (.v (.int .i64 v_r923.2.1.fKind)), .d (.v (.int .u32 v_r923.2.1.fAddr))]]⟩
  | .x3 v_w1452 => ⟨[dd, dd, .ref 5 0, dd, .ref 6 0, .ref 7 0, dd, .ref 8 0, dd, dd, dd, dd, dd, dd, dd, dd, dd, dd, dd, dd, dd, dd, dd, dd, dd, dd, dd, dd, dd, dd, dd, dd, dd, dd, dd, dd, dd, dd, dd, dd, dd, dd, dd, dd, dd, dd, dd, dd, dd, dd, dd, dd, dd, dd, dd, dd, dd, dd, dd, dd, dd, dd, dd, dd, dd, dd, dd, dd, dd, dd, dd, dd, dd, dd, dd, dd, dd, dd, dd, dd, dd, dd, dd, dd, dd, dd, dd, dd, dd, dd, dd, dd, dd, dd, dd, dd, dd, dd, dd, dd, dd, dd, dd, dd, dd, dd, dd, dd, dd, dd, dd, dd, dd, dd, dd, dd, dd, dd, dd, dd, dd, dd, dd, dd, dd, dd, dd, dd, dd, dd, dd, dd, dd, dd, dd, dd, dd, dd, dd, dd, dd, dd, dd, dd, dd, dd, dd, dd, dd, dd, dd, dd, dd, dd, dd, dd, dd, dd, dd, dd, dd, dd, dd, dd, dd, dd, dd, dd, dd, dd, dd, dd, dd, dd, dd, dd, dd, dd, dd, dd, dd, dd, dd, dd, dd, dd, dd, dd, dd, dd, dd, dd, dd, dd, dd, dd, dd, dd, dd, dd, dd, dd, dd, dd, dd, dd, dd, dd, dd, dd, dd, dd, dd, dd, dd, dd, dd, dd, dd, dd, dd, dd, dd, dd, dd, dd, dd], [.gh 0 (.ref 2 0), .gh 1 (.srf 4), .box [.d (.v (.int .u32 v_r923.2.2.fAt)), .srf 3, .d (.v (.int .i64 v_r923.2.2.fMay))], .row 5 1 (v_w1452.map (eI .u8)), .none, .box ((cS_api_Regs (S_api_Regs.mk (setA v_r869.fR v_r1167.1.fA v_y1181) (wi .u32 (v_r869.fPc + 4)) v_r869.fRing)).map FV.d), .box ((cS_api_Regs (S_api_Regs.mk (fun (_ : Fin 8) => 0) 0 0)).map FV.d), .box [.d (.v (.int .i64 0)), .d (.v (.int .u32 0))], .box [.d (.v (.int .i64 v_r923.2.1.fKind)), .d (.v (.int .u32 v_r923.2.1.fAddr))]]⟩
  | .x4 v_w1455 v_b1456 => ⟨[dd, dd, .ref 5 0, dd, .ref 6 0, .ref 7 0, dd, .ref 8 0, dd, dd, dd, dd, dd, dd, dd, dd, dd, dd, dd, dd, dd, dd, dd, dd, dd, dd, dd, dd, dd, dd, dd, dd, dd, dd, dd, dd, dd, dd, dd, dd, dd, dd, dd, dd, dd, dd, dd, dd, dd, dd, dd, dd, dd, dd, dd, dd, dd, dd, dd, dd, dd, dd, dd, dd, dd, dd, dd, dd, dd, dd, dd, dd, dd, dd, dd, dd, dd, dd, dd, dd, dd, dd, dd, dd, dd, dd, dd, dd, dd, dd, dd, dd, dd, dd, dd, dd, dd, dd, dd, dd, dd, dd, dd, dd, dd, dd, dd, dd, dd, dd, dd, dd, dd, dd, dd, dd, dd, dd, dd, dd, dd, dd, dd, dd, dd, dd, dd, dd, dd, dd, dd, dd, dd, dd, dd, dd, dd, dd, dd, dd, dd, dd, dd, dd, dd, dd, dd, dd, dd, dd, dd, dd, dd, dd, dd, dd, dd, dd, dd, dd, dd, dd, dd, dd, dd, dd, dd, dd, dd, dd, dd, dd, dd, dd, dd, dd, dd, dd, dd, dd, dd, dd, dd, dd, dd, dd, dd, dd, dd, dd, dd, dd, dd, dd, dd, dd, dd, dd, dd, dd, dd, dd, dd, dd, dd, dd, dd, dd, dd, dd, dd, dd, dd, dd, dd, dd, dd, dd, dd, dd, dd, dd, dd, dd, dd, dd, dd], [.gh 0 (.ref 2 0), .gh 1 (.srf 4), .box [.d (.v (.int .u32 v_r923.2.2.fAt)), .srf 3, .d (.v (.int .i64 v_r923.2.2.fMay))], .row 5 1 (v_w1455.map (eI .u8)), .none, .box ((cS_api_Regs v_b1456).map FV.d), .box ((cS_api_Regs (S_api_Regs.mk (fun (_ : Fin 8) => 0) 0 0)).map FV.d), .box [.d (.v (.int .i64 0)), .d (.v (.int .u32 0))], .box [.d (.v (.int .i64 v_r923.2.1.fKind)), .d (.v (.int .u32 v_r923.2.1.fAddr))]]⟩
  | .x5 v_w1458 => ⟨[dd, dd, .ref 5 0, dd, .ref 6 0, .ref 7 0, dd, .ref 8 0, dd, dd, dd, dd, dd, dd, dd, dd, dd, dd, dd, dd, dd, dd, dd, dd, dd, dd, dd, dd, dd, dd, dd, dd, dd, dd, dd, dd, dd, dd, dd, dd, dd, dd, dd, dd, dd, dd, dd, dd, dd, dd, dd, dd, dd, dd, dd, dd, dd, dd, dd, dd, dd, dd, dd, dd, dd, dd, dd, dd, dd, dd, dd, dd, dd, dd, dd, dd, dd, dd, dd, dd, dd, dd, dd, dd, dd, dd, dd, dd, dd, dd, dd, dd, dd, dd, dd, dd, dd, dd, dd, dd, dd, dd, dd, dd, dd, dd, dd, dd, dd, dd, dd, dd, dd, dd, dd, dd, dd, dd, dd, dd, dd, dd, dd, dd, dd, dd, dd, dd, dd, dd, dd, dd, dd, dd, dd, dd, dd, dd, dd, dd, dd, dd, dd, dd, dd, dd, dd, dd, dd, dd, dd, dd, dd, dd, dd, dd, dd, dd, dd, dd, dd, dd, dd, dd, dd, dd, dd, dd, dd, dd, dd, dd, dd, dd, dd, dd, dd, dd, dd, dd, dd, dd, dd, dd, dd, dd, dd, dd, dd, dd, dd, dd, dd, dd, dd, dd, dd, dd, dd, dd, dd, dd, dd, dd, dd, dd, dd, dd, dd, dd, dd, dd, dd, dd, dd, dd, dd, dd, dd, dd, dd, dd, dd, dd, dd, dd, dd], [.gh 0 (.ref 2 0), .gh 1 (.srf 4), .box [.d (.v (.int .u32 v_r923.2.2.fAt)), .srf 3, .d (.v (.int .i64 v_r923.2.2.fMay))], .row 5 1 (v_w1458.map (eI .u8)), .none, .box ((cS_api_Regs (S_api_Regs.mk (setA v_r869.fR v_r1167.1.fA (wi .u32 (v_y1181 + (wi .u32 v_r1167.1.fC)))) (wi .u32 (v_r869.fPc + 4)) v_r869.fRing)).map FV.d), .box ((cS_api_Regs (S_api_Regs.mk (fun (_ : Fin 8) => 0) 0 0)).map FV.d), .box [.d (.v (.int .i64 0)), .d (.v (.int .u32 0))], .box [.d (.v (.int .i64 v_r923.2.1.fKind)), .d (.v (.int .u32 v_r923.2.1.fAddr))]]⟩
  | .x6 v_w1460 => ⟨[dd, dd, .ref 5 0, dd, .ref 6 0, .ref 7 0, dd, .ref 8 0, dd, dd, dd, dd, dd, dd, dd, dd, dd, dd, dd, dd, dd, dd, dd, dd, dd, dd, dd, dd, dd, dd, dd, dd, dd, dd, dd, dd, dd, dd, dd, dd, dd, dd, dd, dd, dd, dd, dd, dd, dd, dd, dd, dd, dd, dd, dd, dd, dd, dd, dd, dd, dd, dd, dd, dd, dd, dd, dd, dd, dd, dd, dd, dd, dd, dd, dd, dd, dd, dd, dd, dd, dd, dd, dd, dd, dd, dd, dd, dd, dd, dd, dd, dd, dd, dd, dd, dd, dd, dd, dd, dd, dd, dd, dd, dd, dd, dd, dd, dd, dd, dd, dd, dd, dd, dd, dd, dd, dd, dd, dd, dd, dd, dd, dd, dd, dd, dd, dd, dd, dd, dd, dd, dd, dd, dd, dd, dd, dd, dd, dd, dd, dd, dd, dd, dd, dd, dd, dd, dd, dd, dd, dd, dd, dd, dd, dd, dd, dd, dd, dd, dd, dd, dd, dd, dd, dd, dd, dd, dd, dd, dd, dd, dd, dd, dd, dd, dd, dd, dd, dd, dd, dd, dd, dd, dd, dd, dd, dd, dd, dd, dd, dd, dd, dd, dd, dd, dd, dd, dd, dd, dd, dd, dd, dd, dd, dd, dd, dd, dd, dd, dd, dd, dd, dd, dd, dd, dd, dd, dd, dd, dd, dd, dd, dd, dd, dd, dd, dd], [.gh 0 (.ref 2 0), .gh 1 (.srf 4), .box [.d (.v (.int .u32 v_r923.2.2.fAt)), .srf 3, .d (.v (.int .i64 v_r923.2.2.fMay))], .row 5 1 (v_w1460.map (eI .u8)), .none, .box ((cS_api_Regs (S_api_Regs.mk v_r869.fR (wi .u32 (v_r869.fPc + (wi .u32 v_r1167.1.fC))) v_r869.fRing)).map FV.d), .box ((cS_api_Regs (S_api_Regs.mk (fun (_ : Fin 8) => 0) 0 0)).map FV.d), .box [.d (.v (.int .i64 0)), .d (.v (.int .u32 0))], .box [.d (.v (.int .i64 v_r923.2.1.fKind)), .d (.v (.int .u32 v_r923.2.1.fAddr))]]⟩
  | .x7 v_w1462 => ⟨[dd, dd, .ref 5 0, dd, .ref 6 0, .ref 7 0, dd, .ref 8 0, dd, dd, dd, dd, dd, dd, dd, dd, dd, dd, dd, dd, dd, dd, dd, dd, dd, dd, dd, dd, dd, dd, dd, dd, dd, dd, dd, dd, dd, dd, dd, dd, dd, dd, dd, dd, dd, dd, dd, dd, dd, dd, dd, dd, dd, dd, dd, dd, dd, dd, dd, dd, dd, dd, dd, dd, dd, dd, dd, dd, dd, dd, dd, dd, dd, dd, dd, dd, dd, dd, dd, dd, dd, dd, dd, dd, dd, dd, dd, dd, dd, dd, dd, dd, dd, dd, dd, dd, dd, dd, dd, dd, dd, dd, dd, dd, dd, dd, dd, dd, dd, dd, dd, dd, dd, dd, dd, dd, dd, dd, dd, dd, dd, dd, dd, dd, dd, dd, dd, dd, dd, dd, dd, dd, dd, dd, dd, dd, dd, dd, dd, dd, dd, dd, dd, dd, dd, dd, dd, dd, dd, dd, dd, dd, dd, dd, dd, dd, dd, dd, dd, dd, dd, dd, dd, dd, dd, dd, dd, dd, dd, dd, dd, dd, dd, dd, dd, dd, dd, dd, dd, dd, dd, dd, dd, dd, dd, dd, dd, dd, dd, dd, dd, dd, dd, dd, dd, dd, dd, dd, dd, dd, dd, dd, dd, dd, dd, dd, dd, dd, dd, dd, dd, dd, dd, dd, dd, dd, dd, dd, dd, dd, dd, dd, dd, dd, dd, dd, dd], [.gh 0 (.ref 2 0), .gh 1 (.srf 4), .box [.d (.v (.int .u32 v_r923.2.2.fAt)), .srf 3, .d (.v (.int .i64 v_r923.2.2.fMay))], .row 5 1 (v_w1462.map (eI .u8)), .none, .box ((cS_api_Regs (S_api_Regs.mk (setA v_r869.fR v_r1167.1.fA (wi .u32 (v_r869.fPc + 4))) (wi .u32 (v_r869.fPc + (wi .u32 v_r1167.1.fC))) v_r869.fRing)).map FV.d), .box ((cS_api_Regs (S_api_Regs.mk (fun (_ : Fin 8) => 0) 0 0)).map FV.d), .box [.d (.v (.int .i64 0)), .d (.v (.int .u32 0))], .box [.d (.v (.int .i64 v_r923.2.1.fKind)), .d (.v (.int .u32 v_r923.2.1.fAddr))]]⟩
  | .x8 v_w1464 => ⟨[dd, dd, .ref 5 0, dd, .ref 6 0, .ref 7 0, dd, .ref 8 0, dd, dd, dd, dd, dd, dd, dd, dd, dd, dd, dd, dd, dd, dd, dd, dd, dd, dd, dd, dd, dd, dd, dd, dd, dd, dd, dd, dd, dd, dd, dd, dd, dd, dd, dd, dd, dd, dd, dd, dd, dd, dd, dd, dd, dd, dd, dd, dd, dd, dd, dd, dd, dd, dd, dd, dd, dd, dd, dd, dd, dd, dd, dd, dd, dd, dd, dd, dd, dd, dd, dd, dd, dd, dd, dd, dd, dd, dd, dd, dd, dd, dd, dd, dd, dd, dd, dd, dd, dd, dd, dd, dd, dd, dd, dd, dd, dd, dd, dd, dd, dd, dd, dd, dd, dd, dd, dd, dd, dd, dd, dd, dd, dd, dd, dd, dd, dd, dd, dd, dd, dd, dd, dd, dd, dd, dd, dd, dd, dd, dd, dd, dd, dd, dd, dd, dd, dd, dd, dd, dd, dd, dd, dd, dd, dd, dd, dd, dd, dd, dd, dd, dd, dd, dd, dd, dd, dd, dd, dd, dd, dd, dd, dd, dd, dd, dd, dd, dd, dd, dd, dd, dd, dd, dd, dd, dd, dd, dd, dd, dd, dd, dd, dd, dd, dd, dd, dd, dd, dd, dd, dd, dd, dd, dd, dd, dd, dd, dd, dd, dd, dd, dd, dd, dd, dd, dd, dd, dd, dd, dd, dd, dd, dd, dd, dd, dd, dd, dd, dd], [.gh 0 (.ref 2 0), .gh 1 (.srf 4), .box [.d (.v (.int .u32 v_r923.2.2.fAt)), .srf 3, .d (.v (.int .i64 v_r923.2.2.fMay))], .row 5 1 (v_w1464.map (eI .u8)), .none, .box ((cS_api_Regs (S_api_Regs.mk v_r869.fR v_y1180 v_r869.fRing)).map FV.d), .box ((cS_api_Regs (S_api_Regs.mk (fun (_ : Fin 8) => 0) 0 0)).map FV.d), .box [.d (.v (.int .i64 0)), .d (.v (.int .u32 0))], .box [.d (.v (.int .i64 v_r923.2.1.fKind)), .d (.v (.int .u32 v_r923.2.1.fAddr))]]⟩
  | .x9 v_w1466 => ⟨[dd, dd, .ref 5 0, dd, .ref 6 0, .ref 7 0, dd, .ref 8 0, dd, dd, dd, dd, dd, dd, dd, dd, dd, dd, dd, dd, dd, dd, dd, dd, dd, dd, dd, dd, dd, dd, dd, dd, dd, dd, dd, dd, dd, dd, dd, dd, dd, dd, dd, dd, dd, dd, dd, dd, dd, dd, dd, dd, dd, dd, dd, dd, dd, dd, dd, dd, dd, dd, dd, dd, dd, dd, dd, dd, dd, dd, dd, dd, dd, dd, dd, dd, dd, dd, dd, dd, dd, dd, dd, dd, dd, dd, dd, dd, dd, dd, dd, dd, dd, dd, dd, dd, dd, dd, dd, dd, dd, dd, dd, dd, dd, dd, dd, dd, dd, dd, dd, dd, dd, dd, dd, dd, dd, dd, dd, dd, dd, dd, dd, dd, dd, dd, dd, dd, dd, dd, dd, dd, dd, dd, dd, dd, dd, dd, dd, dd, dd, dd, dd, dd, dd, dd, dd, dd, dd, dd, dd, dd, dd, dd, dd, dd, dd, dd, dd, dd, dd, dd, dd, dd, dd, dd, dd, dd, dd, dd, dd, dd, dd, dd, dd, dd, dd, dd, dd, dd, dd, dd, dd, dd, dd, dd, dd, dd, dd, dd, dd, dd, dd, dd, dd, dd, dd, dd, dd, dd, dd, dd, dd, dd, dd, dd, dd, dd, dd, dd, dd, dd, dd, dd, dd, dd, dd, dd, dd, dd, dd, dd, dd, dd, dd, dd, dd], [.gh 0 (.ref 2 0), .gh 1 (.srf 4), .box [.d (.v (.int .u32 v_r923.2.2.fAt)), .srf 3, .d (.v (.int .i64 v_r923.2.2.fMay))], .row 5 1 (v_w1466.map (eI .u8)), .none, .box ((cS_api_Regs (S_api_Regs.mk v_r869.fR (wi .u32 (v_r869.fPc + 4)) v_r869.fRing)).map FV.d), .box ((cS_api_Regs (S_api_Regs.mk (fun (_ : Fin 8) => 0) 0 0)).map FV.d), .box [.d (.v (.int .i64 0)), .d (.v (.int .u32 0))], .box [.d (.v (.int .i64 1)), .d (.v (.int .u32 v_r923.2.1.fAddr))]]⟩
  | .x10 v_w1468 => ⟨[dd, dd, .ref 5 0, dd, .ref 6 0, .ref 7 0, dd, .ref 8 0, dd, dd, dd, dd, dd, dd, dd, dd, dd, dd, dd, dd, dd, dd, dd, dd, dd, dd, dd, dd, dd, dd, dd, dd, dd, dd, dd, dd, dd, dd, dd, dd, dd, dd, dd, dd, dd, dd, dd, dd, dd, dd, dd, dd, dd, dd, dd, dd, dd, dd, dd, dd, dd, dd, dd, dd, dd, dd, dd, dd, dd, dd, dd, dd, dd, dd, dd, dd, dd, dd, dd, dd, dd, dd, dd, dd, dd, dd, dd, dd, dd, dd, dd, dd, dd, dd, dd, dd, dd, dd, dd, dd, dd, dd, dd, dd, dd, dd, dd, dd, dd, dd, dd, dd, dd, dd, dd, dd, dd, dd, dd, dd, dd, dd, dd, dd, dd, dd, dd, dd, dd, dd, dd, dd, dd, dd, dd, dd, dd, dd, dd, dd, dd, dd, dd, dd, dd, dd, dd, dd, dd, dd, dd, dd, dd, dd, dd, dd, dd, dd, dd, dd, dd, dd, dd, dd, dd, dd, dd, dd, dd, dd, dd, dd, dd, dd, dd, dd, dd, dd, dd, dd, dd, dd, dd, dd, dd, dd, dd, dd, dd, dd, dd, dd, dd, dd, dd, dd, dd, dd, dd, dd, dd, dd, dd, dd, dd, dd, dd, dd, dd, dd, dd, dd, dd, dd, dd, dd, dd, dd, dd, dd, dd, dd, dd, dd, dd, dd, dd], [.gh 0 (.ref 2 0), .gh 1 (.srf 4), .box [.d (.v (.int .u32 v_r923.2.2.fAt)), .srf 3, .d (.v (.int .i64 v_r923.2.2.fMay))], .row 5 1 (v_w1468.map (eI .u8)), .none, .box ((cS_api_Regs (S_api_Regs.mk v_r869.fR v_y1180 1)).map FV.d), .box ((cS_api_Regs (S_api_Regs.mk (fun (_ : Fin 8) => 0) 0 0)).map FV.d), .box [.d (.v (.int .i64 0)), .d (.v (.int .u32 0))], .box [.d (.v (.int .i64 v_r923.2.1.fKind)), .d (.v (.int .u32 v_r923.2.1.fAddr))]]⟩
  | .x11 v_w1470 => ⟨[dd, dd, .ref 5 0, dd, .ref 6 0, .ref 7 0, dd, .ref 8 0, dd, dd, dd, dd, dd, dd, dd, dd, dd, dd, dd, dd, dd, dd, dd, dd, dd, dd, dd, dd, dd, dd, dd, dd, dd, dd, dd, dd, dd, dd, dd, dd, dd, dd, dd, dd, dd, dd, dd, dd, dd, dd, dd, dd, dd, dd, dd, dd, dd, dd, dd, dd, dd, dd, dd, dd, dd, dd, dd, dd, dd, dd, dd, dd, dd, dd, dd, dd, dd, dd, dd, dd, dd, dd, dd, dd, dd, dd, dd, dd, dd, dd, dd, dd, dd, dd, dd, dd, dd, dd, dd, dd, dd, dd, dd, dd, dd, dd, dd, dd, dd, dd, dd, dd, dd, dd, dd, dd, dd, dd, dd, dd, dd, dd, dd, dd, dd, dd, dd, dd, dd, dd, dd, dd, dd, dd, dd, dd, dd, dd, dd, dd, dd, dd, dd, dd, dd, dd, dd, dd, dd, dd, dd, dd, dd, dd, dd, dd, dd, dd, dd, dd, dd, dd, dd, dd, dd, dd, dd, dd, dd, dd, dd, dd, dd, dd, dd, dd, dd, dd, dd, dd, dd, dd, dd, dd, dd, dd, dd, dd, dd, dd, dd, dd, dd, dd, dd, dd, dd, dd, dd, dd, dd, dd, dd, dd, dd, dd, dd, dd, dd, dd, dd, dd, dd, dd, dd, dd, dd, dd, dd, dd, dd, dd, dd, dd, dd, dd, dd], [.gh 0 (.ref 2 0), .gh 1 (.srf 4), .box [.d (.v (.int .u32 v_r923.2.2.fAt)), .srf 3, .d (.v (.int .i64 v_r923.2.2.fMay))], .row 5 1 (v_w1470.map (eI .u8)), .none, .box ((cS_api_Regs (S_api_Regs.mk v_r869.fR (wi .u32 (v_r869.fPc + 4)) v_r869.fRing)).map FV.d), .box ((cS_api_Regs (S_api_Regs.mk (fun (_ : Fin 8) => 0) 0 0)).map FV.d), .box [.d (.v (.int .i64 0)), .d (.v (.int .u32 0))], .box [.d (.v (.int .i64 v_r923.2.1.fKind)), .d (.v (.int .u32 v_r923.2.1.fAddr))]]⟩
def G_ringref5_StepOf_h_C5_hd (v_r869 : S_api_Regs) (v_y1180 : Int) (v_y1181 : Int) (v_r1167 : (S_api_Ins × Int)) (v_r923 : (Int × S_api_Trap × S_ringref5_Room)) (v_z1191 : (List Int))  : PS := ⟨[dd, dd, .ref 5 0, dd, .ref 6 0, .ref 7 0, dd, .ref 8 0, .ref 9 0, dd, dd, .d (.v (.int .u32 v_r869.fPc)), .d (.v (.int .u32 v_y1180)), .d (.v (.int .u32 v_y1181)), .d (.v (.int .u32 (wi .u32 v_r1167.1.fC))), dd, dd, dd, dd, dd, dd, dd, dd, dd, dd, dd, dd, dd, dd, dd, dd, dd, dd, dd, dd, dd, dd, dd, dd, dd, dd, dd, dd, dd, dd, dd, dd, dd, dd, dd, dd, dd, dd, dd, dd, dd, dd, dd, dd, dd, dd, dd, dd, dd, dd, dd, dd, dd, dd, dd, dd, dd, dd, dd, dd, dd, dd, dd, dd, dd, dd, dd, dd, dd, dd, dd, dd, dd, dd, dd, dd, dd, dd, dd, dd, dd, dd, dd, dd, dd, dd, dd, dd, dd, dd, dd, dd, dd, dd, dd, dd, dd, dd, dd, dd, dd, dd, dd, dd, dd, dd, dd, dd, dd, dd, dd, dd, dd, dd, dd, dd, dd, dd, dd, dd, dd, dd, dd, dd, dd, dd, dd, dd, dd, dd, dd, dd, dd, dd, dd, dd, dd, dd, dd, dd, dd, dd, dd, dd, dd, dd, dd, dd, dd, dd, dd, dd, dd, dd, dd, dd, dd, dd, dd, dd, dd, dd, dd, dd, dd, dd, dd, dd, dd, dd, dd, dd, dd, dd, dd, dd, dd, dd, dd, dd, dd, dd, dd, dd, dd, dd, dd, dd, dd, dd, dd, dd, dd, dd, dd, dd, dd, dd, dd, dd, dd, dd, dd, dd, dd, dd, dd, dd, dd, dd, dd, dd], [.gh 0 (.ref 2 0), .gh 1 (.srf 4), .box [.d (.v (.int .u32 v_r923.2.2.fAt)), .srf 3, .d (.v (.int .i64 v_r923.2.2.fMay))], .row 5 1 (v_z1191.map (eI .u8)), .none, .box ((cS_api_Regs (S_api_Regs.mk v_r869.fR (wi .u32 (v_r869.fPc + 4)) v_r869.fRing)).map FV.d), .box ((cS_api_Regs (S_api_Regs.mk (fun (_ : Fin 8) => 0) 0 0)).map FV.d), .box [.d (.v (.int .i64 0)), .d (.v (.int .u32 0))], .box [.d (.v (.int .i64 v_r923.2.1.fKind)), .d (.v (.int .u32 v_r923.2.1.fAddr))], .box [.d (.v (.int .i64 v_r1167.1.fOp)), .d (.v (.int .i64 v_r1167.1.fA)), .d (.v (.int .i64 v_r1167.1.fB)), .d (.v (.int .i64 v_r1167.1.fC))]]⟩
def G_ringref5_StepOf_h_C5 (n : Nat) (v_r869 : S_api_Regs) (v_y1180 : Int) (v_y1181 : Int) (v_r1167 : (S_api_Ins × Int)) (v_r923 : (Int × S_api_Trap × S_ringref5_Room)) (v_z1191 : (List Int)) : Option G_ringref5_StepOf_h_C5_R :=
  (G_ringref5_StepOf_h_C4 n v_r869 v_y1180 v_y1181 v_r1167 v_r923 v_z1191).bind fun v_o1444 => match v_o1444 with
  | .x0 v_z1445 =>
    some (.x0 v_z1445)
  | .x1 v_z1447 =>
    some (.x1 v_z1447)
  | .x2 v_z1449 =>
    some (.x2 v_z1449)
  | .x3 v_z1451 =>
    some (.x3 v_z1451)
  | .x4 v_z1453 v_z1454 =>
    some (.x4 v_z1453 v_z1454)
  | .x5 v_z1457 =>
    some (.x5 v_z1457)
  | .x6 v_z1459 =>
    some (.x6 v_z1459)
  | .x7 v_z1461 =>
    some (.x7 v_z1461)
  | .x8 v_z1463 =>
    some (.x8 v_z1463)
  | .x9 v_z1465 =>
    some (.x9 v_z1465)
  | .x10 v_z1467 =>
    some (.x10 v_z1467)
  | .x11 v_z1469 =>
    some (.x11 v_z1469)
theorem G_ringref5_StepOf_h_C5_ok {Fi : Ex → PS → Prop} (hF : KC 227 Fi) (ks : List Fr) (n : Nat) (v_r869 : S_api_Regs) (v_y1180 : Int) (v_y1181 : Int) (v_r1167 : (S_api_Ins × Int)) (v_r923 : (Int × S_api_Trap × S_ringref5_Room)) (v_z1191 : (List Int))  (o : G_ringref5_StepOf_h_C5_R) (h : G_ringref5_StepOf_h_C5 n v_r869 v_y1180 v_y1181 v_r1167 v_r923 v_z1191 = some o) (q : RunE Try.prog 227 Fi ks (G_ringref5_StepOf_h_C5_ex o) (G_ringref5_StepOf_h_C5_st v_r869 v_y1180 v_y1181 v_r1167 v_r923 v_z1191 o)) : RunE Try.prog 227 Fi (.s (cL (cR (cR (cR (cR (cR (cR (cR (cR (cR (cR (cR (bodyOf Try.f8))))))))))))) :: ks) .normal (G_ringref5_StepOf_h_C5_hd v_r869 v_y1180 v_y1181 v_r1167 v_r923 v_z1191) := by
  unfold G_ringref5_StepOf_h_C5 at h
  obtain ⟨v_o1444, h1874, h⟩ := bind_some h
  refine pkk_sound TTok mix hF 3 (hs := [.c]) (ts := []) (s := [0, 1, 2, 3, 4, 5, 6, 7, 8, 9]) (l := [2, 4, 5, 7, 8, 11, 12, 13, 14, 110]) (by kernel_rfl) (by kernel_rfl) .nil (G_ringref5_StepOf_h_C4_ok hF (.b 0 :: ks) n v_r869 v_y1180 v_y1181 v_r1167 v_r923 v_z1191 _ h1874 ?_)
  cases v_o1444 with
  | x0 v_z1445 =>
    try dsimp only at h
    cases h
    exact pkk_sound TTok mix hF 1 (hs := []) (ts := []) (s := [0, 1, 2, 3, 4, 5, 6, 7, 8]) (l := [2, 4, 5, 7]) (by kernel_rfl) (by kernel_rfl) .nil q
  | x1 v_z1447 =>
    try dsimp only at h
    cases h
    exact pkk_sound TTok mix hF 1 (hs := []) (ts := []) (s := [0, 1, 2, 3, 4, 5, 6, 7, 8]) (l := [2, 4, 5, 7]) (by kernel_rfl) (by kernel_rfl) .nil q
  | x2 v_z1449 =>
    try dsimp only at h
    cases h
    exact pkk_sound TTok mix hF 1 (hs := []) (ts := []) (s := [0, 1, 2, 3, 4, 5, 6, 7, 8]) (l := [2, 4, 5, 7]) (by kernel_rfl) (by kernel_rfl) .nil q
  | x3 v_z1451 =>
    try dsimp only at h
    cases h
    exact pkk_sound TTok mix hF 1 (hs := []) (ts := []) (s := [0, 1, 2, 3, 4, 5, 6, 7, 8]) (l := [2, 4, 5, 7]) (by kernel_rfl) (by kernel_rfl) .nil q
  | x4 v_z1453 v_z1454 =>
    try dsimp only at h
    cases h
    exact pkk_sound TTok mix hF 1 (hs := []) (ts := []) (s := [0, 1, 2, 3, 4, 5, 6, 7, 8]) (l := [2, 4, 5, 7]) (by kernel_rfl) (by kernel_rfl) .nil q
  | x5 v_z1457 =>
    try dsimp only at h
    cases h
    exact pkk_sound TTok mix hF 1 (hs := []) (ts := []) (s := [0, 1, 2, 3, 4, 5, 6, 7, 8]) (l := [2, 4, 5, 7]) (by kernel_rfl) (by kernel_rfl) .nil q
  | x6 v_z1459 =>
    try dsimp only at h
    cases h
    exact pkk_sound TTok mix hF 1 (hs := []) (ts := []) (s := [0, 1, 2, 3, 4, 5, 6, 7, 8]) (l := [2, 4, 5, 7]) (by kernel_rfl) (by kernel_rfl) .nil q
  | x7 v_z1461 =>
    try dsimp only at h
    cases h
    exact pkk_sound TTok mix hF 1 (hs := []) (ts := []) (s := [0, 1, 2, 3, 4, 5, 6, 7, 8]) (l := [2, 4, 5, 7]) (by kernel_rfl) (by kernel_rfl) .nil q
  | x8 v_z1463 =>
    try dsimp only at h
    cases h
    exact pkk_sound TTok mix hF 1 (hs := []) (ts := []) (s := [0, 1, 2, 3, 4, 5, 6, 7, 8]) (l := [2, 4, 5, 7]) (by kernel_rfl) (by kernel_rfl) .nil q
  | x9 v_z1465 =>
    try dsimp only at h
    cases h
    exact pkk_sound TTok mix hF 1 (hs := []) (ts := []) (s := [0, 1, 2, 3, 4, 5, 6, 7, 8]) (l := [2, 4, 5, 7]) (by kernel_rfl) (by kernel_rfl) .nil q
  | x10 v_z1467 =>
    try dsimp only at h
    cases h
    exact pkk_sound TTok mix hF 1 (hs := []) (ts := []) (s := [0, 1, 2, 3, 4, 5, 6, 7, 8]) (l := [2, 4, 5, 7]) (by kernel_rfl) (by kernel_rfl) .nil q
  | x11 v_z1469 =>
    try dsimp only at h
    cases h
    exact pkk_sound TTok mix hF 1 (hs := []) (ts := []) (s := [0, 1, 2, 3, 4, 5, 6, 7, 8]) (l := [2, 4, 5, 7]) (by kernel_rfl) (by kernel_rfl) .nil q
inductive G_ringref5_StepOf_h_C6_R where
  | x0 (v_x1486 : Bool) (v_w1487 : (List Int))
def G_ringref5_StepOf_h_C6_ex : G_ringref5_StepOf_h_C6_R → Ex
  | .x0 _ _ => .normal
def G_ringref5_StepOf_h_C6_st (v_r869 : S_api_Regs) (v_y1180 : Int) (v_y1181 : Int) (v_r1167 : (S_api_Ins × Int)) (v_r923 : (Int × S_api_Trap × S_ringref5_Room)) (v_z1179 : (List Int)) : G_ringref5_StepOf_h_C6_R → PS
  | .x0 v_x1486 v_w1487 => ⟨[dd, .ref 2 0, .ref 5 0, dd, .ref 6 0, .ref 7 0, dd, .ref 8 0, .ref 9 0, dd, .ref 10 0, .d (.v (.int .u32 v_r869.fPc)), .d (.v (.int .u32 v_y1180)), .d (.v (.int .u32 v_y1181)), .d (.v (.int .u32 (wi .u32 v_r1167.1.fC))), dd, dd, dd, dd, dd, dd, dd, dd, dd, dd, dd, dd, dd, dd, dd, dd, dd, dd, dd, dd, dd, dd, dd, dd, dd, dd, dd, dd, dd, dd, dd, dd, dd, dd, dd, dd, dd, dd, dd, dd, dd, dd, dd, dd, dd, dd, dd, dd, dd, dd, dd, dd, dd, dd, dd, dd, dd, dd, dd, dd, dd, dd, dd, dd, dd, dd, dd, dd, dd, dd, dd, dd, dd, dd, dd, dd, dd, .d (.v (.bool v_x1486)), dd, dd, dd, dd, dd, dd, dd, dd, dd, dd, dd, dd, dd, dd, dd, dd, dd, dd, dd, dd, dd, dd, dd, dd, dd, dd, dd, dd, dd, dd, dd, dd, dd, dd, dd, dd, dd, dd, dd, dd, dd, dd, dd, dd, dd, dd, dd, dd, dd, dd, dd, dd, dd, dd, dd, dd, dd, dd, dd, dd, dd, dd, dd, dd, dd, dd, dd, dd, dd, dd, dd, dd, dd, dd, dd, dd, dd, dd, dd, dd, dd, dd, dd, dd, dd, dd, dd, dd, dd, dd, dd, dd, dd, dd, dd, dd, dd, dd, dd, dd, dd, dd, dd, dd, dd, dd, dd, dd, dd, dd, dd, dd, dd, dd, dd, dd, dd, dd, dd, dd, dd, dd, dd, dd, dd, dd, dd, dd, dd, dd, dd, dd, dd, dd], [.gh 0 (.ref 2 0), .gh 1 (.srf 4), .box [.d (.v (.int .u32 v_r923.2.2.fAt)), .srf 3, .d (.v (.int .i64 v_r923.2.2.fMay))], .row 5 1 (v_w1487.map (eI .u8)), .none, .box ((cS_api_Regs (S_api_Regs.mk v_r869.fR (wi .u32 (v_r869.fPc + 4)) v_r869.fRing)).map FV.d), .box ((cS_api_Regs (S_api_Regs.mk (fun (_ : Fin 8) => 0) 0 0)).map FV.d), .box [.d (.v (.int .i64 0)), .d (.v (.int .u32 0))], .box [.d (.v (.int .i64 v_r923.2.1.fKind)), .d (.v (.int .u32 v_r923.2.1.fAddr))], .box [.d (.v (.int .i64 v_r1167.1.fOp)), .d (.v (.int .i64 v_r1167.1.fA)), .d (.v (.int .i64 v_r1167.1.fB)), .d (.v (.int .i64 v_r1167.1.fC))], .box ((cS_api_Regs v_r869).map FV.d)]⟩
def G_ringref5_StepOf_h_C6_hd (v_r869 : S_api_Regs) (v_y1180 : Int) (v_y1181 : Int) (v_r1167 : (S_api_Ins × Int)) (v_r923 : (Int × S_api_Trap × S_ringref5_Room)) (v_z1179 : (List Int))  : PS := ⟨[dd, .ref 2 0, .ref 5 0, dd, .ref 6 0, .ref 7 0, dd, .ref 8 0, .ref 9 0, dd, .ref 10 0, .d (.v (.int .u32 v_r869.fPc)), .d (.v (.int .u32 v_y1180)), .d (.v (.int .u32 v_y1181)), .d (.v (.int .u32 (wi .u32 v_r1167.1.fC))), dd, dd, dd, dd, dd, dd, dd, dd, dd, dd, dd, dd, dd, dd, dd, dd, dd, dd, dd, dd, dd, dd, dd, dd, dd, dd, dd, dd, dd, dd, dd, dd, dd, dd, dd, dd, dd, dd, dd, dd, dd, dd, dd, dd, dd, dd, dd, dd, dd, dd, dd, dd, dd, dd, dd, dd, dd, dd, dd, dd, dd, dd, dd, dd, dd, dd, dd, dd, dd, dd, dd, dd, dd, dd, dd, dd, dd, dd, dd, dd, dd, dd, dd, dd, dd, dd, dd, dd, dd, dd, dd, dd, dd, dd, dd, dd, dd, dd, dd, dd, dd, dd, dd, dd, dd, dd, dd, dd, dd, dd, dd, dd, dd, dd, dd, dd, dd, dd, dd, dd, dd, dd, dd, dd, dd, dd, dd, dd, dd, dd, dd, dd, dd, dd, dd, dd, dd, dd, dd, dd, dd, dd, dd, dd, dd, dd, dd, dd, dd, dd, dd, dd, dd, dd, dd, dd, dd, dd, dd, dd, dd, dd, dd, dd, dd, dd, dd, dd, dd, dd, dd, dd, dd, dd, dd, dd, dd, dd, dd, dd, dd, dd, dd, dd, dd, dd, dd, dd, dd, dd, dd, dd, dd, dd, dd, dd, dd, dd, dd, dd, dd, dd, dd, dd, dd, dd, dd, dd, dd, dd, dd, dd], [.gh 0 (.ref 2 0), .gh 1 (.srf 4), .box [.d (.v (.int .u32 v_r923.2.2.fAt)), .srf 3, .d (.v (.int .i64 v_r923.2.2.fMay))], .row 5 1 (v_z1179.map (eI .u8)), .none, .box ((cS_api_Regs (S_api_Regs.mk v_r869.fR (wi .u32 (v_r869.fPc + 4)) v_r869.fRing)).map FV.d), .box ((cS_api_Regs (S_api_Regs.mk (fun (_ : Fin 8) => 0) 0 0)).map FV.d), .box [.d (.v (.int .i64 0)), .d (.v (.int .u32 0))], .box [.d (.v (.int .i64 v_r923.2.1.fKind)), .d (.v (.int .u32 v_r923.2.1.fAddr))], .box [.d (.v (.int .i64 v_r1167.1.fOp)), .d (.v (.int .i64 v_r1167.1.fA)), .d (.v (.int .i64 v_r1167.1.fB)), .d (.v (.int .i64 v_r1167.1.fC))], .box ((cS_api_Regs v_r869).map FV.d)]⟩
def G_ringref5_StepOf_h_C6 (n : Nat) (v_r869 : S_api_Regs) (v_y1180 : Int) (v_y1181 : Int) (v_r1167 : (S_api_Ins × Int)) (v_r923 : (Int × S_api_Trap × S_ringref5_Room)) (v_z1179 : (List Int)) : Option G_ringref5_StepOf_h_C6_R :=
  if v_r1167.1.fOp ≥ 15 then
   if v_r1167.1.fOp ≤ 18 then
    some (.x0 true v_z1179)
   else
    some (.x0 (v_r1167.1.fOp == 25) v_z1179)
  else
   some (.x0 (v_r1167.1.fOp == 25) v_z1179)
theorem G_ringref5_StepOf_h_C6_ok {Fi : Ex → PS → Prop} (hF : KC 227 Fi) (ks : List Fr) (n : Nat) (v_r869 : S_api_Regs) (v_y1180 : Int) (v_y1181 : Int) (v_r1167 : (S_api_Ins × Int)) (v_r923 : (Int × S_api_Trap × S_ringref5_Room)) (v_z1179 : (List Int))  (o : G_ringref5_StepOf_h_C6_R) (h : G_ringref5_StepOf_h_C6 n v_r869 v_y1180 v_y1181 v_r1167 v_r923 v_z1179 = some o) (q : RunE Try.prog 227 Fi ks (G_ringref5_StepOf_h_C6_ex o) (G_ringref5_StepOf_h_C6_st v_r869 v_y1180 v_y1181 v_r1167 v_r923 v_z1179 o)) : RunE Try.prog 227 Fi (.s (cL (cL (cR (cR (cR (cR (cR (cR (cR (cR (cR (cR (bodyOf Try.f8))))))))))))) :: ks) .normal (G_ringref5_StepOf_h_C6_hd v_r869 v_y1180 v_y1181 v_r1167 v_r923 v_z1179) := by
  unfold G_ringref5_StepOf_h_C6 at h
  by_cases h1878 : v_r1167.1.fOp ≥ 15
  · rw [if_pos h1878] at h
    by_cases h1879 : v_r1167.1.fOp ≤ 18
    · rw [if_pos h1879] at h
      cases h
      exact pkk_sound TTok mix hF 1 (hs := [.c, .t true, .c, .c, .c, .t true, .c, .c]) (ts := []) (s := [0, 1, 2, 3, 4, 5, 6, 7, 8, 9, 10]) (l := [1, 2, 4, 5, 7, 8, 10, 11, 12, 13, 14, 92]) (by kernel_rfl) (by kernel_rfl) (.cons (dt h1878) (.cons (dt h1879) .nil)) q
    · rw [if_neg h1879] at h
      cases h
      exact pkk_sound TTok mix hF 1 (hs := [.c, .t true, .c, .c, .c, .t false, .c, .c, .c]) (ts := []) (s := [0, 1, 2, 3, 4, 5, 6, 7, 8, 9, 10]) (l := [1, 2, 4, 5, 7, 8, 10, 11, 12, 13, 14, 92]) (by kernel_rfl) (by kernel_rfl) (.cons (dt h1878) (.cons (df h1879) .nil)) q
  · rw [if_neg h1878] at h
    cases h
    exact pkk_sound TTok mix hF 1 (hs := [.c, .t false, .c, .c, .c, .c, .c, .c]) (ts := []) (s := [0, 1, 2, 3, 4, 5, 6, 7, 8, 9, 10]) (l := [1, 2, 4, 5, 7, 8, 10, 11, 12, 13, 14, 92]) (by kernel_rfl) (by kernel_rfl) (.cons (df h1878) .nil) q
inductive G_ringref5_StepOf_h_C7_R where
  | x0 (v_x1610 : Bool) (v_w1611 : (List Int))
def G_ringref5_StepOf_h_C7_ex : G_ringref5_StepOf_h_C7_R → Ex
  | .x0 _ _ => .normal
def G_ringref5_StepOf_h_C7_st (v_r869 : S_api_Regs) (v_y1180 : Int) (v_y1181 : Int) (v_r1167 : (S_api_Ins × Int)) (v_r923 : (Int × S_api_Trap × S_ringref5_Room)) (v_z1494 : (List Int)) : G_ringref5_StepOf_h_C7_R → PS
  | .x0 v_x1610 v_w1611 => ⟨[dd, dd, .ref 5 0, dd, .ref 6 0, .ref 7 0, dd, .ref 8 0, .ref 9 0, dd, dd, .d (.v (.int .u32 v_r869.fPc)), .d (.v (.int .u32 v_y1180)), dd, .d (.v (.int .u32 (wi .u32 v_r1167.1.fC))), dd, dd, dd, dd, dd, dd, dd, dd, dd, dd, dd, dd, dd, dd, dd, dd, dd, dd, dd, dd, dd, dd, dd, dd, dd, dd, dd, dd, dd, dd, dd, dd, dd, dd, dd, dd, dd, dd, dd, dd, dd, dd, dd, dd, dd, dd, dd, dd, dd, dd, dd, dd, dd, dd, dd, dd, dd, dd, dd, dd, dd, dd, dd, dd, dd, dd, dd, dd, dd, dd, dd, dd, dd, dd, dd, dd, dd, dd, dd, dd, dd, dd, dd, dd, dd, dd, dd, dd, dd, dd, dd, dd, dd, dd, dd, dd, dd, dd, dd, dd, dd, dd, dd, dd, dd, dd, dd, dd, dd, dd, dd, dd, dd, dd, dd, dd, dd, dd, dd, dd, dd, dd, dd, dd, dd, dd, dd, dd, dd, dd, dd, dd, dd, dd, dd, dd, dd, dd, dd, dd, dd, dd, dd, dd, dd, dd, dd, dd, dd, dd, dd, dd, dd, dd, dd, .d (.v (.bool v_x1610)), dd, dd, dd, dd, dd, dd, dd, dd, dd, dd, dd, dd, dd, dd, dd, dd, dd, dd, dd, dd, dd, dd, dd, dd, dd, dd, dd, dd, dd, dd, dd, dd, dd, dd, dd, dd, dd, dd, dd, dd, dd, dd, dd, dd, dd, dd, dd, dd, dd, dd, dd, dd, dd, dd, dd, dd], [.gh 0 (.ref 2 0), .gh 1 (.srf 4), .box [.d (.v (.int .u32 v_r923.2.2.fAt)), .srf 3, .d (.v (.int .i64 v_r923.2.2.fMay))], .row 5 1 (v_w1611.map (eI .u8)), .none, .box ((cS_api_Regs (S_api_Regs.mk v_r869.fR (wi .u32 (v_r869.fPc + 4)) v_r869.fRing)).map FV.d), .box ((cS_api_Regs (S_api_Regs.mk (fun (_ : Fin 8) => 0) 0 0)).map FV.d), .box [.d (.v (.int .i64 0)), .d (.v (.int .u32 0))], .box [.d (.v (.int .i64 v_r923.2.1.fKind)), .d (.v (.int .u32 v_r923.2.1.fAddr))], .box [.d (.v (.int .i64 v_r1167.1.fOp)), .d (.v (.int .i64 v_r1167.1.fA)), .d (.v (.int .i64 v_r1167.1.fB)), .d (.v (.int .i64 v_r1167.1.fC))]]⟩
def G_ringref5_StepOf_h_C7_hd (v_r869 : S_api_Regs) (v_y1180 : Int) (v_y1181 : Int) (v_r1167 : (S_api_Ins × Int)) (v_r923 : (Int × S_api_Trap × S_ringref5_Room)) (v_z1494 : (List Int))  : PS := ⟨[dd, dd, .ref 5 0, dd, .ref 6 0, .ref 7 0, dd, .ref 8 0, .ref 9 0, dd, dd, .d (.v (.int .u32 v_r869.fPc)), .d (.v (.int .u32 v_y1180)), .d (.v (.int .u32 v_y1181)), .d (.v (.int .u32 (wi .u32 v_r1167.1.fC))), dd, dd, dd, dd, dd, dd, dd, dd, dd, dd, dd, dd, dd, dd, dd, dd, dd, dd, dd, dd, dd, dd, dd, dd, dd, dd, dd, dd, dd, dd, dd, dd, dd, dd, dd, dd, dd, dd, dd, dd, dd, dd, dd, dd, dd, dd, dd, dd, dd, dd, dd, dd, dd, dd, dd, dd, dd, dd, dd, dd, dd, dd, dd, dd, dd, dd, dd, dd, dd, dd, dd, dd, dd, dd, dd, dd, dd, dd, dd, dd, dd, dd, dd, dd, dd, dd, dd, dd, dd, dd, dd, dd, dd, dd, dd, dd, dd, dd, dd, dd, dd, dd, dd, dd, dd, dd, dd, dd, dd, dd, dd, dd, dd, dd, dd, dd, dd, dd, dd, dd, dd, dd, dd, dd, dd, dd, dd, dd, dd, dd, dd, dd, dd, dd, dd, dd, dd, dd, dd, dd, dd, dd, dd, dd, dd, dd, dd, dd, dd, dd, dd, dd, dd, dd, dd, .d (.v (.bool (v_r1167.1.fOp == 19))), dd, dd, dd, dd, dd, dd, dd, dd, dd, dd, dd, dd, dd, dd, dd, dd, dd, dd, dd, dd, dd, dd, dd, dd, dd, dd, dd, dd, dd, dd, dd, dd, dd, dd, dd, dd, dd, dd, dd, dd, dd, dd, dd, dd, dd, dd, dd, dd, dd, dd, dd, dd, dd, dd, dd, dd], [.gh 0 (.ref 2 0), .gh 1 (.srf 4), .box [.d (.v (.int .u32 v_r923.2.2.fAt)), .srf 3, .d (.v (.int .i64 v_r923.2.2.fMay))], .row 5 1 (v_z1494.map (eI .u8)), .none, .box ((cS_api_Regs (S_api_Regs.mk v_r869.fR (wi .u32 (v_r869.fPc + 4)) v_r869.fRing)).map FV.d), .box ((cS_api_Regs (S_api_Regs.mk (fun (_ : Fin 8) => 0) 0 0)).map FV.d), .box [.d (.v (.int .i64 0)), .d (.v (.int .u32 0))], .box [.d (.v (.int .i64 v_r923.2.1.fKind)), .d (.v (.int .u32 v_r923.2.1.fAddr))], .box [.d (.v (.int .i64 v_r1167.1.fOp)), .d (.v (.int .i64 v_r1167.1.fA)), .d (.v (.int .i64 v_r1167.1.fB)), .d (.v (.int .i64 v_r1167.1.fC))]]⟩
def G_ringref5_StepOf_h_C7 (n : Nat) (v_r869 : S_api_Regs) (v_y1180 : Int) (v_y1181 : Int) (v_r1167 : (S_api_Ins × Int)) (v_r923 : (Int × S_api_Trap × S_ringref5_Room)) (v_z1494 : (List Int)) : Option G_ringref5_StepOf_h_C7_R :=
  if v_r1167.1.fOp = 19 then
   some (.x0 true v_z1494)
  else
   if v_r1167.1.fOp = 20 then
    if v_y1180 = 0 then
     some (.x0 true v_z1494)
    else
     if v_r1167.1.fOp = 21 then
      some (.x0 (decide (v_y1180 < v_y1181)) v_z1494)
     else
      some (.x0 false v_z1494)
   else
    if v_r1167.1.fOp = 21 then
     some (.x0 (decide (v_y1180 < v_y1181)) v_z1494)
    else
     some (.x0 false v_z1494)
theorem G_ringref5_StepOf_h_C7_ok {Fi : Ex → PS → Prop} (hF : KC 227 Fi) (ks : List Fr) (n : Nat) (v_r869 : S_api_Regs) (v_y1180 : Int) (v_y1181 : Int) (v_r1167 : (S_api_Ins × Int)) (v_r923 : (Int × S_api_Trap × S_ringref5_Room)) (v_z1494 : (List Int))  (o : G_ringref5_StepOf_h_C7_R) (h : G_ringref5_StepOf_h_C7 n v_r869 v_y1180 v_y1181 v_r1167 v_r923 v_z1494 = some o) (q : RunE Try.prog 227 Fi ks (G_ringref5_StepOf_h_C7_ex o) (G_ringref5_StepOf_h_C7_st v_r869 v_y1180 v_y1181 v_r1167 v_r923 v_z1494 o)) : RunE Try.prog 227 Fi (.s (cR (cL (cF (cR (cF (cR (cF (cR (cF (cR (cF (cR (cF (cR (cB (cL (cR (cR (cR (cR (cR (cR (cR (cR (cR (cR (cR (bodyOf Try.f8)))))))))))))))))))))))))))) :: ks) .normal (G_ringref5_StepOf_h_C7_hd v_r869 v_y1180 v_y1181 v_r1167 v_r923 v_z1494) := by
  unfold G_ringref5_StepOf_h_C7 at h
  by_cases h2021 : v_r1167.1.fOp = 19
  · rw [if_pos h2021] at h
    cases h
    exact pkk_sound TTok mix hF 2 (hs := [.t true]) (ts := []) (s := [0, 1, 2, 3, 4, 5, 6, 7, 8, 9]) (l := [2, 4, 5, 7, 8, 11, 12, 14, 170]) (by kernel_rfl) (by kernel_rfl) (.cons (bt h2021) .nil) q
  · rw [if_neg h2021] at h
    by_cases h2022 : v_r1167.1.fOp = 20
    · rw [if_pos h2022] at h
      by_cases h2023 : v_y1180 = 0
      · rw [if_pos h2023] at h
        cases h
        exact pkk_sound TTok mix hF 5 (hs := [.t false, .c, .t true, .c, .t true]) (ts := []) (s := [0, 1, 2, 3, 4, 5, 6, 7, 8, 9]) (l := [2, 4, 5, 7, 8, 11, 12, 14, 170]) (by kernel_rfl) (by kernel_rfl) (.cons (bf h2021) (.cons (bt h2022) (.cons (bt h2023) .nil))) q
      · rw [if_neg h2023] at h
        by_cases h2024 : v_r1167.1.fOp = 21
        · rw [if_pos h2024] at h
          cases h
          exact pkk_sound TTok mix hF 5 (hs := [.t false, .c, .t true, .c, .t false, .c, .t true, .c, .c]) (ts := []) (s := [0, 1, 2, 3, 4, 5, 6, 7, 8, 9]) (l := [2, 4, 5, 7, 8, 11, 12, 14, 170]) (by kernel_rfl) (by kernel_rfl) (.cons (bf h2021) (.cons (bt h2022) (.cons (bf h2023) (.cons (bt h2024) .nil)))) q
        · rw [if_neg h2024] at h
          cases h
          exact pkk_sound TTok mix hF 5 (hs := [.t false, .c, .t true, .c, .t false, .c, .t false, .c, .c]) (ts := []) (s := [0, 1, 2, 3, 4, 5, 6, 7, 8, 9]) (l := [2, 4, 5, 7, 8, 11, 12, 14, 170]) (by kernel_rfl) (by kernel_rfl) (.cons (bf h2021) (.cons (bt h2022) (.cons (bf h2023) (.cons (bf h2024) .nil)))) q
    · rw [if_neg h2022] at h
      by_cases h2025 : v_r1167.1.fOp = 21
      · rw [if_pos h2025] at h
        cases h
        exact pkk_sound TTok mix hF 5 (hs := [.t false, .c, .t false, .c, .c, .c, .t true, .c, .c]) (ts := []) (s := [0, 1, 2, 3, 4, 5, 6, 7, 8, 9]) (l := [2, 4, 5, 7, 8, 11, 12, 14, 170]) (by kernel_rfl) (by kernel_rfl) (.cons (bf h2021) (.cons (bf h2022) (.cons (bt h2025) .nil))) q
      · rw [if_neg h2025] at h
        cases h
        exact pkk_sound TTok mix hF 5 (hs := [.t false, .c, .t false, .c, .c, .c, .t false, .c, .c]) (ts := []) (s := [0, 1, 2, 3, 4, 5, 6, 7, 8, 9]) (l := [2, 4, 5, 7, 8, 11, 12, 14, 170]) (by kernel_rfl) (by kernel_rfl) (.cons (bf h2021) (.cons (bf h2022) (.cons (bf h2025) .nil))) q
inductive G_ringref5_StepOf_h_C8_R where
  | x0 (v_w1596 : (List Int))
  | x1 (v_w1598 : (List Int))
  | x2 (v_w1600 : (List Int))
  | x3 (v_w1602 : (List Int))
  | x4 (v_w1605 : (List Int)) (v_b1606 : S_api_Regs)
  | x5 (v_w1608 : (List Int))
  | x6 (v_w1625 : (List Int))
  | x7 (v_w1627 : (List Int))
  | x8 (v_w1628 : (List Int))
  | x9 (v_w1629 : (List Int))
  | x10 (v_w1630 : (List Int))
  | x11 (v_w1631 : (List Int))
def G_ringref5_StepOf_h_C8_ex : G_ringref5_StepOf_h_C8_R → Ex
  | .x0 _ => .normal
  | .x1 _ => .normal
  | .x2 _ => .normal
  | .x3 _ => .normal
  | .x4 _ _ => .normal
  | .x5 _ => .normal
  | .x6 _ => .normal
  | .x7 _ => .normal
  | .x8 _ => .normal
  | .x9 _ => .normal
  | .x10 _ => .normal
  | .x11 _ => .normal
def G_ringref5_StepOf_h_C8_st (v_r869 : S_api_Regs) (v_y1180 : Int) (v_y1181 : Int) (v_r1167 : (S_api_Ins × Int)) (v_r923 : (Int × S_api_Trap × S_ringref5_Room)) (v_z1494 : (List Int)) : G_ringref5_StepOf_h_C8_R → PS
  | .x0 v_w1596 => ⟨[dd, dd, .ref 5 0, dd, .ref 6 0, .ref 7 0, dd, .ref 8 0, dd, dd, dd, dd, dd, dd, dd, dd, dd, dd, dd, dd, dd, dd, dd, dd, dd, dd, dd, dd, dd, dd, dd, dd, dd, dd, dd, dd, dd, dd, dd, dd, dd, dd, dd, dd, dd, dd, dd, dd, dd, dd, dd, dd, dd, dd, dd, dd, dd, dd, dd, dd, dd, dd, dd, dd, dd, dd, dd, dd, dd, dd, dd, dd, dd, dd, dd, dd, dd, dd, dd, dd, dd, dd, dd, dd, dd, dd, dd, dd, dd, dd, dd, dd, dd, dd, dd, dd, dd, dd, dd, dd, dd, dd, dd, dd, dd, dd, dd, dd, dd, dd, dd, dd, dd, dd, dd, dd, dd, dd, dd, dd, dd, dd, dd, dd, dd, dd, dd, dd, dd, dd, dd, dd, dd, dd, dd, dd, dd, dd, dd, dd, dd, dd, dd, dd, dd, dd, dd, dd, dd, dd, dd, dd, dd, dd, dd, dd, dd, dd, dd, dd, dd, dd, dd, dd, dd, dd, dd, dd, dd, dd, dd, dd, dd, dd, dd, dd, dd, dd, dd, dd, dd, dd, dd, dd, dd, dd, dd, dd, dd, dd, dd, dd, dd, dd, dd, dd, dd, dd, dd, dd, dd, dd, dd, dd, dd, dd, dd, dd, dd, dd, dd, dd, dd, dd, dd, dd, dd, dd, dd, dd, dd, dd, dd, dd, dd, dd, dd], [.gh 0 (.ref 2 0), .gh 1 (.srf 4), .box [.d (.v (.int .u32 v_r923.2.2.fAt)), .srf 3, .d (.v (.int .i64 v_r923.2.2.fMay))], .row 5 1 (v_w1596.map (eI .u8)), .none, .box ((cS_api_Regs (S_api_Regs.mk v_r869.fR (wi .u32 (v_r869.fPc + 4)) v_r869.fRing)).map FV.d), .box ((cS_api_Regs (S_api_Regs.mk (fun (_ : Fin 8) => 0) 0 0)).map FV.d), .box [.d (.v (.int .i64 0)), .d (.v (.int .u32 0))], .box [.d (.v (.int .i64 5)), .d (.v (.int .u32 v_r923.2.1.fAddr))]]⟩
  | .x1 v_w1598 => ⟨[dd, dd, .ref 5 0, dd, .ref 6 0, .ref 7 0, dd, .ref 8 0, dd, dd, dd, dd, dd, dd, dd, dd, dd, dd, dd, dd, dd, dd, dd, dd, dd, dd, dd, dd, dd, dd, dd, dd, dd, dd, dd, dd, dd, dd, dd, dd, dd, dd, dd, dd, dd, dd, dd, dd, dd, dd, dd, dd, dd, dd, dd, dd, dd, dd, dd, dd, dd, dd, dd, dd, dd, dd, dd, dd, dd, dd, dd, dd, dd, dd, dd, dd, dd, dd, dd, dd, dd, dd, dd, dd, dd, dd, dd, dd, dd, dd, dd, dd, dd, dd, dd, dd, dd, dd, dd, dd, dd, dd, dd, dd, dd, dd, dd, dd, dd, dd, dd, dd, dd, dd, dd, dd, dd, dd, dd, dd, dd, dd, dd, dd, dd, dd, dd, dd, dd, dd, dd, dd, dd, dd, dd, dd, dd, dd, dd, dd, dd, dd, dd, dd, dd, dd, dd, dd, dd, dd, dd, dd, dd, dd, dd, dd, dd, dd, dd, dd, dd, dd, dd, dd, dd, dd, dd, dd, dd, dd, dd, dd, dd, dd, dd, dd, dd, dd, dd, dd, dd, dd, dd, dd, dd, dd, dd, dd, dd, dd, dd, dd, dd, dd, dd, dd, dd, dd, dd, dd, dd, dd, dd, dd, dd, dd, dd, dd, dd, dd, dd, dd, dd, dd, dd, dd, dd, dd, dd, dd, dd, dd, dd, dd, dd, dd, dd], [.gh 0 (.ref 2 0), .gh 1 (.srf 4), .box [.d (.v (.int .u32 v_r923.2.2.fAt)), .srf 3, .d (.v (.int .i64 v_r923.2.2.fMay))], .row 5 1 (v_w1598.map (eI .u8)), .none, .box ((cS_api_Regs (S_api_Regs.mk (setA v_r869.fR v_r1167.1.fA (wi .u32 v_r1167.1.fC)) (wi .u32 (v_r869.fPc + 4)) v_r869.fRing)).map FV.d), .box ((cS_api_Regs (S_api_Regs.mk (fun (_ : Fin 8) => 0) 0 0)).map FV.d), .box [.d (.v (.int .i64 0)), .d (.v (.int .u32 0))], .box [.d (.v (.int .i64 v_r923.2.1.fKind)), .d (.v (.int .u32 v_r923.2.1.fAddr))]]⟩
  | .x2 v_w1600 => ⟨[dd, dd, .ref 5 0, dd, .ref 6 0, .ref 7 0, dd, .ref 8 0, dd, dd, dd, dd, dd, dd, dd, dd, dd, dd, dd, dd, dd, dd, dd, dd, dd, dd, dd, dd, dd, dd, dd, dd, dd, dd, dd, dd, dd, dd, dd, dd, dd, dd, dd, dd, dd, dd, dd, dd, dd, dd, dd, dd, dd, dd, dd, dd, dd, dd, dd, dd, dd, dd, dd, dd, dd, dd, dd, dd, dd, dd, dd, dd, dd, dd, dd, dd, dd, dd, dd, dd, dd, dd, dd, dd, dd, dd, dd, dd, dd, dd, dd, dd, dd, dd, dd, dd, dd, dd, dd, dd, dd, dd, dd, dd, dd, dd, dd, dd, dd, dd, dd, dd, dd, dd, dd, dd, dd, dd, dd, dd, dd, dd, dd, dd, dd, dd, dd, dd, dd, dd, dd, dd, dd, dd, dd, dd, dd, dd, dd, dd, dd, dd, dd, dd, dd, dd, dd, dd, dd, dd, dd, dd, dd, dd, dd, dd, dd, dd, dd, dd, dd, dd, dd, dd, dd, dd, dd, dd, dd, dd, dd, dd, dd, dd, dd, dd, dd, dd, dd, dd, dd, dd, dd, dd, dd, dd, dd, dd, dd, dd, dd, dd, dd, dd, dd, dd, dd, dd, dd, dd, dd, dd, dd, dd, dd, dd, dd, dd, dd, dd, dd, dd, dd, dd, dd, dd, dd, dd, dd, dd, dd, dd, dd, dd, dd, dd, dd], [.gh 0 (.ref 2 0), .gh 1 (.srf 4), .box [.d (.v (.int .u32 v_r923.2.2.fAt)), .srf 3, .d (.v (.int .i64 v_r923.2.2.fMay))], .row 5 1 (v_w1600.map (eI .u8)), .none, .box ((cS_api_Regs (S_api_Regs.mk (setA v_r869.fR v_r1167.1.fA (wi .u32 ((shlI .u32 v_y1180 16) + (bits .and .u32 (wi .u32 v_r1167.1.fC) 65535)))) (wi .u32 (v_r869.fPc + 4)) v_r869.fRing)).map FV.d), .box ((cS_api_Regs (S_api_Regs.mk (fun (_ : Fin 8) => 0) 0 0)).map FV.d), .box [.d (.v (.int .i64 0)), .d (.v (.int .u32 0))], .box [.d (.v (.int .i64 v_r923.2.1.fKind)), .d (.v (.int .u32 v_r923.2.1.fAddr))]]⟩
  | .x3 v_w1602 => ⟨[dd, dd, .ref 5 0, dd, .ref 6 0, .ref 7 0, dd, .ref 8 0, dd, dd, dd, dd, dd, dd, dd, dd, dd, dd, dd, dd, dd, dd, dd, dd, dd, dd, dd, dd, dd, dd, dd, dd, dd, dd, dd, dd, dd, dd, dd, dd, dd, dd, dd, dd, dd, dd, dd, dd, dd, dd, dd, dd, dd, dd, dd, dd, dd, dd, dd, dd, dd, dd, dd, dd, dd, dd, dd, dd, dd, dd, dd, dd, dd, dd, dd, dd, dd, dd, dd, dd, dd, dd, dd, dd, dd, dd, dd, dd, dd, dd, dd, dd, dd, dd, dd, dd, dd, dd, dd, dd, dd, dd, dd, dd, dd, dd, dd, dd, dd, dd, dd, dd, dd, dd, dd, dd, dd, dd, dd, dd, dd, dd, dd, dd, dd, dd, dd, dd, dd, dd, dd, dd, dd, dd, dd, dd, dd, dd, dd, dd, dd, dd, dd, dd, dd, dd, dd, dd, dd, dd, dd, dd, dd, dd, dd, dd, dd, dd, dd, dd, dd, dd, dd, dd, dd, dd, dd, dd, dd, dd, dd, dd, dd, dd, dd, dd, dd, dd, dd, dd, dd, dd, dd, dd, dd, dd, dd, dd, dd, dd, dd, dd, dd, dd, dd, dd, dd, dd, dd, dd, dd, dd, dd, dd, dd, dd, dd, dd, dd, dd, dd, dd, dd, dd, dd, dd, dd, dd, dd, dd, dd, dd, dd, dd, dd, dd, dd], [.gh 0 (.ref 2 0), .gh 1 (.srf 4), .box [.d (.v (.int .u32 v_r923.2.2.fAt)), .srf 3, .d (.v (.int .i64 v_r923.2.2.fMay))], .row 5 1 (v_w1602.map (eI .u8)), .none, .box ((cS_api_Regs (S_api_Regs.mk (setA v_r869.fR v_r1167.1.fA v_y1181) (wi .u32 (v_r869.fPc + 4)) v_r869.fRing)).map FV.d), .box ((cS_api_Regs (S_api_Regs.mk (fun (_ : Fin 8) => 0) 0 0)).map FV.d), .box [.d (.v (.int .i64 0)), .d (.v (.int .u32 0))], .box [.d (.v (.int .i64 v_r923.2.1.fKind)), .d (.v (.int .u32 v_r923.2.1.fAddr))]]⟩
  | .x4 v_w1605 v_b1606 => ⟨[dd, dd, .ref 5 0, dd, .ref 6 0, .ref 7 0, dd, .ref 8 0, dd, dd, dd, dd, dd, dd, dd, dd, dd, dd, dd, dd, dd, dd, dd, dd, dd, dd, dd, dd, dd, dd, dd, dd, dd, dd, dd, dd, dd, dd, dd, dd, dd, dd, dd, dd, dd, dd, dd, dd, dd, dd, dd, dd, dd, dd, dd, dd, dd, dd, dd, dd, dd, dd, dd, dd, dd, dd, dd, dd, dd, dd, dd, dd, dd, dd, dd, dd, dd, dd, dd, dd, dd, dd, dd, dd, dd, dd, dd, dd, dd, dd, dd, dd, dd, dd, dd, dd, dd, dd, dd, dd, dd, dd, dd, dd, dd, dd, dd, dd, dd, dd, dd, dd, dd, dd, dd, dd, dd, dd, dd, dd, dd, dd, dd, dd, dd, dd, dd, dd, dd, dd, dd, dd, dd, dd, dd, dd, dd, dd, dd, dd, dd, dd, dd, dd, dd, dd, dd, dd, dd, dd, dd, dd, dd, dd, dd, dd, dd, dd, dd, dd, dd, dd, dd, dd, dd, dd, dd, dd, dd, dd, dd, dd, dd, dd, dd, dd, dd, dd, dd, dd, dd, dd, dd, dd, dd, dd, dd, dd, dd, dd, dd, dd, dd, dd, dd, dd, dd, dd, dd, dd, dd, dd, dd, dd, dd, dd, dd, dd, dd, dd, dd, dd, dd, dd, dd, dd, dd, dd, dd, dd, dd, dd, dd, dd, dd, dd, dd], [.gh 0 (.ref 2 0), .gh 1 (.srf 4), .box [.d (.v (.int .u32 v_r923.2.2.fAt)), .srf 3, .d (.v (.int .i64 v_r923.2.2.fMay))], .row 5 1 (v_w1605.map (eI .u8)), .none, .box ((cS_api_Regs v_b1606).map FV.d), .box ((cS_api_Regs (S_api_Regs.mk (fun (_ : Fin 8) => 0) 0 0)).map FV.d), .box [.d (.v (.int .i64 0)), .d (.v (.int .u32 0))], .box [.d (.v (.int .i64 v_r923.2.1.fKind)), .d (.v (.int .u32 v_r923.2.1.fAddr))]]⟩
  | .x5 v_w1608 => ⟨[dd, dd, .ref 5 0, dd, .ref 6 0, .ref 7 0, dd, .ref 8 0, dd, dd, dd, dd, dd, dd, dd, dd, dd, dd, dd, dd, dd, dd, dd, dd, dd, dd, dd, dd, dd, dd, dd, dd, dd, dd, dd, dd, dd, dd, dd, dd, dd, dd, dd, dd, dd, dd, dd, dd, dd, dd, dd, dd, dd, dd, dd, dd, dd, dd, dd, dd, dd, dd, dd, dd, dd, dd, dd, dd, dd, dd, dd, dd, dd, dd, dd, dd, dd, dd, dd, dd, dd, dd, dd, dd, dd, dd, dd, dd, dd, dd, dd, dd, dd, dd, dd, dd, dd, dd, dd, dd, dd, dd, dd, dd, dd, dd, dd, dd, dd, dd, dd, dd, dd, dd, dd, dd, dd, dd, dd, dd, dd, dd, dd, dd, dd, dd, dd, dd, dd, dd, dd, dd, dd, dd, dd, dd, dd, dd, dd, dd, dd, dd, dd, dd, dd, dd, dd, dd, dd, dd, dd, dd, dd, dd, dd, dd, dd, dd, dd, dd, dd, dd, dd, dd, dd, dd, dd, dd, dd, dd, dd, dd, dd, dd, dd, dd, dd, dd, dd, dd, dd, dd, dd, dd, dd, dd, dd, dd, dd, dd, dd, dd, dd, dd, dd, dd, dd, dd, dd, dd, dd, dd, dd, dd, dd, dd, dd, dd, dd, dd, dd, dd, dd, dd, dd, dd, dd, dd, dd, dd, dd, dd, dd, dd, dd, dd, dd], [.gh 0 (.ref 2 0), .gh 1 (.srf 4), .box [.d (.v (.int .u32 v_r923.2.2.fAt)), .srf 3, .d (.v (.int .i64 v_r923.2.2.fMay))], .row 5 1 (v_w1608.map (eI .u8)), .none, .box ((cS_api_Regs (S_api_Regs.mk (setA v_r869.fR v_r1167.1.fA (wi .u32 (v_y1181 + (wi .u32 v_r1167.1.fC)))) (wi .u32 (v_r869.fPc + 4)) v_r869.fRing)).map FV.d), .box ((cS_api_Regs (S_api_Regs.mk (fun (_ : Fin 8) => 0) 0 0)).map FV.d), .box [.d (.v (.int .i64 0)), .d (.v (.int .u32 0))], .box [.d (.v (.int .i64 v_r923.2.1.fKind)), .d (.v (.int .u32 v_r923.2.1.fAddr))]]⟩
  | .x6 v_w1625 => ⟨[dd, dd, .ref 5 0, dd, .ref 6 0, .ref 7 0, dd, .ref 8 0, dd, dd, dd, dd, dd, dd, dd, dd, dd, dd, dd, dd, dd, dd, dd, dd, dd, dd, dd, dd, dd, dd, dd, dd, dd, dd, dd, dd, dd, dd, dd, dd, dd, dd, dd, dd, dd, dd, dd, dd, dd, dd, dd, dd, dd, dd, dd, dd, dd, dd, dd, dd, dd, dd, dd, dd, dd, dd, dd, dd, dd, dd, dd, dd, dd, dd, dd, dd, dd, dd, dd, dd, dd, dd, dd, dd, dd, dd, dd, dd, dd, dd, dd, dd, dd, dd, dd, dd, dd, dd, dd, dd, dd, dd, dd, dd, dd, dd, dd, dd, dd, dd, dd, dd, dd, dd, dd, dd, dd, dd, dd, dd, dd, dd, dd, dd, dd, dd, dd, dd, dd, dd, dd, dd, dd, dd, dd, dd, dd, dd, dd, dd, dd, dd, dd, dd, dd, dd, dd, dd, dd, dd, dd, dd, dd, dd, dd, dd, dd, dd, dd, dd, dd, dd, dd, dd, dd, dd, dd, dd, dd, dd, dd, dd, dd, dd, dd, dd, dd, dd, dd, dd, dd, dd, dd, dd, dd, dd, dd, dd, dd, dd, dd, dd, dd, dd, dd, dd, dd, dd, dd, dd, dd, dd, dd, dd, dd, dd, dd, dd, dd, dd, dd, dd, dd, dd, dd, dd, dd, dd, dd, dd, dd, dd, dd, dd, dd, dd, dd], [.gh 0 (.ref 2 0), .gh 1 (.srf 4), .box [.d (.v (.int .u32 v_r923.2.2.fAt)), .srf 3, .d (.v (.int .i64 v_r923.2.2.fMay))], .row 5 1 (v_w1625.map (eI .u8)), .none, .box ((cS_api_Regs (S_api_Regs.mk v_r869.fR (wi .u32 (v_r869.fPc + (wi .u32 v_r1167.1.fC))) v_r869.fRing)).map FV.d), .box ((cS_api_Regs (S_api_Regs.mk (fun (_ : Fin 8) => 0) 0 0)).map FV.d), .box [.d (.v (.int .i64 0)), .d (.v (.int .u32 0))], .box [.d (.v (.int .i64 v_r923.2.1.fKind)), .d (.v (.int .u32 v_r923.2.1.fAddr))]]⟩
  | .x7 v_w1627 => ⟨[dd, dd, .ref 5 0, dd, .ref 6 0, .ref 7 0, dd, .ref 8 0, dd, dd, dd, dd, dd, dd, dd, dd, dd, dd, dd, dd, dd, dd, dd, dd, dd, dd, dd, dd, dd, dd, dd, dd, dd, dd, dd, dd, dd, dd, dd, dd, dd, dd, dd, dd, dd, dd, dd, dd, dd, dd, dd, dd, dd, dd, dd, dd, dd, dd, dd, dd, dd, dd, dd, dd, dd, dd, dd, dd, dd, dd, dd, dd, dd, dd, dd, dd, dd, dd, dd, dd, dd, dd, dd, dd, dd, dd, dd, dd, dd, dd, dd, dd, dd, dd, dd, dd, dd, dd, dd, dd, dd, dd, dd, dd, dd, dd, dd, dd, dd, dd, dd, dd, dd, dd, dd, dd, dd, dd, dd, dd, dd, dd, dd, dd, dd, dd, dd, dd, dd, dd, dd, dd, dd, dd, dd, dd, dd, dd, dd, dd, dd, dd, dd, dd, dd, dd, dd, dd, dd, dd, dd, dd, dd, dd, dd, dd, dd, dd, dd, dd, dd, dd, dd, dd, dd, dd, dd, dd, dd, dd, dd, dd, dd, dd, dd, dd, dd, dd, dd, dd, dd, dd, dd, dd, dd, dd, dd, dd, dd, dd, dd, dd, dd, dd, dd, dd, dd, dd, dd, dd, dd, dd, dd, dd, dd, dd, dd, dd, dd, dd, dd, dd, dd, dd, dd, dd, dd, dd, dd, dd, dd, dd, dd, dd, dd, dd, dd], [.gh 0 (.ref 2 0), .gh 1 (.srf 4), .box [.d (.v (.int .u32 v_r923.2.2.fAt)), .srf 3, .d (.v (.int .i64 v_r923.2.2.fMay))], .row 5 1 (v_w1627.map (eI .u8)), .none, .box ((cS_api_Regs (S_api_Regs.mk (setA v_r869.fR v_r1167.1.fA (wi .u32 (v_r869.fPc + 4))) (wi .u32 (v_r869.fPc + (wi .u32 v_r1167.1.fC))) v_r869.fRing)).map FV.d), .box ((cS_api_Regs (S_api_Regs.mk (fun (_ : Fin 8) => 0) 0 0)).map FV.d), .box [.d (.v (.int .i64 0)), .d (.v (.int .u32 0))], .box [.d (.v (.int .i64 v_r923.2.1.fKind)), .d (.v (.int .u32 v_r923.2.1.fAddr))]]⟩
  | .x8 v_w1628 => ⟨[dd, dd, .ref 5 0, dd, .ref 6 0, .ref 7 0, dd, .ref 8 0, dd, dd, dd, dd, dd, dd, dd, dd, dd, dd, dd, dd, dd, dd, dd, dd, dd, dd, dd, dd, dd, dd, dd, dd, dd, dd, dd, dd, dd, dd, dd, dd, dd, dd, dd, dd, dd, dd, dd, dd, dd, dd, dd, dd, dd, dd, dd, dd, dd, dd, dd, dd, dd, dd, dd, dd, dd, dd, dd, dd, dd, dd, dd, dd, dd, dd, dd, dd, dd, dd, dd, dd, dd, dd, dd, dd, dd, dd, dd, dd, dd, dd, dd, dd, dd, dd, dd, dd, dd, dd, dd, dd, dd, dd, dd, dd, dd, dd, dd, dd, dd, dd, dd, dd, dd, dd, dd, dd, dd, dd, dd, dd, dd, dd, dd, dd, dd, dd, dd, dd, dd, dd, dd, dd, dd, dd, dd, dd, dd, dd, dd, dd, dd, dd, dd, dd, dd, dd, dd, dd, dd, dd, dd, dd, dd, dd, dd, dd, dd, dd, dd, dd, dd, dd, dd, dd, dd, dd, dd, dd, dd, dd, dd, dd, dd, dd, dd, dd, dd, dd, dd, dd, dd, dd, dd, dd, dd, dd, dd, dd, dd, dd, dd, dd, dd, dd, dd, dd, dd, dd, dd, dd, dd, dd, dd, dd, dd, dd, dd, dd, dd, dd, dd, dd, dd, dd, dd, dd, dd, dd, dd, dd, dd, dd, dd, dd, dd, dd, dd], [.gh 0 (.ref 2 0), .gh 1 (.srf 4), .box [.d (.v (.int .u32 v_r923.2.2.fAt)), .srf 3, .d (.v (.int .i64 v_r923.2.2.fMay))], .row 5 1 (v_w1628.map (eI .u8)), .none, .box ((cS_api_Regs (S_api_Regs.mk v_r869.fR v_y1180 v_r869.fRing)).map FV.d), .box ((cS_api_Regs (S_api_Regs.mk (fun (_ : Fin 8) => 0) 0 0)).map FV.d), .box [.d (.v (.int .i64 0)), .d (.v (.int .u32 0))], .box [.d (.v (.int .i64 v_r923.2.1.fKind)), .d (.v (.int .u32 v_r923.2.1.fAddr))]]⟩
  | .x9 v_w1629 => ⟨[dd, dd, .ref 5 0, dd, .ref 6 0, .ref 7 0, dd, .ref 8 0, dd, dd, dd, dd, dd, dd, dd, dd, dd, dd, dd, dd, dd, dd, dd, dd, dd, dd, dd, dd, dd, dd, dd, dd, dd, dd, dd, dd, dd, dd, dd, dd, dd, dd, dd, dd, dd, dd, dd, dd, dd, dd, dd, dd, dd, dd, dd, dd, dd, dd, dd, dd, dd, dd, dd, dd, dd, dd, dd, dd, dd, dd, dd, dd, dd, dd, dd, dd, dd, dd, dd, dd, dd, dd, dd, dd, dd, dd, dd, dd, dd, dd, dd, dd, dd, dd, dd, dd, dd, dd, dd, dd, dd, dd, dd, dd, dd, dd, dd, dd, dd, dd, dd, dd, dd, dd, dd, dd, dd, dd, dd, dd, dd, dd, dd, dd, dd, dd, dd, dd, dd, dd, dd, dd, dd, dd, dd, dd, dd, dd, dd, dd, dd, dd, dd, dd, dd, dd, dd, dd, dd, dd, dd, dd, dd, dd, dd, dd, dd, dd, dd, dd, dd, dd, dd, dd, dd, dd, dd, dd, dd, dd, dd, dd, dd, dd, dd, dd, dd, dd, dd, dd, dd, dd, dd, dd, dd, dd, dd, dd, dd, dd, dd, dd, dd, dd, dd, dd, dd, dd, dd, dd, dd, dd, dd, dd, dd, dd, dd, dd, dd, dd, dd, dd, dd, dd, dd, dd, dd, dd, dd, dd, dd, dd, dd, dd, dd, dd, dd], [.gh 0 (.ref 2 0), .gh 1 (.srf 4), .box [.d (.v (.int .u32 v_r923.2.2.fAt)), .srf 3, .d (.v (.int .i64 v_r923.2.2.fMay))], .row 5 1 (v_w1629.map (eI .u8)), .none, .box ((cS_api_Regs (S_api_Regs.mk v_r869.fR (wi .u32 (v_r869.fPc + 4)) v_r869.fRing)).map FV.d), .box ((cS_api_Regs (S_api_Regs.mk (fun (_ : Fin 8) => 0) 0 0)).map FV.d), .box [.d (.v (.int .i64 0)), .d (.v (.int .u32 0))], .box [.d (.v (.int .i64 1)), .d (.v (.int .u32 v_r923.2.1.fAddr))]]⟩
  | .x10 v_w1630 => ⟨[dd, dd, .ref 5 0, dd, .ref 6 0, .ref 7 0, dd, .ref 8 0, dd, dd, dd, dd, dd, dd, dd, dd, dd, dd, dd, dd, dd, dd, dd, dd, dd, dd, dd, dd, dd, dd, dd, dd, dd, dd, dd, dd, dd, dd, dd, dd, dd, dd, dd, dd, dd, dd, dd, dd, dd, dd, dd, dd, dd, dd, dd, dd, dd, dd, dd, dd, dd, dd, dd, dd, dd, dd, dd, dd, dd, dd, dd, dd, dd, dd, dd, dd, dd, dd, dd, dd, dd, dd, dd, dd, dd, dd, dd, dd, dd, dd, dd, dd, dd, dd, dd, dd, dd, dd, dd, dd, dd, dd, dd, dd, dd, dd, dd, dd, dd, dd, dd, dd, dd, dd, dd, dd, dd, dd, dd, dd, dd, dd, dd, dd, dd, dd, dd, dd, dd, dd, dd, dd, dd, dd, dd, dd, dd, dd, dd, dd, dd, dd, dd, dd, dd, dd, dd, dd, dd, dd, dd, dd, dd, dd, dd, dd, dd, dd, dd, dd, dd, dd, dd, dd, dd, dd, dd, dd, dd, dd, dd, dd, dd, dd, dd, dd, dd, dd, dd, dd, dd, dd, dd, dd, dd, dd, dd, dd, dd, dd, dd, dd, dd, dd, dd, dd, dd, dd, dd, dd, dd, dd, dd, dd, dd, dd, dd, dd, dd, dd, dd, dd, dd, dd, dd, dd, dd, dd, dd, dd, dd, dd, dd, dd, dd, dd, dd], [.gh 0 (.ref 2 0), .gh 1 (.srf 4), .box [.d (.v (.int .u32 v_r923.2.2.fAt)), .srf 3, .d (.v (.int .i64 v_r923.2.2.fMay))], .row 5 1 (v_w1630.map (eI .u8)), .none, .box ((cS_api_Regs (S_api_Regs.mk v_r869.fR v_y1180 1)).map FV.d), .box ((cS_api_Regs (S_api_Regs.mk (fun (_ : Fin 8) => 0) 0 0)).map FV.d), .box [.d (.v (.int .i64 0)), .d (.v (.int .u32 0))], .box [.d (.v (.int .i64 v_r923.2.1.fKind)), .d (.v (.int .u32 v_r923.2.1.fAddr))]]⟩
  | .x11 v_w1631 => ⟨[dd, dd, .ref 5 0, dd, .ref 6 0, .ref 7 0, dd, .ref 8 0, dd, dd, dd, dd, dd, dd, dd, dd, dd, dd, dd, dd, dd, dd, dd, dd, dd, dd, dd, dd, dd, dd, dd, dd, dd, dd, dd, dd, dd, dd, dd, dd, dd, dd, dd, dd, dd, dd, dd, dd, dd, dd, dd, dd, dd, dd, dd, dd, dd, dd, dd, dd, dd, dd, dd, dd, dd, dd, dd, dd, dd, dd, dd, dd, dd, dd, dd, dd, dd, dd, dd, dd, dd, dd, dd, dd, dd, dd, dd, dd, dd, dd, dd, dd, dd, dd, dd, dd, dd, dd, dd, dd, dd, dd, dd, dd, dd, dd, dd, dd, dd, dd, dd, dd, dd, dd, dd, dd, dd, dd, dd, dd, dd, dd, dd, dd, dd, dd, dd, dd, dd, dd, dd, dd, dd, dd, dd, dd, dd, dd, dd, dd, dd, dd, dd, dd, dd, dd, dd, dd, dd, dd, dd, dd, dd, dd, dd, dd, dd, dd, dd, dd, dd, dd, dd, dd, dd, dd, dd, dd, dd, dd, dd, dd, dd, dd, dd, dd, dd, dd, dd, dd, dd, dd, dd, dd, dd, dd, dd, dd, dd, dd, dd, dd, dd, dd, dd, dd, dd, dd, dd, dd, dd, dd, dd, dd, dd, dd, dd, dd, dd, dd, dd, dd, dd, dd, dd, dd, dd, dd, dd, dd, dd, dd, dd, dd, dd, dd, dd], [.gh 0 (.ref 2 0), .gh 1 (.srf 4), .box [.d (.v (.int .u32 v_r923.2.2.fAt)), .srf 3, .d (.v (.int .i64 v_r923.2.2.fMay))], .row 5 1 (v_w1631.map (eI .u8)), .none, .box ((cS_api_Regs (S_api_Regs.mk v_r869.fR (wi .u32 (v_r869.fPc + 4)) v_r869.fRing)).map FV.d), .box ((cS_api_Regs (S_api_Regs.mk (fun (_ : Fin 8) => 0) 0 0)).map FV.d), .box [.d (.v (.int .i64 0)), .d (.v (.int .u32 0))], .box [.d (.v (.int .i64 v_r923.2.1.fKind)), .d (.v (.int .u32 v_r923.2.1.fAddr))]]⟩
def G_ringref5_StepOf_h_C8_hd (v_r869 : S_api_Regs) (v_y1180 : Int) (v_y1181 : Int) (v_r1167 : (S_api_Ins × Int)) (v_r923 : (Int × S_api_Trap × S_ringref5_Room)) (v_z1494 : (List Int))  : PS := ⟨[dd, dd, .ref 5 0, dd, .ref 6 0, .ref 7 0, dd, .ref 8 0, .ref 9 0, dd, dd, .d (.v (.int .u32 v_r869.fPc)), .d (.v (.int .u32 v_y1180)), .d (.v (.int .u32 v_y1181)), .d (.v (.int .u32 (wi .u32 v_r1167.1.fC))), dd, dd, dd, dd, dd, dd, dd, dd, dd, dd, dd, dd, dd, dd, dd, dd, dd, dd, dd, dd, dd, dd, dd, dd, dd, dd, dd, dd, dd, dd, dd, dd, dd, dd, dd, dd, dd, dd, dd, dd, dd, dd, dd, dd, dd, dd, dd, dd, dd, dd, dd, dd, dd, dd, dd, dd, dd, dd, dd, dd, dd, dd, dd, dd, dd, dd, dd, dd, dd, dd, dd, dd, dd, dd, dd, dd, dd, dd, dd, dd, dd, dd, dd, dd, dd, dd, dd, dd, dd, dd, dd, dd, dd, dd, dd, .d (.v (.bool (v_r1167.1.fOp == 1))), dd, dd, dd, dd, dd, dd, dd, dd, dd, dd, dd, dd, dd, dd, dd, dd, dd, dd, dd, dd, dd, dd, dd, dd, dd, dd, dd, dd, dd, dd, dd, dd, dd, dd, dd, dd, dd, dd, dd, dd, dd, dd, dd, dd, dd, dd, dd, dd, dd, dd, dd, dd, dd, dd, dd, dd, dd, dd, dd, dd, dd, dd, dd, dd, dd, dd, dd, dd, dd, dd, dd, dd, dd, dd, dd, dd, dd, dd, dd, dd, dd, dd, dd, dd, dd, dd, dd, dd, dd, dd, dd, dd, dd, dd, dd, dd, dd, dd, dd, dd, dd, dd, dd, dd, dd, dd, dd, dd, dd, dd, dd, dd, dd, dd, dd, dd], [.gh 0 (.ref 2 0), .gh 1 (.srf 4), .box [.d (.v (.int .u32 v_r923.2.2.fAt)), .srf 3, .d (.v (.int .i64 v_r923.2.2.fMay))], .row 5 1 (v_z1494.map (eI .u8)), .none, .box ((cS_api_Regs (S_api_Regs.mk v_r869.fR (wi .u32 (v_r869.fPc + 4)) v_r869.fRing)).map FV.d), .box ((cS_api_Regs (S_api_Regs.mk (fun (_ : Fin 8) => 0) 0 0)).map FV.d), .box [.d (.v (.int .i64 0)), .d (.v (.int .u32 0))], .box [.d (.v (.int .i64 v_r923.2.1.fKind)), .d (.v (.int .u32 v_r923.2.1.fAddr))], .box [.d (.v (.int .i64 v_r1167.1.fOp)), .d (.v (.int .i64 v_r1167.1.fA)), .d (.v (.int .i64 v_r1167.1.fB)), .d (.v (.int .i64 v_r1167.1.fC))]]⟩
def G_ringref5_StepOf_h_C8 (n : Nat) (v_r869 : S_api_Regs) (v_y1180 : Int) (v_y1181 : Int) (v_r1167 : (S_api_Ins × Int)) (v_r923 : (Int × S_api_Trap × S_ringref5_Room)) (v_z1494 : (List Int)) : Option G_ringref5_StepOf_h_C8_R :=
  if v_r1167.1.fOp = 1 then
   some (.x0 v_z1494)
  else
   if v_r1167.1.fOp = 2 then
    if 0 ≤ v_r1167.1.fA ∧ v_r1167.1.fA < (8 : Int) then
     (getA v_r869.fR v_r1167.1.fA).bind fun (v_y1597 : Int) =>
     some (.x1 v_z1494)
    else none
   else
    if v_r1167.1.fOp = 3 then
     if 0 ≤ v_r1167.1.fA ∧ v_r1167.1.fA < (8 : Int) then
      (getA v_r869.fR v_r1167.1.fA).bind fun (v_y1599 : Int) =>
      some (.x2 v_z1494)
     else none
    else
     if v_r1167.1.fOp = 4 then
      if 0 ≤ v_r1167.1.fA ∧ v_r1167.1.fA < (8 : Int) then
       (getA v_r869.fR v_r1167.1.fA).bind fun (v_y1601 : Int) =>
       some (.x3 v_z1494)
      else none
     else
      if v_r1167.1.fOp ≤ 13 then
       (G_ringref5_two n v_r1167.1.fOp v_y1180 v_y1181).bind fun (v_r1603 : (Int)) =>
       if 0 ≤ v_r1167.1.fA ∧ v_r1167.1.fA < (8 : Int) then
        (getA v_r869.fR v_r1167.1.fA).bind fun (v_y1604 : Int) =>
        some (.x4 v_z1494 (S_api_Regs.mk (setA v_r869.fR v_r1167.1.fA v_r1603) (wi .u32 (v_r869.fPc + 4)) v_r869.fRing))
       else none
      else
       if v_r1167.1.fOp = 14 then
        if 0 ≤ v_r1167.1.fA ∧ v_r1167.1.fA < (8 : Int) then
         (getA v_r869.fR v_r1167.1.fA).bind fun (v_y1607 : Int) =>
         some (.x5 v_z1494)
        else none
       else
        (G_ringref5_StepOf_h_C7 n v_r869 v_y1180 v_y1181 v_r1167 v_r923 v_z1494).bind fun v_o1622 => match v_o1622 with
        | .x0 v_z1623 v_z1624 =>
          if v_z1623 = true then
           some (.x6 v_z1624)
          else
           if v_r1167.1.fOp = 22 then
            if 0 ≤ v_r1167.1.fA ∧ v_r1167.1.fA < (8 : Int) then
             (getA v_r869.fR v_r1167.1.fA).bind fun (v_y1626 : Int) =>
             some (.x7 v_z1624)
            else none
           else
            if v_r1167.1.fOp = 23 then
             some (.x8 v_z1624)
            else
             if v_r1167.1.fOp = 24 then
              some (.x9 v_z1624)
             else
              if v_r1167.1.fOp = 26 then
               some (.x10 v_z1624)
              else
               some (.x11 v_z1624)
theorem G_ringref5_StepOf_h_C8_ok {Fi : Ex → PS → Prop} (hF : KC 227 Fi) (ks : List Fr) (n : Nat) (v_r869 : S_api_Regs) (v_y1180 : Int) (v_y1181 : Int) (v_r1167 : (S_api_Ins × Int)) (v_r923 : (Int × S_api_Trap × S_ringref5_Room)) (v_z1494 : (List Int))  (o : G_ringref5_StepOf_h_C8_R) (h : G_ringref5_StepOf_h_C8 n v_r869 v_y1180 v_y1181 v_r1167 v_r923 v_z1494 = some o) (q : RunE Try.prog 227 Fi ks (G_ringref5_StepOf_h_C8_ex o) (G_ringref5_StepOf_h_C8_st v_r869 v_y1180 v_y1181 v_r1167 v_r923 v_z1494 o)) : RunE Try.prog 227 Fi (.s (cR (cB (cL (cR (cR (cR (cR (cR (cR (cR (cR (cR (cR (cR (bodyOf Try.f8))))))))))))))) :: ks) .normal (G_ringref5_StepOf_h_C8_hd v_r869 v_y1180 v_y1181 v_r1167 v_r923 v_z1494) := by
  unfold G_ringref5_StepOf_h_C8 at h
  by_cases h1998 : v_r1167.1.fOp = 1
  · rw [if_pos h1998] at h
    cases h
    exact pkk_sound TTok mix hF 2 (hs := [.t true, .c]) (ts := []) (s := [0, 1, 2, 3, 4, 5, 6, 7, 8]) (l := [2, 4, 5, 7]) (by kernel_rfl) (by kernel_rfl) (.cons (bt h1998) (.cons (show 0 + 1 ≤ 2 by decide) .nil)) q
  · rw [if_neg h1998] at h
    by_cases h1999 : v_r1167.1.fOp = 2
    · rw [if_pos h1999] at h
      by_cases h2000 : 0 ≤ v_r1167.1.fA ∧ v_r1167.1.fA < (8 : Int)
      · rw [if_pos h2000] at h
        obtain ⟨v_y1597, h2001, h⟩ := bind_some h
        cases h
        exact pkk_sound TTok mix hF 5 (hs := [.t false, .c, .t true, .c, .x ((cS_api_Regs (S_api_Regs.mk (setA v_r869.fR v_r1167.1.fA (wi .u32 v_r1167.1.fC)) (wi .u32 (v_r869.fPc + 4)) v_r869.fRing)).map FV.d), .c]) (ts := []) (s := [0, 1, 2, 3, 4, 5, 6, 7, 8]) (l := [2, 4, 5, 7]) (by kernel_rfl) (by kernel_rfl) (.cons (bf h1998) (.cons (bt h1999) (.cons h2000 (.cons (arr_store (γ := FV) (sz := 1) (g := (fun x => [.d (.v (.int .u32 x))])) (pre := []) (post := [.d (.v (.int .u32 (wi .u32 (v_r869.fPc + 4)))), .d (.v (.int .i64 v_r869.fRing))]) (o := 0) (y := (wi .u32 v_r1167.1.fC)) (zs := [.d (.v (.int .u32 (wi .u32 v_r1167.1.fC)))]) (fun _ => rfl) h2001 rfl (Nat.le_of_ble_eq_true rfl)).1 (.cons (arr_store (γ := FV) (sz := 1) (g := (fun x => [.d (.v (.int .u32 x))])) (pre := []) (post := [.d (.v (.int .u32 (wi .u32 (v_r869.fPc + 4)))), .d (.v (.int .i64 v_r869.fRing))]) (o := 0) (y := (wi .u32 v_r1167.1.fC)) (zs := [.d (.v (.int .u32 (wi .u32 v_r1167.1.fC)))]) (fun _ => rfl) h2001 rfl (Nat.le_of_ble_eq_true rfl)).2 .nil))))) q
      · rw [if_neg h2000] at h; cases h
    · rw [if_neg h1999] at h
      by_cases h2002 : v_r1167.1.fOp = 3
      · rw [if_pos h2002] at h
        by_cases h2004 : 0 ≤ v_r1167.1.fA ∧ v_r1167.1.fA < (8 : Int)
        · rw [if_pos h2004] at h
          obtain ⟨v_y1599, h2005, h⟩ := bind_some h
          cases h
          exact pkk_sound TTok mix hF 8 (hs := [.t false, .c, .t false, .c, .t true, .c, .x ((cS_api_Regs (S_api_Regs.mk (setA v_r869.fR v_r1167.1.fA (wi .u32 ((shlI .u32 v_y1180 16) + (bits .and .u32 (wi .u32 v_r1167.1.fC) 65535)))) (wi .u32 (v_r869.fPc + 4)) v_r869.fRing)).map FV.d), .c]) (ts := []) (s := [0, 1, 2, 3, 4, 5, 6, 7, 8]) (l := [2, 4, 5, 7]) (by kernel_rfl) (by kernel_rfl) (.cons (bf h1998) (.cons (bf h1999) (.cons (bt h2002) (.cons (show (0 : Int) ≤ 16 by decide) (.cons h2004 (.cons (arr_store (γ := FV) (sz := 1) (g := (fun x => [.d (.v (.int .u32 x))])) (pre := []) (post := [.d (.v (.int .u32 (wi .u32 (v_r869.fPc + 4)))), .d (.v (.int .i64 v_r869.fRing))]) (o := 0) (y := (wi .u32 ((shlI .u32 v_y1180 16) + (bits .and .u32 (wi .u32 v_r1167.1.fC) 65535)))) (zs := [.d (.v (.int .u32 (wi .u32 ((shlI .u32 v_y1180 16) + (bits .and .u32 (wi .u32 v_r1167.1.fC) 65535)))))]) (fun _ => rfl) h2005 rfl (Nat.le_of_ble_eq_true rfl)).1 (.cons (arr_store (γ := FV) (sz := 1) (g := (fun x => [.d (.v (.int .u32 x))])) (pre := []) (post := [.d (.v (.int .u32 (wi .u32 (v_r869.fPc + 4)))), .d (.v (.int .i64 v_r869.fRing))]) (o := 0) (y := (wi .u32 ((shlI .u32 v_y1180 16) + (bits .and .u32 (wi .u32 v_r1167.1.fC) 65535)))) (zs := [.d (.v (.int .u32 (wi .u32 ((shlI .u32 v_y1180 16) + (bits .and .u32 (wi .u32 v_r1167.1.fC) 65535)))))]) (fun _ => rfl) h2005 rfl (Nat.le_of_ble_eq_true rfl)).2 .nil))))))) q
        · rw [if_neg h2004] at h; cases h
      · rw [if_neg h2002] at h
        by_cases h2006 : v_r1167.1.fOp = 4
        · rw [if_pos h2006] at h
          by_cases h2007 : 0 ≤ v_r1167.1.fA ∧ v_r1167.1.fA < (8 : Int)
          · rw [if_pos h2007] at h
            obtain ⟨v_y1601, h2008, h⟩ := bind_some h
            cases h
            exact pkk_sound TTok mix hF 11 (hs := [.t false, .c, .t false, .c, .t false, .c, .t true, .c, .x ((cS_api_Regs (S_api_Regs.mk (setA v_r869.fR v_r1167.1.fA v_y1181) (wi .u32 (v_r869.fPc + 4)) v_r869.fRing)).map FV.d), .c]) (ts := []) (s := [0, 1, 2, 3, 4, 5, 6, 7, 8]) (l := [2, 4, 5, 7]) (by kernel_rfl) (by kernel_rfl) (.cons (bf h1998) (.cons (bf h1999) (.cons (bf h2002) (.cons (bt h2006) (.cons h2007 (.cons (arr_store (γ := FV) (sz := 1) (g := (fun x => [.d (.v (.int .u32 x))])) (pre := []) (post := [.d (.v (.int .u32 (wi .u32 (v_r869.fPc + 4)))), .d (.v (.int .i64 v_r869.fRing))]) (o := 0) (y := v_y1181) (zs := [.d (.v (.int .u32 v_y1181))]) (fun _ => rfl) h2008 rfl (Nat.le_of_ble_eq_true rfl)).1 (.cons (arr_store (γ := FV) (sz := 1) (g := (fun x => [.d (.v (.int .u32 x))])) (pre := []) (post := [.d (.v (.int .u32 (wi .u32 (v_r869.fPc + 4)))), .d (.v (.int .i64 v_r869.fRing))]) (o := 0) (y := v_y1181) (zs := [.d (.v (.int .u32 v_y1181))]) (fun _ => rfl) h2008 rfl (Nat.le_of_ble_eq_true rfl)).2 .nil))))))) q
          · rw [if_neg h2007] at h; cases h
        · rw [if_neg h2006] at h
          by_cases h2009 : v_r1167.1.fOp ≤ 13
          · rw [if_pos h2009] at h
            obtain ⟨v_r1603, h2010, h⟩ := bind_some h
            by_cases h2011 : 0 ≤ v_r1167.1.fA ∧ v_r1167.1.fA < (8 : Int)
            · rw [if_pos h2011] at h
              obtain ⟨v_y1604, h2012, h⟩ := bind_some h
              cases h
              exact pkk_sound TTok mix hF 14 (hs := [.t false, .c, .t false, .c, .t false, .c, .t false, .c, .t true, .c, .c, .r ((eI .u32) v_r1603), .x ((cS_api_Regs (S_api_Regs.mk (setA v_r869.fR v_r1167.1.fA v_r1603) (wi .u32 (v_r869.fPc + 4)) v_r869.fRing)).map FV.d), .c]) (ts := []) (s := [0, 1, 2, 3, 4, 5, 6, 7, 8]) (l := [2, 4, 5, 7]) (by kernel_rfl) (by kernel_rfl) (.cons (bf h1998) (.cons (bf h1999) (.cons (bf h2002) (.cons (bf h2006) (.cons (dt h2009) (.cons (G_ringref5_two_ok n v_r1167.1.fOp v_y1180 v_y1181 _ h2010) (.cons h2011 (.cons (arr_store (γ := FV) (sz := 1) (g := (fun x => [.d (.v (.int .u32 x))])) (pre := []) (post := [.d (.v (.int .u32 (wi .u32 (v_r869.fPc + 4)))), .d (.v (.int .i64 v_r869.fRing))]) (o := 0) (y := v_r1603) (zs := [.d (.v (.int .u32 v_r1603))]) (fun _ => rfl) h2012 rfl (Nat.le_of_ble_eq_true rfl)).1 (.cons (arr_store (γ := FV) (sz := 1) (g := (fun x => [.d (.v (.int .u32 x))])) (pre := []) (post := [.d (.v (.int .u32 (wi .u32 (v_r869.fPc + 4)))), .d (.v (.int .i64 v_r869.fRing))]) (o := 0) (y := v_r1603) (zs := [.d (.v (.int .u32 v_r1603))]) (fun _ => rfl) h2012 rfl (Nat.le_of_ble_eq_true rfl)).2 .nil))))))))) q
            · rw [if_neg h2011] at h; cases h
          · rw [if_neg h2009] at h
            by_cases h2013 : v_r1167.1.fOp = 14
            · rw [if_pos h2013] at h
              by_cases h2014 : 0 ≤ v_r1167.1.fA ∧ v_r1167.1.fA < (8 : Int)
              · rw [if_pos h2014] at h
                obtain ⟨v_y1607, h2015, h⟩ := bind_some h
                cases h
                exact pkk_sound TTok mix hF 17 (hs := [.t false, .c, .t false, .c, .t false, .c, .t false, .c, .t false, .c, .t true, .c, .x ((cS_api_Regs (S_api_Regs.mk (setA v_r869.fR v_r1167.1.fA (wi .u32 (v_y1181 + (wi .u32 v_r1167.1.fC)))) (wi .u32 (v_r869.fPc + 4)) v_r869.fRing)).map FV.d), .c]) (ts := []) (s := [0, 1, 2, 3, 4, 5, 6, 7, 8]) (l := [2, 4, 5, 7]) (by kernel_rfl) (by kernel_rfl) (.cons (bf h1998) (.cons (bf h1999) (.cons (bf h2002) (.cons (bf h2006) (.cons (df h2009) (.cons (bt h2013) (.cons h2014 (.cons (arr_store (γ := FV) (sz := 1) (g := (fun x => [.d (.v (.int .u32 x))])) (pre := []) (post := [.d (.v (.int .u32 (wi .u32 (v_r869.fPc + 4)))), .d (.v (.int .i64 v_r869.fRing))]) (o := 0) (y := (wi .u32 (v_y1181 + (wi .u32 v_r1167.1.fC)))) (zs := [.d (.v (.int .u32 (wi .u32 (v_y1181 + (wi .u32 v_r1167.1.fC)))))]) (fun _ => rfl) h2015 rfl (Nat.le_of_ble_eq_true rfl)).1 (.cons (arr_store (γ := FV) (sz := 1) (g := (fun x => [.d (.v (.int .u32 x))])) (pre := []) (post := [.d (.v (.int .u32 (wi .u32 (v_r869.fPc + 4)))), .d (.v (.int .i64 v_r869.fRing))]) (o := 0) (y := (wi .u32 (v_y1181 + (wi .u32 v_r1167.1.fC)))) (zs := [.d (.v (.int .u32 (wi .u32 (v_y1181 + (wi .u32 v_r1167.1.fC)))))]) (fun _ => rfl) h2015 rfl (Nat.le_of_ble_eq_true rfl)).2 .nil))))))))) q
              · rw [if_neg h2014] at h; cases h
            · rw [if_neg h2013] at h
              obtain ⟨v_o1622, h2026, h⟩ := bind_some h
              refine pkk_sound TTok mix hF 19 (hs := [.t false, .c, .t false, .c, .t false, .c, .t false, .c, .t false, .c, .t false, .c]) (ts := []) (s := [0, 1, 2, 3, 4, 5, 6, 7, 8, 9]) (l := [2, 4, 5, 7, 8, 11, 12, 13, 14, 170]) (by kernel_rfl) (by kernel_rfl) (.cons (bf h1998) (.cons (bf h1999) (.cons (bf h2002) (.cons (bf h2006) (.cons (df h2009) (.cons (bf h2013) .nil)))))) (G_ringref5_StepOf_h_C7_ok hF (.s (cR (cF (cR (cF (cR (cF (cR (cF (cR (cF (cR (cF (cR (cB (cL (cR (cR (cR (cR (cR (cR (cR (cR (cR (cR (cR (bodyOf Try.f8))))))))))))))))))))))))))) :: ks) n v_r869 v_y1180 v_y1181 v_r1167 v_r923 v_z1494 _ h2026 ?_)
              cases v_o1622 with
              | x0 v_z1623 v_z1624 =>
                try dsimp only at h
                by_cases h2027 : v_z1623 = true
                · rw [if_pos h2027] at h
                  cases h
                  exact pkk_sound TTok mix hF 2 (hs := [.t true, .c]) (ts := []) (s := [0, 1, 2, 3, 4, 5, 6, 7, 8]) (l := [2, 4, 5, 7]) (by kernel_rfl) (by kernel_rfl) (.cons h2027 (.cons (show 8 + 1 ≤ 10 by decide) .nil)) q
                · rw [if_neg h2027] at h
                  by_cases h2028 : v_r1167.1.fOp = 22
                  · rw [if_pos h2028] at h
                    by_cases h2029 : 0 ≤ v_r1167.1.fA ∧ v_r1167.1.fA < (8 : Int)
                    · rw [if_pos h2029] at h
                      obtain ⟨v_y1626, h2030, h⟩ := bind_some h
                      cases h
                      exact pkk_sound TTok mix hF 5 (hs := [.t false, .c, .t true, .c, .x ((cS_api_Regs (S_api_Regs.mk (setA v_r869.fR v_r1167.1.fA (wi .u32 (v_r869.fPc + 4))) (wi .u32 (v_r869.fPc + 4)) v_r869.fRing)).map FV.d), .c, .c]) (ts := []) (s := [0, 1, 2, 3, 4, 5, 6, 7, 8]) (l := [2, 4, 5, 7]) (by kernel_rfl) (by kernel_rfl) (.cons (vf h2027) (.cons (bt h2028) (.cons h2029 (.cons (arr_store (γ := FV) (sz := 1) (g := (fun x => [.d (.v (.int .u32 x))])) (pre := []) (post := [.d (.v (.int .u32 (wi .u32 (v_r869.fPc + 4)))), .d (.v (.int .i64 v_r869.fRing))]) (o := 0) (y := (wi .u32 (v_r869.fPc + 4))) (zs := [.d (.v (.int .u32 (wi .u32 (v_r869.fPc + 4))))]) (fun _ => rfl) h2030 rfl (Nat.le_of_ble_eq_true rfl)).1 (.cons (arr_store (γ := FV) (sz := 1) (g := (fun x => [.d (.v (.int .u32 x))])) (pre := []) (post := [.d (.v (.int .u32 (wi .u32 (v_r869.fPc + 4)))), .d (.v (.int .i64 v_r869.fRing))]) (o := 0) (y := (wi .u32 (v_r869.fPc + 4))) (zs := [.d (.v (.int .u32 (wi .u32 (v_r869.fPc + 4))))]) (fun _ => rfl) h2030 rfl (Nat.le_of_ble_eq_true rfl)).2 (.cons (show 8 + 1 ≤ 10 by decide) .nil)))))) q
                    · rw [if_neg h2029] at h; cases h
                  · rw [if_neg h2028] at h
                    by_cases h2031 : v_r1167.1.fOp = 23
                    · rw [if_pos h2031] at h
                      cases h
                      exact pkk_sound TTok mix hF 8 (hs := [.t false, .c, .t false, .c, .t true, .c]) (ts := []) (s := [0, 1, 2, 3, 4, 5, 6, 7, 8]) (l := [2, 4, 5, 7]) (by kernel_rfl) (by kernel_rfl) (.cons (vf h2027) (.cons (bf h2028) (.cons (bt h2031) (.cons (show 8 + 1 ≤ 10 by decide) .nil)))) q
                    · rw [if_neg h2031] at h
                      by_cases h2032 : v_r1167.1.fOp = 24
                      · rw [if_pos h2032] at h
                        cases h
                        exact pkk_sound TTok mix hF 11 (hs := [.t false, .c, .t false, .c, .t false, .c, .t true, .c]) (ts := []) (s := [0, 1, 2, 3, 4, 5, 6, 7, 8]) (l := [2, 4, 5, 7]) (by kernel_rfl) (by kernel_rfl) (.cons (vf h2027) (.cons (bf h2028) (.cons (bf h2031) (.cons (bt h2032) (.cons (show 0 + 1 ≤ 2 by decide) .nil))))) q
                      · rw [if_neg h2032] at h
                        by_cases h2033 : v_r1167.1.fOp = 26
                        · rw [if_pos h2033] at h
                          cases h
                          exact pkk_sound TTok mix hF 14 (hs := [.t false, .c, .t false, .c, .t false, .c, .t false, .c, .t true, .c, .c]) (ts := []) (s := [0, 1, 2, 3, 4, 5, 6, 7, 8]) (l := [2, 4, 5, 7]) (by kernel_rfl) (by kernel_rfl) (.cons (vf h2027) (.cons (bf h2028) (.cons (bf h2031) (.cons (bf h2032) (.cons (bt h2033) (.cons (show 8 + 1 ≤ 10 by decide) (.cons (show 9 + 1 ≤ 10 by decide) .nil))))))) q
                        · rw [if_neg h2033] at h
                          cases h
                          exact pkk_sound TTok mix hF 14 (hs := [.t false, .c, .t false, .c, .t false, .c, .t false, .c, .t false]) (ts := []) (s := [0, 1, 2, 3, 4, 5, 6, 7, 8]) (l := [2, 4, 5, 7]) (by kernel_rfl) (by kernel_rfl) (.cons (vf h2027) (.cons (bf h2028) (.cons (bf h2031) (.cons (bf h2032) (.cons (bf h2033) .nil))))) q
inductive G_ringref5_StepOf_h_C9_R where
  | x0 (v_w1634 : (List Int))
  | x1 (v_w1636 : (List Int))
  | x2 (v_w1638 : (List Int))
  | x3 (v_w1640 : (List Int))
  | x4 (v_w1643 : (List Int)) (v_b1644 : S_api_Regs)
  | x5 (v_w1646 : (List Int))
  | x6 (v_w1648 : (List Int))
  | x7 (v_w1650 : (List Int))
  | x8 (v_w1652 : (List Int))
  | x9 (v_w1654 : (List Int))
  | x10 (v_w1656 : (List Int))
  | x11 (v_w1658 : (List Int))
def G_ringref5_StepOf_h_C9_ex : G_ringref5_StepOf_h_C9_R → Ex
  | .x0 _ => .normal
  | .x1 _ => .normal
  | .x2 _ => .normal
  | .x3 _ => .normal
  | .x4 _ _ => .normal
  | .x5 _ => .normal
  | .x6 _ => .normal
  | .x7 _ => .normal
  | .x8 _ => .normal
  | .x9 _ => .normal
  | .x10 _ => .normal
  | .x11 _ => .normal
def G_ringref5_StepOf_h_C9_st (v_r869 : S_api_Regs) (v_y1180 : Int) (v_y1181 : Int) (v_r1167 : (S_api_Ins × Int)) (v_r923 : (Int × S_api_Trap × S_ringref5_Room)) (v_z1494 : (List Int)) : G_ringref5_StepOf_h_C9_R → PS
  | .x0 v_w1634 => ⟨[dd, dd, .ref 5 0, dd, .ref 6 0, .ref 7 0, dd, .ref 8 0, dd, dd, dd, dd, dd, dd, dd, dd, dd, dd, dd, dd, dd, dd, dd, dd, dd, dd, dd, dd, dd, dd, dd, dd, dd, dd, dd, dd, dd, dd, dd, dd, dd, dd, dd, dd, dd, dd, dd, dd, dd, dd, dd, dd, dd, dd, dd, dd, dd, dd, dd, dd, dd, dd, dd, dd, dd, dd, dd, dd, dd, dd, dd, dd, dd, dd, dd, dd, dd, dd, dd, dd, dd, dd, dd, dd, dd, dd, dd, dd, dd, dd, dd, dd, dd, dd, dd, dd, dd, dd, dd, dd, dd, dd, dd, dd, dd, dd, dd, dd, dd, dd, dd, dd, dd, dd, dd, dd, dd, dd, dd, dd, dd, dd, dd, dd, dd, dd, dd, dd, dd, dd, dd, dd, dd, dd, dd, dd, dd, dd, dd, dd, dd, dd, dd, dd, dd, dd, dd, dd, dd, dd, dd, dd, dd, dd, dd, dd, dd, dd, dd, dd, dd, dd, dd, dd, dd, dd, dd, dd, dd, dd, dd, dd, dd, dd, dd, dd, dd, dd, dd, dd, dd, dd, dd, dd, dd, dd, dd, dd, dd, dd, dd, dd, dd, dd, dd, dd, dd, dd, dd, dd, dd, dd, dd, dd, dd, dd, dd, dd, dd, dd, dd, dd, dd, dd, dd, dd, dd, dd, dd, dd, dd, dd, dd, dd, dd, dd, dd], [.gh 0 (.ref 2 0), .gh 1 (.srf 4), .box [.d (.v (.int .u32 v_r923.2.2.fAt)), .srf 3, .d (.v (.int .i64 v_r923.2.2.fMay))], .row 5 1 (v_w1634.map (eI .u8)), .none, .box ((cS_api_Regs (S_api_Regs.mk v_r869.fR (wi .u32 (v_r869.fPc + 4)) v_r869.fRing)).map FV.d), .box ((cS_api_Regs (S_api_Regs.mk (fun (_ : Fin 8) => 0) 0 0)).map FV.d), .box [.d (.v (.int .i64 0)), .d (.v (.int .u32 0))], .box [.d (.v (.int .i64 5)), .d (.v (.int .u32 v_r923.2.1.fAddr))]]⟩
  | .x1 v_w1636 => ⟨[dd, dd, .ref 5 0, dd, .ref 6 0, .ref 7 0, dd, .ref 8 0, dd, dd, dd, dd, dd, dd, dd, dd, dd, dd, dd, dd, dd, dd, dd, dd, dd, dd, dd, dd, dd, dd, dd, dd, dd, dd, dd, dd, dd, dd, dd, dd, dd, dd, dd, dd, dd, dd, dd, dd, dd, dd, dd, dd, dd, dd, dd, dd, dd, dd, dd, dd, dd, dd, dd, dd, dd, dd, dd, dd, dd, dd, dd, dd, dd, dd, dd, dd, dd, dd, dd, dd, dd, dd, dd, dd, dd, dd, dd, dd, dd, dd, dd, dd, dd, dd, dd, dd, dd, dd, dd, dd, dd, dd, dd, dd, dd, dd, dd, dd, dd, dd, dd, dd, dd, dd, dd, dd, dd, dd, dd, dd, dd, dd, dd, dd, dd, dd, dd, dd, dd, dd, dd, dd, dd, dd, dd, dd, dd, dd, dd, dd, dd, dd, dd, dd, dd, dd, dd, dd, dd, dd, dd, dd, dd, dd, dd, dd, dd, dd, dd, dd, dd, dd, dd, dd, dd, dd, dd, dd, dd, dd, dd, dd, dd, dd, dd, dd, dd, dd, dd, dd, dd, dd, dd, dd, dd, dd, dd, dd, dd, dd, dd, dd, dd, dd, dd, dd, dd, dd, dd, dd, dd, dd, dd, dd, dd, dd, dd, dd, dd, dd, dd, dd, dd, dd, dd, dd, dd, dd, dd, dd, dd, dd, dd, dd, dd, dd, dd], [.gh 0 (.ref 2 0), .gh 1 (.srf 4), .box [.d (.v (.int .u32 v_r923.2.2.fAt)), .srf 3, .d (.v (.int .i64 v_r923.2.2.fMay))], .row 5 1 (v_w1636.map (eI .u8)), .none, .box ((cS_api_Regs (S_api_Regs.mk (setA v_r869.fR v_r1167.1.fA (wi .u32 v_r1167.1.fC)) (wi .u32 (v_r869.fPc + 4)) v_r869.fRing)).map FV.d), .box ((cS_api_Regs (S_api_Regs.mk (fun (_ : Fin 8) => 0) 0 0)).map FV.d), .box [.d (.v (.int .i64 0)), .d (.v (.int .u32 0))], .box [.d (.v (.int .i64 v_r923.2.1.fKind)), .d (.v (.int .u32 v_r923.2.1.fAddr))]]⟩
  | .x2 v_w1638 => ⟨[dd, dd, .ref 5 0, dd, .ref 6 0, .ref 7 0, dd, .ref 8 0, dd, dd, dd, dd, dd, dd, dd, dd, dd, dd, dd, dd, dd, dd, dd, dd, dd, dd, dd, dd, dd, dd, dd, dd, dd, dd, dd, dd, dd, dd, dd, dd, dd, dd, dd, dd, dd, dd, dd, dd, dd, dd, dd, dd, dd, dd, dd, dd, dd, dd, dd, dd, dd, dd, dd, dd, dd, dd, dd, dd, dd, dd, dd, dd, dd, dd, dd, dd, dd, dd, dd, dd, dd, dd, dd, dd, dd, dd, dd, dd, dd, dd, dd, dd, dd, dd, dd, dd, dd, dd, dd, dd, dd, dd, dd, dd, dd, dd, dd, dd, dd, dd, dd, dd, dd, dd, dd, dd, dd, dd, dd, dd, dd, dd, dd, dd, dd, dd, dd, dd, dd, dd, dd, dd, dd, dd, dd, dd, dd, dd, dd, dd, dd, dd, dd, dd, dd, dd, dd, dd, dd, dd, dd, dd, dd, dd, dd, dd, dd, dd, dd, dd, dd, dd, dd, dd, dd, dd, dd, dd, dd, dd, dd, dd, dd, dd, dd, dd, dd, dd, dd, dd, dd, dd, dd, dd, dd, dd, dd, dd, dd, dd, dd, dd, dd, dd, dd, dd, dd, dd, dd, dd, dd, dd, dd, dd, dd, dd, dd, dd, dd, dd, dd, dd, dd, dd, dd, dd, dd, dd, dd, dd, dd, dd, dd, dd, dd, dd, dd], [.gh 0 (.ref 2 0), .gh 1 (.srf 4), .box [.d (.v (.int .u32 v_r923.2.2.fAt)), .srf 3, .d (.v (.int .i64 v_r923.2.2.fMay))], .row 5 1 (v_w1638.map (eI .u8)), .none, .box ((cS_api_Regs (S_api_Regs.mk (setA v_r869.fR v_r1167.1.fA (wi .u32 ((shlI .u32 v_y1180 16) + (bits .and .u32 (wi .u32 v_r1167.1.fC) 65535)))) (wi .u32 (v_r869.fPc + 4)) v_r869.fRing)).map FV.d), .box ((cS_api_Regs (S_api_Regs.mk (fun (_ : Fin 8) => 0) 0 0)).map FV.d), .box [.d (.v (.int .i64 0)), .d (.v (.int .u32 0))], .box [.d (.v (.int .i64 v_r923.2.1.fKind)), .d (.v (.int .u32 v_r923.2.1.fAddr))]]⟩
  | .x3 v_w1640 => ⟨[dd, dd, .ref 5 0, dd, .ref 6 0, .ref 7 0, dd, .ref 8 0, dd, dd, dd, dd, dd, dd, dd, dd, dd, dd, dd, dd, dd, dd, dd, dd, dd, dd, dd, dd, dd, dd, dd, dd, dd, dd, dd, dd, dd, dd, dd, dd, dd, dd, dd, dd, dd, dd, dd, dd, dd, dd, dd, dd, dd, dd, dd, dd, dd, dd, dd, dd, dd, dd, dd, dd, dd, dd, dd, dd, dd, dd, dd, dd, dd, dd, dd, dd, dd, dd, dd, dd, dd, dd, dd, dd, dd, dd, dd, dd, dd, dd, dd, dd, dd, dd, dd, dd, dd, dd, dd, dd, dd, dd, dd, dd, dd, dd, dd, dd, dd, dd, dd, dd, dd, dd, dd, dd, dd, dd, dd, dd, dd, dd, dd, dd, dd, dd, dd, dd, dd, dd, dd, dd, dd, dd, dd, dd, dd, dd, dd, dd, dd, dd, dd, dd, dd, dd, dd, dd, dd, dd, dd, dd, dd, dd, dd, dd, dd, dd, dd, dd, dd, dd, dd, dd, dd, dd, dd, dd, dd, dd, dd, dd, dd, dd, dd, dd, dd, dd, dd, dd, dd, dd, dd, dd, dd, dd, dd, dd, dd, dd, dd, dd, dd, dd, dd, dd, dd, dd, dd, dd, dd, dd, dd, dd, dd, dd, dd, dd, dd, dd, dd, dd, dd, dd, dd, dd, dd, dd, dd, dd, dd, dd, dd, dd, dd, dd, dd], [.gh 0 (.ref 2 0), .gh 1 (.srf 4), .box [.d (.v (.int .u32 v_r923.2.2.fAt)), .srf 3, .d (.v (.int .i64 v_r923.2.2.fMay))], .row 5 1 (v_w1640.map (eI .u8)), .none, .box ((cS_api_Regs (S_api_Regs.mk (setA v_r869.fR v_r1167.1.fA v_y1181) (wi .u32 (v_r869.fPc + 4)) v_r869.fRing)).map FV.d), .box ((cS_api_Regs (S_api_Regs.mk (fun (_ : Fin 8) => 0) 0 0)).map FV.d), .box [.d (.v (.int .i64 0)), .d (.v (.int .u32 0))], .box [.d (.v (.int .i64 v_r923.2.1.fKind)), .d (.v (.int .u32 v_r923.2.1.fAddr))]]⟩
  | .x4 v_w1643 v_b1644 => ⟨[dd, dd, .ref 5 0, dd, .ref 6 0, .ref 7 0, dd, .ref 8 0, dd, dd, dd, dd, dd, dd, dd, dd, dd, dd, dd, dd, dd, dd, dd, dd, dd, dd, dd, dd, dd, dd, dd, dd, dd, dd, dd, dd, dd, dd, dd, dd, dd, dd, dd, dd, dd, dd, dd, dd, dd, dd, dd, dd, dd, dd, dd, dd, dd, dd, dd, dd, dd, dd, dd, dd, dd, dd, dd, dd, dd, dd, dd, dd, dd, dd, dd, dd, dd, dd, dd, dd, dd, dd, dd, dd, dd, dd, dd, dd, dd, dd, dd, dd, dd, dd, dd, dd, dd, dd, dd, dd, dd, dd, dd, dd, dd, dd, dd, dd, dd, dd, dd, dd, dd, dd, dd, dd, dd, dd, dd, dd, dd, dd, dd, dd, dd, dd, dd, dd, dd, dd, dd, dd, dd, dd, dd, dd, dd, dd, dd, dd, dd, dd, dd, dd, dd, dd, dd, dd, dd, dd, dd, dd, dd, dd, dd, dd, dd, dd, dd, dd, dd, dd, dd, dd, dd, dd, dd, dd, dd, dd, dd, dd, dd, dd, dd, dd, dd, dd, dd, dd, dd, dd, dd, dd, dd, dd, dd, dd, dd, dd, dd, dd, dd, dd, dd, dd, dd, dd, dd, dd, dd, dd, dd, dd, dd, dd, dd, dd, dd, dd, dd, dd, dd, dd, dd, dd, dd, dd, dd, dd, dd, dd, dd, dd, dd, dd, dd], [.gh 0 (.ref 2 0), .gh 1 (.srf 4), .box [.d (.v (.int .u32 v_r923.2.2.fAt)), .srf 3, .d (.v (.int .i64 v_r923.2.2.fMay))], .row 5 1 (v_w1643.map (eI .u8)), .none, .box ((cS_api_Regs v_b1644).map FV.d), .box ((cS_api_Regs (S_api_Regs.mk (fun (_ : Fin 8) => 0) 0 0)).map FV.d), .box [.d (.v (.int .i64 0)), .d (.v (.int .u32 0))], .box [.d (.v (.int .i64 v_r923.2.1.fKind)), .d (.v (.int .u32 v_r923.2.1.fAddr))]]⟩
  | .x5 v_w1646 => ⟨[dd, dd, .ref 5 0, dd, .ref 6 0, .ref 7 0, dd, .ref 8 0, dd, dd, dd, dd, dd, dd, dd, dd, dd, dd, dd, dd, dd, dd, dd, dd, dd, dd, dd, dd, dd, dd, dd, dd, dd, dd, dd, dd, dd, dd, dd, dd, dd, dd, dd, dd, dd, dd, dd, dd, dd, dd, dd, dd, dd, dd, dd, dd, dd, dd, dd, dd, dd, dd, dd, dd, dd, dd, dd, dd, dd, dd, dd, dd, dd, dd, dd, dd, dd, dd, dd, dd, dd, dd, dd, dd, dd, dd, dd, dd, dd, dd, dd, dd, dd, dd, dd, dd, dd, dd, dd, dd, dd, dd, dd, dd, dd, dd, dd, dd, dd, dd, dd, dd, dd, dd, dd, dd, dd, dd, dd, dd, dd, dd, dd, dd, dd, dd, dd, dd, dd, dd, dd, dd, dd, dd, dd, dd, dd, dd, dd, dd, dd, dd, dd, dd, dd, dd, dd, dd, dd, dd, dd, dd, dd, dd, dd, dd, dd, dd, dd, dd, dd, dd, dd, dd, dd, dd, dd, dd, dd, dd, dd, dd, dd, dd, dd, dd, dd, dd, dd, dd, dd, dd, dd, dd, dd, dd, dd, dd, dd, dd, dd, dd, dd, dd, dd, dd, dd, dd, dd, dd, dd, dd, dd, dd, dd, dd, dd, dd, dd, dd, dd, dd, dd, dd, dd, dd, dd, dd, dd, dd, dd, dd, dd, dd, dd, dd, dd], [.gh 0 (.ref 2 0), .gh 1 (.srf 4), .box [.d (.v (.int .u32 v_r923.2.2.fAt)), .srf 3, .d (.v (.int .i64 v_r923.2.2.fMay))], .row 5 1 (v_w1646.map (eI .u8)), .none, .box ((cS_api_Regs (S_api_Regs.mk (setA v_r869.fR v_r1167.1.fA (wi .u32 (v_y1181 + (wi .u32 v_r1167.1.fC)))) (wi .u32 (v_r869.fPc + 4)) v_r869.fRing)).map FV.d), .box ((cS_api_Regs (S_api_Regs.mk (fun (_ : Fin 8) => 0) 0 0)).map FV.d), .box [.d (.v (.int .i64 0)), .d (.v (.int .u32 0))], .box [.d (.v (.int .i64 v_r923.2.1.fKind)), .d (.v (.int .u32 v_r923.2.1.fAddr))]]⟩
  | .x6 v_w1648 => ⟨[dd, dd, .ref 5 0, dd, .ref 6 0, .ref 7 0, dd, .ref 8 0, dd, dd, dd, dd, dd, dd, dd, dd, dd, dd, dd, dd, dd, dd, dd, dd, dd, dd, dd, dd, dd, dd, dd, dd, dd, dd, dd, dd, dd, dd, dd, dd, dd, dd, dd, dd, dd, dd, dd, dd, dd, dd, dd, dd, dd, dd, dd, dd, dd, dd, dd, dd, dd, dd, dd, dd, dd, dd, dd, dd, dd, dd, dd, dd, dd, dd, dd, dd, dd, dd, dd, dd, dd, dd, dd, dd, dd, dd, dd, dd, dd, dd, dd, dd, dd, dd, dd, dd, dd, dd, dd, dd, dd, dd, dd, dd, dd, dd, dd, dd, dd, dd, dd, dd, dd, dd, dd, dd, dd, dd, dd, dd, dd, dd, dd, dd, dd, dd, dd, dd, dd, dd, dd, dd, dd, dd, dd, dd, dd, dd, dd, dd, dd, dd, dd, dd, dd, dd, dd, dd, dd, dd, dd, dd, dd, dd, dd, dd, dd, dd, dd, dd, dd, dd, dd, dd, dd, dd, dd, dd, dd, dd, dd, dd, dd, dd, dd, dd, dd, dd, dd, dd, dd, dd, dd, dd, dd, dd, dd, dd, dd, dd, dd, dd, dd, dd, dd, dd, dd, dd, dd, dd, dd, dd, dd, dd, dd, dd, dd, dd, dd, dd, dd, dd, dd, dd, dd, dd, dd, dd, dd, dd, dd, dd, dd, dd, dd, dd, dd], [.gh 0 (.ref 2 0), .gh 1 (.srf 4), .box [.d (.v (.int .u32 v_r923.2.2.fAt)), .srf 3, .d (.v (.int .i64 v_r923.2.2.fMay))], .row 5 1 (v_w1648.map (eI .u8)), .none, .box ((cS_api_Regs (S_api_Regs.mk v_r869.fR (wi .u32 (v_r869.fPc + (wi .u32 v_r1167.1.fC))) v_r869.fRing)).map FV.d), .box ((cS_api_Regs (S_api_Regs.mk (fun (_ : Fin 8) => 0) 0 0)).map FV.d), .box [.d (.v (.int .i64 0)), .d (.v (.int .u32 0))], .box [.d (.v (.int .i64 v_r923.2.1.fKind)), .d (.v (.int .u32 v_r923.2.1.fAddr))]]⟩
  | .x7 v_w1650 => ⟨[dd, dd, .ref 5 0, dd, .ref 6 0, .ref 7 0, dd, .ref 8 0, dd, dd, dd, dd, dd, dd, dd, dd, dd, dd, dd, dd, dd, dd, dd, dd, dd, dd, dd, dd, dd, dd, dd, dd, dd, dd, dd, dd, dd, dd, dd, dd, dd, dd, dd, dd, dd, dd, dd, dd, dd, dd, dd, dd, dd, dd, dd, dd, dd, dd, dd, dd, dd, dd, dd, dd, dd, dd, dd, dd, dd, dd, dd, dd, dd, dd, dd, dd, dd, dd, dd, dd, dd, dd, dd, dd, dd, dd, dd, dd, dd, dd, dd, dd, dd, dd, dd, dd, dd, dd, dd, dd, dd, dd, dd, dd, dd, dd, dd, dd, dd, dd, dd, dd, dd, dd, dd, dd, dd, dd, dd, dd, dd, dd, dd, dd, dd, dd, dd, dd, dd, dd, dd, dd, dd, dd, dd, dd, dd, dd, dd, dd, dd, dd, dd, dd, dd, dd, dd, dd, dd, dd, dd, dd, dd, dd, dd, dd, dd, dd, dd, dd, dd, dd, dd, dd, dd, dd, dd, dd, dd, dd, dd, dd, dd, dd, dd, dd, dd, dd, dd, dd, dd, dd, dd, dd, dd, dd, dd, dd, dd, dd, dd, dd, dd, dd, dd, dd, dd, dd, dd, dd, dd, dd, dd, dd, dd, dd, dd, dd, dd, dd, dd, dd, dd, dd, dd, dd, dd, dd, dd, dd, dd, dd, dd, dd, dd, dd, dd], [.gh 0 (.ref 2 0), .gh 1 (.srf 4), .box [.d (.v (.int .u32 v_r923.2.2.fAt)), .srf 3, .d (.v (.int .i64 v_r923.2.2.fMay))], .row 5 1 (v_w1650.map (eI .u8)), .none, .box ((cS_api_Regs (S_api_Regs.mk (setA v_r869.fR v_r1167.1.fA (wi .u32 (v_r869.fPc + 4))) (wi .u32 (v_r869.fPc + (wi .u32 v_r1167.1.fC))) v_r869.fRing)).map FV.d), .box ((cS_api_Regs (S_api_Regs.mk (fun (_ : Fin 8) => 0) 0 0)).map FV.d), .box [.d (.v (.int .i64 0)), .d (.v (.int .u32 0))], .box [.d (.v (.int .i64 v_r923.2.1.fKind)), .d (.v (.int .u32 v_r923.2.1.fAddr))]]⟩
  | .x8 v_w1652 => ⟨[dd, dd, .ref 5 0, dd, .ref 6 0, .ref 7 0, dd, .ref 8 0, dd, dd, dd, dd, dd, dd, dd, dd, dd, dd, dd, dd, dd, dd, dd, dd, dd, dd, dd, dd, dd, dd, dd, dd, dd, dd, dd, dd, dd, dd, dd, dd, dd, dd, dd, dd, dd, dd, dd, dd, dd, dd, dd, dd, dd, dd, dd, dd, dd, dd, dd, dd, dd, dd, dd, dd, dd, dd, dd, dd, dd, dd, dd, dd, dd, dd, dd, dd, dd, dd, dd, dd, dd, dd, dd, dd, dd, dd, dd, dd, dd, dd, dd, dd, dd, dd, dd, dd, dd, dd, dd, dd, dd, dd, dd, dd, dd, dd, dd, dd, dd, dd, dd, dd, dd, dd, dd, dd, dd, dd, dd, dd, dd, dd, dd, dd, dd, dd, dd, dd, dd, dd, dd, dd, dd, dd, dd, dd, dd, dd, dd, dd, dd, dd, dd, dd, dd, dd, dd, dd, dd, dd, dd, dd, dd, dd, dd, dd, dd, dd, dd, dd, dd, dd, dd, dd, dd, dd, dd, dd, dd, dd, dd, dd, dd, dd, dd, dd, dd, dd, dd, dd, dd, dd, dd, dd, dd, dd, dd, dd, dd, dd, dd, dd, dd, dd, dd, dd, dd, dd, dd, dd, dd, dd, dd, dd, dd, dd, dd, dd, dd, dd, dd, dd, dd, dd, dd, dd, dd, dd, dd, dd, dd, dd, dd, dd, dd, dd, dd], [.gh 0 (.ref 2 0), .gh 1 (.srf 4), .box [.d (.v (.int .u32 v_r923.2.2.fAt)), .srf 3, .d (.v (.int .i64 v_r923.2.2.fMay))], .row 5 1 (v_w1652.map (eI .u8)), .none, .box ((cS_api_Regs (S_api_Regs.mk v_r869.fR v_y1180 v_r869.fRing)).map FV.d), .box ((cS_api_Regs (S_api_Regs.mk (fun (_ : Fin 8) => 0) 0 0)).map FV.d), .box [.d (.v (.int .i64 0)), .d (.v (.int .u32 0))], .box [.d (.v (.int .i64 v_r923.2.1.fKind)), .d (.v (.int .u32 v_r923.2.1.fAddr))]]⟩
  | .x9 v_w1654 => ⟨[dd, dd, .ref 5 0, dd, .ref 6 0, .ref 7 0, dd, .ref 8 0, dd, dd, dd, dd, dd, dd, dd, dd, dd, dd, dd, dd, dd, dd, dd, dd, dd, dd, dd, dd, dd, dd, dd, dd, dd, dd, dd, dd, dd, dd, dd, dd, dd, dd, dd, dd, dd, dd, dd, dd, dd, dd, dd, dd, dd, dd, dd, dd, dd, dd, dd, dd, dd, dd, dd, dd, dd, dd, dd, dd, dd, dd, dd, dd, dd, dd, dd, dd, dd, dd, dd, dd, dd, dd, dd, dd, dd, dd, dd, dd, dd, dd, dd, dd, dd, dd, dd, dd, dd, dd, dd, dd, dd, dd, dd, dd, dd, dd, dd, dd, dd, dd, dd, dd, dd, dd, dd, dd, dd, dd, dd, dd, dd, dd, dd, dd, dd, dd, dd, dd, dd, dd, dd, dd, dd, dd, dd, dd, dd, dd, dd, dd, dd, dd, dd, dd, dd, dd, dd, dd, dd, dd, dd, dd, dd, dd, dd, dd, dd, dd, dd, dd, dd, dd, dd, dd, dd, dd, dd, dd, dd, dd, dd, dd, dd, dd, dd, dd, dd, dd, dd, dd, dd, dd, dd, dd, dd, dd, dd, dd, dd, dd, dd, dd, dd, dd, dd, dd, dd, dd, dd, dd, dd, dd, dd, dd, dd, dd, dd, dd, dd, dd, dd, dd, dd, dd, dd, dd, dd, dd, dd, dd, dd, dd, dd, dd, dd, dd, dd], [.gh 0 (.ref 2 0), .gh 1 (.srf 4), .box [.d (.v (.int .u32 v_r923.2.2.fAt)), .srf 3, .d (.v (.int .i64 v_r923.2.2.fMay))], .row 5 1 (v_w1654.map (eI .u8)), .none, .box ((cS_api_Regs (S_api_Regs.mk v_r869.fR (wi .u32 (v_r869.fPc + 4)) v_r869.fRing)).map FV.d), .box ((cS_api_Regs (S_api_Regs.mk (fun (_ : Fin 8) => 0) 0 0)).map FV.d), .box [.d (.v (.int .i64 0)), .d (.v (.int .u32 0))], .box [.d (.v (.int .i64 1)), .d (.v (.int .u32 v_r923.2.1.fAddr))]]⟩
  | .x10 v_w1656 => ⟨[dd, dd, .ref 5 0, dd, .ref 6 0, .ref 7 0, dd, .ref 8 0, dd, dd, dd, dd, dd, dd, dd, dd, dd, dd, dd, dd, dd, dd, dd, dd, dd, dd, dd, dd, dd, dd, dd, dd, dd, dd, dd, dd, dd, dd, dd, dd, dd, dd, dd, dd, dd, dd, dd, dd, dd, dd, dd, dd, dd, dd, dd, dd, dd, dd, dd, dd, dd, dd, dd, dd, dd, dd, dd, dd, dd, dd, dd, dd, dd, dd, dd, dd, dd, dd, dd, dd, dd, dd, dd, dd, dd, dd, dd, dd, dd, dd, dd, dd, dd, dd, dd, dd, dd, dd, dd, dd, dd, dd, dd, dd, dd, dd, dd, dd, dd, dd, dd, dd, dd, dd, dd, dd, dd, dd, dd, dd, dd, dd, dd, dd, dd, dd, dd, dd, dd, dd, dd, dd, dd, dd, dd, dd, dd, dd, dd, dd, dd, dd, dd, dd, dd, dd, dd, dd, dd, dd, dd, dd, dd, dd, dd, dd, dd, dd, dd, dd, dd, dd, dd, dd, dd, dd, dd, dd, dd, dd, dd, dd, dd, dd, dd, dd, dd, dd, dd, dd, dd, dd, dd, dd, dd, dd, dd, dd, dd, dd, dd, dd, dd, dd, dd, dd, dd, dd, dd, dd, dd, dd, dd, dd, dd, dd, dd, dd, dd, dd, dd, dd, dd, dd, dd, dd, dd, dd, dd, dd, dd, dd, dd, dd, dd, dd, dd], [.gh 0 (.ref 2 0), .gh 1 (.srf 4), .box [.d (.v (.int .u32 v_r923.2.2.fAt)), .srf 3, .d (.v (.int .i64 v_r923.2.2.fMay))], .row 5 1 (v_w1656.map (eI .u8)), .none, .box ((cS_api_Regs (S_api_Regs.mk v_r869.fR v_y1180 1)).map FV.d), .box ((cS_api_Regs (S_api_Regs.mk (fun (_ : Fin 8) => 0) 0 0)).map FV.d), .box [.d (.v (.int .i64 0)), .d (.v (.int .u32 0))], .box [.d (.v (.int .i64 v_r923.2.1.fKind)), .d (.v (.int .u32 v_r923.2.1.fAddr))]]⟩
  | .x11 v_w1658 => ⟨[dd, dd, .ref 5 0, dd, .ref 6 0, .ref 7 0, dd, .ref 8 0, dd, dd, dd, dd, dd, dd, dd, dd, dd, dd, dd, dd, dd, dd, dd, dd, dd, dd, dd, dd, dd, dd, dd, dd, dd, dd, dd, dd, dd, dd, dd, dd, dd, dd, dd, dd, dd, dd, dd, dd, dd, dd, dd, dd, dd, dd, dd, dd, dd, dd, dd, dd, dd, dd, dd, dd, dd, dd, dd, dd, dd, dd, dd, dd, dd, dd, dd, dd, dd, dd, dd, dd, dd, dd, dd, dd, dd, dd, dd, dd, dd, dd, dd, dd, dd, dd, dd, dd, dd, dd, dd, dd, dd, dd, dd, dd, dd, dd, dd, dd, dd, dd, dd, dd, dd, dd, dd, dd, dd, dd, dd, dd, dd, dd, dd, dd, dd, dd, dd, dd, dd, dd, dd, dd, dd, dd, dd, dd, dd, dd, dd, dd, dd, dd, dd, dd, dd, dd, dd, dd, dd, dd, dd, dd, dd, dd, dd, dd, dd, dd, dd, dd, dd, dd, dd, dd, dd, dd, dd, dd, dd, dd, dd, dd, dd, dd, dd, dd, dd, dd, dd, dd, dd, dd, dd, dd, dd, dd, dd, dd, dd, dd, dd, dd, dd, dd, dd, dd, dd, dd, dd, dd, dd, dd, dd, dd, dd, dd, dd, dd, dd, dd, dd, dd, dd, dd, dd, dd, dd, dd, dd, dd, dd, dd, dd, dd, dd, dd, dd], [.gh 0 (.ref 2 0), .gh 1 (.srf 4), .box [.d (.v (.int .u32 v_r923.2.2.fAt)), .srf 3, .d (.v (.int .i64 v_r923.2.2.fMay))], .row 5 1 (v_w1658.map (eI .u8)), .none, .box ((cS_api_Regs (S_api_Regs.mk v_r869.fR (wi .u32 (v_r869.fPc + 4)) v_r869.fRing)).map FV.d), .box ((cS_api_Regs (S_api_Regs.mk (fun (_ : Fin 8) => 0) 0 0)).map FV.d), .box [.d (.v (.int .i64 0)), .d (.v (.int .u32 0))], .box [.d (.v (.int .i64 v_r923.2.1.fKind)), .d (.v (.int .u32 v_r923.2.1.fAddr))]]⟩
def G_ringref5_StepOf_h_C9_hd (v_r869 : S_api_Regs) (v_y1180 : Int) (v_y1181 : Int) (v_r1167 : (S_api_Ins × Int)) (v_r923 : (Int × S_api_Trap × S_ringref5_Room)) (v_z1494 : (List Int))  : PS := ⟨[dd, dd, .ref 5 0, dd, .ref 6 0, .ref 7 0, dd, .ref 8 0, .ref 9 0, dd, dd, .d (.v (.int .u32 v_r869.fPc)), .d (.v (.int .u32 v_y1180)), .d (.v (.int .u32 v_y1181)), .d (.v (.int .u32 (wi .u32 v_r1167.1.fC))), dd, dd, dd, dd, dd, dd, dd, dd, dd, dd, dd, dd, dd, dd, dd, dd, dd, dd, dd, dd, dd, dd, dd, dd, dd, dd, dd, dd, dd, dd, dd, dd, dd, dd, dd, dd, dd, dd, dd, dd, dd, dd, dd, dd, dd, dd, dd, dd, dd, dd, dd, dd, dd, dd, dd, dd, dd, dd, dd, dd, dd, dd, dd, dd, dd, dd, dd, dd, dd, dd, dd, dd, dd, dd, dd, dd, dd, dd, dd, dd, dd, dd, dd, dd, dd, dd, dd, dd, dd, dd, dd, dd, dd, dd, dd, dd, dd, dd, dd, dd, dd, dd, dd, dd, dd, dd, dd, dd, dd, dd, dd, dd, dd, dd, dd, dd, dd, dd, dd, dd, dd, dd, dd, dd, dd, dd, dd, dd, dd, dd, dd, dd, dd, dd, dd, dd, dd, dd, dd, dd, dd, dd, dd, dd, dd, dd, dd, dd, dd, dd, dd, dd, dd, dd, dd, dd, dd, dd, dd, dd, dd, dd, dd, dd, dd, dd, dd, dd, dd, dd, dd, dd, dd, dd, dd, dd, dd, dd, dd, dd, dd, dd, dd, dd, dd, dd, dd, dd, dd, dd, dd, dd, dd, dd, dd, dd, dd, dd, dd, dd, dd, dd, dd, dd, dd, dd, dd, dd, dd, dd, dd, dd], [.gh 0 (.ref 2 0), .gh 1 (.srf 4), .box [.d (.v (.int .u32 v_r923.2.2.fAt)), .srf 3, .d (.v (.int .i64 v_r923.2.2.fMay))], .row 5 1 (v_z1494.map (eI .u8)), .none, .box ((cS_api_Regs (S_api_Regs.mk v_r869.fR (wi .u32 (v_r869.fPc + 4)) v_r869.fRing)).map FV.d), .box ((cS_api_Regs (S_api_Regs.mk (fun (_ : Fin 8) => 0) 0 0)).map FV.d), .box [.d (.v (.int .i64 0)), .d (.v (.int .u32 0))], .box [.d (.v (.int .i64 v_r923.2.1.fKind)), .d (.v (.int .u32 v_r923.2.1.fAddr))], .box [.d (.v (.int .i64 v_r1167.1.fOp)), .d (.v (.int .i64 v_r1167.1.fA)), .d (.v (.int .i64 v_r1167.1.fB)), .d (.v (.int .i64 v_r1167.1.fC))]]⟩
def G_ringref5_StepOf_h_C9 (n : Nat) (v_r869 : S_api_Regs) (v_y1180 : Int) (v_y1181 : Int) (v_r1167 : (S_api_Ins × Int)) (v_r923 : (Int × S_api_Trap × S_ringref5_Room)) (v_z1494 : (List Int)) : Option G_ringref5_StepOf_h_C9_R :=
  (G_ringref5_StepOf_h_C8 n v_r869 v_y1180 v_y1181 v_r1167 v_r923 v_z1494).bind fun v_o1632 => match v_o1632 with
  | .x0 v_z1633 =>
    some (.x0 v_z1633)
  | .x1 v_z1635 =>
    some (.x1 v_z1635)
  | .x2 v_z1637 =>
    some (.x2 v_z1637)
  | .x3 v_z1639 =>
    some (.x3 v_z1639)
  | .x4 v_z1641 v_z1642 =>
    some (.x4 v_z1641 v_z1642)
  | .x5 v_z1645 =>
    some (.x5 v_z1645)
  | .x6 v_z1647 =>
    some (.x6 v_z1647)
  | .x7 v_z1649 =>
    some (.x7 v_z1649)
  | .x8 v_z1651 =>
    some (.x8 v_z1651)
  | .x9 v_z1653 =>
    some (.x9 v_z1653)
  | .x10 v_z1655 =>
    some (.x10 v_z1655)
  | .x11 v_z1657 =>
    some (.x11 v_z1657)
theorem G_ringref5_StepOf_h_C9_ok {Fi : Ex → PS → Prop} (hF : KC 227 Fi) (ks : List Fr) (n : Nat) (v_r869 : S_api_Regs) (v_y1180 : Int) (v_y1181 : Int) (v_r1167 : (S_api_Ins × Int)) (v_r923 : (Int × S_api_Trap × S_ringref5_Room)) (v_z1494 : (List Int))  (o : G_ringref5_StepOf_h_C9_R) (h : G_ringref5_StepOf_h_C9 n v_r869 v_y1180 v_y1181 v_r1167 v_r923 v_z1494 = some o) (q : RunE Try.prog 227 Fi ks (G_ringref5_StepOf_h_C9_ex o) (G_ringref5_StepOf_h_C9_st v_r869 v_y1180 v_y1181 v_r1167 v_r923 v_z1494 o)) : RunE Try.prog 227 Fi (.s (cL (cR (cR (cR (cR (cR (cR (cR (cR (cR (cR (cR (bodyOf Try.f8))))))))))))) :: ks) .normal (G_ringref5_StepOf_h_C9_hd v_r869 v_y1180 v_y1181 v_r1167 v_r923 v_z1494) := by
  unfold G_ringref5_StepOf_h_C9 at h
  obtain ⟨v_o1632, h2034, h⟩ := bind_some h
  refine pkk_sound TTok mix hF 3 (hs := [.c]) (ts := []) (s := [0, 1, 2, 3, 4, 5, 6, 7, 8, 9]) (l := [2, 4, 5, 7, 8, 11, 12, 13, 14, 110]) (by kernel_rfl) (by kernel_rfl) .nil (G_ringref5_StepOf_h_C8_ok hF (.b 0 :: ks) n v_r869 v_y1180 v_y1181 v_r1167 v_r923 v_z1494 _ h2034 ?_)
  cases v_o1632 with
  | x0 v_z1633 =>
    try dsimp only at h
    cases h
    exact pkk_sound TTok mix hF 1 (hs := []) (ts := []) (s := [0, 1, 2, 3, 4, 5, 6, 7, 8]) (l := [2, 4, 5, 7]) (by kernel_rfl) (by kernel_rfl) .nil q
  | x1 v_z1635 =>
    try dsimp only at h
    cases h
    exact pkk_sound TTok mix hF 1 (hs := []) (ts := []) (s := [0, 1, 2, 3, 4, 5, 6, 7, 8]) (l := [2, 4, 5, 7]) (by kernel_rfl) (by kernel_rfl) .nil q
  | x2 v_z1637 =>
    try dsimp only at h
    cases h
    exact pkk_sound TTok mix hF 1 (hs := []) (ts := []) (s := [0, 1, 2, 3, 4, 5, 6, 7, 8]) (l := [2, 4, 5, 7]) (by kernel_rfl) (by kernel_rfl) .nil q
  | x3 v_z1639 =>
    try dsimp only at h
    cases h
    exact pkk_sound TTok mix hF 1 (hs := []) (ts := []) (s := [0, 1, 2, 3, 4, 5, 6, 7, 8]) (l := [2, 4, 5, 7]) (by kernel_rfl) (by kernel_rfl) .nil q
  | x4 v_z1641 v_z1642 =>
    try dsimp only at h
    cases h
    exact pkk_sound TTok mix hF 1 (hs := []) (ts := []) (s := [0, 1, 2, 3, 4, 5, 6, 7, 8]) (l := [2, 4, 5, 7]) (by kernel_rfl) (by kernel_rfl) .nil q
  | x5 v_z1645 =>
    try dsimp only at h
    cases h
    exact pkk_sound TTok mix hF 1 (hs := []) (ts := []) (s := [0, 1, 2, 3, 4, 5, 6, 7, 8]) (l := [2, 4, 5, 7]) (by kernel_rfl) (by kernel_rfl) .nil q
  | x6 v_z1647 =>
    try dsimp only at h
    cases h
    exact pkk_sound TTok mix hF 1 (hs := []) (ts := []) (s := [0, 1, 2, 3, 4, 5, 6, 7, 8]) (l := [2, 4, 5, 7]) (by kernel_rfl) (by kernel_rfl) .nil q
  | x7 v_z1649 =>
    try dsimp only at h
    cases h
    exact pkk_sound TTok mix hF 1 (hs := []) (ts := []) (s := [0, 1, 2, 3, 4, 5, 6, 7, 8]) (l := [2, 4, 5, 7]) (by kernel_rfl) (by kernel_rfl) .nil q
  | x8 v_z1651 =>
    try dsimp only at h
    cases h
    exact pkk_sound TTok mix hF 1 (hs := []) (ts := []) (s := [0, 1, 2, 3, 4, 5, 6, 7, 8]) (l := [2, 4, 5, 7]) (by kernel_rfl) (by kernel_rfl) .nil q
  | x9 v_z1653 =>
    try dsimp only at h
    cases h
    exact pkk_sound TTok mix hF 1 (hs := []) (ts := []) (s := [0, 1, 2, 3, 4, 5, 6, 7, 8]) (l := [2, 4, 5, 7]) (by kernel_rfl) (by kernel_rfl) .nil q
  | x10 v_z1655 =>
    try dsimp only at h
    cases h
    exact pkk_sound TTok mix hF 1 (hs := []) (ts := []) (s := [0, 1, 2, 3, 4, 5, 6, 7, 8]) (l := [2, 4, 5, 7]) (by kernel_rfl) (by kernel_rfl) .nil q
  | x11 v_z1657 =>
    try dsimp only at h
    cases h
    exact pkk_sound TTok mix hF 1 (hs := []) (ts := []) (s := [0, 1, 2, 3, 4, 5, 6, 7, 8]) (l := [2, 4, 5, 7]) (by kernel_rfl) (by kernel_rfl) .nil q
/- ringhall/ringref5.StepOf -/
def G_ringref5_StepOf_h (n : Nat) (v_r869 : S_api_Regs) (v_m870 : S_ringref5_Room) : Option (S_api_Regs × S_api_Trap × S_ringref5_Room) :=
  (G_ringref5_Room_word_h n v_m870 v_r869.fPc 4).bind fun (v_r923 : (Int × S_api_Trap × S_ringref5_Room)) =>
  if v_r923.2.1.fKind = 0 then
   (G_ringref5_DecodeOf n v_r923.1).bind fun (v_r1167 : (S_api_Ins × Int)) =>
   (G_ringref5_StepOf_h_C1 n v_r1167 v_r923 v_r869).bind fun v_o1177 => match v_o1177 with
   | .x0 v_z1178 v_z1179 =>
     if v_z1178 = true then
      some (v_r869, (S_api_Trap.mk 3 0), (S_ringref5_Room.mk v_r923.2.2.fAt v_z1179 v_r923.2.2.fMay))
     else
      if 0 ≤ v_r1167.1.fA ∧ v_r1167.1.fA < (8 : Int) then
       (getA v_r869.fR v_r1167.1.fA).bind fun (v_y1180 : Int) =>
       if 0 ≤ v_r1167.1.fB ∧ v_r1167.1.fB < (8 : Int) then
        (getA v_r869.fR v_r1167.1.fB).bind fun (v_y1181 : Int) =>
        if v_r1167.1.fOp = 8 then
         if v_y1181 = 0 then
          some (v_r869, (S_api_Trap.mk 4 0), (S_ringref5_Room.mk v_r923.2.2.fAt v_z1179 v_r923.2.2.fMay))
         else
          (G_ringref5_StepOf_h_C2 n v_r869 v_y1180 v_y1181 v_r1167 v_r923 v_z1179).bind fun v_o1189 => match v_o1189 with
          | .x0 v_z1190 v_z1191 =>
            if v_z1190 = true then
             (G_ringref5_move_h n (S_api_Regs.mk v_r869.fR (wi .u32 (v_r869.fPc + 4)) v_r869.fRing) v_r1167.1 (S_ringref5_Room.mk v_r923.2.2.fAt v_z1191 v_r923.2.2.fMay) (wi .u32 (v_y1181 + (wi .u32 v_r1167.1.fC)))).bind fun (v_r1289 : (S_api_Regs × S_api_Trap × S_ringref5_Room)) =>
             if v_r1289.2.1.fKind = 0 then
              some (v_r1289.1, v_r1289.2.1, v_r1289.2.2)
             else
              some (v_r869, v_r1289.2.1, v_r1289.2.2)
            else
             (G_ringref5_StepOf_h_C5 n v_r869 v_y1180 v_y1181 v_r1167 v_r923 v_z1191).bind fun v_o1471 => match v_o1471 with
             | .x0 v_z1472 =>
               some ((S_api_Regs.mk v_r869.fR (wi .u32 (v_r869.fPc + 4)) v_r869.fRing), (S_api_Trap.mk 5 v_r923.2.1.fAddr), (S_ringref5_Room.mk v_r923.2.2.fAt v_z1472 v_r923.2.2.fMay))
             | .x1 v_z1473 =>
               some ((S_api_Regs.mk (setA v_r869.fR v_r1167.1.fA (wi .u32 v_r1167.1.fC)) (wi .u32 (v_r869.fPc + 4)) v_r869.fRing), v_r923.2.1, (S_ringref5_Room.mk v_r923.2.2.fAt v_z1473 v_r923.2.2.fMay))
             | .x2 v_z1474 =>
               some ((S_api_Regs.mk (setA v_r869.fR v_r1167.1.fA (wi .u32 ((shlI .u32 v_y1180 16) + (bits .and .u32 (wi .u32 v_r1167.1.fC) 65535)))) (wi .u32 (v_r869.fPc + 4)) v_r869.fRing), v_r923.2.1, (S_ringref5_Room.mk v_r923.2.2.fAt v_z1474 v_r923.2.2.fMay))
             | .x3 v_z1475 =>
               some ((S_api_Regs.mk (setA v_r869.fR v_r1167.1.fA v_y1181) (wi .u32 (v_r869.fPc + 4)) v_r869.fRing), v_r923.2.1, (S_ringref5_Room.mk v_r923.2.2.fAt v_z1475 v_r923.2.2.fMay))
             | .x4 v_z1476 v_z1477 =>
               some (v_z1477, v_r923.2.1, (S_ringref5_Room.mk v_r923.2.2.fAt v_z1476 v_r923.2.2.fMay))
             | .x5 v_z1478 =>
               some ((S_api_Regs.mk (setA v_r869.fR v_r1167.1.fA (wi .u32 (v_y1181 + (wi .u32 v_r1167.1.fC)))) (wi .u32 (v_r869.fPc + 4)) v_r869.fRing), v_r923.2.1, (S_ringref5_Room.mk v_r923.2.2.fAt v_z1478 v_r923.2.2.fMay))
             | .x6 v_z1479 =>
               some ((S_api_Regs.mk v_r869.fR (wi .u32 (v_r869.fPc + (wi .u32 v_r1167.1.fC))) v_r869.fRing), v_r923.2.1, (S_ringref5_Room.mk v_r923.2.2.fAt v_z1479 v_r923.2.2.fMay))
             | .x7 v_z1480 =>
               some ((S_api_Regs.mk (setA v_r869.fR v_r1167.1.fA (wi .u32 (v_r869.fPc + 4))) (wi .u32 (v_r869.fPc + (wi .u32 v_r1167.1.fC))) v_r869.fRing), v_r923.2.1, (S_ringref5_Room.mk v_r923.2.2.fAt v_z1480 v_r923.2.2.fMay))
             | .x8 v_z1481 =>
               some ((S_api_Regs.mk v_r869.fR v_y1180 v_r869.fRing), v_r923.2.1, (S_ringref5_Room.mk v_r923.2.2.fAt v_z1481 v_r923.2.2.fMay))
             | .x9 v_z1482 =>
               some ((S_api_Regs.mk v_r869.fR (wi .u32 (v_r869.fPc + 4)) v_r869.fRing), (S_api_Trap.mk 1 v_r923.2.1.fAddr), (S_ringref5_Room.mk v_r923.2.2.fAt v_z1482 v_r923.2.2.fMay))
             | .x10 v_z1483 =>
               some ((S_api_Regs.mk v_r869.fR v_y1180 1), v_r923.2.1, (S_ringref5_Room.mk v_r923.2.2.fAt v_z1483 v_r923.2.2.fMay))
             | .x11 v_z1484 =>
               some ((S_api_Regs.mk v_r869.fR (wi .u32 (v_r869.fPc + 4)) v_r869.fRing), v_r923.2.1, (S_ringref5_Room.mk v_r923.2.2.fAt v_z1484 v_r923.2.2.fMay))
        else
         (G_ringref5_StepOf_h_C6 n v_r869 v_y1180 v_y1181 v_r1167 v_r923 v_z1179).bind fun v_o1492 => match v_o1492 with
         | .x0 v_z1493 v_z1494 =>
           if v_z1493 = true then
            (G_ringref5_move_h n (S_api_Regs.mk v_r869.fR (wi .u32 (v_r869.fPc + 4)) v_r869.fRing) v_r1167.1 (S_ringref5_Room.mk v_r923.2.2.fAt v_z1494 v_r923.2.2.fMay) (wi .u32 (v_y1181 + (wi .u32 v_r1167.1.fC)))).bind fun (v_r1496 : (S_api_Regs × S_api_Trap × S_ringref5_Room)) =>
            if v_r1496.2.1.fKind = 0 then
             some (v_r1496.1, v_r1496.2.1, v_r1496.2.2)
            else
             some (v_r869, v_r1496.2.1, v_r1496.2.2)
           else
            (G_ringref5_StepOf_h_C9 n v_r869 v_y1180 v_y1181 v_r1167 v_r923 v_z1494).bind fun v_o1659 => match v_o1659 with
            | .x0 v_z1660 =>
              some ((S_api_Regs.mk v_r869.fR (wi .u32 (v_r869.fPc + 4)) v_r869.fRing), (S_api_Trap.mk 5 v_r923.2.1.fAddr), (S_ringref5_Room.mk v_r923.2.2.fAt v_z1660 v_r923.2.2.fMay))
            | .x1 v_z1661 =>
              some ((S_api_Regs.mk (setA v_r869.fR v_r1167.1.fA (wi .u32 v_r1167.1.fC)) (wi .u32 (v_r869.fPc + 4)) v_r869.fRing), v_r923.2.1, (S_ringref5_Room.mk v_r923.2.2.fAt v_z1661 v_r923.2.2.fMay))
            | .x2 v_z1662 =>
              some ((S_api_Regs.mk (setA v_r869.fR v_r1167.1.fA (wi .u32 ((shlI .u32 v_y1180 16) + (bits .and .u32 (wi .u32 v_r1167.1.fC) 65535)))) (wi .u32 (v_r869.fPc + 4)) v_r869.fRing), v_r923.2.1, (S_ringref5_Room.mk v_r923.2.2.fAt v_z1662 v_r923.2.2.fMay))
            | .x3 v_z1663 =>
              some ((S_api_Regs.mk (setA v_r869.fR v_r1167.1.fA v_y1181) (wi .u32 (v_r869.fPc + 4)) v_r869.fRing), v_r923.2.1, (S_ringref5_Room.mk v_r923.2.2.fAt v_z1663 v_r923.2.2.fMay))
            | .x4 v_z1664 v_z1665 =>
              some (v_z1665, v_r923.2.1, (S_ringref5_Room.mk v_r923.2.2.fAt v_z1664 v_r923.2.2.fMay))
            | .x5 v_z1666 =>
              some ((S_api_Regs.mk (setA v_r869.fR v_r1167.1.fA (wi .u32 (v_y1181 + (wi .u32 v_r1167.1.fC)))) (wi .u32 (v_r869.fPc + 4)) v_r869.fRing), v_r923.2.1, (S_ringref5_Room.mk v_r923.2.2.fAt v_z1666 v_r923.2.2.fMay))
            | .x6 v_z1667 =>
              some ((S_api_Regs.mk v_r869.fR (wi .u32 (v_r869.fPc + (wi .u32 v_r1167.1.fC))) v_r869.fRing), v_r923.2.1, (S_ringref5_Room.mk v_r923.2.2.fAt v_z1667 v_r923.2.2.fMay))
            | .x7 v_z1668 =>
              some ((S_api_Regs.mk (setA v_r869.fR v_r1167.1.fA (wi .u32 (v_r869.fPc + 4))) (wi .u32 (v_r869.fPc + (wi .u32 v_r1167.1.fC))) v_r869.fRing), v_r923.2.1, (S_ringref5_Room.mk v_r923.2.2.fAt v_z1668 v_r923.2.2.fMay))
            | .x8 v_z1669 =>
              some ((S_api_Regs.mk v_r869.fR v_y1180 v_r869.fRing), v_r923.2.1, (S_ringref5_Room.mk v_r923.2.2.fAt v_z1669 v_r923.2.2.fMay))
            | .x9 v_z1670 =>
              some ((S_api_Regs.mk v_r869.fR (wi .u32 (v_r869.fPc + 4)) v_r869.fRing), (S_api_Trap.mk 1 v_r923.2.1.fAddr), (S_ringref5_Room.mk v_r923.2.2.fAt v_z1670 v_r923.2.2.fMay))
            | .x10 v_z1671 =>
              some ((S_api_Regs.mk v_r869.fR v_y1180 1), v_r923.2.1, (S_ringref5_Room.mk v_r923.2.2.fAt v_z1671 v_r923.2.2.fMay))
            | .x11 v_z1672 =>
              some ((S_api_Regs.mk v_r869.fR (wi .u32 (v_r869.fPc + 4)) v_r869.fRing), v_r923.2.1, (S_ringref5_Room.mk v_r923.2.2.fAt v_z1672 v_r923.2.2.fMay))
       else none
      else none
  else
   some (v_r869, v_r923.2.1, v_r923.2.2)
theorem G_ringref5_StepOf_h_ok (n : Nat) (v_r869 : S_api_Regs) (v_m870 : S_ringref5_Room) (r : S_api_Regs × S_api_Trap × S_ringref5_Room) (h : G_ringref5_StepOf_h n v_r869 v_m870 = some r) : RetH Try.prog 8 [.d (eS_api_Regs v_r869), .ref 0 0] [.box [.d (.v (.int .u32 v_m870.fAt)), .srf 1, .d (.v (.int .i64 v_m870.fMay))], .row 5 1 (v_m870.fBytes.map (eI .u8))] (.tup [.d (eS_api_Regs r.1), .d (eS_api_Trap r.2.1)]) [.box [.d (.v (.int .u32 r.2.2.fAt)), .srf 2, .d (.v (.int .i64 r.2.2.fMay))], .none, .row 5 1 (r.2.2.fBytes.map (eI .u8))] := by
  refine retH_run (n := 227) (fn := Try.f8) (c := bodyOf Try.f8) (by kernel_rfl) (by kernel_rfl) (by kernel_rfl) (by kernel_rfl) ?_
  have hF : KC 227 (FinH Try.prog Try.f8 [.box [.d (.v (.int .u32 v_m870.fAt)), .srf 1, .d (.v (.int .i64 v_m870.fMay))], .row 5 1 (v_m870.fBytes.map (eI .u8))] (.tup [.d (eS_api_Regs r.1), .d (eS_api_Trap r.2.1)]) [.box [.d (.v (.int .u32 r.2.2.fAt)), .srf 2, .d (.v (.int .i64 r.2.2.fMay))], .none, .row 5 1 (r.2.2.fBytes.map (eI .u8))]) := FinH.kc' (by kernel_rfl)
  unfold G_ringref5_StepOf_h at h
  obtain ⟨v_r923, h1418, h⟩ := bind_some h
  by_cases h1420 : v_r923.2.1.fKind = 0
  · rw [if_pos h1420] at h
    obtain ⟨v_r1167, h1570, h⟩ := bind_some h
    obtain ⟨v_o1177, h1577, h⟩ := bind_some h
    refine pkk_sound TTok mix hF 13 (hs := [.c, .h [0, 1] [] [.box [.d (.v (.int .u32 v_r923.2.2.fAt)), .srf 2, .d (.v (.int .i64 v_r923.2.2.fMay))], .none, .row 5 1 (v_r923.2.2.fBytes.map (eI .u8))] (.tup [.d (.v (.int .u32 v_r923.1)), .d (.agg [.v (.int .i64 v_r923.2.1.fKind), .v (.int .u32 v_r923.2.1.fAddr)])]), .c, .c, .t false, .r (.tup [eS_api_Ins v_r1167.1, (eI .i64) v_r1167.2]), .c]) (ts := []) (s := [2, 3, 0, 34, 1, 4, 9, 14, 54, 109]) (l := [1, 2, 4, 5, 7, 8, 9]) (by kernel_rfl) (by kernel_rfl) (.cons (G_ringref5_Room_word_h_ok n v_m870 v_r869.fPc 4 _ h1418) (.cons (show 0 + 2 ≤ 2 by decide) (.cons (nf h1420) (.cons (G_ringref5_DecodeOf_ok n v_r923.1 _ h1570) (.cons (show 0 + 4 ≤ 4 by decide) .nil))))) (G_ringref5_StepOf_h_C1_ok hF (.s (cR (cL (cR (cR (cR (cR (bodyOf Try.f8))))))) :: .s (cR (cR (cR (cR (cR (bodyOf Try.f8)))))) :: []) n v_r1167 v_r923 v_r869 _ h1577 ?_)
    cases v_o1177 with
    | x0 v_z1178 v_z1179 =>
      try dsimp only at h
      by_cases h1579 : v_z1178 = true
      · rw [if_pos h1579] at h
        obtain rfl := Option.some.inj h
        exact pendH_sound TTok mix 5 (hs := [.t true, .c, .c, .c]) [2, 4, 3] (by kernel_rfl) (by kernel_rfl) (by kernel_rfl) (.cons h1579 (.cons (show 0 + 10 ≤ 10 by decide) (.cons (show 0 + 2 ≤ 2 by decide) .nil)))
      · rw [if_neg h1579] at h
        by_cases h1580 : 0 ≤ v_r1167.1.fA ∧ v_r1167.1.fA < (8 : Int)
        · rw [if_pos h1580] at h
          obtain ⟨v_y1180, h1581, h⟩ := bind_some h
          by_cases h1582 : 0 ≤ v_r1167.1.fB ∧ v_r1167.1.fB < (8 : Int)
          · rw [if_pos h1582] at h
            obtain ⟨v_y1181, h1583, h⟩ := bind_some h
            by_cases h1584 : v_r1167.1.fOp = 8
            · rw [if_pos h1584] at h
              by_cases h1586 : v_y1181 = 0
              · rw [if_pos h1586] at h
                obtain rfl := Option.some.inj h
                exact pendH_sound TTok mix 18 (hs := [.t false, .c, .c, .c, .c, .c, .c, .l (.d (.v (.int .u32 v_y1180))), .c, .l (.d (.v (.int .u32 v_y1181))), .c, .c, .t true, .c, .t true, .c, .c, .c]) [2, 4, 3] (by kernel_rfl) (by kernel_rfl) (by kernel_rfl) (.cons (vf h1579) (.cons (show 0 + 10 ≤ 10 by decide) (.cons (show 8 + 1 ≤ 10 by decide) (.cons h1580 (.cons (arr_cell (γ := FV) (sz := 1) (g := (fun x => [.d (.v (.int .u32 x))])) (pre := []) (post := [.d (.v (.int .u32 (wi .u32 (v_r869.fPc + 4)))), .d (.v (.int .i64 v_r869.fRing))]) (o := 0) (fun _ => rfl) h1581 rfl) (.cons h1582 (.cons (arr_cell (γ := FV) (sz := 1) (g := (fun x => [.d (.v (.int .u32 x))])) (pre := []) (post := [.d (.v (.int .u32 (wi .u32 (v_r869.fPc + 4)))), .d (.v (.int .i64 v_r869.fRing))]) (o := 0) (fun _ => rfl) h1583 rfl) (.cons (bt h1584) (.cons (bt h1586) (.cons (show 0 + 10 ≤ 10 by decide) (.cons (show 0 + 2 ≤ 2 by decide) .nil)))))))))))
              · rw [if_neg h1586] at h
                obtain ⟨v_o1189, h1591, h⟩ := bind_some h
                refine pkk_sound TTok mix hF 17 (hs := [.t false, .c, .c, .c, .c, .c, .c, .l (.d (.v (.int .u32 v_y1180))), .c, .l (.d (.v (.int .u32 v_y1181))), .c, .c, .t true, .c, .t false]) (ts := []) (s := [0, 1, 2, 3, 4, 5, 6, 7, 8, 9, 15]) (l := [1, 2, 4, 5, 7, 8, 10, 11, 12, 13, 14]) (by kernel_rfl) (by kernel_rfl) (.cons (vf h1579) (.cons (show 0 + 10 ≤ 10 by decide) (.cons (show 8 + 1 ≤ 10 by decide) (.cons h1580 (.cons (arr_cell (γ := FV) (sz := 1) (g := (fun x => [.d (.v (.int .u32 x))])) (pre := []) (post := [.d (.v (.int .u32 (wi .u32 (v_r869.fPc + 4)))), .d (.v (.int .i64 v_r869.fRing))]) (o := 0) (fun _ => rfl) h1581 rfl) (.cons h1582 (.cons (arr_cell (γ := FV) (sz := 1) (g := (fun x => [.d (.v (.int .u32 x))])) (pre := []) (post := [.d (.v (.int .u32 (wi .u32 (v_r869.fPc + 4)))), .d (.v (.int .i64 v_r869.fRing))]) (o := 0) (fun _ => rfl) h1583 rfl) (.cons (bt h1584) (.cons (bf h1586) .nil))))))))) (G_ringref5_StepOf_h_C2_ok hF (.s (cR (cL (cR (cR (cR (cR (cR (cR (cR (cR (cR (cR (bodyOf Try.f8))))))))))))) :: .s (cR (cR (cR (cR (cR (cR (cR (cR (cR (cR (cR (bodyOf Try.f8)))))))))))) :: []) n v_r869 v_y1180 v_y1181 v_r1167 v_r923 v_z1179 _ h1591 ?_)
                cases v_o1189 with
                | x0 v_z1190 v_z1191 =>
                  try dsimp only at h
                  by_cases h1708 : v_z1190 = true
                  · rw [if_pos h1708] at h
                    obtain ⟨v_r1289, h1709, h⟩ := bind_some h
                    by_cases h1711 : v_r1289.2.1.fKind = 0
                    · rw [if_pos h1711] at h
                      obtain rfl := Option.some.inj h
                      exact pendH_sound TTok mix 12 (hs := [.t true, .c, .c, .h [2, 3] [] [.box [.d (.v (.int .u32 v_r1289.2.2.fAt)), .srf 2, .d (.v (.int .i64 v_r1289.2.2.fMay))], .none, .row 5 1 (v_r1289.2.2.fBytes.map (eI .u8))] (.tup [.d (.agg (cS_api_Regs v_r1289.1)), .d (.agg [.v (.int .i64 v_r1289.2.1.fKind), .v (.int .u32 v_r1289.2.1.fAddr)])]), .c, .c, .c, .t false, .c, .c, .c, .c]) [2, 4, 41] (by kernel_rfl) (by kernel_rfl) (by kernel_rfl) (.cons h1708 (.cons (G_ringref5_move_h_ok n (S_api_Regs.mk v_r869.fR (wi .u32 (v_r869.fPc + 4)) v_r869.fRing) v_r1167.1 (S_ringref5_Room.mk v_r923.2.2.fAt v_z1191 v_r923.2.2.fMay) (wi .u32 (v_y1181 + (wi .u32 v_r1167.1.fC))) _ h1709) (.cons (show 0 + 10 ≤ 10 by decide) (.cons (show 0 + 2 ≤ 2 by decide) (.cons (nf h1711) (.cons (show 0 + 10 ≤ 10 by decide) (.cons (show 0 + 2 ≤ 2 by decide) .nil)))))))
                    · rw [if_neg h1711] at h
                      obtain rfl := Option.some.inj h
                      exact pendH_sound TTok mix 12 (hs := [.t true, .c, .c, .h [2, 3] [] [.box [.d (.v (.int .u32 v_r1289.2.2.fAt)), .srf 2, .d (.v (.int .i64 v_r1289.2.2.fMay))], .none, .row 5 1 (v_r1289.2.2.fBytes.map (eI .u8))] (.tup [.d (.agg (cS_api_Regs v_r1289.1)), .d (.agg [.v (.int .i64 v_r1289.2.1.fKind), .v (.int .u32 v_r1289.2.1.fAddr)])]), .c, .c, .c, .t true, .c, .c, .c, .c]) [2, 4, 41] (by kernel_rfl) (by kernel_rfl) (by kernel_rfl) (.cons h1708 (.cons (G_ringref5_move_h_ok n (S_api_Regs.mk v_r869.fR (wi .u32 (v_r869.fPc + 4)) v_r869.fRing) v_r1167.1 (S_ringref5_Room.mk v_r923.2.2.fAt v_z1191 v_r923.2.2.fMay) (wi .u32 (v_y1181 + (wi .u32 v_r1167.1.fC))) _ h1709) (.cons (show 0 + 10 ≤ 10 by decide) (.cons (show 0 + 2 ≤ 2 by decide) (.cons (nt h1711) (.cons (show 0 + 10 ≤ 10 by decide) (.cons (show 0 + 2 ≤ 2 by decide) .nil)))))))
                  · rw [if_neg h1708] at h
                    obtain ⟨v_o1471, h1875, h⟩ := bind_some h
                    refine pkk_sound TTok mix hF 3 (hs := [.t false]) (ts := []) (s := [0, 1, 2, 3, 4, 5, 6, 7, 8, 9]) (l := [2, 4, 5, 7, 8, 11, 12, 13, 14]) (by kernel_rfl) (by kernel_rfl) (.cons (vf h1708) .nil) (G_ringref5_StepOf_h_C5_ok hF (.s (cR (cR (cR (cR (cR (cR (cR (cR (cR (cR (cR (cR (bodyOf Try.f8))))))))))))) :: []) n v_r869 v_y1180 v_y1181 v_r1167 v_r923 v_z1191 _ h1875 ?_)
                    cases v_o1471 with
                    | x0 v_z1472 =>
                      try dsimp only at h
                      obtain rfl := Option.some.inj h
                      exact pendH_sound TTok mix 3 (hs := [.c, .c, .c, .c]) [2, 4, 3] (by kernel_rfl) (by kernel_rfl) (by kernel_rfl) (.cons (show 0 + 10 ≤ 10 by decide) (.cons (show 0 + 2 ≤ 2 by decide) .nil))
                    | x1 v_z1473 =>
                      try dsimp only at h
                      obtain rfl := Option.some.inj h
                      exact pendH_sound TTok mix 3 (hs := [.c, .c, .c, .c]) [2, 4, 3] (by kernel_rfl) (by kernel_rfl) (by kernel_rfl) (.cons (show 0 + 10 ≤ 10 by decide) (.cons (show 0 + 2 ≤ 2 by decide) .nil))
                    | x2 v_z1474 =>
                      try dsimp only at h
                      obtain rfl := Option.some.inj h
                      exact pendH_sound TTok mix 3 (hs := [.c, .c, .c, .c]) [2, 4, 3] (by kernel_rfl) (by kernel_rfl) (by kernel_rfl) (.cons (show 0 + 10 ≤ 10 by decide) (.cons (show 0 + 2 ≤ 2 by decide) .nil))
                    | x3 v_z1475 =>
                      try dsimp only at h
                      obtain rfl := Option.some.inj h
                      exact pendH_sound TTok mix 3 (hs := [.c, .c, .c, .c]) [2, 4, 3] (by kernel_rfl) (by kernel_rfl) (by kernel_rfl) (.cons (show 0 + 10 ≤ 10 by decide) (.cons (show 0 + 2 ≤ 2 by decide) .nil))
                    | x4 v_z1476 v_z1477 =>
                      try dsimp only at h
                      obtain rfl := Option.some.inj h
                      exact pendH_sound TTok mix 3 (hs := [.c, .c, .c, .c]) [2, 4, 3] (by kernel_rfl) (by kernel_rfl) (by kernel_rfl) (.cons (show 0 + 10 ≤ 10 by decide) (.cons (show 0 + 2 ≤ 2 by decide) .nil))
                    | x5 v_z1478 =>
                      try dsimp only at h
                      obtain rfl := Option.some.inj h
                      exact pendH_sound TTok mix 3 (hs := [.c, .c, .c, .c]) [2, 4, 3] (by kernel_rfl) (by kernel_rfl) (by kernel_rfl) (.cons (show 0 + 10 ≤ 10 by decide) (.cons (show 0 + 2 ≤ 2 by decide) .nil))
                    | x6 v_z1479 =>
                      try dsimp only at h
                      obtain rfl := Option.some.inj h
                      exact pendH_sound TTok mix 3 (hs := [.c, .c, .c, .c]) [2, 4, 3] (by kernel_rfl) (by kernel_rfl) (by kernel_rfl) (.cons (show 0 + 10 ≤ 10 by decide) (.cons (show 0 + 2 ≤ 2 by decide) .nil))
                    | x7 v_z1480 =>
                      try dsimp only at h
                      obtain rfl := Option.some.inj h
                      exact pendH_sound TTok mix 3 (hs := [.c, .c, .c, .c]) [2, 4, 3] (by kernel_rfl) (by kernel_rfl) (by kernel_rfl) (.cons (show 0 + 10 ≤ 10 by decide) (.cons (show 0 + 2 ≤ 2 by decide) .nil))
                    | x8 v_z1481 =>
                      try dsimp only at h
                      obtain rfl := Option.some.inj h
                      exact pendH_sound TTok mix 3 (hs := [.c, .c, .c, .c]) [2, 4, 3] (by kernel_rfl) (by kernel_rfl) (by kernel_rfl) (.cons (show 0 + 10 ≤ 10 by decide) (.cons (show 0 + 2 ≤ 2 by decide) .nil))
                    | x9 v_z1482 =>
                      try dsimp only at h
                      obtain rfl := Option.some.inj h
                      exact pendH_sound TTok mix 3 (hs := [.c, .c, .c, .c]) [2, 4, 3] (by kernel_rfl) (by kernel_rfl) (by kernel_rfl) (.cons (show 0 + 10 ≤ 10 by decide) (.cons (show 0 + 2 ≤ 2 by decide) .nil))
                    | x10 v_z1483 =>
                      try dsimp only at h
                      obtain rfl := Option.some.inj h
                      exact pendH_sound TTok mix 3 (hs := [.c, .c, .c, .c]) [2, 4, 3] (by kernel_rfl) (by kernel_rfl) (by kernel_rfl) (.cons (show 0 + 10 ≤ 10 by decide) (.cons (show 0 + 2 ≤ 2 by decide) .nil))
                    | x11 v_z1484 =>
                      try dsimp only at h
                      obtain rfl := Option.some.inj h
                      exact pendH_sound TTok mix 3 (hs := [.c, .c, .c, .c]) [2, 4, 3] (by kernel_rfl) (by kernel_rfl) (by kernel_rfl) (.cons (show 0 + 10 ≤ 10 by decide) (.cons (show 0 + 2 ≤ 2 by decide) .nil))
            · rw [if_neg h1584] at h
              obtain ⟨v_o1492, h1880, h⟩ := bind_some h
              refine pkk_sound TTok mix hF 17 (hs := [.t false, .c, .c, .c, .c, .c, .c, .l (.d (.v (.int .u32 v_y1180))), .c, .l (.d (.v (.int .u32 v_y1181))), .c, .c, .t false, .c, .c]) (ts := []) (s := [0, 1, 2, 3, 4, 5, 6, 7, 8, 9, 15]) (l := [1, 2, 4, 5, 7, 8, 10, 11, 12, 13, 14]) (by kernel_rfl) (by kernel_rfl) (.cons (vf h1579) (.cons (show 0 + 10 ≤ 10 by decide) (.cons (show 8 + 1 ≤ 10 by decide) (.cons h1580 (.cons (arr_cell (γ := FV) (sz := 1) (g := (fun x => [.d (.v (.int .u32 x))])) (pre := []) (post := [.d (.v (.int .u32 (wi .u32 (v_r869.fPc + 4)))), .d (.v (.int .i64 v_r869.fRing))]) (o := 0) (fun _ => rfl) h1581 rfl) (.cons h1582 (.cons (arr_cell (γ := FV) (sz := 1) (g := (fun x => [.d (.v (.int .u32 x))])) (pre := []) (post := [.d (.v (.int .u32 (wi .u32 (v_r869.fPc + 4)))), .d (.v (.int .i64 v_r869.fRing))]) (o := 0) (fun _ => rfl) h1583 rfl) (.cons (bf h1584) .nil)))))))) (G_ringref5_StepOf_h_C6_ok hF (.s (cR (cL (cR (cR (cR (cR (cR (cR (cR (cR (cR (cR (bodyOf Try.f8))))))))))))) :: .s (cR (cR (cR (cR (cR (cR (cR (cR (cR (cR (cR (bodyOf Try.f8)))))))))))) :: []) n v_r869 v_y1180 v_y1181 v_r1167 v_r923 v_z1179 _ h1880 ?_)
              cases v_o1492 with
              | x0 v_z1493 v_z1494 =>
                try dsimp only at h
                by_cases h1885 : v_z1493 = true
                · rw [if_pos h1885] at h
                  obtain ⟨v_r1496, h1886, h⟩ := bind_some h
                  by_cases h1888 : v_r1496.2.1.fKind = 0
                  · rw [if_pos h1888] at h
                    obtain rfl := Option.some.inj h
                    exact pendH_sound TTok mix 12 (hs := [.t true, .c, .c, .h [2, 3] [] [.box [.d (.v (.int .u32 v_r1496.2.2.fAt)), .srf 2, .d (.v (.int .i64 v_r1496.2.2.fMay))], .none, .row 5 1 (v_r1496.2.2.fBytes.map (eI .u8))] (.tup [.d (.agg (cS_api_Regs v_r1496.1)), .d (.agg [.v (.int .i64 v_r1496.2.1.fKind), .v (.int .u32 v_r1496.2.1.fAddr)])]), .c, .c, .c, .t false, .c, .c, .c, .c]) [2, 4, 41] (by kernel_rfl) (by kernel_rfl) (by kernel_rfl) (.cons h1885 (.cons (G_ringref5_move_h_ok n (S_api_Regs.mk v_r869.fR (wi .u32 (v_r869.fPc + 4)) v_r869.fRing) v_r1167.1 (S_ringref5_Room.mk v_r923.2.2.fAt v_z1494 v_r923.2.2.fMay) (wi .u32 (v_y1181 + (wi .u32 v_r1167.1.fC))) _ h1886) (.cons (show 0 + 10 ≤ 10 by decide) (.cons (show 0 + 2 ≤ 2 by decide) (.cons (nf h1888) (.cons (show 0 + 10 ≤ 10 by decide) (.cons (show 0 + 2 ≤ 2 by decide) .nil)))))))
                  · rw [if_neg h1888] at h
                    obtain rfl := Option.some.inj h
                    exact pendH_sound TTok mix 12 (hs := [.t true, .c, .c, .h [2, 3] [] [.box [.d (.v (.int .u32 v_r1496.2.2.fAt)), .srf 2, .d (.v (.int .i64 v_r1496.2.2.fMay))], .none, .row 5 1 (v_r1496.2.2.fBytes.map (eI .u8))] (.tup [.d (.agg (cS_api_Regs v_r1496.1)), .d (.agg [.v (.int .i64 v_r1496.2.1.fKind), .v (.int .u32 v_r1496.2.1.fAddr)])]), .c, .c, .c, .t true, .c, .c, .c, .c]) [2, 4, 41] (by kernel_rfl) (by kernel_rfl) (by kernel_rfl) (.cons h1885 (.cons (G_ringref5_move_h_ok n (S_api_Regs.mk v_r869.fR (wi .u32 (v_r869.fPc + 4)) v_r869.fRing) v_r1167.1 (S_ringref5_Room.mk v_r923.2.2.fAt v_z1494 v_r923.2.2.fMay) (wi .u32 (v_y1181 + (wi .u32 v_r1167.1.fC))) _ h1886) (.cons (show 0 + 10 ≤ 10 by decide) (.cons (show 0 + 2 ≤ 2 by decide) (.cons (nt h1888) (.cons (show 0 + 10 ≤ 10 by decide) (.cons (show 0 + 2 ≤ 2 by decide) .nil)))))))
                · rw [if_neg h1885] at h
                  obtain ⟨v_o1659, h2035, h⟩ := bind_some h
                  refine pkk_sound TTok mix hF 3 (hs := [.t false]) (ts := []) (s := [0, 1, 2, 3, 4, 5, 6, 7, 8, 9]) (l := [2, 4, 5, 7, 8, 11, 12, 13, 14]) (by kernel_rfl) (by kernel_rfl) (.cons (vf h1885) .nil) (G_ringref5_StepOf_h_C9_ok hF (.s (cR (cR (cR (cR (cR (cR (cR (cR (cR (cR (cR (cR (bodyOf Try.f8))))))))))))) :: []) n v_r869 v_y1180 v_y1181 v_r1167 v_r923 v_z1494 _ h2035 ?_)
                  cases v_o1659 with
                  | x0 v_z1660 =>
                    try dsimp only at h
                    obtain rfl := Option.some.inj h
                    exact pendH_sound TTok mix 3 (hs := [.c, .c, .c, .c]) [2, 4, 3] (by kernel_rfl) (by kernel_rfl) (by kernel_rfl) (.cons (show 0 + 10 ≤ 10 by decide) (.cons (show 0 + 2 ≤ 2 by decide) .nil))
                  | x1 v_z1661 =>
                    try dsimp only at h
                    obtain rfl := Option.some.inj h
                    exact pendH_sound TTok mix 3 (hs := [.c, .c, .c, .c]) [2, 4, 3] (by kernel_rfl) (by kernel_rfl) (by kernel_rfl) (.cons (show 0 + 10 ≤ 10 by decide) (.cons (show 0 + 2 ≤ 2 by decide) .nil))
                  | x2 v_z1662 =>
                    try dsimp only at h
                    obtain rfl := Option.some.inj h
                    exact pendH_sound TTok mix 3 (hs := [.c, .c, .c, .c]) [2, 4, 3] (by kernel_rfl) (by kernel_rfl) (by kernel_rfl) (.cons (show 0 + 10 ≤ 10 by decide) (.cons (show 0 + 2 ≤ 2 by decide) .nil))
                  | x3 v_z1663 =>
                    try dsimp only at h
                    obtain rfl := Option.some.inj h
                    exact pendH_sound TTok mix 3 (hs := [.c, .c, .c, .c]) [2, 4, 3] (by kernel_rfl) (by kernel_rfl) (by kernel_rfl) (.cons (show 0 + 10 ≤ 10 by decide) (.cons (show 0 + 2 ≤ 2 by decide) .nil))
                  | x4 v_z1664 v_z1665 =>
                    try dsimp only at h
                    obtain rfl := Option.some.inj h
                    exact pendH_sound TTok mix 3 (hs := [.c, .c, .c, .c]) [2, 4, 3] (by kernel_rfl) (by kernel_rfl) (by kernel_rfl) (.cons (show 0 + 10 ≤ 10 by decide) (.cons (show 0 + 2 ≤ 2 by decide) .nil))
                  | x5 v_z1666 =>
                    try dsimp only at h
                    obtain rfl := Option.some.inj h
                    exact pendH_sound TTok mix 3 (hs := [.c, .c, .c, .c]) [2, 4, 3] (by kernel_rfl) (by kernel_rfl) (by kernel_rfl) (.cons (show 0 + 10 ≤ 10 by decide) (.cons (show 0 + 2 ≤ 2 by decide) .nil))
                  | x6 v_z1667 =>
                    try dsimp only at h
                    obtain rfl := Option.some.inj h
                    exact pendH_sound TTok mix 3 (hs := [.c, .c, .c, .c]) [2, 4, 3] (by kernel_rfl) (by kernel_rfl) (by kernel_rfl) (.cons (show 0 + 10 ≤ 10 by decide) (.cons (show 0 + 2 ≤ 2 by decide) .nil))
                  | x7 v_z1668 =>
                    try dsimp only at h
                    obtain rfl := Option.some.inj h
                    exact pendH_sound TTok mix 3 (hs := [.c, .c, .c, .c]) [2, 4, 3] (by kernel_rfl) (by kernel_rfl) (by kernel_rfl) (.cons (show 0 + 10 ≤ 10 by decide) (.cons (show 0 + 2 ≤ 2 by decide) .nil))
                  | x8 v_z1669 =>
                    try dsimp only at h
                    obtain rfl := Option.some.inj h
                    exact pendH_sound TTok mix 3 (hs := [.c, .c, .c, .c]) [2, 4, 3] (by kernel_rfl) (by kernel_rfl) (by kernel_rfl) (.cons (show 0 + 10 ≤ 10 by decide) (.cons (show 0 + 2 ≤ 2 by decide) .nil))
                  | x9 v_z1670 =>
                    try dsimp only at h
                    obtain rfl := Option.some.inj h
                    exact pendH_sound TTok mix 3 (hs := [.c, .c, .c, .c]) [2, 4, 3] (by kernel_rfl) (by kernel_rfl) (by kernel_rfl) (.cons (show 0 + 10 ≤ 10 by decide) (.cons (show 0 + 2 ≤ 2 by decide) .nil))
                  | x10 v_z1671 =>
                    try dsimp only at h
                    obtain rfl := Option.some.inj h
                    exact pendH_sound TTok mix 3 (hs := [.c, .c, .c, .c]) [2, 4, 3] (by kernel_rfl) (by kernel_rfl) (by kernel_rfl) (.cons (show 0 + 10 ≤ 10 by decide) (.cons (show 0 + 2 ≤ 2 by decide) .nil))
                  | x11 v_z1672 =>
                    try dsimp only at h
                    obtain rfl := Option.some.inj h
                    exact pendH_sound TTok mix 3 (hs := [.c, .c, .c, .c]) [2, 4, 3] (by kernel_rfl) (by kernel_rfl) (by kernel_rfl) (.cons (show 0 + 10 ≤ 10 by decide) (.cons (show 0 + 2 ≤ 2 by decide) .nil))
          · rw [if_neg h1582] at h; cases h
        · rw [if_neg h1580] at h; cases h
  · rw [if_neg h1420] at h
    obtain rfl := Option.some.inj h
    exact pendH_sound TTok mix 12 (hs := [.c, .h [0, 1] [] [.box [.d (.v (.int .u32 v_r923.2.2.fAt)), .srf 2, .d (.v (.int .i64 v_r923.2.2.fMay))], .none, .row 5 1 (v_r923.2.2.fBytes.map (eI .u8))] (.tup [.d (.v (.int .u32 v_r923.1)), .d (.agg [.v (.int .i64 v_r923.2.1.fKind), .v (.int .u32 v_r923.2.1.fAddr)])]), .c, .c, .t true, .c, .c, .c, .c]) [0, 1, 34] (by kernel_rfl) (by kernel_rfl) (by kernel_rfl) (.cons (G_ringref5_Room_word_h_ok n v_m870 v_r869.fPc 4 _ h1418) (.cons (show 0 + 2 ≤ 2 by decide) (.cons (nt h1420) (.cons (show 0 + 10 ≤ 10 by decide) (.cons (show 0 + 2 ≤ 2 by decide) .nil)))))
inductive G_slices_Equal_byte_byte_L1_R where
  | x0 (v_x1685 : Bool)
  | x1 
def G_slices_Equal_byte_byte_L1_ex : G_slices_Equal_byte_byte_L1_R → Ex
  | .x0 _ => .ret
  | .x1  => .exit 0
def G_slices_Equal_byte_byte_L1_st (v_s1674 : (List Int)) (v_s1675 : (List Int)) : G_slices_Equal_byte_byte_L1_R → PS
  | .x0 v_x1685 => ⟨[dd, dd, dd, dd, .d (.v (.bool v_x1685)), dd, dd, dd, dd, dd, dd, dd, dd, dd, dd, dd, dd, dd, dd, dd, dd, dd, dd, dd, dd, dd], []⟩
  | .x1  => ⟨[dd, dd, dd, dd, dd, dd, dd, dd, dd, dd, dd, dd, dd, dd, dd, dd, dd, dd, dd, dd, dd, dd, dd, dd, dd, dd], []⟩
def G_slices_Equal_byte_byte_L1_hd (v_s1674 : (List Int)) (v_s1675 : (List Int)) (v_x1679 : Int) : PS := ⟨[.d (.sl (v_s1674.map (eI .u8))), .d (.sl (v_s1675.map (eI .u8))), dd, dd, dd, dd, dd, dd, dd, dd, dd, dd, .d (.v (.int .i64 (v_s1674.length : Int))), .d (.v (.int .i64 v_x1679)), dd, dd, dd, dd, dd, dd, dd, dd, dd, dd, dd, dd], []⟩
def G_slices_Equal_byte_byte_L1 (n : Nat) (v_s1674 : (List Int)) (v_s1675 : (List Int)) : Nat → Int → Option G_slices_Equal_byte_byte_L1_R
  | 0, _ => none
  | k + 1, v_x1679 =>
    if v_x1679 < (v_s1674.length : Int) then
     (getI v_s1674 v_x1679).bind fun (v_y1683 : Int) =>
     (getI v_s1675 v_x1679).bind fun (v_y1684 : Int) =>
     if v_y1683 = v_y1684 then
      G_slices_Equal_byte_byte_L1 n v_s1674 v_s1675 k (wi .i64 (v_x1679 + 1))
     else
      some (.x0 false)
    else
     some (.x1 )
theorem G_slices_Equal_byte_byte_L1_ok {Fi : Ex → PS → Prop} (hF : KC 26 Fi) (ks : List Fr) (n : Nat) (v_s1674 : (List Int)) (v_s1675 : (List Int))  : ∀ (k : Nat) (v_x1679 : Int) (o : G_slices_Equal_byte_byte_L1_R), G_slices_Equal_byte_byte_L1 n v_s1674 v_s1675 k v_x1679 = some o → RunE Try.prog 26 Fi ks (G_slices_Equal_byte_byte_L1_ex o) (G_slices_Equal_byte_byte_L1_st v_s1674 v_s1675 o) → RunE Try.prog 26 Fi (.l k (cP (cB (cR (cL (cR (cR (bodyOf Try.f9))))))) :: ks) .normal (G_slices_Equal_byte_byte_L1_hd v_s1674 v_s1675 v_x1679)
  | 0, v_x1679, o, h, q => by rw [G_slices_Equal_byte_byte_L1] at h; cases h
  | k + 1, v_x1679, o, h, q => by
    rw [G_slices_Equal_byte_byte_L1] at h
    by_cases h2040 : v_x1679 < (v_s1674.length : Int)
    · rw [if_pos h2040] at h
      obtain ⟨v_y1683, h2044, h⟩ := bind_some h
      obtain ⟨v_y1684, h2045, h⟩ := bind_some h
      by_cases h2046 : v_y1683 = v_y1684
      · rw [if_pos h2046] at h
        exact pkk_sound TTok mix hF 16 (hs := [.t true, .y ((eI .u8) v_y1683), .c, .y ((eI .u8) v_y1684), .c, .t false]) (ts := []) (s := []) (l := [0, 1, 12, 13]) (by kernel_rfl) (by kernel_rfl) (.cons (dt h2040) (.cons (getI_ob (f := (eI .u8)) h2044) (.cons (getI_ob (f := (eI .u8)) h2045) (.cons (nf h2046) .nil)))) (G_slices_Equal_byte_byte_L1_ok hF ks n v_s1674 v_s1675 k (wi .i64 (v_x1679 + 1)) _ h q)
      · rw [if_neg h2046] at h
        cases h
        exact pkk_sound TTok mix hF 19 (hs := [.t true, .y ((eI .u8) v_y1683), .c, .y ((eI .u8) v_y1684), .c, .t true]) (ts := []) (s := []) (l := [4]) (by kernel_rfl) (by kernel_rfl) (.cons (dt h2040) (.cons (getI_ob (f := (eI .u8)) h2044) (.cons (getI_ob (f := (eI .u8)) h2045) (.cons (nt h2046) .nil)))) q
    · rw [if_neg h2040] at h
      cases h
      exact pkk_sound TTok mix hF 8 (hs := [.t false]) (ts := []) (s := []) (l := []) (by kernel_rfl) (by kernel_rfl) (.cons (df h2040) .nil) q
/- slices.Equal[[]byte,byte] -/
def G_slices_Equal_byte_byte (n : Nat) (v_s1674 : (List Int)) (v_s1675 : (List Int)) : Option (Bool) :=
  if (v_s1674.length : Int) = (v_s1675.length : Int) then
   (G_slices_Equal_byte_byte_L1 n v_s1674 v_s1675 n 0).bind fun v_o1686 => match v_o1686 with
   | .x0 v_z1687 =>
     some v_z1687
   | .x1  =>
     some true
  else
   some false
theorem G_slices_Equal_byte_byte_ok (n : Nat) (v_s1674 : (List Int)) (v_s1675 : (List Int)) (r : Bool) (h : G_slices_Equal_byte_byte n v_s1674 v_s1675 = some r) : Ret Try.prog 9 [(eL (eI .u8)) v_s1674, (eL (eI .u8)) v_s1675] (eB r) := by
  refine ret_run (n := 26) (fn := Try.f9) (c := bodyOf Try.f9) (by kernel_rfl) (by kernel_rfl) (by kernel_rfl) (by kernel_rfl) ?_
  have hF : KC 26 (FinR Try.prog Try.f9 (eB r)) := FinR.kc' (by kernel_rfl)
  unfold G_slices_Equal_byte_byte at h
  by_cases h2039 : (v_s1674.length : Int) = (v_s1675.length : Int)
  · rw [if_pos h2039] at h
    obtain ⟨v_o1686, h2047, h⟩ := bind_some h
    refine pkk_sound TTok mix hF 12 (hs := [.u (.d (.v (.int .i64 (v_s1674.length : Int)))), .u (.d (.v (.int .i64 (v_s1675.length : Int)))), .t false, .u (.d (.v (.int .i64 (v_s1674.length : Int)))), .n n]) (ts := []) (s := []) (l := [0, 1, 12, 13]) (by kernel_rfl) (by kernel_rfl) (.cons (len_ob (f := (eI .u8)) (l := v_s1674)) (.cons (len_ob (f := (eI .u8)) (l := v_s1675)) (.cons (nf h2039) (.cons (len_ob (f := (eI .u8)) (l := v_s1674)) .nil)))) (G_slices_Equal_byte_byte_L1_ok hF (.b 0 :: .s (cR (cR (cR (bodyOf Try.f9)))) :: []) n v_s1674 v_s1675 n 0 _ h2047 ?_)
    cases v_o1686 with
    | x0 v_z1687 =>
      try dsimp only at h
      obtain rfl := Option.some.inj h
      exact pend_sound TTok mix 2 (hs := []) (by kernel_rfl) (by kernel_rfl) (by kernel_rfl) .nil
    | x1  =>
      try dsimp only at h
      obtain rfl := Option.some.inj h
      exact pend_sound TTok mix 4 (hs := []) (by kernel_rfl) (by kernel_rfl) (by kernel_rfl) .nil
  · rw [if_neg h2039] at h
    obtain rfl := Option.some.inj h
    exact pend_sound TTok mix 10 (hs := [.u (.d (.v (.int .i64 (v_s1674.length : Int)))), .u (.d (.v (.int .i64 (v_s1675.length : Int)))), .t true]) (by kernel_rfl) (by kernel_rfl) (by kernel_rfl) (.cons (len_ob (f := (eI .u8)) (l := v_s1674)) (.cons (len_ob (f := (eI .u8)) (l := v_s1675)) (.cons (nt h2039) .nil)))
inductive G_ringlaw5_CpuSteps_C2_R where
  | x0 (v_x1755 : Bool) (v_w1756 : (List Int)) (v_w1757 : (List Int))
def G_ringlaw5_CpuSteps_C2_ex : G_ringlaw5_CpuSteps_C2_R → Ex
  | .x0 _ _ _ => .normal
def G_ringlaw5_CpuSteps_C2_st (v_r843 : (Int)) (v_x1723 : Int) (v_r1751 : (S_api_Regs × S_api_Trap × S_ringref5_Room)) (v_r1752 : (S_api_Regs × S_api_Trap × S_ringref5_Room)) : G_ringlaw5_CpuSteps_C2_R → PS
  | .x0 v_x1755 v_w1756 v_w1757 => ⟨[dd, dd, dd, dd, dd, dd, dd, .ref 0 0, .ref 2 0, .ref 4 0, .ref 5 0, .ref 6 0, dd, dd, dd, dd, dd, dd, dd, dd, dd, dd, dd, dd, dd, dd, dd, dd, .d (.v (.int .i64 v_r843)), .d (.v (.int .i64 v_x1723)), dd, dd, dd, dd, dd, dd, dd, dd, dd, dd, dd, dd, dd, dd, dd, dd, dd, dd, dd, dd, dd, dd, dd, dd, dd, dd, dd, .d (.v (.bool v_x1755)), dd, dd, dd, dd, dd, dd, dd, dd, dd, dd, dd, dd], [.box [.d (.v (.int .u32 v_r1751.2.2.fAt)), .srf 1, .d (.v (.int .i64 v_r1751.2.2.fMay))], .row 5 1 (v_w1756.map (eI .u8)), .box [.d (.v (.int .u32 v_r1752.2.2.fAt)), .srf 3, .d (.v (.int .i64 v_r1752.2.2.fMay))], .row 5 1 (v_w1757.map (eI .u8)), .box ((cS_api_Regs v_r1751.1).map FV.d), .box ((cS_api_Regs v_r1752.1).map FV.d), .box [.d (.v (.int .i64 v_r1751.2.1.fKind)), .d (.v (.int .u32 v_r1751.2.1.fAddr))]]⟩
def G_ringlaw5_CpuSteps_C2_hd (v_r843 : (Int)) (v_x1723 : Int) (v_r1751 : (S_api_Regs × S_api_Trap × S_ringref5_Room)) (v_r1752 : (S_api_Regs × S_api_Trap × S_ringref5_Room))  : PS := ⟨[dd, dd, dd, dd, dd, dd, dd, .ref 0 0, .ref 2 0, .ref 4 0, .ref 5 0, .ref 6 0, .ref 7 0, dd, dd, dd, dd, dd, dd, dd, dd, dd, dd, dd, dd, dd, dd, dd, .d (.v (.int .i64 v_r843)), .d (.v (.int .i64 v_x1723)), dd, dd, dd, dd, dd, dd, dd, dd, dd, dd, dd, dd, dd, dd, dd, dd, dd, dd, dd, dd, dd, dd, dd, dd, dd, dd, dd, dd, dd, dd, dd, dd, dd, dd, dd, dd, dd, dd, dd, dd], [.box [.d (.v (.int .u32 v_r1751.2.2.fAt)), .srf 1, .d (.v (.int .i64 v_r1751.2.2.fMay))], .row 5 1 (v_r1751.2.2.fBytes.map (eI .u8)), .box [.d (.v (.int .u32 v_r1752.2.2.fAt)), .srf 3, .d (.v (.int .i64 v_r1752.2.2.fMay))], .row 5 1 (v_r1752.2.2.fBytes.map (eI .u8)), .box ((cS_api_Regs v_r1751.1).map FV.d), .box ((cS_api_Regs v_r1752.1).map FV.d), .box [.d (.v (.int .i64 v_r1751.2.1.fKind)), .d (.v (.int .u32 v_r1751.2.1.fAddr))], .box [.d (.v (.int .i64 v_r1752.2.1.fKind)), .d (.v (.int .u32 v_r1752.2.1.fAddr))]]⟩
def G_ringlaw5_CpuSteps_C2 (n : Nat) (v_r843 : (Int)) (v_x1723 : Int) (v_r1751 : (S_api_Regs × S_api_Trap × S_ringref5_Room)) (v_r1752 : (S_api_Regs × S_api_Trap × S_ringref5_Room)) : Option G_ringlaw5_CpuSteps_C2_R :=
  if (eqRes .neq (eqS_api_Regs v_r1751.1 v_r1752.1)) = true then
   some (.x0 true v_r1751.2.2.fBytes v_r1752.2.2.fBytes)
  else
   if (eqRes .neq (eqS_api_Trap v_r1751.2.1 v_r1752.2.1)) = true then
    some (.x0 true v_r1751.2.2.fBytes v_r1752.2.2.fBytes)
   else
    (G_slices_Equal_byte_byte n v_r1751.2.2.fBytes v_r1752.2.2.fBytes).bind fun (v_r1761 : (Bool)) =>
    some (.x0 (!v_r1761) v_r1751.2.2.fBytes v_r1752.2.2.fBytes)
theorem G_ringlaw5_CpuSteps_C2_ok {Fi : Ex → PS → Prop} (hF : KC 70 Fi) (ks : List Fr) (n : Nat) (v_r843 : (Int)) (v_x1723 : Int) (v_r1751 : (S_api_Regs × S_api_Trap × S_ringref5_Room)) (v_r1752 : (S_api_Regs × S_api_Trap × S_ringref5_Room))  (o : G_ringlaw5_CpuSteps_C2_R) (h : G_ringlaw5_CpuSteps_C2 n v_r843 v_x1723 v_r1751 v_r1752 = some o) (q : RunE Try.prog 70 Fi ks (G_ringlaw5_CpuSteps_C2_ex o) (G_ringlaw5_CpuSteps_C2_st v_r843 v_x1723 v_r1751 v_r1752 o)) : RunE Try.prog 70 Fi (.s (cL (cL (cR (cR (cR (cB (cL (cR (cR (cP (cB (cR (cL (cR (cR (cR (cR (cR (bodyOf Try.f3))))))))))))))))))) :: ks) .normal (G_ringlaw5_CpuSteps_C2_hd v_r843 v_x1723 v_r1751 v_r1752) := by
  unfold G_ringlaw5_CpuSteps_C2 at h
  by_cases h2086 : (eqRes .neq (eqS_api_Regs v_r1751.1 v_r1752.1)) = true
  · rw [if_pos h2086] at h
    cases h
    exact pkk_sound TTok mix hF 1 (hs := [.c, .c, .q (eqS_api_Regs v_r1751.1 v_r1752.1), .t true, .c, .c, .c, .c, .c, .c, .c, .c]) (ts := []) (s := [0, 1, 2, 3, 4, 5, 6]) (l := [7, 8, 9, 10, 11, 28, 29, 57]) (by kernel_rfl) (by kernel_rfl) (.cons (eqS_api_Regs_ok v_r1751.1 v_r1752.1) (.cons h2086 .nil)) q
  · rw [if_neg h2086] at h
    by_cases h2087 : (eqRes .neq (eqS_api_Trap v_r1751.2.1 v_r1752.2.1)) = true
    · rw [if_pos h2087] at h
      cases h
      exact pkk_sound TTok mix hF 1 (hs := [.c, .c, .q (eqS_api_Regs v_r1751.1 v_r1752.1), .t false, .c, .c, .c, .c, .q (eqS_api_Trap v_r1751.2.1 v_r1752.2.1), .t true, .c, .c, .c, .c, .c]) (ts := []) (s := [0, 1, 2, 3, 4, 5, 6]) (l := [7, 8, 9, 10, 11, 28, 29, 57]) (by kernel_rfl) (by kernel_rfl) (.cons (eqS_api_Regs_ok v_r1751.1 v_r1752.1) (.cons (vf h2086) (.cons (eqS_api_Trap_ok v_r1751.2.1 v_r1752.2.1) (.cons h2087 .nil)))) q
    · rw [if_neg h2087] at h
      obtain ⟨v_r1761, h2088, h⟩ := bind_some h
      cases h
      exact pkk_sound TTok mix hF 1 (hs := [.c, .c, .q (eqS_api_Regs v_r1751.1 v_r1752.1), .t false, .c, .c, .c, .c, .q (eqS_api_Trap v_r1751.2.1 v_r1752.2.1), .t false, .c, .c, .c, .c, .c, .c, .c, .r (eB v_r1761), .c]) (ts := []) (s := [0, 1, 2, 3, 4, 5, 6]) (l := [7, 8, 9, 10, 11, 28, 29, 57]) (by kernel_rfl) (by kernel_rfl) (.cons (eqS_api_Regs_ok v_r1751.1 v_r1752.1) (.cons (vf h2086) (.cons (eqS_api_Trap_ok v_r1751.2.1 v_r1752.2.1) (.cons (vf h2087) (.cons (G_slices_Equal_byte_byte_ok n v_r1751.2.2.fBytes v_r1752.2.2.fBytes _ h2088) .nil))))) q
inductive G_ringlaw5_CpuSteps_L3_R where
  | x0 (v_x1769 : Bool)
  | x1 
def G_ringlaw5_CpuSteps_L3_ex : G_ringlaw5_CpuSteps_L3_R → Ex
  | .x0 _ => .ret
  | .x1  => .exit 0
def G_ringlaw5_CpuSteps_L3_st (v_r843 : (Int)) : G_ringlaw5_CpuSteps_L3_R → PS
  | .x0 v_x1769 => ⟨[dd, dd, dd, dd, dd, dd, .d (.v (.bool v_x1769)), dd, dd, dd, dd, dd, dd, dd, dd, dd, dd, dd, dd, dd, dd, dd, dd, dd, dd, dd, dd, dd, dd, dd, dd, dd, dd, dd, dd, dd, dd, dd, dd, dd, dd, dd, dd, dd, dd, dd, dd, dd, dd, dd, dd, dd, dd, dd, dd, dd, dd, dd, dd, dd, dd, dd, dd, dd, dd, dd, dd, dd, dd, dd], []⟩
  | .x1  => ⟨[dd, dd, dd, dd, dd, dd, dd, dd, dd, dd, dd, dd, dd, dd, dd, dd, dd, dd, dd, dd, dd, dd, dd, dd, dd, dd, dd, dd, dd, dd, dd, dd, dd, dd, dd, dd, dd, dd, dd, dd, dd, dd, dd, dd, dd, dd, dd, dd, dd, dd, dd, dd, dd, dd, dd, dd, dd, dd, dd, dd, dd, dd, dd, dd, dd, dd, dd, dd, dd, dd], []⟩
def G_ringlaw5_CpuSteps_L3_hd (v_r843 : (Int)) (v_x1723 : Int) (v_b1724 : Int) (v_b1725 : Int) (v_w1726 : (List Int)) (v_b1727 : Int) (v_b1728 : Int) (v_w1729 : (List Int)) (v_b1730 : S_api_Regs) (v_b1731 : S_api_Regs) : PS := ⟨[dd, dd, dd, dd, dd, dd, dd, .ref 0 0, .ref 2 0, .ref 4 0, .ref 5 0, dd, dd, dd, dd, dd, dd, dd, dd, dd, dd, dd, dd, dd, dd, dd, dd, dd, .d (.v (.int .i64 v_r843)), .d (.v (.int .i64 v_x1723)), dd, dd, dd, dd, dd, dd, dd, dd, dd, dd, dd, dd, dd, dd, dd, dd, dd, dd, dd, dd, dd, dd, dd, dd, dd, dd, dd, dd, dd, dd, dd, dd, dd, dd, dd, dd, dd, dd, dd, dd], [.box [.d (.v (.int .u32 v_b1724)), .srf 1, .d (.v (.int .i64 v_b1725))], .row 5 1 (v_w1726.map (eI .u8)), .box [.d (.v (.int .u32 v_b1727)), .srf 3, .d (.v (.int .i64 v_b1728))], .row 5 1 (v_w1729.map (eI .u8)), .box ((cS_api_Regs v_b1730).map FV.d), .box ((cS_api_Regs v_b1731).map FV.d)]⟩
def G_ringlaw5_CpuSteps_L3 (n : Nat) (v_r843 : (Int)) : Nat → Int → Int → Int → (List Int) → Int → Int → (List Int) → S_api_Regs → S_api_Regs → Option G_ringlaw5_CpuSteps_L3_R
  | 0, _, _, _, _, _, _, _, _, _ => none
  | k + 1, v_x1723, v_b1724, v_b1725, v_w1726, v_b1727, v_b1728, v_w1729, v_b1730, v_b1731 =>
    if v_x1723 < v_r843 then
     (G_cpu_Step_h n v_b1730 (S_ringref5_Room.mk v_b1724 v_w1726 v_b1725)).bind fun (v_r1751 : (S_api_Regs × S_api_Trap × S_ringref5_Room)) =>
     (G_ringref5_StepOf_h n v_b1731 (S_ringref5_Room.mk v_b1727 v_w1729 v_b1728)).bind fun (v_r1752 : (S_api_Regs × S_api_Trap × S_ringref5_Room)) =>
     (G_ringlaw5_CpuSteps_C2 n v_r843 v_x1723 v_r1751 v_r1752).bind fun v_o1765 => match v_o1765 with
     | .x0 v_z1766 v_z1767 v_z1768 =>
       if v_z1766 = true then
        some (.x0 false)
       else
        if v_r1751.2.1.fKind > 1 then
         G_ringlaw5_CpuSteps_L3 n v_r843 k (wi .i64 (v_x1723 + 1)) v_r1751.2.2.fAt v_r1751.2.2.fMay v_z1767 v_r1752.2.2.fAt v_r1752.2.2.fMay v_z1768 (S_api_Regs.mk v_r1751.1.fR (wi .u32 (v_r1751.1.fPc + 4)) v_r1751.1.fRing) (S_api_Regs.mk v_r1752.1.fR (wi .u32 (v_r1752.1.fPc + 4)) v_r1752.1.fRing)
        else
         G_ringlaw5_CpuSteps_L3 n v_r843 k (wi .i64 (v_x1723 + 1)) v_r1751.2.2.fAt v_r1751.2.2.fMay v_z1767 v_r1752.2.2.fAt v_r1752.2.2.fMay v_z1768 v_r1751.1 v_r1752.1
    else
     some (.x1 )
theorem G_ringlaw5_CpuSteps_L3_ok {Fi : Ex → PS → Prop} (hF : KC 70 Fi) (ks : List Fr) (n : Nat) (v_r843 : (Int))  : ∀ (k : Nat) (v_x1723 : Int) (v_b1724 : Int) (v_b1725 : Int) (v_w1726 : (List Int)) (v_b1727 : Int) (v_b1728 : Int) (v_w1729 : (List Int)) (v_b1730 : S_api_Regs) (v_b1731 : S_api_Regs) (o : G_ringlaw5_CpuSteps_L3_R), G_ringlaw5_CpuSteps_L3 n v_r843 k v_x1723 v_b1724 v_b1725 v_w1726 v_b1727 v_b1728 v_w1729 v_b1730 v_b1731 = some o → RunE Try.prog 70 Fi ks (G_ringlaw5_CpuSteps_L3_ex o) (G_ringlaw5_CpuSteps_L3_st v_r843 o) → RunE Try.prog 70 Fi (.l k (cP (cB (cR (cL (cR (cR (cR (cR (cR (bodyOf Try.f3)))))))))) :: ks) .normal (G_ringlaw5_CpuSteps_L3_hd v_r843 v_x1723 v_b1724 v_b1725 v_w1726 v_b1727 v_b1728 v_w1729 v_b1730 v_b1731)
  | 0, v_x1723, v_b1724, v_b1725, v_w1726, v_b1727, v_b1728, v_w1729, v_b1730, v_b1731, o, h, q => by rw [G_ringlaw5_CpuSteps_L3] at h; cases h
  | k + 1, v_x1723, v_b1724, v_b1725, v_w1726, v_b1727, v_b1728, v_w1729, v_b1730, v_b1731, o, h, q => by
    rw [G_ringlaw5_CpuSteps_L3] at h
    by_cases h2068 : v_x1723 < v_r843
    · rw [if_pos h2068] at h
      obtain ⟨v_r1751, h2081, h⟩ := bind_some h
      obtain ⟨v_r1752, h2082, h⟩ := bind_some h
      obtain ⟨v_o1765, h2089, h⟩ := bind_some h
      refine pkk_sound TTok mix hF 16 (hs := [.t true, .c, .e 26 [26] (.srf 26) [(26, .cu (ifC 36) [.ref 0 0])], .h [26, 0, 1] [] [.cu (ifC 36) [.ref 1 0], .box [.d (.v (.int .u32 v_r1751.2.2.fAt)), .srf 3, .d (.v (.int .i64 v_r1751.2.2.fMay))], .none, .row 5 1 (v_r1751.2.2.fBytes.map (eI .u8))] (.tup [.d (.agg (cS_api_Regs v_r1751.1)), .d (.agg [.v (.int .i64 v_r1751.2.1.fKind), .v (.int .u32 v_r1751.2.1.fAddr)])]), .c, .c, .c, .h [2, 3] [] [.box [.d (.v (.int .u32 v_r1752.2.2.fAt)), .srf 2, .d (.v (.int .i64 v_r1752.2.2.fMay))], .none, .row 5 1 (v_r1752.2.2.fBytes.map (eI .u8))] (.tup [.d (.agg (cS_api_Regs v_r1752.1)), .d (.agg [.v (.int .i64 v_r1752.2.1.fKind), .v (.int .u32 v_r1752.2.1.fAddr)])]), .c, .c]) (ts := []) (s := [0, 31, 2, 66, 4, 5, 11, 16]) (l := [7, 8, 9, 10, 11, 12, 28, 29]) (by kernel_rfl) (by kernel_rfl) (.cons (dt h2068) (.cons (ymkI (P := Try.prog) (T := TT) (t := 36) (l := 0) (off := 0) (nl := 26) (e := 28) (x := (.tmp 7)) (by kernel_rfl)) (.cons (G_cpu_Step_h_ok n v_b1730 (S_ringref5_Room.mk v_b1724 v_w1726 v_b1725) _ h2081) (.cons (show 0 + 10 ≤ 10 by decide) (.cons (show 0 + 2 ≤ 2 by decide) (.cons (G_ringref5_StepOf_h_ok n v_b1731 (S_ringref5_Room.mk v_b1727 v_w1729 v_b1728) _ h2082) (.cons (show 0 + 10 ≤ 10 by decide) (.cons (show 0 + 2 ≤ 2 by decide) .nil)))))))) (G_ringlaw5_CpuSteps_C2_ok hF (.s (cR (cL (cR (cR (cR (cB (cL (cR (cR (cP (cB (cR (cL (cR (cR (cR (cR (cR (bodyOf Try.f3))))))))))))))))))) :: .s (cR (cR (cR (cR (cB (cL (cR (cR (cP (cB (cR (cL (cR (cR (cR (cR (cR (bodyOf Try.f3)))))))))))))))))) :: .b 1 :: .s (cR (cR (cR (cP (cB (cR (cL (cR (cR (cR (cR (cR (bodyOf Try.f3))))))))))))) :: .l k (cP (cB (cR (cL (cR (cR (cR (cR (cR (bodyOf Try.f3)))))))))) :: ks) n v_r843 v_x1723 v_r1751 v_r1752 _ h2089 ?_)
      cases v_o1765 with
      | x0 v_z1766 v_z1767 v_z1768 =>
        try dsimp only at h
        by_cases h2090 : v_z1766 = true
        · rw [if_pos h2090] at h
          cases h
          exact pkk_sound TTok mix hF 8 (hs := [.t true]) (ts := []) (s := []) (l := [6]) (by kernel_rfl) (by kernel_rfl) (.cons h2090 .nil) q
        · rw [if_neg h2090] at h
          by_cases h2092 : v_r1751.2.1.fKind > 1
          · rw [if_pos h2092] at h
            exact pkk_sound TTok mix hF 8 (hs := [.t false, .c, .t true, .c, .c, .c, .c]) (ts := []) (s := [0, 1, 2, 3, 4, 5]) (l := [7, 8, 9, 10, 28, 29]) (by kernel_rfl) (by kernel_rfl) (.cons (vf h2090) (.cons (dt h2092) (.cons (show 8 + 1 ≤ 10 by decide) (.cons (show 8 + 1 ≤ 10 by decide) .nil)))) (G_ringlaw5_CpuSteps_L3_ok hF ks n v_r843 k (wi .i64 (v_x1723 + 1)) v_r1751.2.2.fAt v_r1751.2.2.fMay v_z1767 v_r1752.2.2.fAt v_r1752.2.2.fMay v_z1768 (S_api_Regs.mk v_r1751.1.fR (wi .u32 (v_r1751.1.fPc + 4)) v_r1751.1.fRing) (S_api_Regs.mk v_r1752.1.fR (wi .u32 (v_r1752.1.fPc + 4)) v_r1752.1.fRing) _ h q)
          · rw [if_neg h2092] at h
            exact pkk_sound TTok mix hF 8 (hs := [.t false, .c, .t false]) (ts := []) (s := [0, 1, 2, 3, 4, 5]) (l := [7, 8, 9, 10, 28, 29]) (by kernel_rfl) (by kernel_rfl) (.cons (vf h2090) (.cons (df h2092) .nil)) (G_ringlaw5_CpuSteps_L3_ok hF ks n v_r843 k (wi .i64 (v_x1723 + 1)) v_r1751.2.2.fAt v_r1751.2.2.fMay v_z1767 v_r1752.2.2.fAt v_r1752.2.2.fMay v_z1768 v_r1751.1 v_r1752.1 _ h q)
    · rw [if_neg h2068] at h
      cases h
      exact pkk_sound TTok mix hF 8 (hs := [.t false]) (ts := []) (s := []) (l := []) (by kernel_rfl) (by kernel_rfl) (.cons (df h2068) .nil) q
/- ringhall/ringlaw5.CpuSteps -/
def G_ringlaw5_CpuSteps (n : Nat) (v_r1 : S_api_Regs) (v_room2 : S_ringref5_Room) (v_n3 : Int) : Option (Bool) :=
  (G_ringlaw5_cpus n ).bind fun (v_r775 : (Bool)) =>
  if v_r775 = true then
   (G_slices_Clone_byte_byte n v_room2.fBytes).bind fun (v_r801 : ((List Int))) =>
   (G_slices_Clone_byte_byte n v_room2.fBytes).bind fun (v_r802 : ((List Int))) =>
   (G_ringref5_Rest n v_n3 41).bind fun (v_r843 : (Int)) =>
   (G_ringlaw5_CpuSteps_L3 n v_r843 n 0 v_room2.fAt v_room2.fMay v_r801 v_room2.fAt v_room2.fMay v_r802 v_r1 v_r1).bind fun v_o1770 => match v_o1770 with
   | .x0 v_z1771 =>
     some v_z1771
   | .x1  =>
     some true
  else
   some false
theorem G_ringlaw5_CpuSteps_ok (n : Nat) (v_r1 : S_api_Regs) (v_room2 : S_ringref5_Room) (v_n3 : Int) (r : Bool) (h : G_ringlaw5_CpuSteps n v_r1 v_room2 v_n3 = some r) : Ret Try.prog 3 [eS_api_Regs v_r1, eS_ringref5_Room v_room2, (eI .i64) v_n3] (eB r) := by
  refine ret_run (n := 70) (fn := Try.f3) (c := bodyOf Try.f3) (by kernel_rfl) (by kernel_rfl) (by kernel_rfl) (by kernel_rfl) ?_
  have hF : KC 70 (FinR Try.prog Try.f3 (eB r)) := FinR.kc' (by kernel_rfl)
  unfold G_ringlaw5_CpuSteps at h
  obtain ⟨v_r775, h1375, h⟩ := bind_some h
  by_cases h1376 : v_r775 = true
  · rw [if_pos h1376] at h
    obtain ⟨v_r801, h1379, h⟩ := bind_some h
    obtain ⟨v_r802, h1380, h⟩ := bind_some h
    obtain ⟨v_r843, h1384, h⟩ := bind_some h
    obtain ⟨v_o1770, h2093, h⟩ := bind_some h
    refine pkk_sound TTok mix hF 18 (hs := [.r (eB v_r775), .t false, .c, .c, .c, .c, .c, .h [] [] [.row 5 1 (v_r801.map (eI .u8))] (.srf 0), .c, .h [] [] [.row 5 1 (v_r802.map (eI .u8))] (.srf 0), .c, .c, .c, .c, .c, .c, .r ((eI .i64) v_r843), .n n]) (ts := []) (s := [35, 65, 40, 80, 115, 120]) (l := [7, 8, 9, 10, 28, 29]) (by kernel_rfl) (by kernel_rfl) (.cons (G_ringlaw5_cpus_ok n  _ h1375) (.cons (bnf h1376) (.cons (show 0 + 3 ≤ 3 by decide) (.cons (show 0 + 3 ≤ 3 by decide) (.cons (G_slices_Clone_byte_byte_ok n v_room2.fBytes _ h1379) (.cons (G_slices_Clone_byte_byte_ok n v_room2.fBytes _ h1380) (.cons (show 1 + 1 ≤ 3 by decide) (.cons (show 1 + 1 ≤ 3 by decide) (.cons (show 0 + 10 ≤ 10 by decide) (.cons (show 0 + 10 ≤ 10 by decide) (.cons (G_ringref5_Rest_ok n v_n3 41 _ h1384) .nil))))))))))) (G_ringlaw5_CpuSteps_L3_ok hF (.b 0 :: .s (cR (cR (cR (cR (cR (cR (bodyOf Try.f3))))))) :: []) n v_r843 n 0 v_room2.fAt v_room2.fMay v_r801 v_room2.fAt v_room2.fMay v_r802 v_r1 v_r1 _ h2093 ?_)
    cases v_o1770 with
    | x0 v_z1771 =>
      try dsimp only at h
      obtain rfl := Option.some.inj h
      exact pend_sound TTok mix 2 (hs := []) (by kernel_rfl) (by kernel_rfl) (by kernel_rfl) .nil
    | x1  =>
      try dsimp only at h
      obtain rfl := Option.some.inj h
      exact pend_sound TTok mix 4 (hs := []) (by kernel_rfl) (by kernel_rfl) (by kernel_rfl) .nil
  · rw [if_neg h1376] at h
    obtain rfl := Option.some.inj h
    exact pend_sound TTok mix 10 (hs := [.r (eB v_r775), .t true]) (by kernel_rfl) (by kernel_rfl) (by kernel_rfl) (.cons (G_ringlaw5_cpus_ok n  _ h1375) (.cons (bnt (vf h1376)) .nil))
def okA {n : Nat} {α : Type} (ok : α → Prop) (A : Fin n → α) : Prop := ∀ i, ok (A i)
theorem br_congr {α : Type} {s : rep.Sh} {g g' : α → List PV} {ok : α → Prop} (h : Br s g ok) (h' : ∀ a, g' a = g a) : Br s g' ok := by
  intro w x cs hr
  obtain ⟨a, o, q⟩ := h w x cs hr
  exact ⟨a, o, by rw [h' a]; exact q⟩
theorem RL_flat {α : Type} {w : World} {s : Nat} {g : α → List PV} : ∀ (l : List α) (cs : List Value), cs.length = l.length * s → (∀ i (hi : i < l.length), RL (fun _ => false) w (g l[i]) ((cs.drop (i * s)).take s)) → RL (fun _ => false) w (l.flatMap g) cs
  | [], cs, h, _ => by
    have : cs = [] := by simpa using h
    subst this
    simp [RL]
  | a :: l, cs, h, hp => by
    have h0 := hp 0 (by simp)
    simp only [Nat.zero_mul, List.drop_zero, List.getElem_cons_zero] at h0
    have h1 := RL_flat (w := w) (s := s) (g := g) l (cs.drop s) (by rw [List.length_drop, h, List.length_cons, Nat.succ_mul]; omega) (fun i hi => by
      have := hp (i + 1) (by simpa using hi)
      rw [List.getElem_cons_succ, Nat.succ_mul] at this
      rw [List.drop_drop]
      rwa [Nat.add_comm s (i * s)])
    rw [List.flatMap_cons, ← List.take_append_drop s cs]
    exact h0.append h1
theorem br_arr {n : Nat} {α : Type} {e : rep.Sh} {g : α → List PV} {ok : α → Prop} (h : Br e g ok) : Br (.arr n e) (fun A : Fin n → α => (List.ofFn A).flatMap g) (okA ok) := by
  intro w xs cs hr
  obtain ⟨h1, h2, h3⟩ := hr
  have hx : ∀ i, i < n → ∃ a : α, ok a ∧ RL (fun _ => false) w (g a) ((cs.drop (i * e.size)).take e.size) := fun i hi => h w _ _ (h3 i (by rw [h1]; exact hi))
  obtain ⟨l, hl, hp⟩ := rep.exists_list n _ hx
  subst hl
  refine ⟨fun i => l[i.val], fun i => (hp i.val i.isLt).1, ?_⟩
  have e1 : List.ofFn (fun i : Fin l.length => l[i.val]) = l := List.ofFn_getElem
  show RL (fun _ => false) w ((List.ofFn (fun i : Fin l.length => l[i.val])).flatMap g) cs
  rw [e1]
  exact RL_flat l cs h2 (fun i hi => (hp i hi).2)
def okS_api_Regs (x : S_api_Regs) : Prop := (okA (n := 8) (fun a => (Lit.int .u32 a).wf = true)) x.fR ∧ (fun a => (Lit.int .u32 a).wf = true) x.fPc ∧ (fun a => (Lit.int .i64 a).wf = true) x.fRing ∧ True
theorem brS_api_Regs : Br (.pair (.arr 8 (.int .u32)) (.pair (.int .u32) (.pair (.int .i64) .unit))) (fun x : S_api_Regs => [.v (.int .u32 (x.fR 0)), .v (.int .u32 (x.fR 1)), .v (.int .u32 (x.fR 2)), .v (.int .u32 (x.fR 3)), .v (.int .u32 (x.fR 4)), .v (.int .u32 (x.fR 5)), .v (.int .u32 (x.fR 6)), .v (.int .u32 (x.fR 7)), .v (.int .u32 x.fPc), .v (.int .i64 x.fRing)]) okS_api_Regs := br_map (br_pair (br_congr (g' := fun x : (Fin 8 → Int) => [.v (.int .u32 (x 0)), .v (.int .u32 (x 1)), .v (.int .u32 (x 2)), .v (.int .u32 (x 3)), .v (.int .u32 (x 4)), .v (.int .u32 (x 5)), .v (.int .u32 (x 6)), .v (.int .u32 (x 7))]) (br_arr (n := 8) (g := fun a : Int => [.v (.int .u32 a)]) (ok := (fun a => (Lit.int .u32 a).wf = true)) (br_int .u32)) (fun x => rfl)) (br_pair (br_int .u32) (br_pair (br_int .i64) br_unit))) (fun p => S_api_Regs.mk p.1 p.2.1 p.2.2.1) (fun p h => ⟨rfl, h⟩)
def okS_ringref5_Room (x : S_ringref5_Room) : Prop := (fun a => (Lit.int .u32 a).wf = true) x.fAt ∧ (okL 1 (fun a => (Lit.int .u8 a).wf = true)) x.fBytes ∧ (fun a => (Lit.int .i64 a).wf = true) x.fMay ∧ True
theorem brS_ringref5_Room : Br (.pair (.int .u32) (.pair (.slice 1 (.int .u8)) (.pair (.int .i64) .unit))) (fun x : S_ringref5_Room => [.v (.int .u32 x.fAt), .sl (x.fBytes.map (eI .u8)), .v (.int .i64 x.fMay)]) okS_ringref5_Room := br_map (br_pair (br_int .u32) (br_pair (br_slice (f := (eI .u8)) (ok := (fun a => (Lit.int .u8 a).wf = true)) (br_int .u8) (fun _ => rfl) (by decide)) (br_pair (br_int .i64) br_unit))) (fun p => S_ringref5_Room.mk p.1 p.2.1 p.2.2.1) (fun p h => ⟨rfl, h⟩)
theorem CpuSteps_walk (H : ∀ (a0 : S_api_Regs) (a1 : S_ringref5_Room) (a2 : Int), okS_api_Regs a0 → okS_ringref5_Room a1 → (fun a => (Lit.int .i64 a).wf = true) a2 → ∃ n, G_ringlaw5_CpuSteps n a0 a1 a2 = some true) (w : World) (v0 : Value) (v1 : Value) (v2 : Value) (h0 : rep.Arg w (.pair (.arr 8 (.int .u32)) (.pair (.int .u32) (.pair (.int .i64) .unit))) v0) (h1 : rep.Arg w (.pair (.int .u32) (.pair (.slice 1 (.int .u8)) (.pair (.int .i64) .unit))) v1) (h2 : rep.Arg w (.int .i64) v2) : Calls Try.prog 3 #[v0, v1, v2] w (help.Ret (.bool true) w) := by
  obtain ⟨a0, o0, r0⟩ := arg_agg brS_api_Regs (by rfl) h0
  obtain ⟨a1, o1, r1⟩ := arg_agg brS_ringref5_Room (by rfl) h1
  obtain ⟨a2, o2, r2⟩ := arg_one (br_int .i64) (by rfl) h2
  obtain ⟨n, hn⟩ := H a0 a1 a2 o0 o1 o2
  exact walk_of (G_ringlaw5_CpuSteps_ok n a0 a1 a2 true hn) (RT_cons r0 (RT_cons r1 (RT_cons r2 RT_nil)))
/- FRAME CpuSteps; ringhall/ringlaw5.CpuSteps; (.pair (.arr 8 (.int .u32)) (.pair (.int .u32) (.pair (.int .i64) .unit))) | (.pair (.int .u32) (.pair (.slice 1 (.int .u8)) (.pair (.int .i64) .unit))) | (.int .i64); .agg #[.int .u32 0, .int .u32 0, .int .u32 0, .int .u32 0, .int .u32 0, .int .u32 0, .int .u32 0, .int .u32 0, .int .u32 0, .int .i64 0] | .agg #[.int .u32 0, .slice none 0 0, .int .i64 0] | .int .i64 0 -/
end Go.Proofs.Ytdkfkpoenbenmaa.pv
