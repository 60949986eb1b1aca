/- What the functions compute (part 2): written by gen.py. -/
import Derived.Test.YtlnlhppaiagafaaGuOpenPlaysP1
set_option maxRecDepth 100000
set_option linter.all false
namespace Go.Proofs.Ytlnlhppaiagafaa.pv
open Go.RowKit
/- (*ringhall/open.Table).Fork -/
def G_open_Table_Fork_h (n : Nat) (v_t1216 : S_open_Table) (v_p1217 : Int) (v_child1218 : Int) : Option (Int × S_open_Table) :=
  (G_open_owner n v_p1217).bind fun (v_r1219 : (Bool)) =>
  if v_r1219 = true then
   (G_open_owner n v_child1218).bind fun (v_r1220 : (Bool)) =>
   if v_r1220 = true then
    if 0 ≤ v_child1218 ∧ v_child1218 < (17 : Int) then
     (getA v_t1216.ffds v_child1218).bind fun (v_y1221 : (Fin 8 → Int)) =>
     (G_open_Table_Fork_h_L1 n v_p1217 v_child1218 v_y1221 v_t1216 n 0).bind fun v_o1227 => match v_o1227 with
     | .x0 v_z1228 =>
       some (v_z1228, v_t1216)
     | .x1  =>
       if v_p1217 = v_child1218 then
        some (0, v_t1216)
       else
        if 0 ≤ v_p1217 ∧ v_p1217 < (17 : Int) then
         (getA v_t1216.ffds v_p1217).bind fun (v_y1229 : (Fin 8 → Int)) =>
         if 0 ≤ v_child1218 ∧ v_child1218 < (17 : Int) then
          (getA v_t1216.ffds v_child1218).bind fun (v_y1230 : (Fin 8 → Int)) =>
          if 0 ≤ v_p1217 ∧ v_p1217 < (17 : Int) then
           (getA (setA v_t1216.ffds v_child1218 v_y1229) v_p1217).bind fun (v_y1231 : (Fin 8 → Int)) =>
           (G_open_Table_Fork_h_L2 n v_y1231 n 0 (S_open_Table.mk v_t1216.ffiles (setA v_t1216.ffds v_child1218 v_y1229))).bind fun v_o1258 => match v_o1258 with
           | .x0 v_z1259 =>
             some (0, v_z1259)
          else none
         else none
        else none
    else none
   else
    some (1, v_t1216)
  else
   some (1, v_t1216)
theorem G_open_Table_Fork_h_ok (n : Nat) (v_t1216 : S_open_Table) (v_p1217 : Int) (v_child1218 : Int) (r : Int × S_open_Table) (h : G_open_Table_Fork_h n v_t1216 v_p1217 v_child1218 = some r) : RetH Try.prog 27 [.ref 0 0, .d ((eI .i64) v_p1217), .d ((eI .i64) v_child1218)] [.box ((cS_open_Table v_t1216).map FV.d)] (.d ((eI .i64) r.1)) [.box ((cS_open_Table r.2).map FV.d)] := by
  refine retH_run (n := 70) (fn := Try.f27) (c := bodyOf Try.f27) (by kernel_rfl) (by kernel_rfl) (by kernel_rfl) (by kernel_rfl) ?_
  have hF : KC 70 (FinH Try.prog Try.f27 [.box ((cS_open_Table v_t1216).map FV.d)] (.d ((eI .i64) r.1)) [.box ((cS_open_Table r.2).map FV.d)]) := FinH.kc' (by kernel_rfl)
  unfold G_open_Table_Fork_h at h
  obtain ⟨v_r1219, h945, h⟩ := bind_some h
  by_cases h946 : v_r1219 = true
  · rw [if_pos h946] at h
    obtain ⟨v_r1220, h947, h⟩ := bind_some h
    by_cases h948 : v_r1220 = true
    · rw [if_pos h948] at h
      by_cases h949 : 0 ≤ v_child1218 ∧ v_child1218 < (17 : Int)
      · rw [if_pos h949] at h
        obtain ⟨v_y1221, h950, h⟩ := bind_some h
        obtain ⟨v_o1227, h956, h⟩ := bind_some h
        refine pkk_sound TTok mix hF 12 (hs := [.r (eB v_r1219), .t false, .c, .r (eB v_r1220), .c, .t false, .l (.d (.agg [.v (.int .i64 (v_y1221 0)), .v (.int .i64 (v_y1221 1)), .v (.int .i64 (v_y1221 2)), .v (.int .i64 (v_y1221 3)), .v (.int .i64 (v_y1221 4)), .v (.int .i64 (v_y1221 5)), .v (.int .i64 (v_y1221 6)), .v (.int .i64 (v_y1221 7))])), .n n]) (ts := []) (s := [1, 0]) (l := [0, 1, 2, 24, 25]) (by kernel_rfl) (by kernel_rfl) (.cons (G_open_owner_ok n v_p1217 _ h945) (.cons (bnf h946) (.cons (G_open_owner_ok n v_child1218 _ h947) (.cons (bnf h948) (.cons h949 (.cons (And.intro (congrArg mkAgg (arr_take (γ := FV) (sz := 8) (g := (fun x => [.d (.v (.int .i64 (x 0))), .d (.v (.int .i64 (x 1))), .d (.v (.int .i64 (x 2))), .d (.v (.int .i64 (x 3))), .d (.v (.int .i64 (x 4))), .d (.v (.int .i64 (x 5))), .d (.v (.int .i64 (x 6))), .d (.v (.int .i64 (x 7)))])) (pre := ((cA_t46 v_t1216.ffiles).map FV.d)) (post := []) (fun _ => rfl) h950).1) (arr_take (γ := FV) (sz := 8) (g := (fun x => [.d (.v (.int .i64 (x 0))), .d (.v (.int .i64 (x 1))), .d (.v (.int .i64 (x 2))), .d (.v (.int .i64 (x 3))), .d (.v (.int .i64 (x 4))), .d (.v (.int .i64 (x 5))), .d (.v (.int .i64 (x 6))), .d (.v (.int .i64 (x 7)))])) (pre := ((cA_t46 v_t1216.ffiles).map FV.d)) (post := []) (fun _ => rfl) h950).2) .nil)))))) (G_open_Table_Fork_h_L1_ok hF (.b 0 :: .s (cR (cR (cR (bodyOf Try.f27)))) :: []) n v_p1217 v_child1218 v_y1221 v_t1216 n 0 _ h956 ?_)
        cases v_o1227 with
        | x0 v_z1228 =>
          try dsimp only at h
          obtain rfl := Option.some.inj h
          exact pendH_sound TTok mix 2 (hs := []) [1] (by kernel_rfl) (by kernel_rfl) (by kernel_rfl) .nil
        | x1  =>
          try dsimp only at h
          by_cases h957 : v_p1217 = v_child1218
          · rw [if_pos h957] at h
            obtain rfl := Option.some.inj h
            exact pendH_sound TTok mix 9 (hs := [.t true]) [1] (by kernel_rfl) (by kernel_rfl) (by kernel_rfl) (.cons (bt h957) .nil)
          · rw [if_neg h957] at h
            by_cases h958 : 0 ≤ v_p1217 ∧ v_p1217 < (17 : Int)
            · rw [if_pos h958] at h
              obtain ⟨v_y1229, h959, h⟩ := bind_some h
              by_cases h960 : 0 ≤ v_child1218 ∧ v_child1218 < (17 : Int)
              · rw [if_pos h960] at h
                obtain ⟨v_y1230, h961, h⟩ := bind_some h
                by_cases h962 : 0 ≤ v_p1217 ∧ v_p1217 < (17 : Int)
                · rw [if_pos h962] at h
                  obtain ⟨v_y1231, h963, h⟩ := bind_some h
                  obtain ⟨v_o1258, h1010, h⟩ := bind_some h
                  refine pkk_sound TTok mix hF 13 (hs := [.t false, .l (.d (.agg [.v (.int .i64 (v_y1229 0)), .v (.int .i64 (v_y1229 1)), .v (.int .i64 (v_y1229 2)), .v (.int .i64 (v_y1229 3)), .v (.int .i64 (v_y1229 4)), .v (.int .i64 (v_y1229 5)), .v (.int .i64 (v_y1229 6)), .v (.int .i64 (v_y1229 7))])), .x ((cS_open_Table (S_open_Table.mk v_t1216.ffiles (setA v_t1216.ffds v_child1218 v_y1229))).map FV.d), .c, .l (.d (.agg [.v (.int .i64 (v_y1231 0)), .v (.int .i64 (v_y1231 1)), .v (.int .i64 (v_y1231 2)), .v (.int .i64 (v_y1231 3)), .v (.int .i64 (v_y1231 4)), .v (.int .i64 (v_y1231 5)), .v (.int .i64 (v_y1231 6)), .v (.int .i64 (v_y1231 7))])), .n n]) (ts := []) (s := [0, 1]) (l := [0, 50, 51]) (by kernel_rfl) (by kernel_rfl) (.cons (bf h957) (.cons h958 (.cons (And.intro (congrArg mkAgg (arr_take (γ := FV) (sz := 8) (g := (fun x => [.d (.v (.int .i64 (x 0))), .d (.v (.int .i64 (x 1))), .d (.v (.int .i64 (x 2))), .d (.v (.int .i64 (x 3))), .d (.v (.int .i64 (x 4))), .d (.v (.int .i64 (x 5))), .d (.v (.int .i64 (x 6))), .d (.v (.int .i64 (x 7)))])) (pre := ((cA_t46 v_t1216.ffiles).map FV.d)) (post := []) (fun _ => rfl) h959).1) (arr_take (γ := FV) (sz := 8) (g := (fun x => [.d (.v (.int .i64 (x 0))), .d (.v (.int .i64 (x 1))), .d (.v (.int .i64 (x 2))), .d (.v (.int .i64 (x 3))), .d (.v (.int .i64 (x 4))), .d (.v (.int .i64 (x 5))), .d (.v (.int .i64 (x 6))), .d (.v (.int .i64 (x 7)))])) (pre := ((cA_t46 v_t1216.ffiles).map FV.d)) (post := []) (fun _ => rfl) h959).2) (.cons h960 (.cons (arr_store (γ := FV) (sz := 8) (g := (fun x => [.d (.v (.int .i64 (x 0))), .d (.v (.int .i64 (x 1))), .d (.v (.int .i64 (x 2))), .d (.v (.int .i64 (x 3))), .d (.v (.int .i64 (x 4))), .d (.v (.int .i64 (x 5))), .d (.v (.int .i64 (x 6))), .d (.v (.int .i64 (x 7)))])) (pre := ((cA_t46 v_t1216.ffiles).map FV.d)) (post := []) (o := 0) (y := v_y1229) (zs := [.d (.v (.int .i64 (v_y1229 0))), .d (.v (.int .i64 (v_y1229 1))), .d (.v (.int .i64 (v_y1229 2))), .d (.v (.int .i64 (v_y1229 3))), .d (.v (.int .i64 (v_y1229 4))), .d (.v (.int .i64 (v_y1229 5))), .d (.v (.int .i64 (v_y1229 6))), .d (.v (.int .i64 (v_y1229 7)))]) (fun _ => rfl) h961 rfl (Nat.le_of_ble_eq_true rfl)).1 (.cons (arr_store (γ := FV) (sz := 8) (g := (fun x => [.d (.v (.int .i64 (x 0))), .d (.v (.int .i64 (x 1))), .d (.v (.int .i64 (x 2))), .d (.v (.int .i64 (x 3))), .d (.v (.int .i64 (x 4))), .d (.v (.int .i64 (x 5))), .d (.v (.int .i64 (x 6))), .d (.v (.int .i64 (x 7)))])) (pre := ((cA_t46 v_t1216.ffiles).map FV.d)) (post := []) (o := 0) (y := v_y1229) (zs := [.d (.v (.int .i64 (v_y1229 0))), .d (.v (.int .i64 (v_y1229 1))), .d (.v (.int .i64 (v_y1229 2))), .d (.v (.int .i64 (v_y1229 3))), .d (.v (.int .i64 (v_y1229 4))), .d (.v (.int .i64 (v_y1229 5))), .d (.v (.int .i64 (v_y1229 6))), .d (.v (.int .i64 (v_y1229 7)))]) (fun _ => rfl) h961 rfl (Nat.le_of_ble_eq_true rfl)).2 (.cons h962 (.cons (And.intro (congrArg mkAgg (arr_take (γ := FV) (sz := 8) (g := (fun x => [.d (.v (.int .i64 (x 0))), .d (.v (.int .i64 (x 1))), .d (.v (.int .i64 (x 2))), .d (.v (.int .i64 (x 3))), .d (.v (.int .i64 (x 4))), .d (.v (.int .i64 (x 5))), .d (.v (.int .i64 (x 6))), .d (.v (.int .i64 (x 7)))])) (pre := ((cA_t46 v_t1216.ffiles).map FV.d)) (post := []) (fun _ => rfl) h963).1) (arr_take (γ := FV) (sz := 8) (g := (fun x => [.d (.v (.int .i64 (x 0))), .d (.v (.int .i64 (x 1))), .d (.v (.int .i64 (x 2))), .d (.v (.int .i64 (x 3))), .d (.v (.int .i64 (x 4))), .d (.v (.int .i64 (x 5))), .d (.v (.int .i64 (x 6))), .d (.v (.int .i64 (x 7)))])) (pre := ((cA_t46 v_t1216.ffiles).map FV.d)) (post := []) (fun _ => rfl) h963).2) .nil)))))))) (G_open_Table_Fork_h_L2_ok hF (.b 2 :: .s (cR (cR (cR (cR (cR (cR (bodyOf Try.f27))))))) :: []) n v_y1231 n 0 (S_open_Table.mk v_t1216.ffiles (setA v_t1216.ffds v_child1218 v_y1229)) _ h1010 ?_)
                  cases v_o1258 with
                  | x0 v_z1259 =>
                    try dsimp only at h
                    obtain rfl := Option.some.inj h
                    exact pendH_sound TTok mix 4 (hs := []) [1] (by kernel_rfl) (by kernel_rfl) (by kernel_rfl) .nil
                · rw [if_neg h962] at h; cases h
              · rw [if_neg h960] at h; cases h
            · rw [if_neg h958] at h; cases h
      · rw [if_neg h949] at h; cases h
    · rw [if_neg h948] at h
      obtain rfl := Option.some.inj h
      exact pendH_sound TTok mix 10 (hs := [.r (eB v_r1219), .t false, .c, .r (eB v_r1220), .c, .t true]) [0] (by kernel_rfl) (by kernel_rfl) (by kernel_rfl) (.cons (G_open_owner_ok n v_p1217 _ h945) (.cons (bnf h946) (.cons (G_open_owner_ok n v_child1218 _ h947) (.cons (bnt (vf h948)) .nil))))
  · rw [if_neg h946] at h
    obtain rfl := Option.some.inj h
    exact pendH_sound TTok mix 10 (hs := [.r (eB v_r1219), .t true, .c, .c, .c]) [0] (by kernel_rfl) (by kernel_rfl) (by kernel_rfl) (.cons (G_open_owner_ok n v_p1217 _ h945) (.cons (bnt (vf h946)) .nil))
inductive G_ringref5_Open_DropAll_h_C2_R where
  | x0 (v_b1390 : (Fin 17 → (Fin 8 → Int))) (v_w1391 : (List S_ringref5_Thing)) (v_w1392 : (List S_ringref5_Thing))
  | x1 (v_w1396 : (List S_ringref5_Thing)) (v_w1397 : (List S_ringref5_Thing))
def G_ringref5_Open_DropAll_h_C2_ex : G_ringref5_Open_DropAll_h_C2_R → Ex
  | .x0 _ _ _ => .normal
  | .x1 _ _ => .normal
def G_ringref5_Open_DropAll_h_C2_st (v_p1268 : Int) (v_x1357 : Int) (v_y1384 : Int) (v_b1358 : (Fin 17 → (Fin 8 → Int))) (v_w1359 : (List S_ringref5_Thing)) (v_w1360 : (List S_ringref5_Thing)) : G_ringref5_Open_DropAll_h_C2_R → PS
  | .x0 v_b1390 v_w1391 v_w1392 => ⟨(.ref 2 0 :: .d (.v (.int .i64 v_p1268)) :: dd :: dd :: dd :: .srf 5 :: dd :: dd :: dd :: .d (.v (.int .i64 v_x1357)) :: (dds 25 [])), [.gh 0 (.ref 2 0), .gh 1 (.srf 4), .box ([.srf 3] ++ ((cA_t36 v_b1390).map FV.d)), .row 39 5 (v_w1391.map eS_ringref5_Thing), .none, .row 39 5 (v_w1392.map eS_ringref5_Thing)]⟩
  | .x1 v_w1396 v_w1397 => ⟨(.ref 2 0 :: .d (.v (.int .i64 v_p1268)) :: dd :: dd :: dd :: .srf 5 :: dd :: dd :: dd :: .d (.v (.int .i64 v_x1357)) :: (dds 25 [])), [.gh 0 (.ref 2 0), .gh 1 (.srf 4), .box ([.srf 3] ++ ((cA_t36 v_b1358).map FV.d)), .row 39 5 (v_w1396.map eS_ringref5_Thing), .none, .row 39 5 (v_w1397.map eS_ringref5_Thing)]⟩
def G_ringref5_Open_DropAll_h_C2_hd (v_p1268 : Int) (v_x1357 : Int) (v_y1384 : Int) (v_b1358 : (Fin 17 → (Fin 8 → Int))) (v_w1359 : (List S_ringref5_Thing)) (v_w1360 : (List S_ringref5_Thing))  : PS := ⟨(.ref 2 0 :: .d (.v (.int .i64 v_p1268)) :: dd :: dd :: dd :: .srf 5 :: .d (.v (.int .i64 v_x1357)) :: dd :: dd :: .d (.v (.int .i64 v_x1357)) :: (dds 10 (.d (.v (.bool (decide (v_y1384 > 0)))) :: (dds 14 [])))), [.gh 0 (.ref 2 0), .gh 1 (.srf 4), .box ([.srf 3] ++ ((cA_t36 v_b1358).map FV.d)), .row 39 5 (v_w1359.map eS_ringref5_Thing), .none, .row 39 5 (v_w1360.map eS_ringref5_Thing)]⟩
def G_ringref5_Open_DropAll_h_C2 (n : Nat) (v_p1268 : Int) (v_x1357 : Int) (v_y1384 : Int) (v_b1358 : (Fin 17 → (Fin 8 → Int))) (v_w1359 : (List S_ringref5_Thing)) (v_w1360 : (List S_ringref5_Thing)) : Option G_ringref5_Open_DropAll_h_C2_R :=
  if v_y1384 > 0 then
   (G_ringref5_Open_Less_h n (S_ringref5_Open.mk v_w1359 v_b1358) v_p1268 v_x1357).bind fun (v_r1388 : (S_ringref5_Thing × Bool × S_ringref5_Open)) =>
   if v_r1388.2.1 = true then
    (app 40 v_w1360 ([v_r1388.1])).bind fun (v_a1389 : (List S_ringref5_Thing)) =>
    some (.x0 v_r1388.2.2.fFds v_r1388.2.2.fThings v_a1389)
   else
    some (.x0 v_r1388.2.2.fFds v_r1388.2.2.fThings v_w1360)
  else
   some (.x1 v_w1359 v_w1360)
theorem G_ringref5_Open_DropAll_h_C2_ok {Fi : Ex → PS → Prop} (hF : KC 35 Fi) (ks : List Fr) (n : Nat) (v_p1268 : Int) (v_x1357 : Int) (v_y1384 : Int) (v_b1358 : (Fin 17 → (Fin 8 → Int))) (v_w1359 : (List S_ringref5_Thing)) (v_w1360 : (List S_ringref5_Thing))  (o : G_ringref5_Open_DropAll_h_C2_R) (h : G_ringref5_Open_DropAll_h_C2 n v_p1268 v_x1357 v_y1384 v_b1358 v_w1359 v_w1360 = some o) (q : RunE Try.prog 35 Fi ks (G_ringref5_Open_DropAll_h_C2_ex o) (G_ringref5_Open_DropAll_h_C2_st v_p1268 v_x1357 v_y1384 v_b1358 v_w1359 v_w1360 o)) : RunE Try.prog 35 Fi (.s (cR (cR (cB (cL (cR (cR (cP (cB (cR (cL (cR (cR (bodyOf Try.f28))))))))))))) :: ks) .normal (G_ringref5_Open_DropAll_h_C2_hd v_p1268 v_x1357 v_y1384 v_b1358 v_w1359 v_w1360) := by
  unfold G_ringref5_Open_DropAll_h_C2 at h
  by_cases h1096 : v_y1384 > 0
  · rw [if_pos h1096] at h
    obtain ⟨v_r1388, h1097, h⟩ := bind_some h
    by_cases h1098 : v_r1388.2.1 = true
    · rw [if_pos h1098] at h
      obtain ⟨v_a1389, h1099, h⟩ := bind_some h
      cases h
      exact pkk_sound TTok mix hF 7 (hs := [.t true, .h [2, 3] [] [.box ([.srf 2] ++ ((cA_t36 v_r1388.2.2.fFds).map FV.d)), .none, .row 39 5 (v_r1388.2.2.fThings.map eS_ringref5_Thing)] (.tup [.d (.agg [.v (.int .i64 v_r1388.1.fKind), .v (.int .i64 v_r1388.1.fId), .v (.int .i64 v_r1388.1.fMay), .v (.bool v_r1388.1.fMore), .v (.int .i64 v_r1388.1.fAt)]), .d (.v (.bool v_r1388.2.1))]), .c, .t true, .c, .bd, .w (v_a1389.map eS_ringref5_Thing)]) (ts := []) (s := [0, 1, 2, 21, 4, 76]) (l := [0, 1, 5, 9]) (by kernel_rfl) (by kernel_rfl) (.cons (dt h1096) (.cons (G_ringref5_Open_Less_h_ok n (S_ringref5_Open.mk v_w1359 v_b1358) v_p1268 v_x1357 _ h1097) (.cons (show 0 + 5 ≤ 5 by decide) (.cons h1098 (.cons (app_ob (f := eS_ringref5_Thing) (s := 5) h1099 (fun _ => rfl)).1 (.cons (app_ob (f := eS_ringref5_Thing) (s := 5) h1099 (fun _ => rfl)).2.1 (.cons (app_ob (f := eS_ringref5_Thing) (s := 5) h1099 (fun _ => rfl)).2.2.1 (.cons (app_ob (f := eS_ringref5_Thing) (s := 5) h1099 (fun _ => rfl)).2.2.2 .nil)))))))) q
    · rw [if_neg h1098] at h
      cases h
      exact pkk_sound TTok mix hF 7 (hs := [.t true, .h [2, 3] [] [.box ([.srf 2] ++ ((cA_t36 v_r1388.2.2.fFds).map FV.d)), .none, .row 39 5 (v_r1388.2.2.fThings.map eS_ringref5_Thing)] (.tup [.d (.agg [.v (.int .i64 v_r1388.1.fKind), .v (.int .i64 v_r1388.1.fId), .v (.int .i64 v_r1388.1.fMay), .v (.bool v_r1388.1.fMore), .v (.int .i64 v_r1388.1.fAt)]), .d (.v (.bool v_r1388.2.1))]), .c, .t false]) (ts := []) (s := [0, 1, 2, 21, 4, 5]) (l := [0, 1, 5, 9]) (by kernel_rfl) (by kernel_rfl) (.cons (dt h1096) (.cons (G_ringref5_Open_Less_h_ok n (S_ringref5_Open.mk v_w1359 v_b1358) v_p1268 v_x1357 _ h1097) (.cons (show 0 + 5 ≤ 5 by decide) (.cons (vf h1098) .nil)))) q
  · rw [if_neg h1096] at h
    cases h
    exact pkk_sound TTok mix hF 2 (hs := [.t false]) (ts := []) (s := [0, 1, 2, 3, 4, 5]) (l := [0, 1, 5, 9]) (by kernel_rfl) (by kernel_rfl) (.cons (df h1096) .nil) q
inductive G_ringref5_Open_DropAll_h_L3_R where
  | x0 (v_b1404 : (Fin 17 → (Fin 8 → Int))) (v_w1405 : (List S_ringref5_Thing)) (v_w1406 : (List S_ringref5_Thing))
def G_ringref5_Open_DropAll_h_L3_ex : G_ringref5_Open_DropAll_h_L3_R → Ex
  | .x0 _ _ _ => .exit 0
def G_ringref5_Open_DropAll_h_L3_st (v_p1268 : Int) : G_ringref5_Open_DropAll_h_L3_R → PS
  | .x0 v_b1404 v_w1405 v_w1406 => ⟨(dd :: dd :: dd :: dd :: dd :: .srf 5 :: (dds 29 [])), [.gh 0 (.ref 2 0), .gh 1 (.srf 4), .box ([.srf 3] ++ ((cA_t36 v_b1404).map FV.d)), .row 39 5 (v_w1405.map eS_ringref5_Thing), .none, .row 39 5 (v_w1406.map eS_ringref5_Thing)]⟩
def G_ringref5_Open_DropAll_h_L3_hd (v_p1268 : Int) (v_x1357 : Int) (v_b1358 : (Fin 17 → (Fin 8 → Int))) (v_w1359 : (List S_ringref5_Thing)) (v_w1360 : (List S_ringref5_Thing)) : PS := ⟨(.ref 2 0 :: .d (.v (.int .i64 v_p1268)) :: dd :: dd :: dd :: .srf 5 :: dd :: dd :: dd :: .d (.v (.int .i64 v_x1357)) :: (dds 25 [])), [.gh 0 (.ref 2 0), .gh 1 (.srf 4), .box ([.srf 3] ++ ((cA_t36 v_b1358).map FV.d)), .row 39 5 (v_w1359.map eS_ringref5_Thing), .none, .row 39 5 (v_w1360.map eS_ringref5_Thing)]⟩
def G_ringref5_Open_DropAll_h_L3 (n : Nat) (v_p1268 : Int) : Nat → Int → (Fin 17 → (Fin 8 → Int)) → (List S_ringref5_Thing) → (List S_ringref5_Thing) → Option G_ringref5_Open_DropAll_h_L3_R
  | 0, _, _, _, _ => none
  | k + 1, v_x1357, v_b1358, v_w1359, v_w1360 =>
    if v_x1357 < 8 then
     if 0 ≤ v_p1268 ∧ v_p1268 < (17 : Int) then
      if 0 ≤ v_x1357 ∧ v_x1357 < (8 : Int) then
       (getA v_b1358 v_p1268).bind fun (v_y1383 : (Fin 8 → Int)) =>
       (getA v_y1383 v_x1357).bind fun (v_y1384 : Int) =>
       (G_ringref5_Open_DropAll_h_C2 n v_p1268 v_x1357 v_y1384 v_b1358 v_w1359 v_w1360).bind fun v_o1398 => match v_o1398 with
       | .x0 v_z1399 v_z1400 v_z1401 =>
         G_ringref5_Open_DropAll_h_L3 n v_p1268 k (wi .i64 (v_x1357 + 1)) v_z1399 v_z1400 v_z1401
       | .x1 v_z1402 v_z1403 =>
         G_ringref5_Open_DropAll_h_L3 n v_p1268 k (wi .i64 (v_x1357 + 1)) v_b1358 v_z1402 v_z1403
      else none
     else none
    else
     some (.x0 v_b1358 v_w1359 v_w1360)
theorem G_ringref5_Open_DropAll_h_L3_ok {Fi : Ex → PS → Prop} (hF : KC 35 Fi) (ks : List Fr) (n : Nat) (v_p1268 : Int)  : ∀ (k : Nat) (v_x1357 : Int) (v_b1358 : (Fin 17 → (Fin 8 → Int))) (v_w1359 : (List S_ringref5_Thing)) (v_w1360 : (List S_ringref5_Thing)) (o : G_ringref5_Open_DropAll_h_L3_R), G_ringref5_Open_DropAll_h_L3 n v_p1268 k v_x1357 v_b1358 v_w1359 v_w1360 = some o → RunE Try.prog 35 Fi ks (G_ringref5_Open_DropAll_h_L3_ex o) (G_ringref5_Open_DropAll_h_L3_st v_p1268 o) → RunE Try.prog 35 Fi (.l k (cP (cB (cR (cL (cR (cR (bodyOf Try.f28))))))) :: ks) .normal (G_ringref5_Open_DropAll_h_L3_hd v_p1268 v_x1357 v_b1358 v_w1359 v_w1360)
  | 0, v_x1357, v_b1358, v_w1359, v_w1360, o, h, q => by rw [G_ringref5_Open_DropAll_h_L3] at h; cases h
  | k + 1, v_x1357, v_b1358, v_w1359, v_w1360, o, h, q => by
    rw [G_ringref5_Open_DropAll_h_L3] at h
    by_cases h1074 : v_x1357 < 8
    · rw [if_pos h1074] at h
      by_cases h1088 : 0 ≤ v_p1268 ∧ v_p1268 < (17 : Int)
      · rw [if_pos h1088] at h
        by_cases h1089 : 0 ≤ v_x1357 ∧ v_x1357 < (8 : Int)
        · rw [if_pos h1089] at h
          obtain ⟨v_y1383, h1090, h⟩ := bind_some h
          obtain ⟨v_y1384, h1091, h⟩ := bind_some h
          obtain ⟨v_o1398, h1100, h⟩ := bind_some h
          refine pkk_sound TTok mix hF 12 (hs := [.t true, .l (.d (.v (.int .i64 v_y1384)))]) (ts := []) (s := [0, 1, 2, 3, 4, 5]) (l := [0, 1, 5, 6, 9, 20]) (by kernel_rfl) (by kernel_rfl) (.cons (dt h1074) (.cons h1088 (.cons h1089 (.cons (arr_cell2 (γ := FV) (sz := 8) (g := (fun x => [.d (.v (.int .i64 (x 0))), .d (.v (.int .i64 (x 1))), .d (.v (.int .i64 (x 2))), .d (.v (.int .i64 (x 3))), .d (.v (.int .i64 (x 4))), .d (.v (.int .i64 (x 5))), .d (.v (.int .i64 (x 6))), .d (.v (.int .i64 (x 7)))])) (pre := [.srf 3]) (post := []) (P0 := 1) (o := 0 + (v_x1357).toNat * 1 + 0) rfl (fun _ => rfl) h1090 (arr_cell2 (γ := FV) (sz := 1) (g := (fun x => [.d (.v (.int .i64 x))])) (pre := []) (post := []) (P0 := 0) (o := 0) rfl (fun _ => rfl) h1091 rfl (idx := 0 + (v_x1357).toNat * 1 + 0) (by omega)) (idx := 1 + (v_p1268).toNat * 8 + (v_x1357).toNat * 1) (by omega)) .nil)))) (G_ringref5_Open_DropAll_h_C2_ok hF (.b 1 :: .s (cR (cR (cR (cP (cB (cR (cL (cR (cR (bodyOf Try.f28)))))))))) :: .l k (cP (cB (cR (cL (cR (cR (bodyOf Try.f28))))))) :: ks) n v_p1268 v_x1357 v_y1384 v_b1358 v_w1359 v_w1360 _ h1100 ?_)
          cases v_o1398 with
          | x0 v_z1399 v_z1400 v_z1401 =>
            try dsimp only at h
            exact pkk_sound TTok mix hF 2 (hs := []) (ts := []) (s := [0, 1, 2, 3, 4, 5]) (l := [0, 1, 5, 9]) (by kernel_rfl) (by kernel_rfl) .nil (G_ringref5_Open_DropAll_h_L3_ok hF ks n v_p1268 k (wi .i64 (v_x1357 + 1)) v_z1399 v_z1400 v_z1401 _ h q)
          | x1 v_z1402 v_z1403 =>
            try dsimp only at h
            exact pkk_sound TTok mix hF 2 (hs := []) (ts := []) (s := [0, 1, 2, 3, 4, 5]) (l := [0, 1, 5, 9]) (by kernel_rfl) (by kernel_rfl) .nil (G_ringref5_Open_DropAll_h_L3_ok hF ks n v_p1268 k (wi .i64 (v_x1357 + 1)) v_b1358 v_z1402 v_z1403 _ h q)
        · rw [if_neg h1089] at h; cases h
      · rw [if_neg h1088] at h; cases h
    · rw [if_neg h1074] at h
      cases h
      exact pkk_sound TTok mix hF 8 (hs := [.t false]) (ts := []) (s := [0, 1, 2, 3, 4, 5]) (l := [5]) (by kernel_rfl) (by kernel_rfl) (.cons (df h1074) .nil) q
/- (*ringhall/ringref5.Open).DropAll -/
def G_ringref5_Open_DropAll_h (n : Nat) (v_o1267 : S_ringref5_Open) (v_p1268 : Int) : Option ((List S_ringref5_Thing) × S_ringref5_Open) :=
  (G_ringref5_Open_DropAll_h_L3 n v_p1268 n 0 v_o1267.fFds v_o1267.fThings ([] : List S_ringref5_Thing)).bind fun v_o1407 => match v_o1407 with
  | .x0 v_z1408 v_z1409 v_z1410 =>
    some (v_z1410, (S_ringref5_Open.mk v_z1409 v_z1408))
theorem G_ringref5_Open_DropAll_h_ok (n : Nat) (v_o1267 : S_ringref5_Open) (v_p1268 : Int) (r : (List S_ringref5_Thing) × S_ringref5_Open) (h : G_ringref5_Open_DropAll_h n v_o1267 v_p1268 = some r) : RetH Try.prog 28 [.ref 0 0, .d ((eI .i64) v_p1268)] [.box ([.srf 1] ++ ((cA_t36 v_o1267.fFds).map FV.d)), .row 39 5 (v_o1267.fThings.map eS_ringref5_Thing)] (.d ((eL eS_ringref5_Thing) r.1)) [.box ([.srf 2] ++ ((cA_t36 r.2.fFds).map FV.d)), .none, .row 39 5 (r.2.fThings.map eS_ringref5_Thing)] := by
  refine retH_run (n := 35) (fn := Try.f28) (c := bodyOf Try.f28) (by kernel_rfl) (by kernel_rfl) (by kernel_rfl) (by kernel_rfl) ?_
  have hF : KC 35 (FinH Try.prog Try.f28 [.box ([.srf 1] ++ ((cA_t36 v_o1267.fFds).map FV.d)), .row 39 5 (v_o1267.fThings.map eS_ringref5_Thing)] (.d ((eL eS_ringref5_Thing) r.1)) [.box ([.srf 2] ++ ((cA_t36 r.2.fFds).map FV.d)), .none, .row 39 5 (r.2.fThings.map eS_ringref5_Thing)]) := FinH.kc' (by kernel_rfl)
  unfold G_ringref5_Open_DropAll_h at h
  obtain ⟨v_o1407, h1101, h⟩ := bind_some h
  refine pkk_sound TTok mix hF 10 (hs := [.dl 8, .mv 1, .n n]) (ts := [(5, 39, 5)]) (s := [2, 3, 0, 19, 1, 20]) (l := [0, 1, 5, 9]) (by kernel_rfl) (by kernel_rfl) .nil (G_ringref5_Open_DropAll_h_L3_ok hF (.b 0 :: .s (cR (cR (cR (bodyOf Try.f28)))) :: []) n v_p1268 n 0 v_o1267.fFds v_o1267.fThings ([] : List S_ringref5_Thing) _ h1101 ?_)
  cases v_o1407 with
  | x0 v_z1408 v_z1409 v_z1410 =>
    try dsimp only at h
    obtain rfl := Option.some.inj h
    exact pendH_sound TTok mix 5 (hs := [.dl 4, .fz 5]) [2, 4, 3] (by kernel_rfl) (by kernel_rfl) (by kernel_rfl) .nil
inductive G_slices_Equal_open_Thing_open_Thing_L1_R where
  | x0 (v_x1438 : Bool)
  | x1 
def G_slices_Equal_open_Thing_open_Thing_L1_ex : G_slices_Equal_open_Thing_open_Thing_L1_R → Ex
  | .x0 _ => .ret
  | .x1  => .exit 0
def G_slices_Equal_open_Thing_open_Thing_L1_st (v_s1427 : (List S_open_Thing)) (v_s1428 : (List S_open_Thing)) : G_slices_Equal_open_Thing_open_Thing_L1_R → PS
  | .x0 v_x1438 => ⟨(dd :: dd :: dd :: dd :: .d (.v (.bool v_x1438)) :: (dds 21 [])), []⟩
  | .x1  => ⟨(dds 26 []), []⟩
def G_slices_Equal_open_Thing_open_Thing_L1_hd (v_s1427 : (List S_open_Thing)) (v_s1428 : (List S_open_Thing)) (v_x1432 : Int) : PS := ⟨(.d (.sl (v_s1427.map eS_open_Thing)) :: .d (.sl (v_s1428.map eS_open_Thing)) :: (dds 10 (.d (.v (.int .i64 (v_s1427.length : Int))) :: .d (.v (.int .i64 v_x1432)) :: (dds 12 [])))), []⟩
def G_slices_Equal_open_Thing_open_Thing_L1 (n : Nat) (v_s1427 : (List S_open_Thing)) (v_s1428 : (List S_open_Thing)) : Nat → Int → Option G_slices_Equal_open_Thing_open_Thing_L1_R
  | 0, _ => none
  | k + 1, v_x1432 =>
    if v_x1432 < (v_s1427.length : Int) then
     (getI v_s1427 v_x1432).bind fun (v_y1436 : S_open_Thing) =>
     (getI v_s1428 v_x1432).bind fun (v_y1437 : S_open_Thing) =>
     if (eqRes .neq (eqS_open_Thing v_y1436 v_y1437)) = true then
      some (.x0 false)
     else
      G_slices_Equal_open_Thing_open_Thing_L1 n v_s1427 v_s1428 k (wi .i64 (v_x1432 + 1))
    else
     some (.x1 )
theorem G_slices_Equal_open_Thing_open_Thing_L1_ok {Fi : Ex → PS → Prop} (hF : KC 26 Fi) (ks : List Fr) (n : Nat) (v_s1427 : (List S_open_Thing)) (v_s1428 : (List S_open_Thing))  : ∀ (k : Nat) (v_x1432 : Int) (o : G_slices_Equal_open_Thing_open_Thing_L1_R), G_slices_Equal_open_Thing_open_Thing_L1 n v_s1427 v_s1428 k v_x1432 = some o → RunE Try.prog 26 Fi ks (G_slices_Equal_open_Thing_open_Thing_L1_ex o) (G_slices_Equal_open_Thing_open_Thing_L1_st v_s1427 v_s1428 o) → RunE Try.prog 26 Fi (.l k (cP (cB (cR (cL (cR (cR (bodyOf Try.f29))))))) :: ks) .normal (G_slices_Equal_open_Thing_open_Thing_L1_hd v_s1427 v_s1428 v_x1432)
  | 0, v_x1432, o, h, q => by rw [G_slices_Equal_open_Thing_open_Thing_L1] at h; cases h
  | k + 1, v_x1432, o, h, q => by
    rw [G_slices_Equal_open_Thing_open_Thing_L1] at h
    by_cases h1113 : v_x1432 < (v_s1427.length : Int)
    · rw [if_pos h1113] at h
      obtain ⟨v_y1436, h1117, h⟩ := bind_some h
      obtain ⟨v_y1437, h1118, h⟩ := bind_some h
      by_cases h1119 : (eqRes .neq (eqS_open_Thing v_y1436 v_y1437)) = true
      · rw [if_pos h1119] at h
        cases h
        exact pkk_sound TTok mix hF 19 (hs := [.t true, .y (eS_open_Thing v_y1436), .y (eS_open_Thing v_y1437), .q (eqS_open_Thing v_y1436 v_y1437), .t true]) (ts := []) (s := []) (l := [4]) (by kernel_rfl) (by kernel_rfl) (.cons (dt h1113) (.cons (getI_ob (f := eS_open_Thing) h1117) (.cons (getI_ob (f := eS_open_Thing) h1118) (.cons (eqS_open_Thing_ok v_y1436 v_y1437) (.cons h1119 .nil))))) q
      · rw [if_neg h1119] at h
        exact pkk_sound TTok mix hF 16 (hs := [.t true, .y (eS_open_Thing v_y1436), .y (eS_open_Thing v_y1437), .q (eqS_open_Thing v_y1436 v_y1437), .t false]) (ts := []) (s := []) (l := [0, 1, 12, 13]) (by kernel_rfl) (by kernel_rfl) (.cons (dt h1113) (.cons (getI_ob (f := eS_open_Thing) h1117) (.cons (getI_ob (f := eS_open_Thing) h1118) (.cons (eqS_open_Thing_ok v_y1436 v_y1437) (.cons (vf h1119) .nil))))) (G_slices_Equal_open_Thing_open_Thing_L1_ok hF ks n v_s1427 v_s1428 k (wi .i64 (v_x1432 + 1)) _ h q)
    · rw [if_neg h1113] at h
      cases h
      exact pkk_sound TTok mix hF 8 (hs := [.t false]) (ts := []) (s := []) (l := []) (by kernel_rfl) (by kernel_rfl) (.cons (df h1113) .nil) q
/- slices.Equal[[]ringhall/open.Thing,ringhall/open.Thing] -/
def G_slices_Equal_open_Thing_open_Thing (n : Nat) (v_s1427 : (List S_open_Thing)) (v_s1428 : (List S_open_Thing)) : Option (Bool) :=
  if (v_s1427.length : Int) = (v_s1428.length : Int) then
   (G_slices_Equal_open_Thing_open_Thing_L1 n v_s1427 v_s1428 n 0).bind fun v_o1439 => match v_o1439 with
   | .x0 v_z1440 =>
     some v_z1440
   | .x1  =>
     some true
  else
   some false
theorem G_slices_Equal_open_Thing_open_Thing_ok (n : Nat) (v_s1427 : (List S_open_Thing)) (v_s1428 : (List S_open_Thing)) (r : Bool) (h : G_slices_Equal_open_Thing_open_Thing n v_s1427 v_s1428 = some r) : Ret Try.prog 29 [(eL eS_open_Thing) v_s1427, (eL eS_open_Thing) v_s1428] (eB r) := by
  refine ret_run (n := 26) (fn := Try.f29) (c := bodyOf Try.f29) (by kernel_rfl) (by kernel_rfl) (by kernel_rfl) (by kernel_rfl) ?_
  have hF : KC 26 (FinR Try.prog Try.f29 (eB r)) := FinR.kc' (by kernel_rfl)
  unfold G_slices_Equal_open_Thing_open_Thing at h
  by_cases h1112 : (v_s1427.length : Int) = (v_s1428.length : Int)
  · rw [if_pos h1112] at h
    obtain ⟨v_o1439, h1120, h⟩ := bind_some h
    refine pkk_sound TTok mix hF 12 (hs := [.u (.d (.v (.int .i64 (v_s1427.length : Int)))), .u (.d (.v (.int .i64 (v_s1428.length : Int)))), .t false, .u (.d (.v (.int .i64 (v_s1427.length : Int)))), .n n]) (ts := []) (s := []) (l := [0, 1, 12, 13]) (by kernel_rfl) (by kernel_rfl) (.cons (len_ob (f := eS_open_Thing) (l := v_s1427)) (.cons (len_ob (f := eS_open_Thing) (l := v_s1428)) (.cons (nf h1112) (.cons (len_ob (f := eS_open_Thing) (l := v_s1427)) .nil)))) (G_slices_Equal_open_Thing_open_Thing_L1_ok hF (.b 0 :: .s (cR (cR (cR (bodyOf Try.f29)))) :: []) n v_s1427 v_s1428 n 0 _ h1120 ?_)
    cases v_o1439 with
    | x0 v_z1440 =>
      try dsimp only at h
      obtain rfl := Option.some.inj h
      exact pend_sound TTok mix 2 (hs := []) (by kernel_rfl) (by kernel_rfl) (by kernel_rfl) .nil
    | x1  =>
      try dsimp only at h
      obtain rfl := Option.some.inj h
      exact pend_sound TTok mix 4 (hs := []) (by kernel_rfl) (by kernel_rfl) (by kernel_rfl) .nil
  · rw [if_neg h1112] at h
    obtain rfl := Option.some.inj h
    exact pend_sound TTok mix 10 (hs := [.u (.d (.v (.int .i64 (v_s1427.length : Int)))), .u (.d (.v (.int .i64 (v_s1428.length : Int)))), .t true]) (by kernel_rfl) (by kernel_rfl) (by kernel_rfl) (.cons (len_ob (f := eS_open_Thing) (l := v_s1427)) (.cons (len_ob (f := eS_open_Thing) (l := v_s1428)) (.cons (nt h1112) .nil)))
inductive G_open_Table_All_h_L1_R where
  | x0 (v_w1455 : (List Int))
def G_open_Table_All_h_L1_ex : G_open_Table_All_h_L1_R → Ex
  | .x0 _ => .exit 0
def G_open_Table_All_h_L1_st (v_y1445 : (Fin 8 → Int)) (v_t1442 : S_open_Table) : G_open_Table_All_h_L1_R → PS
  | .x0 v_w1455 => ⟨(dd :: dd :: dd :: dd :: dd :: dd :: .srf 2 :: (dds 23 [])), [.gh 0 (.ref 1 0), .box ((cS_open_Table v_t1442).map FV.d), .row 3 1 (v_w1455.map (eI .i64))]⟩
def G_open_Table_All_h_L1_hd (v_y1445 : (Fin 8 → Int)) (v_t1442 : S_open_Table) (v_x1446 : Int) (v_w1447 : (List Int)) : PS := ⟨(dd :: dd :: dd :: dd :: dd :: dd :: .srf 2 :: (dds 10 (.d (.agg [.v (.int .i64 (v_y1445 0)), .v (.int .i64 (v_y1445 1)), .v (.int .i64 (v_y1445 2)), .v (.int .i64 (v_y1445 3)), .v (.int .i64 (v_y1445 4)), .v (.int .i64 (v_y1445 5)), .v (.int .i64 (v_y1445 6)), .v (.int .i64 (v_y1445 7))]) :: .d (.v (.int .i64 v_x1446)) :: (dds 11 [])))), [.gh 0 (.ref 1 0), .box ((cS_open_Table v_t1442).map FV.d), .row 3 1 (v_w1447.map (eI .i64))]⟩
def G_open_Table_All_h_L1 (n : Nat) (v_y1445 : (Fin 8 → Int)) (v_t1442 : S_open_Table) : Nat → Int → (List Int) → Option G_open_Table_All_h_L1_R
  | 0, _, _ => none
  | k + 1, v_x1446, v_w1447 =>
    if v_x1446 < 8 then
     (getA v_y1445 v_x1446).bind fun (v_y1452 : Int) =>
     if v_y1452 = 0 then
      G_open_Table_All_h_L1 n v_y1445 v_t1442 k (wi .i64 (v_x1446 + 1)) v_w1447
     else
      (app 8 v_w1447 ([v_x1446])).bind fun (v_a1454 : (List Int)) =>
      G_open_Table_All_h_L1 n v_y1445 v_t1442 k (wi .i64 (v_x1446 + 1)) v_a1454
    else
     some (.x0 v_w1447)
theorem G_open_Table_All_h_L1_ok {Fi : Ex → PS → Prop} (hF : KC 30 Fi) (ks : List Fr) (n : Nat) (v_y1445 : (Fin 8 → Int)) (v_t1442 : S_open_Table)  : ∀ (k : Nat) (v_x1446 : Int) (v_w1447 : (List Int)) (o : G_open_Table_All_h_L1_R), G_open_Table_All_h_L1 n v_y1445 v_t1442 k v_x1446 v_w1447 = some o → RunE Try.prog 30 Fi ks (G_open_Table_All_h_L1_ex o) (G_open_Table_All_h_L1_st v_y1445 v_t1442 o) → RunE Try.prog 30 Fi (.l k (cP (cB (cR (cL (cR (cR (cR (bodyOf Try.f30)))))))) :: ks) .normal (G_open_Table_All_h_L1_hd v_y1445 v_t1442 v_x1446 v_w1447)
  | 0, v_x1446, v_w1447, o, h, q => by rw [G_open_Table_All_h_L1] at h; cases h
  | k + 1, v_x1446, v_w1447, o, h, q => by
    rw [G_open_Table_All_h_L1] at h
    by_cases h1126 : v_x1446 < 8
    · rw [if_pos h1126] at h
      obtain ⟨v_y1452, h1132, h⟩ := bind_some h
      by_cases h1135 : v_y1452 = 0
      · rw [if_pos h1135] at h
        exact pkk_sound TTok mix hF 16 (hs := [.t true, .l (.d (.v (.int .i64 v_y1452))), .t false]) (ts := []) (s := [0, 1, 2]) (l := [6, 17, 18]) (by kernel_rfl) (by kernel_rfl) (.cons (dt h1126) (.cons (getA_ob0 (fun x => FV.d ((eI .i64) x)) h1132) (.cons (nf h1135) .nil))) (G_open_Table_All_h_L1_ok hF ks n v_y1445 v_t1442 k (wi .i64 (v_x1446 + 1)) v_w1447 _ h q)
      · rw [if_neg h1135] at h
        obtain ⟨v_a1454, h1136, h⟩ := bind_some h
        exact pkk_sound TTok mix hF 16 (hs := [.t true, .l (.d (.v (.int .i64 v_y1452))), .t true, .bd, .w (v_a1454.map (eI .i64))]) (ts := []) (s := [0, 1, 53]) (l := [6, 17, 18]) (by kernel_rfl) (by kernel_rfl) (.cons (dt h1126) (.cons (getA_ob0 (fun x => FV.d ((eI .i64) x)) h1132) (.cons (nt h1135) (.cons (app_ob (f := (eI .i64)) (s := 1) h1136 (fun _ => rfl)).1 (.cons (app_ob (f := (eI .i64)) (s := 1) h1136 (fun _ => rfl)).2.1 (.cons (app_ob (f := (eI .i64)) (s := 1) h1136 (fun _ => rfl)).2.2.1 (.cons (app_ob (f := (eI .i64)) (s := 1) h1136 (fun _ => rfl)).2.2.2 .nil))))))) (G_open_Table_All_h_L1_ok hF ks n v_y1445 v_t1442 k (wi .i64 (v_x1446 + 1)) v_a1454 _ h q)
    · rw [if_neg h1126] at h
      cases h
      exact pkk_sound TTok mix hF 8 (hs := [.t false]) (ts := []) (s := [0, 1, 2]) (l := [6]) (by kernel_rfl) (by kernel_rfl) (.cons (df h1126) .nil) q
/- (*ringhall/open.Table).All -/
def G_open_Table_All_h (n : Nat) (v_t1442 : S_open_Table) (v_p1443 : Int) : Option ((List Int) × Int × S_open_Table) :=
  (G_open_owner n v_p1443).bind fun (v_r1444 : (Bool)) =>
  if v_r1444 = true then
   if 0 ≤ v_p1443 ∧ v_p1443 < (17 : Int) then
    (getA v_t1442.ffds v_p1443).bind fun (v_y1445 : (Fin 8 → Int)) =>
    (G_open_Table_All_h_L1 n v_y1445 v_t1442 n 0 ([] : List Int)).bind fun v_o1456 => match v_o1456 with
    | .x0 v_z1457 =>
      some (v_z1457, 0, v_t1442)
   else none
  else
   some (([] : (List Int)), 1, v_t1442)
theorem G_open_Table_All_h_ok (n : Nat) (v_t1442 : S_open_Table) (v_p1443 : Int) (r : (List Int) × Int × S_open_Table) (h : G_open_Table_All_h n v_t1442 v_p1443 = some r) : RetH Try.prog 30 [.ref 0 0, .d ((eI .i64) v_p1443)] [.box ((cS_open_Table v_t1442).map FV.d)] (.tup [.d ((eL (eI .i64)) r.1), .d ((eI .i64) r.2.1)]) [.box ((cS_open_Table r.2.2).map FV.d)] := by
  refine retH_run (n := 30) (fn := Try.f30) (c := bodyOf Try.f30) (by kernel_rfl) (by kernel_rfl) (by kernel_rfl) (by kernel_rfl) ?_
  have hF : KC 30 (FinH Try.prog Try.f30 [.box ((cS_open_Table v_t1442).map FV.d)] (.tup [.d ((eL (eI .i64)) r.1), .d ((eI .i64) r.2.1)]) [.box ((cS_open_Table r.2.2).map FV.d)]) := FinH.kc' (by kernel_rfl)
  unfold G_open_Table_All_h at h
  obtain ⟨v_r1444, h1122, h⟩ := bind_some h
  by_cases h1123 : v_r1444 = true
  · rw [if_pos h1123] at h
    by_cases h1124 : 0 ≤ v_p1443 ∧ v_p1443 < (17 : Int)
    · rw [if_pos h1124] at h
      obtain ⟨v_y1445, h1125, h⟩ := bind_some h
      obtain ⟨v_o1456, h1137, h⟩ := bind_some h
      refine pkk_sound TTok mix hF 14 (hs := [.r (eB v_r1444), .t false, .l (.d (.agg [.v (.int .i64 (v_y1445 0)), .v (.int .i64 (v_y1445 1)), .v (.int .i64 (v_y1445 2)), .v (.int .i64 (v_y1445 3)), .v (.int .i64 (v_y1445 4)), .v (.int .i64 (v_y1445 5)), .v (.int .i64 (v_y1445 6)), .v (.int .i64 (v_y1445 7))])), .n n]) (ts := [(6, 3, 1)]) (s := [1, 0, 67]) (l := [6, 17, 18]) (by kernel_rfl) (by kernel_rfl) (.cons (G_open_owner_ok n v_p1443 _ h1122) (.cons (bnf h1123) (.cons h1124 (.cons (And.intro (congrArg mkAgg (arr_take (γ := FV) (sz := 8) (g := (fun x => [.d (.v (.int .i64 (x 0))), .d (.v (.int .i64 (x 1))), .d (.v (.int .i64 (x 2))), .d (.v (.int .i64 (x 3))), .d (.v (.int .i64 (x 4))), .d (.v (.int .i64 (x 5))), .d (.v (.int .i64 (x 6))), .d (.v (.int .i64 (x 7)))])) (pre := ((cA_t46 v_t1442.ffiles).map FV.d)) (post := []) (fun _ => rfl) h1125).1) (arr_take (γ := FV) (sz := 8) (g := (fun x => [.d (.v (.int .i64 (x 0))), .d (.v (.int .i64 (x 1))), .d (.v (.int .i64 (x 2))), .d (.v (.int .i64 (x 3))), .d (.v (.int .i64 (x 4))), .d (.v (.int .i64 (x 5))), .d (.v (.int .i64 (x 6))), .d (.v (.int .i64 (x 7)))])) (pre := ((cA_t46 v_t1442.ffiles).map FV.d)) (post := []) (fun _ => rfl) h1125).2) .nil)))) (G_open_Table_All_h_L1_ok hF (.b 0 :: .s (cR (cR (cR (cR (bodyOf Try.f30))))) :: []) n v_y1445 v_t1442 n 0 ([] : List Int) _ h1137 ?_)
      cases v_o1456 with
      | x0 v_z1457 =>
        try dsimp only at h
        obtain rfl := Option.some.inj h
        exact pendH_sound TTok mix 5 (hs := [.dl 4, .fz 2]) [1] (by kernel_rfl) (by kernel_rfl) (by kernel_rfl) .nil
    · rw [if_neg h1124] at h; cases h
  · rw [if_neg h1123] at h
    obtain rfl := Option.some.inj h
    exact pendH_sound TTok mix 10 (hs := [.r (eB v_r1444), .t true]) [0] (by kernel_rfl) (by kernel_rfl) (by kernel_rfl) (.cons (G_open_owner_ok n v_p1443 _ h1122) (.cons (bnt (vf h1123)) .nil))
inductive G_slices_Equal_int_int_L1_R where
  | x0 (v_x1487 : Bool)
  | x1 
def G_slices_Equal_int_int_L1_ex : G_slices_Equal_int_int_L1_R → Ex
  | .x0 _ => .ret
  | .x1  => .exit 0
def G_slices_Equal_int_int_L1_st (v_s1476 : (List Int)) (v_s1477 : (List Int)) : G_slices_Equal_int_int_L1_R → PS
  | .x0 v_x1487 => ⟨(dd :: dd :: dd :: dd :: .d (.v (.bool v_x1487)) :: (dds 21 [])), []⟩
  | .x1  => ⟨(dds 26 []), []⟩
def G_slices_Equal_int_int_L1_hd (v_s1476 : (List Int)) (v_s1477 : (List Int)) (v_x1481 : Int) : PS := ⟨(.d (.sl (v_s1476.map (eI .i64))) :: .d (.sl (v_s1477.map (eI .i64))) :: (dds 10 (.d (.v (.int .i64 (v_s1476.length : Int))) :: .d (.v (.int .i64 v_x1481)) :: (dds 12 [])))), []⟩
def G_slices_Equal_int_int_L1 (n : Nat) (v_s1476 : (List Int)) (v_s1477 : (List Int)) : Nat → Int → Option G_slices_Equal_int_int_L1_R
  | 0, _ => none
  | k + 1, v_x1481 =>
    if v_x1481 < (v_s1476.length : Int) then
     (getI v_s1476 v_x1481).bind fun (v_y1485 : Int) =>
     (getI v_s1477 v_x1481).bind fun (v_y1486 : Int) =>
     if v_y1485 = v_y1486 then
      G_slices_Equal_int_int_L1 n v_s1476 v_s1477 k (wi .i64 (v_x1481 + 1))
     else
      some (.x0 false)
    else
     some (.x1 )
theorem G_slices_Equal_int_int_L1_ok {Fi : Ex → PS → Prop} (hF : KC 26 Fi) (ks : List Fr) (n : Nat) (v_s1476 : (List Int)) (v_s1477 : (List Int))  : ∀ (k : Nat) (v_x1481 : Int) (o : G_slices_Equal_int_int_L1_R), G_slices_Equal_int_int_L1 n v_s1476 v_s1477 k v_x1481 = some o → RunE Try.prog 26 Fi ks (G_slices_Equal_int_int_L1_ex o) (G_slices_Equal_int_int_L1_st v_s1476 v_s1477 o) → RunE Try.prog 26 Fi (.l k (cP (cB (cR (cL (cR (cR (bodyOf Try.f31))))))) :: ks) .normal (G_slices_Equal_int_int_L1_hd v_s1476 v_s1477 v_x1481)
  | 0, v_x1481, o, h, q => by rw [G_slices_Equal_int_int_L1] at h; cases h
  | k + 1, v_x1481, o, h, q => by
    rw [G_slices_Equal_int_int_L1] at h
    by_cases h1160 : v_x1481 < (v_s1476.length : Int)
    · rw [if_pos h1160] at h
      obtain ⟨v_y1485, h1164, h⟩ := bind_some h
      obtain ⟨v_y1486, h1165, h⟩ := bind_some h
      by_cases h1166 : v_y1485 = v_y1486
      · rw [if_pos h1166] at h
        exact pkk_sound TTok mix hF 16 (hs := [.t true, .y ((eI .i64) v_y1485), .c, .y ((eI .i64) v_y1486), .c, .t false]) (ts := []) (s := []) (l := [0, 1, 12, 13]) (by kernel_rfl) (by kernel_rfl) (.cons (dt h1160) (.cons (getI_ob (f := (eI .i64)) h1164) (.cons (getI_ob (f := (eI .i64)) h1165) (.cons (nf h1166) .nil)))) (G_slices_Equal_int_int_L1_ok hF ks n v_s1476 v_s1477 k (wi .i64 (v_x1481 + 1)) _ h q)
      · rw [if_neg h1166] at h
        cases h
        exact pkk_sound TTok mix hF 19 (hs := [.t true, .y ((eI .i64) v_y1485), .c, .y ((eI .i64) v_y1486), .c, .t true]) (ts := []) (s := []) (l := [4]) (by kernel_rfl) (by kernel_rfl) (.cons (dt h1160) (.cons (getI_ob (f := (eI .i64)) h1164) (.cons (getI_ob (f := (eI .i64)) h1165) (.cons (nt h1166) .nil)))) q
    · rw [if_neg h1160] at h
      cases h
      exact pkk_sound TTok mix hF 8 (hs := [.t false]) (ts := []) (s := []) (l := []) (by kernel_rfl) (by kernel_rfl) (.cons (df h1160) .nil) q
/- slices.Equal[[]int,int] -/
def G_slices_Equal_int_int (n : Nat) (v_s1476 : (List Int)) (v_s1477 : (List Int)) : Option (Bool) :=
  if (v_s1476.length : Int) = (v_s1477.length : Int) then
   (G_slices_Equal_int_int_L1 n v_s1476 v_s1477 n 0).bind fun v_o1488 => match v_o1488 with
   | .x0 v_z1489 =>
     some v_z1489
   | .x1  =>
     some true
  else
   some false
theorem G_slices_Equal_int_int_ok (n : Nat) (v_s1476 : (List Int)) (v_s1477 : (List Int)) (r : Bool) (h : G_slices_Equal_int_int n v_s1476 v_s1477 = some r) : Ret Try.prog 31 [(eL (eI .i64)) v_s1476, (eL (eI .i64)) v_s1477] (eB r) := by
  refine ret_run (n := 26) (fn := Try.f31) (c := bodyOf Try.f31) (by kernel_rfl) (by kernel_rfl) (by kernel_rfl) (by kernel_rfl) ?_
  have hF : KC 26 (FinR Try.prog Try.f31 (eB r)) := FinR.kc' (by kernel_rfl)
  unfold G_slices_Equal_int_int at h
  by_cases h1159 : (v_s1476.length : Int) = (v_s1477.length : Int)
  · rw [if_pos h1159] at h
    obtain ⟨v_o1488, h1167, h⟩ := bind_some h
    refine pkk_sound TTok mix hF 12 (hs := [.u (.d (.v (.int .i64 (v_s1476.length : Int)))), .u (.d (.v (.int .i64 (v_s1477.length : Int)))), .t false, .u (.d (.v (.int .i64 (v_s1476.length : Int)))), .n n]) (ts := []) (s := []) (l := [0, 1, 12, 13]) (by kernel_rfl) (by kernel_rfl) (.cons (len_ob (f := (eI .i64)) (l := v_s1476)) (.cons (len_ob (f := (eI .i64)) (l := v_s1477)) (.cons (nf h1159) (.cons (len_ob (f := (eI .i64)) (l := v_s1476)) .nil)))) (G_slices_Equal_int_int_L1_ok hF (.b 0 :: .s (cR (cR (cR (bodyOf Try.f31)))) :: []) n v_s1476 v_s1477 n 0 _ h1167 ?_)
    cases v_o1488 with
    | x0 v_z1489 =>
      try dsimp only at h
      obtain rfl := Option.some.inj h
      exact pend_sound TTok mix 2 (hs := []) (by kernel_rfl) (by kernel_rfl) (by kernel_rfl) .nil
    | x1  =>
      try dsimp only at h
      obtain rfl := Option.some.inj h
      exact pend_sound TTok mix 4 (hs := []) (by kernel_rfl) (by kernel_rfl) (by kernel_rfl) .nil
  · rw [if_neg h1159] at h
    obtain rfl := Option.some.inj h
    exact pend_sound TTok mix 10 (hs := [.u (.d (.v (.int .i64 (v_s1476.length : Int)))), .u (.d (.v (.int .i64 (v_s1477.length : Int)))), .t true]) (by kernel_rfl) (by kernel_rfl) (by kernel_rfl) (.cons (len_ob (f := (eI .i64)) (l := v_s1476)) (.cons (len_ob (f := (eI .i64)) (l := v_s1477)) (.cons (nt h1159) .nil)))
inductive G_ringlaw5_forked_h_C1_R where
  | x0 (v_x1191 : Bool) (v_w1192 : (List S_ringref5_Thing))
def G_ringlaw5_forked_h_C1_ex : G_ringlaw5_forked_h_C1_R → Ex
  | .x0 _ _ => .normal
def G_ringlaw5_forked_h_C1_st (v_t1182 : S_open_Table) (v_r1183 : S_ringref5_Open) (v_a1184 : S_ringlaw5_Act) : G_ringlaw5_forked_h_C1_R → PS
  | .x0 v_x1191 v_w1192 => ⟨(.ref 3 0 :: .ref 4 0 :: dd :: dd :: dd :: .ref 6 0 :: dd :: dd :: .d (.v (.int .i64 0)) :: (dds 26 (.d (.v (.bool v_x1191)) :: (dds 117 [])))), [.gh 0 (.ref 3 0), .gh 1 (.ref 4 0), .gh 2 (.srf 5), .box ((cS_open_Table v_t1182).map FV.d), .box ([.srf 5] ++ ((cA_t36 v_r1183.fFds).map FV.d)), .row 39 5 (v_w1192.map eS_ringref5_Thing), .box ((cS_ringlaw5_Act v_a1184).map FV.d)]⟩
def G_ringlaw5_forked_h_C1_hd (v_t1182 : S_open_Table) (v_r1183 : S_ringref5_Open) (v_a1184 : S_ringlaw5_Act)  : PS := ⟨(.ref 3 0 :: .ref 4 0 :: dd :: dd :: dd :: .ref 6 0 :: dd :: .d (.clo 26 []) :: .d (.v (.int .i64 0)) :: (dds 144 [])), [.gh 0 (.ref 3 0), .gh 1 (.ref 4 0), .gh 2 (.srf 5), .box ((cS_open_Table v_t1182).map FV.d), .box ([.srf 5] ++ ((cA_t36 v_r1183.fFds).map FV.d)), .row 39 5 (v_r1183.fThings.map eS_ringref5_Thing), .box ((cS_ringlaw5_Act v_a1184).map FV.d)]⟩
def G_ringlaw5_forked_h_C1 (n : Nat) (v_t1182 : S_open_Table) (v_r1183 : S_ringref5_Open) (v_a1184 : S_ringlaw5_Act) : Option G_ringlaw5_forked_h_C1_R :=
  (G_ringlaw5_forked_1 n v_a1184.fP).bind fun (v_r1190 : (Bool)) =>
  if v_r1190 = true then
   (G_ringlaw5_forked_1 n v_a1184.fTo).bind fun (v_r1193 : (Bool)) =>
   some (.x0 (!v_r1193) v_r1183.fThings)
  else
   some (.x0 true v_r1183.fThings)
theorem G_ringlaw5_forked_h_C1_ok {Fi : Ex → PS → Prop} (hF : KC 153 Fi) (ks : List Fr) (n : Nat) (v_t1182 : S_open_Table) (v_r1183 : S_ringref5_Open) (v_a1184 : S_ringlaw5_Act)  (o : G_ringlaw5_forked_h_C1_R) (h : G_ringlaw5_forked_h_C1 n v_t1182 v_r1183 v_a1184 = some o) (q : RunE Try.prog 153 Fi ks (G_ringlaw5_forked_h_C1_ex o) (G_ringlaw5_forked_h_C1_st v_t1182 v_r1183 v_a1184 o)) : RunE Try.prog 153 Fi (.s (cL (cL (cR (cT (cR (cB (cR (cL (cR (cR (bodyOf Try.f20))))))))))) :: ks) .normal (G_ringlaw5_forked_h_C1_hd v_t1182 v_r1183 v_a1184) := by
  unfold G_ringlaw5_forked_h_C1 at h
  obtain ⟨v_r1190, h924, h⟩ := bind_some h
  by_cases h925 : v_r1190 = true
  · rw [if_pos h925] at h
    obtain ⟨v_r1193, h926, h⟩ := bind_some h
    cases h
    exact pkk_sound TTok mix hF 1 (hs := [.c, .r (eB v_r1190), .t false, .c, .c, .c, .c, .r (eB v_r1193), .c]) (ts := []) (s := [0, 1, 2, 3, 4, 5, 6]) (l := [0, 1, 5, 8, 35]) (by kernel_rfl) (by kernel_rfl) (.cons (G_ringlaw5_forked_1_ok n v_a1184.fP _ h924) (.cons (bnf h925) (.cons (G_ringlaw5_forked_1_ok n v_a1184.fTo _ h926) .nil))) q
  · rw [if_neg h925] at h
    cases h
    exact pkk_sound TTok mix hF 1 (hs := [.c, .r (eB v_r1190), .t true, .c, .c, .c, .c]) (ts := []) (s := [0, 1, 2, 3, 4, 5, 6]) (l := [0, 1, 5, 8, 35]) (by kernel_rfl) (by kernel_rfl) (.cons (G_ringlaw5_forked_1_ok n v_a1184.fP _ h924) (.cons (bnt (vf h925)) .nil)) q
inductive G_ringlaw5_forked_h_C2_R where
  | x0 (v_want1203 : Int) (v_w1204 : (List S_ringref5_Thing))
  | x1 (v_want1210 : Int) (v_b1211 : (Fin 17 → (Fin 8 → Int))) (v_w1212 : (List S_ringref5_Thing))
def G_ringlaw5_forked_h_C2_ex : G_ringlaw5_forked_h_C2_R → Ex
  | .x0 _ _ => .normal
  | .x1 _ _ _ => .normal
def G_ringlaw5_forked_h_C2_st (v_z1197 : Bool) (v_t1182 : S_open_Table) (v_r1183 : S_ringref5_Open) (v_z1198 : (List S_ringref5_Thing)) (v_a1184 : S_ringlaw5_Act) : G_ringlaw5_forked_h_C2_R → PS
  | .x0 v_want1203 v_w1204 => ⟨(.ref 3 0 :: dd :: dd :: dd :: dd :: .ref 6 0 :: dd :: dd :: .d (.v (.int .i64 v_want1203)) :: (dds 144 [])), [.gh 0 (.ref 3 0), .gh 1 (.ref 4 0), .gh 2 (.srf 5), .box ((cS_open_Table v_t1182).map FV.d), .box ([.srf 5] ++ ((cA_t36 v_r1183.fFds).map FV.d)), .row 39 5 (v_w1204.map eS_ringref5_Thing), .box ((cS_ringlaw5_Act v_a1184).map FV.d)]⟩
  | .x1 v_want1210 v_b1211 v_w1212 => ⟨(.ref 3 0 :: dd :: dd :: dd :: dd :: .ref 6 0 :: dd :: dd :: .d (.v (.int .i64 v_want1210)) :: (dds 144 [])), [.gh 0 (.ref 3 0), .gh 1 (.ref 4 0), .gh 2 (.srf 5), .box ((cS_open_Table v_t1182).map FV.d), .box ([.srf 5] ++ ((cA_t36 v_b1211).map FV.d)), .row 39 5 (v_w1212.map eS_ringref5_Thing), .box ((cS_ringlaw5_Act v_a1184).map FV.d)]⟩
def G_ringlaw5_forked_h_C2_hd (v_z1197 : Bool) (v_t1182 : S_open_Table) (v_r1183 : S_ringref5_Open) (v_z1198 : (List S_ringref5_Thing)) (v_a1184 : S_ringlaw5_Act)  : PS := ⟨(.ref 3 0 :: .ref 4 0 :: dd :: dd :: dd :: .ref 6 0 :: dd :: dd :: .d (.v (.int .i64 0)) :: (dds 26 (.d (.v (.bool v_z1197)) :: (dds 117 [])))), [.gh 0 (.ref 3 0), .gh 1 (.ref 4 0), .gh 2 (.srf 5), .box ((cS_open_Table v_t1182).map FV.d), .box ([.srf 5] ++ ((cA_t36 v_r1183.fFds).map FV.d)), .row 39 5 (v_z1198.map eS_ringref5_Thing), .box ((cS_ringlaw5_Act v_a1184).map FV.d)]⟩
def G_ringlaw5_forked_h_C2 (n : Nat) (v_z1197 : Bool) (v_t1182 : S_open_Table) (v_r1183 : S_ringref5_Open) (v_z1198 : (List S_ringref5_Thing)) (v_a1184 : S_ringlaw5_Act) : Option G_ringlaw5_forked_h_C2_R :=
  if v_z1197 = true then
   some (.x0 1 v_z1198)
  else
   if 0 ≤ v_a1184.fTo ∧ v_a1184.fTo < (17 : Int) then
    (getA v_r1183.fFds v_a1184.fTo).bind fun (v_y1205 : (Fin 8 → Int)) =>
    if (eqRes .neq (eqA_8_int v_y1205 (fun (_ : Fin 8) => 0))) = true then
     some (.x0 8 v_z1198)
    else
     if 0 ≤ v_a1184.fP ∧ v_a1184.fP < (17 : Int) then
      (getA v_r1183.fFds v_a1184.fP).bind fun (v_y1208 : (Fin 8 → Int)) =>
      if 0 ≤ v_a1184.fTo ∧ v_a1184.fTo < (17 : Int) then
       (getA v_r1183.fFds v_a1184.fTo).bind fun (v_y1209 : (Fin 8 → Int)) =>
       some (.x1 0 (setA v_r1183.fFds v_a1184.fTo v_y1208) v_z1198)
      else none
     else none
   else none
theorem G_ringlaw5_forked_h_C2_ok {Fi : Ex → PS → Prop} (hF : KC 153 Fi) (ks : List Fr) (n : Nat) (v_z1197 : Bool) (v_t1182 : S_open_Table) (v_r1183 : S_ringref5_Open) (v_z1198 : (List S_ringref5_Thing)) (v_a1184 : S_ringlaw5_Act)  (o : G_ringlaw5_forked_h_C2_R) (h : G_ringlaw5_forked_h_C2 n v_z1197 v_t1182 v_r1183 v_z1198 v_a1184 = some o) (q : RunE Try.prog 153 Fi ks (G_ringlaw5_forked_h_C2_ex o) (G_ringlaw5_forked_h_C2_st v_z1197 v_t1182 v_r1183 v_z1198 v_a1184 o)) : RunE Try.prog 153 Fi (.s (cR (cL (cR (cT (cR (cB (cR (cL (cR (cR (bodyOf Try.f20))))))))))) :: ks) .normal (G_ringlaw5_forked_h_C2_hd v_z1197 v_t1182 v_r1183 v_z1198 v_a1184) := by
  unfold G_ringlaw5_forked_h_C2 at h
  by_cases h936 : v_z1197 = true
  · rw [if_pos h936] at h
    cases h
    exact pkk_sound TTok mix hF 2 (hs := [.t true]) (ts := []) (s := [0, 1, 2, 3, 4, 5, 6]) (l := [0, 5, 8]) (by kernel_rfl) (by kernel_rfl) (.cons h936 .nil) q
  · rw [if_neg h936] at h
    by_cases h937 : 0 ≤ v_a1184.fTo ∧ v_a1184.fTo < (17 : Int)
    · rw [if_pos h937] at h
      obtain ⟨v_y1205, h938, h⟩ := bind_some h
      by_cases h939 : (eqRes .neq (eqA_8_int v_y1205 (fun (_ : Fin 8) => 0))) = true
      · rw [if_pos h939] at h
        cases h
        exact pkk_sound TTok mix hF 5 (hs := [.t false, .c, .l (.d (.agg [.v (.int .i64 (v_y1205 0)), .v (.int .i64 (v_y1205 1)), .v (.int .i64 (v_y1205 2)), .v (.int .i64 (v_y1205 3)), .v (.int .i64 (v_y1205 4)), .v (.int .i64 (v_y1205 5)), .v (.int .i64 (v_y1205 6)), .v (.int .i64 (v_y1205 7))])), .q (eqA_8_int v_y1205 (fun (_ : Fin 8) => 0)), .t true]) (ts := []) (s := [0, 1, 2, 3, 4, 5, 6]) (l := [0, 5, 8]) (by kernel_rfl) (by kernel_rfl) (.cons (vf h936) (.cons h937 (.cons (And.intro (congrArg mkAgg (arr_take (γ := FV) (sz := 8) (g := (fun x => [.d (.v (.int .i64 (x 0))), .d (.v (.int .i64 (x 1))), .d (.v (.int .i64 (x 2))), .d (.v (.int .i64 (x 3))), .d (.v (.int .i64 (x 4))), .d (.v (.int .i64 (x 5))), .d (.v (.int .i64 (x 6))), .d (.v (.int .i64 (x 7)))])) (pre := [.srf 5]) (post := []) (fun _ => rfl) h938).1) (arr_take (γ := FV) (sz := 8) (g := (fun x => [.d (.v (.int .i64 (x 0))), .d (.v (.int .i64 (x 1))), .d (.v (.int .i64 (x 2))), .d (.v (.int .i64 (x 3))), .d (.v (.int .i64 (x 4))), .d (.v (.int .i64 (x 5))), .d (.v (.int .i64 (x 6))), .d (.v (.int .i64 (x 7)))])) (pre := [.srf 5]) (post := []) (fun _ => rfl) h938).2) (.cons (eqA_8_int_ok v_y1205 (fun (_ : Fin 8) => 0)) (.cons h939 .nil))))) q
      · rw [if_neg h939] at h
        by_cases h940 : 0 ≤ v_a1184.fP ∧ v_a1184.fP < (17 : Int)
        · rw [if_pos h940] at h
          obtain ⟨v_y1208, h941, h⟩ := bind_some h
          by_cases h942 : 0 ≤ v_a1184.fTo ∧ v_a1184.fTo < (17 : Int)
          · rw [if_pos h942] at h
            obtain ⟨v_y1209, h943, h⟩ := bind_some h
            cases h
            exact pkk_sound TTok mix hF 5 (hs := [.t false, .c, .l (.d (.agg [.v (.int .i64 (v_y1205 0)), .v (.int .i64 (v_y1205 1)), .v (.int .i64 (v_y1205 2)), .v (.int .i64 (v_y1205 3)), .v (.int .i64 (v_y1205 4)), .v (.int .i64 (v_y1205 5)), .v (.int .i64 (v_y1205 6)), .v (.int .i64 (v_y1205 7))])), .q (eqA_8_int v_y1205 (fun (_ : Fin 8) => 0)), .t false, .c, .c, .l (.d (.agg [.v (.int .i64 (v_y1208 0)), .v (.int .i64 (v_y1208 1)), .v (.int .i64 (v_y1208 2)), .v (.int .i64 (v_y1208 3)), .v (.int .i64 (v_y1208 4)), .v (.int .i64 (v_y1208 5)), .v (.int .i64 (v_y1208 6)), .v (.int .i64 (v_y1208 7))])), .x ([.srf 5] ++ ((cA_t36 (setA v_r1183.fFds v_a1184.fTo v_y1208)).map FV.d)), .c]) (ts := []) (s := [0, 1, 2, 3, 4, 5, 6]) (l := [0, 5, 8]) (by kernel_rfl) (by kernel_rfl) (.cons (vf h936) (.cons h937 (.cons (And.intro (congrArg mkAgg (arr_take (γ := FV) (sz := 8) (g := (fun x => [.d (.v (.int .i64 (x 0))), .d (.v (.int .i64 (x 1))), .d (.v (.int .i64 (x 2))), .d (.v (.int .i64 (x 3))), .d (.v (.int .i64 (x 4))), .d (.v (.int .i64 (x 5))), .d (.v (.int .i64 (x 6))), .d (.v (.int .i64 (x 7)))])) (pre := [.srf 5]) (post := []) (fun _ => rfl) h938).1) (arr_take (γ := FV) (sz := 8) (g := (fun x => [.d (.v (.int .i64 (x 0))), .d (.v (.int .i64 (x 1))), .d (.v (.int .i64 (x 2))), .d (.v (.int .i64 (x 3))), .d (.v (.int .i64 (x 4))), .d (.v (.int .i64 (x 5))), .d (.v (.int .i64 (x 6))), .d (.v (.int .i64 (x 7)))])) (pre := [.srf 5]) (post := []) (fun _ => rfl) h938).2) (.cons (eqA_8_int_ok v_y1205 (fun (_ : Fin 8) => 0)) (.cons (vf h939) (.cons h940 (.cons (And.intro (congrArg mkAgg (arr_take (γ := FV) (sz := 8) (g := (fun x => [.d (.v (.int .i64 (x 0))), .d (.v (.int .i64 (x 1))), .d (.v (.int .i64 (x 2))), .d (.v (.int .i64 (x 3))), .d (.v (.int .i64 (x 4))), .d (.v (.int .i64 (x 5))), .d (.v (.int .i64 (x 6))), .d (.v (.int .i64 (x 7)))])) (pre := [.srf 5]) (post := []) (fun _ => rfl) h941).1) (arr_take (γ := FV) (sz := 8) (g := (fun x => [.d (.v (.int .i64 (x 0))), .d (.v (.int .i64 (x 1))), .d (.v (.int .i64 (x 2))), .d (.v (.int .i64 (x 3))), .d (.v (.int .i64 (x 4))), .d (.v (.int .i64 (x 5))), .d (.v (.int .i64 (x 6))), .d (.v (.int .i64 (x 7)))])) (pre := [.srf 5]) (post := []) (fun _ => rfl) h941).2) (.cons h942 (.cons (arr_store (γ := FV) (sz := 8) (g := (fun x => [.d (.v (.int .i64 (x 0))), .d (.v (.int .i64 (x 1))), .d (.v (.int .i64 (x 2))), .d (.v (.int .i64 (x 3))), .d (.v (.int .i64 (x 4))), .d (.v (.int .i64 (x 5))), .d (.v (.int .i64 (x 6))), .d (.v (.int .i64 (x 7)))])) (pre := [.srf 5]) (post := []) (o := 0) (y := v_y1208) (zs := [.d (.v (.int .i64 (v_y1208 0))), .d (.v (.int .i64 (v_y1208 1))), .d (.v (.int .i64 (v_y1208 2))), .d (.v (.int .i64 (v_y1208 3))), .d (.v (.int .i64 (v_y1208 4))), .d (.v (.int .i64 (v_y1208 5))), .d (.v (.int .i64 (v_y1208 6))), .d (.v (.int .i64 (v_y1208 7)))]) (fun _ => rfl) h943 rfl (Nat.le_of_ble_eq_true rfl)).1 (.cons (arr_store (γ := FV) (sz := 8) (g := (fun x => [.d (.v (.int .i64 (x 0))), .d (.v (.int .i64 (x 1))), .d (.v (.int .i64 (x 2))), .d (.v (.int .i64 (x 3))), .d (.v (.int .i64 (x 4))), .d (.v (.int .i64 (x 5))), .d (.v (.int .i64 (x 6))), .d (.v (.int .i64 (x 7)))])) (pre := [.srf 5]) (post := []) (o := 0) (y := v_y1208) (zs := [.d (.v (.int .i64 (v_y1208 0))), .d (.v (.int .i64 (v_y1208 1))), .d (.v (.int .i64 (v_y1208 2))), .d (.v (.int .i64 (v_y1208 3))), .d (.v (.int .i64 (v_y1208 4))), .d (.v (.int .i64 (v_y1208 5))), .d (.v (.int .i64 (v_y1208 6))), .d (.v (.int .i64 (v_y1208 7)))]) (fun _ => rfl) h943 rfl (Nat.le_of_ble_eq_true rfl)).2 .nil)))))))))) q
          · rw [if_neg h942] at h; cases h
        · rw [if_neg h940] at h; cases h
    · rw [if_neg h937] at h; cases h
inductive G_ringlaw5_forked_h_L3_R where
  | x0 (v_w1422 : (List S_ringref5_Thing)) (v_w1423 : (List S_open_Thing))
def G_ringlaw5_forked_h_L3_ex : G_ringlaw5_forked_h_L3_R → Ex
  | .x0 _ _ => .exit 1
def G_ringlaw5_forked_h_L3_st (v_r1265 : ((List S_open_Thing) × Int × S_open_Table)) (v_r1411 : ((List S_ringref5_Thing) × S_ringref5_Open)) : G_ringlaw5_forked_h_L3_R → PS
  | .x0 v_w1422 v_w1423 => ⟨(dds 9 (.d (.sl (v_r1265.1.map eS_open_Thing)) :: .d (.v (.int .i64 v_r1265.2.1)) :: .srf 7 :: (dds 141 []))), [.gh 0 (.ref 3 0), .gh 1 (.ref 4 0), .gh 2 (.srf 6), .box ((cS_open_Table v_r1265.2.2).map FV.d), .box ([.srf 5] ++ ((cA_t36 v_r1411.2.fFds).map FV.d)), .row 39 5 (v_w1422.map eS_ringref5_Thing), .none, .row 29 5 (v_w1423.map eS_open_Thing)]⟩
def G_ringlaw5_forked_h_L3_hd (v_r1265 : ((List S_open_Thing) × Int × S_open_Table)) (v_r1411 : ((List S_ringref5_Thing) × S_ringref5_Open)) (v_x1412 : Int) (v_w1413 : (List S_ringref5_Thing)) (v_w1414 : (List S_open_Thing)) : PS := ⟨(dds 9 (.d (.sl (v_r1265.1.map eS_open_Thing)) :: .d (.v (.int .i64 v_r1265.2.1)) :: .srf 7 :: (dds 78 (.d (.sl (v_r1411.1.map eS_ringref5_Thing)) :: .d (.v (.int .i64 (v_r1411.1.length : Int))) :: .d (.v (.int .i64 v_x1412)) :: (dds 60 []))))), [.gh 0 (.ref 3 0), .gh 1 (.ref 4 0), .gh 2 (.srf 6), .box ((cS_open_Table v_r1265.2.2).map FV.d), .box ([.srf 5] ++ ((cA_t36 v_r1411.2.fFds).map FV.d)), .row 39 5 (v_w1413.map eS_ringref5_Thing), .none, .row 29 5 (v_w1414.map eS_open_Thing)]⟩
def G_ringlaw5_forked_h_L3 (n : Nat) (v_r1265 : ((List S_open_Thing) × Int × S_open_Table)) (v_r1411 : ((List S_ringref5_Thing) × S_ringref5_Open)) : Nat → Int → (List S_ringref5_Thing) → (List S_open_Thing) → Option G_ringlaw5_forked_h_L3_R
  | 0, _, _, _ => none
  | k + 1, v_x1412, v_w1413, v_w1414 =>
    if v_x1412 < (v_r1411.1.length : Int) then
     (getI v_r1411.1 v_x1412).bind fun (v_y1419 : S_ringref5_Thing) =>
     (G_ringlaw5_thing n v_y1419).bind fun (v_r1420 : (S_open_Thing)) =>
     (app 40 v_w1414 ([v_r1420])).bind fun (v_a1421 : (List S_open_Thing)) =>
     G_ringlaw5_forked_h_L3 n v_r1265 v_r1411 k (wi .i64 (v_x1412 + 1)) v_w1413 v_a1421
    else
     some (.x0 v_w1413 v_w1414)
theorem G_ringlaw5_forked_h_L3_ok {Fi : Ex → PS → Prop} (hF : KC 153 Fi) (ks : List Fr) (n : Nat) (v_r1265 : ((List S_open_Thing) × Int × S_open_Table)) (v_r1411 : ((List S_ringref5_Thing) × S_ringref5_Open))  : ∀ (k : Nat) (v_x1412 : Int) (v_w1413 : (List S_ringref5_Thing)) (v_w1414 : (List S_open_Thing)) (o : G_ringlaw5_forked_h_L3_R), G_ringlaw5_forked_h_L3 n v_r1265 v_r1411 k v_x1412 v_w1413 v_w1414 = some o → RunE Try.prog 153 Fi ks (G_ringlaw5_forked_h_L3_ex o) (G_ringlaw5_forked_h_L3_st v_r1265 v_r1411 o) → RunE Try.prog 153 Fi (.l k (cP (cB (cR (cL (cR (cR (cR (cT (cR (cF (cR (cB (cR (cL (cR (cR (bodyOf Try.f20))))))))))))))))) :: ks) .normal (G_ringlaw5_forked_h_L3_hd v_r1265 v_r1411 v_x1412 v_w1413 v_w1414)
  | 0, v_x1412, v_w1413, v_w1414, o, h, q => by rw [G_ringlaw5_forked_h_L3] at h; cases h
  | k + 1, v_x1412, v_w1413, v_w1414, o, h, q => by
    rw [G_ringlaw5_forked_h_L3] at h
    by_cases h1103 : v_x1412 < (v_r1411.1.length : Int)
    · rw [if_pos h1103] at h
      obtain ⟨v_y1419, h1107, h⟩ := bind_some h
      obtain ⟨v_r1420, h1108, h⟩ := bind_some h
      obtain ⟨v_a1421, h1109, h⟩ := bind_some h
      exact pkk_sound TTok mix hF 13 (hs := [.t true, .y (eS_ringref5_Thing v_y1419), .c, .c, .r (eS_open_Thing v_r1420), .bd, .w (v_a1421.map eS_open_Thing)]) (ts := []) (s := [0, 1, 2, 3, 4, 5, 6, 53]) (l := [9, 10, 11, 90, 91, 92]) (by kernel_rfl) (by kernel_rfl) (.cons (dt h1103) (.cons (getI_ob (f := eS_ringref5_Thing) h1107) (.cons (show 0 + 5 ≤ 5 by decide) (.cons (G_ringlaw5_thing_ok n v_y1419 _ h1108) (.cons (app_ob (f := eS_open_Thing) (s := 5) h1109 (fun _ => rfl)).1 (.cons (app_ob (f := eS_open_Thing) (s := 5) h1109 (fun _ => rfl)).2.1 (.cons (app_ob (f := eS_open_Thing) (s := 5) h1109 (fun _ => rfl)).2.2.1 (.cons (app_ob (f := eS_open_Thing) (s := 5) h1109 (fun _ => rfl)).2.2.2 .nil)))))))) (G_ringlaw5_forked_h_L3_ok hF ks n v_r1265 v_r1411 k (wi .i64 (v_x1412 + 1)) v_w1413 v_a1421 _ h q)
    · rw [if_neg h1103] at h
      cases h
      exact pkk_sound TTok mix hF 8 (hs := [.t false]) (ts := []) (s := [0, 1, 2, 3, 4, 5, 6, 7]) (l := [9, 10, 11]) (by kernel_rfl) (by kernel_rfl) (.cons (df h1103) .nil) q
inductive G_ringlaw5_forked_h_L4_R where
  | x0 (v_w1471 : (List S_ringref5_Thing)) (v_w1472 : (List Int))
def G_ringlaw5_forked_h_L4_ex : G_ringlaw5_forked_h_L4_R → Ex
  | .x0 _ _ => .exit 3
def G_ringlaw5_forked_h_L4_st (v_r1458 : ((List Int) × Int × S_open_Table)) (v_y1460 : (Fin 8 → Int)) (v_r1183 : S_ringref5_Open) : G_ringlaw5_forked_h_L4_R → PS
  | .x0 v_w1471 v_w1472 => ⟨(dds 14 (.d (.sl (v_r1458.1.map (eI .i64))) :: .d (.v (.int .i64 v_r1458.2.1)) :: .srf 6 :: (dds 136 []))), [.gh 0 (.ref 3 0), .gh 1 (.ref 4 0), .gh 2 (.srf 5), .box ((cS_open_Table v_r1458.2.2).map FV.d), .box ([.srf 5] ++ ((cA_t36 v_r1183.fFds).map FV.d)), .row 39 5 (v_w1471.map eS_ringref5_Thing), .row 3 1 (v_w1472.map (eI .i64))]⟩
def G_ringlaw5_forked_h_L4_hd (v_r1458 : ((List Int) × Int × S_open_Table)) (v_y1460 : (Fin 8 → Int)) (v_r1183 : S_ringref5_Open) (v_x1461 : Int) (v_w1462 : (List S_ringref5_Thing)) (v_w1463 : (List Int)) : PS := ⟨(dds 14 (.d (.sl (v_r1458.1.map (eI .i64))) :: .d (.v (.int .i64 v_r1458.2.1)) :: .srf 6 :: (dds 117 (.d (.agg [.v (.int .i64 (v_y1460 0)), .v (.int .i64 (v_y1460 1)), .v (.int .i64 (v_y1460 2)), .v (.int .i64 (v_y1460 3)), .v (.int .i64 (v_y1460 4)), .v (.int .i64 (v_y1460 5)), .v (.int .i64 (v_y1460 6)), .v (.int .i64 (v_y1460 7))]) :: .d (.v (.int .i64 v_x1461)) :: (dds 17 []))))), [.gh 0 (.ref 3 0), .gh 1 (.ref 4 0), .gh 2 (.srf 5), .box ((cS_open_Table v_r1458.2.2).map FV.d), .box ([.srf 5] ++ ((cA_t36 v_r1183.fFds).map FV.d)), .row 39 5 (v_w1462.map eS_ringref5_Thing), .row 3 1 (v_w1463.map (eI .i64))]⟩
def G_ringlaw5_forked_h_L4 (n : Nat) (v_r1458 : ((List Int) × Int × S_open_Table)) (v_y1460 : (Fin 8 → Int)) (v_r1183 : S_ringref5_Open) : Nat → Int → (List S_ringref5_Thing) → (List Int) → Option G_ringlaw5_forked_h_L4_R
  | 0, _, _, _ => none
  | k + 1, v_x1461, v_w1462, v_w1463 =>
    if v_x1461 < 8 then
     (getA v_y1460 v_x1461).bind fun (v_y1468 : Int) =>
     if v_y1468 > 0 then
      (app 8 v_w1463 ([v_x1461])).bind fun (v_a1470 : (List Int)) =>
      G_ringlaw5_forked_h_L4 n v_r1458 v_y1460 v_r1183 k (wi .i64 (v_x1461 + 1)) v_w1462 v_a1470
     else
      G_ringlaw5_forked_h_L4 n v_r1458 v_y1460 v_r1183 k (wi .i64 (v_x1461 + 1)) v_w1462 v_w1463
    else
     some (.x0 v_w1462 v_w1463)
theorem G_ringlaw5_forked_h_L4_ok {Fi : Ex → PS → Prop} (hF : KC 153 Fi) (ks : List Fr) (n : Nat) (v_r1458 : ((List Int) × Int × S_open_Table)) (v_y1460 : (Fin 8 → Int)) (v_r1183 : S_ringref5_Open)  : ∀ (k : Nat) (v_x1461 : Int) (v_w1462 : (List S_ringref5_Thing)) (v_w1463 : (List Int)) (o : G_ringlaw5_forked_h_L4_R), G_ringlaw5_forked_h_L4 n v_r1458 v_y1460 v_r1183 k v_x1461 v_w1462 v_w1463 = some o → RunE Try.prog 153 Fi ks (G_ringlaw5_forked_h_L4_ex o) (G_ringlaw5_forked_h_L4_st v_r1458 v_y1460 v_r1183 o) → RunE Try.prog 153 Fi (.l k (cP (cB (cR (cL (cR (cR (cR (cR (cR (cR (bodyOf Try.f20))))))))))) :: ks) .normal (G_ringlaw5_forked_h_L4_hd v_r1458 v_y1460 v_r1183 v_x1461 v_w1462 v_w1463)
  | 0, v_x1461, v_w1462, v_w1463, o, h, q => by rw [G_ringlaw5_forked_h_L4] at h; cases h
  | k + 1, v_x1461, v_w1462, v_w1463, o, h, q => by
    rw [G_ringlaw5_forked_h_L4] at h
    by_cases h1146 : v_x1461 < 8
    · rw [if_pos h1146] at h
      obtain ⟨v_y1468, h1152, h⟩ := bind_some h
      by_cases h1155 : v_y1468 > 0
      · rw [if_pos h1155] at h
        obtain ⟨v_a1470, h1156, h⟩ := bind_some h
        exact pkk_sound TTok mix hF 16 (hs := [.t true, .l (.d (.v (.int .i64 v_y1468))), .t true, .bd, .w (v_a1470.map (eI .i64))]) (ts := []) (s := [0, 1, 2, 3, 4, 5, 57]) (l := [14, 15, 16, 134, 135]) (by kernel_rfl) (by kernel_rfl) (.cons (dt h1146) (.cons (getA_ob0 (fun x => FV.d ((eI .i64) x)) h1152) (.cons (dt h1155) (.cons (app_ob (f := (eI .i64)) (s := 1) h1156 (fun _ => rfl)).1 (.cons (app_ob (f := (eI .i64)) (s := 1) h1156 (fun _ => rfl)).2.1 (.cons (app_ob (f := (eI .i64)) (s := 1) h1156 (fun _ => rfl)).2.2.1 (.cons (app_ob (f := (eI .i64)) (s := 1) h1156 (fun _ => rfl)).2.2.2 .nil))))))) (G_ringlaw5_forked_h_L4_ok hF ks n v_r1458 v_y1460 v_r1183 k (wi .i64 (v_x1461 + 1)) v_w1462 v_a1470 _ h q)
      · rw [if_neg h1155] at h
        exact pkk_sound TTok mix hF 16 (hs := [.t true, .l (.d (.v (.int .i64 v_y1468))), .t false]) (ts := []) (s := [0, 1, 2, 3, 4, 5, 6]) (l := [14, 15, 16, 134, 135]) (by kernel_rfl) (by kernel_rfl) (.cons (dt h1146) (.cons (getA_ob0 (fun x => FV.d ((eI .i64) x)) h1152) (.cons (df h1155) .nil))) (G_ringlaw5_forked_h_L4_ok hF ks n v_r1458 v_y1460 v_r1183 k (wi .i64 (v_x1461 + 1)) v_w1462 v_w1463 _ h q)
    · rw [if_neg h1146] at h
      cases h
      exact pkk_sound TTok mix hF 8 (hs := [.t false]) (ts := []) (s := [0, 1, 2, 3, 4, 5, 6]) (l := [14, 15, 16]) (by kernel_rfl) (by kernel_rfl) (.cons (df h1146) .nil) q
/- ringhall/ringlaw5.forked -/
def G_ringlaw5_forked_h (n : Nat) (v_t1182 : S_open_Table) (v_r1183 : S_ringref5_Open) (v_a1184 : S_ringlaw5_Act) : Option (Bool × S_open_Table × S_ringref5_Open) :=
  (G_ringref5_Rest n v_a1184.fKind 8).bind fun (v_r1185 : (Int)) =>
  if v_r1185 = 5 then
   (G_ringlaw5_forked_h_C1 n v_t1182 v_r1183 v_a1184).bind fun v_o1196 => match v_o1196 with
   | .x0 v_z1197 v_z1198 =>
     (G_ringlaw5_forked_h_C2 n v_z1197 v_t1182 v_r1183 v_z1198 v_a1184).bind fun v_o1213 => match v_o1213 with
     | .x0 v_z1214 v_z1215 =>
       (G_open_Table_Fork_h n v_t1182 v_a1184.fP v_a1184.fTo).bind fun (v_r1260 : (Int × S_open_Table)) =>
       some ((v_r1260.1 == v_z1214), v_r1260.2, (S_ringref5_Open.mk v_z1215 v_r1183.fFds))
     | .x1 v_z1261 v_z1262 v_z1263 =>
       (G_open_Table_Fork_h n v_t1182 v_a1184.fP v_a1184.fTo).bind fun (v_r1264 : (Int × S_open_Table)) =>
       some ((v_r1264.1 == v_z1261), v_r1264.2, (S_ringref5_Open.mk v_z1263 v_z1262))
  else
   if v_r1185 = 6 then
    (G_open_Table_Drop_h n v_t1182 v_a1184.fP).bind fun (v_r1265 : ((List S_open_Thing) × Int × S_open_Table)) =>
    (G_ringlaw5_forked_1 n v_a1184.fP).bind fun (v_r1266 : (Bool)) =>
    if v_r1266 = true then
     (G_ringref5_Open_DropAll_h n v_r1183 v_a1184.fP).bind fun (v_r1411 : ((List S_ringref5_Thing) × S_ringref5_Open)) =>
     (G_ringlaw5_forked_h_L3 n v_r1265 v_r1411 n 0 v_r1411.2.fThings ([] : List S_open_Thing)).bind fun v_o1424 => match v_o1424 with
     | .x0 v_z1425 v_z1426 =>
       if v_r1265.2.1 = 0 then
        (G_slices_Equal_open_Thing_open_Thing n v_r1265.1 v_z1426).bind fun (v_r1441 : (Bool)) =>
        some (v_r1441, v_r1265.2.2, (S_ringref5_Open.mk v_z1425 v_r1411.2.fFds))
       else
        some (false, v_r1265.2.2, (S_ringref5_Open.mk v_z1425 v_r1411.2.fFds))
    else
     if v_r1265.2.1 = 1 then
      some (((v_r1265.1.length : Int) == 0), v_r1265.2.2, v_r1183)
     else
      some (false, v_r1265.2.2, v_r1183)
   else
    (G_open_Table_All_h n v_t1182 v_a1184.fP).bind fun (v_r1458 : ((List Int) × Int × S_open_Table)) =>
    (G_ringlaw5_forked_1 n v_a1184.fP).bind fun (v_r1459 : (Bool)) =>
    if v_r1459 = true then
     if 0 ≤ v_a1184.fP ∧ v_a1184.fP < (17 : Int) then
      (getA v_r1183.fFds v_a1184.fP).bind fun (v_y1460 : (Fin 8 → Int)) =>
      (G_ringlaw5_forked_h_L4 n v_r1458 v_y1460 v_r1183 n 0 v_r1183.fThings ([] : List Int)).bind fun v_o1473 => match v_o1473 with
      | .x0 v_z1474 v_z1475 =>
        if v_r1458.2.1 = 0 then
         (G_slices_Equal_int_int n v_r1458.1 v_z1475).bind fun (v_r1490 : (Bool)) =>
         some (v_r1490, v_r1458.2.2, (S_ringref5_Open.mk v_z1474 v_r1183.fFds))
        else
         some (false, v_r1458.2.2, (S_ringref5_Open.mk v_z1474 v_r1183.fFds))
     else none
    else
     if v_r1458.2.1 = 1 then
      some (((v_r1458.1.length : Int) == 0), v_r1458.2.2, v_r1183)
     else
      some (false, v_r1458.2.2, v_r1183)
theorem G_ringlaw5_forked_h_ok (n : Nat) (v_t1182 : S_open_Table) (v_r1183 : S_ringref5_Open) (v_a1184 : S_ringlaw5_Act) (r : Bool × S_open_Table × S_ringref5_Open) (h : G_ringlaw5_forked_h n v_t1182 v_r1183 v_a1184 = some r) : RetH Try.prog 20 [.ref 0 0, .ref 1 0, .d (eS_ringlaw5_Act v_a1184)] [.box ((cS_open_Table v_t1182).map FV.d), .box ([.srf 2] ++ ((cA_t36 v_r1183.fFds).map FV.d)), .row 39 5 (v_r1183.fThings.map eS_ringref5_Thing)] (.d (eB r.1)) [.box ((cS_open_Table r.2.1).map FV.d), .box ([.srf 3] ++ ((cA_t36 r.2.2.fFds).map FV.d)), .none, .row 39 5 (r.2.2.fThings.map eS_ringref5_Thing)] := by
  refine retH_run (n := 153) (fn := Try.f20) (c := bodyOf Try.f20) (by kernel_rfl) (by kernel_rfl) (by kernel_rfl) (by kernel_rfl) ?_
  have hF : KC 153 (FinH Try.prog Try.f20 [.box ((cS_open_Table v_t1182).map FV.d), .box ([.srf 2] ++ ((cA_t36 v_r1183.fFds).map FV.d)), .row 39 5 (v_r1183.fThings.map eS_ringref5_Thing)] (.d (eB r.1)) [.box ((cS_open_Table r.2.1).map FV.d), .box ([.srf 3] ++ ((cA_t36 r.2.2.fFds).map FV.d)), .none, .row 39 5 (r.2.2.fThings.map eS_ringref5_Thing)]) := FinH.kc' (by kernel_rfl)
  unfold G_ringlaw5_forked_h at h
  obtain ⟨v_r1185, h918, h⟩ := bind_some h
  by_cases h919 : v_r1185 = 5
  · rw [if_pos h919] at h
    obtain ⟨v_o1196, h927, h⟩ := bind_some h
    refine pkk_sound TTok mix hF 15 (hs := [.c, .r ((eI .i64) v_r1185), .t true]) (ts := []) (s := [3, 4, 5, 0, 1, 2, 6]) (l := [0, 1, 5, 7, 8]) (by kernel_rfl) (by kernel_rfl) (.cons (G_ringref5_Rest_ok n v_a1184.fKind 8 _ h918) (.cons (bt h919) .nil)) (G_ringlaw5_forked_h_C1_ok hF (.s (cR (cL (cR (cT (cR (cB (cR (cL (cR (cR (bodyOf Try.f20))))))))))) :: .s (cR (cR (cT (cR (cB (cR (cL (cR (cR (bodyOf Try.f20)))))))))) :: .b 0 :: .s (cR (cR (cR (bodyOf Try.f20)))) :: []) n v_t1182 v_r1183 v_a1184 _ h927 ?_)
    cases v_o1196 with
    | x0 v_z1197 v_z1198 =>
      try dsimp only at h
      obtain ⟨v_o1213, h944, h⟩ := bind_some h
      refine pkk_sound TTok mix hF 0 (hs := []) (ts := []) (s := [0, 1, 2, 3, 4, 5, 6]) (l := [0, 1, 5, 8, 35]) (by kernel_rfl) (by kernel_rfl) .nil (G_ringlaw5_forked_h_C2_ok hF (.s (cR (cR (cT (cR (cB (cR (cL (cR (cR (bodyOf Try.f20)))))))))) :: .b 0 :: .s (cR (cR (cR (bodyOf Try.f20)))) :: []) n v_z1197 v_t1182 v_r1183 v_z1198 v_a1184 _ h944 ?_)
      cases v_o1213 with
      | x0 v_z1214 v_z1215 =>
        try dsimp only at h
        obtain ⟨v_r1260, h1011, h⟩ := bind_some h
        obtain rfl := Option.some.inj h
        exact pendH_sound TTok mix 6 (hs := [.c, .c, .h [3] [] [.box ((cS_open_Table v_r1260.2).map FV.d)] (.d (.v (.int .i64 v_r1260.1))), .dl 3, .mv 5]) [3, 4, 5, 52] (by kernel_rfl) (by kernel_rfl) (by kernel_rfl) (.cons (G_open_Table_Fork_h_ok n v_t1182 v_a1184.fP v_a1184.fTo _ h1011) .nil)
      | x1 v_z1261 v_z1262 v_z1263 =>
        try dsimp only at h
        obtain ⟨v_r1264, h1012, h⟩ := bind_some h
        obtain rfl := Option.some.inj h
        exact pendH_sound TTok mix 6 (hs := [.c, .c, .h [3] [] [.box ((cS_open_Table v_r1264.2).map FV.d)] (.d (.v (.int .i64 v_r1264.1))), .dl 3, .mv 5]) [3, 4, 5, 52] (by kernel_rfl) (by kernel_rfl) (by kernel_rfl) (.cons (G_open_Table_Fork_h_ok n v_t1182 v_a1184.fP v_a1184.fTo _ h1012) .nil)
  · rw [if_neg h919] at h
    by_cases h1013 : v_r1185 = 6
    · rw [if_pos h1013] at h
      obtain ⟨v_r1265, h1014, h⟩ := bind_some h
      obtain ⟨v_r1266, h1015, h⟩ := bind_some h
      by_cases h1018 : v_r1266 = true
      · rw [if_pos h1018] at h
        obtain ⟨v_r1411, h1102, h⟩ := bind_some h
        obtain ⟨v_o1424, h1110, h⟩ := bind_some h
        refine pkk_sound TTok mix hF 28 (hs := [.c, .r ((eI .i64) v_r1185), .t false, .t true, .c, .h [0] [] [.box ((cS_open_Table v_r1265.2.2).map FV.d)] (.tup [.d (.sl (v_r1265.1.map eS_open_Thing)), .d (.v (.int .i64 v_r1265.2.1))]), .c, .r (eB v_r1266), .t false, .c, .h [1, 2] [] [.box ([.srf 2] ++ ((cA_t36 v_r1411.2.fFds).map FV.d)), .none, .row 39 5 (v_r1411.2.fThings.map eS_ringref5_Thing)] (.d (.sl (v_r1411.1.map eS_ringref5_Thing))), .u (.d (.v (.int .i64 (v_r1411.1.length : Int)))), .n n]) (ts := [(11, 29, 5)]) (s := [3, 4, 5, 0, 1, 146, 2, 161]) (l := [9, 10, 11, 90, 91, 92]) (by kernel_rfl) (by kernel_rfl) (.cons (G_ringref5_Rest_ok n v_a1184.fKind 8 _ h918) (.cons (bf h919) (.cons (bt h1013) (.cons (G_open_Table_Drop_h_ok n v_t1182 v_a1184.fP _ h1014) (.cons (G_ringlaw5_forked_1_ok n v_a1184.fP _ h1015) (.cons (bnf h1018) (.cons (G_ringref5_Open_DropAll_h_ok n v_r1183 v_a1184.fP _ h1102) (.cons (len_ob (f := eS_ringref5_Thing) (l := v_r1411.1)) .nil)))))))) (G_ringlaw5_forked_h_L3_ok hF (.b 1 :: .s (cR (cR (cR (cR (cT (cR (cF (cR (cB (cR (cL (cR (cR (bodyOf Try.f20)))))))))))))) :: .b 0 :: .s (cR (cR (cR (bodyOf Try.f20)))) :: []) n v_r1265 v_r1411 n 0 v_r1411.2.fThings ([] : List S_open_Thing) _ h1110 ?_)
        cases v_o1424 with
        | x0 v_z1425 v_z1426 =>
          try dsimp only at h
          by_cases h1111 : v_r1265.2.1 = 0
          · rw [if_pos h1111] at h
            obtain ⟨v_r1441, h1121, h⟩ := bind_some h
            obtain rfl := Option.some.inj h
            exact pendH_sound TTok mix 6 (hs := [.t true, .c, .c, .c, .r (eB v_r1441)]) [3, 4, 6, 5] (by kernel_rfl) (by kernel_rfl) (by kernel_rfl) (.cons (bt h1111) (.cons (G_slices_Equal_open_Thing_open_Thing_ok n v_r1265.1 v_z1426 _ h1121) .nil))
          · rw [if_neg h1111] at h
            obtain rfl := Option.some.inj h
            exact pendH_sound TTok mix 6 (hs := [.t false, .c, .c]) [3, 4, 6, 5] (by kernel_rfl) (by kernel_rfl) (by kernel_rfl) (.cons (bf h1111) .nil)
      · rw [if_neg h1018] at h
        by_cases h1019 : v_r1265.2.1 = 1
        · rw [if_pos h1019] at h
          obtain rfl := Option.some.inj h
          exact pendH_sound TTok mix 27 (hs := [.c, .r ((eI .i64) v_r1185), .t false, .t true, .c, .h [0] [] [.box ((cS_open_Table v_r1265.2.2).map FV.d)] (.tup [.d (.sl (v_r1265.1.map eS_open_Thing)), .d (.v (.int .i64 v_r1265.2.1))]), .c, .r (eB v_r1266), .t true, .t true, .c, .u (.d (.v (.int .i64 (v_r1265.1.length : Int)))), .c, .dl 4, .mv 2]) [0, 1, 2, 166] (by kernel_rfl) (by kernel_rfl) (by kernel_rfl) (.cons (G_ringref5_Rest_ok n v_a1184.fKind 8 _ h918) (.cons (bf h919) (.cons (bt h1013) (.cons (G_open_Table_Drop_h_ok n v_t1182 v_a1184.fP _ h1014) (.cons (G_ringlaw5_forked_1_ok n v_a1184.fP _ h1015) (.cons (bnt (vf h1018)) (.cons (bt h1019) (.cons (len_ob (f := eS_open_Thing) (l := v_r1265.1)) .nil))))))))
        · rw [if_neg h1019] at h
          obtain rfl := Option.some.inj h
          exact pendH_sound TTok mix 27 (hs := [.c, .r ((eI .i64) v_r1185), .t false, .t true, .c, .h [0] [] [.box ((cS_open_Table v_r1265.2.2).map FV.d)] (.tup [.d (.sl (v_r1265.1.map eS_open_Thing)), .d (.v (.int .i64 v_r1265.2.1))]), .c, .r (eB v_r1266), .t true, .t false, .c, .c, .dl 4, .mv 2]) [0, 1, 2, 166] (by kernel_rfl) (by kernel_rfl) (by kernel_rfl) (.cons (G_ringref5_Rest_ok n v_a1184.fKind 8 _ h918) (.cons (bf h919) (.cons (bt h1013) (.cons (G_open_Table_Drop_h_ok n v_t1182 v_a1184.fP _ h1014) (.cons (G_ringlaw5_forked_1_ok n v_a1184.fP _ h1015) (.cons (bnt (vf h1018)) (.cons (bf h1019) .nil)))))))
    · rw [if_neg h1013] at h
      obtain ⟨v_r1458, h1138, h⟩ := bind_some h
      obtain ⟨v_r1459, h1139, h⟩ := bind_some h
      by_cases h1142 : v_r1459 = true
      · rw [if_pos h1142] at h
        by_cases h1144 : 0 ≤ v_a1184.fP ∧ v_a1184.fP < (17 : Int)
        · rw [if_pos h1144] at h
          obtain ⟨v_y1460, h1145, h⟩ := bind_some h
          obtain ⟨v_o1473, h1157, h⟩ := bind_some h
          refine pkk_sound TTok mix hF 30 (hs := [.c, .r ((eI .i64) v_r1185), .t false, .t false, .c, .h [0] [] [.box ((cS_open_Table v_r1458.2.2).map FV.d)] (.tup [.d (.sl (v_r1458.1.map (eI .i64))), .d (.v (.int .i64 v_r1458.2.1))]), .c, .r (eB v_r1459), .t false, .c, .l (.d (.agg [.v (.int .i64 (v_y1460 0)), .v (.int .i64 (v_y1460 1)), .v (.int .i64 (v_y1460 2)), .v (.int .i64 (v_y1460 3)), .v (.int .i64 (v_y1460 4)), .v (.int .i64 (v_y1460 5)), .v (.int .i64 (v_y1460 6)), .v (.int .i64 (v_y1460 7))])), .n n]) (ts := [(16, 3, 1)]) (s := [3, 4, 5, 0, 1, 2, 171]) (l := [14, 15, 16, 134, 135]) (by kernel_rfl) (by kernel_rfl) (.cons (G_ringref5_Rest_ok n v_a1184.fKind 8 _ h918) (.cons (bf h919) (.cons (bf h1013) (.cons (G_open_Table_All_h_ok n v_t1182 v_a1184.fP _ h1138) (.cons (G_ringlaw5_forked_1_ok n v_a1184.fP _ h1139) (.cons (bnf h1142) (.cons h1144 (.cons (And.intro (congrArg mkAgg (arr_take (γ := FV) (sz := 8) (g := (fun x => [.d (.v (.int .i64 (x 0))), .d (.v (.int .i64 (x 1))), .d (.v (.int .i64 (x 2))), .d (.v (.int .i64 (x 3))), .d (.v (.int .i64 (x 4))), .d (.v (.int .i64 (x 5))), .d (.v (.int .i64 (x 6))), .d (.v (.int .i64 (x 7)))])) (pre := [.srf 2]) (post := []) (fun _ => rfl) h1145).1) (arr_take (γ := FV) (sz := 8) (g := (fun x => [.d (.v (.int .i64 (x 0))), .d (.v (.int .i64 (x 1))), .d (.v (.int .i64 (x 2))), .d (.v (.int .i64 (x 3))), .d (.v (.int .i64 (x 4))), .d (.v (.int .i64 (x 5))), .d (.v (.int .i64 (x 6))), .d (.v (.int .i64 (x 7)))])) (pre := [.srf 2]) (post := []) (fun _ => rfl) h1145).2) .nil)))))))) (G_ringlaw5_forked_h_L4_ok hF (.b 3 :: .s (cR (cR (cR (cR (cR (cR (cR (bodyOf Try.f20)))))))) :: []) n v_r1458 v_y1460 v_r1183 n 0 v_r1183.fThings ([] : List Int) _ h1157 ?_)
          cases v_o1473 with
          | x0 v_z1474 v_z1475 =>
            try dsimp only at h
            by_cases h1158 : v_r1458.2.1 = 0
            · rw [if_pos h1158] at h
              obtain ⟨v_r1490, h1168, h⟩ := bind_some h
              obtain rfl := Option.some.inj h
              exact pendH_sound TTok mix 5 (hs := [.t true, .c, .c, .c, .r (eB v_r1490), .dl 1, .mv 5]) [3, 4, 5, 47] (by kernel_rfl) (by kernel_rfl) (by kernel_rfl) (.cons (bt h1158) (.cons (G_slices_Equal_int_int_ok n v_r1458.1 v_z1475 _ h1168) .nil))
            · rw [if_neg h1158] at h
              obtain rfl := Option.some.inj h
              exact pendH_sound TTok mix 5 (hs := [.t false, .c, .c, .dl 1, .mv 5]) [3, 4, 5, 47] (by kernel_rfl) (by kernel_rfl) (by kernel_rfl) (.cons (bf h1158) .nil)
        · rw [if_neg h1144] at h; cases h
      · rw [if_neg h1142] at h
        by_cases h1143 : v_r1458.2.1 = 1
        · rw [if_pos h1143] at h
          obtain rfl := Option.some.inj h
          exact pendH_sound TTok mix 27 (hs := [.c, .r ((eI .i64) v_r1185), .t false, .t false, .c, .h [0] [] [.box ((cS_open_Table v_r1458.2.2).map FV.d)] (.tup [.d (.sl (v_r1458.1.map (eI .i64))), .d (.v (.int .i64 v_r1458.2.1))]), .c, .r (eB v_r1459), .t true, .t true, .c, .u (.d (.v (.int .i64 (v_r1458.1.length : Int)))), .c, .dl 2, .mv 2]) [0, 1, 2, 166] (by kernel_rfl) (by kernel_rfl) (by kernel_rfl) (.cons (G_ringref5_Rest_ok n v_a1184.fKind 8 _ h918) (.cons (bf h919) (.cons (bf h1013) (.cons (G_open_Table_All_h_ok n v_t1182 v_a1184.fP _ h1138) (.cons (G_ringlaw5_forked_1_ok n v_a1184.fP _ h1139) (.cons (bnt (vf h1142)) (.cons (bt h1143) (.cons (len_ob (f := (eI .i64)) (l := v_r1458.1)) .nil))))))))
        · rw [if_neg h1143] at h
          obtain rfl := Option.some.inj h
          exact pendH_sound TTok mix 27 (hs := [.c, .r ((eI .i64) v_r1185), .t false, .t false, .c, .h [0] [] [.box ((cS_open_Table v_r1458.2.2).map FV.d)] (.tup [.d (.sl (v_r1458.1.map (eI .i64))), .d (.v (.int .i64 v_r1458.2.1))]), .c, .r (eB v_r1459), .t true, .t false, .c, .c, .dl 2, .mv 2]) [0, 1, 2, 166] (by kernel_rfl) (by kernel_rfl) (by kernel_rfl) (.cons (G_ringref5_Rest_ok n v_a1184.fKind 8 _ h918) (.cons (bf h919) (.cons (bf h1013) (.cons (G_open_Table_All_h_ok n v_t1182 v_a1184.fP _ h1138) (.cons (G_ringlaw5_forked_1_ok n v_a1184.fP _ h1139) (.cons (bnt (vf h1142)) (.cons (bf h1143) .nil)))))))
inductive G_ringlaw5_opened_h_C1_R where
  | x0 (v_x1024 : Bool) (v_w1025 : (List S_ringref5_Thing))
  | x1 (v_x1031 : Bool) (v_b1032 : (Fin 17 → (Fin 8 → Int))) (v_w1033 : (List S_ringref5_Thing))
def G_ringlaw5_opened_h_C1_ex : G_ringlaw5_opened_h_C1_R → Ex
  | .x0 _ _ => .normal
  | .x1 _ _ _ => .normal
def G_ringlaw5_opened_h_C1_st (v_r197 : (Int × S_ringref5_Open)) (v_r1019 : (S_open_Thing × Int × S_open_Table)) (v_a179 : S_ringlaw5_Act) : G_ringlaw5_opened_h_C1_R → PS
  | .x0 v_x1024 v_w1025 => ⟨(dd :: dd :: dd :: dd :: dd :: dd :: .d (.v (.bool v_x1024)) :: (dds 187 [])), [.gh 0 (.ref 3 0), .gh 1 (.ref 4 0), .gh 2 (.srf 6), .box ((cS_open_Table v_r1019.2.2).map FV.d), .box ([.srf 5] ++ ((cA_t36 v_r197.2.fFds).map FV.d)), .row 39 5 (v_w1025.map eS_ringref5_Thing), .none]⟩
  | .x1 v_x1031 v_b1032 v_w1033 => ⟨(dd :: dd :: dd :: dd :: dd :: dd :: .d (.v (.bool v_x1031)) :: (dds 187 [])), [.gh 0 (.ref 3 0), .gh 1 (.ref 4 0), .gh 2 (.srf 6), .box ((cS_open_Table v_r1019.2.2).map FV.d), .box ([.srf 5] ++ ((cA_t36 v_b1032).map FV.d)), .row 39 5 (v_w1033.map eS_ringref5_Thing), .none]⟩
def G_ringlaw5_opened_h_C1_hd (v_r197 : (Int × S_ringref5_Open)) (v_r1019 : (S_open_Thing × Int × S_open_Table)) (v_a179 : S_ringlaw5_Act)  : PS := ⟨(dd :: .ref 4 0 :: dd :: dd :: dd :: .ref 7 0 :: dd :: .ref 8 0 :: .d (.v (.int .i64 v_r197.1)) :: dd :: dd :: dd :: dd :: .ref 9 0 :: .d (.v (.int .i64 v_r1019.2.1)) :: (dds 179 [])), [.gh 0 (.ref 3 0), .gh 1 (.ref 4 0), .gh 2 (.srf 6), .box ((cS_open_Table v_r1019.2.2).map FV.d), .box ([.srf 5] ++ ((cA_t36 v_r197.2.fFds).map FV.d)), .row 39 5 (v_r197.2.fThings.map eS_ringref5_Thing), .none, .box ((cS_ringlaw5_Act v_a179).map FV.d), .box [.d (.v (.int .i64 0)), .d (.v (.int .i64 0)), .d (.v (.int .i64 0)), .d (.v (.bool false)), .d (.v (.int .i64 0))], .box [.d (.v (.int .i64 v_r1019.1.fKind)), .d (.v (.int .i64 v_r1019.1.fId)), .d (.v (.int .i64 v_r1019.1.fMay)), .d (.v (.bool v_r1019.1.fMore)), .d (.v (.int .i64 v_r1019.1.fAt))]]⟩
def G_ringlaw5_opened_h_C1 (n : Nat) (v_r197 : (Int × S_ringref5_Open)) (v_r1019 : (S_open_Thing × Int × S_open_Table)) (v_a179 : S_ringlaw5_Act) : Option G_ringlaw5_opened_h_C1_R :=
  if v_r197.1 = v_r1019.2.1 then
   if v_r197.1 = 0 then
    (G_ringref5_Open_At_h n v_r197.2 v_a179.fP v_a179.fFd).bind fun (v_r1028 : (Nat × S_ringref5_Open)) =>
    (v_r1028.2.fThings[v_r1028.1]?).bind fun (v_y1029 : S_ringref5_Thing) =>
    (G_ringlaw5_thing n v_y1029).bind fun (v_r1030 : (S_open_Thing)) =>
    some (.x1 (eqRes .eql (eqS_open_Thing v_r1019.1 v_r1030)) v_r1028.2.fFds v_r1028.2.fThings)
   else
    if (eqRes .eql (eqS_open_Thing v_r1019.1 (S_open_Thing.mk 0 0 0 false 0))) = true then
     some (.x0 true v_r197.2.fThings)
    else
     some (.x0 false v_r197.2.fThings)
  else
   some (.x0 false v_r197.2.fThings)
theorem G_ringlaw5_opened_h_C1_ok {Fi : Ex → PS → Prop} (hF : KC 194 Fi) (ks : List Fr) (n : Nat) (v_r197 : (Int × S_ringref5_Open)) (v_r1019 : (S_open_Thing × Int × S_open_Table)) (v_a179 : S_ringlaw5_Act)  (o : G_ringlaw5_opened_h_C1_R) (h : G_ringlaw5_opened_h_C1 n v_r197 v_r1019 v_a179 = some o) (q : RunE Try.prog 194 Fi ks (G_ringlaw5_opened_h_C1_ex o) (G_ringlaw5_opened_h_C1_st v_r197 v_r1019 v_a179 o)) : RunE Try.prog 194 Fi (.s (cL (cR (cT (cR (cF (cR (cB (cR (cL (cR (cR (cR (bodyOf Try.f7))))))))))))) :: ks) .normal (G_ringlaw5_opened_h_C1_hd v_r197 v_r1019 v_a179) := by
  unfold G_ringlaw5_opened_h_C1 at h
  by_cases h805 : v_r197.1 = v_r1019.2.1
  · rw [if_pos h805] at h
    by_cases h806 : v_r197.1 = 0
    · rw [if_pos h806] at h
      obtain ⟨v_r1028, h808, h⟩ := bind_some h
      obtain ⟨v_y1029, h809, h⟩ := bind_some h
      obtain ⟨v_r1030, h810, h⟩ := bind_some h
      cases h
      exact pkk_sound TTok mix hF 1 (hs := [.t true, .c, .c, .t false, .c, .c, .c, .c, .c, .c, .c, .t true, .c, .c, .c, .c, .c, .c, .c, .c, .c, .h [4, 5] [] [.box ([.srf 2] ++ ((cA_t36 v_r1028.2.fFds).map FV.d)), .none, .row 39 5 (v_r1028.2.fThings.map eS_ringref5_Thing)] (.ept 2 5 v_r1028.1 0), .c, .c, .y (eS_ringref5_Thing v_y1029), .c, .r (eS_open_Thing v_r1030), .c, .q (eqS_open_Thing v_r1019.1 v_r1030), .c, .c]) (ts := []) (s := [0, 1, 2, 3, 4, 115, 6]) (l := [6]) (by kernel_rfl) (by kernel_rfl) (.cons (bt h805) (.cons (nf h806) (.cons (bt h806) (.cons (G_ringref5_Open_At_h_ok n v_r197.2 v_a179.fP v_a179.fFd _ h808) (.cons (get_ob (f := eS_ringref5_Thing) h809) (.cons (G_ringlaw5_thing_ok n v_y1029 _ h810) (.cons (eqS_open_Thing_ok v_r1019.1 v_r1030) .nil))))))) q
    · rw [if_neg h806] at h
      by_cases h807 : (eqRes .eql (eqS_open_Thing v_r1019.1 (S_open_Thing.mk 0 0 0 false 0))) = true
      · rw [if_pos h807] at h
        cases h
        exact pkk_sound TTok mix hF 1 (hs := [.t true, .c, .c, .t true, .c, .c, .c, .c, .q (eqS_open_Thing v_r1019.1 (S_open_Thing.mk 0 0 0 false 0)), .c, .c, .t true, .c, .c, .c, .c]) (ts := []) (s := [0, 1, 2, 3, 4, 5, 6]) (l := [6]) (by kernel_rfl) (by kernel_rfl) (.cons (bt h805) (.cons (nt h806) (.cons (eqS_open_Thing_ok v_r1019.1 (S_open_Thing.mk 0 0 0 false 0)) (.cons h807 .nil)))) q
      · rw [if_neg h807] at h
        cases h
        exact pkk_sound TTok mix hF 1 (hs := [.t true, .c, .c, .t true, .c, .c, .c, .c, .q (eqS_open_Thing v_r1019.1 (S_open_Thing.mk 0 0 0 false 0)), .c, .c, .t false, .c, .c, .t false, .c, .c, .c, .c, .c, .c, .c, .c, .c, .c, .c, .c]) (ts := []) (s := [0, 1, 2, 3, 4, 5, 6]) (l := [6]) (by kernel_rfl) (by kernel_rfl) (.cons (bt h805) (.cons (nt h806) (.cons (eqS_open_Thing_ok v_r1019.1 (S_open_Thing.mk 0 0 0 false 0)) (.cons (vf h807) (.cons (bf h806) .nil))))) q
  · rw [if_neg h805] at h
    cases h
    exact pkk_sound TTok mix hF 1 (hs := [.t false, .c, .c, .c, .c, .c]) (ts := []) (s := [0, 1, 2, 3, 4, 5, 6]) (l := [6]) (by kernel_rfl) (by kernel_rfl) (.cons (bf h805) .nil) q
inductive G_ringlaw5_opened_h_C2_R where
  | x0 (v_x1095 : Bool) (v_w1096 : (List S_ringref5_Thing))
def G_ringlaw5_opened_h_C2_ex : G_ringlaw5_opened_h_C2_R → Ex
  | .x0 _ _ => .normal
def G_ringlaw5_opened_h_C2_st (v_r197 : (Int × S_ringref5_Open)) (v_t177 : S_open_Table) (v_a179 : S_ringlaw5_Act) : G_ringlaw5_opened_h_C2_R → PS
  | .x0 v_x1095 v_w1096 => ⟨(.ref 3 0 :: .ref 4 0 :: dd :: dd :: dd :: .ref 7 0 :: dd :: dd :: .d (.v (.int .i64 v_r197.1)) :: (dds 103 (.d (.v (.bool v_x1095)) :: (dds 81 [])))), [.gh 0 (.ref 3 0), .gh 1 (.ref 4 0), .gh 2 (.srf 6), .box ((cS_open_Table v_t177).map FV.d), .box ([.srf 5] ++ ((cA_t36 v_r197.2.fFds).map FV.d)), .row 39 5 (v_w1096.map eS_ringref5_Thing), .none, .box ((cS_ringlaw5_Act v_a179).map FV.d)]⟩
def G_ringlaw5_opened_h_C2_hd (v_r197 : (Int × S_ringref5_Open)) (v_t177 : S_open_Table) (v_a179 : S_ringlaw5_Act)  : PS := ⟨(.ref 3 0 :: .ref 4 0 :: dd :: dd :: dd :: .ref 7 0 :: dd :: dd :: .d (.v (.int .i64 v_r197.1)) :: (dds 185 [])), [.gh 0 (.ref 3 0), .gh 1 (.ref 4 0), .gh 2 (.srf 6), .box ((cS_open_Table v_t177).map FV.d), .box ([.srf 5] ++ ((cA_t36 v_r197.2.fFds).map FV.d)), .row 39 5 (v_r197.2.fThings.map eS_ringref5_Thing), .none, .box ((cS_ringlaw5_Act v_a179).map FV.d)]⟩
def G_ringlaw5_opened_h_C2 (n : Nat) (v_r197 : (Int × S_ringref5_Open)) (v_t177 : S_open_Table) (v_a179 : S_ringlaw5_Act) : Option G_ringlaw5_opened_h_C2_R :=
  if v_r197.1 = 0 then
   if v_a179.fTo < 0 then
    some (.x0 true v_r197.2.fThings)
   else
    some (.x0 (decide (v_a179.fTo > 512)) v_r197.2.fThings)
  else
   some (.x0 false v_r197.2.fThings)
theorem G_ringlaw5_opened_h_C2_ok {Fi : Ex → PS → Prop} (hF : KC 194 Fi) (ks : List Fr) (n : Nat) (v_r197 : (Int × S_ringref5_Open)) (v_t177 : S_open_Table) (v_a179 : S_ringlaw5_Act)  (o : G_ringlaw5_opened_h_C2_R) (h : G_ringlaw5_opened_h_C2 n v_r197 v_t177 v_a179 = some o) (q : RunE Try.prog 194 Fi ks (G_ringlaw5_opened_h_C2_ex o) (G_ringlaw5_opened_h_C2_st v_r197 v_t177 v_a179 o)) : RunE Try.prog 194 Fi (.s (cL (cL (cT (cR (cF (cR (cF (cR (cB (cR (cL (cR (cR (cR (bodyOf Try.f7))))))))))))))) :: ks) .normal (G_ringlaw5_opened_h_C2_hd v_r197 v_t177 v_a179) := by
  unfold G_ringlaw5_opened_h_C2 at h
  by_cases h855 : v_r197.1 = 0
  · rw [if_pos h855] at h
    by_cases h856 : v_a179.fTo < 0
    · rw [if_pos h856] at h
      cases h
      exact pkk_sound TTok mix hF 1 (hs := [.t true, .c, .c, .c, .c, .t true, .c, .c, .c]) (ts := []) (s := [0, 1, 2, 3, 4, 5, 6, 7]) (l := [0, 1, 5, 8, 112]) (by kernel_rfl) (by kernel_rfl) (.cons (bt h855) (.cons (dt h856) .nil)) q
    · rw [if_neg h856] at h
      cases h
      exact pkk_sound TTok mix hF 1 (hs := [.t true, .c, .c, .c, .c, .t false, .c, .c, .c, .c]) (ts := []) (s := [0, 1, 2, 3, 4, 5, 6, 7]) (l := [0, 1, 5, 8, 112]) (by kernel_rfl) (by kernel_rfl) (.cons (bt h855) (.cons (df h856) .nil)) q
  · rw [if_neg h855] at h
    cases h
    exact pkk_sound TTok mix hF 1 (hs := [.t false, .c, .c, .c, .c]) (ts := []) (s := [0, 1, 2, 3, 4, 5, 6, 7]) (l := [0, 1, 5, 8, 112]) (by kernel_rfl) (by kernel_rfl) (.cons (bf h855) .nil) q
inductive G_ringlaw5_opened_h_C3_R where
  | x0 (v_x1158 : Bool) (v_w1159 : (List S_ringref5_Thing))
def G_ringlaw5_opened_h_C3_ex : G_ringlaw5_opened_h_C3_R → Ex
  | .x0 _ _ => .normal
def G_ringlaw5_opened_h_C3_st (v_r197 : (Int × S_ringref5_Open)) (v_r1146 : (S_open_Thing × Bool × Int × S_open_Table)) : G_ringlaw5_opened_h_C3_R → PS
  | .x0 v_x1158 v_w1159 => ⟨(dd :: dd :: dd :: dd :: dd :: dd :: .d (.v (.bool v_x1158)) :: (dds 187 [])), [.gh 0 (.ref 3 0), .gh 1 (.ref 4 0), .gh 2 (.srf 6), .box ((cS_open_Table v_r1146.2.2.2).map FV.d), .box ([.srf 5] ++ ((cA_t36 v_r197.2.fFds).map FV.d)), .row 39 5 (v_w1159.map eS_ringref5_Thing), .none]⟩
def G_ringlaw5_opened_h_C3_hd (v_r197 : (Int × S_ringref5_Open)) (v_r1146 : (S_open_Thing × Bool × Int × S_open_Table))  : PS := ⟨(dd :: dd :: dd :: dd :: dd :: dd :: dd :: .ref 7 0 :: .d (.v (.int .i64 v_r197.1)) :: dd :: dd :: dd :: dd :: dd :: dd :: .ref 8 0 :: .d (.v (.bool v_r1146.2.1)) :: .d (.v (.int .i64 v_r1146.2.2.1)) :: (dds 176 [])), [.gh 0 (.ref 3 0), .gh 1 (.ref 4 0), .gh 2 (.srf 6), .box ((cS_open_Table v_r1146.2.2.2).map FV.d), .box ([.srf 5] ++ ((cA_t36 v_r197.2.fFds).map FV.d)), .row 39 5 (v_r197.2.fThings.map eS_ringref5_Thing), .none, .box [.d (.v (.int .i64 0)), .d (.v (.int .i64 0)), .d (.v (.int .i64 0)), .d (.v (.bool false)), .d (.v (.int .i64 0))], .box [.d (.v (.int .i64 v_r1146.1.fKind)), .d (.v (.int .i64 v_r1146.1.fId)), .d (.v (.int .i64 v_r1146.1.fMay)), .d (.v (.bool v_r1146.1.fMore)), .d (.v (.int .i64 v_r1146.1.fAt))]]⟩
def G_ringlaw5_opened_h_C3 (n : Nat) (v_r197 : (Int × S_ringref5_Open)) (v_r1146 : (S_open_Thing × Bool × Int × S_open_Table)) : Option G_ringlaw5_opened_h_C3_R :=
  if v_r197.1 = v_r1146.2.2.1 then
   if (eqRes .eql (eqS_open_Thing v_r1146.1 (S_open_Thing.mk 0 0 0 false 0))) = true then
    some (.x0 (!v_r1146.2.1) v_r197.2.fThings)
   else
    some (.x0 false v_r197.2.fThings)
  else
   some (.x0 false v_r197.2.fThings)
theorem G_ringlaw5_opened_h_C3_ok {Fi : Ex → PS → Prop} (hF : KC 194 Fi) (ks : List Fr) (n : Nat) (v_r197 : (Int × S_ringref5_Open)) (v_r1146 : (S_open_Thing × Bool × Int × S_open_Table))  (o : G_ringlaw5_opened_h_C3_R) (h : G_ringlaw5_opened_h_C3 n v_r197 v_r1146 = some o) (q : RunE Try.prog 194 Fi ks (G_ringlaw5_opened_h_C3_ex o) (G_ringlaw5_opened_h_C3_st v_r197 v_r1146 o)) : RunE Try.prog 194 Fi (.s (cL (cT (cR (cL (cR (cT (cR (cF (cR (cF (cR (cF (cR (cB (cR (cL (cR (cR (cR (bodyOf Try.f7)))))))))))))))))))) :: ks) .normal (G_ringlaw5_opened_h_C3_hd v_r197 v_r1146) := by
  unfold G_ringlaw5_opened_h_C3 at h
  by_cases h903 : v_r197.1 = v_r1146.2.2.1
  · rw [if_pos h903] at h
    by_cases h904 : (eqRes .eql (eqS_open_Thing v_r1146.1 (S_open_Thing.mk 0 0 0 false 0))) = true
    · rw [if_pos h904] at h
      cases h
      exact pkk_sound TTok mix hF 1 (hs := [.t true, .c, .c, .c, .c, .q (eqS_open_Thing v_r1146.1 (S_open_Thing.mk 0 0 0 false 0)), .t true, .c]) (ts := []) (s := [0, 1, 2, 3, 4, 5, 6]) (l := [6]) (by kernel_rfl) (by kernel_rfl) (.cons (bt h903) (.cons (eqS_open_Thing_ok v_r1146.1 (S_open_Thing.mk 0 0 0 false 0)) (.cons h904 .nil))) q
    · rw [if_neg h904] at h
      cases h
      exact pkk_sound TTok mix hF 1 (hs := [.t true, .c, .c, .c, .c, .q (eqS_open_Thing v_r1146.1 (S_open_Thing.mk 0 0 0 false 0)), .t false, .c]) (ts := []) (s := [0, 1, 2, 3, 4, 5, 6]) (l := [6]) (by kernel_rfl) (by kernel_rfl) (.cons (bt h903) (.cons (eqS_open_Thing_ok v_r1146.1 (S_open_Thing.mk 0 0 0 false 0)) (.cons (vf h904) .nil))) q
  · rw [if_neg h903] at h
    cases h
    exact pkk_sound TTok mix hF 1 (hs := [.t false, .c, .c, .c, .c]) (ts := []) (s := [0, 1, 2, 3, 4, 5, 6]) (l := [6]) (by kernel_rfl) (by kernel_rfl) (.cons (bf h903) .nil) q
inductive G_ringlaw5_opened_h_C4_R where
  | x0 (v_x1171 : Bool) (v_w1172 : (List S_ringref5_Thing))
def G_ringlaw5_opened_h_C4_ex : G_ringlaw5_opened_h_C4_R → Ex
  | .x0 _ _ => .normal
def G_ringlaw5_opened_h_C4_st (v_r1146 : (S_open_Thing × Bool × Int × S_open_Table)) (v_r1167 : (S_ringref5_Thing × Bool × S_ringref5_Open)) : G_ringlaw5_opened_h_C4_R → PS
  | .x0 v_x1171 v_w1172 => ⟨(dd :: dd :: dd :: dd :: dd :: dd :: .d (.v (.bool v_x1171)) :: (dds 187 [])), [.gh 0 (.ref 3 0), .gh 1 (.ref 4 0), .gh 2 (.srf 6), .box ((cS_open_Table v_r1146.2.2.2).map FV.d), .box ([.srf 5] ++ ((cA_t36 v_r1167.2.2.fFds).map FV.d)), .row 39 5 (v_w1172.map eS_ringref5_Thing), .none]⟩
def G_ringlaw5_opened_h_C4_hd (v_r1146 : (S_open_Thing × Bool × Int × S_open_Table)) (v_r1167 : (S_ringref5_Thing × Bool × S_ringref5_Open))  : PS := ⟨(dds 15 (.ref 7 0 :: .d (.v (.bool v_r1146.2.1)) :: .d (.v (.int .i64 v_r1146.2.2.1)) :: .ref 8 0 :: .d (.v (.bool v_r1167.2.1)) :: (dds 174 []))), [.gh 0 (.ref 3 0), .gh 1 (.ref 4 0), .gh 2 (.srf 6), .box ((cS_open_Table v_r1146.2.2.2).map FV.d), .box ([.srf 5] ++ ((cA_t36 v_r1167.2.2.fFds).map FV.d)), .row 39 5 (v_r1167.2.2.fThings.map eS_ringref5_Thing), .none, .box [.d (.v (.int .i64 v_r1146.1.fKind)), .d (.v (.int .i64 v_r1146.1.fId)), .d (.v (.int .i64 v_r1146.1.fMay)), .d (.v (.bool v_r1146.1.fMore)), .d (.v (.int .i64 v_r1146.1.fAt))], .box [.d (.v (.int .i64 v_r1167.1.fKind)), .d (.v (.int .i64 v_r1167.1.fId)), .d (.v (.int .i64 v_r1167.1.fMay)), .d (.v (.bool v_r1167.1.fMore)), .d (.v (.int .i64 v_r1167.1.fAt))]]⟩
def G_ringlaw5_opened_h_C4 (n : Nat) (v_r1146 : (S_open_Thing × Bool × Int × S_open_Table)) (v_r1167 : (S_ringref5_Thing × Bool × S_ringref5_Open)) : Option G_ringlaw5_opened_h_C4_R :=
  if v_r1146.2.2.1 = 0 then
   (G_ringlaw5_thing n v_r1167.1).bind fun (v_r1170 : (S_open_Thing)) =>
   if (eqRes .eql (eqS_open_Thing v_r1146.1 v_r1170)) = true then
    some (.x0 (eqRes .eql (v_r1146.2.1 == v_r1167.2.1)) v_r1167.2.2.fThings)
   else
    some (.x0 false v_r1167.2.2.fThings)
  else
   some (.x0 false v_r1167.2.2.fThings)
theorem G_ringlaw5_opened_h_C4_ok {Fi : Ex → PS → Prop} (hF : KC 194 Fi) (ks : List Fr) (n : Nat) (v_r1146 : (S_open_Thing × Bool × Int × S_open_Table)) (v_r1167 : (S_ringref5_Thing × Bool × S_ringref5_Open))  (o : G_ringlaw5_opened_h_C4_R) (h : G_ringlaw5_opened_h_C4 n v_r1146 v_r1167 = some o) (q : RunE Try.prog 194 Fi ks (G_ringlaw5_opened_h_C4_ex o) (G_ringlaw5_opened_h_C4_st v_r1146 v_r1167 o)) : RunE Try.prog 194 Fi (.s (cL (cR (cR (cR (cT (cR (cF (cR (cF (cR (cF (cR (cB (cR (cL (cR (cR (cR (bodyOf Try.f7))))))))))))))))))) :: ks) .normal (G_ringlaw5_opened_h_C4_hd v_r1146 v_r1167) := by
  unfold G_ringlaw5_opened_h_C4 at h
  by_cases h910 : v_r1146.2.2.1 = 0
  · rw [if_pos h910] at h
    obtain ⟨v_r1170, h911, h⟩ := bind_some h
    by_cases h912 : (eqRes .eql (eqS_open_Thing v_r1146.1 v_r1170)) = true
    · rw [if_pos h912] at h
      cases h
      exact pkk_sound TTok mix hF 1 (hs := [.t true, .c, .c, .c, .c, .r (eS_open_Thing v_r1170), .c, .q (eqS_open_Thing v_r1146.1 v_r1170), .t true, .c, .c]) (ts := []) (s := [0, 1, 2, 3, 4, 5, 6]) (l := [6]) (by kernel_rfl) (by kernel_rfl) (.cons (bt h910) (.cons (G_ringlaw5_thing_ok n v_r1167.1 _ h911) (.cons (eqS_open_Thing_ok v_r1146.1 v_r1170) (.cons h912 .nil)))) q
    · rw [if_neg h912] at h
      cases h
      exact pkk_sound TTok mix hF 1 (hs := [.t true, .c, .c, .c, .c, .r (eS_open_Thing v_r1170), .c, .q (eqS_open_Thing v_r1146.1 v_r1170), .t false, .c, .c]) (ts := []) (s := [0, 1, 2, 3, 4, 5, 6]) (l := [6]) (by kernel_rfl) (by kernel_rfl) (.cons (bt h910) (.cons (G_ringlaw5_thing_ok n v_r1167.1 _ h911) (.cons (eqS_open_Thing_ok v_r1146.1 v_r1170) (.cons (vf h912) .nil)))) q
  · rw [if_neg h910] at h
    cases h
    exact pkk_sound TTok mix hF 1 (hs := [.t false, .c, .c, .c, .c, .c, .c]) (ts := []) (s := [0, 1, 2, 3, 4, 5, 6]) (l := [6]) (by kernel_rfl) (by kernel_rfl) (.cons (bf h910) .nil) q
/- ringhall/ringlaw5.opened -/
def G_ringlaw5_opened_h (n : Nat) (v_t177 : S_open_Table) (v_r178 : S_ringref5_Open) (v_a179 : S_ringlaw5_Act) : Option (Bool × S_open_Table × S_ringref5_Open) :=
  (G_ringref5_Open_ErrFd_h n v_r178 v_a179.fP v_a179.fFd).bind fun (v_r197 : (Int × S_ringref5_Open)) =>
  (G_ringref5_Rest n v_a179.fKind 8).bind fun (v_r200 : (Int)) =>
  if v_r200 = 0 then
   (G_ringlaw5_thing n v_a179.fThing).bind fun (v_r941 : (S_open_Thing)) =>
   (G_open_Table_Open_h n v_t177 v_a179.fP v_r941).bind fun (v_r942 : (Int × Int × S_open_Table)) =>
   (G_ringref5_Open_Add_h n v_r197.2 v_a179.fP v_a179.fThing).bind fun (v_r943 : (Int × Int × S_ringref5_Open)) =>
   if v_r942.1 = v_r943.1 then
    some ((v_r942.2.1 == v_r943.2.1), v_r942.2.2, v_r943.2.2)
   else
    some (false, v_r942.2.2, v_r943.2.2)
  else
   if v_r200 = 1 then
    (G_open_Table_Get_h n v_t177 v_a179.fP v_a179.fFd).bind fun (v_r1019 : (S_open_Thing × Int × S_open_Table)) =>
    (G_ringlaw5_opened_h_C1 n v_r197 v_r1019 v_a179).bind fun v_o1036 => match v_o1036 with
    | .x0 v_z1037 v_z1038 =>
      some (v_z1037, v_r1019.2.2, (S_ringref5_Open.mk v_z1038 v_r197.2.fFds))
    | .x1 v_z1039 v_z1040 v_z1041 =>
      some (v_z1039, v_r1019.2.2, (S_ringref5_Open.mk v_z1041 v_z1040))
   else
    if v_r200 = 2 then
     (G_ringlaw5_opened_h_C2 n v_r197 v_t177 v_a179).bind fun v_o1101 => match v_o1101 with
     | .x0 v_z1102 v_z1103 =>
       if v_z1102 = true then
        (G_open_Table_Seek_h n v_t177 v_a179.fP v_a179.fFd v_a179.fTo).bind fun (v_r1104 : (Int × S_open_Table)) =>
        some ((v_r1104.1 == 1), v_r1104.2, (S_ringref5_Open.mk v_z1103 v_r197.2.fFds))
       else
        if v_r197.1 = 0 then
         (G_ringref5_Open_At_h n (S_ringref5_Open.mk v_z1103 v_r197.2.fFds) v_a179.fP v_a179.fFd).bind fun (v_r1107 : (Nat × S_ringref5_Open)) =>
         (v_r1107.2.fThings[v_r1107.1]?).bind fun (v_y1108 : S_ringref5_Thing) =>
         (G_open_Table_Seek_h n v_t177 v_a179.fP v_a179.fFd v_a179.fTo).bind fun (v_r1109 : (Int × S_open_Table)) =>
         some ((v_r1109.1 == v_r197.1), v_r1109.2, (S_ringref5_Open.mk (v_r1107.2.fThings.set v_r1107.1 (S_ringref5_Thing.mk v_y1108.fKind v_y1108.fId v_y1108.fMay v_y1108.fMore v_a179.fTo)) v_r1107.2.fFds))
        else
         (G_open_Table_Seek_h n v_t177 v_a179.fP v_a179.fFd v_a179.fTo).bind fun (v_r1110 : (Int × S_open_Table)) =>
         some ((v_r1110.1 == v_r197.1), v_r1110.2, (S_ringref5_Open.mk v_z1103 v_r197.2.fFds))
    else
     if v_r200 = 3 then
      (G_open_Table_Close_h n v_t177 v_a179.fP v_a179.fFd).bind fun (v_r1146 : (S_open_Thing × Bool × Int × S_open_Table)) =>
      if v_r197.1 = 0 then
       (G_ringref5_Open_Less_h n v_r197.2 v_a179.fP v_a179.fFd).bind fun (v_r1167 : (S_ringref5_Thing × Bool × S_ringref5_Open)) =>
       (G_ringlaw5_opened_h_C4 n v_r1146 v_r1167).bind fun v_o1177 => match v_o1177 with
       | .x0 v_z1178 v_z1179 =>
         some (v_z1178, v_r1146.2.2.2, (S_ringref5_Open.mk v_z1179 v_r1167.2.2.fFds))
      else
       (G_ringlaw5_opened_h_C3 n v_r197 v_r1146).bind fun v_o1164 => match v_o1164 with
       | .x0 v_z1165 v_z1166 =>
         some (v_z1165, v_r1146.2.2.2, (S_ringref5_Open.mk v_z1166 v_r197.2.fFds))
     else
      if v_r200 = 4 then
       (G_ringlaw5_dupped_h n v_t177 v_r197.2 v_a179 v_r197.1).bind fun (v_r1181 : (Bool × S_open_Table × S_ringref5_Open)) =>
       some (v_r1181.1, v_r1181.2.1, v_r1181.2.2)
      else
       (G_ringlaw5_forked_h n v_t177 v_r197.2 v_a179).bind fun (v_r1491 : (Bool × S_open_Table × S_ringref5_Open)) =>
       some (v_r1491.1, v_r1491.2.1, v_r1491.2.2)
theorem G_ringlaw5_opened_h_ok (n : Nat) (v_t177 : S_open_Table) (v_r178 : S_ringref5_Open) (v_a179 : S_ringlaw5_Act) (r : Bool × S_open_Table × S_ringref5_Open) (h : G_ringlaw5_opened_h n v_t177 v_r178 v_a179 = some r) : RetH Try.prog 7 [.ref 0 0, .ref 1 0, .d (eS_ringlaw5_Act v_a179)] [.box ((cS_open_Table v_t177).map FV.d), .box ([.srf 2] ++ ((cA_t36 v_r178.fFds).map FV.d)), .row 39 5 (v_r178.fThings.map eS_ringref5_Thing)] (.d (eB r.1)) [.box ((cS_open_Table r.2.1).map FV.d), .box ([.srf 3] ++ ((cA_t36 r.2.2.fFds).map FV.d)), .none, .row 39 5 (r.2.2.fThings.map eS_ringref5_Thing)] := by
  refine retH_run (n := 194) (fn := Try.f7) (c := bodyOf Try.f7) (by kernel_rfl) (by kernel_rfl) (by kernel_rfl) (by kernel_rfl) ?_
  have hF : KC 194 (FinH Try.prog Try.f7 [.box ((cS_open_Table v_t177).map FV.d), .box ([.srf 2] ++ ((cA_t36 v_r178.fFds).map FV.d)), .row 39 5 (v_r178.fThings.map eS_ringref5_Thing)] (.d (eB r.1)) [.box ((cS_open_Table r.2.1).map FV.d), .box ([.srf 3] ++ ((cA_t36 r.2.2.fFds).map FV.d)), .none, .row 39 5 (r.2.2.fThings.map eS_ringref5_Thing)]) := FinH.kc' (by kernel_rfl)
  unfold G_ringlaw5_opened_h at h
  obtain ⟨v_r197, h148, h⟩ := bind_some h
  obtain ⟨v_r200, h152, h⟩ := bind_some h
  by_cases h737 : v_r200 = 0
  · rw [if_pos h737] at h
    obtain ⟨v_r941, h738, h⟩ := bind_some h
    obtain ⟨v_r942, h739, h⟩ := bind_some h
    obtain ⟨v_r943, h740, h⟩ := bind_some h
    by_cases h741 : v_r942.1 = v_r943.1
    · rw [if_pos h741] at h
      obtain rfl := Option.some.inj h
      exact pendH_sound TTok mix 22 (hs := [.c, .c, .c, .h [1, 2] [] [.box ([.srf 2] ++ ((cA_t36 v_r197.2.fFds).map FV.d)), .none, .row 39 5 (v_r197.2.fThings.map eS_ringref5_Thing)] (.d (.v (.int .i64 v_r197.1))), .c, .r ((eI .i64) v_r200), .t true, .c, .c, .r (eS_open_Thing v_r941), .h [0] [] [.box ((cS_open_Table v_r942.2.2).map FV.d)] (.tup [.d (.v (.int .i64 v_r942.1)), .d (.v (.int .i64 v_r942.2.1))]), .c, .c, .h [1, 56] [] [.box ([.srf 2] ++ ((cA_t36 v_r943.2.2.fFds).map FV.d)), .none, .row 39 5 (v_r943.2.2.fThings.map eS_ringref5_Thing)] (.tup [.d (.v (.int .i64 v_r943.1)), .d (.v (.int .i64 v_r943.2.1))]), .t true, .c, .c]) [0, 1, 2, 176] (by kernel_rfl) (by kernel_rfl) (by kernel_rfl) (.cons (show 0 + 5 ≤ 5 by decide) (.cons (G_ringref5_Open_ErrFd_h_ok n v_r178 v_a179.fP v_a179.fFd _ h148) (.cons (G_ringref5_Rest_ok n v_a179.fKind 8 _ h152) (.cons (bt h737) (.cons (G_ringlaw5_thing_ok n v_a179.fThing _ h738) (.cons (G_open_Table_Open_h_ok n v_t177 v_a179.fP v_r941 _ h739) (.cons (G_ringref5_Open_Add_h_ok n v_r197.2 v_a179.fP v_a179.fThing _ h740) (.cons (bt h741) .nil))))))))
    · rw [if_neg h741] at h
      obtain rfl := Option.some.inj h
      exact pendH_sound TTok mix 22 (hs := [.c, .c, .c, .h [1, 2] [] [.box ([.srf 2] ++ ((cA_t36 v_r197.2.fFds).map FV.d)), .none, .row 39 5 (v_r197.2.fThings.map eS_ringref5_Thing)] (.d (.v (.int .i64 v_r197.1))), .c, .r ((eI .i64) v_r200), .t true, .c, .c, .r (eS_open_Thing v_r941), .h [0] [] [.box ((cS_open_Table v_r942.2.2).map FV.d)] (.tup [.d (.v (.int .i64 v_r942.1)), .d (.v (.int .i64 v_r942.2.1))]), .c, .c, .h [1, 56] [] [.box ([.srf 2] ++ ((cA_t36 v_r943.2.2.fFds).map FV.d)), .none, .row 39 5 (v_r943.2.2.fThings.map eS_ringref5_Thing)] (.tup [.d (.v (.int .i64 v_r943.1)), .d (.v (.int .i64 v_r943.2.1))]), .t false, .c, .c]) [0, 1, 2, 176] (by kernel_rfl) (by kernel_rfl) (by kernel_rfl) (.cons (show 0 + 5 ≤ 5 by decide) (.cons (G_ringref5_Open_ErrFd_h_ok n v_r178 v_a179.fP v_a179.fFd _ h148) (.cons (G_ringref5_Rest_ok n v_a179.fKind 8 _ h152) (.cons (bt h737) (.cons (G_ringlaw5_thing_ok n v_a179.fThing _ h738) (.cons (G_open_Table_Open_h_ok n v_t177 v_a179.fP v_r941 _ h739) (.cons (G_ringref5_Open_Add_h_ok n v_r197.2 v_a179.fP v_a179.fThing _ h740) (.cons (bf h741) .nil))))))))
  · rw [if_neg h737] at h
    by_cases h797 : v_r200 = 1
    · rw [if_pos h797] at h
      obtain ⟨v_r1019, h798, h⟩ := bind_some h
      obtain ⟨v_o1036, h811, h⟩ := bind_some h
      refine pkk_sound TTok mix hF 19 (hs := [.c, .c, .c, .h [1, 2] [] [.box ([.srf 2] ++ ((cA_t36 v_r197.2.fFds).map FV.d)), .none, .row 39 5 (v_r197.2.fThings.map eS_ringref5_Thing)] (.d (.v (.int .i64 v_r197.1))), .c, .r ((eI .i64) v_r200), .t false, .t true, .c, .c, .h [0] [] [.box ((cS_open_Table v_r1019.2.2).map FV.d)] (.tup [.d (.agg [.v (.int .i64 v_r1019.1.fKind), .v (.int .i64 v_r1019.1.fId), .v (.int .i64 v_r1019.1.fMay), .v (.bool v_r1019.1.fMore), .v (.int .i64 v_r1019.1.fAt)]), .d (.v (.int .i64 v_r1019.2.1))]), .c]) (ts := []) (s := [3, 4, 5, 0, 1, 56, 2, 6, 21, 146]) (l := [1, 5, 7, 8, 13, 14]) (by kernel_rfl) (by kernel_rfl) (.cons (show 0 + 5 ≤ 5 by decide) (.cons (G_ringref5_Open_ErrFd_h_ok n v_r178 v_a179.fP v_a179.fFd _ h148) (.cons (G_ringref5_Rest_ok n v_a179.fKind 8 _ h152) (.cons (bf h737) (.cons (bt h797) (.cons (G_open_Table_Get_h_ok n v_t177 v_a179.fP v_a179.fFd _ h798) (.cons (show 0 + 5 ≤ 5 by decide) .nil))))))) (G_ringlaw5_opened_h_C1_ok hF (.s (cR (cR (cT (cR (cF (cR (cB (cR (cL (cR (cR (cR (bodyOf Try.f7))))))))))))) :: .b 0 :: .s (cR (cR (cR (cR (bodyOf Try.f7))))) :: []) n v_r197 v_r1019 v_a179 _ h811 ?_)
      cases v_o1036 with
      | x0 v_z1037 v_z1038 =>
        try dsimp only at h
        obtain rfl := Option.some.inj h
        exact pendH_sound TTok mix 3 (hs := []) [3, 4, 6, 5] (by kernel_rfl) (by kernel_rfl) (by kernel_rfl) .nil
      | x1 v_z1039 v_z1040 v_z1041 =>
        try dsimp only at h
        obtain rfl := Option.some.inj h
        exact pendH_sound TTok mix 3 (hs := []) [3, 4, 6, 5] (by kernel_rfl) (by kernel_rfl) (by kernel_rfl) .nil
    · rw [if_neg h797] at h
      by_cases h852 : v_r200 = 2
      · rw [if_pos h852] at h
        obtain ⟨v_o1101, h857, h⟩ := bind_some h
        refine pkk_sound TTok mix hF 21 (hs := [.c, .c, .c, .h [1, 2] [] [.box ([.srf 2] ++ ((cA_t36 v_r197.2.fFds).map FV.d)), .none, .row 39 5 (v_r197.2.fThings.map eS_ringref5_Thing)] (.d (.v (.int .i64 v_r197.1))), .c, .r ((eI .i64) v_r200), .t false, .t false, .t true]) (ts := []) (s := [3, 4, 5, 0, 1, 56, 2, 6]) (l := [0, 1, 5, 8]) (by kernel_rfl) (by kernel_rfl) (.cons (show 0 + 5 ≤ 5 by decide) (.cons (G_ringref5_Open_ErrFd_h_ok n v_r178 v_a179.fP v_a179.fFd _ h148) (.cons (G_ringref5_Rest_ok n v_a179.fKind 8 _ h152) (.cons (bf h737) (.cons (bf h797) (.cons (bt h852) .nil)))))) (G_ringlaw5_opened_h_C2_ok hF (.s (cR (cL (cT (cR (cF (cR (cF (cR (cB (cR (cL (cR (cR (cR (bodyOf Try.f7))))))))))))))) :: .s (cR (cT (cR (cF (cR (cF (cR (cB (cR (cL (cR (cR (cR (bodyOf Try.f7)))))))))))))) :: .b 0 :: .s (cR (cR (cR (cR (bodyOf Try.f7))))) :: []) n v_r197 v_t177 v_a179 _ h857 ?_)
        cases v_o1101 with
        | x0 v_z1102 v_z1103 =>
          try dsimp only at h
          by_cases h858 : v_z1102 = true
          · rw [if_pos h858] at h
            obtain ⟨v_r1104, h859, h⟩ := bind_some h
            obtain rfl := Option.some.inj h
            exact pendH_sound TTok mix 12 (hs := [.t true, .c, .c, .c, .c, .h [3] [] [.box ((cS_open_Table v_r1104.2).map FV.d)] (.d (.v (.int .i64 v_r1104.1)))]) [3, 4, 6, 5] (by kernel_rfl) (by kernel_rfl) (by kernel_rfl) (.cons h858 (.cons (G_open_Table_Seek_h_ok n v_t177 v_a179.fP v_a179.fFd v_a179.fTo _ h859) .nil))
          · rw [if_neg h858] at h
            by_cases h863 : v_r197.1 = 0
            · rw [if_pos h863] at h
              obtain ⟨v_r1107, h864, h⟩ := bind_some h
              obtain ⟨v_y1108, h865, h⟩ := bind_some h
              obtain ⟨v_r1109, h866, h⟩ := bind_some h
              obtain rfl := Option.some.inj h
              exact pendH_sound TTok mix 12 (hs := [.t false, .t true, .c, .c, .h [4, 5] [] [.box ([.srf 2] ++ ((cA_t36 v_r1107.2.fFds).map FV.d)), .none, .row 39 5 (v_r1107.2.fThings.map eS_ringref5_Thing)] (.ept 2 5 v_r1107.1 0), .c, .w ((v_r1107.2.fThings.set v_r1107.1 (S_ringref5_Thing.mk v_y1108.fKind v_y1108.fId v_y1108.fMay v_y1108.fMore v_a179.fTo)).map eS_ringref5_Thing), .y (eS_ringref5_Thing v_y1108), .c, .c, .c, .h [3] [] [.box ((cS_open_Table v_r1109.2).map FV.d)] (.d (.v (.int .i64 v_r1109.1)))]) [3, 4, 6, 43] (by kernel_rfl) (by kernel_rfl) (by kernel_rfl) (.cons (vf h858) (.cons (bt h863) (.cons (G_ringref5_Open_At_h_ok n (S_ringref5_Open.mk v_z1103 v_r197.2.fFds) v_a179.fP v_a179.fFd _ h864) (.cons (get_ob (f := eS_ringref5_Thing) h865) (.cons (Eq.refl (pcells (.agg [.v (.int .i64 v_y1108.fKind), .v (.int .i64 v_y1108.fId), .v (.int .i64 v_y1108.fMay), .v (.bool v_y1108.fMore), .v (.int .i64 v_a179.fTo)]))) (.cons (set_ob (f := eS_ringref5_Thing) (l := v_r1107.2.fThings) (k := v_r1107.1) (z := (S_ringref5_Thing.mk v_y1108.fKind v_y1108.fId v_y1108.fMay v_y1108.fMore v_a179.fTo)) (p := .agg [.v (.int .i64 v_y1108.fKind), .v (.int .i64 v_y1108.fId), .v (.int .i64 v_y1108.fMay), .v (.bool v_y1108.fMore), .v (.int .i64 v_a179.fTo)]) rfl) (.cons (G_open_Table_Seek_h_ok n v_t177 v_a179.fP v_a179.fFd v_a179.fTo _ h866) .nil)))))))
            · rw [if_neg h863] at h
              obtain ⟨v_r1110, h867, h⟩ := bind_some h
              obtain rfl := Option.some.inj h
              exact pendH_sound TTok mix 12 (hs := [.t false, .t false, .c, .c, .c, .h [3] [] [.box ((cS_open_Table v_r1110.2).map FV.d)] (.d (.v (.int .i64 v_r1110.1)))]) [3, 4, 6, 5] (by kernel_rfl) (by kernel_rfl) (by kernel_rfl) (.cons (vf h858) (.cons (bf h863) (.cons (G_open_Table_Seek_h_ok n v_t177 v_a179.fP v_a179.fFd v_a179.fTo _ h867) .nil)))
      · rw [if_neg h852] at h
        by_cases h892 : v_r200 = 3
        · rw [if_pos h892] at h
          obtain ⟨v_r1146, h893, h⟩ := bind_some h
          by_cases h900 : v_r197.1 = 0
          · rw [if_pos h900] at h
            obtain ⟨v_r1167, h906, h⟩ := bind_some h
            obtain ⟨v_o1177, h913, h⟩ := bind_some h
            refine pkk_sound TTok mix hF 32 (hs := [.c, .c, .c, .h [1, 2] [] [.box ([.srf 2] ++ ((cA_t36 v_r197.2.fFds).map FV.d)), .none, .row 39 5 (v_r197.2.fThings.map eS_ringref5_Thing)] (.d (.v (.int .i64 v_r197.1))), .c, .r ((eI .i64) v_r200), .t false, .t false, .t false, .t true, .c, .c, .h [0] [] [.box ((cS_open_Table v_r1146.2.2.2).map FV.d)] (.tup [.d (.agg [.v (.int .i64 v_r1146.1.fKind), .v (.int .i64 v_r1146.1.fId), .v (.int .i64 v_r1146.1.fMay), .v (.bool v_r1146.1.fMore), .v (.int .i64 v_r1146.1.fAt)]), .d (.v (.bool v_r1146.2.1)), .d (.v (.int .i64 v_r1146.2.2.1))]), .c, .t false, .c, .c, .h [1, 56] [] [.box ([.srf 2] ++ ((cA_t36 v_r1167.2.2.fFds).map FV.d)), .none, .row 39 5 (v_r1167.2.2.fThings.map eS_ringref5_Thing)] (.tup [.d (.agg [.v (.int .i64 v_r1167.1.fKind), .v (.int .i64 v_r1167.1.fId), .v (.int .i64 v_r1167.1.fMay), .v (.bool v_r1167.1.fMore), .v (.int .i64 v_r1167.1.fAt)]), .d (.v (.bool v_r1167.2.1))]), .c]) (ts := []) (s := [3, 4, 5, 0, 1, 226, 2, 171, 246]) (l := [15, 16, 17, 18, 19]) (by kernel_rfl) (by kernel_rfl) (.cons (show 0 + 5 ≤ 5 by decide) (.cons (G_ringref5_Open_ErrFd_h_ok n v_r178 v_a179.fP v_a179.fFd _ h148) (.cons (G_ringref5_Rest_ok n v_a179.fKind 8 _ h152) (.cons (bf h737) (.cons (bf h797) (.cons (bf h852) (.cons (bt h892) (.cons (G_open_Table_Close_h_ok n v_t177 v_a179.fP v_a179.fFd _ h893) (.cons (show 0 + 5 ≤ 5 by decide) (.cons (nf h900) (.cons (G_ringref5_Open_Less_h_ok n v_r197.2 v_a179.fP v_a179.fFd _ h906) (.cons (show 0 + 5 ≤ 5 by decide) .nil)))))))))))) (G_ringlaw5_opened_h_C4_ok hF (.s (cR (cR (cR (cR (cT (cR (cF (cR (cF (cR (cF (cR (cB (cR (cL (cR (cR (cR (bodyOf Try.f7))))))))))))))))))) :: .b 0 :: .s (cR (cR (cR (cR (bodyOf Try.f7))))) :: []) n v_r1146 v_r1167 _ h913 ?_)
            cases v_o1177 with
            | x0 v_z1178 v_z1179 =>
              try dsimp only at h
              obtain rfl := Option.some.inj h
              exact pendH_sound TTok mix 3 (hs := []) [3, 4, 6, 5] (by kernel_rfl) (by kernel_rfl) (by kernel_rfl) .nil
          · rw [if_neg h900] at h
            obtain ⟨v_o1164, h905, h⟩ := bind_some h
            refine pkk_sound TTok mix hF 29 (hs := [.c, .c, .c, .h [1, 2] [] [.box ([.srf 2] ++ ((cA_t36 v_r197.2.fFds).map FV.d)), .none, .row 39 5 (v_r197.2.fThings.map eS_ringref5_Thing)] (.d (.v (.int .i64 v_r197.1))), .c, .r ((eI .i64) v_r200), .t false, .t false, .t false, .t true, .c, .c, .h [0] [] [.box ((cS_open_Table v_r1146.2.2.2).map FV.d)] (.tup [.d (.agg [.v (.int .i64 v_r1146.1.fKind), .v (.int .i64 v_r1146.1.fId), .v (.int .i64 v_r1146.1.fMay), .v (.bool v_r1146.1.fMore), .v (.int .i64 v_r1146.1.fAt)]), .d (.v (.bool v_r1146.2.1)), .d (.v (.int .i64 v_r1146.2.2.1))]), .c, .t true]) (ts := []) (s := [3, 4, 5, 0, 1, 56, 2, 21, 171]) (l := [7, 8, 15, 16, 17]) (by kernel_rfl) (by kernel_rfl) (.cons (show 0 + 5 ≤ 5 by decide) (.cons (G_ringref5_Open_ErrFd_h_ok n v_r178 v_a179.fP v_a179.fFd _ h148) (.cons (G_ringref5_Rest_ok n v_a179.fKind 8 _ h152) (.cons (bf h737) (.cons (bf h797) (.cons (bf h852) (.cons (bt h892) (.cons (G_open_Table_Close_h_ok n v_t177 v_a179.fP v_a179.fFd _ h893) (.cons (show 0 + 5 ≤ 5 by decide) (.cons (nt h900) .nil)))))))))) (G_ringlaw5_opened_h_C3_ok hF (.s (cR (cT (cR (cL (cR (cT (cR (cF (cR (cF (cR (cF (cR (cB (cR (cL (cR (cR (cR (bodyOf Try.f7)))))))))))))))))))) :: .s (cR (cR (cT (cR (cF (cR (cF (cR (cF (cR (cB (cR (cL (cR (cR (cR (bodyOf Try.f7))))))))))))))))) :: .b 0 :: .s (cR (cR (cR (cR (bodyOf Try.f7))))) :: []) n v_r197 v_r1146 _ h905 ?_)
            cases v_o1164 with
            | x0 v_z1165 v_z1166 =>
              try dsimp only at h
              obtain rfl := Option.some.inj h
              exact pendH_sound TTok mix 4 (hs := []) [3, 4, 6, 5] (by kernel_rfl) (by kernel_rfl) (by kernel_rfl) .nil
        · rw [if_neg h892] at h
          by_cases h916 : v_r200 = 4
          · rw [if_pos h916] at h
            obtain ⟨v_r1181, h917, h⟩ := bind_some h
            obtain rfl := Option.some.inj h
            exact pendH_sound TTok mix 30 (hs := [.c, .c, .c, .h [1, 2] [] [.box ([.srf 2] ++ ((cA_t36 v_r197.2.fFds).map FV.d)), .none, .row 39 5 (v_r197.2.fThings.map eS_ringref5_Thing)] (.d (.v (.int .i64 v_r197.1))), .c, .r ((eI .i64) v_r200), .t false, .t false, .t false, .t false, .t true, .c, .h [0, 1, 56] [] [.box ((cS_open_Table v_r1181.2.1).map FV.d), .box ([.srf 3] ++ ((cA_t36 v_r1181.2.2.fFds).map FV.d)), .none, .row 39 5 (v_r1181.2.2.fThings.map eS_ringref5_Thing)] (.d (.v (.bool v_r1181.1)))]) [0, 1, 2, 151] (by kernel_rfl) (by kernel_rfl) (by kernel_rfl) (.cons (show 0 + 5 ≤ 5 by decide) (.cons (G_ringref5_Open_ErrFd_h_ok n v_r178 v_a179.fP v_a179.fFd _ h148) (.cons (G_ringref5_Rest_ok n v_a179.fKind 8 _ h152) (.cons (bf h737) (.cons (bf h797) (.cons (bf h852) (.cons (bf h892) (.cons (bt h916) (.cons (G_ringlaw5_dupped_h_ok n v_t177 v_r197.2 v_a179 v_r197.1 _ h917) .nil)))))))))
          · rw [if_neg h916] at h
            obtain ⟨v_r1491, h1169, h⟩ := bind_some h
            obtain rfl := Option.some.inj h
            exact pendH_sound TTok mix 30 (hs := [.c, .c, .c, .h [1, 2] [] [.box ([.srf 2] ++ ((cA_t36 v_r197.2.fFds).map FV.d)), .none, .row 39 5 (v_r197.2.fThings.map eS_ringref5_Thing)] (.d (.v (.int .i64 v_r197.1))), .c, .r ((eI .i64) v_r200), .t false, .t false, .t false, .t false, .t false, .c, .h [0, 1, 56] [] [.box ((cS_open_Table v_r1491.2.1).map FV.d), .box ([.srf 3] ++ ((cA_t36 v_r1491.2.2.fFds).map FV.d)), .none, .row 39 5 (v_r1491.2.2.fThings.map eS_ringref5_Thing)] (.d (.v (.bool v_r1491.1)))]) [0, 1, 2, 146] (by kernel_rfl) (by kernel_rfl) (by kernel_rfl) (.cons (show 0 + 5 ≤ 5 by decide) (.cons (G_ringref5_Open_ErrFd_h_ok n v_r178 v_a179.fP v_a179.fFd _ h148) (.cons (G_ringref5_Rest_ok n v_a179.fKind 8 _ h152) (.cons (bf h737) (.cons (bf h797) (.cons (bf h852) (.cons (bf h892) (.cons (bf h916) (.cons (G_ringlaw5_forked_h_ok n v_t177 v_r197.2 v_a179 _ h1169) .nil)))))))))
inductive G_ringlaw5_OpenPlays_L1_R where
  | x0 (v_x1683 : Bool)
  | x1 
def G_ringlaw5_OpenPlays_L1_ex : G_ringlaw5_OpenPlays_L1_R → Ex
  | .x0 _ => .ret
  | .x1  => .exit 0
def G_ringlaw5_OpenPlays_L1_st (v_l1 : (List S_ringlaw5_Act)) : G_ringlaw5_OpenPlays_L1_R → PS
  | .x0 v_x1683 => ⟨(dd :: dd :: .d (.v (.bool v_x1683)) :: (dds 49 [])), []⟩
  | .x1  => ⟨(dds 52 []), []⟩
def G_ringlaw5_OpenPlays_L1_hd (v_l1 : (List S_ringlaw5_Act)) (v_x1674 : Int) (v_b1675 : S_open_Table) (v_b1676 : (Fin 17 → (Fin 8 → Int))) (v_w1677 : (List S_ringref5_Thing)) : PS := ⟨(dd :: dd :: dd :: .ref 0 0 :: dd :: dd :: dd :: dd :: .ref 1 0 :: (dds 31 (.d (.sl (v_l1.map eS_ringlaw5_Act)) :: .d (.v (.int .i64 (v_l1.length : Int))) :: .d (.v (.int .i64 v_x1674)) :: (dds 9 [])))), [.box ((cS_open_Table v_b1675).map FV.d), .box ([.srf 2] ++ ((cA_t36 v_b1676).map FV.d)), .row 39 5 (v_w1677.map eS_ringref5_Thing)]⟩
def G_ringlaw5_OpenPlays_L1 (n : Nat) (v_l1 : (List S_ringlaw5_Act)) : Nat → Int → S_open_Table → (Fin 17 → (Fin 8 → Int)) → (List S_ringref5_Thing) → Option G_ringlaw5_OpenPlays_L1_R
  | 0, _, _, _, _ => none
  | k + 1, v_x1674, v_b1675, v_b1676, v_w1677 =>
    if v_x1674 < (v_l1.length : Int) then
     (getI v_l1 v_x1674).bind fun (v_y1681 : S_ringlaw5_Act) =>
     (G_ringlaw5_opened_h n v_b1675 (S_ringref5_Open.mk v_w1677 v_b1676) v_y1681).bind fun (v_r1682 : (Bool × S_open_Table × S_ringref5_Open)) =>
     if v_r1682.1 = true then
      G_ringlaw5_OpenPlays_L1 n v_l1 k (wi .i64 (v_x1674 + 1)) v_r1682.2.1 v_r1682.2.2.fFds v_r1682.2.2.fThings
     else
      some (.x0 false)
    else
     some (.x1 )
theorem G_ringlaw5_OpenPlays_L1_ok {Fi : Ex → PS → Prop} (hF : KC 52 Fi) (ks : List Fr) (n : Nat) (v_l1 : (List S_ringlaw5_Act))  : ∀ (k : Nat) (v_x1674 : Int) (v_b1675 : S_open_Table) (v_b1676 : (Fin 17 → (Fin 8 → Int))) (v_w1677 : (List S_ringref5_Thing)) (o : G_ringlaw5_OpenPlays_L1_R), G_ringlaw5_OpenPlays_L1 n v_l1 k v_x1674 v_b1675 v_b1676 v_w1677 = some o → RunE Try.prog 52 Fi ks (G_ringlaw5_OpenPlays_L1_ex o) (G_ringlaw5_OpenPlays_L1_st v_l1 o) → RunE Try.prog 52 Fi (.l k (cP (cB (cR (cL (cR (cR (cR (cR (cR (cR (bodyOf Try.f3))))))))))) :: ks) .normal (G_ringlaw5_OpenPlays_L1_hd v_l1 v_x1674 v_b1675 v_b1676 v_w1677)
  | 0, v_x1674, v_b1675, v_b1676, v_w1677, o, h, q => by rw [G_ringlaw5_OpenPlays_L1] at h; cases h
  | k + 1, v_x1674, v_b1675, v_b1676, v_w1677, o, h, q => by
    rw [G_ringlaw5_OpenPlays_L1] at h
    by_cases h1240 : v_x1674 < (v_l1.length : Int)
    · rw [if_pos h1240] at h
      obtain ⟨v_y1681, h1244, h⟩ := bind_some h
      obtain ⟨v_r1682, h1245, h⟩ := bind_some h
      by_cases h1246 : v_r1682.1 = true
      · rw [if_pos h1246] at h
        exact pkk_sound TTok mix hF 16 (hs := [.t true, .y (eS_ringlaw5_Act v_y1681), .c, .c, .h [0, 1, 2] [] [.box ((cS_open_Table v_r1682.2.1).map FV.d), .box ([.srf 3] ++ ((cA_t36 v_r1682.2.2.fFds).map FV.d)), .none, .row 39 5 (v_r1682.2.2.fThings.map eS_ringref5_Thing)] (.d (.v (.bool v_r1682.1))), .t false]) (ts := []) (s := [0, 1, 43]) (l := [3, 8, 40, 41, 42]) (by kernel_rfl) (by kernel_rfl) (.cons (dt h1240) (.cons (getI_ob (f := eS_ringlaw5_Act) h1244) (.cons (show 0 + 9 ≤ 9 by decide) (.cons (G_ringlaw5_opened_h_ok n v_b1675 (S_ringref5_Open.mk v_w1677 v_b1676) v_y1681 _ h1245) (.cons (bnf h1246) .nil))))) (G_ringlaw5_OpenPlays_L1_ok hF ks n v_l1 k (wi .i64 (v_x1674 + 1)) v_r1682.2.1 v_r1682.2.2.fFds v_r1682.2.2.fThings _ h q)
      · rw [if_neg h1246] at h
        cases h
        exact pkk_sound TTok mix hF 19 (hs := [.t true, .y (eS_ringlaw5_Act v_y1681), .c, .c, .h [0, 1, 2] [] [.box ((cS_open_Table v_r1682.2.1).map FV.d), .box ([.srf 3] ++ ((cA_t36 v_r1682.2.2.fFds).map FV.d)), .none, .row 39 5 (v_r1682.2.2.fThings.map eS_ringref5_Thing)] (.d (.v (.bool v_r1682.1))), .t true]) (ts := []) (s := []) (l := [2]) (by kernel_rfl) (by kernel_rfl) (.cons (dt h1240) (.cons (getI_ob (f := eS_ringlaw5_Act) h1244) (.cons (show 0 + 9 ≤ 9 by decide) (.cons (G_ringlaw5_opened_h_ok n v_b1675 (S_ringref5_Open.mk v_w1677 v_b1676) v_y1681 _ h1245) (.cons (bnt (vf h1246)) .nil))))) q
    · rw [if_neg h1240] at h
      cases h
      exact pkk_sound TTok mix hF 8 (hs := [.t false]) (ts := []) (s := []) (l := []) (by kernel_rfl) (by kernel_rfl) (.cons (df h1240) .nil) q
def G_ringlaw5_OpenPlays_J1 (n : Nat) (v_l1 : (List S_ringlaw5_Act)) (v_b1641 : S_open_Table) (v_x1642 : Bool) : Option (Bool) :=
  if v_x1642 = true then
   some false
  else
   (G_ringlaw5_OpenPlays_L1 n v_l1 n 0 v_b1641 (fun (_ : Fin 17) => (fun (_ : Fin 8) => 0)) ([] : List S_ringref5_Thing)).bind fun v_o1684 => match v_o1684 with
   | .x0 v_z1685 =>
     some v_z1685
   | .x1  =>
     some true
theorem G_ringlaw5_OpenPlays_J1_ok (n : Nat) (v_l1 : (List S_ringlaw5_Act))  (v_b1641 : S_open_Table) (v_x1642 : Bool) (r : Bool) (h : G_ringlaw5_OpenPlays_J1 n v_l1 v_b1641 v_x1642 = some r) : RunE Try.prog 52 (FinR Try.prog Try.f3 (eB r)) (.s (cR (cR (cL (cR (cR (cR (cR (bodyOf Try.f3)))))))) :: .s (cR (cR (cR (cR (cR (bodyOf Try.f3)))))) :: []) .normal ⟨(.d (.sl (v_l1.map eS_ringlaw5_Act)) :: dd :: dd :: .ref 0 0 :: (dds 33 (.d (.v (.bool v_x1642)) :: (dds 14 [])))), [.box ((cS_open_Table v_b1641).map FV.d)]⟩ := by
  have hF : KC 52 (FinR Try.prog Try.f3 (eB r)) := FinR.kc' (by kernel_rfl)
  unfold G_ringlaw5_OpenPlays_J1 at h
  by_cases h1225 : v_x1642 = true
  · rw [if_pos h1225] at h
    obtain rfl := Option.some.inj h
    exact pend_sound TTok mix 5 (hs := [.t true]) (by kernel_rfl) (by kernel_rfl) (by kernel_rfl) (.cons h1225 .nil)
  · rw [if_neg h1225] at h
    obtain ⟨v_o1684, h1247, h⟩ := bind_some h
    refine pkk_sound TTok mix hF 10 (hs := [.t false, .u (.d (.v (.int .i64 (v_l1.length : Int)))), .dl 1, .tb 6 0 39 5, .n n]) (ts := []) (s := [0, 6, 31]) (l := [3, 8, 40, 41, 42]) (by kernel_rfl) (by kernel_rfl) (.cons (vf h1225) (.cons (len_ob (f := eS_ringlaw5_Act) (l := v_l1)) .nil)) (G_ringlaw5_OpenPlays_L1_ok hF (.b 0 :: .s (cR (cR (cR (cR (cR (cR (cR (bodyOf Try.f3)))))))) :: []) n v_l1 n 0 v_b1641 (fun (_ : Fin 17) => (fun (_ : Fin 8) => 0)) ([] : List S_ringref5_Thing) _ h1247 ?_)
    cases v_o1684 with
    | x0 v_z1685 =>
      try dsimp only at h
      obtain rfl := Option.some.inj h
      exact pend_sound TTok mix 2 (hs := []) (by kernel_rfl) (by kernel_rfl) (by kernel_rfl) .nil
    | x1  =>
      try dsimp only at h
      obtain rfl := Option.some.inj h
      exact pend_sound TTok mix 4 (hs := []) (by kernel_rfl) (by kernel_rfl) (by kernel_rfl) .nil
def G_ringlaw5_OpenPlays_J2 (n : Nat) (v_l1 : (List S_ringlaw5_Act)) (v_b1625 : S_open_Table) (v_x1626 : Bool) : Option (Bool) :=
  if v_x1626 = true then
   some false
  else
   (G_open_Table_Drop_h n v_b1625 16).bind fun (v_r1632 : ((List S_open_Thing) × Int × S_open_Table)) =>
   if v_r1632.2.1 = 0 then
    G_ringlaw5_OpenPlays_J1 n v_l1 v_r1632.2.2 ((v_r1632.1.length : Int) != 1)
   else
    G_ringlaw5_OpenPlays_J1 n v_l1 v_r1632.2.2 true
theorem G_ringlaw5_OpenPlays_J2_ok (n : Nat) (v_l1 : (List S_ringlaw5_Act))  (v_b1625 : S_open_Table) (v_x1626 : Bool) (r : Bool) (h : G_ringlaw5_OpenPlays_J2 n v_l1 v_b1625 v_x1626 = some r) : RunE Try.prog 52 (FinR Try.prog Try.f3 (eB r)) (.s (cR (cR (cL (cR (cR (cR (bodyOf Try.f3))))))) :: .s (cR (cR (cR (cR (bodyOf Try.f3))))) :: []) .normal ⟨(.d (.sl (v_l1.map eS_ringlaw5_Act)) :: dd :: dd :: .ref 0 0 :: (dds 21 (.d (.v (.bool v_x1626)) :: (dds 26 [])))), [.box ((cS_open_Table v_b1625).map FV.d)]⟩ := by
  have hF : KC 52 (FinR Try.prog Try.f3 (eB r)) := FinR.kc' (by kernel_rfl)
  unfold G_ringlaw5_OpenPlays_J2 at h
  by_cases h1222 : v_x1626 = true
  · rw [if_pos h1222] at h
    obtain rfl := Option.some.inj h
    exact pend_sound TTok mix 5 (hs := [.t true]) (by kernel_rfl) (by kernel_rfl) (by kernel_rfl) (.cons h1222 .nil)
  · rw [if_neg h1222] at h
    obtain ⟨v_r1632, h1223, h⟩ := bind_some h
    by_cases h1224 : v_r1632.2.1 = 0
    · rw [if_pos h1224] at h
      exact pkk_sound TTok mix hF 7 (hs := [.t false, .h [0] [] [.box ((cS_open_Table v_r1632.2.2).map FV.d)] (.tup [.d (.sl (v_r1632.1.map eS_open_Thing)), .d (.v (.int .i64 v_r1632.2.1))]), .t false, .c, .u (.d (.v (.int .i64 (v_r1632.1.length : Int)))), .c]) (ts := []) (s := [0]) (l := [0, 3, 37]) (by kernel_rfl) (by kernel_rfl) (.cons (vf h1222) (.cons (G_open_Table_Drop_h_ok n v_b1625 16 _ h1223) (.cons (nf h1224) (.cons (len_ob (f := eS_open_Thing) (l := v_r1632.1)) .nil)))) (G_ringlaw5_OpenPlays_J1_ok n v_l1 v_r1632.2.2 ((v_r1632.1.length : Int) != 1) _ h)
    · rw [if_neg h1224] at h
      exact pkk_sound TTok mix hF 7 (hs := [.t false, .h [0] [] [.box ((cS_open_Table v_r1632.2.2).map FV.d)] (.tup [.d (.sl (v_r1632.1.map eS_open_Thing)), .d (.v (.int .i64 v_r1632.2.1))]), .t true, .c, .c]) (ts := []) (s := [0]) (l := [0, 3, 37]) (by kernel_rfl) (by kernel_rfl) (.cons (vf h1222) (.cons (G_open_Table_Drop_h_ok n v_b1625 16 _ h1223) (.cons (nt h1224) .nil))) (G_ringlaw5_OpenPlays_J1_ok n v_l1 v_r1632.2.2 true _ h)
/- ringhall/ringlaw5.OpenPlays -/
def G_ringlaw5_OpenPlays (n : Nat) (v_l1 : (List S_ringlaw5_Act)) : Option (Bool) :=
  (G_open_New_h n ).bind fun (v_r1606 : (S_open_Table)) =>
  (G_open_Table_Open_h n v_r1606 16 (S_open_Thing.mk 1 0 0 false 0)).bind fun (v_r1616 : (Int × Int × S_open_Table)) =>
  if v_r1616.2.1 = 0 then
   G_ringlaw5_OpenPlays_J2 n v_l1 v_r1616.2.2 (v_r1616.1 != 0)
  else
   G_ringlaw5_OpenPlays_J2 n v_l1 v_r1616.2.2 true
theorem G_ringlaw5_OpenPlays_ok (n : Nat) (v_l1 : (List S_ringlaw5_Act)) (r : Bool) (h : G_ringlaw5_OpenPlays n v_l1 = some r) : Ret Try.prog 3 [(eL eS_ringlaw5_Act) v_l1] (eB r) := by
  refine ret_run (n := 52) (fn := Try.f3) (c := bodyOf Try.f3) (by kernel_rfl) (by kernel_rfl) (by kernel_rfl) (by kernel_rfl) ?_
  have hF : KC 52 (FinR Try.prog Try.f3 (eB r)) := FinR.kc' (by kernel_rfl)
  unfold G_ringlaw5_OpenPlays at h
  obtain ⟨v_r1606, h1219, h⟩ := bind_some h
  obtain ⟨v_r1616, h1220, h⟩ := bind_some h
  by_cases h1221 : v_r1616.2.1 = 0
  · rw [if_pos h1221] at h
    exact pkk_sound TTok mix hF 14 (hs := [.h [] [] [.box ((cS_open_Table v_r1606).map FV.d)] (.ref 0 0), .e 20 [] (.d (.v (.bool false))) [], .c, .h [5] [] [.box ((cS_open_Table v_r1616.2.2).map FV.d)] (.tup [.d (.v (.int .i64 v_r1616.1)), .d (.v (.int .i64 v_r1616.2.1))]), .t false, .c]) (ts := []) (s := [5]) (l := [0, 3, 25]) (by kernel_rfl) (by kernel_rfl) (.cons (G_open_New_h_ok n  _ h1219) (.cons (xnilP (P := Try.prog) (T := TT) (op := .eql) (t := 23) (e := 48) (ty' := 23) (x := (.tmp 12)) (y := (.const (.pointer none))) (l := 5) (off := 0) rfl (by kernel_rfl)) (.cons (G_open_Table_Open_h_ok n v_r1606 16 (S_open_Thing.mk 1 0 0 false 0) _ h1220) (.cons (nf h1221) .nil)))) (G_ringlaw5_OpenPlays_J2_ok n v_l1 v_r1616.2.2 (v_r1616.1 != 0) _ h)
  · rw [if_neg h1221] at h
    exact pkk_sound TTok mix hF 14 (hs := [.h [] [] [.box ((cS_open_Table v_r1606).map FV.d)] (.ref 0 0), .e 20 [] (.d (.v (.bool false))) [], .c, .h [5] [] [.box ((cS_open_Table v_r1616.2.2).map FV.d)] (.tup [.d (.v (.int .i64 v_r1616.1)), .d (.v (.int .i64 v_r1616.2.1))]), .t true, .c]) (ts := []) (s := [5]) (l := [0, 3, 25]) (by kernel_rfl) (by kernel_rfl) (.cons (G_open_New_h_ok n  _ h1219) (.cons (xnilP (P := Try.prog) (T := TT) (op := .eql) (t := 23) (e := 48) (ty' := 23) (x := (.tmp 12)) (y := (.const (.pointer none))) (l := 5) (off := 0) rfl (by kernel_rfl)) (.cons (G_open_Table_Open_h_ok n v_r1606 16 (S_open_Thing.mk 1 0 0 false 0) _ h1220) (.cons (nt h1221) .nil)))) (G_ringlaw5_OpenPlays_J2_ok n v_l1 v_r1616.2.2 true _ h)
def okS_ringref5_Thing (x : S_ringref5_Thing) : Prop := (fun a => (Lit.int .i64 a).wf = true) x.fKind ∧ (fun a => (Lit.int .i64 a).wf = true) x.fId ∧ (fun a => (Lit.int .i64 a).wf = true) x.fMay ∧ (fun _ => True) x.fMore ∧ (fun a => (Lit.int .i64 a).wf = true) x.fAt ∧ True
theorem brS_ringref5_Thing : Br (.pair (.int .i64) (.pair (.int .i64) (.pair (.int .i64) (.pair .bool (.pair (.int .i64) .unit))))) (fun x : S_ringref5_Thing => [.v (.int .i64 x.fKind), .v (.int .i64 x.fId), .v (.int .i64 x.fMay), .v (.bool x.fMore), .v (.int .i64 x.fAt)]) okS_ringref5_Thing := br_map (br_pair (br_int .i64) (br_pair (br_int .i64) (br_pair (br_int .i64) (br_pair br_bool (br_pair (br_int .i64) br_unit))))) (fun p => S_ringref5_Thing.mk p.1 p.2.1 p.2.2.1 p.2.2.2.1 p.2.2.2.2.1) (fun p h => ⟨rfl, h⟩)
def okS_ringlaw5_Act (x : S_ringlaw5_Act) : Prop := (fun a => (Lit.int .i64 a).wf = true) x.fKind ∧ (fun a => (Lit.int .i64 a).wf = true) x.fP ∧ (fun a => (Lit.int .i64 a).wf = true) x.fFd ∧ (fun a => (Lit.int .i64 a).wf = true) x.fTo ∧ okS_ringref5_Thing x.fThing ∧ True
theorem brS_ringlaw5_Act : Br (.pair (.int .i64) (.pair (.int .i64) (.pair (.int .i64) (.pair (.int .i64) (.pair (.pair (.int .i64) (.pair (.int .i64) (.pair (.int .i64) (.pair .bool (.pair (.int .i64) .unit))))) .unit))))) (fun x : S_ringlaw5_Act => [.v (.int .i64 x.fKind), .v (.int .i64 x.fP), .v (.int .i64 x.fFd), .v (.int .i64 x.fTo), .v (.int .i64 x.fThing.fKind), .v (.int .i64 x.fThing.fId), .v (.int .i64 x.fThing.fMay), .v (.bool x.fThing.fMore), .v (.int .i64 x.fThing.fAt)]) okS_ringlaw5_Act := br_map (br_pair (br_int .i64) (br_pair (br_int .i64) (br_pair (br_int .i64) (br_pair (br_int .i64) (br_pair brS_ringref5_Thing br_unit))))) (fun p => S_ringlaw5_Act.mk p.1 p.2.1 p.2.2.1 p.2.2.2.1 p.2.2.2.2.1) (fun p h => ⟨rfl, h⟩)
theorem OpenPlays_walk (H : ∀ (a0 : (List S_ringlaw5_Act)), (okL 72 okS_ringlaw5_Act) a0 → ∃ n, G_ringlaw5_OpenPlays n a0 = some true) (w : World) (v0 : Value) (h0 : rep.Arg w (.slice 72 (.pair (.int .i64) (.pair (.int .i64) (.pair (.int .i64) (.pair (.int .i64) (.pair (.pair (.int .i64) (.pair (.int .i64) (.pair (.int .i64) (.pair .bool (.pair (.int .i64) .unit))))) .unit)))))) v0) : Calls Try.prog 3 #[v0] w (help.Ret (.bool true) w) := by
  obtain ⟨a0, o0, r0⟩ := arg_one (br_slice (f := eS_ringlaw5_Act) (ok := okS_ringlaw5_Act) brS_ringlaw5_Act (fun _ => rfl) (by decide)) (by rfl) h0
  obtain ⟨n, hn⟩ := H a0 o0
  exact walk_of (G_ringlaw5_OpenPlays_ok n a0 true hn) (RT_cons r0 RT_nil)
/- FRAME OpenPlays; ringhall/ringlaw5.OpenPlays; (.slice 72 (.pair (.int .i64) (.pair (.int .i64) (.pair (.int .i64) (.pair (.int .i64) (.pair (.pair (.int .i64) (.pair (.int .i64) (.pair (.int .i64) (.pair .bool (.pair (.int .i64) .unit))))) .unit)))))); .slice none 0 0 -/
end Go.Proofs.Ytlnlhppaiagafaa.pv
