/- What the functions compute (part 3): written by gen.py. -/
import Derived.Test.YtnmpnljjaoddhaaGuTableTellsP2
set_option maxRecDepth 100000
set_option linter.all false
namespace Go.Proofs.Ytnmpnljjaoddhaa.pv
open Go.RowKit
def G_ringlaw2_TableTells_C28 (n : Nat) (v_r340 : ((Fin 8 → S_table_Node) × Int)) (v_r365 : ((Fin 8 → S_table_Node) × Int)) (v_r461 : (Int)) : Option G_ringlaw2_TableTells_C28_R :=
  (G_ringlaw2_TableTells_1 n v_r340.1).bind fun (v_r1051 : (Bool)) =>
  if v_r1051 = true then
   if v_r340.2 = v_r461 then
    (G_ringlaw2_TableTells_1 n v_r365.1).bind fun (v_r1052 : (Bool)) =>
    if v_r1052 = true then
     some (.x0 (v_r365.2 == v_r461))
    else
     some (.x0 false)
   else
    some (.x0 false)
  else
   some (.x0 false)
theorem G_ringlaw2_TableTells_C28_ok {Fi : Ex → PS → Prop} (hF : KC 315 Fi) (ks : List Fr) (n : Nat) (v_r340 : ((Fin 8 → S_table_Node) × Int)) (v_r365 : ((Fin 8 → S_table_Node) × Int)) (v_r461 : (Int))  (o : G_ringlaw2_TableTells_C28_R) (h : G_ringlaw2_TableTells_C28 n v_r340 v_r365 v_r461 = some o) (q : RunE Try.prog 315 Fi ks (G_ringlaw2_TableTells_C28_ex o) (G_ringlaw2_TableTells_C28_st v_r340 v_r365 v_r461 o)) : RunE Try.prog 315 Fi (.s (cL (cT (cR (cL (cR (cR (cR (cR (cR (cR (cR (cR (cR (cR (cR (cR (cR (cR (bodyOf Try.f5))))))))))))))))))) :: ks) .normal (G_ringlaw2_TableTells_C28_hd v_r340 v_r365 v_r461) := by
  unfold G_ringlaw2_TableTells_C28 at h
  obtain ⟨v_r1051, h1407, h⟩ := bind_some h
  by_cases h1408 : v_r1051 = true
  · rw [if_pos h1408] at h
    by_cases h1409 : v_r340.2 = v_r461
    · rw [if_pos h1409] at h
      obtain ⟨v_r1052, h1410, h⟩ := bind_some h
      by_cases h1411 : v_r1052 = true
      · rw [if_pos h1411] at h
        cases h
        exact pkk_sound TTok mix hF 1 (hs := [.c, .r (eB v_r1051), .t true, .c, .c, .t true, .c, .c, .c, .r (eB v_r1052), .t true, .c, .c]) (ts := []) (s := []) (l := [8]) (by kernel_rfl) (by kernel_rfl) (.cons (G_ringlaw2_TableTells_1_ok n v_r340.1 _ h1407) (.cons h1408 (.cons (bt h1409) (.cons (G_ringlaw2_TableTells_1_ok n v_r365.1 _ h1410) (.cons h1411 .nil))))) q
      · rw [if_neg h1411] at h
        cases h
        exact pkk_sound TTok mix hF 1 (hs := [.c, .r (eB v_r1051), .t true, .c, .c, .t true, .c, .c, .c, .r (eB v_r1052), .t false, .c, .c]) (ts := []) (s := []) (l := [8]) (by kernel_rfl) (by kernel_rfl) (.cons (G_ringlaw2_TableTells_1_ok n v_r340.1 _ h1407) (.cons h1408 (.cons (bt h1409) (.cons (G_ringlaw2_TableTells_1_ok n v_r365.1 _ h1410) (.cons (vf h1411) .nil))))) q
    · rw [if_neg h1409] at h
      cases h
      exact pkk_sound TTok mix hF 1 (hs := [.c, .r (eB v_r1051), .t true, .c, .c, .t false, .c, .c, .c, .c, .c]) (ts := []) (s := []) (l := [8]) (by kernel_rfl) (by kernel_rfl) (.cons (G_ringlaw2_TableTells_1_ok n v_r340.1 _ h1407) (.cons h1408 (.cons (bf h1409) .nil))) q
  · rw [if_neg h1408] at h
    cases h
    exact pkk_sound TTok mix hF 1 (hs := [.c, .r (eB v_r1051), .t false, .c, .c, .c, .c, .c, .c, .c, .c]) (ts := []) (s := []) (l := [8]) (by kernel_rfl) (by kernel_rfl) (.cons (G_ringlaw2_TableTells_1_ok n v_r340.1 _ h1407) (.cons (vf h1408) .nil)) q
/- ringhall/ringlaw2.TableTells -/
def G_ringlaw2_TableTells (n : Nat) (v_t1 : (Fin 8 → S_table_Node)) (v_p2 : Int) (v_x3 : S_entry_Entry) (v_k4 : Int) : Option (Bool) :=
  (G_table_Walk n v_t1 v_p2).bind fun (v_r267 : (S_entry_Entry × Int)) =>
  (G_table_Set n v_t1 v_p2 v_x3).bind fun (v_r321 : ((Fin 8 → S_table_Node) × Int)) =>
  (G_table_Join n v_t1 v_k4).bind fun (v_r340 : ((Fin 8 → S_table_Node) × Int)) =>
  (G_table_Split n v_t1 v_k4).bind fun (v_r365 : ((Fin 8 → S_table_Node) × Int)) =>
  (G_table_Size n v_t1).bind fun (v_r378 : (Int × Int × Int)) =>
  (G_ringref2_Tables n v_t1).bind fun (v_r461 : (Int)) =>
  (G_table_Check n v_t1).bind fun (v_r462 : (Int)) =>
  if v_r462 = v_r461 then
   if v_r461 = 0 then
    (G_ringref2_In n v_p2 0 63).bind fun (v_r463 : (Bool)) =>
    if v_r463 = true then
     (G_ringlaw2_TableTells_C11 n v_p2 v_k4 v_r267 v_r321 v_r340 v_r365 v_r378 v_r461 v_t1 v_x3).bind fun v_o770 => match v_o770 with
     | .x0 v_z771 =>
       (G_ringref2_In n v_k4 0 7).bind fun (v_r772 : (Bool)) =>
       if v_r772 = true then
        (G_ringlaw2_TableTells_C18 n v_p2 v_k4 v_r267 v_r321 v_r340 v_r365 v_r378 v_r461 v_z771 v_t1 v_x3).bind fun v_o886 => match v_o886 with
        | .x0 v_z887 =>
          if v_z887 = true then
           some false
          else
           (G_ringref2_TablePages n v_t1).bind fun (v_r898 : ((Fin 64 → S_entry_Entry))) =>
           (G_ringlaw2_TableTells_L19 n v_p2 v_k4 v_r340 v_r365 v_r378 v_r461 v_z771 v_t1 v_x3 v_r267 v_r321 v_r898 n 0 0 0).bind fun v_o906 => match v_o906 with
           | .x0 v_z907 v_z908 =>
             (G_ringlaw2_TableTells_C20 n v_p2 v_k4 v_r340 v_r365 v_r378 v_r461 v_z771 v_z907 v_z908 v_t1 v_x3 v_r267 v_r321 v_r898).bind fun v_o916 => match v_o916 with
             | .x0 v_z917 =>
               if v_z917 = true then
                some false
               else
                (G_ringlaw2_TableTells_C22 n v_p2 v_k4 v_r340 v_r365 v_r461 v_z771 v_t1 v_x3 v_r321 v_r898).bind fun v_o949 => match v_o949 with
                | .x0 v_z950 =>
                  some v_z950
                | .x1  =>
                  (G_ringref2_TableJoins n v_r898 v_k4).bind fun (v_r961 : (Bool)) =>
                  (G_ringlaw2_TableTells_C24 n v_k4 v_r340 v_r365 v_r961 v_t1 v_r898).bind fun v_o997 => match v_o997 with
                  | .x0 v_z998 =>
                    some v_z998
                  | .x1  =>
                    if 0 ≤ v_k4 ∧ v_k4 < (8 : Int) then
                     (getA v_t1 v_k4).bind fun (v_y999 : S_table_Node) =>
                     if v_y999.fHuge = true then
                      (G_ringlaw2_TableTells_C25 n v_k4 v_r365 v_t1 v_r898).bind fun v_o1015 => match v_o1015 with
                      | .x0 v_z1016 =>
                        some v_z1016
                     else
                      (G_ringlaw2_TableTells_1 n v_r365.1).bind fun (v_r1001 : (Bool)) =>
                      if v_r1001 = true then
                       some (v_r365.2 == 8)
                      else
                       some false
                    else none
       else
        (G_ringlaw2_TableTells_C12 n v_p2 v_k4 v_r267 v_r321 v_r340 v_r365 v_r378 v_r461 v_z771 v_t1 v_x3).bind fun v_o787 => match v_o787 with
        | .x0 v_z788 =>
          if v_z788 = true then
           some false
          else
           (G_ringref2_TablePages n v_t1).bind fun (v_r799 : ((Fin 64 → S_entry_Entry))) =>
           (G_ringlaw2_TableTells_L13 n v_p2 v_k4 v_r340 v_r365 v_r378 v_r461 v_z771 v_t1 v_x3 v_r267 v_r321 v_r799 n 0 0 0).bind fun v_o807 => match v_o807 with
           | .x0 v_z808 v_z809 =>
             (G_ringlaw2_TableTells_C14 n v_p2 v_k4 v_r340 v_r365 v_r378 v_r461 v_z771 v_z808 v_z809 v_t1 v_x3 v_r267 v_r321 v_r799).bind fun v_o817 => match v_o817 with
             | .x0 v_z818 =>
               if v_z818 = true then
                some false
               else
                (G_ringlaw2_TableTells_C16 n v_p2 v_k4 v_r340 v_r365 v_z771 v_t1 v_x3 v_r321 v_r799).bind fun v_o850 => match v_o850 with
                | .x0 v_z851 =>
                  some v_z851
                | .x1  =>
                  (G_ringlaw2_TableTells_C17 n v_r340 v_r365).bind fun v_o870 => match v_o870 with
                  | .x0 v_z871 =>
                    some v_z871
    else
     (G_ringref2_In n v_k4 0 7).bind fun (v_r464 : (Bool)) =>
     if v_r464 = true then
      (G_ringlaw2_TableTells_C5 n v_p2 v_k4 v_r267 v_r321 v_r340 v_r365 v_r378 v_r461 v_t1 v_x3).bind fun v_o607 => match v_o607 with
      | .x0 v_z608 =>
        if v_z608 = true then
         some false
        else
         (G_ringref2_TablePages n v_t1).bind fun (v_r619 : ((Fin 64 → S_entry_Entry))) =>
         (G_ringlaw2_TableTells_L6 n v_p2 v_k4 v_r340 v_r365 v_r378 v_r461 v_t1 v_x3 v_r267 v_r321 v_r619 n 0 0 0).bind fun v_o627 => match v_o627 with
         | .x0 v_z628 v_z629 =>
           (G_ringlaw2_TableTells_C7 n v_p2 v_k4 v_r340 v_r365 v_r378 v_r461 v_z628 v_z629 v_t1 v_x3 v_r267 v_r321 v_r619).bind fun v_o632 => match v_o632 with
           | .x0 v_z633 =>
             if v_z633 = true then
              some false
             else
              (G_ringref2_TableJoins n v_r619 v_k4).bind fun (v_r663 : (Bool)) =>
              (G_ringlaw2_TableTells_C9 n v_k4 v_r340 v_r365 v_r663 v_t1 v_r619).bind fun v_o746 => match v_o746 with
              | .x0 v_z747 =>
                some v_z747
              | .x1  =>
                if 0 ≤ v_k4 ∧ v_k4 < (8 : Int) then
                 (getA v_t1 v_k4).bind fun (v_y748 : S_table_Node) =>
                 if v_y748.fHuge = true then
                  (G_ringlaw2_TableTells_C10 n v_k4 v_r365 v_t1 v_r619).bind fun v_o764 => match v_o764 with
                  | .x0 v_z765 =>
                    some v_z765
                 else
                  (G_ringlaw2_TableTells_1 n v_r365.1).bind fun (v_r750 : (Bool)) =>
                  if v_r750 = true then
                   some (v_r365.2 == 8)
                  else
                   some false
                else none
     else
      (G_ringlaw2_TableTells_C1 n v_p2 v_k4 v_r267 v_r321 v_r340 v_r365 v_r378 v_r461 v_t1 v_x3).bind fun v_o551 => match v_o551 with
      | .x0 v_z552 =>
        if v_z552 = true then
         some false
        else
         (G_ringref2_TablePages n v_t1).bind fun (v_r563 : ((Fin 64 → S_entry_Entry))) =>
         (G_ringlaw2_TableTells_L2 n v_p2 v_k4 v_r340 v_r365 v_r378 v_t1 v_x3 v_r267 v_r321 v_r563 n 0 0 0).bind fun v_o571 => match v_o571 with
         | .x0 v_z572 v_z573 =>
           (G_ringlaw2_TableTells_C3 n v_p2 v_k4 v_r340 v_r365 v_r378 v_z572 v_z573 v_t1 v_x3 v_r267 v_r321 v_r563).bind fun v_o576 => match v_o576 with
           | .x0 v_z577 =>
             if v_z577 = true then
              some false
             else
              (G_ringlaw2_TableTells_C4 n v_r340 v_r365).bind fun v_o596 => match v_o596 with
              | .x0 v_z597 =>
                some v_z597
   else
    (G_ringlaw2_TableTells_C26 n v_p2 v_k4 v_r267 v_r321 v_r340 v_r365 v_r378 v_r461 v_t1 v_x3).bind fun v_o1021 => match v_o1021 with
    | .x0 v_z1022 =>
      (G_ringlaw2_TableTells_C27 n v_p2 v_k4 v_r267 v_r321 v_r340 v_r365 v_r378 v_r461 v_z1022 v_t1 v_x3).bind fun v_o1037 => match v_o1037 with
      | .x0 v_z1038 =>
        if v_z1038 = true then
         some false
        else
         (G_ringlaw2_TableTells_C28 n v_r340 v_r365 v_r461).bind fun v_o1057 => match v_o1057 with
         | .x0 v_z1058 =>
           some v_z1058
  else
   some false
theorem G_ringlaw2_TableTells_ok (n : Nat) (v_t1 : (Fin 8 → S_table_Node)) (v_p2 : Int) (v_x3 : S_entry_Entry) (v_k4 : Int) (r : Bool) (h : G_ringlaw2_TableTells n v_t1 v_p2 v_x3 v_k4 = some r) : Ret Try.prog 5 [(fun x => PV.agg (cA_t49 x)) v_t1, (eI .i64) v_p2, eS_entry_Entry v_x3, (eI .i64) v_k4] (eB r) := by
  refine ret_run (n := 315) (fn := Try.f5) (c := bodyOf Try.f5) (by kernel_rfl) (by kernel_rfl) (by kernel_rfl) (by kernel_rfl) ?_
  have hF : KC 315 (FinR Try.prog Try.f5 (eB r)) := FinR.kc' (by kernel_rfl)
  unfold G_ringlaw2_TableTells at h
  obtain ⟨v_r267, h351, h⟩ := bind_some h
  obtain ⟨v_r321, h409, h⟩ := bind_some h
  obtain ⟨v_r340, h447, h⟩ := bind_some h
  obtain ⟨v_r365, h498, h⟩ := bind_some h
  obtain ⟨v_r378, h510, h⟩ := bind_some h
  obtain ⟨v_r461, h607, h⟩ := bind_some h
  obtain ⟨v_r462, h608, h⟩ := bind_some h
  by_cases h609 : v_r462 = v_r461
  · rw [if_pos h609] at h
    by_cases h610 : v_r461 = 0
    · rw [if_pos h610] at h
      obtain ⟨v_r463, h611, h⟩ := bind_some h
      by_cases h612 : v_r463 = true
      · rw [if_pos h612] at h
        obtain ⟨v_o770, h1027, h⟩ := bind_some h
        refine pkk_sound TTok mix hF 31 (hs := [.c, .r (.tup [eS_entry_Entry v_r267.1, (eI .i64) v_r267.2]), .c, .c, .c, .r (.tup [(fun x => PV.agg (cA_t49 x)) v_r321.1, (eI .i64) v_r321.2]), .c, .c, .r (.tup [(fun x => PV.agg (cA_t49 x)) v_r340.1, (eI .i64) v_r340.2]), .c, .c, .r (.tup [(fun x => PV.agg (cA_t49 x)) v_r365.1, (eI .i64) v_r365.2]), .c, .c, .r (.tup [(eI .i64) v_r378.1, (eI .i64) v_r378.2.1, (eI .i64) v_r378.2.2]), .c, .r ((eI .i64) v_r461), .c, .r ((eI .i64) v_r462), .t false, .t true, .c, .r (eB v_r463), .c, .t false]) (ts := []) (s := [0, 3, 27, 57, 84, 111]) (l := [1, 3, 4, 6, 9, 10, 11, 12, 13, 14, 15, 16, 17, 18, 19, 20, 21, 22, 23, 24, 79]) (by kernel_rfl) (by kernel_rfl) (.cons (G_table_Walk_ok n v_t1 v_p2 _ h351) (.cons (show 0 + 7 ≤ 7 by decide) (.cons (G_table_Set_ok n v_t1 v_p2 v_x3 _ h409) (.cons (show 0 + 16 ≤ 16 by decide) (.cons (G_table_Join_ok n v_t1 v_k4 _ h447) (.cons (show 0 + 16 ≤ 16 by decide) (.cons (G_table_Split_ok n v_t1 v_k4 _ h498) (.cons (show 0 + 16 ≤ 16 by decide) (.cons (G_table_Size_ok n v_t1 _ h510) (.cons (G_ringref2_Tables_ok n v_t1 _ h607) (.cons (G_table_Check_ok n v_t1 _ h608) (.cons (nf h609) (.cons (bt h610) (.cons (G_ringref2_In_ok n v_p2 0 63 _ h611) (.cons (bnf h612) .nil))))))))))))))) (G_ringlaw2_TableTells_C11_ok hF (.s (cR (cR (cR (cR (cR (cR (cR (cR (cR (cR (cR (cR (bodyOf Try.f5))))))))))))) :: []) n v_p2 v_k4 v_r267 v_r321 v_r340 v_r365 v_r378 v_r461 v_t1 v_x3 _ h1027 ?_)
        cases v_o770 with
        | x0 v_z771 =>
          dsimp only at h
          obtain ⟨v_r772, h1028, h⟩ := bind_some h
          by_cases h1029 : v_r772 = true
          · rw [if_pos h1029] at h
            obtain ⟨v_o886, h1184, h⟩ := bind_some h
            refine pkk_sound TTok mix hF 7 (hs := [.t true, .c, .r (eB v_r772), .c, .t false]) (ts := []) (s := [0, 1, 2, 3, 4, 5]) (l := [1, 3, 4, 6, 9, 10, 11, 12, 13, 14, 15, 16, 17, 18, 19, 20, 21, 22, 23, 24]) (by kernel_rfl) (by kernel_rfl) (.cons (bt h610) (.cons (G_ringref2_In_ok n v_k4 0 7 _ h1028) (.cons (bnf h1029) .nil))) (G_ringlaw2_TableTells_C18_ok hF (.s (cR (cL (cR (cR (cR (cR (cR (cR (cR (cR (cR (cR (cR (cR (cR (bodyOf Try.f5)))))))))))))))) :: .s (cR (cR (cR (cR (cR (cR (cR (cR (cR (cR (cR (cR (cR (cR (bodyOf Try.f5))))))))))))))) :: []) n v_p2 v_k4 v_r267 v_r321 v_r340 v_r365 v_r378 v_r461 v_z771 v_t1 v_x3 _ h1184 ?_)
            cases v_o886 with
            | x0 v_z887 =>
              dsimp only at h
              by_cases h1185 : v_z887 = true
              · rw [if_pos h1185] at h
                obtain rfl := Option.some.inj h
                exact pend_sound TTok mix 5 (hs := [.t true]) (by kernel_rfl) (by kernel_rfl) (by kernel_rfl) (.cons h1185 .nil)
              · rw [if_neg h1185] at h
                obtain ⟨v_r898, h1198, h⟩ := bind_some h
                obtain ⟨v_o906, h1206, h⟩ := bind_some h
                refine pkk_sound TTok mix hF 16 (hs := [.t false, .t false, .c, .r ((fun x => PV.agg (cA_t61 x)) v_r898), .c, .c, .n n]) (ts := []) (s := [0, 1, 2, 3, 4, 5, 18]) (l := [1, 3, 4, 6, 9, 11, 13, 14, 15, 16, 17, 18, 21, 22, 23, 24, 25, 26, 27, 153, 154]) (by kernel_rfl) (by kernel_rfl) (.cons (vf h1185) (.cons (nf h610) (.cons (G_ringref2_TablePages_ok n v_t1 _ h1198) (.cons (show 0 + 448 ≤ 448 by decide) .nil)))) (G_ringlaw2_TableTells_L19_ok hF (.b 0 :: .s (cR (cR (cR (cR (cR (cR (cR (cR (cR (cR (cR (cR (cR (cR (cR (cR (cR (cR (bodyOf Try.f5))))))))))))))))))) :: []) n v_p2 v_k4 v_r340 v_r365 v_r378 v_r461 v_z771 v_t1 v_x3 v_r267 v_r321 v_r898 n 0 0 0 _ h1206 ?_)
                cases v_o906 with
                | x0 v_z907 v_z908 =>
                  dsimp only at h
                  obtain ⟨v_o916, h1219, h⟩ := bind_some h
                  refine pkk_sound TTok mix hF 3 (hs := []) (ts := []) (s := [0, 1, 2, 3, 4, 5, 6]) (l := [1, 3, 4, 6, 9, 11, 13, 14, 15, 16, 17, 18, 21, 22, 23, 24, 25, 26, 27]) (by kernel_rfl) (by kernel_rfl) .nil (G_ringlaw2_TableTells_C20_ok hF (.s (cR (cL (cR (cR (cR (cR (cR (cR (cR (cR (cR (cR (cR (cR (cR (cR (cR (cR (cR (cR (bodyOf Try.f5))))))))))))))))))))) :: .s (cR (cR (cR (cR (cR (cR (cR (cR (cR (cR (cR (cR (cR (cR (cR (cR (cR (cR (cR (bodyOf Try.f5)))))))))))))))))))) :: []) n v_p2 v_k4 v_r340 v_r365 v_r378 v_r461 v_z771 v_z907 v_z908 v_t1 v_x3 v_r267 v_r321 v_r898 _ h1219 ?_)
                  cases v_o916 with
                  | x0 v_z917 =>
                    dsimp only at h
                    by_cases h1220 : v_z917 = true
                    · rw [if_pos h1220] at h
                      obtain rfl := Option.some.inj h
                      exact pend_sound TTok mix 5 (hs := [.t true]) (by kernel_rfl) (by kernel_rfl) (by kernel_rfl) (.cons h1220 .nil)
                    · rw [if_neg h1220] at h
                      obtain ⟨v_o949, h1271, h⟩ := bind_some h
                      refine pkk_sound TTok mix hF 5 (hs := [.t false]) (ts := []) (s := [0, 1, 2, 3, 4, 5]) (l := [1, 3, 4, 6, 11, 13, 14, 15, 16, 21, 24, 25, 189]) (by kernel_rfl) (by kernel_rfl) (.cons (vf h1220) .nil) (G_ringlaw2_TableTells_C22_ok hF (.s (cR (cR (cR (cR (cR (cR (cR (cR (cR (cR (cR (cR (cR (cR (cR (cR (cR (cR (cR (cR (bodyOf Try.f5))))))))))))))))))))) :: []) n v_p2 v_k4 v_r340 v_r365 v_r461 v_z771 v_t1 v_x3 v_r321 v_r898 _ h1271 ?_)
                      cases v_o949 with
                      | x0 v_z950 =>
                        dsimp only at h
                        obtain rfl := Option.some.inj h
                        exact pend_sound TTok mix 1 (hs := []) (by kernel_rfl) (by kernel_rfl) (by kernel_rfl) .nil
                      | x1  =>
                        dsimp only at h
                        obtain ⟨v_r961, h1284, h⟩ := bind_some h
                        obtain ⟨v_o997, h1333, h⟩ := bind_some h
                        refine pkk_sound TTok mix hF 8 (hs := [.t false, .c, .r (eB v_r961)]) (ts := []) (s := [0, 1, 2, 3]) (l := [3, 4, 13, 14, 15, 16, 21, 25, 241]) (by kernel_rfl) (by kernel_rfl) (.cons (nf h610) (.cons (G_ringref2_TableJoins_ok n v_r898 v_k4 _ h1284) .nil)) (G_ringlaw2_TableTells_C24_ok hF (.s (cR (cR (cR (cR (cR (cR (cR (cR (cR (cR (cR (cR (cR (cR (cR (cR (cR (cR (cR (cR (cR (cR (bodyOf Try.f5))))))))))))))))))))))) :: []) n v_k4 v_r340 v_r365 v_r961 v_t1 v_r898 _ h1333 ?_)
                        cases v_o997 with
                        | x0 v_z998 =>
                          dsimp only at h
                          obtain rfl := Option.some.inj h
                          exact pend_sound TTok mix 1 (hs := []) (by kernel_rfl) (by kernel_rfl) (by kernel_rfl) .nil
                        | x1  =>
                          dsimp only at h
                          by_cases h1334 : 0 ≤ v_k4 ∧ v_k4 < (8 : Int)
                          · rw [if_pos h1334] at h
                            obtain ⟨v_y999, h1335, h⟩ := bind_some h
                            by_cases h1339 : v_y999.fHuge = true
                            · rw [if_pos h1339] at h
                              obtain ⟨v_o1015, h1360, h⟩ := bind_some h
                              refine pkk_sound TTok mix hF 6 (hs := [.l (.d (.v (.bool v_y999.fHuge))), .t false]) (ts := []) (s := [0, 1, 2]) (l := [3, 4, 15, 16, 25]) (by kernel_rfl) (by kernel_rfl) (.cons h1334 (.cons (arr_cell (γ := FV) (sz := 2) (g := (fun x => [.d (.v (.bool x.fHuge)), .d (.sl (x.fEntries.map eS_entry_Entry))])) (pre := []) (post := []) (o := 0) (fun _ => rfl) h1335 rfl) (.cons (bnf h1339) .nil))) (G_ringlaw2_TableTells_C25_ok hF (.s (cR (cR (cR (cR (cR (cR (cR (cR (cR (cR (cR (cR (cR (cR (cR (cR (cR (cR (cR (cR (cR (cR (cR (cR (bodyOf Try.f5))))))))))))))))))))))))) :: []) n v_k4 v_r365 v_t1 v_r898 _ h1360 ?_)
                              cases v_o1015 with
                              | x0 v_z1016 =>
                                dsimp only at h
                                obtain rfl := Option.some.inj h
                                exact pend_sound TTok mix 1 (hs := []) (by kernel_rfl) (by kernel_rfl) (by kernel_rfl) .nil
                            · rw [if_neg h1339] at h
                              obtain ⟨v_r1001, h1340, h⟩ := bind_some h
                              by_cases h1341 : v_r1001 = true
                              · rw [if_pos h1341] at h
                                obtain rfl := Option.some.inj h
                                exact pend_sound TTok mix 8 (hs := [.l (.d (.v (.bool v_y999.fHuge))), .t true, .c, .r (eB v_r1001), .t true, .c]) (by kernel_rfl) (by kernel_rfl) (by kernel_rfl) (.cons h1334 (.cons (arr_cell (γ := FV) (sz := 2) (g := (fun x => [.d (.v (.bool x.fHuge)), .d (.sl (x.fEntries.map eS_entry_Entry))])) (pre := []) (post := []) (o := 0) (fun _ => rfl) h1335 rfl) (.cons (bnt (vf h1339)) (.cons (G_ringlaw2_TableTells_1_ok n v_r365.1 _ h1340) (.cons h1341 .nil)))))
                              · rw [if_neg h1341] at h
                                obtain rfl := Option.some.inj h
                                exact pend_sound TTok mix 8 (hs := [.l (.d (.v (.bool v_y999.fHuge))), .t true, .c, .r (eB v_r1001), .t false, .c]) (by kernel_rfl) (by kernel_rfl) (by kernel_rfl) (.cons h1334 (.cons (arr_cell (γ := FV) (sz := 2) (g := (fun x => [.d (.v (.bool x.fHuge)), .d (.sl (x.fEntries.map eS_entry_Entry))])) (pre := []) (post := []) (o := 0) (fun _ => rfl) h1335 rfl) (.cons (bnt (vf h1339)) (.cons (G_ringlaw2_TableTells_1_ok n v_r365.1 _ h1340) (.cons (vf h1341) .nil)))))
                          · rw [if_neg h1334] at h; cases h
          · rw [if_neg h1029] at h
            obtain ⟨v_o787, h1052, h⟩ := bind_some h
            refine pkk_sound TTok mix hF 7 (hs := [.t true, .c, .r (eB v_r772), .c, .t true]) (ts := []) (s := [0, 1, 2, 3, 4, 5]) (l := [1, 3, 4, 6, 9, 10, 11, 12, 13, 14, 15, 16, 17, 18, 19, 20, 21, 22, 23, 24]) (by kernel_rfl) (by kernel_rfl) (.cons (bt h610) (.cons (G_ringref2_In_ok n v_k4 0 7 _ h1028) (.cons (bnt (vf h1029)) .nil))) (G_ringlaw2_TableTells_C12_ok hF (.s (cR (cL (cR (cR (cR (cR (cR (cR (cR (cR (cR (cR (cR (cR (cR (bodyOf Try.f5)))))))))))))))) :: .s (cR (cR (cR (cR (cR (cR (cR (cR (cR (cR (cR (cR (cR (cR (bodyOf Try.f5))))))))))))))) :: []) n v_p2 v_k4 v_r267 v_r321 v_r340 v_r365 v_r378 v_r461 v_z771 v_t1 v_x3 _ h1052 ?_)
            cases v_o787 with
            | x0 v_z788 =>
              dsimp only at h
              by_cases h1053 : v_z788 = true
              · rw [if_pos h1053] at h
                obtain rfl := Option.some.inj h
                exact pend_sound TTok mix 5 (hs := [.t true]) (by kernel_rfl) (by kernel_rfl) (by kernel_rfl) (.cons h1053 .nil)
              · rw [if_neg h1053] at h
                obtain ⟨v_r799, h1066, h⟩ := bind_some h
                obtain ⟨v_o807, h1074, h⟩ := bind_some h
                refine pkk_sound TTok mix hF 16 (hs := [.t false, .t false, .c, .r ((fun x => PV.agg (cA_t61 x)) v_r799), .c, .c, .n n]) (ts := []) (s := [0, 1, 2, 3, 4, 5, 18]) (l := [1, 3, 4, 6, 9, 11, 13, 14, 15, 16, 17, 18, 21, 22, 23, 24, 25, 26, 27, 153, 154]) (by kernel_rfl) (by kernel_rfl) (.cons (vf h1053) (.cons (nf h610) (.cons (G_ringref2_TablePages_ok n v_t1 _ h1066) (.cons (show 0 + 448 ≤ 448 by decide) .nil)))) (G_ringlaw2_TableTells_L13_ok hF (.b 0 :: .s (cR (cR (cR (cR (cR (cR (cR (cR (cR (cR (cR (cR (cR (cR (cR (cR (cR (cR (bodyOf Try.f5))))))))))))))))))) :: []) n v_p2 v_k4 v_r340 v_r365 v_r378 v_r461 v_z771 v_t1 v_x3 v_r267 v_r321 v_r799 n 0 0 0 _ h1074 ?_)
                cases v_o807 with
                | x0 v_z808 v_z809 =>
                  dsimp only at h
                  obtain ⟨v_o817, h1087, h⟩ := bind_some h
                  refine pkk_sound TTok mix hF 3 (hs := []) (ts := []) (s := [0, 1, 2, 3, 4, 5, 6]) (l := [1, 3, 4, 6, 9, 11, 13, 14, 15, 16, 17, 18, 21, 22, 23, 24, 25, 26, 27]) (by kernel_rfl) (by kernel_rfl) .nil (G_ringlaw2_TableTells_C14_ok hF (.s (cR (cL (cR (cR (cR (cR (cR (cR (cR (cR (cR (cR (cR (cR (cR (cR (cR (cR (cR (cR (bodyOf Try.f5))))))))))))))))))))) :: .s (cR (cR (cR (cR (cR (cR (cR (cR (cR (cR (cR (cR (cR (cR (cR (cR (cR (cR (cR (bodyOf Try.f5)))))))))))))))))))) :: []) n v_p2 v_k4 v_r340 v_r365 v_r378 v_r461 v_z771 v_z808 v_z809 v_t1 v_x3 v_r267 v_r321 v_r799 _ h1087 ?_)
                  cases v_o817 with
                  | x0 v_z818 =>
                    dsimp only at h
                    by_cases h1088 : v_z818 = true
                    · rw [if_pos h1088] at h
                      obtain rfl := Option.some.inj h
                      exact pend_sound TTok mix 5 (hs := [.t true]) (by kernel_rfl) (by kernel_rfl) (by kernel_rfl) (.cons h1088 .nil)
                    · rw [if_neg h1088] at h
                      obtain ⟨v_o850, h1139, h⟩ := bind_some h
                      refine pkk_sound TTok mix hF 5 (hs := [.t false]) (ts := []) (s := [0, 1, 2, 3, 4, 5]) (l := [1, 3, 4, 6, 11, 13, 14, 15, 16, 21, 24, 25, 189]) (by kernel_rfl) (by kernel_rfl) (.cons (vf h1088) .nil) (G_ringlaw2_TableTells_C16_ok hF (.s (cR (cR (cR (cR (cR (cR (cR (cR (cR (cR (cR (cR (cR (cR (cR (cR (cR (cR (cR (cR (bodyOf Try.f5))))))))))))))))))))) :: []) n v_p2 v_k4 v_r340 v_r365 v_z771 v_t1 v_x3 v_r321 v_r799 _ h1139 ?_)
                      cases v_o850 with
                      | x0 v_z851 =>
                        dsimp only at h
                        obtain rfl := Option.some.inj h
                        exact pend_sound TTok mix 1 (hs := []) (by kernel_rfl) (by kernel_rfl) (by kernel_rfl) .nil
                      | x1  =>
                        dsimp only at h
                        obtain ⟨v_o870, h1161, h⟩ := bind_some h
                        refine pkk_sound TTok mix hF 5 (hs := [.c]) (ts := []) (s := [1, 2]) (l := [13, 14, 15, 16, 21, 24]) (by kernel_rfl) (by kernel_rfl) .nil (G_ringlaw2_TableTells_C17_ok hF (.s (cR (cT (cR (cL (cR (cR (cR (cR (cR (cR (cR (cR (cR (cR (cR (cR (cR (cR (cR (cR (cR (cR (cR (cR (bodyOf Try.f5))))))))))))))))))))))))) :: .s (cR (cR (cR (cR (cR (cR (cR (cR (cR (cR (cR (cR (cR (cR (cR (cR (cR (cR (cR (cR (cR (bodyOf Try.f5)))))))))))))))))))))) :: []) n v_r340 v_r365 _ h1161 ?_)
                        cases v_o870 with
                        | x0 v_z871 =>
                          dsimp only at h
                          obtain rfl := Option.some.inj h
                          exact pend_sound TTok mix 2 (hs := []) (by kernel_rfl) (by kernel_rfl) (by kernel_rfl) .nil
      · rw [if_neg h612] at h
        obtain ⟨v_r464, h613, h⟩ := bind_some h
        by_cases h614 : v_r464 = true
        · rw [if_pos h614] at h
          obtain ⟨v_o607, h824, h⟩ := bind_some h
          refine pkk_sound TTok mix hF 40 (hs := [.c, .r (.tup [eS_entry_Entry v_r267.1, (eI .i64) v_r267.2]), .c, .c, .c, .r (.tup [(fun x => PV.agg (cA_t49 x)) v_r321.1, (eI .i64) v_r321.2]), .c, .c, .r (.tup [(fun x => PV.agg (cA_t49 x)) v_r340.1, (eI .i64) v_r340.2]), .c, .c, .r (.tup [(fun x => PV.agg (cA_t49 x)) v_r365.1, (eI .i64) v_r365.2]), .c, .c, .r (.tup [(eI .i64) v_r378.1, (eI .i64) v_r378.2.1, (eI .i64) v_r378.2.2]), .c, .r ((eI .i64) v_r461), .c, .r ((eI .i64) v_r462), .t false, .t true, .c, .r (eB v_r463), .c, .t true, .c, .t true, .c, .r (eB v_r464), .c, .t false]) (ts := []) (s := [0, 3, 27, 57, 84, 111]) (l := [1, 3, 4, 6, 9, 10, 11, 12, 13, 14, 15, 16, 17, 18, 19, 20, 21, 22, 23, 24]) (by kernel_rfl) (by kernel_rfl) (.cons (G_table_Walk_ok n v_t1 v_p2 _ h351) (.cons (show 0 + 7 ≤ 7 by decide) (.cons (G_table_Set_ok n v_t1 v_p2 v_x3 _ h409) (.cons (show 0 + 16 ≤ 16 by decide) (.cons (G_table_Join_ok n v_t1 v_k4 _ h447) (.cons (show 0 + 16 ≤ 16 by decide) (.cons (G_table_Split_ok n v_t1 v_k4 _ h498) (.cons (show 0 + 16 ≤ 16 by decide) (.cons (G_table_Size_ok n v_t1 _ h510) (.cons (G_ringref2_Tables_ok n v_t1 _ h607) (.cons (G_table_Check_ok n v_t1 _ h608) (.cons (nf h609) (.cons (bt h610) (.cons (G_ringref2_In_ok n v_p2 0 63 _ h611) (.cons (bnt (vf h612)) (.cons (bt h610) (.cons (G_ringref2_In_ok n v_k4 0 7 _ h613) (.cons (bnf h614) .nil)))))))))))))))))) (G_ringlaw2_TableTells_C5_ok hF (.s (cR (cL (cR (cR (cR (cR (cR (cR (cR (cR (cR (cR (cR (cR (cR (bodyOf Try.f5)))))))))))))))) :: .s (cR (cR (cR (cR (cR (cR (cR (cR (cR (cR (cR (cR (cR (cR (bodyOf Try.f5))))))))))))))) :: []) n v_p2 v_k4 v_r267 v_r321 v_r340 v_r365 v_r378 v_r461 v_t1 v_x3 _ h824 ?_)
          cases v_o607 with
          | x0 v_z608 =>
            dsimp only at h
            by_cases h825 : v_z608 = true
            · rw [if_pos h825] at h
              obtain rfl := Option.some.inj h
              exact pend_sound TTok mix 5 (hs := [.t true]) (by kernel_rfl) (by kernel_rfl) (by kernel_rfl) (.cons h825 .nil)
            · rw [if_neg h825] at h
              obtain ⟨v_r619, h838, h⟩ := bind_some h
              obtain ⟨v_o627, h846, h⟩ := bind_some h
              refine pkk_sound TTok mix hF 16 (hs := [.t false, .t false, .c, .r ((fun x => PV.agg (cA_t61 x)) v_r619), .c, .c, .n n]) (ts := []) (s := [0, 1, 2, 3, 4, 5, 18]) (l := [1, 3, 4, 6, 9, 11, 13, 14, 15, 16, 17, 18, 21, 22, 23, 24, 25, 26, 27, 153, 154]) (by kernel_rfl) (by kernel_rfl) (.cons (vf h825) (.cons (nf h610) (.cons (G_ringref2_TablePages_ok n v_t1 _ h838) (.cons (show 0 + 448 ≤ 448 by decide) .nil)))) (G_ringlaw2_TableTells_L6_ok hF (.b 0 :: .s (cR (cR (cR (cR (cR (cR (cR (cR (cR (cR (cR (cR (cR (cR (cR (cR (cR (cR (bodyOf Try.f5))))))))))))))))))) :: []) n v_p2 v_k4 v_r340 v_r365 v_r378 v_r461 v_t1 v_x3 v_r267 v_r321 v_r619 n 0 0 0 _ h846 ?_)
              cases v_o627 with
              | x0 v_z628 v_z629 =>
                dsimp only at h
                obtain ⟨v_o632, h849, h⟩ := bind_some h
                refine pkk_sound TTok mix hF 3 (hs := []) (ts := []) (s := [0, 1, 2, 3, 4, 5, 6]) (l := [1, 3, 4, 6, 9, 11, 13, 14, 15, 16, 17, 18, 21, 22, 23, 24, 25, 26, 27]) (by kernel_rfl) (by kernel_rfl) .nil (G_ringlaw2_TableTells_C7_ok hF (.s (cR (cL (cR (cR (cR (cR (cR (cR (cR (cR (cR (cR (cR (cR (cR (cR (cR (cR (cR (cR (bodyOf Try.f5))))))))))))))))))))) :: .s (cR (cR (cR (cR (cR (cR (cR (cR (cR (cR (cR (cR (cR (cR (cR (cR (cR (cR (cR (bodyOf Try.f5)))))))))))))))))))) :: []) n v_p2 v_k4 v_r340 v_r365 v_r378 v_r461 v_z628 v_z629 v_t1 v_x3 v_r267 v_r321 v_r619 _ h849 ?_)
                cases v_o632 with
                | x0 v_z633 =>
                  dsimp only at h
                  by_cases h850 : v_z633 = true
                  · rw [if_pos h850] at h
                    obtain rfl := Option.some.inj h
                    exact pend_sound TTok mix 5 (hs := [.t true]) (by kernel_rfl) (by kernel_rfl) (by kernel_rfl) (.cons h850 .nil)
                  · rw [if_neg h850] at h
                    obtain ⟨v_r663, h887, h⟩ := bind_some h
                    obtain ⟨v_o746, h995, h⟩ := bind_some h
                    refine pkk_sound TTok mix hF 15 (hs := [.t false, .c, .t false, .c, .r (eB v_r663)]) (ts := []) (s := [0, 3, 4, 5]) (l := [3, 4, 13, 14, 15, 16, 21, 25, 241]) (by kernel_rfl) (by kernel_rfl) (.cons (vf h850) (.cons (nf h610) (.cons (G_ringref2_TableJoins_ok n v_r619 v_k4 _ h887) .nil))) (G_ringlaw2_TableTells_C9_ok hF (.s (cR (cR (cR (cR (cR (cR (cR (cR (cR (cR (cR (cR (cR (cR (cR (cR (cR (cR (cR (cR (cR (cR (bodyOf Try.f5))))))))))))))))))))))) :: []) n v_k4 v_r340 v_r365 v_r663 v_t1 v_r619 _ h995 ?_)
                    cases v_o746 with
                    | x0 v_z747 =>
                      dsimp only at h
                      obtain rfl := Option.some.inj h
                      exact pend_sound TTok mix 1 (hs := []) (by kernel_rfl) (by kernel_rfl) (by kernel_rfl) .nil
                    | x1  =>
                      dsimp only at h
                      by_cases h996 : 0 ≤ v_k4 ∧ v_k4 < (8 : Int)
                      · rw [if_pos h996] at h
                        obtain ⟨v_y748, h997, h⟩ := bind_some h
                        by_cases h1001 : v_y748.fHuge = true
                        · rw [if_pos h1001] at h
                          obtain ⟨v_o764, h1022, h⟩ := bind_some h
                          refine pkk_sound TTok mix hF 6 (hs := [.l (.d (.v (.bool v_y748.fHuge))), .t false]) (ts := []) (s := [0, 1, 2]) (l := [3, 4, 15, 16, 25]) (by kernel_rfl) (by kernel_rfl) (.cons h996 (.cons (arr_cell (γ := FV) (sz := 2) (g := (fun x => [.d (.v (.bool x.fHuge)), .d (.sl (x.fEntries.map eS_entry_Entry))])) (pre := []) (post := []) (o := 0) (fun _ => rfl) h997 rfl) (.cons (bnf h1001) .nil))) (G_ringlaw2_TableTells_C10_ok hF (.s (cR (cR (cR (cR (cR (cR (cR (cR (cR (cR (cR (cR (cR (cR (cR (cR (cR (cR (cR (cR (cR (cR (cR (cR (bodyOf Try.f5))))))))))))))))))))))))) :: []) n v_k4 v_r365 v_t1 v_r619 _ h1022 ?_)
                          cases v_o764 with
                          | x0 v_z765 =>
                            dsimp only at h
                            obtain rfl := Option.some.inj h
                            exact pend_sound TTok mix 1 (hs := []) (by kernel_rfl) (by kernel_rfl) (by kernel_rfl) .nil
                        · rw [if_neg h1001] at h
                          obtain ⟨v_r750, h1002, h⟩ := bind_some h
                          by_cases h1003 : v_r750 = true
                          · rw [if_pos h1003] at h
                            obtain rfl := Option.some.inj h
                            exact pend_sound TTok mix 8 (hs := [.l (.d (.v (.bool v_y748.fHuge))), .t true, .c, .r (eB v_r750), .t true, .c]) (by kernel_rfl) (by kernel_rfl) (by kernel_rfl) (.cons h996 (.cons (arr_cell (γ := FV) (sz := 2) (g := (fun x => [.d (.v (.bool x.fHuge)), .d (.sl (x.fEntries.map eS_entry_Entry))])) (pre := []) (post := []) (o := 0) (fun _ => rfl) h997 rfl) (.cons (bnt (vf h1001)) (.cons (G_ringlaw2_TableTells_1_ok n v_r365.1 _ h1002) (.cons h1003 .nil)))))
                          · rw [if_neg h1003] at h
                            obtain rfl := Option.some.inj h
                            exact pend_sound TTok mix 8 (hs := [.l (.d (.v (.bool v_y748.fHuge))), .t true, .c, .r (eB v_r750), .t false, .c]) (by kernel_rfl) (by kernel_rfl) (by kernel_rfl) (.cons h996 (.cons (arr_cell (γ := FV) (sz := 2) (g := (fun x => [.d (.v (.bool x.fHuge)), .d (.sl (x.fEntries.map eS_entry_Entry))])) (pre := []) (post := []) (o := 0) (fun _ => rfl) h997 rfl) (.cons (bnt (vf h1001)) (.cons (G_ringlaw2_TableTells_1_ok n v_r365.1 _ h1002) (.cons (vf h1003) .nil)))))
                      · rw [if_neg h996] at h; cases h
        · rw [if_neg h614] at h
          obtain ⟨v_o551, h761, h⟩ := bind_some h
          refine pkk_sound TTok mix hF 40 (hs := [.c, .r (.tup [eS_entry_Entry v_r267.1, (eI .i64) v_r267.2]), .c, .c, .c, .r (.tup [(fun x => PV.agg (cA_t49 x)) v_r321.1, (eI .i64) v_r321.2]), .c, .c, .r (.tup [(fun x => PV.agg (cA_t49 x)) v_r340.1, (eI .i64) v_r340.2]), .c, .c, .r (.tup [(fun x => PV.agg (cA_t49 x)) v_r365.1, (eI .i64) v_r365.2]), .c, .c, .r (.tup [(eI .i64) v_r378.1, (eI .i64) v_r378.2.1, (eI .i64) v_r378.2.2]), .c, .r ((eI .i64) v_r461), .c, .r ((eI .i64) v_r462), .t false, .t true, .c, .r (eB v_r463), .c, .t true, .c, .t true, .c, .r (eB v_r464), .c, .t true]) (ts := []) (s := [0, 3, 27, 57, 84, 111]) (l := [1, 3, 4, 6, 9, 10, 11, 12, 13, 14, 15, 16, 17, 18, 19, 20, 21, 22, 23, 24]) (by kernel_rfl) (by kernel_rfl) (.cons (G_table_Walk_ok n v_t1 v_p2 _ h351) (.cons (show 0 + 7 ≤ 7 by decide) (.cons (G_table_Set_ok n v_t1 v_p2 v_x3 _ h409) (.cons (show 0 + 16 ≤ 16 by decide) (.cons (G_table_Join_ok n v_t1 v_k4 _ h447) (.cons (show 0 + 16 ≤ 16 by decide) (.cons (G_table_Split_ok n v_t1 v_k4 _ h498) (.cons (show 0 + 16 ≤ 16 by decide) (.cons (G_table_Size_ok n v_t1 _ h510) (.cons (G_ringref2_Tables_ok n v_t1 _ h607) (.cons (G_table_Check_ok n v_t1 _ h608) (.cons (nf h609) (.cons (bt h610) (.cons (G_ringref2_In_ok n v_p2 0 63 _ h611) (.cons (bnt (vf h612)) (.cons (bt h610) (.cons (G_ringref2_In_ok n v_k4 0 7 _ h613) (.cons (bnt (vf h614)) .nil)))))))))))))))))) (G_ringlaw2_TableTells_C1_ok hF (.s (cR (cL (cR (cR (cR (cR (cR (cR (cR (cR (cR (cR (cR (cR (cR (bodyOf Try.f5)))))))))))))))) :: .s (cR (cR (cR (cR (cR (cR (cR (cR (cR (cR (cR (cR (cR (cR (bodyOf Try.f5))))))))))))))) :: []) n v_p2 v_k4 v_r267 v_r321 v_r340 v_r365 v_r378 v_r461 v_t1 v_x3 _ h761 ?_)
          cases v_o551 with
          | x0 v_z552 =>
            dsimp only at h
            by_cases h762 : v_z552 = true
            · rw [if_pos h762] at h
              obtain rfl := Option.some.inj h
              exact pend_sound TTok mix 5 (hs := [.t true]) (by kernel_rfl) (by kernel_rfl) (by kernel_rfl) (.cons h762 .nil)
            · rw [if_neg h762] at h
              obtain ⟨v_r563, h775, h⟩ := bind_some h
              obtain ⟨v_o571, h783, h⟩ := bind_some h
              refine pkk_sound TTok mix hF 16 (hs := [.t false, .t false, .c, .r ((fun x => PV.agg (cA_t61 x)) v_r563), .c, .c, .n n]) (ts := []) (s := [0, 1, 2, 3, 4, 5, 18]) (l := [1, 3, 4, 6, 9, 11, 13, 14, 15, 16, 17, 18, 21, 22, 23, 24, 25, 26, 27, 153, 154]) (by kernel_rfl) (by kernel_rfl) (.cons (vf h762) (.cons (nf h610) (.cons (G_ringref2_TablePages_ok n v_t1 _ h775) (.cons (show 0 + 448 ≤ 448 by decide) .nil)))) (G_ringlaw2_TableTells_L2_ok hF (.b 0 :: .s (cR (cR (cR (cR (cR (cR (cR (cR (cR (cR (cR (cR (cR (cR (cR (cR (cR (cR (bodyOf Try.f5))))))))))))))))))) :: []) n v_p2 v_k4 v_r340 v_r365 v_r378 v_t1 v_x3 v_r267 v_r321 v_r563 n 0 0 0 _ h783 ?_)
              cases v_o571 with
              | x0 v_z572 v_z573 =>
                dsimp only at h
                obtain ⟨v_o576, h786, h⟩ := bind_some h
                refine pkk_sound TTok mix hF 3 (hs := []) (ts := []) (s := [0, 1, 2, 3, 4, 5, 6]) (l := [1, 3, 4, 6, 9, 11, 13, 14, 15, 16, 17, 18, 21, 22, 23, 24, 25, 26, 27]) (by kernel_rfl) (by kernel_rfl) .nil (G_ringlaw2_TableTells_C3_ok hF (.s (cR (cL (cR (cR (cR (cR (cR (cR (cR (cR (cR (cR (cR (cR (cR (cR (cR (cR (cR (cR (bodyOf Try.f5))))))))))))))))))))) :: .s (cR (cR (cR (cR (cR (cR (cR (cR (cR (cR (cR (cR (cR (cR (cR (cR (cR (cR (cR (bodyOf Try.f5)))))))))))))))))))) :: []) n v_p2 v_k4 v_r340 v_r365 v_r378 v_z572 v_z573 v_t1 v_x3 v_r267 v_r321 v_r563 _ h786 ?_)
                cases v_o576 with
                | x0 v_z577 =>
                  dsimp only at h
                  by_cases h787 : v_z577 = true
                  · rw [if_pos h787] at h
                    obtain rfl := Option.some.inj h
                    exact pend_sound TTok mix 5 (hs := [.t true]) (by kernel_rfl) (by kernel_rfl) (by kernel_rfl) (.cons h787 .nil)
                  · rw [if_neg h787] at h
                    obtain ⟨v_o596, h809, h⟩ := bind_some h
                    refine pkk_sound TTok mix hF 12 (hs := [.t false, .c, .c]) (ts := []) (s := [3, 4]) (l := [13, 14, 15, 16, 21, 24]) (by kernel_rfl) (by kernel_rfl) (.cons (vf h787) .nil) (G_ringlaw2_TableTells_C4_ok hF (.s (cR (cT (cR (cL (cR (cR (cR (cR (cR (cR (cR (cR (cR (cR (cR (cR (cR (cR (cR (cR (cR (cR (cR (cR (bodyOf Try.f5))))))))))))))))))))))))) :: .s (cR (cR (cR (cR (cR (cR (cR (cR (cR (cR (cR (cR (cR (cR (cR (cR (cR (cR (cR (cR (cR (bodyOf Try.f5)))))))))))))))))))))) :: []) n v_r340 v_r365 _ h809 ?_)
                    cases v_o596 with
                    | x0 v_z597 =>
                      dsimp only at h
                      obtain rfl := Option.some.inj h
                      exact pend_sound TTok mix 2 (hs := []) (by kernel_rfl) (by kernel_rfl) (by kernel_rfl) .nil
    · rw [if_neg h610] at h
      obtain ⟨v_o1021, h1365, h⟩ := bind_some h
      refine pkk_sound TTok mix hF 31 (hs := [.c, .r (.tup [eS_entry_Entry v_r267.1, (eI .i64) v_r267.2]), .c, .c, .c, .r (.tup [(fun x => PV.agg (cA_t49 x)) v_r321.1, (eI .i64) v_r321.2]), .c, .c, .r (.tup [(fun x => PV.agg (cA_t49 x)) v_r340.1, (eI .i64) v_r340.2]), .c, .c, .r (.tup [(fun x => PV.agg (cA_t49 x)) v_r365.1, (eI .i64) v_r365.2]), .c, .c, .r (.tup [(eI .i64) v_r378.1, (eI .i64) v_r378.2.1, (eI .i64) v_r378.2.2]), .c, .r ((eI .i64) v_r461), .c, .r ((eI .i64) v_r462), .t false, .t false, .c, .c, .c]) (ts := []) (s := [0, 3, 27, 57, 84, 111]) (l := [1, 3, 4, 6, 9, 10, 11, 12, 13, 14, 15, 16, 17, 18, 19, 20, 21, 22, 23, 24, 79]) (by kernel_rfl) (by kernel_rfl) (.cons (G_table_Walk_ok n v_t1 v_p2 _ h351) (.cons (show 0 + 7 ≤ 7 by decide) (.cons (G_table_Set_ok n v_t1 v_p2 v_x3 _ h409) (.cons (show 0 + 16 ≤ 16 by decide) (.cons (G_table_Join_ok n v_t1 v_k4 _ h447) (.cons (show 0 + 16 ≤ 16 by decide) (.cons (G_table_Split_ok n v_t1 v_k4 _ h498) (.cons (show 0 + 16 ≤ 16 by decide) (.cons (G_table_Size_ok n v_t1 _ h510) (.cons (G_ringref2_Tables_ok n v_t1 _ h607) (.cons (G_table_Check_ok n v_t1 _ h608) (.cons (nf h609) (.cons (bf h610) .nil))))))))))))) (G_ringlaw2_TableTells_C26_ok hF (.s (cR (cR (cR (cR (cR (cR (cR (cR (cR (cR (cR (cR (bodyOf Try.f5))))))))))))) :: []) n v_p2 v_k4 v_r267 v_r321 v_r340 v_r365 v_r378 v_r461 v_t1 v_x3 _ h1365 ?_)
      cases v_o1021 with
      | x0 v_z1022 =>
        dsimp only at h
        obtain ⟨v_o1037, h1388, h⟩ := bind_some h
        refine pkk_sound TTok mix hF 7 (hs := [.t false, .c, .c, .c]) (ts := []) (s := [0, 1, 2, 3, 4, 5]) (l := [1, 3, 4, 6, 9, 10, 11, 12, 13, 14, 15, 16, 17, 18, 19, 20, 21, 22, 23, 24]) (by kernel_rfl) (by kernel_rfl) (.cons (bf h610) .nil) (G_ringlaw2_TableTells_C27_ok hF (.s (cR (cL (cR (cR (cR (cR (cR (cR (cR (cR (cR (cR (cR (cR (cR (bodyOf Try.f5)))))))))))))))) :: .s (cR (cR (cR (cR (cR (cR (cR (cR (cR (cR (cR (cR (cR (cR (bodyOf Try.f5))))))))))))))) :: []) n v_p2 v_k4 v_r267 v_r321 v_r340 v_r365 v_r378 v_r461 v_z1022 v_t1 v_x3 _ h1388 ?_)
        cases v_o1037 with
        | x0 v_z1038 =>
          dsimp only at h
          by_cases h1389 : v_z1038 = true
          · rw [if_pos h1389] at h
            obtain rfl := Option.some.inj h
            exact pend_sound TTok mix 5 (hs := [.t true]) (by kernel_rfl) (by kernel_rfl) (by kernel_rfl) (.cons h1389 .nil)
          · rw [if_neg h1389] at h
            obtain ⟨v_o1057, h1412, h⟩ := bind_some h
            refine pkk_sound TTok mix hF 7 (hs := [.t false, .t true]) (ts := []) (s := [4, 5]) (l := [13, 14, 15, 16, 20, 21]) (by kernel_rfl) (by kernel_rfl) (.cons (vf h1389) (.cons (nt h610) .nil)) (G_ringlaw2_TableTells_C28_ok hF (.s (cR (cT (cR (cL (cR (cR (cR (cR (cR (cR (cR (cR (cR (cR (cR (cR (cR (cR (bodyOf Try.f5))))))))))))))))))) :: .s (cR (cR (cR (cR (cR (cR (cR (cR (cR (cR (cR (cR (cR (cR (cR (bodyOf Try.f5)))))))))))))))) :: []) n v_r340 v_r365 v_r461 _ h1412 ?_)
            cases v_o1057 with
            | x0 v_z1058 =>
              dsimp only at h
              obtain rfl := Option.some.inj h
              exact pend_sound TTok mix 2 (hs := []) (by kernel_rfl) (by kernel_rfl) (by kernel_rfl) .nil
  · rw [if_neg h609] at h
    obtain rfl := Option.some.inj h
    exact pend_sound TTok mix 22 (hs := [.c, .r (.tup [eS_entry_Entry v_r267.1, (eI .i64) v_r267.2]), .c, .c, .c, .r (.tup [(fun x => PV.agg (cA_t49 x)) v_r321.1, (eI .i64) v_r321.2]), .c, .c, .r (.tup [(fun x => PV.agg (cA_t49 x)) v_r340.1, (eI .i64) v_r340.2]), .c, .c, .r (.tup [(fun x => PV.agg (cA_t49 x)) v_r365.1, (eI .i64) v_r365.2]), .c, .c, .r (.tup [(eI .i64) v_r378.1, (eI .i64) v_r378.2.1, (eI .i64) v_r378.2.2]), .c, .r ((eI .i64) v_r461), .c, .r ((eI .i64) v_r462), .t true]) (by kernel_rfl) (by kernel_rfl) (by kernel_rfl) (.cons (G_table_Walk_ok n v_t1 v_p2 _ h351) (.cons (show 0 + 7 ≤ 7 by decide) (.cons (G_table_Set_ok n v_t1 v_p2 v_x3 _ h409) (.cons (show 0 + 16 ≤ 16 by decide) (.cons (G_table_Join_ok n v_t1 v_k4 _ h447) (.cons (show 0 + 16 ≤ 16 by decide) (.cons (G_table_Split_ok n v_t1 v_k4 _ h498) (.cons (show 0 + 16 ≤ 16 by decide) (.cons (G_table_Size_ok n v_t1 _ h510) (.cons (G_ringref2_Tables_ok n v_t1 _ h607) (.cons (G_table_Check_ok n v_t1 _ h608) (.cons (nt h609) .nil))))))))))))
def okA {n : Nat} {α : Type} (ok : α → Prop) (A : Fin n → α) : Prop := ∀ i, ok (A i)
theorem br_congr {α : Type} {s : rep.Sh} {g g' : α → List PV} {ok : α → Prop} (h : Br s g ok) (h' : ∀ a, g' a = g a) : Br s g' ok := by
  intro w x cs hr
  obtain ⟨a, o, q⟩ := h w x cs hr
  exact ⟨a, o, by rw [h' a]; exact q⟩
theorem RL_flat {α : Type} {w : World} {s : Nat} {g : α → List PV} : ∀ (l : List α) (cs : List Value), cs.length = l.length * s → (∀ i (hi : i < l.length), RL (fun _ => false) w (g l[i]) ((cs.drop (i * s)).take s)) → RL (fun _ => false) w (l.flatMap g) cs
  | [], cs, h, _ => by
    have : cs = [] := by simpa using h
    subst this
    simp [RL]
  | a :: l, cs, h, hp => by
    have h0 := hp 0 (by simp)
    simp only [Nat.zero_mul, List.drop_zero, List.getElem_cons_zero] at h0
    have h1 := RL_flat (w := w) (s := s) (g := g) l (cs.drop s) (by rw [List.length_drop, h, List.length_cons, Nat.succ_mul]; omega) (fun i hi => by
      have := hp (i + 1) (by simpa using hi)
      rw [List.getElem_cons_succ, Nat.succ_mul] at this
      rw [List.drop_drop]
      rwa [Nat.add_comm s (i * s)])
    rw [List.flatMap_cons, ← List.take_append_drop s cs]
    exact h0.append h1
theorem br_arr {n : Nat} {α : Type} {e : rep.Sh} {g : α → List PV} {ok : α → Prop} (h : Br e g ok) : Br (.arr n e) (fun A : Fin n → α => (List.ofFn A).flatMap g) (okA ok) := by
  intro w xs cs hr
  obtain ⟨h1, h2, h3⟩ := hr
  have hx : ∀ i, i < n → ∃ a : α, ok a ∧ RL (fun _ => false) w (g a) ((cs.drop (i * e.size)).take e.size) := fun i hi => h w _ _ (h3 i (by rw [h1]; exact hi))
  obtain ⟨l, hl, hp⟩ := rep.exists_list n _ hx
  subst hl
  refine ⟨fun i => l[i.val], fun i => (hp i.val i.isLt).1, ?_⟩
  have e1 : List.ofFn (fun i : Fin l.length => l[i.val]) = l := List.ofFn_getElem
  show RL (fun _ => false) w ((List.ofFn (fun i : Fin l.length => l[i.val])).flatMap g) cs
  rw [e1]
  exact RL_flat l cs h2 (fun i hi => (hp i hi).2)
def okS_entry_Entry (x : S_entry_Entry) : Prop := (fun _ => True) x.fHere ∧ (fun _ => True) x.fSlot ∧ (fun a => (Lit.int .i64 a).wf = true) x.fAt ∧ (fun a => (Lit.int .i64 a).wf = true) x.fRights ∧ (fun _ => True) x.fUsed ∧ (fun _ => True) x.fDirty ∧ (fun _ => True) x.fCopy ∧ True
theorem brS_entry_Entry : Br (.pair .bool (.pair .bool (.pair (.int .i64) (.pair (.int .i64) (.pair .bool (.pair .bool (.pair .bool .unit))))))) (fun x : S_entry_Entry => [.v (.bool x.fHere), .v (.bool x.fSlot), .v (.int .i64 x.fAt), .v (.int .i64 x.fRights), .v (.bool x.fUsed), .v (.bool x.fDirty), .v (.bool x.fCopy)]) okS_entry_Entry := br_map (br_pair br_bool (br_pair br_bool (br_pair (br_int .i64) (br_pair (br_int .i64) (br_pair br_bool (br_pair br_bool (br_pair br_bool br_unit))))))) (fun p => S_entry_Entry.mk p.1 p.2.1 p.2.2.1 p.2.2.2.1 p.2.2.2.2.1 p.2.2.2.2.2.1 p.2.2.2.2.2.2.1) (fun p h => ⟨rfl, h⟩)
def okS_table_Node (x : S_table_Node) : Prop := (fun _ => True) x.fHuge ∧ (okL 32 okS_entry_Entry) x.fEntries ∧ True
theorem brS_table_Node : Br (.pair .bool (.pair (.slice 32 (.pair .bool (.pair .bool (.pair (.int .i64) (.pair (.int .i64) (.pair .bool (.pair .bool (.pair .bool .unit)))))))) .unit)) (fun x : S_table_Node => [.v (.bool x.fHuge), .sl (x.fEntries.map eS_entry_Entry)]) okS_table_Node := br_map (br_pair br_bool (br_pair (br_slice (f := eS_entry_Entry) (ok := okS_entry_Entry) brS_entry_Entry (fun _ => rfl) (by decide)) br_unit)) (fun p => S_table_Node.mk p.1 p.2.1) (fun p h => ⟨rfl, h⟩)
theorem TableTells_walk (H : ∀ (a0 : (Fin 8 → S_table_Node)) (a1 : Int) (a2 : S_entry_Entry) (a3 : Int), (okA (n := 8) okS_table_Node) a0 → (fun a => (Lit.int .i64 a).wf = true) a1 → okS_entry_Entry a2 → (fun a => (Lit.int .i64 a).wf = true) a3 → ∃ n, G_ringlaw2_TableTells n a0 a1 a2 a3 = some true) (w : World) (v0 : Value) (v1 : Value) (v2 : Value) (v3 : Value) (h0 : rep.Arg w (.arr 8 (.pair .bool (.pair (.slice 32 (.pair .bool (.pair .bool (.pair (.int .i64) (.pair (.int .i64) (.pair .bool (.pair .bool (.pair .bool .unit)))))))) .unit))) v0) (h1 : rep.Arg w (.int .i64) v1) (h2 : rep.Arg w (.pair .bool (.pair .bool (.pair (.int .i64) (.pair (.int .i64) (.pair .bool (.pair .bool (.pair .bool .unit))))))) v2) (h3 : rep.Arg w (.int .i64) v3) : Calls Try.prog 5 #[v0, v1, v2, v3] w (help.Ret (.bool true) w) := by
  obtain ⟨a0, o0, r0⟩ := arg_agg (br_congr (g' := fun x : (Fin 8 → S_table_Node) => [.v (.bool ((x 0).fHuge)), .sl (((x 0).fEntries).map eS_entry_Entry), .v (.bool ((x 1).fHuge)), .sl (((x 1).fEntries).map eS_entry_Entry), .v (.bool ((x 2).fHuge)), .sl (((x 2).fEntries).map eS_entry_Entry), .v (.bool ((x 3).fHuge)), .sl (((x 3).fEntries).map eS_entry_Entry), .v (.bool ((x 4).fHuge)), .sl (((x 4).fEntries).map eS_entry_Entry), .v (.bool ((x 5).fHuge)), .sl (((x 5).fEntries).map eS_entry_Entry), .v (.bool ((x 6).fHuge)), .sl (((x 6).fEntries).map eS_entry_Entry), .v (.bool ((x 7).fHuge)), .sl (((x 7).fEntries).map eS_entry_Entry)]) (br_arr (n := 8) (g := fun a : S_table_Node => [.v (.bool a.fHuge), .sl (a.fEntries.map eS_entry_Entry)]) (ok := okS_table_Node) brS_table_Node) (fun x => rfl)) (by rfl) h0
  obtain ⟨a1, o1, r1⟩ := arg_one (br_int .i64) (by rfl) h1
  obtain ⟨a2, o2, r2⟩ := arg_agg brS_entry_Entry (by rfl) h2
  obtain ⟨a3, o3, r3⟩ := arg_one (br_int .i64) (by rfl) h3
  obtain ⟨n, hn⟩ := H a0 a1 a2 a3 o0 o1 o2 o3
  exact walk_of (G_ringlaw2_TableTells_ok n a0 a1 a2 a3 true hn) (RT_cons r0 (RT_cons r1 (RT_cons r2 (RT_cons r3 RT_nil))))
/- FRAME TableTells; ringhall/ringlaw2.TableTells; (.arr 8 (.pair .bool (.pair (.slice 32 (.pair .bool (.pair .bool (.pair (.int .i64) (.pair (.int .i64) (.pair .bool (.pair .bool (.pair .bool .unit)))))))) .unit))) | (.int .i64) | (.pair .bool (.pair .bool (.pair (.int .i64) (.pair (.int .i64) (.pair .bool (.pair .bool (.pair .bool .unit))))))) | (.int .i64); .agg #[.bool false, .slice none 0 0, .bool false, .slice none 0 0, .bool false, .slice none 0 0, .bool false, .slice none 0 0, .bool false, .slice none 0 0, .bool false, .slice none 0 0, .bool false, .slice none 0 0, .bool false, .slice none 0 0] | .int .i64 0 | .agg #[.bool false, .bool false, .int .i64 0, .int .i64 0, .bool false, .bool false, .bool false] | .int .i64 0 -/
end Go.Proofs.Ytnmpnljjaoddhaa.pv
