/- What the functions compute (part 3): written by gen.py. -/
import Derived.Test.YtnmpnljjaoddhaaGuAreaTellsP2
set_option maxRecDepth 100000
set_option linter.all false
namespace Go.Proofs.Ytnmpnljjaoddhaa.pv
open Go.RowKit
def G_ringlaw2_AreaTells_L37_hd (v_r209 : (Int × Int)) (v_x2 : S_area_Area) (v_r426 : ((Fin 64 → Int))) (v_first847 : Int) : PS := ⟨[dd, dd, dd, .ref 0 0, dd, dd, dd, dd, dd, dd, dd, dd, dd, dd, .d (.v (.int .i64 v_r209.1)), .d (.v (.int .i64 v_r209.2)), dd, .ref 1 0, dd, dd, dd, dd, dd, dd, dd, dd, dd, dd, dd, dd, dd, .d (.v (.int .i64 v_first847)), dd, dd, dd, dd, dd, dd, dd, dd, dd, dd, dd, dd, dd, dd, dd, dd, dd, dd, dd, dd, dd, dd, dd, dd, dd, dd, dd, dd, dd, dd, dd, dd, dd, dd, dd, dd, dd, dd, dd, dd, dd, dd, dd, dd, dd, dd, dd, dd, dd, dd, dd, dd, dd, dd, dd, dd, dd, dd, dd, dd, dd, dd, dd, dd, dd, dd, dd, dd, dd, dd, dd, dd, dd, dd, dd, dd, dd, dd, dd, dd, dd, dd, dd, dd, dd, dd, dd, dd, dd, dd, dd, dd, dd, dd, dd, dd, dd, dd, dd, dd, dd, dd, dd, dd, dd, dd, dd, dd, dd, dd, dd, dd, dd, dd, dd, dd, dd, dd, dd, dd, dd, dd, dd, dd, dd, dd, dd, dd, dd, dd, dd, dd, dd, dd, dd, dd, dd, dd, dd, dd, dd, dd, dd, dd, dd, dd, dd, dd, dd, dd, dd, dd, dd, dd, dd, dd, dd, dd, dd, dd, dd, dd, dd, dd, dd, dd, dd, dd, dd, dd, dd, dd, dd, dd, dd, dd, dd, dd, dd, dd, dd, dd, dd, dd, dd, dd, dd, dd, dd, dd, dd, dd, dd, dd, dd, dd, dd, dd, dd, dd, dd, dd, dd, dd, dd, dd, dd, dd, dd, dd, dd, dd, dd, dd, dd, dd, dd, dd, dd, dd, dd, dd, dd, dd, dd, dd, dd, dd, dd, dd, dd, dd, dd, dd, dd, dd, dd, dd, dd, dd, dd, dd, dd, dd, dd, dd, dd, dd, dd, dd, dd, dd, dd, dd, dd, dd, dd, dd, dd, dd, dd, dd, dd, dd, dd, dd, dd, dd, dd, dd, dd, dd, dd, dd, dd, dd, dd, dd, dd, dd, dd, dd, dd, dd, dd, dd, dd, dd, dd, dd, dd, dd, dd, dd, dd, dd, dd, dd, dd, dd, dd, dd, dd, dd, dd, dd, dd, dd, dd, dd, dd, dd, dd, dd, dd, dd, dd, dd], [.box [.d (.v (.int .i64 v_x2.fPage)), .d (.v (.int .i64 v_x2.fN)), .d (.v (.int .i64 v_x2.fRights))], .box ((cA_t119 v_r426).map FV.d)]⟩
def G_ringlaw2_AreaTells_L37 (n : Nat) (v_r209 : (Int × Int)) (v_x2 : S_area_Area) (v_r426 : ((Fin 64 → Int))) : Nat → Int → Option G_ringlaw2_AreaTells_L37_R
  | 0, _ => none
  | k + 1, v_first847 =>
    if (wi .i64 (v_first847 + v_x2.fN)) ≤ 64 then
     if 0 ≤ v_first847 ∧ v_first847 ≤ (wi .i64 (v_first847 + v_x2.fN)) ∧ (wi .i64 (v_first847 + v_x2.fN)) ≤ (64 : Int) ∧ v_first847 < (64 : Int) then
      (G_slices_ContainsFunc_int_int n (((List.ofFn v_r426).drop v_first847.toNat).take ((wi .i64 (v_first847 + v_x2.fN)).toNat - v_first847.toNat)) (fun (y0 : Int) => G_ringlaw2_AreaTells_1 n y0)).bind fun (v_r849 : (Bool)) =>
      if v_r849 = true then
       G_ringlaw2_AreaTells_L37 n v_r209 v_x2 v_r426 k (wi .i64 (v_first847 + 1))
      else
       if v_r209.1 = v_first847 then
        some (.x0 (v_r209.2 == 0))
       else
        some (.x0 false)
     else none
    else
     some (.x1 )
theorem G_ringlaw2_AreaTells_L37_ok {Fi : Ex → PS → Prop} (hF : KC 350 Fi) (ks : List Fr) (n : Nat) (v_r209 : (Int × Int)) (v_x2 : S_area_Area) (v_r426 : ((Fin 64 → Int)))  : ∀ (k : Nat) (v_first847 : Int) (o : G_ringlaw2_AreaTells_L37_R), G_ringlaw2_AreaTells_L37 n v_r209 v_x2 v_r426 k v_first847 = some o → RunE Try.prog 350 Fi ks (G_ringlaw2_AreaTells_L37_ex o) (G_ringlaw2_AreaTells_L37_st v_r209 v_x2 v_r426 o) → RunE Try.prog 350 Fi (.l k (cP (cB (cR (cL (cR (cR (cR (cR (cR (cR (cR (cR (cR (cR (cR (cR (cR (cR (cR (cR (cR (cR (cR (cR (cR (bodyOf Try.f8)))))))))))))))))))))))))) :: ks) .normal (G_ringlaw2_AreaTells_L37_hd v_r209 v_x2 v_r426 v_first847)
  | 0, v_first847, o, h, q => by rw [G_ringlaw2_AreaTells_L37] at h; cases h
  | k + 1, v_first847, o, h, q => by
    rw [G_ringlaw2_AreaTells_L37] at h
    by_cases h1073 : (wi .i64 (v_first847 + v_x2.fN)) ≤ 64
    · rw [if_pos h1073] at h
      by_cases h1080 : 0 ≤ v_first847 ∧ v_first847 ≤ (wi .i64 (v_first847 + v_x2.fN)) ∧ (wi .i64 (v_first847 + v_x2.fN)) ≤ (64 : Int) ∧ v_first847 < (64 : Int)
      · rw [if_pos h1080] at h
        obtain ⟨v_r849, h1081, h⟩ := bind_some h
        by_cases h1084 : v_r849 = true
        · rw [if_pos h1084] at h
          exact pkk_sound TTok mix hF 14 (hs := [.c, .t true, .c, .c, .e 35 [1] (.d (.v (.bool v_r849))) [], .t false]) (ts := []) (s := [0, 1]) (l := [3, 14, 15, 17, 31]) (by kernel_rfl) (by kernel_rfl) (.cons (dt h1073) (.cons (h1080.1) (.cons (h1080.2.1) (.cons (h1080.2.2.1) (.cons (h1080.2.2.2) (.cons (xcallF (P := Try.prog) (T := TT) (fv := .d (.clo 73 [])) (vs := [.asl 1 (0 + v_first847.toNat * 1) ((wi .i64 (v_first847 + v_x2.fN)).toNat - v_first847.toNat) (64 - v_first847.toNat) 1 false, .d (.clo 74 [])]) (f := .func 73) (args := #[(.tmp 334), (.func 74)]) (tys := #[22, 125]) (m0 := [(1, .box ((cA_t119 v_r426).map FV.d))]) (fun m hm => rfl) (fun m hm => (fz_cons (fzA (l := 1) (cells := ((cA_t119 v_r426).map FV.d)) (c := (64 - v_first847.toNat)) (A := v_r426) (f := (eI .i64)) (a := v_first847) (b := (wi .i64 (v_first847 + v_x2.fN))) (by first | rfl | exact congrArg (List.map FV.d) (flatMap_one _ _)) ⟨h1080.1, h1080.2.1, h1080.2.2.1⟩ (by simp) m hm) (fz_cons (fzD (m := m) (.clo 74 [])) fz_nil))) (G_slices_ContainsFunc_int_int_ok n (((List.ofFn v_r426).drop v_first847.toNat).take ((wi .i64 (v_first847 + v_x2.fN)).toNat - v_first847.toNat)) (fun (y0 : Int) => G_ringlaw2_AreaTells_1 n y0) 74 [] (fun y0 r h => G_ringlaw2_AreaTells_1_ok n y0 r h) _ h1081) (by rfl)) (.cons (bnf h1084) .nil))))))) (G_ringlaw2_AreaTells_L37_ok hF ks n v_r209 v_x2 v_r426 k (wi .i64 (v_first847 + 1)) _ h q)
        · rw [if_neg h1084] at h
          by_cases h1085 : v_r209.1 = v_first847
          · rw [if_pos h1085] at h
            cases h
            exact pkk_sound TTok mix hF 17 (hs := [.c, .t true, .c, .c, .e 35 [1] (.d (.v (.bool v_r849))) [], .t true, .t true, .c]) (ts := []) (s := []) (l := [4]) (by kernel_rfl) (by kernel_rfl) (.cons (dt h1073) (.cons (h1080.1) (.cons (h1080.2.1) (.cons (h1080.2.2.1) (.cons (h1080.2.2.2) (.cons (xcallF (P := Try.prog) (T := TT) (fv := .d (.clo 73 [])) (vs := [.asl 1 (0 + v_first847.toNat * 1) ((wi .i64 (v_first847 + v_x2.fN)).toNat - v_first847.toNat) (64 - v_first847.toNat) 1 false, .d (.clo 74 [])]) (f := .func 73) (args := #[(.tmp 334), (.func 74)]) (tys := #[22, 125]) (m0 := [(1, .box ((cA_t119 v_r426).map FV.d))]) (fun m hm => rfl) (fun m hm => (fz_cons (fzA (l := 1) (cells := ((cA_t119 v_r426).map FV.d)) (c := (64 - v_first847.toNat)) (A := v_r426) (f := (eI .i64)) (a := v_first847) (b := (wi .i64 (v_first847 + v_x2.fN))) (by first | rfl | exact congrArg (List.map FV.d) (flatMap_one _ _)) ⟨h1080.1, h1080.2.1, h1080.2.2.1⟩ (by simp) m hm) (fz_cons (fzD (m := m) (.clo 74 [])) fz_nil))) (G_slices_ContainsFunc_int_int_ok n (((List.ofFn v_r426).drop v_first847.toNat).take ((wi .i64 (v_first847 + v_x2.fN)).toNat - v_first847.toNat)) (fun (y0 : Int) => G_ringlaw2_AreaTells_1 n y0) 74 [] (fun y0 r h => G_ringlaw2_AreaTells_1_ok n y0 r h) _ h1081) (by rfl)) (.cons (bnt (vf h1084)) (.cons (bt h1085) .nil)))))))) q
          · rw [if_neg h1085] at h
            cases h
            exact pkk_sound TTok mix hF 17 (hs := [.c, .t true, .c, .c, .e 35 [1] (.d (.v (.bool v_r849))) [], .t true, .t false, .c]) (ts := []) (s := []) (l := [4]) (by kernel_rfl) (by kernel_rfl) (.cons (dt h1073) (.cons (h1080.1) (.cons (h1080.2.1) (.cons (h1080.2.2.1) (.cons (h1080.2.2.2) (.cons (xcallF (P := Try.prog) (T := TT) (fv := .d (.clo 73 [])) (vs := [.asl 1 (0 + v_first847.toNat * 1) ((wi .i64 (v_first847 + v_x2.fN)).toNat - v_first847.toNat) (64 - v_first847.toNat) 1 false, .d (.clo 74 [])]) (f := .func 73) (args := #[(.tmp 334), (.func 74)]) (tys := #[22, 125]) (m0 := [(1, .box ((cA_t119 v_r426).map FV.d))]) (fun m hm => rfl) (fun m hm => (fz_cons (fzA (l := 1) (cells := ((cA_t119 v_r426).map FV.d)) (c := (64 - v_first847.toNat)) (A := v_r426) (f := (eI .i64)) (a := v_first847) (b := (wi .i64 (v_first847 + v_x2.fN))) (by first | rfl | exact congrArg (List.map FV.d) (flatMap_one _ _)) ⟨h1080.1, h1080.2.1, h1080.2.2.1⟩ (by simp) m hm) (fz_cons (fzD (m := m) (.clo 74 [])) fz_nil))) (G_slices_ContainsFunc_int_int_ok n (((List.ofFn v_r426).drop v_first847.toNat).take ((wi .i64 (v_first847 + v_x2.fN)).toNat - v_first847.toNat)) (fun (y0 : Int) => G_ringlaw2_AreaTells_1 n y0) 74 [] (fun y0 r h => G_ringlaw2_AreaTells_1_ok n y0 r h) _ h1081) (by rfl)) (.cons (bnt (vf h1084)) (.cons (bf h1085) .nil)))))))) q
      · rw [if_neg h1080] at h; cases h
    · rw [if_neg h1073] at h
      cases h
      exact pkk_sound TTok mix hF 8 (hs := [.c, .t false]) (ts := []) (s := []) (l := [14, 15]) (by kernel_rfl) (by kernel_rfl) (.cons (df h1073) .nil) q
/- ringhall/ringlaw2.AreaTells -/
def G_ringlaw2_AreaTells (n : Nat) (v_l1 : (List S_area_Area)) (v_x2 : S_area_Area) : Option (Bool) :=
  (G_area_Put n v_l1 v_x2).bind fun (v_r139 : ((List S_area_Area) × Int)) =>
  (G_area_Out n v_l1 v_x2.fPage v_x2.fN).bind fun (v_r173 : ((List S_area_Area) × Int)) =>
  (G_area_Turn n v_l1 v_x2).bind fun (v_r180 : ((List S_area_Area) × Int)) =>
  (G_area_At n v_l1 v_x2.fPage).bind fun (v_r194 : (S_area_Area × Bool × Int)) =>
  (G_area_Gap n v_l1 v_x2.fN).bind fun (v_r209 : (Int × Int)) =>
  (G_ringref2_Areas n v_l1).bind fun (v_r402 : (Int)) =>
  (G_area_Check n v_l1).bind fun (v_r403 : (Int)) =>
  if v_r403 = v_r402 then
   if v_r402 = 0 then
    (G_ringref2_AreaPages n v_l1).bind fun (v_r426 : ((Fin 64 → Int))) =>
    (G_ringref2_AreaIs n v_x2).bind fun (v_r427 : (Bool)) =>
    if v_r427 = true then
     (G_ringref2_AreaIs n (S_area_Area.mk v_x2.fPage v_x2.fN 0)).bind fun (v_r633 : (Bool)) =>
     if v_r633 = true then
      (G_ringlaw2_AreaTells_L29 n v_l1 v_r139 v_r173 v_r180 v_r194 v_r209 v_x2 v_r426 n 0 v_r426 v_r426).bind fun v_o750 => match v_o750 with
      | .x0 v_z751 v_z752 =>
        (G_ringlaw2_AreaTells_L30 n v_l1 v_r139 v_r173 v_r180 v_r194 v_r209 v_x2 v_r426 v_z751 v_z752 n 0 v_r426).bind fun v_o761 => match v_o761 with
        | .x0 v_z762 =>
          (G_ringlaw2_AreaTells_L31 n v_l1 v_r139 v_r173 v_r180 v_r194 v_r209 v_x2 v_r426 v_z751 v_z762 v_z752 n 0 0 0).bind fun v_o774 => match v_o774 with
          | .x0 v_z775 v_z776 =>
            (G_ringlaw2_AreaTells_C32 n v_l1 v_r139 v_r173 v_r180 v_r194 v_r209 v_z775 v_z776 v_x2 v_r426 v_z751 v_z762 v_z752).bind fun v_o785 => match v_o785 with
            | .x0 v_z786 =>
              if v_z786 = true then
               some false
              else
               (G_ringlaw2_AreaTells_C33 n v_l1 v_r139 v_r173 v_r180 v_r194 v_r209 v_z775 v_z776 v_x2 v_r426 v_z751 v_z762 v_z752).bind fun v_o814 => match v_o814 with
               | .x0 v_z815 =>
                 if v_z815 = true then
                  some false
                 else
                  (G_ringref2_In n v_x2.fPage 0 63).bind fun (v_r816 : (Bool)) =>
                  if v_r816 = true then
                   (G_ringlaw2_AreaTells_L35 n v_r194 v_r209 v_l1 v_x2 v_r426 n 0 (S_area_Area.mk 0 0 0)).bind fun v_o837 => match v_o837 with
                   | .x0 v_z838 =>
                     (G_ringlaw2_AreaTells_C36 n v_r194 v_r209 v_x2 v_r426 v_z838).bind fun v_o844 => match v_o844 with
                     | .x0 v_z845 =>
                       if v_z845 = true then
                        some false
                       else
                        (G_ringref2_In n v_x2.fN 1 64).bind fun (v_r846 : (Bool)) =>
                        if v_r846 = true then
                         (G_ringlaw2_AreaTells_L37 n v_r209 v_x2 v_r426 n 0).bind fun v_o852 => match v_o852 with
                         | .x0 v_z853 =>
                           some v_z853
                         | .x1  =>
                           if v_r209.1 = 0 then
                            some (v_r209.2 == 6)
                           else
                            some false
                        else
                         if v_r209.1 = 0 then
                          some (v_r209.2 == 1)
                         else
                          some false
                  else
                   if (eqRes .neq (eqS_area_Area v_r194.1 (S_area_Area.mk 0 0 0))) = true then
                    some false
                   else
                    if v_r194.2.1 = true then
                     some false
                    else
                     if v_r194.2.2 = 1 then
                      (G_ringref2_In n v_x2.fN 1 64).bind fun (v_r817 : (Bool)) =>
                      if v_r817 = true then
                       (G_ringlaw2_AreaTells_L34 n v_r209 v_x2 v_r426 n 0).bind fun v_o823 => match v_o823 with
                       | .x0 v_z824 =>
                         some v_z824
                       | .x1  =>
                         if v_r209.1 = 0 then
                          some (v_r209.2 == 6)
                         else
                          some false
                      else
                       if v_r209.1 = 0 then
                        some (v_r209.2 == 1)
                       else
                        some false
                     else
                      some false
     else
      (G_ringlaw2_AreaTells_L20 n v_l1 v_r139 v_r173 v_r180 v_r194 v_r209 v_x2 v_r426 n 0 v_r426 v_r426).bind fun v_o648 => match v_o648 with
      | .x0 v_z649 v_z650 =>
        (G_ringlaw2_AreaTells_L21 n v_l1 v_r139 v_r173 v_r180 v_r194 v_r209 v_x2 v_r426 v_z649 v_z650 n 0).bind fun v_o652 => match v_o652 with
        | .x0  =>
          (G_ringlaw2_AreaTells_L22 n v_l1 v_r139 v_r173 v_r180 v_r194 v_r209 v_x2 v_r426 v_z649 v_z650 n 0 0 0).bind fun v_o664 => match v_o664 with
          | .x0 v_z665 v_z666 =>
            (G_ringlaw2_AreaTells_C23 n v_l1 v_r139 v_r173 v_r180 v_r194 v_r209 v_z665 v_z666 v_x2 v_r426 v_z649 v_z650).bind fun v_o677 => match v_o677 with
            | .x0 v_z678 =>
              if v_z678 = true then
               some false
              else
               (G_ringlaw2_AreaTells_C24 n v_l1 v_r139 v_r173 v_r180 v_r194 v_r209 v_z665 v_z666 v_x2 v_r426 v_z649 v_z650).bind fun v_o696 => match v_o696 with
               | .x0 v_z697 =>
                 if v_z697 = true then
                  some false
                 else
                  (G_ringref2_In n v_x2.fPage 0 63).bind fun (v_r698 : (Bool)) =>
                  if v_r698 = true then
                   (G_ringlaw2_AreaTells_L26 n v_r194 v_r209 v_l1 v_x2 v_r426 n 0 (S_area_Area.mk 0 0 0)).bind fun v_o719 => match v_o719 with
                   | .x0 v_z720 =>
                     (G_ringlaw2_AreaTells_C27 n v_r194 v_r209 v_x2 v_r426 v_z720).bind fun v_o726 => match v_o726 with
                     | .x0 v_z727 =>
                       if v_z727 = true then
                        some false
                       else
                        (G_ringref2_In n v_x2.fN 1 64).bind fun (v_r728 : (Bool)) =>
                        if v_r728 = true then
                         (G_ringlaw2_AreaTells_L28 n v_r209 v_x2 v_r426 n 0).bind fun v_o734 => match v_o734 with
                         | .x0 v_z735 =>
                           some v_z735
                         | .x1  =>
                           if v_r209.1 = 0 then
                            some (v_r209.2 == 6)
                           else
                            some false
                        else
                         if v_r209.1 = 0 then
                          some (v_r209.2 == 1)
                         else
                          some false
                  else
                   if (eqRes .neq (eqS_area_Area v_r194.1 (S_area_Area.mk 0 0 0))) = true then
                    some false
                   else
                    if v_r194.2.1 = true then
                     some false
                    else
                     if v_r194.2.2 = 1 then
                      (G_ringref2_In n v_x2.fN 1 64).bind fun (v_r699 : (Bool)) =>
                      if v_r699 = true then
                       (G_ringlaw2_AreaTells_L25 n v_r209 v_x2 v_r426 n 0).bind fun v_o705 => match v_o705 with
                       | .x0 v_z706 =>
                         some v_z706
                       | .x1  =>
                         if v_r209.1 = 0 then
                          some (v_r209.2 == 6)
                         else
                          some false
                      else
                       if v_r209.1 = 0 then
                        some (v_r209.2 == 1)
                       else
                        some false
                     else
                      some false
    else
     (G_ringref2_AreaIs n (S_area_Area.mk v_x2.fPage v_x2.fN 0)).bind fun (v_r428 : (Bool)) =>
     if v_r428 = true then
      (G_ringlaw2_AreaTells_L11 n v_l1 v_r139 v_r173 v_r180 v_r194 v_r209 v_x2 v_r426 n 0).bind fun v_o531 => match v_o531 with
      | .x0  =>
        (G_ringlaw2_AreaTells_L12 n v_l1 v_r139 v_r173 v_r180 v_r194 v_r209 v_x2 v_r426 n 0 v_r426).bind fun v_o540 => match v_o540 with
        | .x0 v_z541 =>
          (G_ringlaw2_AreaTells_L13 n v_l1 v_r139 v_r173 v_r180 v_r194 v_r209 v_x2 v_r426 v_z541 n 1 1 0).bind fun v_o553 => match v_o553 with
          | .x0 v_z554 v_z555 =>
            (G_ringlaw2_AreaTells_C14 n v_l1 v_r139 v_r173 v_r180 v_r194 v_r209 v_z554 v_z555 v_x2 v_r426 v_z541).bind fun v_o564 => match v_o564 with
            | .x0 v_z565 =>
              if v_z565 = true then
               some false
              else
               (G_ringlaw2_AreaTells_C15 n v_l1 v_r139 v_r173 v_r180 v_r194 v_r209 v_z554 v_z555 v_x2 v_r426 v_z541).bind fun v_o593 => match v_o593 with
               | .x0 v_z594 =>
                 if v_z594 = true then
                  some false
                 else
                  (G_ringref2_In n v_x2.fPage 0 63).bind fun (v_r595 : (Bool)) =>
                  if v_r595 = true then
                   (G_ringlaw2_AreaTells_L17 n v_r194 v_r209 v_l1 v_x2 v_r426 n 0 (S_area_Area.mk 0 0 0)).bind fun v_o616 => match v_o616 with
                   | .x0 v_z617 =>
                     (G_ringlaw2_AreaTells_C18 n v_r194 v_r209 v_x2 v_r426 v_z617).bind fun v_o623 => match v_o623 with
                     | .x0 v_z624 =>
                       if v_z624 = true then
                        some false
                       else
                        (G_ringref2_In n v_x2.fN 1 64).bind fun (v_r625 : (Bool)) =>
                        if v_r625 = true then
                         (G_ringlaw2_AreaTells_L19 n v_r209 v_x2 v_r426 n 0).bind fun v_o631 => match v_o631 with
                         | .x0 v_z632 =>
                           some v_z632
                         | .x1  =>
                           if v_r209.1 = 0 then
                            some (v_r209.2 == 6)
                           else
                            some false
                        else
                         if v_r209.1 = 0 then
                          some (v_r209.2 == 1)
                         else
                          some false
                  else
                   if (eqRes .neq (eqS_area_Area v_r194.1 (S_area_Area.mk 0 0 0))) = true then
                    some false
                   else
                    if v_r194.2.1 = true then
                     some false
                    else
                     if v_r194.2.2 = 1 then
                      (G_ringref2_In n v_x2.fN 1 64).bind fun (v_r596 : (Bool)) =>
                      if v_r596 = true then
                       (G_ringlaw2_AreaTells_L16 n v_r209 v_x2 v_r426 n 0).bind fun v_o602 => match v_o602 with
                       | .x0 v_z603 =>
                         some v_z603
                       | .x1  =>
                         if v_r209.1 = 0 then
                          some (v_r209.2 == 6)
                         else
                          some false
                      else
                       if v_r209.1 = 0 then
                        some (v_r209.2 == 1)
                       else
                        some false
                     else
                      some false
     else
      (G_ringlaw2_AreaTells_L2 n v_l1 v_r139 v_r173 v_r180 v_r194 v_r209 v_x2 v_r426 n 0).bind fun v_o430 => match v_o430 with
      | .x0  =>
        (G_ringlaw2_AreaTells_L3 n v_l1 v_r139 v_r173 v_r180 v_r194 v_r209 v_x2 v_r426 n 0).bind fun v_o432 => match v_o432 with
        | .x0  =>
          (G_ringlaw2_AreaTells_L4 n v_l1 v_r139 v_r173 v_r180 v_r194 v_r209 v_x2 v_r426 n 1 1 0).bind fun v_o444 => match v_o444 with
          | .x0 v_z445 v_z446 =>
            (G_ringlaw2_AreaTells_C5 n v_l1 v_r139 v_r173 v_r180 v_r194 v_r209 v_z445 v_z446 v_x2 v_r426).bind fun v_o457 => match v_o457 with
            | .x0 v_z458 =>
              if v_z458 = true then
               some false
              else
               (G_ringlaw2_AreaTells_C6 n v_l1 v_r139 v_r173 v_r180 v_r194 v_r209 v_z445 v_z446 v_x2 v_r426).bind fun v_o476 => match v_o476 with
               | .x0 v_z477 =>
                 if v_z477 = true then
                  some false
                 else
                  (G_ringref2_In n v_x2.fPage 0 63).bind fun (v_r478 : (Bool)) =>
                  if v_r478 = true then
                   (G_ringlaw2_AreaTells_L8 n v_r194 v_r209 v_l1 v_x2 v_r426 n 0 (S_area_Area.mk 0 0 0)).bind fun v_o513 => match v_o513 with
                   | .x0 v_z514 =>
                     (G_ringlaw2_AreaTells_C9 n v_r194 v_r209 v_x2 v_r426 v_z514).bind fun v_o520 => match v_o520 with
                     | .x0 v_z521 =>
                       if v_z521 = true then
                        some false
                       else
                        (G_ringref2_In n v_x2.fN 1 64).bind fun (v_r522 : (Bool)) =>
                        if v_r522 = true then
                         (G_ringlaw2_AreaTells_L10 n v_r209 v_x2 v_r426 n 0).bind fun v_o528 => match v_o528 with
                         | .x0 v_z529 =>
                           some v_z529
                         | .x1  =>
                           if v_r209.1 = 0 then
                            some (v_r209.2 == 6)
                           else
                            some false
                        else
                         if v_r209.1 = 0 then
                          some (v_r209.2 == 1)
                         else
                          some false
                  else
                   if (eqRes .neq (eqS_area_Area v_r194.1 (S_area_Area.mk 0 0 0))) = true then
                    some false
                   else
                    if v_r194.2.1 = true then
                     some false
                    else
                     if v_r194.2.2 = 1 then
                      (G_ringref2_In n v_x2.fN 1 64).bind fun (v_r479 : (Bool)) =>
                      if v_r479 = true then
                       (G_ringlaw2_AreaTells_L7 n v_r209 v_x2 v_r426 n 0).bind fun v_o499 => match v_o499 with
                       | .x0 v_z500 =>
                         some v_z500
                       | .x1  =>
                         if v_r209.1 = 0 then
                          some (v_r209.2 == 6)
                         else
                          some false
                      else
                       if v_r209.1 = 0 then
                        some (v_r209.2 == 1)
                       else
                        some false
                     else
                      some false
   else
    (G_ringlaw2_AreaTells_C1 n v_r139 v_r173 v_r180 v_r194 v_r209 v_r402).bind fun v_o424 => match v_o424 with
    | .x0 v_z425 =>
      some v_z425
  else
   some false
set_option maxHeartbeats 0 in
theorem G_ringlaw2_AreaTells_ok (n : Nat) (v_l1 : (List S_area_Area)) (v_x2 : S_area_Area) (r : Bool) (h : G_ringlaw2_AreaTells n v_l1 v_x2 = some r) : Ret Try.prog 8 [(eL eS_area_Area) v_l1, eS_area_Area v_x2] (eB r) := by
  refine ret_run (n := 350) (fn := Try.f8) (c := bodyOf Try.f8) (by as_aux_lemma => kernel_rfl) (by as_aux_lemma => kernel_rfl) (by as_aux_lemma => kernel_rfl) (by as_aux_lemma => kernel_rfl) ?_
  have hF : KC 350 (FinR Try.prog Try.f8 (eB r)) := FinR.kc' (by as_aux_lemma => kernel_rfl)
  unfold G_ringlaw2_AreaTells at h
  obtain ⟨v_r139, h157, h⟩ := bind_some h
  obtain ⟨v_r173, h191, h⟩ := bind_some h
  obtain ⟨v_r180, h199, h⟩ := bind_some h
  obtain ⟨v_r194, h215, h⟩ := bind_some h
  obtain ⟨v_r209, h228, h⟩ := bind_some h
  obtain ⟨v_r402, h457, h⟩ := bind_some h
  obtain ⟨v_r403, h458, h⟩ := bind_some h
  by_cases h459 : v_r403 = v_r402
  · rw [if_pos h459] at h
    by_cases h478 : v_r402 = 0
    · rw [if_pos h478] at h
      obtain ⟨v_r426, h496, h⟩ := bind_some h
      obtain ⟨v_r427, h497, h⟩ := bind_some h
      by_cases h498 : v_r427 = true
      · rw [if_pos h498] at h
        obtain ⟨v_r633, h780, h⟩ := bind_some h
        by_cases h781 : v_r633 = true
        · rw [if_pos h781] at h
          obtain ⟨v_o750, h944, h⟩ := bind_some h
          refine pkk_sound TTok mix hF 45 (hs := [.c, .r (.tup [(eL eS_area_Area) v_r139.1, (eI .i64) v_r139.2]), .c, .c, .r (.tup [(eL eS_area_Area) v_r173.1, (eI .i64) v_r173.2]), .c, .r (.tup [(eL eS_area_Area) v_r180.1, (eI .i64) v_r180.2]), .c, .r (.tup [eS_area_Area v_r194.1, eB v_r194.2.1, (eI .i64) v_r194.2.2]), .c, .c, .r (.tup [(eI .i64) v_r209.1, (eI .i64) v_r209.2]), .r ((eI .i64) v_r402), .r ((eI .i64) v_r403), .t false, .t false, .r ((fun x => PV.agg (cA_t119 x)) v_r426), .c, .c, .r (eB v_r427), .t false, .c, .c, .r (eB v_r633), .t false, .c, .c, .c, .c, .c, .c, .n n]) (ts := []) (s := [0, 111, 183, 237, 240, 243]) (l := [0, 3, 5, 6, 7, 8, 9, 10, 11, 12, 13, 14, 15, 17, 18, 19, 20, 21, 22, 23, 24]) (by as_aux_lemma => kernel_rfl) (by as_aux_lemma => kernel_rfl) (.cons (G_area_Put_ok n v_l1 v_x2 _ h157) (.cons (G_area_Out_ok n v_l1 v_x2.fPage v_x2.fN _ h191) (.cons (G_area_Turn_ok n v_l1 v_x2 _ h199) (.cons (G_area_At_ok n v_l1 v_x2.fPage _ h215) (.cons (show 0 + 3 ≤ 3 by decide) (.cons (G_area_Gap_ok n v_l1 v_x2.fN _ h228) (.cons (G_ringref2_Areas_ok n v_l1 _ h457) (.cons (G_area_Check_ok n v_l1 _ h458) (.cons (nf h459) (.cons (nf h478) (.cons (G_ringref2_AreaPages_ok n v_l1 _ h496) (.cons (show 0 + 64 ≤ 64 by decide) (.cons (G_ringref2_AreaIs_ok n v_x2 _ h497) (.cons (bnf h498) (.cons (G_ringref2_AreaIs_ok n (S_area_Area.mk v_x2.fPage v_x2.fN 0) _ h780) (.cons (bnf h781) (.cons (show 0 + 64 ≤ 64 by decide) (.cons (show 0 + 64 ≤ 64 by decide) (.cons (show 0 + 64 ≤ 64 by decide) .nil))))))))))))))))))) (G_ringlaw2_AreaTells_L29_ok hF (.b 0 :: .s (cR (cR (cR (cR (cR (cR (cR (cR (cR (cR (cR (cR (cR (cR (cR (bodyOf Try.f8)))))))))))))))) :: []) n v_l1 v_r139 v_r173 v_r180 v_r194 v_r209 v_x2 v_r426 n 0 v_r426 v_r426 _ h944 ?_)
          cases v_o750 with
          | x0 v_z751 v_z752 =>
            try dsimp only at h
            obtain ⟨v_o761, h955, h⟩ := bind_some h
            refine pkk_sound TTok mix hF 6 (hs := [.n n]) (ts := []) (s := [0, 1, 2, 3, 4, 5]) (l := [0, 3, 5, 6, 7, 8, 9, 10, 11, 12, 13, 14, 15, 17, 18, 19, 20, 21, 22, 23, 26]) (by as_aux_lemma => kernel_rfl) (by as_aux_lemma => kernel_rfl) .nil (G_ringlaw2_AreaTells_L30_ok hF (.b 2 :: .s (cR (cR (cR (cR (cR (cR (cR (cR (cR (cR (cR (cR (cR (cR (cR (cR (bodyOf Try.f8))))))))))))))))) :: []) n v_l1 v_r139 v_r173 v_r180 v_r194 v_r209 v_x2 v_r426 v_z751 v_z752 n 0 v_r426 _ h955 ?_)
            cases v_o761 with
            | x0 v_z762 =>
              try dsimp only at h
              obtain ⟨v_o774, h967, h⟩ := bind_some h
              refine pkk_sound TTok mix hF 6 (hs := [.n n]) (ts := []) (s := [0, 1, 2, 3, 4, 5]) (l := [0, 3, 5, 6, 7, 8, 9, 10, 11, 12, 13, 14, 15, 17, 18, 19, 20, 21, 22, 23, 27]) (by as_aux_lemma => kernel_rfl) (by as_aux_lemma => kernel_rfl) .nil (G_ringlaw2_AreaTells_L31_ok hF (.b 4 :: .s (cR (cR (cR (cR (cR (cR (cR (cR (cR (cR (cR (cR (cR (cR (cR (cR (cR (bodyOf Try.f8)))))))))))))))))) :: []) n v_l1 v_r139 v_r173 v_r180 v_r194 v_r209 v_x2 v_r426 v_z751 v_z762 v_z752 n 0 0 0 _ h967 ?_)
              cases v_o774 with
              | x0 v_z775 v_z776 =>
                try dsimp only at h
                obtain ⟨v_o785, h982, h⟩ := bind_some h
                refine pkk_sound TTok mix hF 3 (hs := []) (ts := []) (s := [0, 1, 2, 3, 4, 5]) (l := [0, 3, 5, 6, 7, 8, 9, 10, 11, 12, 13, 14, 15, 17, 18, 19, 20, 21, 22, 23]) (by as_aux_lemma => kernel_rfl) (by as_aux_lemma => kernel_rfl) .nil (G_ringlaw2_AreaTells_C32_ok hF (.s (cR (cL (cR (cR (cR (cR (cR (cR (cR (cR (cR (cR (cR (cR (cR (cR (cR (cR (cR (bodyOf Try.f8)))))))))))))))))))) :: .s (cR (cR (cR (cR (cR (cR (cR (cR (cR (cR (cR (cR (cR (cR (cR (cR (cR (cR (bodyOf Try.f8))))))))))))))))))) :: []) n v_l1 v_r139 v_r173 v_r180 v_r194 v_r209 v_z775 v_z776 v_x2 v_r426 v_z751 v_z762 v_z752 _ h982 ?_)
                cases v_o785 with
                | x0 v_z786 =>
                  try dsimp only at h
                  by_cases h983 : v_z786 = true
                  · rw [if_pos h983] at h
                    obtain rfl := Option.some.inj h
                    exact pend_sound TTok mix 5 (hs := [.t true]) (by as_aux_lemma => kernel_rfl) (by as_aux_lemma => kernel_rfl) (by as_aux_lemma => kernel_rfl) (.cons h983 .nil)
                  · rw [if_neg h983] at h
                    obtain ⟨v_o814, h1016, h⟩ := bind_some h
                    refine pkk_sound TTok mix hF 4 (hs := [.t false]) (ts := []) (s := [0, 1, 2, 3, 4, 5]) (l := [0, 3, 5, 7, 9, 11, 12, 13, 14, 15, 17, 18, 19, 20, 21, 22, 23]) (by as_aux_lemma => kernel_rfl) (by as_aux_lemma => kernel_rfl) (.cons (vf h983) .nil) (G_ringlaw2_AreaTells_C33_ok hF (.s (cR (cL (cR (cR (cR (cR (cR (cR (cR (cR (cR (cR (cR (cR (cR (cR (cR (cR (cR (cR (bodyOf Try.f8))))))))))))))))))))) :: .s (cR (cR (cR (cR (cR (cR (cR (cR (cR (cR (cR (cR (cR (cR (cR (cR (cR (cR (cR (bodyOf Try.f8)))))))))))))))))))) :: []) n v_l1 v_r139 v_r173 v_r180 v_r194 v_r209 v_z775 v_z776 v_x2 v_r426 v_z751 v_z762 v_z752 _ h1016 ?_)
                    cases v_o814 with
                    | x0 v_z815 =>
                      try dsimp only at h
                      by_cases h1017 : v_z815 = true
                      · rw [if_pos h1017] at h
                        obtain rfl := Option.some.inj h
                        exact pend_sound TTok mix 5 (hs := [.t true]) (by as_aux_lemma => kernel_rfl) (by as_aux_lemma => kernel_rfl) (by as_aux_lemma => kernel_rfl) (.cons h1017 .nil)
                      · rw [if_neg h1017] at h
                        obtain ⟨v_r816, h1018, h⟩ := bind_some h
                        by_cases h1019 : v_r816 = true
                        · rw [if_pos h1019] at h
                          obtain ⟨v_o837, h1057, h⟩ := bind_some h
                          refine pkk_sound TTok mix hF 13 (hs := [.t false, .c, .r (eB v_r816), .t false, .u (.d (.v (.int .i64 (v_l1.length : Int)))), .n n]) (ts := []) (s := [0, 1, 2, 15]) (l := [3, 11, 12, 13, 14, 15, 17, 28, 277, 278, 279]) (by as_aux_lemma => kernel_rfl) (by as_aux_lemma => kernel_rfl) (.cons (vf h1017) (.cons (G_ringref2_In_ok n v_x2.fPage 0 63 _ h1018) (.cons (bnf h1019) (.cons (len_ob (f := eS_area_Area) (l := v_l1)) .nil)))) (G_ringlaw2_AreaTells_L35_ok hF (.b 6 :: .s (cR (cR (cF (cR (cL (cR (cR (cR (cR (cR (cR (cR (cR (cR (cR (cR (cR (cR (cR (cR (cR (cR (cR (cR (bodyOf Try.f8))))))))))))))))))))))))) :: .s (cR (cR (cR (cR (cR (cR (cR (cR (cR (cR (cR (cR (cR (cR (cR (cR (cR (cR (cR (cR (bodyOf Try.f8))))))))))))))))))))) :: []) n v_r194 v_r209 v_l1 v_x2 v_r426 n 0 (S_area_Area.mk 0 0 0) _ h1057 ?_)
                          cases v_o837 with
                          | x0 v_z838 =>
                            try dsimp only at h
                            obtain ⟨v_o844, h1066, h⟩ := bind_some h
                            refine pkk_sound TTok mix hF 2 (hs := []) (ts := []) (s := [0, 1, 2, 3]) (l := [3, 11, 12, 13, 14, 15, 17, 28]) (by as_aux_lemma => kernel_rfl) (by as_aux_lemma => kernel_rfl) .nil (G_ringlaw2_AreaTells_C36_ok hF (.s (cR (cR (cR (cF (cR (cL (cR (cR (cR (cR (cR (cR (cR (cR (cR (cR (cR (cR (cR (cR (cR (cR (cR (cR (cR (bodyOf Try.f8)))))))))))))))))))))))))) :: .s (cR (cR (cR (cR (cR (cR (cR (cR (cR (cR (cR (cR (cR (cR (cR (cR (cR (cR (cR (cR (bodyOf Try.f8))))))))))))))))))))) :: []) n v_r194 v_r209 v_x2 v_r426 v_z838 _ h1066 ?_)
                            cases v_o844 with
                            | x0 v_z845 =>
                              try dsimp only at h
                              by_cases h1067 : v_z845 = true
                              · rw [if_pos h1067] at h
                                obtain rfl := Option.some.inj h
                                exact pend_sound TTok mix 5 (hs := [.t true]) (by as_aux_lemma => kernel_rfl) (by as_aux_lemma => kernel_rfl) (by as_aux_lemma => kernel_rfl) (.cons h1067 .nil)
                              · rw [if_neg h1067] at h
                                obtain ⟨v_r846, h1068, h⟩ := bind_some h
                                by_cases h1071 : v_r846 = true
                                · rw [if_pos h1071] at h
                                  obtain ⟨v_o852, h1086, h⟩ := bind_some h
                                  refine pkk_sound TTok mix hF 12 (hs := [.t false, .c, .r (eB v_r846), .t false, .n n]) (ts := []) (s := [0, 1]) (l := [3, 14, 15, 17, 31]) (by as_aux_lemma => kernel_rfl) (by as_aux_lemma => kernel_rfl) (.cons (vf h1067) (.cons (G_ringref2_In_ok n v_x2.fN 1 64 _ h1068) (.cons (bnf h1071) .nil))) (G_ringlaw2_AreaTells_L37_ok hF (.b 8 :: .s (cR (cR (cR (cR (cR (cR (cR (cR (cR (cR (cR (cR (cR (cR (cR (cR (cR (cR (cR (cR (cR (cR (bodyOf Try.f8))))))))))))))))))))))) :: []) n v_r209 v_x2 v_r426 n 0 _ h1086 ?_)
                                  cases v_o852 with
                                  | x0 v_z853 =>
                                    try dsimp only at h
                                    obtain rfl := Option.some.inj h
                                    exact pend_sound TTok mix 2 (hs := []) (by as_aux_lemma => kernel_rfl) (by as_aux_lemma => kernel_rfl) (by as_aux_lemma => kernel_rfl) .nil
                                  | x1  =>
                                    try dsimp only at h
                                    by_cases h1087 : v_r209.1 = 0
                                    · rw [if_pos h1087] at h
                                      obtain rfl := Option.some.inj h
                                      exact pend_sound TTok mix 4 (hs := [.t true, .c]) (by as_aux_lemma => kernel_rfl) (by as_aux_lemma => kernel_rfl) (by as_aux_lemma => kernel_rfl) (.cons (bt h1087) .nil)
                                    · rw [if_neg h1087] at h
                                      obtain rfl := Option.some.inj h
                                      exact pend_sound TTok mix 4 (hs := [.t false, .c]) (by as_aux_lemma => kernel_rfl) (by as_aux_lemma => kernel_rfl) (by as_aux_lemma => kernel_rfl) (.cons (bf h1087) .nil)
                                · rw [if_neg h1071] at h
                                  by_cases h1072 : v_r209.1 = 0
                                  · rw [if_pos h1072] at h
                                    obtain rfl := Option.some.inj h
                                    exact pend_sound TTok mix 10 (hs := [.t false, .c, .r (eB v_r846), .t true, .t true, .c]) (by as_aux_lemma => kernel_rfl) (by as_aux_lemma => kernel_rfl) (by as_aux_lemma => kernel_rfl) (.cons (vf h1067) (.cons (G_ringref2_In_ok n v_x2.fN 1 64 _ h1068) (.cons (bnt (vf h1071)) (.cons (bt h1072) .nil))))
                                  · rw [if_neg h1072] at h
                                    obtain rfl := Option.some.inj h
                                    exact pend_sound TTok mix 10 (hs := [.t false, .c, .r (eB v_r846), .t true, .t false, .c]) (by as_aux_lemma => kernel_rfl) (by as_aux_lemma => kernel_rfl) (by as_aux_lemma => kernel_rfl) (.cons (vf h1067) (.cons (G_ringref2_In_ok n v_x2.fN 1 64 _ h1068) (.cons (bnt (vf h1071)) (.cons (bf h1072) .nil))))
                        · rw [if_neg h1019] at h
                          by_cases h1020 : (eqRes .neq (eqS_area_Area v_r194.1 (S_area_Area.mk 0 0 0))) = true
                          · rw [if_pos h1020] at h
                            obtain rfl := Option.some.inj h
                            exact pend_sound TTok mix 13 (hs := [.t false, .c, .r (eB v_r816), .t true, .c, .q (eqS_area_Area v_r194.1 (S_area_Area.mk 0 0 0)), .t true, .c, .c, .c]) (by as_aux_lemma => kernel_rfl) (by as_aux_lemma => kernel_rfl) (by as_aux_lemma => kernel_rfl) (.cons (vf h1017) (.cons (G_ringref2_In_ok n v_x2.fPage 0 63 _ h1018) (.cons (bnt (vf h1019)) (.cons (eqS_area_Area_ok v_r194.1 (S_area_Area.mk 0 0 0)) (.cons h1020 .nil)))))
                          · rw [if_neg h1020] at h
                            by_cases h1021 : v_r194.2.1 = true
                            · rw [if_pos h1021] at h
                              obtain rfl := Option.some.inj h
                              exact pend_sound TTok mix 13 (hs := [.t false, .c, .r (eB v_r816), .t true, .c, .q (eqS_area_Area v_r194.1 (S_area_Area.mk 0 0 0)), .t false, .t true, .c, .c]) (by as_aux_lemma => kernel_rfl) (by as_aux_lemma => kernel_rfl) (by as_aux_lemma => kernel_rfl) (.cons (vf h1017) (.cons (G_ringref2_In_ok n v_x2.fPage 0 63 _ h1018) (.cons (bnt (vf h1019)) (.cons (eqS_area_Area_ok v_r194.1 (S_area_Area.mk 0 0 0)) (.cons (vf h1020) (.cons h1021 .nil))))))
                            · rw [if_neg h1021] at h
                              by_cases h1022 : v_r194.2.2 = 1
                              · rw [if_pos h1022] at h
                                obtain ⟨v_r817, h1023, h⟩ := bind_some h
                                by_cases h1026 : v_r817 = true
                                · rw [if_pos h1026] at h
                                  obtain ⟨v_o823, h1041, h⟩ := bind_some h
                                  refine pkk_sound TTok mix hF 20 (hs := [.t false, .c, .r (eB v_r816), .t true, .c, .q (eqS_area_Area v_r194.1 (S_area_Area.mk 0 0 0)), .t false, .t false, .c, .t false, .c, .r (eB v_r817), .t false, .n n]) (ts := []) (s := [0, 2]) (l := [3, 14, 15, 17, 31]) (by as_aux_lemma => kernel_rfl) (by as_aux_lemma => kernel_rfl) (.cons (vf h1017) (.cons (G_ringref2_In_ok n v_x2.fPage 0 63 _ h1018) (.cons (bnt (vf h1019)) (.cons (eqS_area_Area_ok v_r194.1 (S_area_Area.mk 0 0 0)) (.cons (vf h1020) (.cons (vf h1021) (.cons (nf h1022) (.cons (G_ringref2_In_ok n v_x2.fN 1 64 _ h1023) (.cons (bnf h1026) .nil))))))))) (G_ringlaw2_AreaTells_L34_ok hF (.b 8 :: .s (cR (cR (cR (cR (cR (cR (cR (cR (cR (cR (cR (cR (cR (cR (cR (cR (cR (cR (cR (cR (cR (cR (bodyOf Try.f8))))))))))))))))))))))) :: []) n v_r209 v_x2 v_r426 n 0 _ h1041 ?_)
                                  cases v_o823 with
                                  | x0 v_z824 =>
                                    try dsimp only at h
                                    obtain rfl := Option.some.inj h
                                    exact pend_sound TTok mix 2 (hs := []) (by as_aux_lemma => kernel_rfl) (by as_aux_lemma => kernel_rfl) (by as_aux_lemma => kernel_rfl) .nil
                                  | x1  =>
                                    try dsimp only at h
                                    by_cases h1042 : v_r209.1 = 0
                                    · rw [if_pos h1042] at h
                                      obtain rfl := Option.some.inj h
                                      exact pend_sound TTok mix 4 (hs := [.t true, .c]) (by as_aux_lemma => kernel_rfl) (by as_aux_lemma => kernel_rfl) (by as_aux_lemma => kernel_rfl) (.cons (bt h1042) .nil)
                                    · rw [if_neg h1042] at h
                                      obtain rfl := Option.some.inj h
                                      exact pend_sound TTok mix 4 (hs := [.t false, .c]) (by as_aux_lemma => kernel_rfl) (by as_aux_lemma => kernel_rfl) (by as_aux_lemma => kernel_rfl) (.cons (bf h1042) .nil)
                                · rw [if_neg h1026] at h
                                  by_cases h1027 : v_r209.1 = 0
                                  · rw [if_pos h1027] at h
                                    obtain rfl := Option.some.inj h
                                    exact pend_sound TTok mix 18 (hs := [.t false, .c, .r (eB v_r816), .t true, .c, .q (eqS_area_Area v_r194.1 (S_area_Area.mk 0 0 0)), .t false, .t false, .c, .t false, .c, .r (eB v_r817), .t true, .t true, .c]) (by as_aux_lemma => kernel_rfl) (by as_aux_lemma => kernel_rfl) (by as_aux_lemma => kernel_rfl) (.cons (vf h1017) (.cons (G_ringref2_In_ok n v_x2.fPage 0 63 _ h1018) (.cons (bnt (vf h1019)) (.cons (eqS_area_Area_ok v_r194.1 (S_area_Area.mk 0 0 0)) (.cons (vf h1020) (.cons (vf h1021) (.cons (nf h1022) (.cons (G_ringref2_In_ok n v_x2.fN 1 64 _ h1023) (.cons (bnt (vf h1026)) (.cons (bt h1027) .nil))))))))))
                                  · rw [if_neg h1027] at h
                                    obtain rfl := Option.some.inj h
                                    exact pend_sound TTok mix 18 (hs := [.t false, .c, .r (eB v_r816), .t true, .c, .q (eqS_area_Area v_r194.1 (S_area_Area.mk 0 0 0)), .t false, .t false, .c, .t false, .c, .r (eB v_r817), .t true, .t false, .c]) (by as_aux_lemma => kernel_rfl) (by as_aux_lemma => kernel_rfl) (by as_aux_lemma => kernel_rfl) (.cons (vf h1017) (.cons (G_ringref2_In_ok n v_x2.fPage 0 63 _ h1018) (.cons (bnt (vf h1019)) (.cons (eqS_area_Area_ok v_r194.1 (S_area_Area.mk 0 0 0)) (.cons (vf h1020) (.cons (vf h1021) (.cons (nf h1022) (.cons (G_ringref2_In_ok n v_x2.fN 1 64 _ h1023) (.cons (bnt (vf h1026)) (.cons (bf h1027) .nil))))))))))
                              · rw [if_neg h1022] at h
                                obtain rfl := Option.some.inj h
                                exact pend_sound TTok mix 13 (hs := [.t false, .c, .r (eB v_r816), .t true, .c, .q (eqS_area_Area v_r194.1 (S_area_Area.mk 0 0 0)), .t false, .t false, .c, .t true]) (by as_aux_lemma => kernel_rfl) (by as_aux_lemma => kernel_rfl) (by as_aux_lemma => kernel_rfl) (.cons (vf h1017) (.cons (G_ringref2_In_ok n v_x2.fPage 0 63 _ h1018) (.cons (bnt (vf h1019)) (.cons (eqS_area_Area_ok v_r194.1 (S_area_Area.mk 0 0 0)) (.cons (vf h1020) (.cons (vf h1021) (.cons (nt h1022) .nil)))))))
        · rw [if_neg h781] at h
          obtain ⟨v_o648, h800, h⟩ := bind_some h
          refine pkk_sound TTok mix hF 45 (hs := [.c, .r (.tup [(eL eS_area_Area) v_r139.1, (eI .i64) v_r139.2]), .c, .c, .r (.tup [(eL eS_area_Area) v_r173.1, (eI .i64) v_r173.2]), .c, .r (.tup [(eL eS_area_Area) v_r180.1, (eI .i64) v_r180.2]), .c, .r (.tup [eS_area_Area v_r194.1, eB v_r194.2.1, (eI .i64) v_r194.2.2]), .c, .c, .r (.tup [(eI .i64) v_r209.1, (eI .i64) v_r209.2]), .r ((eI .i64) v_r402), .r ((eI .i64) v_r403), .t false, .t false, .r ((fun x => PV.agg (cA_t119 x)) v_r426), .c, .c, .r (eB v_r427), .t false, .c, .c, .r (eB v_r633), .t true, .c, .c, .c, .c, .c, .c, .n n]) (ts := []) (s := [0, 111, 183, 240, 243, 246]) (l := [0, 3, 5, 6, 7, 8, 9, 10, 11, 12, 13, 14, 15, 17, 18, 19, 20, 21, 22, 23, 24]) (by as_aux_lemma => kernel_rfl) (by as_aux_lemma => kernel_rfl) (.cons (G_area_Put_ok n v_l1 v_x2 _ h157) (.cons (G_area_Out_ok n v_l1 v_x2.fPage v_x2.fN _ h191) (.cons (G_area_Turn_ok n v_l1 v_x2 _ h199) (.cons (G_area_At_ok n v_l1 v_x2.fPage _ h215) (.cons (show 0 + 3 ≤ 3 by decide) (.cons (G_area_Gap_ok n v_l1 v_x2.fN _ h228) (.cons (G_ringref2_Areas_ok n v_l1 _ h457) (.cons (G_area_Check_ok n v_l1 _ h458) (.cons (nf h459) (.cons (nf h478) (.cons (G_ringref2_AreaPages_ok n v_l1 _ h496) (.cons (show 0 + 64 ≤ 64 by decide) (.cons (G_ringref2_AreaIs_ok n v_x2 _ h497) (.cons (bnf h498) (.cons (G_ringref2_AreaIs_ok n (S_area_Area.mk v_x2.fPage v_x2.fN 0) _ h780) (.cons (bnt (vf h781)) (.cons (show 0 + 64 ≤ 64 by decide) (.cons (show 0 + 64 ≤ 64 by decide) (.cons (show 0 + 64 ≤ 64 by decide) .nil))))))))))))))))))) (G_ringlaw2_AreaTells_L20_ok hF (.b 0 :: .s (cR (cR (cR (cR (cR (cR (cR (cR (cR (cR (cR (cR (cR (cR (cR (bodyOf Try.f8)))))))))))))))) :: []) n v_l1 v_r139 v_r173 v_r180 v_r194 v_r209 v_x2 v_r426 n 0 v_r426 v_r426 _ h800 ?_)
          cases v_o648 with
          | x0 v_z649 v_z650 =>
            try dsimp only at h
            obtain ⟨v_o652, h801, h⟩ := bind_some h
            refine pkk_sound TTok mix hF 6 (hs := [.n n]) (ts := []) (s := [0, 1, 2, 3, 4, 5]) (l := [0, 3, 5, 6, 7, 8, 9, 10, 11, 12, 13, 14, 15, 17, 18, 19, 20, 21, 22, 23, 26]) (by as_aux_lemma => kernel_rfl) (by as_aux_lemma => kernel_rfl) .nil (G_ringlaw2_AreaTells_L21_ok hF (.b 2 :: .s (cR (cR (cR (cR (cR (cR (cR (cR (cR (cR (cR (cR (cR (cR (cR (cR (bodyOf Try.f8))))))))))))))))) :: []) n v_l1 v_r139 v_r173 v_r180 v_r194 v_r209 v_x2 v_r426 v_z649 v_z650 n 0 _ h801 ?_)
            cases v_o652 with
            | x0  =>
              try dsimp only at h
              obtain ⟨v_o664, h813, h⟩ := bind_some h
              refine pkk_sound TTok mix hF 6 (hs := [.n n]) (ts := []) (s := [0, 1, 2, 3, 4, 5]) (l := [0, 3, 5, 6, 7, 8, 9, 10, 11, 12, 13, 14, 15, 17, 18, 19, 20, 21, 22, 23, 27]) (by as_aux_lemma => kernel_rfl) (by as_aux_lemma => kernel_rfl) .nil (G_ringlaw2_AreaTells_L22_ok hF (.b 4 :: .s (cR (cR (cR (cR (cR (cR (cR (cR (cR (cR (cR (cR (cR (cR (cR (cR (cR (bodyOf Try.f8)))))))))))))))))) :: []) n v_l1 v_r139 v_r173 v_r180 v_r194 v_r209 v_x2 v_r426 v_z649 v_z650 n 0 0 0 _ h813 ?_)
              cases v_o664 with
              | x0 v_z665 v_z666 =>
                try dsimp only at h
                obtain ⟨v_o677, h832, h⟩ := bind_some h
                refine pkk_sound TTok mix hF 3 (hs := []) (ts := []) (s := [0, 1, 2, 3, 4, 5]) (l := [0, 3, 5, 6, 7, 8, 9, 10, 11, 12, 13, 14, 15, 17, 18, 19, 20, 21, 22, 23]) (by as_aux_lemma => kernel_rfl) (by as_aux_lemma => kernel_rfl) .nil (G_ringlaw2_AreaTells_C23_ok hF (.s (cR (cL (cR (cR (cR (cR (cR (cR (cR (cR (cR (cR (cR (cR (cR (cR (cR (cR (cR (bodyOf Try.f8)))))))))))))))))))) :: .s (cR (cR (cR (cR (cR (cR (cR (cR (cR (cR (cR (cR (cR (cR (cR (cR (cR (cR (bodyOf Try.f8))))))))))))))))))) :: []) n v_l1 v_r139 v_r173 v_r180 v_r194 v_r209 v_z665 v_z666 v_x2 v_r426 v_z649 v_z650 _ h832 ?_)
                cases v_o677 with
                | x0 v_z678 =>
                  try dsimp only at h
                  by_cases h833 : v_z678 = true
                  · rw [if_pos h833] at h
                    obtain rfl := Option.some.inj h
                    exact pend_sound TTok mix 5 (hs := [.t true]) (by as_aux_lemma => kernel_rfl) (by as_aux_lemma => kernel_rfl) (by as_aux_lemma => kernel_rfl) (.cons h833 .nil)
                  · rw [if_neg h833] at h
                    obtain ⟨v_o696, h854, h⟩ := bind_some h
                    refine pkk_sound TTok mix hF 4 (hs := [.t false]) (ts := []) (s := [0, 1, 2, 3, 4, 5]) (l := [0, 3, 5, 7, 9, 11, 12, 13, 14, 15, 17, 18, 19, 20, 21, 22, 23]) (by as_aux_lemma => kernel_rfl) (by as_aux_lemma => kernel_rfl) (.cons (vf h833) .nil) (G_ringlaw2_AreaTells_C24_ok hF (.s (cR (cL (cR (cR (cR (cR (cR (cR (cR (cR (cR (cR (cR (cR (cR (cR (cR (cR (cR (cR (bodyOf Try.f8))))))))))))))))))))) :: .s (cR (cR (cR (cR (cR (cR (cR (cR (cR (cR (cR (cR (cR (cR (cR (cR (cR (cR (cR (bodyOf Try.f8)))))))))))))))))))) :: []) n v_l1 v_r139 v_r173 v_r180 v_r194 v_r209 v_z665 v_z666 v_x2 v_r426 v_z649 v_z650 _ h854 ?_)
                    cases v_o696 with
                    | x0 v_z697 =>
                      try dsimp only at h
                      by_cases h855 : v_z697 = true
                      · rw [if_pos h855] at h
                        obtain rfl := Option.some.inj h
                        exact pend_sound TTok mix 5 (hs := [.t true]) (by as_aux_lemma => kernel_rfl) (by as_aux_lemma => kernel_rfl) (by as_aux_lemma => kernel_rfl) (.cons h855 .nil)
                      · rw [if_neg h855] at h
                        obtain ⟨v_r698, h856, h⟩ := bind_some h
                        by_cases h857 : v_r698 = true
                        · rw [if_pos h857] at h
                          obtain ⟨v_o719, h895, h⟩ := bind_some h
                          refine pkk_sound TTok mix hF 13 (hs := [.t false, .c, .r (eB v_r698), .t false, .u (.d (.v (.int .i64 (v_l1.length : Int)))), .n n]) (ts := []) (s := [0, 1, 2, 15]) (l := [3, 11, 12, 13, 14, 15, 17, 28, 277, 278, 279]) (by as_aux_lemma => kernel_rfl) (by as_aux_lemma => kernel_rfl) (.cons (vf h855) (.cons (G_ringref2_In_ok n v_x2.fPage 0 63 _ h856) (.cons (bnf h857) (.cons (len_ob (f := eS_area_Area) (l := v_l1)) .nil)))) (G_ringlaw2_AreaTells_L26_ok hF (.b 6 :: .s (cR (cR (cF (cR (cL (cR (cR (cR (cR (cR (cR (cR (cR (cR (cR (cR (cR (cR (cR (cR (cR (cR (cR (cR (bodyOf Try.f8))))))))))))))))))))))))) :: .s (cR (cR (cR (cR (cR (cR (cR (cR (cR (cR (cR (cR (cR (cR (cR (cR (cR (cR (cR (cR (bodyOf Try.f8))))))))))))))))))))) :: []) n v_r194 v_r209 v_l1 v_x2 v_r426 n 0 (S_area_Area.mk 0 0 0) _ h895 ?_)
                          cases v_o719 with
                          | x0 v_z720 =>
                            try dsimp only at h
                            obtain ⟨v_o726, h904, h⟩ := bind_some h
                            refine pkk_sound TTok mix hF 2 (hs := []) (ts := []) (s := [0, 1, 2, 3]) (l := [3, 11, 12, 13, 14, 15, 17, 28]) (by as_aux_lemma => kernel_rfl) (by as_aux_lemma => kernel_rfl) .nil (G_ringlaw2_AreaTells_C27_ok hF (.s (cR (cR (cR (cF (cR (cL (cR (cR (cR (cR (cR (cR (cR (cR (cR (cR (cR (cR (cR (cR (cR (cR (cR (cR (cR (bodyOf Try.f8)))))))))))))))))))))))))) :: .s (cR (cR (cR (cR (cR (cR (cR (cR (cR (cR (cR (cR (cR (cR (cR (cR (cR (cR (cR (cR (bodyOf Try.f8))))))))))))))))))))) :: []) n v_r194 v_r209 v_x2 v_r426 v_z720 _ h904 ?_)
                            cases v_o726 with
                            | x0 v_z727 =>
                              try dsimp only at h
                              by_cases h905 : v_z727 = true
                              · rw [if_pos h905] at h
                                obtain rfl := Option.some.inj h
                                exact pend_sound TTok mix 5 (hs := [.t true]) (by as_aux_lemma => kernel_rfl) (by as_aux_lemma => kernel_rfl) (by as_aux_lemma => kernel_rfl) (.cons h905 .nil)
                              · rw [if_neg h905] at h
                                obtain ⟨v_r728, h906, h⟩ := bind_some h
                                by_cases h909 : v_r728 = true
                                · rw [if_pos h909] at h
                                  obtain ⟨v_o734, h924, h⟩ := bind_some h
                                  refine pkk_sound TTok mix hF 12 (hs := [.t false, .c, .r (eB v_r728), .t false, .n n]) (ts := []) (s := [0, 1]) (l := [3, 14, 15, 17, 31]) (by as_aux_lemma => kernel_rfl) (by as_aux_lemma => kernel_rfl) (.cons (vf h905) (.cons (G_ringref2_In_ok n v_x2.fN 1 64 _ h906) (.cons (bnf h909) .nil))) (G_ringlaw2_AreaTells_L28_ok hF (.b 8 :: .s (cR (cR (cR (cR (cR (cR (cR (cR (cR (cR (cR (cR (cR (cR (cR (cR (cR (cR (cR (cR (cR (cR (bodyOf Try.f8))))))))))))))))))))))) :: []) n v_r209 v_x2 v_r426 n 0 _ h924 ?_)
                                  cases v_o734 with
                                  | x0 v_z735 =>
                                    try dsimp only at h
                                    obtain rfl := Option.some.inj h
                                    exact pend_sound TTok mix 2 (hs := []) (by as_aux_lemma => kernel_rfl) (by as_aux_lemma => kernel_rfl) (by as_aux_lemma => kernel_rfl) .nil
                                  | x1  =>
                                    try dsimp only at h
                                    by_cases h925 : v_r209.1 = 0
                                    · rw [if_pos h925] at h
                                      obtain rfl := Option.some.inj h
                                      exact pend_sound TTok mix 4 (hs := [.t true, .c]) (by as_aux_lemma => kernel_rfl) (by as_aux_lemma => kernel_rfl) (by as_aux_lemma => kernel_rfl) (.cons (bt h925) .nil)
                                    · rw [if_neg h925] at h
                                      obtain rfl := Option.some.inj h
                                      exact pend_sound TTok mix 4 (hs := [.t false, .c]) (by as_aux_lemma => kernel_rfl) (by as_aux_lemma => kernel_rfl) (by as_aux_lemma => kernel_rfl) (.cons (bf h925) .nil)
                                · rw [if_neg h909] at h
                                  by_cases h910 : v_r209.1 = 0
                                  · rw [if_pos h910] at h
                                    obtain rfl := Option.some.inj h
                                    exact pend_sound TTok mix 10 (hs := [.t false, .c, .r (eB v_r728), .t true, .t true, .c]) (by as_aux_lemma => kernel_rfl) (by as_aux_lemma => kernel_rfl) (by as_aux_lemma => kernel_rfl) (.cons (vf h905) (.cons (G_ringref2_In_ok n v_x2.fN 1 64 _ h906) (.cons (bnt (vf h909)) (.cons (bt h910) .nil))))
                                  · rw [if_neg h910] at h
                                    obtain rfl := Option.some.inj h
                                    exact pend_sound TTok mix 10 (hs := [.t false, .c, .r (eB v_r728), .t true, .t false, .c]) (by as_aux_lemma => kernel_rfl) (by as_aux_lemma => kernel_rfl) (by as_aux_lemma => kernel_rfl) (.cons (vf h905) (.cons (G_ringref2_In_ok n v_x2.fN 1 64 _ h906) (.cons (bnt (vf h909)) (.cons (bf h910) .nil))))
                        · rw [if_neg h857] at h
                          by_cases h858 : (eqRes .neq (eqS_area_Area v_r194.1 (S_area_Area.mk 0 0 0))) = true
                          · rw [if_pos h858] at h
                            obtain rfl := Option.some.inj h
                            exact pend_sound TTok mix 13 (hs := [.t false, .c, .r (eB v_r698), .t true, .c, .q (eqS_area_Area v_r194.1 (S_area_Area.mk 0 0 0)), .t true, .c, .c, .c]) (by as_aux_lemma => kernel_rfl) (by as_aux_lemma => kernel_rfl) (by as_aux_lemma => kernel_rfl) (.cons (vf h855) (.cons (G_ringref2_In_ok n v_x2.fPage 0 63 _ h856) (.cons (bnt (vf h857)) (.cons (eqS_area_Area_ok v_r194.1 (S_area_Area.mk 0 0 0)) (.cons h858 .nil)))))
                          · rw [if_neg h858] at h
                            by_cases h859 : v_r194.2.1 = true
                            · rw [if_pos h859] at h
                              obtain rfl := Option.some.inj h
                              exact pend_sound TTok mix 13 (hs := [.t false, .c, .r (eB v_r698), .t true, .c, .q (eqS_area_Area v_r194.1 (S_area_Area.mk 0 0 0)), .t false, .t true, .c, .c]) (by as_aux_lemma => kernel_rfl) (by as_aux_lemma => kernel_rfl) (by as_aux_lemma => kernel_rfl) (.cons (vf h855) (.cons (G_ringref2_In_ok n v_x2.fPage 0 63 _ h856) (.cons (bnt (vf h857)) (.cons (eqS_area_Area_ok v_r194.1 (S_area_Area.mk 0 0 0)) (.cons (vf h858) (.cons h859 .nil))))))
                            · rw [if_neg h859] at h
                              by_cases h860 : v_r194.2.2 = 1
                              · rw [if_pos h860] at h
                                obtain ⟨v_r699, h861, h⟩ := bind_some h
                                by_cases h864 : v_r699 = true
                                · rw [if_pos h864] at h
                                  obtain ⟨v_o705, h879, h⟩ := bind_some h
                                  refine pkk_sound TTok mix hF 20 (hs := [.t false, .c, .r (eB v_r698), .t true, .c, .q (eqS_area_Area v_r194.1 (S_area_Area.mk 0 0 0)), .t false, .t false, .c, .t false, .c, .r (eB v_r699), .t false, .n n]) (ts := []) (s := [0, 2]) (l := [3, 14, 15, 17, 31]) (by as_aux_lemma => kernel_rfl) (by as_aux_lemma => kernel_rfl) (.cons (vf h855) (.cons (G_ringref2_In_ok n v_x2.fPage 0 63 _ h856) (.cons (bnt (vf h857)) (.cons (eqS_area_Area_ok v_r194.1 (S_area_Area.mk 0 0 0)) (.cons (vf h858) (.cons (vf h859) (.cons (nf h860) (.cons (G_ringref2_In_ok n v_x2.fN 1 64 _ h861) (.cons (bnf h864) .nil))))))))) (G_ringlaw2_AreaTells_L25_ok hF (.b 8 :: .s (cR (cR (cR (cR (cR (cR (cR (cR (cR (cR (cR (cR (cR (cR (cR (cR (cR (cR (cR (cR (cR (cR (bodyOf Try.f8))))))))))))))))))))))) :: []) n v_r209 v_x2 v_r426 n 0 _ h879 ?_)
                                  cases v_o705 with
                                  | x0 v_z706 =>
                                    try dsimp only at h
                                    obtain rfl := Option.some.inj h
                                    exact pend_sound TTok mix 2 (hs := []) (by as_aux_lemma => kernel_rfl) (by as_aux_lemma => kernel_rfl) (by as_aux_lemma => kernel_rfl) .nil
                                  | x1  =>
                                    try dsimp only at h
                                    by_cases h880 : v_r209.1 = 0
                                    · rw [if_pos h880] at h
                                      obtain rfl := Option.some.inj h
                                      exact pend_sound TTok mix 4 (hs := [.t true, .c]) (by as_aux_lemma => kernel_rfl) (by as_aux_lemma => kernel_rfl) (by as_aux_lemma => kernel_rfl) (.cons (bt h880) .nil)
                                    · rw [if_neg h880] at h
                                      obtain rfl := Option.some.inj h
                                      exact pend_sound TTok mix 4 (hs := [.t false, .c]) (by as_aux_lemma => kernel_rfl) (by as_aux_lemma => kernel_rfl) (by as_aux_lemma => kernel_rfl) (.cons (bf h880) .nil)
                                · rw [if_neg h864] at h
                                  by_cases h865 : v_r209.1 = 0
                                  · rw [if_pos h865] at h
                                    obtain rfl := Option.some.inj h
                                    exact pend_sound TTok mix 18 (hs := [.t false, .c, .r (eB v_r698), .t true, .c, .q (eqS_area_Area v_r194.1 (S_area_Area.mk 0 0 0)), .t false, .t false, .c, .t false, .c, .r (eB v_r699), .t true, .t true, .c]) (by as_aux_lemma => kernel_rfl) (by as_aux_lemma => kernel_rfl) (by as_aux_lemma => kernel_rfl) (.cons (vf h855) (.cons (G_ringref2_In_ok n v_x2.fPage 0 63 _ h856) (.cons (bnt (vf h857)) (.cons (eqS_area_Area_ok v_r194.1 (S_area_Area.mk 0 0 0)) (.cons (vf h858) (.cons (vf h859) (.cons (nf h860) (.cons (G_ringref2_In_ok n v_x2.fN 1 64 _ h861) (.cons (bnt (vf h864)) (.cons (bt h865) .nil))))))))))
                                  · rw [if_neg h865] at h
                                    obtain rfl := Option.some.inj h
                                    exact pend_sound TTok mix 18 (hs := [.t false, .c, .r (eB v_r698), .t true, .c, .q (eqS_area_Area v_r194.1 (S_area_Area.mk 0 0 0)), .t false, .t false, .c, .t false, .c, .r (eB v_r699), .t true, .t false, .c]) (by as_aux_lemma => kernel_rfl) (by as_aux_lemma => kernel_rfl) (by as_aux_lemma => kernel_rfl) (.cons (vf h855) (.cons (G_ringref2_In_ok n v_x2.fPage 0 63 _ h856) (.cons (bnt (vf h857)) (.cons (eqS_area_Area_ok v_r194.1 (S_area_Area.mk 0 0 0)) (.cons (vf h858) (.cons (vf h859) (.cons (nf h860) (.cons (G_ringref2_In_ok n v_x2.fN 1 64 _ h861) (.cons (bnt (vf h864)) (.cons (bf h865) .nil))))))))))
                              · rw [if_neg h860] at h
                                obtain rfl := Option.some.inj h
                                exact pend_sound TTok mix 13 (hs := [.t false, .c, .r (eB v_r698), .t true, .c, .q (eqS_area_Area v_r194.1 (S_area_Area.mk 0 0 0)), .t false, .t false, .c, .t true]) (by as_aux_lemma => kernel_rfl) (by as_aux_lemma => kernel_rfl) (by as_aux_lemma => kernel_rfl) (.cons (vf h855) (.cons (G_ringref2_In_ok n v_x2.fPage 0 63 _ h856) (.cons (bnt (vf h857)) (.cons (eqS_area_Area_ok v_r194.1 (S_area_Area.mk 0 0 0)) (.cons (vf h858) (.cons (vf h859) (.cons (nt h860) .nil)))))))
      · rw [if_neg h498] at h
        obtain ⟨v_r428, h499, h⟩ := bind_some h
        by_cases h500 : v_r428 = true
        · rw [if_pos h500] at h
          obtain ⟨v_o531, h636, h⟩ := bind_some h
          refine pkk_sound TTok mix hF 45 (hs := [.c, .r (.tup [(eL eS_area_Area) v_r139.1, (eI .i64) v_r139.2]), .c, .c, .r (.tup [(eL eS_area_Area) v_r173.1, (eI .i64) v_r173.2]), .c, .r (.tup [(eL eS_area_Area) v_r180.1, (eI .i64) v_r180.2]), .c, .r (.tup [eS_area_Area v_r194.1, eB v_r194.2.1, (eI .i64) v_r194.2.2]), .c, .c, .r (.tup [(eI .i64) v_r209.1, (eI .i64) v_r209.2]), .r ((eI .i64) v_r402), .r ((eI .i64) v_r403), .t false, .t false, .r ((fun x => PV.agg (cA_t119 x)) v_r426), .c, .c, .r (eB v_r427), .t true, .c, .c, .r (eB v_r428), .t false, .c, .c, .c, .c, .c, .c, .n n]) (ts := []) (s := [0, 111, 183, 243, 246, 249]) (l := [0, 3, 5, 6, 7, 8, 9, 10, 11, 12, 13, 14, 15, 17, 18, 19, 20, 21, 22, 23, 24]) (by as_aux_lemma => kernel_rfl) (by as_aux_lemma => kernel_rfl) (.cons (G_area_Put_ok n v_l1 v_x2 _ h157) (.cons (G_area_Out_ok n v_l1 v_x2.fPage v_x2.fN _ h191) (.cons (G_area_Turn_ok n v_l1 v_x2 _ h199) (.cons (G_area_At_ok n v_l1 v_x2.fPage _ h215) (.cons (show 0 + 3 ≤ 3 by decide) (.cons (G_area_Gap_ok n v_l1 v_x2.fN _ h228) (.cons (G_ringref2_Areas_ok n v_l1 _ h457) (.cons (G_area_Check_ok n v_l1 _ h458) (.cons (nf h459) (.cons (nf h478) (.cons (G_ringref2_AreaPages_ok n v_l1 _ h496) (.cons (show 0 + 64 ≤ 64 by decide) (.cons (G_ringref2_AreaIs_ok n v_x2 _ h497) (.cons (bnt (vf h498)) (.cons (G_ringref2_AreaIs_ok n (S_area_Area.mk v_x2.fPage v_x2.fN 0) _ h499) (.cons (bnf h500) (.cons (show 0 + 64 ≤ 64 by decide) (.cons (show 0 + 64 ≤ 64 by decide) (.cons (show 0 + 64 ≤ 64 by decide) .nil))))))))))))))))))) (G_ringlaw2_AreaTells_L11_ok hF (.b 0 :: .s (cR (cR (cR (cR (cR (cR (cR (cR (cR (cR (cR (cR (cR (cR (cR (bodyOf Try.f8)))))))))))))))) :: []) n v_l1 v_r139 v_r173 v_r180 v_r194 v_r209 v_x2 v_r426 n 0 _ h636 ?_)
          cases v_o531 with
          | x0  =>
            try dsimp only at h
            obtain ⟨v_o540, h647, h⟩ := bind_some h
            refine pkk_sound TTok mix hF 6 (hs := [.n n]) (ts := []) (s := [0, 1, 2, 3, 4, 5]) (l := [0, 3, 5, 6, 7, 8, 9, 10, 11, 12, 13, 14, 15, 17, 18, 19, 20, 21, 22, 23, 26]) (by as_aux_lemma => kernel_rfl) (by as_aux_lemma => kernel_rfl) .nil (G_ringlaw2_AreaTells_L12_ok hF (.b 2 :: .s (cR (cR (cR (cR (cR (cR (cR (cR (cR (cR (cR (cR (cR (cR (cR (cR (bodyOf Try.f8))))))))))))))))) :: []) n v_l1 v_r139 v_r173 v_r180 v_r194 v_r209 v_x2 v_r426 n 0 v_r426 _ h647 ?_)
            cases v_o540 with
            | x0 v_z541 =>
              try dsimp only at h
              obtain ⟨v_o553, h659, h⟩ := bind_some h
              refine pkk_sound TTok mix hF 6 (hs := [.n n]) (ts := []) (s := [0, 1, 2, 3, 4, 5]) (l := [0, 3, 5, 6, 7, 8, 9, 10, 11, 12, 13, 14, 15, 17, 18, 19, 20, 21, 22, 23, 27]) (by as_aux_lemma => kernel_rfl) (by as_aux_lemma => kernel_rfl) .nil (G_ringlaw2_AreaTells_L13_ok hF (.b 4 :: .s (cR (cR (cR (cR (cR (cR (cR (cR (cR (cR (cR (cR (cR (cR (cR (cR (cR (bodyOf Try.f8)))))))))))))))))) :: []) n v_l1 v_r139 v_r173 v_r180 v_r194 v_r209 v_x2 v_r426 v_z541 n 1 1 0 _ h659 ?_)
              cases v_o553 with
              | x0 v_z554 v_z555 =>
                try dsimp only at h
                obtain ⟨v_o564, h674, h⟩ := bind_some h
                refine pkk_sound TTok mix hF 3 (hs := []) (ts := []) (s := [0, 1, 2, 3, 4, 5]) (l := [0, 3, 5, 6, 7, 8, 9, 10, 11, 12, 13, 14, 15, 17, 18, 19, 20, 21, 22, 23]) (by as_aux_lemma => kernel_rfl) (by as_aux_lemma => kernel_rfl) .nil (G_ringlaw2_AreaTells_C14_ok hF (.s (cR (cL (cR (cR (cR (cR (cR (cR (cR (cR (cR (cR (cR (cR (cR (cR (cR (cR (cR (bodyOf Try.f8)))))))))))))))))))) :: .s (cR (cR (cR (cR (cR (cR (cR (cR (cR (cR (cR (cR (cR (cR (cR (cR (cR (cR (bodyOf Try.f8))))))))))))))))))) :: []) n v_l1 v_r139 v_r173 v_r180 v_r194 v_r209 v_z554 v_z555 v_x2 v_r426 v_z541 _ h674 ?_)
                cases v_o564 with
                | x0 v_z565 =>
                  try dsimp only at h
                  by_cases h675 : v_z565 = true
                  · rw [if_pos h675] at h
                    obtain rfl := Option.some.inj h
                    exact pend_sound TTok mix 5 (hs := [.t true]) (by as_aux_lemma => kernel_rfl) (by as_aux_lemma => kernel_rfl) (by as_aux_lemma => kernel_rfl) (.cons h675 .nil)
                  · rw [if_neg h675] at h
                    obtain ⟨v_o593, h708, h⟩ := bind_some h
                    refine pkk_sound TTok mix hF 4 (hs := [.t false]) (ts := []) (s := [0, 1, 2, 3, 4, 5]) (l := [0, 3, 5, 7, 9, 11, 12, 13, 14, 15, 17, 18, 19, 20, 21, 22, 23]) (by as_aux_lemma => kernel_rfl) (by as_aux_lemma => kernel_rfl) (.cons (vf h675) .nil) (G_ringlaw2_AreaTells_C15_ok hF (.s (cR (cL (cR (cR (cR (cR (cR (cR (cR (cR (cR (cR (cR (cR (cR (cR (cR (cR (cR (cR (bodyOf Try.f8))))))))))))))))))))) :: .s (cR (cR (cR (cR (cR (cR (cR (cR (cR (cR (cR (cR (cR (cR (cR (cR (cR (cR (cR (bodyOf Try.f8)))))))))))))))))))) :: []) n v_l1 v_r139 v_r173 v_r180 v_r194 v_r209 v_z554 v_z555 v_x2 v_r426 v_z541 _ h708 ?_)
                    cases v_o593 with
                    | x0 v_z594 =>
                      try dsimp only at h
                      by_cases h709 : v_z594 = true
                      · rw [if_pos h709] at h
                        obtain rfl := Option.some.inj h
                        exact pend_sound TTok mix 5 (hs := [.t true]) (by as_aux_lemma => kernel_rfl) (by as_aux_lemma => kernel_rfl) (by as_aux_lemma => kernel_rfl) (.cons h709 .nil)
                      · rw [if_neg h709] at h
                        obtain ⟨v_r595, h710, h⟩ := bind_some h
                        by_cases h711 : v_r595 = true
                        · rw [if_pos h711] at h
                          obtain ⟨v_o616, h749, h⟩ := bind_some h
                          refine pkk_sound TTok mix hF 13 (hs := [.t false, .c, .r (eB v_r595), .t false, .u (.d (.v (.int .i64 (v_l1.length : Int)))), .n n]) (ts := []) (s := [0, 1, 2, 15]) (l := [3, 11, 12, 13, 14, 15, 17, 28, 277, 278, 279]) (by as_aux_lemma => kernel_rfl) (by as_aux_lemma => kernel_rfl) (.cons (vf h709) (.cons (G_ringref2_In_ok n v_x2.fPage 0 63 _ h710) (.cons (bnf h711) (.cons (len_ob (f := eS_area_Area) (l := v_l1)) .nil)))) (G_ringlaw2_AreaTells_L17_ok hF (.b 6 :: .s (cR (cR (cF (cR (cL (cR (cR (cR (cR (cR (cR (cR (cR (cR (cR (cR (cR (cR (cR (cR (cR (cR (cR (cR (bodyOf Try.f8))))))))))))))))))))))))) :: .s (cR (cR (cR (cR (cR (cR (cR (cR (cR (cR (cR (cR (cR (cR (cR (cR (cR (cR (cR (cR (bodyOf Try.f8))))))))))))))))))))) :: []) n v_r194 v_r209 v_l1 v_x2 v_r426 n 0 (S_area_Area.mk 0 0 0) _ h749 ?_)
                          cases v_o616 with
                          | x0 v_z617 =>
                            try dsimp only at h
                            obtain ⟨v_o623, h758, h⟩ := bind_some h
                            refine pkk_sound TTok mix hF 2 (hs := []) (ts := []) (s := [0, 1, 2, 3]) (l := [3, 11, 12, 13, 14, 15, 17, 28]) (by as_aux_lemma => kernel_rfl) (by as_aux_lemma => kernel_rfl) .nil (G_ringlaw2_AreaTells_C18_ok hF (.s (cR (cR (cR (cF (cR (cL (cR (cR (cR (cR (cR (cR (cR (cR (cR (cR (cR (cR (cR (cR (cR (cR (cR (cR (cR (bodyOf Try.f8)))))))))))))))))))))))))) :: .s (cR (cR (cR (cR (cR (cR (cR (cR (cR (cR (cR (cR (cR (cR (cR (cR (cR (cR (cR (cR (bodyOf Try.f8))))))))))))))))))))) :: []) n v_r194 v_r209 v_x2 v_r426 v_z617 _ h758 ?_)
                            cases v_o623 with
                            | x0 v_z624 =>
                              try dsimp only at h
                              by_cases h759 : v_z624 = true
                              · rw [if_pos h759] at h
                                obtain rfl := Option.some.inj h
                                exact pend_sound TTok mix 5 (hs := [.t true]) (by as_aux_lemma => kernel_rfl) (by as_aux_lemma => kernel_rfl) (by as_aux_lemma => kernel_rfl) (.cons h759 .nil)
                              · rw [if_neg h759] at h
                                obtain ⟨v_r625, h760, h⟩ := bind_some h
                                by_cases h763 : v_r625 = true
                                · rw [if_pos h763] at h
                                  obtain ⟨v_o631, h778, h⟩ := bind_some h
                                  refine pkk_sound TTok mix hF 12 (hs := [.t false, .c, .r (eB v_r625), .t false, .n n]) (ts := []) (s := [0, 1]) (l := [3, 14, 15, 17, 31]) (by as_aux_lemma => kernel_rfl) (by as_aux_lemma => kernel_rfl) (.cons (vf h759) (.cons (G_ringref2_In_ok n v_x2.fN 1 64 _ h760) (.cons (bnf h763) .nil))) (G_ringlaw2_AreaTells_L19_ok hF (.b 8 :: .s (cR (cR (cR (cR (cR (cR (cR (cR (cR (cR (cR (cR (cR (cR (cR (cR (cR (cR (cR (cR (cR (cR (bodyOf Try.f8))))))))))))))))))))))) :: []) n v_r209 v_x2 v_r426 n 0 _ h778 ?_)
                                  cases v_o631 with
                                  | x0 v_z632 =>
                                    try dsimp only at h
                                    obtain rfl := Option.some.inj h
                                    exact pend_sound TTok mix 2 (hs := []) (by as_aux_lemma => kernel_rfl) (by as_aux_lemma => kernel_rfl) (by as_aux_lemma => kernel_rfl) .nil
                                  | x1  =>
                                    try dsimp only at h
                                    by_cases h779 : v_r209.1 = 0
                                    · rw [if_pos h779] at h
                                      obtain rfl := Option.some.inj h
                                      exact pend_sound TTok mix 4 (hs := [.t true, .c]) (by as_aux_lemma => kernel_rfl) (by as_aux_lemma => kernel_rfl) (by as_aux_lemma => kernel_rfl) (.cons (bt h779) .nil)
                                    · rw [if_neg h779] at h
                                      obtain rfl := Option.some.inj h
                                      exact pend_sound TTok mix 4 (hs := [.t false, .c]) (by as_aux_lemma => kernel_rfl) (by as_aux_lemma => kernel_rfl) (by as_aux_lemma => kernel_rfl) (.cons (bf h779) .nil)
                                · rw [if_neg h763] at h
                                  by_cases h764 : v_r209.1 = 0
                                  · rw [if_pos h764] at h
                                    obtain rfl := Option.some.inj h
                                    exact pend_sound TTok mix 10 (hs := [.t false, .c, .r (eB v_r625), .t true, .t true, .c]) (by as_aux_lemma => kernel_rfl) (by as_aux_lemma => kernel_rfl) (by as_aux_lemma => kernel_rfl) (.cons (vf h759) (.cons (G_ringref2_In_ok n v_x2.fN 1 64 _ h760) (.cons (bnt (vf h763)) (.cons (bt h764) .nil))))
                                  · rw [if_neg h764] at h
                                    obtain rfl := Option.some.inj h
                                    exact pend_sound TTok mix 10 (hs := [.t false, .c, .r (eB v_r625), .t true, .t false, .c]) (by as_aux_lemma => kernel_rfl) (by as_aux_lemma => kernel_rfl) (by as_aux_lemma => kernel_rfl) (.cons (vf h759) (.cons (G_ringref2_In_ok n v_x2.fN 1 64 _ h760) (.cons (bnt (vf h763)) (.cons (bf h764) .nil))))
                        · rw [if_neg h711] at h
                          by_cases h712 : (eqRes .neq (eqS_area_Area v_r194.1 (S_area_Area.mk 0 0 0))) = true
                          · rw [if_pos h712] at h
                            obtain rfl := Option.some.inj h
                            exact pend_sound TTok mix 13 (hs := [.t false, .c, .r (eB v_r595), .t true, .c, .q (eqS_area_Area v_r194.1 (S_area_Area.mk 0 0 0)), .t true, .c, .c, .c]) (by as_aux_lemma => kernel_rfl) (by as_aux_lemma => kernel_rfl) (by as_aux_lemma => kernel_rfl) (.cons (vf h709) (.cons (G_ringref2_In_ok n v_x2.fPage 0 63 _ h710) (.cons (bnt (vf h711)) (.cons (eqS_area_Area_ok v_r194.1 (S_area_Area.mk 0 0 0)) (.cons h712 .nil)))))
                          · rw [if_neg h712] at h
                            by_cases h713 : v_r194.2.1 = true
                            · rw [if_pos h713] at h
                              obtain rfl := Option.some.inj h
                              exact pend_sound TTok mix 13 (hs := [.t false, .c, .r (eB v_r595), .t true, .c, .q (eqS_area_Area v_r194.1 (S_area_Area.mk 0 0 0)), .t false, .t true, .c, .c]) (by as_aux_lemma => kernel_rfl) (by as_aux_lemma => kernel_rfl) (by as_aux_lemma => kernel_rfl) (.cons (vf h709) (.cons (G_ringref2_In_ok n v_x2.fPage 0 63 _ h710) (.cons (bnt (vf h711)) (.cons (eqS_area_Area_ok v_r194.1 (S_area_Area.mk 0 0 0)) (.cons (vf h712) (.cons h713 .nil))))))
                            · rw [if_neg h713] at h
                              by_cases h714 : v_r194.2.2 = 1
                              · rw [if_pos h714] at h
                                obtain ⟨v_r596, h715, h⟩ := bind_some h
                                by_cases h718 : v_r596 = true
                                · rw [if_pos h718] at h
                                  obtain ⟨v_o602, h733, h⟩ := bind_some h
                                  refine pkk_sound TTok mix hF 20 (hs := [.t false, .c, .r (eB v_r595), .t true, .c, .q (eqS_area_Area v_r194.1 (S_area_Area.mk 0 0 0)), .t false, .t false, .c, .t false, .c, .r (eB v_r596), .t false, .n n]) (ts := []) (s := [0, 2]) (l := [3, 14, 15, 17, 31]) (by as_aux_lemma => kernel_rfl) (by as_aux_lemma => kernel_rfl) (.cons (vf h709) (.cons (G_ringref2_In_ok n v_x2.fPage 0 63 _ h710) (.cons (bnt (vf h711)) (.cons (eqS_area_Area_ok v_r194.1 (S_area_Area.mk 0 0 0)) (.cons (vf h712) (.cons (vf h713) (.cons (nf h714) (.cons (G_ringref2_In_ok n v_x2.fN 1 64 _ h715) (.cons (bnf h718) .nil))))))))) (G_ringlaw2_AreaTells_L16_ok hF (.b 8 :: .s (cR (cR (cR (cR (cR (cR (cR (cR (cR (cR (cR (cR (cR (cR (cR (cR (cR (cR (cR (cR (cR (cR (bodyOf Try.f8))))))))))))))))))))))) :: []) n v_r209 v_x2 v_r426 n 0 _ h733 ?_)
                                  cases v_o602 with
                                  | x0 v_z603 =>
                                    try dsimp only at h
                                    obtain rfl := Option.some.inj h
                                    exact pend_sound TTok mix 2 (hs := []) (by as_aux_lemma => kernel_rfl) (by as_aux_lemma => kernel_rfl) (by as_aux_lemma => kernel_rfl) .nil
                                  | x1  =>
                                    try dsimp only at h
                                    by_cases h734 : v_r209.1 = 0
                                    · rw [if_pos h734] at h
                                      obtain rfl := Option.some.inj h
                                      exact pend_sound TTok mix 4 (hs := [.t true, .c]) (by as_aux_lemma => kernel_rfl) (by as_aux_lemma => kernel_rfl) (by as_aux_lemma => kernel_rfl) (.cons (bt h734) .nil)
                                    · rw [if_neg h734] at h
                                      obtain rfl := Option.some.inj h
                                      exact pend_sound TTok mix 4 (hs := [.t false, .c]) (by as_aux_lemma => kernel_rfl) (by as_aux_lemma => kernel_rfl) (by as_aux_lemma => kernel_rfl) (.cons (bf h734) .nil)
                                · rw [if_neg h718] at h
                                  by_cases h719 : v_r209.1 = 0
                                  · rw [if_pos h719] at h
                                    obtain rfl := Option.some.inj h
                                    exact pend_sound TTok mix 18 (hs := [.t false, .c, .r (eB v_r595), .t true, .c, .q (eqS_area_Area v_r194.1 (S_area_Area.mk 0 0 0)), .t false, .t false, .c, .t false, .c, .r (eB v_r596), .t true, .t true, .c]) (by as_aux_lemma => kernel_rfl) (by as_aux_lemma => kernel_rfl) (by as_aux_lemma => kernel_rfl) (.cons (vf h709) (.cons (G_ringref2_In_ok n v_x2.fPage 0 63 _ h710) (.cons (bnt (vf h711)) (.cons (eqS_area_Area_ok v_r194.1 (S_area_Area.mk 0 0 0)) (.cons (vf h712) (.cons (vf h713) (.cons (nf h714) (.cons (G_ringref2_In_ok n v_x2.fN 1 64 _ h715) (.cons (bnt (vf h718)) (.cons (bt h719) .nil))))))))))
                                  · rw [if_neg h719] at h
                                    obtain rfl := Option.some.inj h
                                    exact pend_sound TTok mix 18 (hs := [.t false, .c, .r (eB v_r595), .t true, .c, .q (eqS_area_Area v_r194.1 (S_area_Area.mk 0 0 0)), .t false, .t false, .c, .t false, .c, .r (eB v_r596), .t true, .t false, .c]) (by as_aux_lemma => kernel_rfl) (by as_aux_lemma => kernel_rfl) (by as_aux_lemma => kernel_rfl) (.cons (vf h709) (.cons (G_ringref2_In_ok n v_x2.fPage 0 63 _ h710) (.cons (bnt (vf h711)) (.cons (eqS_area_Area_ok v_r194.1 (S_area_Area.mk 0 0 0)) (.cons (vf h712) (.cons (vf h713) (.cons (nf h714) (.cons (G_ringref2_In_ok n v_x2.fN 1 64 _ h715) (.cons (bnt (vf h718)) (.cons (bf h719) .nil))))))))))
                              · rw [if_neg h714] at h
                                obtain rfl := Option.some.inj h
                                exact pend_sound TTok mix 13 (hs := [.t false, .c, .r (eB v_r595), .t true, .c, .q (eqS_area_Area v_r194.1 (S_area_Area.mk 0 0 0)), .t false, .t false, .c, .t true]) (by as_aux_lemma => kernel_rfl) (by as_aux_lemma => kernel_rfl) (by as_aux_lemma => kernel_rfl) (.cons (vf h709) (.cons (G_ringref2_In_ok n v_x2.fPage 0 63 _ h710) (.cons (bnt (vf h711)) (.cons (eqS_area_Area_ok v_r194.1 (S_area_Area.mk 0 0 0)) (.cons (vf h712) (.cons (vf h713) (.cons (nt h714) .nil)))))))
        · rw [if_neg h500] at h
          obtain ⟨v_o430, h501, h⟩ := bind_some h
          refine pkk_sound TTok mix hF 45 (hs := [.c, .r (.tup [(eL eS_area_Area) v_r139.1, (eI .i64) v_r139.2]), .c, .c, .r (.tup [(eL eS_area_Area) v_r173.1, (eI .i64) v_r173.2]), .c, .r (.tup [(eL eS_area_Area) v_r180.1, (eI .i64) v_r180.2]), .c, .r (.tup [eS_area_Area v_r194.1, eB v_r194.2.1, (eI .i64) v_r194.2.2]), .c, .c, .r (.tup [(eI .i64) v_r209.1, (eI .i64) v_r209.2]), .r ((eI .i64) v_r402), .r ((eI .i64) v_r403), .t false, .t false, .r ((fun x => PV.agg (cA_t119 x)) v_r426), .c, .c, .r (eB v_r427), .t true, .c, .c, .r (eB v_r428), .t true, .c, .c, .c, .c, .c, .c, .n n]) (ts := []) (s := [0, 111, 183, 246, 249, 252]) (l := [0, 3, 5, 6, 7, 8, 9, 10, 11, 12, 13, 14, 15, 17, 18, 19, 20, 21, 22, 23, 24]) (by as_aux_lemma => kernel_rfl) (by as_aux_lemma => kernel_rfl) (.cons (G_area_Put_ok n v_l1 v_x2 _ h157) (.cons (G_area_Out_ok n v_l1 v_x2.fPage v_x2.fN _ h191) (.cons (G_area_Turn_ok n v_l1 v_x2 _ h199) (.cons (G_area_At_ok n v_l1 v_x2.fPage _ h215) (.cons (show 0 + 3 ≤ 3 by decide) (.cons (G_area_Gap_ok n v_l1 v_x2.fN _ h228) (.cons (G_ringref2_Areas_ok n v_l1 _ h457) (.cons (G_area_Check_ok n v_l1 _ h458) (.cons (nf h459) (.cons (nf h478) (.cons (G_ringref2_AreaPages_ok n v_l1 _ h496) (.cons (show 0 + 64 ≤ 64 by decide) (.cons (G_ringref2_AreaIs_ok n v_x2 _ h497) (.cons (bnt (vf h498)) (.cons (G_ringref2_AreaIs_ok n (S_area_Area.mk v_x2.fPage v_x2.fN 0) _ h499) (.cons (bnt (vf h500)) (.cons (show 0 + 64 ≤ 64 by decide) (.cons (show 0 + 64 ≤ 64 by decide) (.cons (show 0 + 64 ≤ 64 by decide) .nil))))))))))))))))))) (G_ringlaw2_AreaTells_L2_ok hF (.b 0 :: .s (cR (cR (cR (cR (cR (cR (cR (cR (cR (cR (cR (cR (cR (cR (cR (bodyOf Try.f8)))))))))))))))) :: []) n v_l1 v_r139 v_r173 v_r180 v_r194 v_r209 v_x2 v_r426 n 0 _ h501 ?_)
          cases v_o430 with
          | x0  =>
            try dsimp only at h
            obtain ⟨v_o432, h502, h⟩ := bind_some h
            refine pkk_sound TTok mix hF 6 (hs := [.n n]) (ts := []) (s := [0, 1, 2, 3, 4, 5]) (l := [0, 3, 5, 6, 7, 8, 9, 10, 11, 12, 13, 14, 15, 17, 18, 19, 20, 21, 22, 23, 26]) (by as_aux_lemma => kernel_rfl) (by as_aux_lemma => kernel_rfl) .nil (G_ringlaw2_AreaTells_L3_ok hF (.b 2 :: .s (cR (cR (cR (cR (cR (cR (cR (cR (cR (cR (cR (cR (cR (cR (cR (cR (bodyOf Try.f8))))))))))))))))) :: []) n v_l1 v_r139 v_r173 v_r180 v_r194 v_r209 v_x2 v_r426 n 0 _ h502 ?_)
            cases v_o432 with
            | x0  =>
              try dsimp only at h
              obtain ⟨v_o444, h514, h⟩ := bind_some h
              refine pkk_sound TTok mix hF 6 (hs := [.n n]) (ts := []) (s := [0, 1, 2, 3, 4, 5]) (l := [0, 3, 5, 6, 7, 8, 9, 10, 11, 12, 13, 14, 15, 17, 18, 19, 20, 21, 22, 23, 27]) (by as_aux_lemma => kernel_rfl) (by as_aux_lemma => kernel_rfl) .nil (G_ringlaw2_AreaTells_L4_ok hF (.b 4 :: .s (cR (cR (cR (cR (cR (cR (cR (cR (cR (cR (cR (cR (cR (cR (cR (cR (cR (bodyOf Try.f8)))))))))))))))))) :: []) n v_l1 v_r139 v_r173 v_r180 v_r194 v_r209 v_x2 v_r426 n 1 1 0 _ h514 ?_)
              cases v_o444 with
              | x0 v_z445 v_z446 =>
                try dsimp only at h
                obtain ⟨v_o457, h533, h⟩ := bind_some h
                refine pkk_sound TTok mix hF 3 (hs := []) (ts := []) (s := [0, 1, 2, 3, 4, 5]) (l := [0, 3, 5, 6, 7, 8, 9, 10, 11, 12, 13, 14, 15, 17, 18, 19, 20, 21, 22, 23]) (by as_aux_lemma => kernel_rfl) (by as_aux_lemma => kernel_rfl) .nil (G_ringlaw2_AreaTells_C5_ok hF (.s (cR (cL (cR (cR (cR (cR (cR (cR (cR (cR (cR (cR (cR (cR (cR (cR (cR (cR (cR (bodyOf Try.f8)))))))))))))))))))) :: .s (cR (cR (cR (cR (cR (cR (cR (cR (cR (cR (cR (cR (cR (cR (cR (cR (cR (cR (bodyOf Try.f8))))))))))))))))))) :: []) n v_l1 v_r139 v_r173 v_r180 v_r194 v_r209 v_z445 v_z446 v_x2 v_r426 _ h533 ?_)
                cases v_o457 with
                | x0 v_z458 =>
                  try dsimp only at h
                  by_cases h534 : v_z458 = true
                  · rw [if_pos h534] at h
                    obtain rfl := Option.some.inj h
                    exact pend_sound TTok mix 5 (hs := [.t true]) (by as_aux_lemma => kernel_rfl) (by as_aux_lemma => kernel_rfl) (by as_aux_lemma => kernel_rfl) (.cons h534 .nil)
                  · rw [if_neg h534] at h
                    obtain ⟨v_o476, h555, h⟩ := bind_some h
                    refine pkk_sound TTok mix hF 4 (hs := [.t false]) (ts := []) (s := [0, 1, 2, 3, 4, 5]) (l := [0, 3, 5, 7, 9, 11, 12, 13, 14, 15, 17, 18, 19, 20, 21, 22, 23]) (by as_aux_lemma => kernel_rfl) (by as_aux_lemma => kernel_rfl) (.cons (vf h534) .nil) (G_ringlaw2_AreaTells_C6_ok hF (.s (cR (cL (cR (cR (cR (cR (cR (cR (cR (cR (cR (cR (cR (cR (cR (cR (cR (cR (cR (cR (bodyOf Try.f8))))))))))))))))))))) :: .s (cR (cR (cR (cR (cR (cR (cR (cR (cR (cR (cR (cR (cR (cR (cR (cR (cR (cR (cR (bodyOf Try.f8)))))))))))))))))))) :: []) n v_l1 v_r139 v_r173 v_r180 v_r194 v_r209 v_z445 v_z446 v_x2 v_r426 _ h555 ?_)
                    cases v_o476 with
                    | x0 v_z477 =>
                      try dsimp only at h
                      by_cases h556 : v_z477 = true
                      · rw [if_pos h556] at h
                        obtain rfl := Option.some.inj h
                        exact pend_sound TTok mix 5 (hs := [.t true]) (by as_aux_lemma => kernel_rfl) (by as_aux_lemma => kernel_rfl) (by as_aux_lemma => kernel_rfl) (.cons h556 .nil)
                      · rw [if_neg h556] at h
                        obtain ⟨v_r478, h557, h⟩ := bind_some h
                        by_cases h558 : v_r478 = true
                        · rw [if_pos h558] at h
                          obtain ⟨v_o513, h605, h⟩ := bind_some h
                          refine pkk_sound TTok mix hF 13 (hs := [.t false, .c, .r (eB v_r478), .t false, .u (.d (.v (.int .i64 (v_l1.length : Int)))), .n n]) (ts := []) (s := [0, 1, 2, 15]) (l := [3, 11, 12, 13, 14, 15, 17, 28, 277, 278, 279]) (by as_aux_lemma => kernel_rfl) (by as_aux_lemma => kernel_rfl) (.cons (vf h556) (.cons (G_ringref2_In_ok n v_x2.fPage 0 63 _ h557) (.cons (bnf h558) (.cons (len_ob (f := eS_area_Area) (l := v_l1)) .nil)))) (G_ringlaw2_AreaTells_L8_ok hF (.b 6 :: .s (cR (cR (cF (cR (cL (cR (cR (cR (cR (cR (cR (cR (cR (cR (cR (cR (cR (cR (cR (cR (cR (cR (cR (cR (bodyOf Try.f8))))))))))))))))))))))))) :: .s (cR (cR (cR (cR (cR (cR (cR (cR (cR (cR (cR (cR (cR (cR (cR (cR (cR (cR (cR (cR (bodyOf Try.f8))))))))))))))))))))) :: []) n v_r194 v_r209 v_l1 v_x2 v_r426 n 0 (S_area_Area.mk 0 0 0) _ h605 ?_)
                          cases v_o513 with
                          | x0 v_z514 =>
                            try dsimp only at h
                            obtain ⟨v_o520, h614, h⟩ := bind_some h
                            refine pkk_sound TTok mix hF 2 (hs := []) (ts := []) (s := [0, 1, 2, 3]) (l := [3, 11, 12, 13, 14, 15, 17, 28]) (by as_aux_lemma => kernel_rfl) (by as_aux_lemma => kernel_rfl) .nil (G_ringlaw2_AreaTells_C9_ok hF (.s (cR (cR (cR (cF (cR (cL (cR (cR (cR (cR (cR (cR (cR (cR (cR (cR (cR (cR (cR (cR (cR (cR (cR (cR (cR (bodyOf Try.f8)))))))))))))))))))))))))) :: .s (cR (cR (cR (cR (cR (cR (cR (cR (cR (cR (cR (cR (cR (cR (cR (cR (cR (cR (cR (cR (bodyOf Try.f8))))))))))))))))))))) :: []) n v_r194 v_r209 v_x2 v_r426 v_z514 _ h614 ?_)
                            cases v_o520 with
                            | x0 v_z521 =>
                              try dsimp only at h
                              by_cases h615 : v_z521 = true
                              · rw [if_pos h615] at h
                                obtain rfl := Option.some.inj h
                                exact pend_sound TTok mix 5 (hs := [.t true]) (by as_aux_lemma => kernel_rfl) (by as_aux_lemma => kernel_rfl) (by as_aux_lemma => kernel_rfl) (.cons h615 .nil)
                              · rw [if_neg h615] at h
                                obtain ⟨v_r522, h616, h⟩ := bind_some h
                                by_cases h619 : v_r522 = true
                                · rw [if_pos h619] at h
                                  obtain ⟨v_o528, h634, h⟩ := bind_some h
                                  refine pkk_sound TTok mix hF 12 (hs := [.t false, .c, .r (eB v_r522), .t false, .n n]) (ts := []) (s := [0, 1]) (l := [3, 14, 15, 17, 31]) (by as_aux_lemma => kernel_rfl) (by as_aux_lemma => kernel_rfl) (.cons (vf h615) (.cons (G_ringref2_In_ok n v_x2.fN 1 64 _ h616) (.cons (bnf h619) .nil))) (G_ringlaw2_AreaTells_L10_ok hF (.b 8 :: .s (cR (cR (cR (cR (cR (cR (cR (cR (cR (cR (cR (cR (cR (cR (cR (cR (cR (cR (cR (cR (cR (cR (bodyOf Try.f8))))))))))))))))))))))) :: []) n v_r209 v_x2 v_r426 n 0 _ h634 ?_)
                                  cases v_o528 with
                                  | x0 v_z529 =>
                                    try dsimp only at h
                                    obtain rfl := Option.some.inj h
                                    exact pend_sound TTok mix 2 (hs := []) (by as_aux_lemma => kernel_rfl) (by as_aux_lemma => kernel_rfl) (by as_aux_lemma => kernel_rfl) .nil
                                  | x1  =>
                                    try dsimp only at h
                                    by_cases h635 : v_r209.1 = 0
                                    · rw [if_pos h635] at h
                                      obtain rfl := Option.some.inj h
                                      exact pend_sound TTok mix 4 (hs := [.t true, .c]) (by as_aux_lemma => kernel_rfl) (by as_aux_lemma => kernel_rfl) (by as_aux_lemma => kernel_rfl) (.cons (bt h635) .nil)
                                    · rw [if_neg h635] at h
                                      obtain rfl := Option.some.inj h
                                      exact pend_sound TTok mix 4 (hs := [.t false, .c]) (by as_aux_lemma => kernel_rfl) (by as_aux_lemma => kernel_rfl) (by as_aux_lemma => kernel_rfl) (.cons (bf h635) .nil)
                                · rw [if_neg h619] at h
                                  by_cases h620 : v_r209.1 = 0
                                  · rw [if_pos h620] at h
                                    obtain rfl := Option.some.inj h
                                    exact pend_sound TTok mix 10 (hs := [.t false, .c, .r (eB v_r522), .t true, .t true, .c]) (by as_aux_lemma => kernel_rfl) (by as_aux_lemma => kernel_rfl) (by as_aux_lemma => kernel_rfl) (.cons (vf h615) (.cons (G_ringref2_In_ok n v_x2.fN 1 64 _ h616) (.cons (bnt (vf h619)) (.cons (bt h620) .nil))))
                                  · rw [if_neg h620] at h
                                    obtain rfl := Option.some.inj h
                                    exact pend_sound TTok mix 10 (hs := [.t false, .c, .r (eB v_r522), .t true, .t false, .c]) (by as_aux_lemma => kernel_rfl) (by as_aux_lemma => kernel_rfl) (by as_aux_lemma => kernel_rfl) (.cons (vf h615) (.cons (G_ringref2_In_ok n v_x2.fN 1 64 _ h616) (.cons (bnt (vf h619)) (.cons (bf h620) .nil))))
                        · rw [if_neg h558] at h
                          by_cases h559 : (eqRes .neq (eqS_area_Area v_r194.1 (S_area_Area.mk 0 0 0))) = true
                          · rw [if_pos h559] at h
                            obtain rfl := Option.some.inj h
                            exact pend_sound TTok mix 13 (hs := [.t false, .c, .r (eB v_r478), .t true, .c, .q (eqS_area_Area v_r194.1 (S_area_Area.mk 0 0 0)), .t true, .c, .c, .c]) (by as_aux_lemma => kernel_rfl) (by as_aux_lemma => kernel_rfl) (by as_aux_lemma => kernel_rfl) (.cons (vf h556) (.cons (G_ringref2_In_ok n v_x2.fPage 0 63 _ h557) (.cons (bnt (vf h558)) (.cons (eqS_area_Area_ok v_r194.1 (S_area_Area.mk 0 0 0)) (.cons h559 .nil)))))
                          · rw [if_neg h559] at h
                            by_cases h560 : v_r194.2.1 = true
                            · rw [if_pos h560] at h
                              obtain rfl := Option.some.inj h
                              exact pend_sound TTok mix 13 (hs := [.t false, .c, .r (eB v_r478), .t true, .c, .q (eqS_area_Area v_r194.1 (S_area_Area.mk 0 0 0)), .t false, .t true, .c, .c]) (by as_aux_lemma => kernel_rfl) (by as_aux_lemma => kernel_rfl) (by as_aux_lemma => kernel_rfl) (.cons (vf h556) (.cons (G_ringref2_In_ok n v_x2.fPage 0 63 _ h557) (.cons (bnt (vf h558)) (.cons (eqS_area_Area_ok v_r194.1 (S_area_Area.mk 0 0 0)) (.cons (vf h559) (.cons h560 .nil))))))
                            · rw [if_neg h560] at h
                              by_cases h561 : v_r194.2.2 = 1
                              · rw [if_pos h561] at h
                                obtain ⟨v_r479, h562, h⟩ := bind_some h
                                by_cases h565 : v_r479 = true
                                · rw [if_pos h565] at h
                                  obtain ⟨v_o499, h589, h⟩ := bind_some h
                                  refine pkk_sound TTok mix hF 20 (hs := [.t false, .c, .r (eB v_r478), .t true, .c, .q (eqS_area_Area v_r194.1 (S_area_Area.mk 0 0 0)), .t false, .t false, .c, .t false, .c, .r (eB v_r479), .t false, .n n]) (ts := []) (s := [0, 2]) (l := [3, 14, 15, 17, 31]) (by as_aux_lemma => kernel_rfl) (by as_aux_lemma => kernel_rfl) (.cons (vf h556) (.cons (G_ringref2_In_ok n v_x2.fPage 0 63 _ h557) (.cons (bnt (vf h558)) (.cons (eqS_area_Area_ok v_r194.1 (S_area_Area.mk 0 0 0)) (.cons (vf h559) (.cons (vf h560) (.cons (nf h561) (.cons (G_ringref2_In_ok n v_x2.fN 1 64 _ h562) (.cons (bnf h565) .nil))))))))) (G_ringlaw2_AreaTells_L7_ok hF (.b 8 :: .s (cR (cR (cR (cR (cR (cR (cR (cR (cR (cR (cR (cR (cR (cR (cR (cR (cR (cR (cR (cR (cR (cR (bodyOf Try.f8))))))))))))))))))))))) :: []) n v_r209 v_x2 v_r426 n 0 _ h589 ?_)
                                  cases v_o499 with
                                  | x0 v_z500 =>
                                    try dsimp only at h
                                    obtain rfl := Option.some.inj h
                                    exact pend_sound TTok mix 2 (hs := []) (by as_aux_lemma => kernel_rfl) (by as_aux_lemma => kernel_rfl) (by as_aux_lemma => kernel_rfl) .nil
                                  | x1  =>
                                    try dsimp only at h
                                    by_cases h590 : v_r209.1 = 0
                                    · rw [if_pos h590] at h
                                      obtain rfl := Option.some.inj h
                                      exact pend_sound TTok mix 4 (hs := [.t true, .c]) (by as_aux_lemma => kernel_rfl) (by as_aux_lemma => kernel_rfl) (by as_aux_lemma => kernel_rfl) (.cons (bt h590) .nil)
                                    · rw [if_neg h590] at h
                                      obtain rfl := Option.some.inj h
                                      exact pend_sound TTok mix 4 (hs := [.t false, .c]) (by as_aux_lemma => kernel_rfl) (by as_aux_lemma => kernel_rfl) (by as_aux_lemma => kernel_rfl) (.cons (bf h590) .nil)
                                · rw [if_neg h565] at h
                                  by_cases h566 : v_r209.1 = 0
                                  · rw [if_pos h566] at h
                                    obtain rfl := Option.some.inj h
                                    exact pend_sound TTok mix 18 (hs := [.t false, .c, .r (eB v_r478), .t true, .c, .q (eqS_area_Area v_r194.1 (S_area_Area.mk 0 0 0)), .t false, .t false, .c, .t false, .c, .r (eB v_r479), .t true, .t true, .c]) (by as_aux_lemma => kernel_rfl) (by as_aux_lemma => kernel_rfl) (by as_aux_lemma => kernel_rfl) (.cons (vf h556) (.cons (G_ringref2_In_ok n v_x2.fPage 0 63 _ h557) (.cons (bnt (vf h558)) (.cons (eqS_area_Area_ok v_r194.1 (S_area_Area.mk 0 0 0)) (.cons (vf h559) (.cons (vf h560) (.cons (nf h561) (.cons (G_ringref2_In_ok n v_x2.fN 1 64 _ h562) (.cons (bnt (vf h565)) (.cons (bt h566) .nil))))))))))
                                  · rw [if_neg h566] at h
                                    obtain rfl := Option.some.inj h
                                    exact pend_sound TTok mix 18 (hs := [.t false, .c, .r (eB v_r478), .t true, .c, .q (eqS_area_Area v_r194.1 (S_area_Area.mk 0 0 0)), .t false, .t false, .c, .t false, .c, .r (eB v_r479), .t true, .t false, .c]) (by as_aux_lemma => kernel_rfl) (by as_aux_lemma => kernel_rfl) (by as_aux_lemma => kernel_rfl) (.cons (vf h556) (.cons (G_ringref2_In_ok n v_x2.fPage 0 63 _ h557) (.cons (bnt (vf h558)) (.cons (eqS_area_Area_ok v_r194.1 (S_area_Area.mk 0 0 0)) (.cons (vf h559) (.cons (vf h560) (.cons (nf h561) (.cons (G_ringref2_In_ok n v_x2.fN 1 64 _ h562) (.cons (bnt (vf h565)) (.cons (bf h566) .nil))))))))))
                              · rw [if_neg h561] at h
                                obtain rfl := Option.some.inj h
                                exact pend_sound TTok mix 13 (hs := [.t false, .c, .r (eB v_r478), .t true, .c, .q (eqS_area_Area v_r194.1 (S_area_Area.mk 0 0 0)), .t false, .t false, .c, .t true]) (by as_aux_lemma => kernel_rfl) (by as_aux_lemma => kernel_rfl) (by as_aux_lemma => kernel_rfl) (.cons (vf h556) (.cons (G_ringref2_In_ok n v_x2.fPage 0 63 _ h557) (.cons (bnt (vf h558)) (.cons (eqS_area_Area_ok v_r194.1 (S_area_Area.mk 0 0 0)) (.cons (vf h559) (.cons (vf h560) (.cons (nt h561) .nil)))))))
    · rw [if_neg h478] at h
      obtain ⟨v_o424, h495, h⟩ := bind_some h
      refine pkk_sound TTok mix hF 24 (hs := [.c, .r (.tup [(eL eS_area_Area) v_r139.1, (eI .i64) v_r139.2]), .c, .c, .r (.tup [(eL eS_area_Area) v_r173.1, (eI .i64) v_r173.2]), .c, .r (.tup [(eL eS_area_Area) v_r180.1, (eI .i64) v_r180.2]), .c, .r (.tup [eS_area_Area v_r194.1, eB v_r194.2.1, (eI .i64) v_r194.2.2]), .c, .c, .r (.tup [(eI .i64) v_r209.1, (eI .i64) v_r209.2]), .r ((eI .i64) v_r402), .r ((eI .i64) v_r403), .t false, .t true]) (ts := []) (s := [111]) (l := [5, 6, 7, 8, 9, 10, 11, 12, 13, 14, 15, 16]) (by as_aux_lemma => kernel_rfl) (by as_aux_lemma => kernel_rfl) (.cons (G_area_Put_ok n v_l1 v_x2 _ h157) (.cons (G_area_Out_ok n v_l1 v_x2.fPage v_x2.fN _ h191) (.cons (G_area_Turn_ok n v_l1 v_x2 _ h199) (.cons (G_area_At_ok n v_l1 v_x2.fPage _ h215) (.cons (show 0 + 3 ≤ 3 by decide) (.cons (G_area_Gap_ok n v_l1 v_x2.fN _ h228) (.cons (G_ringref2_Areas_ok n v_l1 _ h457) (.cons (G_area_Check_ok n v_l1 _ h458) (.cons (nf h459) (.cons (nt h478) .nil)))))))))) (G_ringlaw2_AreaTells_C1_ok hF (.s (cR (cT (cR (cL (cR (cR (cR (cR (cR (cR (cR (cR (bodyOf Try.f8))))))))))))) :: .s (cR (cR (cR (cR (cR (cR (cR (cR (cR (bodyOf Try.f8)))))))))) :: []) n v_r139 v_r173 v_r180 v_r194 v_r209 v_r402 _ h495 ?_)
      cases v_o424 with
      | x0 v_z425 =>
        try dsimp only at h
        obtain rfl := Option.some.inj h
        exact pend_sound TTok mix 2 (hs := []) (by as_aux_lemma => kernel_rfl) (by as_aux_lemma => kernel_rfl) (by as_aux_lemma => kernel_rfl) .nil
  · rw [if_neg h459] at h
    obtain rfl := Option.some.inj h
    exact pend_sound TTok mix 22 (hs := [.c, .r (.tup [(eL eS_area_Area) v_r139.1, (eI .i64) v_r139.2]), .c, .c, .r (.tup [(eL eS_area_Area) v_r173.1, (eI .i64) v_r173.2]), .c, .r (.tup [(eL eS_area_Area) v_r180.1, (eI .i64) v_r180.2]), .c, .r (.tup [eS_area_Area v_r194.1, eB v_r194.2.1, (eI .i64) v_r194.2.2]), .c, .c, .r (.tup [(eI .i64) v_r209.1, (eI .i64) v_r209.2]), .r ((eI .i64) v_r402), .r ((eI .i64) v_r403), .t true]) (by as_aux_lemma => kernel_rfl) (by as_aux_lemma => kernel_rfl) (by as_aux_lemma => kernel_rfl) (.cons (G_area_Put_ok n v_l1 v_x2 _ h157) (.cons (G_area_Out_ok n v_l1 v_x2.fPage v_x2.fN _ h191) (.cons (G_area_Turn_ok n v_l1 v_x2 _ h199) (.cons (G_area_At_ok n v_l1 v_x2.fPage _ h215) (.cons (show 0 + 3 ≤ 3 by decide) (.cons (G_area_Gap_ok n v_l1 v_x2.fN _ h228) (.cons (G_ringref2_Areas_ok n v_l1 _ h457) (.cons (G_area_Check_ok n v_l1 _ h458) (.cons (nt h459) .nil)))))))))
def okS_area_Area (x : S_area_Area) : Prop := (fun a => (Lit.int .i64 a).wf = true) x.fPage ∧ (fun a => (Lit.int .i64 a).wf = true) x.fN ∧ (fun a => (Lit.int .i64 a).wf = true) x.fRights ∧ True
theorem brS_area_Area : Br (.pair (.int .i64) (.pair (.int .i64) (.pair (.int .i64) .unit))) (fun x : S_area_Area => [.v (.int .i64 x.fPage), .v (.int .i64 x.fN), .v (.int .i64 x.fRights)]) okS_area_Area := br_map (br_pair (br_int .i64) (br_pair (br_int .i64) (br_pair (br_int .i64) br_unit))) (fun p => S_area_Area.mk p.1 p.2.1 p.2.2.1) (fun p h => ⟨rfl, h⟩)
theorem AreaTells_walk (H : ∀ (a0 : (List S_area_Area)) (a1 : S_area_Area), (okL 24 okS_area_Area) a0 → okS_area_Area a1 → ∃ n, G_ringlaw2_AreaTells n a0 a1 = some true) (w : World) (v0 : Value) (v1 : Value) (h0 : rep.Arg w (.slice 24 (.pair (.int .i64) (.pair (.int .i64) (.pair (.int .i64) .unit)))) v0) (h1 : rep.Arg w (.pair (.int .i64) (.pair (.int .i64) (.pair (.int .i64) .unit))) v1) : Calls Try.prog 8 #[v0, v1] w (help.Ret (.bool true) w) := by
  obtain ⟨a0, o0, r0⟩ := arg_one (br_slice (f := eS_area_Area) (ok := okS_area_Area) brS_area_Area (fun _ => rfl) (by decide)) (by rfl) h0
  obtain ⟨a1, o1, r1⟩ := arg_agg brS_area_Area (by rfl) h1
  obtain ⟨n, hn⟩ := H a0 a1 o0 o1
  exact walk_of (G_ringlaw2_AreaTells_ok n a0 a1 true hn) (RT_cons r0 (RT_cons r1 RT_nil))
/- FRAME AreaTells; ringhall/ringlaw2.AreaTells; (.slice 24 (.pair (.int .i64) (.pair (.int .i64) (.pair (.int .i64) .unit)))) | (.pair (.int .i64) (.pair (.int .i64) (.pair (.int .i64) .unit))); .slice none 0 0 | .agg #[.int .i64 0, .int .i64 0, .int .i64 0] -/
end Go.Proofs.Ytnmpnljjaoddhaa.pv
