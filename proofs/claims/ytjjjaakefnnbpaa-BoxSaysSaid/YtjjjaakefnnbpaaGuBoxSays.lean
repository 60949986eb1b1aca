/- What the functions compute (part 2): written by gen.py. -/
import Derived.Test.YtjjjaakefnnbpaaGuBoxSaysP1
set_option maxRecDepth 100000
set_option linter.all false
namespace Go.Proofs.Ytjjjaakefnnbpaa.pv
open Go.RowKit
def G_ringlaw5_BoxSays_L5_st (v_r245 : (S_api_Cred × Int)) (v_r256 : ((List (Fin 3 → Int)))) (v_c3 : S_api_Cred) (v_r464 : (Int)) (v_r465 : (Int)) : G_ringlaw5_BoxSays_L5_R → PS
  | .x0 v_w481 => ⟨[dd, dd, dd, dd, dd, dd, dd, dd, dd, dd, dd, .ref 0 0, .d (.v (.int .i64 v_r245.2)), dd, dd, dd, dd, dd, dd, dd, .ref 1 0, dd, dd, dd, dd, dd, dd, dd, dd, dd, dd, dd, dd, dd, dd, dd, dd, dd, dd, dd, dd, dd, dd, dd, dd, dd, dd, dd, dd, dd, dd, dd, dd, dd, dd, dd, dd, dd, dd, dd, dd, dd, dd, dd, dd, dd, dd, dd, dd, dd, dd, dd, dd, dd, dd, dd, dd, dd, dd, dd, dd, dd, dd, dd, dd, dd, dd, dd, dd, dd, dd, dd, dd, dd, dd, dd, dd, dd, dd, dd, dd, dd, dd, dd, dd, dd, dd, dd, dd, dd, dd, dd, dd, dd, dd, dd, dd, dd, dd, dd, dd, dd, dd, dd, dd, dd, dd, dd, dd, dd, dd, dd, dd, dd, dd, dd, dd, dd, dd, dd, dd, dd, dd, dd, dd, dd, dd, dd, dd, dd, dd, dd, dd, dd, dd, dd, dd, dd, dd, dd, dd, dd, dd, dd, dd, dd, dd, dd, dd, dd, dd, dd, dd, dd, dd, dd, dd, dd, dd, dd, dd, dd, dd, dd, dd, dd, dd, dd, dd, dd, dd, dd, dd, dd, dd, dd, dd, dd, dd, dd, dd, dd, dd, dd, dd, dd, dd, dd, dd, dd, dd, dd, dd, dd, dd, dd, dd, dd, dd, dd, dd, dd, dd, dd], [.box [.d (.v (.int .i64 v_r245.1.fUser)), .d (.v (.int .i64 v_r245.1.fGroup)), .d (.sl (v_r245.1.fMore.map (eI .i64))), .d (.v (.int .i64 v_r245.1.fCaps)), .d (.v (.int .i64 v_r245.1.fLevel)), .d (.v (.int .i64 v_r245.1.fKind))], .box [.d (.v (.int .i64 v_r464)), .d (.v (.int .i64 v_r465)), .srf 2, .d (.v (.int .i64 v_c3.fCaps)), .d (.v (.int .i64 v_c3.fLevel)), .d (.v (.int .i64 v_c3.fKind))], .row 3 1 (v_w481.map (eI .i64))]⟩
def G_ringlaw5_BoxSays_L5_hd (v_r245 : (S_api_Cred × Int)) (v_r256 : ((List (Fin 3 → Int)))) (v_c3 : S_api_Cred) (v_r464 : (Int)) (v_r465 : (Int)) (v_x473 : Int) (v_w474 : (List Int)) : PS := ⟨[dd, dd, dd, dd, dd, dd, dd, dd, dd, dd, dd, .ref 0 0, .d (.v (.int .i64 v_r245.2)), .d (.sl (v_r256.map (fun x => PV.agg [.v (.int .i64 (x 0)), .v (.int .i64 (x 1)), .v (.int .i64 (x 2))]))), dd, dd, dd, dd, dd, dd, .ref 1 0, dd, dd, dd, dd, dd, dd, dd, dd, dd, dd, dd, dd, dd, dd, dd, dd, dd, dd, dd, dd, dd, dd, dd, dd, dd, dd, dd, dd, dd, dd, dd, dd, dd, dd, dd, dd, dd, dd, dd, dd, dd, dd, dd, dd, dd, dd, dd, dd, dd, dd, dd, dd, dd, dd, dd, dd, dd, dd, dd, dd, dd, dd, dd, dd, dd, dd, dd, dd, dd, dd, dd, dd, dd, dd, dd, dd, dd, dd, dd, dd, dd, dd, dd, dd, dd, dd, dd, dd, dd, dd, dd, dd, dd, dd, dd, dd, dd, dd, dd, dd, dd, dd, dd, dd, dd, dd, dd, dd, dd, dd, dd, dd, dd, dd, dd, dd, dd, dd, dd, dd, dd, dd, dd, dd, dd, dd, dd, dd, dd, dd, dd, dd, dd, dd, dd, dd, dd, dd, dd, dd, dd, dd, dd, dd, dd, dd, dd, dd, dd, dd, dd, dd, .d (.sl (v_c3.fMore.map (eI .i64))), .d (.v (.int .i64 (v_c3.fMore.length : Int))), .d (.v (.int .i64 v_x473)), dd, dd, dd, dd, dd, dd, dd, dd, dd, dd, dd, dd, dd, dd, dd, dd, dd, dd, dd, dd, dd, dd, dd, dd, dd, dd, dd, dd, dd, dd, dd, dd, dd, dd, dd, dd, dd, dd, dd, dd, dd, dd, dd, dd, dd, dd, dd, dd], [.box [.d (.v (.int .i64 v_r245.1.fUser)), .d (.v (.int .i64 v_r245.1.fGroup)), .d (.sl (v_r245.1.fMore.map (eI .i64))), .d (.v (.int .i64 v_r245.1.fCaps)), .d (.v (.int .i64 v_r245.1.fLevel)), .d (.v (.int .i64 v_r245.1.fKind))], .box [.d (.v (.int .i64 v_r464)), .d (.v (.int .i64 v_r465)), .srf 2, .d (.v (.int .i64 v_c3.fCaps)), .d (.v (.int .i64 v_c3.fLevel)), .d (.v (.int .i64 v_c3.fKind))], .row 3 1 (v_w474.map (eI .i64))]⟩
def G_ringlaw5_BoxSays_L5 (n : Nat) (v_r245 : (S_api_Cred × Int)) (v_r256 : ((List (Fin 3 → Int)))) (v_c3 : S_api_Cred) (v_r464 : (Int)) (v_r465 : (Int)) : Nat → Int → (List Int) → Option G_ringlaw5_BoxSays_L5_R
  | 0, _, _ => none
  | k + 1, v_x473, v_w474 =>
    if v_x473 < (v_c3.fMore.length : Int) then
     (getI v_c3.fMore v_x473).bind fun (v_y478 : Int) =>
     (G_ringref5_BoxTo n v_r256 v_y478).bind fun (v_r479 : (Int)) =>
     (app 8 v_w474 ([v_r479])).bind fun (v_a480 : (List Int)) =>
     G_ringlaw5_BoxSays_L5 n v_r245 v_r256 v_c3 v_r464 v_r465 k (wi .i64 (v_x473 + 1)) v_a480
    else
     some (.x0 v_w474)
theorem G_ringlaw5_BoxSays_L5_ok {Fi : Ex → PS → Prop} (hF : KC 224 Fi) (ks : List Fr) (n : Nat) (v_r245 : (S_api_Cred × Int)) (v_r256 : ((List (Fin 3 → Int)))) (v_c3 : S_api_Cred) (v_r464 : (Int)) (v_r465 : (Int))  : ∀ (k : Nat) (v_x473 : Int) (v_w474 : (List Int)) (o : G_ringlaw5_BoxSays_L5_R), G_ringlaw5_BoxSays_L5 n v_r245 v_r256 v_c3 v_r464 v_r465 k v_x473 v_w474 = some o → RunE Try.prog 224 Fi ks (G_ringlaw5_BoxSays_L5_ex o) (G_ringlaw5_BoxSays_L5_st v_r245 v_r256 v_c3 v_r464 v_r465 o) → RunE Try.prog 224 Fi (.l k (cP (cB (cR (cL (cR (cR (cR (cR (cR (cR (cR (cR (cR (cR (cR (cR (cR (cR (cR (cR (bodyOf Try.f4))))))))))))))))))))) :: ks) .normal (G_ringlaw5_BoxSays_L5_hd v_r245 v_r256 v_c3 v_r464 v_r465 v_x473 v_w474)
  | 0, v_x473, v_w474, o, h, q => by rw [G_ringlaw5_BoxSays_L5] at h; cases h
  | k + 1, v_x473, v_w474, o, h, q => by
    rw [G_ringlaw5_BoxSays_L5] at h
    by_cases h547 : v_x473 < (v_c3.fMore.length : Int)
    · rw [if_pos h547] at h
      obtain ⟨v_y478, h551, h⟩ := bind_some h
      obtain ⟨v_r479, h552, h⟩ := bind_some h
      obtain ⟨v_a480, h553, h⟩ := bind_some h
      exact pkk_sound TTok mix hF 13 (hs := [.t true, .y ((eI .i64) v_y478), .c, .c, .r ((eI .i64) v_r479), .bd, .w (v_a480.map (eI .i64)), .c]) (ts := []) (s := [0, 1, 33]) (l := [11, 12, 13, 20, 173, 174, 175]) (by kernel_rfl) (by kernel_rfl) (.cons (dt h547) (.cons (getI_ob (f := (eI .i64)) h551) (.cons (G_ringref5_BoxTo_ok n v_r256 v_y478 _ h552) (.cons (app_ob (f := (eI .i64)) (s := 1) h553 (fun _ => rfl)).1 (.cons (app_ob (f := (eI .i64)) (s := 1) h553 (fun _ => rfl)).2.1 (.cons (app_ob (f := (eI .i64)) (s := 1) h553 (fun _ => rfl)).2.2.1 (.cons (app_ob (f := (eI .i64)) (s := 1) h553 (fun _ => rfl)).2.2.2 (.cons (show 2 + 1 ≤ 6 by decide) .nil)))))))) (G_ringlaw5_BoxSays_L5_ok hF ks n v_r245 v_r256 v_c3 v_r464 v_r465 k (wi .i64 (v_x473 + 1)) v_a480 _ h q)
    · rw [if_neg h547] at h
      cases h
      exact pkk_sound TTok mix hF 8 (hs := [.t false]) (ts := []) (s := [0, 1, 2]) (l := [11, 12, 20]) (by kernel_rfl) (by kernel_rfl) (.cons (df h547) .nil) q
inductive G_ringlaw5_BoxSays_C6_R where
  | x0 (v_x486 : Bool) (v_w487 : (List Int))
def G_ringlaw5_BoxSays_C6_ex : G_ringlaw5_BoxSays_C6_R → Ex
  | .x0 _ _ => .normal
def G_ringlaw5_BoxSays_C6_st (v_r245 : (S_api_Cred × Int)) (v_r464 : (Int)) (v_r465 : (Int)) (v_c3 : S_api_Cred) (v_r484 : ((List Int))) : G_ringlaw5_BoxSays_C6_R → PS
  | .x0 v_x486 v_w487 => ⟨[dd, dd, dd, dd, dd, dd, dd, dd, dd, dd, dd, .ref 0 0, .d (.v (.int .i64 v_r245.2)), dd, dd, dd, dd, dd, dd, dd, .ref 1 0, dd, dd, dd, dd, dd, dd, dd, dd, dd, dd, dd, dd, dd, dd, dd, dd, dd, dd, dd, dd, dd, dd, dd, dd, dd, dd, dd, dd, dd, dd, dd, dd, dd, dd, dd, dd, dd, dd, dd, dd, dd, dd, dd, dd, dd, dd, dd, dd, dd, dd, dd, dd, dd, dd, dd, dd, dd, dd, dd, dd, dd, dd, dd, dd, dd, dd, dd, dd, dd, dd, dd, dd, dd, dd, dd, dd, dd, dd, dd, dd, dd, dd, dd, dd, dd, dd, dd, dd, dd, dd, dd, dd, dd, dd, dd, dd, dd, dd, dd, dd, dd, dd, dd, dd, dd, dd, dd, dd, dd, dd, dd, dd, dd, dd, dd, dd, dd, dd, dd, dd, dd, dd, dd, dd, dd, dd, dd, dd, dd, dd, dd, dd, dd, dd, dd, dd, dd, dd, dd, dd, dd, dd, dd, dd, dd, dd, dd, dd, dd, dd, dd, dd, dd, dd, dd, dd, dd, dd, dd, dd, dd, dd, dd, dd, dd, dd, dd, dd, dd, dd, dd, dd, dd, dd, dd, dd, dd, dd, dd, dd, dd, dd, dd, dd, dd, dd, dd, dd, .d (.v (.bool v_x486)), dd, dd, dd, dd, dd, dd, dd, dd, dd, dd, dd, dd, dd, dd], [.box [.d (.v (.int .i64 v_r245.1.fUser)), .d (.v (.int .i64 v_r245.1.fGroup)), .d (.sl (v_r245.1.fMore.map (eI .i64))), .d (.v (.int .i64 v_r245.1.fCaps)), .d (.v (.int .i64 v_r245.1.fLevel)), .d (.v (.int .i64 v_r245.1.fKind))], .box [.d (.v (.int .i64 v_r464)), .d (.v (.int .i64 v_r465)), .srf 2, .d (.v (.int .i64 v_c3.fCaps)), .d (.v (.int .i64 v_c3.fLevel)), .d (.v (.int .i64 v_c3.fKind))], .row 3 1 (v_w487.map (eI .i64))]⟩
def G_ringlaw5_BoxSays_C6_hd (v_r245 : (S_api_Cred × Int)) (v_r464 : (Int)) (v_r465 : (Int)) (v_c3 : S_api_Cred) (v_r484 : ((List Int)))  : PS := ⟨[dd, dd, dd, dd, dd, dd, dd, dd, dd, dd, dd, .ref 0 0, .d (.v (.int .i64 v_r245.2)), dd, dd, dd, dd, dd, dd, dd, .ref 1 0, dd, dd, dd, dd, dd, dd, dd, dd, dd, dd, dd, dd, dd, dd, dd, dd, dd, dd, dd, dd, dd, dd, dd, dd, dd, dd, dd, dd, dd, dd, dd, dd, dd, dd, dd, dd, dd, dd, dd, dd, dd, dd, dd, dd, dd, dd, dd, dd, dd, dd, dd, dd, dd, dd, dd, dd, dd, dd, dd, dd, dd, dd, dd, dd, dd, dd, dd, dd, dd, dd, dd, dd, dd, dd, dd, dd, dd, dd, dd, dd, dd, dd, dd, dd, dd, dd, dd, dd, dd, dd, dd, dd, dd, dd, dd, dd, dd, dd, dd, dd, dd, dd, dd, dd, dd, dd, dd, dd, dd, dd, dd, dd, dd, dd, dd, dd, dd, dd, dd, dd, dd, dd, dd, dd, dd, dd, dd, dd, dd, dd, dd, dd, dd, dd, dd, dd, dd, dd, dd, dd, dd, dd, dd, dd, dd, dd, dd, dd, dd, dd, dd, dd, dd, dd, dd, dd, dd, dd, dd, dd, dd, dd, dd, dd, dd, dd, dd, dd, dd, dd, dd, dd, dd, dd, dd, dd, dd, dd, dd, dd, dd, dd, dd, dd, dd, dd, dd, dd, dd, dd, dd, dd, dd, dd, dd, dd, dd, dd, dd, dd, dd, dd, dd], [.box [.d (.v (.int .i64 v_r245.1.fUser)), .d (.v (.int .i64 v_r245.1.fGroup)), .d (.sl (v_r245.1.fMore.map (eI .i64))), .d (.v (.int .i64 v_r245.1.fCaps)), .d (.v (.int .i64 v_r245.1.fLevel)), .d (.v (.int .i64 v_r245.1.fKind))], .box [.d (.v (.int .i64 v_r464)), .d (.v (.int .i64 v_r465)), .srf 2, .d (.v (.int .i64 v_c3.fCaps)), .d (.v (.int .i64 v_c3.fLevel)), .d (.v (.int .i64 v_c3.fKind))], .row 3 1 (v_r484.map (eI .i64))]⟩
def G_ringlaw5_BoxSays_C6 (n : Nat) (v_r245 : (S_api_Cred × Int)) (v_r464 : (Int)) (v_r465 : (Int)) (v_c3 : S_api_Cred) (v_r484 : ((List Int))) : Option G_ringlaw5_BoxSays_C6_R :=
  if (minI v_r464 v_r465) < 0 then
   some (.x0 true v_r484)
  else
   if (v_r484.length : Int) > 0 then
    if 0 ≤ (0 : Int) ∧ ((0 : Int)).toNat < v_r484.length then
     (v_r484[((0 : Int)).toNat]?).bind fun (v_y488 : Int) =>
     some (.x0 (decide (v_y488 < 0)) v_r484)
    else none
   else
    some (.x0 false v_r484)
theorem G_ringlaw5_BoxSays_C6_ok {Fi : Ex → PS → Prop} (hF : KC 224 Fi) (ks : List Fr) (n : Nat) (v_r245 : (S_api_Cred × Int)) (v_r464 : (Int)) (v_r465 : (Int)) (v_c3 : S_api_Cred) (v_r484 : ((List Int)))  (o : G_ringlaw5_BoxSays_C6_R) (h : G_ringlaw5_BoxSays_C6 n v_r245 v_r464 v_r465 v_c3 v_r484 = some o) (q : RunE Try.prog 224 Fi ks (G_ringlaw5_BoxSays_C6_ex o) (G_ringlaw5_BoxSays_C6_st v_r245 v_r464 v_r465 v_c3 v_r484 o)) : RunE Try.prog 224 Fi (.s (cL (cL (cR (cR (cR (cR (cR (cR (cR (cR (cR (cR (cR (cR (cR (cR (cR (cR (cR (cR (bodyOf Try.f4))))))))))))))))))))) :: ks) .normal (G_ringlaw5_BoxSays_C6_hd v_r245 v_r464 v_r465 v_c3 v_r484) := by
  unfold G_ringlaw5_BoxSays_C6 at h
  by_cases h560 : (minI v_r464 v_r465) < 0
  · rw [if_pos h560] at h
    cases h
    exact pkk_sound TTok mix hF 1 (hs := [.c, .c, .t true, .c, .c, .c, .c, .c]) (ts := []) (s := [0, 1, 2]) (l := [11, 12, 20, 209]) (by kernel_rfl) (by kernel_rfl) (.cons (dt h560) .nil) q
  · rw [if_neg h560] at h
    by_cases h561 : (v_r484.length : Int) > 0
    · rw [if_pos h561] at h
      by_cases h562 : 0 ≤ (0 : Int) ∧ ((0 : Int)).toNat < v_r484.length
      · rw [if_pos h562] at h
        obtain ⟨v_y488, h563, h⟩ := bind_some h
        cases h
        exact pkk_sound TTok mix hF 1 (hs := [.c, .c, .t false, .c, .c, .c, .u (.d (.v (.int .i64 (v_r484.length : Int)))), .c, .c, .t true, .c, .c, .c, .c, .y ((eI .i64) v_y488), .c, .c]) (ts := []) (s := [0, 1, 2]) (l := [11, 12, 20, 209]) (by kernel_rfl) (by kernel_rfl) (.cons (df h560) (.cons (len_ob (f := (eI .i64)) (l := v_r484)) (.cons (dt h561) (.cons (idx_ob (f := (eI .i64)) h562) (.cons (get_ob (f := (eI .i64)) h563) .nil))))) q
      · rw [if_neg h562] at h; cases h
    · rw [if_neg h561] at h
      cases h
      exact pkk_sound TTok mix hF 1 (hs := [.c, .c, .t false, .c, .c, .c, .u (.d (.v (.int .i64 (v_r484.length : Int)))), .c, .c, .t false, .c, .c, .c, .c, .c]) (ts := []) (s := [0, 1, 2]) (l := [11, 12, 20, 209]) (by kernel_rfl) (by kernel_rfl) (.cons (df h560) (.cons (len_ob (f := (eI .i64)) (l := v_r484)) (.cons (df h561) .nil))) q
/- ringhall/ringlaw5.BoxSays -/
def G_ringlaw5_BoxSays (n : Nat) (v_l1 : (List S_box_Range)) (v_n2 : Int) (v_c3 : S_api_Cred) : Option (Bool) :=
  (G_ringlaw5_boxes n ).bind fun (v_r104 : (Bool)) =>
  if v_r104 = true then
   (G_box_To n v_l1 v_n2).bind fun (v_r105 : (Int × Int)) =>
   (G_box_From n v_l1 v_n2).bind fun (v_r117 : (Int × Int)) =>
   (G_box_Cred n v_l1 v_c3).bind fun (v_r245 : (S_api_Cred × Int)) =>
   (G_ringlaw5_triples n v_l1).bind fun (v_r256 : ((List (Fin 3 → Int)))) =>
   (G_ringref5_BoxErr n v_r256).bind fun (v_r346 : (Int)) =>
   (G_box_Check n v_l1).bind fun (v_r347 : (Int)) =>
   if v_r347 = v_r346 then
    if v_r346 = 0 then
     (G_ringlaw5_BoxSays_L2 n v_n2 v_r105 v_r117 v_r245 v_r256 v_c3 n 0 ([] : List (Fin 3 → Int))).bind fun v_o397 => match v_o397 with
     | .x0 v_z398 =>
       (G_ringref5_BoxTo n v_r256 v_n2).bind fun (v_r410 : (Int)) =>
       (G_ringlaw5_BoxSays_C3 n v_n2 v_r105 v_r117 v_r245 v_r256 v_r410 v_c3 v_z398).bind fun v_o427 => match v_o427 with
       | .x0 v_z428 v_z429 =>
         if v_z428 = true then
          some false
         else
          (G_ringref5_BoxTo n v_z429 v_n2).bind fun (v_r430 : (Int)) =>
          (G_ringlaw5_BoxSays_C4 n v_r117 v_r245 v_r256 v_r430 v_c3).bind fun v_o439 => match v_o439 with
          | .x0 v_z440 =>
            if v_z440 = true then
             some false
            else
             (G_ringref5_CredErr n v_c3).bind fun (v_r461 : (Int)) =>
             if v_r461 = 0 then
              (G_ringref5_BoxTo n v_r256 v_c3.fUser).bind fun (v_r464 : (Int)) =>
              (G_ringref5_BoxTo n v_r256 v_c3.fGroup).bind fun (v_r465 : (Int)) =>
              (G_ringlaw5_BoxSays_L5 n v_r245 v_r256 v_c3 v_r464 v_r465 n 0 ([] : List Int)).bind fun v_o482 => match v_o482 with
              | .x0 v_z483 =>
                (G_slices_Sort_int_int_h n v_z483).bind fun (v_r484 : ((List Int))) =>
                (G_ringlaw5_BoxSays_C6 n v_r245 v_r464 v_r465 v_c3 v_r484).bind fun v_o493 => match v_o493 with
                | .x0 v_z494 v_z495 =>
                  if v_z494 = true then
                   if v_r245.2 = 4 then
                    (G_ringref5_SameCred n v_r245.1 (S_api_Cred.mk 0 0 ([] : (List Int)) 0 0 0)).bind fun (v_r497 : (Bool)) =>
                    some v_r497
                   else
                    some false
                  else
                   if v_r245.2 = 0 then
                    (G_ringref5_SameCred n v_r245.1 (S_api_Cred.mk v_r464 v_r465 v_z495 v_c3.fCaps v_c3.fLevel v_c3.fKind)).bind fun (v_r498 : (Bool)) =>
                    some v_r498
                   else
                    some false
             else
              if v_r245.2 = v_r461 then
               (G_ringref5_SameCred n v_r245.1 (S_api_Cred.mk 0 0 ([] : (List Int)) 0 0 0)).bind fun (v_r463 : (Bool)) =>
               some v_r463
              else
               some false
    else
     (G_ringlaw5_BoxSays_C1 n v_r105 v_r117 v_r245 v_r346).bind fun v_o388 => match v_o388 with
     | .x0 v_z389 =>
       some v_z389
   else
    some false
  else
   some false
theorem G_ringlaw5_BoxSays_ok (n : Nat) (v_l1 : (List S_box_Range)) (v_n2 : Int) (v_c3 : S_api_Cred) (r : Bool) (h : G_ringlaw5_BoxSays n v_l1 v_n2 v_c3 = some r) : Ret Try.prog 4 [(eL eS_box_Range) v_l1, (eI .i64) v_n2, eS_api_Cred v_c3] (eB r) := by
  refine ret_run (n := 224) (fn := Try.f4) (c := bodyOf Try.f4) (by kernel_rfl) (by kernel_rfl) (by kernel_rfl) (by kernel_rfl) ?_
  have hF : KC 224 (FinR Try.prog Try.f4 (eB r)) := FinR.kc' (by kernel_rfl)
  unfold G_ringlaw5_BoxSays at h
  obtain ⟨v_r104, h99, h⟩ := bind_some h
  by_cases h100 : v_r104 = true
  · rw [if_pos h100] at h
    obtain ⟨v_r105, h101, h⟩ := bind_some h
    obtain ⟨v_r117, h117, h⟩ := bind_some h
    obtain ⟨v_r245, h282, h⟩ := bind_some h
    obtain ⟨v_r256, h289, h⟩ := bind_some h
    obtain ⟨v_r346, h406, h⟩ := bind_some h
    obtain ⟨v_r347, h407, h⟩ := bind_some h
    by_cases h408 : v_r347 = v_r346
    · rw [if_pos h408] at h
      by_cases h445 : v_r346 = 0
      · rw [if_pos h445] at h
        obtain ⟨v_o397, h464, h⟩ := bind_some h
        refine pkk_sound TTok mix hF 34 (hs := [.r (eB v_r104), .t false, .r (.tup [(eI .i64) v_r105.1, (eI .i64) v_r105.2]), .r (.tup [(eI .i64) v_r117.1, (eI .i64) v_r117.2]), .c, .r (.tup [eS_api_Cred v_r245.1, (eI .i64) v_r245.2]), .c, .r ((eL (fun x => PV.agg [.v (.int .i64 (x 0)), .v (.int .i64 (x 1)), .v (.int .i64 (x 2))])) v_r256), .r ((eI .i64) v_r346), .r ((eI .i64) v_r347), .t false, .t false, .u (.d (.v (.int .i64 (v_r256.length : Int)))), .n n]) (ts := [(15, 47, 3)]) (s := [0, 78, 135]) (l := [1, 5, 7, 8, 9, 10, 11, 12, 13, 15, 79, 80, 81]) (by kernel_rfl) (by kernel_rfl) (.cons (G_ringlaw5_boxes_ok n  _ h99) (.cons (bnf h100) (.cons (G_box_To_ok n v_l1 v_n2 _ h101) (.cons (G_box_From_ok n v_l1 v_n2 _ h117) (.cons (G_box_Cred_ok n v_l1 v_c3 _ h282) (.cons (show 0 + 6 ≤ 6 by decide) (.cons (G_ringlaw5_triples_ok n v_l1 _ h289) (.cons (G_ringref5_BoxErr_ok n v_r256 _ h406) (.cons (G_box_Check_ok n v_l1 _ h407) (.cons (nf h408) (.cons (nf h445) (.cons (len_ob (f := (fun x => PV.agg [.v (.int .i64 (x 0)), .v (.int .i64 (x 1)), .v (.int .i64 (x 2))])) (l := v_r256)) .nil)))))))))))) (G_ringlaw5_BoxSays_L2_ok hF (.b 0 :: .s (cR (cR (cR (cR (cR (cR (cR (cR (cR (cR (cR (bodyOf Try.f4)))))))))))) :: []) n v_n2 v_r105 v_r117 v_r245 v_r256 v_c3 n 0 ([] : List (Fin 3 → Int)) _ h464 ?_)
        cases v_o397 with
        | x0 v_z398 =>
          try dsimp only at h
          obtain ⟨v_r410, h474, h⟩ := bind_some h
          obtain ⟨v_o427, h489, h⟩ := bind_some h
          refine pkk_sound TTok mix hF 5 (hs := [.r ((eI .i64) v_r410)]) (ts := []) (s := [0, 1, 2]) (l := [1, 5, 7, 8, 9, 10, 11, 12, 13, 15, 18]) (by kernel_rfl) (by kernel_rfl) (.cons (G_ringref5_BoxTo_ok n v_r256 v_n2 _ h474) .nil) (G_ringlaw5_BoxSays_C3_ok hF (.s (cR (cR (cL (cR (cR (cR (cR (cR (cR (cR (cR (cR (cR (cR (bodyOf Try.f4))))))))))))))) :: .s (cR (cR (cR (cR (cR (cR (cR (cR (cR (cR (cR (cR (bodyOf Try.f4))))))))))))) :: []) n v_n2 v_r105 v_r117 v_r245 v_r256 v_r410 v_c3 v_z398 _ h489 ?_)
          cases v_o427 with
          | x0 v_z428 v_z429 =>
            try dsimp only at h
            by_cases h490 : v_z428 = true
            · rw [if_pos h490] at h
              obtain rfl := Option.some.inj h
              exact pend_sound TTok mix 5 (hs := [.t true]) (by kernel_rfl) (by kernel_rfl) (by kernel_rfl) (.cons h490 .nil)
            · rw [if_neg h490] at h
              obtain ⟨v_r430, h491, h⟩ := bind_some h
              obtain ⟨v_o439, h506, h⟩ := bind_some h
              refine pkk_sound TTok mix hF 6 (hs := [.t false, .c, .r ((eI .i64) v_r430)]) (ts := []) (s := [0, 1]) (l := [5, 9, 10, 11, 12, 13, 19]) (by kernel_rfl) (by kernel_rfl) (.cons (vf h490) (.cons (G_ringref5_BoxTo_ok n v_z429 v_n2 _ h491) .nil)) (G_ringlaw5_BoxSays_C4_ok hF (.s (cR (cR (cL (cR (cR (cR (cR (cR (cR (cR (cR (cR (cR (cR (cR (bodyOf Try.f4)))))))))))))))) :: .s (cR (cR (cR (cR (cR (cR (cR (cR (cR (cR (cR (cR (cR (bodyOf Try.f4)))))))))))))) :: []) n v_r117 v_r245 v_r256 v_r430 v_c3 _ h506 ?_)
              cases v_o439 with
              | x0 v_z440 =>
                try dsimp only at h
                by_cases h507 : v_z440 = true
                · rw [if_pos h507] at h
                  obtain rfl := Option.some.inj h
                  exact pend_sound TTok mix 5 (hs := [.t true]) (by kernel_rfl) (by kernel_rfl) (by kernel_rfl) (.cons h507 .nil)
                · rw [if_neg h507] at h
                  obtain ⟨v_r461, h531, h⟩ := bind_some h
                  by_cases h535 : v_r461 = 0
                  · rw [if_pos h535] at h
                    obtain ⟨v_r464, h538, h⟩ := bind_some h
                    obtain ⟨v_r465, h539, h⟩ := bind_some h
                    obtain ⟨v_o482, h554, h⟩ := bind_some h
                    refine pkk_sound TTok mix hF 19 (hs := [.t false, .c, .r ((eI .i64) v_r461), .t false, .c, .c, .c, .r ((eI .i64) v_r464), .c, .r ((eI .i64) v_r465), .c, .c, .c, .c, .u (.d (.v (.int .i64 (v_c3.fMore.length : Int)))), .dl 1, .tb 20 2 3 1, .n n]) (ts := []) (s := [1, 20, 80]) (l := [11, 12, 13, 20, 173, 174, 175]) (by kernel_rfl) (by kernel_rfl) (.cons (vf h507) (.cons (G_ringref5_CredErr_ok n v_c3 _ h531) (.cons (nf h535) (.cons (show 0 + 6 ≤ 6 by decide) (.cons (G_ringref5_BoxTo_ok n v_r256 v_c3.fUser _ h538) (.cons (G_ringref5_BoxTo_ok n v_r256 v_c3.fGroup _ h539) (.cons (show 0 + 1 ≤ 6 by decide) (.cons (show 1 + 1 ≤ 6 by decide) (.cons (show 2 + 1 ≤ 6 by decide) (.cons (len_ob (f := (eI .i64)) (l := v_c3.fMore)) .nil)))))))))) (G_ringlaw5_BoxSays_L5_ok hF (.b 2 :: .s (cR (cR (cR (cR (cR (cR (cR (cR (cR (cR (cR (cR (cR (cR (cR (cR (cR (bodyOf Try.f4)))))))))))))))))) :: []) n v_r245 v_r256 v_c3 v_r464 v_r465 n 0 ([] : List Int) _ h554 ?_)
                    cases v_o482 with
                    | x0 v_z483 =>
                      try dsimp only at h
                      obtain ⟨v_r484, h555, h⟩ := bind_some h
                      obtain ⟨v_o493, h564, h⟩ := bind_some h
                      refine pkk_sound TTok mix hF 5 (hs := [.c, .h [2] [] [.row 3 1 (v_r484.map (eI .i64))] (.tup [])]) (ts := []) (s := [0, 1, 2]) (l := [11, 12, 20]) (by kernel_rfl) (by kernel_rfl) (.cons (G_slices_Sort_int_int_h_ok n v_z483 _ h555) .nil) (G_ringlaw5_BoxSays_C6_ok hF (.s (cR (cL (cR (cR (cR (cR (cR (cR (cR (cR (cR (cR (cR (cR (cR (cR (cR (cR (cR (cR (bodyOf Try.f4))))))))))))))))))))) :: .s (cR (cR (cR (cR (cR (cR (cR (cR (cR (cR (cR (cR (cR (cR (cR (cR (cR (cR (cR (bodyOf Try.f4)))))))))))))))))))) :: []) n v_r245 v_r464 v_r465 v_c3 v_r484 _ h564 ?_)
                      cases v_o493 with
                      | x0 v_z494 v_z495 =>
                        try dsimp only at h
                        by_cases h568 : v_z494 = true
                        · rw [if_pos h568] at h
                          by_cases h569 : v_r245.2 = 4
                          · rw [if_pos h569] at h
                            obtain ⟨v_r497, h570, h⟩ := bind_some h
                            obtain rfl := Option.some.inj h
                            exact pend_sound TTok mix 5 (hs := [.t true, .t true, .c, .c, .c, .r (eB v_r497)]) (by kernel_rfl) (by kernel_rfl) (by kernel_rfl) (.cons h568 (.cons (bt h569) (.cons (G_ringref5_SameCred_ok n v_r245.1 (S_api_Cred.mk 0 0 ([] : (List Int)) 0 0 0) _ h570) .nil)))
                          · rw [if_neg h569] at h
                            obtain rfl := Option.some.inj h
                            exact pend_sound TTok mix 5 (hs := [.t true, .t false, .c, .c]) (by kernel_rfl) (by kernel_rfl) (by kernel_rfl) (.cons h568 (.cons (bf h569) .nil))
                        · rw [if_neg h568] at h
                          by_cases h571 : v_r245.2 = 0
                          · rw [if_pos h571] at h
                            obtain ⟨v_r498, h572, h⟩ := bind_some h
                            obtain rfl := Option.some.inj h
                            exact pend_sound TTok mix 5 (hs := [.t false, .t true, .c, .c, .c, .c, .c, .r (eB v_r498)]) (by kernel_rfl) (by kernel_rfl) (by kernel_rfl) (.cons (vf h568) (.cons (bt h571) (.cons (G_ringref5_SameCred_ok n v_r245.1 (S_api_Cred.mk v_r464 v_r465 v_z495 v_c3.fCaps v_c3.fLevel v_c3.fKind) _ h572) .nil)))
                          · rw [if_neg h571] at h
                            obtain rfl := Option.some.inj h
                            exact pend_sound TTok mix 5 (hs := [.t false, .t false, .c, .c]) (by kernel_rfl) (by kernel_rfl) (by kernel_rfl) (.cons (vf h568) (.cons (bf h571) .nil))
                  · rw [if_neg h535] at h
                    by_cases h536 : v_r245.2 = v_r461
                    · rw [if_pos h536] at h
                      obtain ⟨v_r463, h537, h⟩ := bind_some h
                      obtain rfl := Option.some.inj h
                      exact pend_sound TTok mix 12 (hs := [.t false, .c, .r ((eI .i64) v_r461), .t true, .t true, .c, .c, .c, .r (eB v_r463)]) (by kernel_rfl) (by kernel_rfl) (by kernel_rfl) (.cons (vf h507) (.cons (G_ringref5_CredErr_ok n v_c3 _ h531) (.cons (nt h535) (.cons (bt h536) (.cons (G_ringref5_SameCred_ok n v_r245.1 (S_api_Cred.mk 0 0 ([] : (List Int)) 0 0 0) _ h537) .nil)))))
                    · rw [if_neg h536] at h
                      obtain rfl := Option.some.inj h
                      exact pend_sound TTok mix 12 (hs := [.t false, .c, .r ((eI .i64) v_r461), .t true, .t false, .c, .c]) (by kernel_rfl) (by kernel_rfl) (by kernel_rfl) (.cons (vf h507) (.cons (G_ringref5_CredErr_ok n v_c3 _ h531) (.cons (nt h535) (.cons (bf h536) .nil))))
      · rw [if_neg h445] at h
        obtain ⟨v_o388, h458, h⟩ := bind_some h
        refine pkk_sound TTok mix hF 27 (hs := [.r (eB v_r104), .t false, .r (.tup [(eI .i64) v_r105.1, (eI .i64) v_r105.2]), .r (.tup [(eI .i64) v_r117.1, (eI .i64) v_r117.2]), .c, .r (.tup [eS_api_Cred v_r245.1, (eI .i64) v_r245.2]), .c, .r ((eL (fun x => PV.agg [.v (.int .i64 (x 0)), .v (.int .i64 (x 1)), .v (.int .i64 (x 2))])) v_r256), .r ((eI .i64) v_r346), .r ((eI .i64) v_r347), .t false, .t true]) (ts := []) (s := [78]) (l := [7, 8, 9, 10, 11, 12, 14]) (by kernel_rfl) (by kernel_rfl) (.cons (G_ringlaw5_boxes_ok n  _ h99) (.cons (bnf h100) (.cons (G_box_To_ok n v_l1 v_n2 _ h101) (.cons (G_box_From_ok n v_l1 v_n2 _ h117) (.cons (G_box_Cred_ok n v_l1 v_c3 _ h282) (.cons (show 0 + 6 ≤ 6 by decide) (.cons (G_ringlaw5_triples_ok n v_l1 _ h289) (.cons (G_ringref5_BoxErr_ok n v_r256 _ h406) (.cons (G_box_Check_ok n v_l1 _ h407) (.cons (nf h408) (.cons (nt h445) .nil))))))))))) (G_ringlaw5_BoxSays_C1_ok hF (.s (cR (cT (cR (cL (cR (cR (cR (cR (cR (cR (cR (cR (bodyOf Try.f4))))))))))))) :: .s (cR (cR (cR (cR (cR (cR (cR (cR (cR (bodyOf Try.f4)))))))))) :: []) n v_r105 v_r117 v_r245 v_r346 _ h458 ?_)
        cases v_o388 with
        | x0 v_z389 =>
          try dsimp only at h
          obtain rfl := Option.some.inj h
          exact pend_sound TTok mix 2 (hs := []) (by kernel_rfl) (by kernel_rfl) (by kernel_rfl) .nil
    · rw [if_neg h408] at h
      obtain rfl := Option.some.inj h
      exact pend_sound TTok mix 25 (hs := [.r (eB v_r104), .t false, .r (.tup [(eI .i64) v_r105.1, (eI .i64) v_r105.2]), .r (.tup [(eI .i64) v_r117.1, (eI .i64) v_r117.2]), .c, .r (.tup [eS_api_Cred v_r245.1, (eI .i64) v_r245.2]), .c, .r ((eL (fun x => PV.agg [.v (.int .i64 (x 0)), .v (.int .i64 (x 1)), .v (.int .i64 (x 2))])) v_r256), .r ((eI .i64) v_r346), .r ((eI .i64) v_r347), .t true]) (by kernel_rfl) (by kernel_rfl) (by kernel_rfl) (.cons (G_ringlaw5_boxes_ok n  _ h99) (.cons (bnf h100) (.cons (G_box_To_ok n v_l1 v_n2 _ h101) (.cons (G_box_From_ok n v_l1 v_n2 _ h117) (.cons (G_box_Cred_ok n v_l1 v_c3 _ h282) (.cons (show 0 + 6 ≤ 6 by decide) (.cons (G_ringlaw5_triples_ok n v_l1 _ h289) (.cons (G_ringref5_BoxErr_ok n v_r256 _ h406) (.cons (G_box_Check_ok n v_l1 _ h407) (.cons (nt h408) .nil))))))))))
  · rw [if_neg h100] at h
    obtain rfl := Option.some.inj h
    exact pend_sound TTok mix 10 (hs := [.r (eB v_r104), .t true]) (by kernel_rfl) (by kernel_rfl) (by kernel_rfl) (.cons (G_ringlaw5_boxes_ok n  _ h99) (.cons (bnt (vf h100)) .nil))
def okS_box_Range (x : S_box_Range) : Prop := (fun a => (Lit.int .i64 a).wf = true) x.fIn ∧ (fun a => (Lit.int .i64 a).wf = true) x.fOut ∧ (fun a => (Lit.int .i64 a).wf = true) x.fN ∧ True
theorem brS_box_Range : Br (.pair (.int .i64) (.pair (.int .i64) (.pair (.int .i64) .unit))) (fun x : S_box_Range => [.v (.int .i64 x.fIn), .v (.int .i64 x.fOut), .v (.int .i64 x.fN)]) okS_box_Range := br_map (br_pair (br_int .i64) (br_pair (br_int .i64) (br_pair (br_int .i64) br_unit))) (fun p => S_box_Range.mk p.1 p.2.1 p.2.2.1) (fun p h => ⟨rfl, h⟩)
def okS_api_Cred (x : S_api_Cred) : Prop := (fun a => (Lit.int .i64 a).wf = true) x.fUser ∧ (fun a => (Lit.int .i64 a).wf = true) x.fGroup ∧ (okL 8 (fun a => (Lit.int .i64 a).wf = true)) x.fMore ∧ (fun a => (Lit.int .i64 a).wf = true) x.fCaps ∧ (fun a => (Lit.int .i64 a).wf = true) x.fLevel ∧ (fun a => (Lit.int .i64 a).wf = true) x.fKind ∧ True
theorem brS_api_Cred : Br (.pair (.int .i64) (.pair (.int .i64) (.pair (.slice 8 (.int .i64)) (.pair (.int .i64) (.pair (.int .i64) (.pair (.int .i64) .unit)))))) (fun x : S_api_Cred => [.v (.int .i64 x.fUser), .v (.int .i64 x.fGroup), .sl (x.fMore.map (eI .i64)), .v (.int .i64 x.fCaps), .v (.int .i64 x.fLevel), .v (.int .i64 x.fKind)]) okS_api_Cred := br_map (br_pair (br_int .i64) (br_pair (br_int .i64) (br_pair (br_slice (f := (eI .i64)) (ok := (fun a => (Lit.int .i64 a).wf = true)) (br_int .i64) (fun _ => rfl) (by decide)) (br_pair (br_int .i64) (br_pair (br_int .i64) (br_pair (br_int .i64) br_unit)))))) (fun p => S_api_Cred.mk p.1 p.2.1 p.2.2.1 p.2.2.2.1 p.2.2.2.2.1 p.2.2.2.2.2.1) (fun p h => ⟨rfl, h⟩)
theorem BoxSays_walk (H : ∀ (a0 : (List S_box_Range)) (a1 : Int) (a2 : S_api_Cred), (okL 24 okS_box_Range) a0 → (fun a => (Lit.int .i64 a).wf = true) a1 → okS_api_Cred a2 → ∃ n, G_ringlaw5_BoxSays n a0 a1 a2 = some true) (w : World) (v0 : Value) (v1 : Value) (v2 : Value) (h0 : rep.Arg w (.slice 24 (.pair (.int .i64) (.pair (.int .i64) (.pair (.int .i64) .unit)))) v0) (h1 : rep.Arg w (.int .i64) v1) (h2 : rep.Arg w (.pair (.int .i64) (.pair (.int .i64) (.pair (.slice 8 (.int .i64)) (.pair (.int .i64) (.pair (.int .i64) (.pair (.int .i64) .unit)))))) v2) : Calls Try.prog 4 #[v0, v1, v2] w (help.Ret (.bool true) w) := by
  obtain ⟨a0, o0, r0⟩ := arg_one (br_slice (f := eS_box_Range) (ok := okS_box_Range) brS_box_Range (fun _ => rfl) (by decide)) (by rfl) h0
  obtain ⟨a1, o1, r1⟩ := arg_one (br_int .i64) (by rfl) h1
  obtain ⟨a2, o2, r2⟩ := arg_agg brS_api_Cred (by rfl) h2
  obtain ⟨n, hn⟩ := H a0 a1 a2 o0 o1 o2
  exact walk_of (G_ringlaw5_BoxSays_ok n a0 a1 a2 true hn) (RT_cons r0 (RT_cons r1 (RT_cons r2 RT_nil)))
/- FRAME BoxSays; ringhall/ringlaw5.BoxSays; (.slice 24 (.pair (.int .i64) (.pair (.int .i64) (.pair (.int .i64) .unit)))) | (.int .i64) | (.pair (.int .i64) (.pair (.int .i64) (.pair (.slice 8 (.int .i64)) (.pair (.int .i64) (.pair (.int .i64) (.pair (.int .i64) .unit)))))); .slice none 0 0 | .int .i64 0 | .agg #[.int .i64 0, .int .i64 0, .slice none 0 0, .int .i64 0, .int .i64 0, .int .i64 0] -/
end Go.Proofs.Ytjjjaakefnnbpaa.pv
