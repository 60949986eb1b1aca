/- What the functions compute (part 2): written by gen.py. -/
import Derived.Test.YtjjjaakefnnbpaaGuCredSaysP1
set_option maxRecDepth 100000
set_option linter.all false
namespace Go.Proofs.Ytjjjaakefnnbpaa.pv
open Go.RowKit
def G_ringlaw5_CredSays_C14_hd (v_n2 : Int) (v_r51 : (Bool × Int)) (v_r65 : (S_api_Cred × Int)) (v_r71 : (S_api_Cred × Int)) (v_r149 : (S_api_Cred × Int)) (v_r233 : (Bool)) (v_z426 : Int) (v_c1 : S_api_Cred)  : PS := ⟨[dd, .d (.v (.int .i64 v_n2)), .ref 0 0, dd, dd, dd, dd, .d (.v (.bool v_r51.1)), .d (.v (.int .i64 v_r51.2)), .ref 1 0, .d (.v (.int .i64 v_r65.2)), .ref 2 0, .d (.v (.int .i64 v_r71.2)), .ref 3 0, .d (.v (.int .i64 v_r149.2)), dd, dd, .d (.v (.bool v_r233)), .ref 4 0, .ref 5 0, .ref 6 0, .d (.v (.int .i64 v_z426)), .d (.v (.int .i64 0)), .d (.v (.int .i64 0)), dd, dd, dd, dd, dd, dd, dd, dd, dd, dd, dd, dd, dd, dd, dd, dd, dd, dd, dd, dd, dd, dd, dd, dd, dd, dd, dd, dd, dd, dd, dd, dd, dd, dd, dd, dd, dd, dd, dd, dd, dd, dd, dd, dd, dd, dd, dd, dd, dd, dd, dd, dd, dd, dd, dd, dd, dd, dd, dd, dd, dd, dd, dd, dd, dd, dd, dd, dd, dd, dd, dd, dd, dd, dd, dd, dd, dd, dd, dd, dd, dd, dd, dd, dd, dd, dd, dd, dd, dd, dd, dd, dd, dd, dd, dd, dd, dd, dd, dd, dd, dd, dd, dd, dd, dd, dd, dd, dd, dd, dd, dd, dd, dd, dd, dd, dd, dd, dd, dd, dd, dd, dd, dd, dd, dd, dd, dd, dd, dd, dd, dd, dd, dd, dd, dd, dd, dd, dd, dd, dd, dd, dd, dd, dd, dd, dd, dd, dd, dd, dd, dd, dd, dd, dd, dd, dd, dd, dd, dd, dd, dd, dd, dd, dd, dd, dd, dd, dd, dd, dd, dd, dd, dd, dd, dd, dd, dd, dd, dd, dd, dd, dd, dd, dd, dd, dd, dd, dd, dd, dd, dd, dd, dd, dd, dd, dd, dd, dd, dd, dd, dd, dd, dd, dd, dd, dd, dd, dd, dd], [.box [.d (.v (.int .i64 v_c1.fUser)), .d (.v (.int .i64 v_c1.fGroup)), .d (.sl (v_c1.fMore.map (eI .i64))), .d (.v (.int .i64 v_c1.fCaps)), .d (.v (.int .i64 v_c1.fLevel)), .d (.v (.int .i64 v_c1.fKind))], .box [.d (.v (.int .i64 v_r65.1.fUser)), .d (.v (.int .i64 v_r65.1.fGroup)), .d (.sl (v_r65.1.fMore.map (eI .i64))), .d (.v (.int .i64 v_r65.1.fCaps)), .d (.v (.int .i64 v_r65.1.fLevel)), .d (.v (.int .i64 v_r65.1.fKind))], .box [.d (.v (.int .i64 v_r71.1.fUser)), .d (.v (.int .i64 v_r71.1.fGroup)), .d (.sl (v_r71.1.fMore.map (eI .i64))), .d (.v (.int .i64 v_r71.1.fCaps)), .d (.v (.int .i64 v_r71.1.fLevel)), .d (.v (.int .i64 v_r71.1.fKind))], .box [.d (.v (.int .i64 v_r149.1.fUser)), .d (.v (.int .i64 v_r149.1.fGroup)), .d (.sl (v_r149.1.fMore.map (eI .i64))), .d (.v (.int .i64 v_r149.1.fCaps)), .d (.v (.int .i64 v_r149.1.fLevel)), .d (.v (.int .i64 v_r149.1.fKind))], .box [.d (.v (.int .i64 v_c1.fUser)), .d (.v (.int .i64 v_c1.fGroup)), .d (.sl (v_c1.fMore.map (eI .i64))), .d (.v (.int .i64 v_c1.fCaps)), .d (.v (.int .i64 v_c1.fLevel)), .d (.v (.int .i64 v_c1.fKind))], .box [.d (.v (.int .i64 v_c1.fUser)), .d (.v (.int .i64 v_c1.fGroup)), .d (.sl (v_c1.fMore.map (eI .i64))), .d (.v (.int .i64 v_c1.fCaps)), .d (.v (.int .i64 v_c1.fLevel)), .d (.v (.int .i64 v_c1.fKind))], .box [.d (.v (.int .i64 v_c1.fUser)), .d (.v (.int .i64 v_c1.fGroup)), .d (.sl (v_c1.fMore.map (eI .i64))), .d (.v (.int .i64 v_c1.fCaps)), .d (.v (.int .i64 v_c1.fLevel)), .d (.v (.int .i64 v_c1.fKind))]]⟩
def G_ringlaw5_CredSays_C14 (n : Nat) (v_n2 : Int) (v_r51 : (Bool × Int)) (v_r65 : (S_api_Cred × Int)) (v_r71 : (S_api_Cred × Int)) (v_r149 : (S_api_Cred × Int)) (v_r233 : (Bool)) (v_z426 : Int) (v_c1 : S_api_Cred) : Option G_ringlaw5_CredSays_C14_R :=
  if v_n2 < 0 then
   some (.x0 1 1)
  else
   (G_ringlaw5_CredSays_C13 n v_n2 v_r51 v_r65 v_r71 v_r149 v_r233 v_z426 v_c1).bind fun v_o473 => match v_o473 with
   | .x0 v_z474 v_z475 =>
     some (.x0 v_z474 v_z475)
   | .x1 v_z478 v_z479 v_z480 =>
     some (.x1 v_z478 v_z479 v_z480)
theorem G_ringlaw5_CredSays_C14_ok {Fi : Ex → PS → Prop} (hF : KC 233 Fi) (ks : List Fr) (n : Nat) (v_n2 : Int) (v_r51 : (Bool × Int)) (v_r65 : (S_api_Cred × Int)) (v_r71 : (S_api_Cred × Int)) (v_r149 : (S_api_Cred × Int)) (v_r233 : (Bool)) (v_z426 : Int) (v_c1 : S_api_Cred)  (o : G_ringlaw5_CredSays_C14_R) (h : G_ringlaw5_CredSays_C14 n v_n2 v_r51 v_r65 v_r71 v_r149 v_r233 v_z426 v_c1 = some o) (q : RunE Try.prog 233 Fi ks (G_ringlaw5_CredSays_C14_ex o) (G_ringlaw5_CredSays_C14_st v_n2 v_r51 v_r65 v_r71 v_r149 v_r233 v_z426 v_c1 o)) : RunE Try.prog 233 Fi (.s (cL (cR (cR (cR (cR (cR (cR (cR (cR (cR (cR (cR (cR (cR (cR (cR (bodyOf Try.f3))))))))))))))))) :: ks) .normal (G_ringlaw5_CredSays_C14_hd v_n2 v_r51 v_r65 v_r71 v_r149 v_r233 v_z426 v_c1) := by
  unfold G_ringlaw5_CredSays_C14 at h
  by_cases h506 : v_n2 < 0
  · rw [if_pos h506] at h
    cases h
    exact pkk_sound TTok mix hF 6 (hs := [.t true, .c, .c]) (ts := []) (s := [0, 1, 2, 3, 4, 5, 6]) (l := [1, 2, 7, 8, 9, 10, 11, 12, 13, 14, 18, 19, 20, 21, 22, 23]) (by kernel_rfl) (by kernel_rfl) (.cons (dt h506) .nil) q
  · rw [if_neg h506] at h
    obtain ⟨v_o473, h529, h⟩ := bind_some h
    refine pkk_sound TTok mix hF 3 (hs := [.t false, .c]) (ts := []) (s := [0, 1, 2, 3, 4, 5, 6]) (l := [1, 2, 7, 8, 9, 10, 11, 12, 13, 14, 17, 18, 19, 20, 21, 22, 23, 137]) (by kernel_rfl) (by kernel_rfl) (.cons (df h506) .nil) (G_ringlaw5_CredSays_C13_ok hF (.b 0 :: ks) n v_n2 v_r51 v_r65 v_r71 v_r149 v_r233 v_z426 v_c1 _ h529 ?_)
    cases v_o473 with
    | x0 v_z474 v_z475 =>
      try dsimp only at h
      cases h
      exact pkk_sound TTok mix hF 1 (hs := []) (ts := []) (s := [0, 1, 2, 3, 4, 5, 6]) (l := [1, 2, 7, 8, 9, 10, 11, 12, 13, 14, 18, 19, 20, 21, 22, 23]) (by kernel_rfl) (by kernel_rfl) .nil q
    | x1 v_z478 v_z479 v_z480 =>
      try dsimp only at h
      cases h
      exact pkk_sound TTok mix hF 1 (hs := []) (ts := []) (s := [0, 1, 2, 3, 4, 5, 6, 7]) (l := [1, 2, 7, 8, 9, 10, 11, 12, 13, 14, 18, 19, 20, 21, 22, 23]) (by kernel_rfl) (by kernel_rfl) .nil q
inductive G_ringlaw5_CredSays_C15_R where
  | x0 (v_x487 : Bool)
def G_ringlaw5_CredSays_C15_ex : G_ringlaw5_CredSays_C15_R → Ex
  | .x0 _ => .normal
def G_ringlaw5_CredSays_C15_st (v_n2 : Int) (v_r51 : (Bool × Int)) (v_r65 : (S_api_Cred × Int)) (v_r71 : (S_api_Cred × Int)) (v_r149 : (S_api_Cred × Int)) (v_z426 : Int) (v_z485 : Int) (v_z486 : Int) (v_c1 : S_api_Cred) : G_ringlaw5_CredSays_C15_R → PS
  | .x0 v_x487 => ⟨[dd, dd, dd, dd, dd, dd, dd, dd, dd, .ref 0 0, dd, .ref 1 0, dd, .ref 2 0, dd, dd, dd, dd, .ref 3 0, .ref 4 0, .ref 5 0, .d (.v (.int .i64 v_z426)), .d (.v (.int .i64 v_z485)), .d (.v (.int .i64 v_z486)), dd, dd, dd, dd, dd, dd, dd, dd, dd, dd, dd, dd, dd, dd, dd, dd, dd, dd, dd, dd, dd, dd, dd, dd, dd, dd, dd, dd, dd, dd, dd, dd, dd, dd, dd, dd, dd, dd, dd, dd, dd, dd, dd, dd, dd, dd, dd, dd, dd, dd, dd, dd, dd, dd, dd, dd, dd, dd, dd, dd, dd, dd, dd, dd, dd, dd, dd, dd, dd, dd, dd, dd, dd, dd, dd, dd, dd, dd, dd, dd, dd, dd, dd, dd, dd, dd, dd, dd, dd, dd, dd, dd, dd, dd, dd, dd, dd, dd, dd, dd, dd, dd, dd, dd, dd, dd, dd, dd, dd, dd, dd, dd, dd, dd, dd, dd, dd, dd, dd, dd, dd, dd, dd, dd, dd, dd, dd, dd, dd, dd, dd, dd, dd, dd, dd, dd, dd, dd, dd, dd, dd, dd, dd, dd, dd, dd, dd, dd, dd, dd, dd, dd, dd, dd, dd, dd, dd, dd, dd, dd, dd, dd, dd, dd, dd, dd, dd, dd, dd, dd, dd, dd, dd, dd, dd, dd, dd, dd, dd, dd, dd, dd, dd, dd, dd, dd, dd, dd, dd, .d (.v (.bool v_x487)), dd, dd, dd, dd, dd, dd, dd, dd, dd, dd, dd, dd, dd, dd, dd, dd, dd, dd, dd], [.box [.d (.v (.int .i64 v_r65.1.fUser)), .d (.v (.int .i64 v_r65.1.fGroup)), .d (.sl (v_r65.1.fMore.map (eI .i64))), .d (.v (.int .i64 v_r65.1.fCaps)), .d (.v (.int .i64 v_r65.1.fLevel)), .d (.v (.int .i64 v_r65.1.fKind))], .box [.d (.v (.int .i64 v_r71.1.fUser)), .d (.v (.int .i64 v_r71.1.fGroup)), .d (.sl (v_r71.1.fMore.map (eI .i64))), .d (.v (.int .i64 v_r71.1.fCaps)), .d (.v (.int .i64 v_r71.1.fLevel)), .d (.v (.int .i64 v_r71.1.fKind))], .box [.d (.v (.int .i64 v_r149.1.fUser)), .d (.v (.int .i64 v_r149.1.fGroup)), .d (.sl (v_r149.1.fMore.map (eI .i64))), .d (.v (.int .i64 v_r149.1.fCaps)), .d (.v (.int .i64 v_r149.1.fLevel)), .d (.v (.int .i64 v_r149.1.fKind))], .box [.d (.v (.int .i64 v_c1.fUser)), .d (.v (.int .i64 v_c1.fGroup)), .d (.sl (v_c1.fMore.map (eI .i64))), .d (.v (.int .i64 v_c1.fCaps)), .d (.v (.int .i64 v_c1.fLevel)), .d (.v (.int .i64 v_c1.fKind))], .box [.d (.v (.int .i64 v_n2)), .d (.v (.int .i64 v_c1.fGroup)), .d (.sl (v_c1.fMore.map (eI .i64))), .d (.v (.int .i64 0)), .d (.v (.int .i64 v_c1.fLevel)), .d (.v (.int .i64 v_c1.fKind))], .box [.d (.v (.int .i64 v_c1.fUser)), .d (.v (.int .i64 v_c1.fGroup)), .d (.sl (v_c1.fMore.map (eI .i64))), .d (.v (.int .i64 v_c1.fCaps)), .d (.v (.int .i64 v_c1.fLevel)), .d (.v (.int .i64 v_c1.fKind))]]⟩
def G_ringlaw5_CredSays_C15_hd (v_n2 : Int) (v_r51 : (Bool × Int)) (v_r65 : (S_api_Cred × Int)) (v_r71 : (S_api_Cred × Int)) (v_r149 : (S_api_Cred × Int)) (v_z426 : Int) (v_z485 : Int) (v_z486 : Int) (v_c1 : S_api_Cred)  : PS := ⟨[dd, .d (.v (.int .i64 v_n2)), .ref 0 0, dd, dd, dd, dd, .d (.v (.bool v_r51.1)), .d (.v (.int .i64 v_r51.2)), .ref 1 0, .d (.v (.int .i64 v_r65.2)), .ref 2 0, .d (.v (.int .i64 v_r71.2)), .ref 3 0, .d (.v (.int .i64 v_r149.2)), dd, dd, dd, .ref 4 0, .ref 5 0, .ref 6 0, .d (.v (.int .i64 v_z426)), .d (.v (.int .i64 v_z485)), .d (.v (.int .i64 v_z486)), dd, dd, dd, dd, dd, dd, dd, dd, dd, dd, dd, dd, dd, dd, dd, dd, dd, dd, dd, dd, dd, dd, dd, dd, dd, dd, dd, dd, dd, dd, dd, dd, dd, dd, dd, dd, dd, dd, dd, dd, dd, dd, dd, dd, dd, dd, dd, dd, dd, dd, dd, dd, dd, dd, dd, dd, dd, dd, dd, dd, dd, dd, dd, dd, dd, dd, dd, dd, dd, dd, dd, dd, dd, dd, dd, dd, dd, dd, dd, dd, dd, dd, dd, dd, dd, dd, dd, dd, dd, dd, dd, dd, dd, dd, dd, dd, dd, dd, dd, dd, dd, dd, dd, dd, dd, dd, dd, dd, dd, dd, dd, dd, dd, dd, dd, dd, dd, dd, dd, dd, dd, dd, dd, dd, dd, dd, dd, dd, dd, dd, dd, dd, dd, dd, dd, dd, dd, dd, dd, dd, dd, dd, dd, dd, dd, dd, dd, dd, dd, dd, dd, dd, dd, dd, dd, dd, dd, dd, dd, dd, dd, dd, dd, dd, dd, dd, dd, dd, dd, dd, dd, dd, dd, dd, dd, dd, dd, dd, dd, dd, dd, dd, dd, dd, dd, dd, dd, dd, dd, dd, dd, dd, dd, dd, dd, dd, dd, dd, dd, dd, dd, dd, dd, dd, dd, dd, dd, dd, dd], [.box [.d (.v (.int .i64 v_c1.fUser)), .d (.v (.int .i64 v_c1.fGroup)), .d (.sl (v_c1.fMore.map (eI .i64))), .d (.v (.int .i64 v_c1.fCaps)), .d (.v (.int .i64 v_c1.fLevel)), .d (.v (.int .i64 v_c1.fKind))], .box [.d (.v (.int .i64 v_r65.1.fUser)), .d (.v (.int .i64 v_r65.1.fGroup)), .d (.sl (v_r65.1.fMore.map (eI .i64))), .d (.v (.int .i64 v_r65.1.fCaps)), .d (.v (.int .i64 v_r65.1.fLevel)), .d (.v (.int .i64 v_r65.1.fKind))], .box [.d (.v (.int .i64 v_r71.1.fUser)), .d (.v (.int .i64 v_r71.1.fGroup)), .d (.sl (v_r71.1.fMore.map (eI .i64))), .d (.v (.int .i64 v_r71.1.fCaps)), .d (.v (.int .i64 v_r71.1.fLevel)), .d (.v (.int .i64 v_r71.1.fKind))], .box [.d (.v (.int .i64 v_r149.1.fUser)), .d (.v (.int .i64 v_r149.1.fGroup)), .d (.sl (v_r149.1.fMore.map (eI .i64))), .d (.v (.int .i64 v_r149.1.fCaps)), .d (.v (.int .i64 v_r149.1.fLevel)), .d (.v (.int .i64 v_r149.1.fKind))], .box [.d (.v (.int .i64 v_c1.fUser)), .d (.v (.int .i64 v_c1.fGroup)), .d (.sl (v_c1.fMore.map (eI .i64))), .d (.v (.int .i64 v_c1.fCaps)), .d (.v (.int .i64 v_c1.fLevel)), .d (.v (.int .i64 v_c1.fKind))], .box [.d (.v (.int .i64 v_n2)), .d (.v (.int .i64 v_c1.fGroup)), .d (.sl (v_c1.fMore.map (eI .i64))), .d (.v (.int .i64 0)), .d (.v (.int .i64 v_c1.fLevel)), .d (.v (.int .i64 v_c1.fKind))], .box [.d (.v (.int .i64 v_c1.fUser)), .d (.v (.int .i64 v_c1.fGroup)), .d (.sl (v_c1.fMore.map (eI .i64))), .d (.v (.int .i64 v_c1.fCaps)), .d (.v (.int .i64 v_c1.fLevel)), .d (.v (.int .i64 v_c1.fKind))]]⟩
def G_ringlaw5_CredSays_C15 (n : Nat) (v_n2 : Int) (v_r51 : (Bool × Int)) (v_r65 : (S_api_Cred × Int)) (v_r71 : (S_api_Cred × Int)) (v_r149 : (S_api_Cred × Int)) (v_z426 : Int) (v_z485 : Int) (v_z486 : Int) (v_c1 : S_api_Cred) : Option G_ringlaw5_CredSays_C15_R :=
  if v_r51.2 = v_z426 then
   if v_z426 = 0 then
    if (eqRes .neq (v_r51.1 == (v_c1.fCaps == (wi .i64 (v_c1.fCaps - v_n2))))) = true then
     some (.x0 true)
    else
     if v_r65.2 = v_z426 then
      if v_r71.2 = v_z485 then
       some (.x0 (v_r149.2 != v_z486))
      else
       some (.x0 true)
     else
      some (.x0 true)
   else
    if (eqRes .neq (v_r51.1 == false)) = true then
     some (.x0 true)
    else
     if v_r65.2 = v_z426 then
      if v_r71.2 = v_z485 then
       some (.x0 (v_r149.2 != v_z486))
      else
       some (.x0 true)
     else
      some (.x0 true)
  else
   some (.x0 true)
theorem G_ringlaw5_CredSays_C15_ok {Fi : Ex → PS → Prop} (hF : KC 233 Fi) (ks : List Fr) (n : Nat) (v_n2 : Int) (v_r51 : (Bool × Int)) (v_r65 : (S_api_Cred × Int)) (v_r71 : (S_api_Cred × Int)) (v_r149 : (S_api_Cred × Int)) (v_z426 : Int) (v_z485 : Int) (v_z486 : Int) (v_c1 : S_api_Cred)  (o : G_ringlaw5_CredSays_C15_R) (h : G_ringlaw5_CredSays_C15 n v_n2 v_r51 v_r65 v_r71 v_r149 v_z426 v_z485 v_z486 v_c1 = some o) (q : RunE Try.prog 233 Fi ks (G_ringlaw5_CredSays_C15_ex o) (G_ringlaw5_CredSays_C15_st v_n2 v_r51 v_r65 v_r71 v_r149 v_z426 v_z485 v_z486 v_c1 o)) : RunE Try.prog 233 Fi (.s (cL (cL (cR (cR (cR (cR (cR (cR (cR (cR (cR (cR (cR (cR (cR (cR (cR (cR (cR (bodyOf Try.f3)))))))))))))))))))) :: ks) .normal (G_ringlaw5_CredSays_C15_hd v_n2 v_r51 v_r65 v_r71 v_r149 v_z426 v_z485 v_z486 v_c1) := by
  unfold G_ringlaw5_CredSays_C15 at h
  by_cases h540 : v_r51.2 = v_z426
  · rw [if_pos h540] at h
    by_cases h541 : v_z426 = 0
    · rw [if_pos h541] at h
      by_cases h542 : (eqRes .neq (v_r51.1 == (v_c1.fCaps == (wi .i64 (v_c1.fCaps - v_n2))))) = true
      · rw [if_pos h542] at h
        cases h
        exact pkk_sound TTok mix hF 1 (hs := [.t false, .c, .c, .c, .t true, .c, .c, .c, .c, .c, .c, .c, .c, .c, .c, .t true, .c, .c, .c, .c, .c, .c, .c, .c]) (ts := []) (s := [1, 2, 3, 4, 5, 6]) (l := [9, 11, 13, 18, 19, 20, 21, 22, 23, 213]) (by kernel_rfl) (by kernel_rfl) (.cons (nf h540) (.cons (bt h541) (.cons h542 .nil))) q
      · rw [if_neg h542] at h
        by_cases h543 : v_r65.2 = v_z426
        · rw [if_pos h543] at h
          by_cases h544 : v_r71.2 = v_z485
          · rw [if_pos h544] at h
            cases h
            exact pkk_sound TTok mix hF 1 (hs := [.t false, .c, .c, .c, .t true, .c, .c, .c, .c, .c, .c, .c, .c, .c, .c, .t false, .c, .c, .t false, .c, .c, .t false, .c, .c]) (ts := []) (s := [1, 2, 3, 4, 5, 6]) (l := [9, 11, 13, 18, 19, 20, 21, 22, 23, 213]) (by kernel_rfl) (by kernel_rfl) (.cons (nf h540) (.cons (bt h541) (.cons (vf h542) (.cons (nf h543) (.cons (nf h544) .nil))))) q
          · rw [if_neg h544] at h
            cases h
            exact pkk_sound TTok mix hF 1 (hs := [.t false, .c, .c, .c, .t true, .c, .c, .c, .c, .c, .c, .c, .c, .c, .c, .t false, .c, .c, .t false, .c, .c, .t true, .c, .c]) (ts := []) (s := [1, 2, 3, 4, 5, 6]) (l := [9, 11, 13, 18, 19, 20, 21, 22, 23, 213]) (by kernel_rfl) (by kernel_rfl) (.cons (nf h540) (.cons (bt h541) (.cons (vf h542) (.cons (nf h543) (.cons (nt h544) .nil))))) q
        · rw [if_neg h543] at h
          cases h
          exact pkk_sound TTok mix hF 1 (hs := [.t false, .c, .c, .c, .t true, .c, .c, .c, .c, .c, .c, .c, .c, .c, .c, .t false, .c, .c, .t true, .c, .c, .c, .c, .c]) (ts := []) (s := [1, 2, 3, 4, 5, 6]) (l := [9, 11, 13, 18, 19, 20, 21, 22, 23, 213]) (by kernel_rfl) (by kernel_rfl) (.cons (nf h540) (.cons (bt h541) (.cons (vf h542) (.cons (nt h543) .nil)))) q
    · rw [if_neg h541] at h
      by_cases h545 : (eqRes .neq (v_r51.1 == false)) = true
      · rw [if_pos h545] at h
        cases h
        exact pkk_sound TTok mix hF 1 (hs := [.t false, .c, .c, .c, .t false, .c, .c, .c, .c, .c, .c, .c, .c, .t true, .c, .c, .c, .c, .c, .c, .c, .c]) (ts := []) (s := [1, 2, 3, 4, 5, 6]) (l := [9, 11, 13, 18, 19, 20, 21, 22, 23, 213]) (by kernel_rfl) (by kernel_rfl) (.cons (nf h540) (.cons (bf h541) (.cons h545 .nil))) q
      · rw [if_neg h545] at h
        by_cases h546 : v_r65.2 = v_z426
        · rw [if_pos h546] at h
          by_cases h547 : v_r71.2 = v_z485
          · rw [if_pos h547] at h
            cases h
            exact pkk_sound TTok mix hF 1 (hs := [.t false, .c, .c, .c, .t false, .c, .c, .c, .c, .c, .c, .c, .c, .t false, .c, .c, .t false, .c, .c, .t false, .c, .c]) (ts := []) (s := [1, 2, 3, 4, 5, 6]) (l := [9, 11, 13, 18, 19, 20, 21, 22, 23, 213]) (by kernel_rfl) (by kernel_rfl) (.cons (nf h540) (.cons (bf h541) (.cons (vf h545) (.cons (nf h546) (.cons (nf h547) .nil))))) q
          · rw [if_neg h547] at h
            cases h
            exact pkk_sound TTok mix hF 1 (hs := [.t false, .c, .c, .c, .t false, .c, .c, .c, .c, .c, .c, .c, .c, .t false, .c, .c, .t false, .c, .c, .t true, .c, .c]) (ts := []) (s := [1, 2, 3, 4, 5, 6]) (l := [9, 11, 13, 18, 19, 20, 21, 22, 23, 213]) (by kernel_rfl) (by kernel_rfl) (.cons (nf h540) (.cons (bf h541) (.cons (vf h545) (.cons (nf h546) (.cons (nt h547) .nil))))) q
        · rw [if_neg h546] at h
          cases h
          exact pkk_sound TTok mix hF 1 (hs := [.t false, .c, .c, .c, .t false, .c, .c, .c, .c, .c, .c, .c, .c, .t false, .c, .c, .t true, .c, .c, .c, .c, .c]) (ts := []) (s := [1, 2, 3, 4, 5, 6]) (l := [9, 11, 13, 18, 19, 20, 21, 22, 23, 213]) (by kernel_rfl) (by kernel_rfl) (.cons (nf h540) (.cons (bf h541) (.cons (vf h545) (.cons (nt h546) .nil)))) q
  · rw [if_neg h540] at h
    cases h
    exact pkk_sound TTok mix hF 1 (hs := [.t true, .c, .c, .c, .c, .c, .c, .c, .c, .c, .c, .c, .c, .c, .c]) (ts := []) (s := [1, 2, 3, 4, 5, 6]) (l := [9, 11, 13, 18, 19, 20, 21, 22, 23, 213]) (by kernel_rfl) (by kernel_rfl) (.cons (nt h540) .nil) q
inductive G_ringlaw5_CredSays_C16_R where
  | x0 (v_x510 : Bool)
def G_ringlaw5_CredSays_C16_ex : G_ringlaw5_CredSays_C16_R → Ex
  | .x0 _ => .normal
def G_ringlaw5_CredSays_C16_st (v_z426 : Int) (v_z485 : Int) (v_z486 : Int) (v_r65 : (S_api_Cred × Int)) (v_r71 : (S_api_Cred × Int)) (v_r149 : (S_api_Cred × Int)) (v_c1 : S_api_Cred) (v_n2 : Int) : G_ringlaw5_CredSays_C16_R → PS
  | .x0 v_x510 => ⟨[dd, dd, dd, dd, .d (.v (.bool v_x510)), dd, dd, dd, dd, dd, dd, dd, dd, dd, dd, dd, dd, dd, dd, dd, dd, dd, dd, dd, dd, dd, dd, dd, dd, dd, dd, dd, dd, dd, dd, dd, dd, dd, dd, dd, dd, dd, dd, dd, dd, dd, dd, dd, dd, dd, dd, dd, dd, dd, dd, dd, dd, dd, dd, dd, dd, dd, dd, dd, dd, dd, dd, dd, dd, dd, dd, dd, dd, dd, dd, dd, dd, dd, dd, dd, dd, dd, dd, dd, dd, dd, dd, dd, dd, dd, dd, dd, dd, dd, dd, dd, dd, dd, dd, dd, dd, dd, dd, dd, dd, dd, dd, dd, dd, dd, dd, dd, dd, dd, dd, dd, dd, dd, dd, dd, dd, dd, dd, dd, dd, dd, dd, dd, dd, dd, dd, dd, dd, dd, dd, dd, dd, dd, dd, dd, dd, dd, dd, dd, dd, dd, dd, dd, dd, dd, dd, dd, dd, dd, dd, dd, dd, dd, dd, dd, dd, dd, dd, dd, dd, dd, dd, dd, dd, dd, dd, dd, dd, dd, dd, dd, dd, dd, dd, dd, dd, dd, dd, dd, dd, dd, dd, dd, dd, dd, dd, dd, dd, dd, dd, dd, dd, dd, dd, dd, dd, dd, dd, dd, dd, dd, dd, dd, dd, dd, dd, dd, dd, dd, dd, dd, dd, dd, dd, dd, dd, dd, dd, dd, dd, dd, dd, dd, dd, dd, dd, dd, dd], []⟩
def G_ringlaw5_CredSays_C16_hd (v_z426 : Int) (v_z485 : Int) (v_z486 : Int) (v_r65 : (S_api_Cred × Int)) (v_r71 : (S_api_Cred × Int)) (v_r149 : (S_api_Cred × Int)) (v_c1 : S_api_Cred) (v_n2 : Int)  : PS := ⟨[dd, dd, dd, dd, dd, dd, dd, dd, dd, .ref 0 0, dd, .ref 1 0, dd, .ref 2 0, dd, dd, dd, dd, .ref 3 0, .ref 4 0, .ref 5 0, .d (.v (.int .i64 v_z426)), .d (.v (.int .i64 v_z485)), .d (.v (.int .i64 v_z486)), dd, dd, dd, dd, dd, dd, dd, dd, dd, dd, dd, dd, dd, dd, dd, dd, dd, dd, dd, dd, dd, dd, dd, dd, dd, dd, dd, dd, dd, dd, dd, dd, dd, dd, dd, dd, dd, dd, dd, dd, dd, dd, dd, dd, dd, dd, dd, dd, dd, dd, dd, dd, dd, dd, dd, dd, dd, dd, dd, dd, dd, dd, dd, dd, dd, dd, dd, dd, dd, dd, dd, dd, dd, dd, dd, dd, dd, dd, dd, dd, dd, dd, dd, dd, dd, dd, dd, dd, dd, dd, dd, dd, dd, dd, dd, dd, dd, dd, dd, dd, dd, dd, dd, dd, dd, dd, dd, dd, dd, dd, dd, dd, dd, dd, dd, dd, dd, dd, dd, dd, dd, dd, dd, dd, dd, dd, dd, dd, dd, dd, dd, dd, dd, dd, dd, dd, dd, dd, dd, dd, dd, dd, dd, dd, dd, dd, dd, dd, dd, dd, dd, dd, dd, dd, dd, dd, dd, dd, dd, dd, dd, dd, dd, dd, dd, dd, dd, dd, dd, dd, dd, dd, dd, dd, dd, dd, dd, dd, dd, dd, dd, dd, dd, dd, dd, dd, dd, dd, dd, dd, dd, dd, dd, dd, dd, dd, dd, dd, dd, dd, dd, dd, dd, dd, dd, dd, dd, dd, dd], [.box [.d (.v (.int .i64 v_r65.1.fUser)), .d (.v (.int .i64 v_r65.1.fGroup)), .d (.sl (v_r65.1.fMore.map (eI .i64))), .d (.v (.int .i64 v_r65.1.fCaps)), .d (.v (.int .i64 v_r65.1.fLevel)), .d (.v (.int .i64 v_r65.1.fKind))], .box [.d (.v (.int .i64 v_r71.1.fUser)), .d (.v (.int .i64 v_r71.1.fGroup)), .d (.sl (v_r71.1.fMore.map (eI .i64))), .d (.v (.int .i64 v_r71.1.fCaps)), .d (.v (.int .i64 v_r71.1.fLevel)), .d (.v (.int .i64 v_r71.1.fKind))], .box [.d (.v (.int .i64 v_r149.1.fUser)), .d (.v (.int .i64 v_r149.1.fGroup)), .d (.sl (v_r149.1.fMore.map (eI .i64))), .d (.v (.int .i64 v_r149.1.fCaps)), .d (.v (.int .i64 v_r149.1.fLevel)), .d (.v (.int .i64 v_r149.1.fKind))], .box [.d (.v (.int .i64 v_c1.fUser)), .d (.v (.int .i64 v_c1.fGroup)), .d (.sl (v_c1.fMore.map (eI .i64))), .d (.v (.int .i64 v_c1.fCaps)), .d (.v (.int .i64 v_c1.fLevel)), .d (.v (.int .i64 v_c1.fKind))], .box [.d (.v (.int .i64 v_n2)), .d (.v (.int .i64 v_c1.fGroup)), .d (.sl (v_c1.fMore.map (eI .i64))), .d (.v (.int .i64 0)), .d (.v (.int .i64 v_c1.fLevel)), .d (.v (.int .i64 v_c1.fKind))], .box [.d (.v (.int .i64 v_c1.fUser)), .d (.v (.int .i64 v_c1.fGroup)), .d (.sl (v_c1.fMore.map (eI .i64))), .d (.v (.int .i64 v_c1.fCaps)), .d (.v (.int .i64 v_c1.fLevel)), .d (.v (.int .i64 v_c1.fKind))]]⟩
def G_ringlaw5_CredSays_C16 (n : Nat) (v_z426 : Int) (v_z485 : Int) (v_z486 : Int) (v_r65 : (S_api_Cred × Int)) (v_r71 : (S_api_Cred × Int)) (v_r149 : (S_api_Cred × Int)) (v_c1 : S_api_Cred) (v_n2 : Int) : Option G_ringlaw5_CredSays_C16_R :=
  (G_ringlaw5_pick n v_z426 v_c1).bind fun (v_r504 : (S_api_Cred)) =>
  (G_ringref5_SameCred n v_r65.1 v_r504).bind fun (v_r505 : (Bool)) =>
  if v_r505 = true then
   (G_ringlaw5_pick n v_z485 (S_api_Cred.mk v_n2 v_c1.fGroup v_c1.fMore 0 v_c1.fLevel v_c1.fKind)).bind fun (v_r506 : (S_api_Cred)) =>
   (G_ringref5_SameCred n v_r71.1 v_r506).bind fun (v_r507 : (Bool)) =>
   if v_r507 = true then
    (G_ringlaw5_pick n v_z486 v_c1).bind fun (v_r508 : (S_api_Cred)) =>
    (G_ringref5_SameCred n v_r149.1 v_r508).bind fun (v_r509 : (Bool)) =>
    some (.x0 v_r509)
   else
    some (.x0 false)
  else
   some (.x0 false)
theorem G_ringlaw5_CredSays_C16_ok {Fi : Ex → PS → Prop} (hF : KC 233 Fi) (ks : List Fr) (n : Nat) (v_z426 : Int) (v_z485 : Int) (v_z486 : Int) (v_r65 : (S_api_Cred × Int)) (v_r71 : (S_api_Cred × Int)) (v_r149 : (S_api_Cred × Int)) (v_c1 : S_api_Cred) (v_n2 : Int)  (o : G_ringlaw5_CredSays_C16_R) (h : G_ringlaw5_CredSays_C16 n v_z426 v_z485 v_z486 v_r65 v_r71 v_r149 v_c1 v_n2 = some o) (q : RunE Try.prog 233 Fi ks (G_ringlaw5_CredSays_C16_ex o) (G_ringlaw5_CredSays_C16_st v_z426 v_z485 v_z486 v_r65 v_r71 v_r149 v_c1 v_n2 o)) : RunE Try.prog 233 Fi (.s (cL (cR (cR (cR (cR (cR (cR (cR (cR (cR (cR (cR (cR (cR (cR (cR (cR (cR (cR (bodyOf Try.f3)))))))))))))))))))) :: ks) .normal (G_ringlaw5_CredSays_C16_hd v_z426 v_z485 v_z486 v_r65 v_r71 v_r149 v_c1 v_n2) := by
  unfold G_ringlaw5_CredSays_C16 at h
  obtain ⟨v_r504, h558, h⟩ := bind_some h
  obtain ⟨v_r505, h559, h⟩ := bind_some h
  by_cases h560 : v_r505 = true
  · rw [if_pos h560] at h
    obtain ⟨v_r506, h561, h⟩ := bind_some h
    obtain ⟨v_r507, h562, h⟩ := bind_some h
    by_cases h563 : v_r507 = true
    · rw [if_pos h563] at h
      obtain ⟨v_r508, h564, h⟩ := bind_some h
      obtain ⟨v_r509, h565, h⟩ := bind_some h
      cases h
      exact pkk_sound TTok mix hF 1 (hs := [.c, .c, .r (eS_api_Cred v_r504), .r (eB v_r505), .t true, .c, .c, .c, .c, .c, .r (eS_api_Cred v_r506), .c, .r (eB v_r507), .t true, .c, .c, .c, .c, .c, .r (eS_api_Cred v_r508), .c, .r (eB v_r509)]) (ts := []) (s := []) (l := [4]) (by kernel_rfl) (by kernel_rfl) (.cons (G_ringlaw5_pick_ok n v_z426 v_c1 _ h558) (.cons (G_ringref5_SameCred_ok n v_r65.1 v_r504 _ h559) (.cons h560 (.cons (G_ringlaw5_pick_ok n v_z485 (S_api_Cred.mk v_n2 v_c1.fGroup v_c1.fMore 0 v_c1.fLevel v_c1.fKind) _ h561) (.cons (G_ringref5_SameCred_ok n v_r71.1 v_r506 _ h562) (.cons h563 (.cons (G_ringlaw5_pick_ok n v_z486 v_c1 _ h564) (.cons (G_ringref5_SameCred_ok n v_r149.1 v_r508 _ h565) .nil)))))))) q
    · rw [if_neg h563] at h
      cases h
      exact pkk_sound TTok mix hF 1 (hs := [.c, .c, .r (eS_api_Cred v_r504), .r (eB v_r505), .t true, .c, .c, .c, .c, .c, .r (eS_api_Cred v_r506), .c, .r (eB v_r507), .t false, .c, .c, .c, .c]) (ts := []) (s := []) (l := [4]) (by kernel_rfl) (by kernel_rfl) (.cons (G_ringlaw5_pick_ok n v_z426 v_c1 _ h558) (.cons (G_ringref5_SameCred_ok n v_r65.1 v_r504 _ h559) (.cons h560 (.cons (G_ringlaw5_pick_ok n v_z485 (S_api_Cred.mk v_n2 v_c1.fGroup v_c1.fMore 0 v_c1.fLevel v_c1.fKind) _ h561) (.cons (G_ringref5_SameCred_ok n v_r71.1 v_r506 _ h562) (.cons (vf h563) .nil)))))) q
  · rw [if_neg h560] at h
    cases h
    exact pkk_sound TTok mix hF 1 (hs := [.c, .c, .r (eS_api_Cred v_r504), .r (eB v_r505), .t false, .c, .c, .c, .c, .c, .c, .c, .c, .c]) (ts := []) (s := []) (l := [4]) (by kernel_rfl) (by kernel_rfl) (.cons (G_ringlaw5_pick_ok n v_z426 v_c1 _ h558) (.cons (G_ringref5_SameCred_ok n v_r65.1 v_r504 _ h559) (.cons (vf h560) .nil))) q
inductive G_ringlaw5_CredSays_C17_R where
  | x0 (v_x515 : Bool)
def G_ringlaw5_CredSays_C17_ex : G_ringlaw5_CredSays_C17_R → Ex
  | .x0 _ => .normal
def G_ringlaw5_CredSays_C17_st (v_n2 : Int) (v_r51 : (Bool × Int)) (v_r65 : (S_api_Cred × Int)) (v_r71 : (S_api_Cred × Int)) (v_r149 : (S_api_Cred × Int)) (v_z426 : Int) (v_z485 : Int) (v_z486 : Int) (v_c1 : S_api_Cred) : G_ringlaw5_CredSays_C17_R → PS
  | .x0 v_x515 => ⟨[dd, dd, dd, dd, dd, dd, dd, dd, dd, .ref 0 0, dd, .ref 1 0, dd, .ref 2 0, dd, dd, dd, dd, .ref 3 0, .ref 4 0, .ref 5 0, .d (.v (.int .i64 v_z426)), .d (.v (.int .i64 v_z485)), .d (.v (.int .i64 v_z486)), dd, dd, dd, dd, dd, dd, dd, dd, dd, dd, dd, dd, dd, dd, dd, dd, dd, dd, dd, dd, dd, dd, dd, dd, dd, dd, dd, dd, dd, dd, dd, dd, dd, dd, dd, dd, dd, dd, dd, dd, dd, dd, dd, dd, dd, dd, dd, dd, dd, dd, dd, dd, dd, dd, dd, dd, dd, dd, dd, dd, dd, dd, dd, dd, dd, dd, dd, dd, dd, dd, dd, dd, dd, dd, dd, dd, dd, dd, dd, dd, dd, dd, dd, dd, dd, dd, dd, dd, dd, dd, dd, dd, dd, dd, dd, dd, dd, dd, dd, dd, dd, dd, dd, dd, dd, dd, dd, dd, dd, dd, dd, dd, dd, dd, dd, dd, dd, dd, dd, dd, dd, dd, dd, dd, dd, dd, dd, dd, dd, dd, dd, dd, dd, dd, dd, dd, dd, dd, dd, dd, dd, dd, dd, dd, dd, dd, dd, dd, dd, dd, dd, dd, dd, dd, dd, dd, dd, dd, dd, dd, dd, dd, dd, dd, dd, dd, dd, dd, dd, dd, dd, dd, dd, dd, dd, dd, dd, dd, dd, dd, dd, dd, dd, dd, dd, dd, dd, dd, dd, .d (.v (.bool v_x515)), dd, dd, dd, dd, dd, dd, dd, dd, dd, dd, dd, dd, dd, dd, dd, dd, dd, dd, dd], [.box [.d (.v (.int .i64 v_r65.1.fUser)), .d (.v (.int .i64 v_r65.1.fGroup)), .d (.sl (v_r65.1.fMore.map (eI .i64))), .d (.v (.int .i64 v_r65.1.fCaps)), .d (.v (.int .i64 v_r65.1.fLevel)), .d (.v (.int .i64 v_r65.1.fKind))], .box [.d (.v (.int .i64 v_r71.1.fUser)), .d (.v (.int .i64 v_r71.1.fGroup)), .d (.sl (v_r71.1.fMore.map (eI .i64))), .d (.v (.int .i64 v_r71.1.fCaps)), .d (.v (.int .i64 v_r71.1.fLevel)), .d (.v (.int .i64 v_r71.1.fKind))], .box [.d (.v (.int .i64 v_r149.1.fUser)), .d (.v (.int .i64 v_r149.1.fGroup)), .d (.sl (v_r149.1.fMore.map (eI .i64))), .d (.v (.int .i64 v_r149.1.fCaps)), .d (.v (.int .i64 v_r149.1.fLevel)), .d (.v (.int .i64 v_r149.1.fKind))], .box [.d (.v (.int .i64 v_c1.fUser)), .d (.v (.int .i64 v_c1.fGroup)), .d (.sl (v_c1.fMore.map (eI .i64))), .d (.v (.int .i64 v_c1.fCaps)), .d (.v (.int .i64 v_c1.fLevel)), .d (.v (.int .i64 v_c1.fKind))], .box [.d (.v (.int .i64 v_n2)), .d (.v (.int .i64 v_c1.fGroup)), .d (.sl (v_c1.fMore.map (eI .i64))), .d (.v (.int .i64 v_c1.fCaps)), .d (.v (.int .i64 v_c1.fLevel)), .d (.v (.int .i64 v_c1.fKind))], .box [.d (.v (.int .i64 v_c1.fUser)), .d (.v (.int .i64 v_c1.fGroup)), .d (.sl (v_c1.fMore.map (eI .i64))), .d (.v (.int .i64 v_c1.fCaps)), .d (.v (.int .i64 v_c1.fLevel)), .d (.v (.int .i64 v_c1.fKind))]]⟩
def G_ringlaw5_CredSays_C17_hd (v_n2 : Int) (v_r51 : (Bool × Int)) (v_r65 : (S_api_Cred × Int)) (v_r71 : (S_api_Cred × Int)) (v_r149 : (S_api_Cred × Int)) (v_z426 : Int) (v_z485 : Int) (v_z486 : Int) (v_c1 : S_api_Cred)  : PS := ⟨[dd, .d (.v (.int .i64 v_n2)), .ref 0 0, dd, dd, dd, dd, .d (.v (.bool v_r51.1)), .d (.v (.int .i64 v_r51.2)), .ref 1 0, .d (.v (.int .i64 v_r65.2)), .ref 2 0, .d (.v (.int .i64 v_r71.2)), .ref 3 0, .d (.v (.int .i64 v_r149.2)), dd, dd, dd, .ref 4 0, .ref 5 0, .ref 6 0, .d (.v (.int .i64 v_z426)), .d (.v (.int .i64 v_z485)), .d (.v (.int .i64 v_z486)), dd, dd, dd, dd, dd, dd, dd, dd, dd, dd, dd, dd, dd, dd, dd, dd, dd, dd, dd, dd, dd, dd, dd, dd, dd, dd, dd, dd, dd, dd, dd, dd, dd, dd, dd, dd, dd, dd, dd, dd, dd, dd, dd, dd, dd, dd, dd, dd, dd, dd, dd, dd, dd, dd, dd, dd, dd, dd, dd, dd, dd, dd, dd, dd, dd, dd, dd, dd, dd, dd, dd, dd, dd, dd, dd, dd, dd, dd, dd, dd, dd, dd, dd, dd, dd, dd, dd, dd, dd, dd, dd, dd, dd, dd, dd, dd, dd, dd, dd, dd, dd, dd, dd, dd, dd, dd, dd, dd, dd, dd, dd, dd, dd, dd, dd, dd, dd, dd, dd, dd, dd, dd, dd, dd, dd, dd, dd, dd, dd, dd, dd, dd, dd, dd, dd, dd, dd, dd, dd, dd, dd, dd, dd, dd, dd, dd, dd, dd, dd, dd, dd, dd, dd, dd, dd, dd, dd, dd, dd, dd, dd, dd, dd, dd, dd, dd, dd, dd, dd, dd, dd, dd, dd, dd, dd, dd, dd, dd, dd, dd, dd, dd, dd, dd, dd, dd, dd, dd, dd, dd, dd, dd, dd, dd, dd, dd, dd, dd, dd, dd, dd, dd, dd, dd, dd, dd, dd, dd, dd], [.box [.d (.v (.int .i64 v_c1.fUser)), .d (.v (.int .i64 v_c1.fGroup)), .d (.sl (v_c1.fMore.map (eI .i64))), .d (.v (.int .i64 v_c1.fCaps)), .d (.v (.int .i64 v_c1.fLevel)), .d (.v (.int .i64 v_c1.fKind))], .box [.d (.v (.int .i64 v_r65.1.fUser)), .d (.v (.int .i64 v_r65.1.fGroup)), .d (.sl (v_r65.1.fMore.map (eI .i64))), .d (.v (.int .i64 v_r65.1.fCaps)), .d (.v (.int .i64 v_r65.1.fLevel)), .d (.v (.int .i64 v_r65.1.fKind))], .box [.d (.v (.int .i64 v_r71.1.fUser)), .d (.v (.int .i64 v_r71.1.fGroup)), .d (.sl (v_r71.1.fMore.map (eI .i64))), .d (.v (.int .i64 v_r71.1.fCaps)), .d (.v (.int .i64 v_r71.1.fLevel)), .d (.v (.int .i64 v_r71.1.fKind))], .box [.d (.v (.int .i64 v_r149.1.fUser)), .d (.v (.int .i64 v_r149.1.fGroup)), .d (.sl (v_r149.1.fMore.map (eI .i64))), .d (.v (.int .i64 v_r149.1.fCaps)), .d (.v (.int .i64 v_r149.1.fLevel)), .d (.v (.int .i64 v_r149.1.fKind))], .box [.d (.v (.int .i64 v_c1.fUser)), .d (.v (.int .i64 v_c1.fGroup)), .d (.sl (v_c1.fMore.map (eI .i64))), .d (.v (.int .i64 v_c1.fCaps)), .d (.v (.int .i64 v_c1.fLevel)), .d (.v (.int .i64 v_c1.fKind))], .box [.d (.v (.int .i64 v_n2)), .d (.v (.int .i64 v_c1.fGroup)), .d (.sl (v_c1.fMore.map (eI .i64))), .d (.v (.int .i64 v_c1.fCaps)), .d (.v (.int .i64 v_c1.fLevel)), .d (.v (.int .i64 v_c1.fKind))], .box [.d (.v (.int .i64 v_c1.fUser)), .d (.v (.int .i64 v_c1.fGroup)), .d (.sl (v_c1.fMore.map (eI .i64))), .d (.v (.int .i64 v_c1.fCaps)), .d (.v (.int .i64 v_c1.fLevel)), .d (.v (.int .i64 v_c1.fKind))]]⟩
def G_ringlaw5_CredSays_C17 (n : Nat) (v_n2 : Int) (v_r51 : (Bool × Int)) (v_r65 : (S_api_Cred × Int)) (v_r71 : (S_api_Cred × Int)) (v_r149 : (S_api_Cred × Int)) (v_z426 : Int) (v_z485 : Int) (v_z486 : Int) (v_c1 : S_api_Cred) : Option G_ringlaw5_CredSays_C17_R :=
  if v_r51.2 = v_z426 then
   if v_z426 = 0 then
    if (eqRes .neq (v_r51.1 == (v_c1.fCaps == (wi .i64 (v_c1.fCaps - v_n2))))) = true then
     some (.x0 true)
    else
     if v_r65.2 = v_z426 then
      if v_r71.2 = v_z485 then
       some (.x0 (v_r149.2 != v_z486))
      else
       some (.x0 true)
     else
      some (.x0 true)
   else
    if (eqRes .neq (v_r51.1 == false)) = true then
     some (.x0 true)
    else
     if v_r65.2 = v_z426 then
      if v_r71.2 = v_z485 then
       some (.x0 (v_r149.2 != v_z486))
      else
       some (.x0 true)
     else
      some (.x0 true)
  else
   some (.x0 true)
theorem G_ringlaw5_CredSays_C17_ok {Fi : Ex → PS → Prop} (hF : KC 233 Fi) (ks : List Fr) (n : Nat) (v_n2 : Int) (v_r51 : (Bool × Int)) (v_r65 : (S_api_Cred × Int)) (v_r71 : (S_api_Cred × Int)) (v_r149 : (S_api_Cred × Int)) (v_z426 : Int) (v_z485 : Int) (v_z486 : Int) (v_c1 : S_api_Cred)  (o : G_ringlaw5_CredSays_C17_R) (h : G_ringlaw5_CredSays_C17 n v_n2 v_r51 v_r65 v_r71 v_r149 v_z426 v_z485 v_z486 v_c1 = some o) (q : RunE Try.prog 233 Fi ks (G_ringlaw5_CredSays_C17_ex o) (G_ringlaw5_CredSays_C17_st v_n2 v_r51 v_r65 v_r71 v_r149 v_z426 v_z485 v_z486 v_c1 o)) : RunE Try.prog 233 Fi (.s (cL (cL (cR (cR (cR (cR (cR (cR (cR (cR (cR (cR (cR (cR (cR (cR (cR (cR (cR (bodyOf Try.f3)))))))))))))))))))) :: ks) .normal (G_ringlaw5_CredSays_C17_hd v_n2 v_r51 v_r65 v_r71 v_r149 v_z426 v_z485 v_z486 v_c1) := by
  unfold G_ringlaw5_CredSays_C17 at h
  by_cases h575 : v_r51.2 = v_z426
  · rw [if_pos h575] at h
    by_cases h576 : v_z426 = 0
    · rw [if_pos h576] at h
      by_cases h577 : (eqRes .neq (v_r51.1 == (v_c1.fCaps == (wi .i64 (v_c1.fCaps - v_n2))))) = true
      · rw [if_pos h577] at h
        cases h
        exact pkk_sound TTok mix hF 1 (hs := [.t false, .c, .c, .c, .t true, .c, .c, .c, .c, .c, .c, .c, .c, .c, .c, .t true, .c, .c, .c, .c, .c, .c, .c, .c]) (ts := []) (s := [1, 2, 3, 4, 5, 6]) (l := [9, 11, 13, 18, 19, 20, 21, 22, 23, 213]) (by kernel_rfl) (by kernel_rfl) (.cons (nf h575) (.cons (bt h576) (.cons h577 .nil))) q
      · rw [if_neg h577] at h
        by_cases h578 : v_r65.2 = v_z426
        · rw [if_pos h578] at h
          by_cases h579 : v_r71.2 = v_z485
          · rw [if_pos h579] at h
            cases h
            exact pkk_sound TTok mix hF 1 (hs := [.t false, .c, .c, .c, .t true, .c, .c, .c, .c, .c, .c, .c, .c, .c, .c, .t false, .c, .c, .t false, .c, .c, .t false, .c, .c]) (ts := []) (s := [1, 2, 3, 4, 5, 6]) (l := [9, 11, 13, 18, 19, 20, 21, 22, 23, 213]) (by kernel_rfl) (by kernel_rfl) (.cons (nf h575) (.cons (bt h576) (.cons (vf h577) (.cons (nf h578) (.cons (nf h579) .nil))))) q
          · rw [if_neg h579] at h
            cases h
            exact pkk_sound TTok mix hF 1 (hs := [.t false, .c, .c, .c, .t true, .c, .c, .c, .c, .c, .c, .c, .c, .c, .c, .t false, .c, .c, .t false, .c, .c, .t true, .c, .c]) (ts := []) (s := [1, 2, 3, 4, 5, 6]) (l := [9, 11, 13, 18, 19, 20, 21, 22, 23, 213]) (by kernel_rfl) (by kernel_rfl) (.cons (nf h575) (.cons (bt h576) (.cons (vf h577) (.cons (nf h578) (.cons (nt h579) .nil))))) q
        · rw [if_neg h578] at h
          cases h
          exact pkk_sound TTok mix hF 1 (hs := [.t false, .c, .c, .c, .t true, .c, .c, .c, .c, .c, .c, .c, .c, .c, .c, .t false, .c, .c, .t true, .c, .c, .c, .c, .c]) (ts := []) (s := [1, 2, 3, 4, 5, 6]) (l := [9, 11, 13, 18, 19, 20, 21, 22, 23, 213]) (by kernel_rfl) (by kernel_rfl) (.cons (nf h575) (.cons (bt h576) (.cons (vf h577) (.cons (nt h578) .nil)))) q
    · rw [if_neg h576] at h
      by_cases h580 : (eqRes .neq (v_r51.1 == false)) = true
      · rw [if_pos h580] at h
        cases h
        exact pkk_sound TTok mix hF 1 (hs := [.t false, .c, .c, .c, .t false, .c, .c, .c, .c, .c, .c, .c, .c, .t true, .c, .c, .c, .c, .c, .c, .c, .c]) (ts := []) (s := [1, 2, 3, 4, 5, 6]) (l := [9, 11, 13, 18, 19, 20, 21, 22, 23, 213]) (by kernel_rfl) (by kernel_rfl) (.cons (nf h575) (.cons (bf h576) (.cons h580 .nil))) q
      · rw [if_neg h580] at h
        by_cases h581 : v_r65.2 = v_z426
        · rw [if_pos h581] at h
          by_cases h582 : v_r71.2 = v_z485
          · rw [if_pos h582] at h
            cases h
            exact pkk_sound TTok mix hF 1 (hs := [.t false, .c, .c, .c, .t false, .c, .c, .c, .c, .c, .c, .c, .c, .t false, .c, .c, .t false, .c, .c, .t false, .c, .c]) (ts := []) (s := [1, 2, 3, 4, 5, 6]) (l := [9, 11, 13, 18, 19, 20, 21, 22, 23, 213]) (by kernel_rfl) (by kernel_rfl) (.cons (nf h575) (.cons (bf h576) (.cons (vf h580) (.cons (nf h581) (.cons (nf h582) .nil))))) q
          · rw [if_neg h582] at h
            cases h
            exact pkk_sound TTok mix hF 1 (hs := [.t false, .c, .c, .c, .t false, .c, .c, .c, .c, .c, .c, .c, .c, .t false, .c, .c, .t false, .c, .c, .t true, .c, .c]) (ts := []) (s := [1, 2, 3, 4, 5, 6]) (l := [9, 11, 13, 18, 19, 20, 21, 22, 23, 213]) (by kernel_rfl) (by kernel_rfl) (.cons (nf h575) (.cons (bf h576) (.cons (vf h580) (.cons (nf h581) (.cons (nt h582) .nil))))) q
        · rw [if_neg h581] at h
          cases h
          exact pkk_sound TTok mix hF 1 (hs := [.t false, .c, .c, .c, .t false, .c, .c, .c, .c, .c, .c, .c, .c, .t false, .c, .c, .t true, .c, .c, .c, .c, .c]) (ts := []) (s := [1, 2, 3, 4, 5, 6]) (l := [9, 11, 13, 18, 19, 20, 21, 22, 23, 213]) (by kernel_rfl) (by kernel_rfl) (.cons (nf h575) (.cons (bf h576) (.cons (vf h580) (.cons (nt h581) .nil)))) q
  · rw [if_neg h575] at h
    cases h
    exact pkk_sound TTok mix hF 1 (hs := [.t true, .c, .c, .c, .c, .c, .c, .c, .c, .c, .c, .c, .c, .c, .c]) (ts := []) (s := [1, 2, 3, 4, 5, 6]) (l := [9, 11, 13, 18, 19, 20, 21, 22, 23, 213]) (by kernel_rfl) (by kernel_rfl) (.cons (nt h575) .nil) q
inductive G_ringlaw5_CredSays_C18_R where
  | x0 (v_x538 : Bool)
def G_ringlaw5_CredSays_C18_ex : G_ringlaw5_CredSays_C18_R → Ex
  | .x0 _ => .normal
def G_ringlaw5_CredSays_C18_st (v_z426 : Int) (v_z485 : Int) (v_z486 : Int) (v_r65 : (S_api_Cred × Int)) (v_r71 : (S_api_Cred × Int)) (v_r149 : (S_api_Cred × Int)) (v_c1 : S_api_Cred) (v_n2 : Int) : G_ringlaw5_CredSays_C18_R → PS
  | .x0 v_x538 => ⟨[dd, dd, dd, dd, .d (.v (.bool v_x538)), dd, dd, dd, dd, dd, dd, dd, dd, dd, dd, dd, dd, dd, dd, dd, dd, dd, dd, dd, dd, dd, dd, dd, dd, dd, dd, dd, dd, dd, dd, dd, dd, dd, dd, dd, dd, dd, dd, dd, dd, dd, dd, dd, dd, dd, dd, dd, dd, dd, dd, dd, dd, dd, dd, dd, dd, dd, dd, dd, dd, dd, dd, dd, dd, dd, dd, dd, dd, dd, dd, dd, dd, dd, dd, dd, dd, dd, dd, dd, dd, dd, dd, dd, dd, dd, dd, dd, dd, dd, dd, dd, dd, dd, dd, dd, dd, dd, dd, dd, dd, dd, dd, dd, dd, dd, dd, dd, dd, dd, dd, dd, dd, dd, dd, dd, dd, dd, dd, dd, dd, dd, dd, dd, dd, dd, dd, dd, dd, dd, dd, dd, dd, dd, dd, dd, dd, dd, dd, dd, dd, dd, dd, dd, dd, dd, dd, dd, dd, dd, dd, dd, dd, dd, dd, dd, dd, dd, dd, dd, dd, dd, dd, dd, dd, dd, dd, dd, dd, dd, dd, dd, dd, dd, dd, dd, dd, dd, dd, dd, dd, dd, dd, dd, dd, dd, dd, dd, dd, dd, dd, dd, dd, dd, dd, dd, dd, dd, dd, dd, dd, dd, dd, dd, dd, dd, dd, dd, dd, dd, dd, dd, dd, dd, dd, dd, dd, dd, dd, dd, dd, dd, dd, dd, dd, dd, dd, dd, dd], []⟩
def G_ringlaw5_CredSays_C18_hd (v_z426 : Int) (v_z485 : Int) (v_z486 : Int) (v_r65 : (S_api_Cred × Int)) (v_r71 : (S_api_Cred × Int)) (v_r149 : (S_api_Cred × Int)) (v_c1 : S_api_Cred) (v_n2 : Int)  : PS := ⟨[dd, dd, dd, dd, dd, dd, dd, dd, dd, .ref 0 0, dd, .ref 1 0, dd, .ref 2 0, dd, dd, dd, dd, .ref 3 0, .ref 4 0, .ref 5 0, .d (.v (.int .i64 v_z426)), .d (.v (.int .i64 v_z485)), .d (.v (.int .i64 v_z486)), dd, dd, dd, dd, dd, dd, dd, dd, dd, dd, dd, dd, dd, dd, dd, dd, dd, dd, dd, dd, dd, dd, dd, dd, dd, dd, dd, dd, dd, dd, dd, dd, dd, dd, dd, dd, dd, dd, dd, dd, dd, dd, dd, dd, dd, dd, dd, dd, dd, dd, dd, dd, dd, dd, dd, dd, dd, dd, dd, dd, dd, dd, dd, dd, dd, dd, dd, dd, dd, dd, dd, dd, dd, dd, dd, dd, dd, dd, dd, dd, dd, dd, dd, dd, dd, dd, dd, dd, dd, dd, dd, dd, dd, dd, dd, dd, dd, dd, dd, dd, dd, dd, dd, dd, dd, dd, dd, dd, dd, dd, dd, dd, dd, dd, dd, dd, dd, dd, dd, dd, dd, dd, dd, dd, dd, dd, dd, dd, dd, dd, dd, dd, dd, dd, dd, dd, dd, dd, dd, dd, dd, dd, dd, dd, dd, dd, dd, dd, dd, dd, dd, dd, dd, dd, dd, dd, dd, dd, dd, dd, dd, dd, dd, dd, dd, dd, dd, dd, dd, dd, dd, dd, dd, dd, dd, dd, dd, dd, dd, dd, dd, dd, dd, dd, dd, dd, dd, dd, dd, dd, dd, dd, dd, dd, dd, dd, dd, dd, dd, dd, dd, dd, dd, dd, dd, dd, dd, dd, dd], [.box [.d (.v (.int .i64 v_r65.1.fUser)), .d (.v (.int .i64 v_r65.1.fGroup)), .d (.sl (v_r65.1.fMore.map (eI .i64))), .d (.v (.int .i64 v_r65.1.fCaps)), .d (.v (.int .i64 v_r65.1.fLevel)), .d (.v (.int .i64 v_r65.1.fKind))], .box [.d (.v (.int .i64 v_r71.1.fUser)), .d (.v (.int .i64 v_r71.1.fGroup)), .d (.sl (v_r71.1.fMore.map (eI .i64))), .d (.v (.int .i64 v_r71.1.fCaps)), .d (.v (.int .i64 v_r71.1.fLevel)), .d (.v (.int .i64 v_r71.1.fKind))], .box [.d (.v (.int .i64 v_r149.1.fUser)), .d (.v (.int .i64 v_r149.1.fGroup)), .d (.sl (v_r149.1.fMore.map (eI .i64))), .d (.v (.int .i64 v_r149.1.fCaps)), .d (.v (.int .i64 v_r149.1.fLevel)), .d (.v (.int .i64 v_r149.1.fKind))], .box [.d (.v (.int .i64 v_c1.fUser)), .d (.v (.int .i64 v_c1.fGroup)), .d (.sl (v_c1.fMore.map (eI .i64))), .d (.v (.int .i64 v_c1.fCaps)), .d (.v (.int .i64 v_c1.fLevel)), .d (.v (.int .i64 v_c1.fKind))], .box [.d (.v (.int .i64 v_n2)), .d (.v (.int .i64 v_c1.fGroup)), .d (.sl (v_c1.fMore.map (eI .i64))), .d (.v (.int .i64 v_c1.fCaps)), .d (.v (.int .i64 v_c1.fLevel)), .d (.v (.int .i64 v_c1.fKind))], .box [.d (.v (.int .i64 v_c1.fUser)), .d (.v (.int .i64 v_c1.fGroup)), .d (.sl (v_c1.fMore.map (eI .i64))), .d (.v (.int .i64 v_c1.fCaps)), .d (.v (.int .i64 v_c1.fLevel)), .d (.v (.int .i64 v_c1.fKind))]]⟩
def G_ringlaw5_CredSays_C18 (n : Nat) (v_z426 : Int) (v_z485 : Int) (v_z486 : Int) (v_r65 : (S_api_Cred × Int)) (v_r71 : (S_api_Cred × Int)) (v_r149 : (S_api_Cred × Int)) (v_c1 : S_api_Cred) (v_n2 : Int) : Option G_ringlaw5_CredSays_C18_R :=
  (G_ringlaw5_pick n v_z426 v_c1).bind fun (v_r532 : (S_api_Cred)) =>
  (G_ringref5_SameCred n v_r65.1 v_r532).bind fun (v_r533 : (Bool)) =>
  if v_r533 = true then
   (G_ringlaw5_pick n v_z485 (S_api_Cred.mk v_n2 v_c1.fGroup v_c1.fMore v_c1.fCaps v_c1.fLevel v_c1.fKind)).bind fun (v_r534 : (S_api_Cred)) =>
   (G_ringref5_SameCred n v_r71.1 v_r534).bind fun (v_r535 : (Bool)) =>
   if v_r535 = true then
    (G_ringlaw5_pick n v_z486 v_c1).bind fun (v_r536 : (S_api_Cred)) =>
    (G_ringref5_SameCred n v_r149.1 v_r536).bind fun (v_r537 : (Bool)) =>
    some (.x0 v_r537)
   else
    some (.x0 false)
  else
   some (.x0 false)
theorem G_ringlaw5_CredSays_C18_ok {Fi : Ex → PS → Prop} (hF : KC 233 Fi) (ks : List Fr) (n : Nat) (v_z426 : Int) (v_z485 : Int) (v_z486 : Int) (v_r65 : (S_api_Cred × Int)) (v_r71 : (S_api_Cred × Int)) (v_r149 : (S_api_Cred × Int)) (v_c1 : S_api_Cred) (v_n2 : Int)  (o : G_ringlaw5_CredSays_C18_R) (h : G_ringlaw5_CredSays_C18 n v_z426 v_z485 v_z486 v_r65 v_r71 v_r149 v_c1 v_n2 = some o) (q : RunE Try.prog 233 Fi ks (G_ringlaw5_CredSays_C18_ex o) (G_ringlaw5_CredSays_C18_st v_z426 v_z485 v_z486 v_r65 v_r71 v_r149 v_c1 v_n2 o)) : RunE Try.prog 233 Fi (.s (cL (cR (cR (cR (cR (cR (cR (cR (cR (cR (cR (cR (cR (cR (cR (cR (cR (cR (cR (bodyOf Try.f3)))))))))))))))))))) :: ks) .normal (G_ringlaw5_CredSays_C18_hd v_z426 v_z485 v_z486 v_r65 v_r71 v_r149 v_c1 v_n2) := by
  unfold G_ringlaw5_CredSays_C18 at h
  obtain ⟨v_r532, h593, h⟩ := bind_some h
  obtain ⟨v_r533, h594, h⟩ := bind_some h
  by_cases h595 : v_r533 = true
  · rw [if_pos h595] at h
    obtain ⟨v_r534, h596, h⟩ := bind_some h
    obtain ⟨v_r535, h597, h⟩ := bind_some h
    by_cases h598 : v_r535 = true
    · rw [if_pos h598] at h
      obtain ⟨v_r536, h599, h⟩ := bind_some h
      obtain ⟨v_r537, h600, h⟩ := bind_some h
      cases h
      exact pkk_sound TTok mix hF 1 (hs := [.c, .c, .r (eS_api_Cred v_r532), .r (eB v_r533), .t true, .c, .c, .c, .c, .c, .r (eS_api_Cred v_r534), .c, .r (eB v_r535), .t true, .c, .c, .c, .c, .c, .r (eS_api_Cred v_r536), .c, .r (eB v_r537)]) (ts := []) (s := []) (l := [4]) (by kernel_rfl) (by kernel_rfl) (.cons (G_ringlaw5_pick_ok n v_z426 v_c1 _ h593) (.cons (G_ringref5_SameCred_ok n v_r65.1 v_r532 _ h594) (.cons h595 (.cons (G_ringlaw5_pick_ok n v_z485 (S_api_Cred.mk v_n2 v_c1.fGroup v_c1.fMore v_c1.fCaps v_c1.fLevel v_c1.fKind) _ h596) (.cons (G_ringref5_SameCred_ok n v_r71.1 v_r534 _ h597) (.cons h598 (.cons (G_ringlaw5_pick_ok n v_z486 v_c1 _ h599) (.cons (G_ringref5_SameCred_ok n v_r149.1 v_r536 _ h600) .nil)))))))) q
    · rw [if_neg h598] at h
      cases h
      exact pkk_sound TTok mix hF 1 (hs := [.c, .c, .r (eS_api_Cred v_r532), .r (eB v_r533), .t true, .c, .c, .c, .c, .c, .r (eS_api_Cred v_r534), .c, .r (eB v_r535), .t false, .c, .c, .c, .c]) (ts := []) (s := []) (l := [4]) (by kernel_rfl) (by kernel_rfl) (.cons (G_ringlaw5_pick_ok n v_z426 v_c1 _ h593) (.cons (G_ringref5_SameCred_ok n v_r65.1 v_r532 _ h594) (.cons h595 (.cons (G_ringlaw5_pick_ok n v_z485 (S_api_Cred.mk v_n2 v_c1.fGroup v_c1.fMore v_c1.fCaps v_c1.fLevel v_c1.fKind) _ h596) (.cons (G_ringref5_SameCred_ok n v_r71.1 v_r534 _ h597) (.cons (vf h598) .nil)))))) q
  · rw [if_neg h595] at h
    cases h
    exact pkk_sound TTok mix hF 1 (hs := [.c, .c, .r (eS_api_Cred v_r532), .r (eB v_r533), .t false, .c, .c, .c, .c, .c, .c, .c, .c, .c]) (ts := []) (s := []) (l := [4]) (by kernel_rfl) (by kernel_rfl) (.cons (G_ringlaw5_pick_ok n v_z426 v_c1 _ h593) (.cons (G_ringref5_SameCred_ok n v_r65.1 v_r532 _ h594) (.cons (vf h595) .nil))) q
inductive G_ringlaw5_CredSays_C19_R where
  | x0 (v_x546 : Bool) (v_w547 : (List Int))
def G_ringlaw5_CredSays_C19_ex : G_ringlaw5_CredSays_C19_R → Ex
  | .x0 _ _ => .normal
def G_ringlaw5_CredSays_C19_st (v_n2 : Int) (v_r51 : (Bool × Int)) (v_r65 : (S_api_Cred × Int)) (v_r71 : (S_api_Cred × Int)) (v_r149 : (S_api_Cred × Int)) (v_z426 : Int) (v_z543 : Int) (v_z544 : Int) (v_c1 : S_api_Cred) (v_z545 : (List Int)) : G_ringlaw5_CredSays_C19_R → PS
  | .x0 v_x546 v_w547 => ⟨[dd, dd, dd, dd, dd, dd, dd, dd, dd, .ref 0 0, dd, .ref 1 0, dd, .ref 2 0, dd, dd, dd, dd, .ref 3 0, .ref 4 0, .ref 5 0, .d (.v (.int .i64 v_z426)), .d (.v (.int .i64 v_z543)), .d (.v (.int .i64 v_z544)), dd, dd, dd, dd, dd, dd, dd, dd, dd, dd, dd, dd, dd, dd, dd, dd, dd, dd, dd, dd, dd, dd, dd, dd, dd, dd, dd, dd, dd, dd, dd, dd, dd, dd, dd, dd, dd, dd, dd, dd, dd, dd, dd, dd, dd, dd, dd, dd, dd, dd, dd, dd, dd, dd, dd, dd, dd, dd, dd, dd, dd, dd, dd, dd, dd, dd, dd, dd, dd, dd, dd, dd, dd, dd, dd, dd, dd, dd, dd, dd, dd, dd, dd, dd, dd, dd, dd, dd, dd, dd, dd, dd, dd, dd, dd, dd, dd, dd, dd, dd, dd, dd, dd, dd, dd, dd, dd, dd, dd, dd, dd, dd, dd, dd, dd, dd, dd, dd, dd, dd, dd, dd, dd, dd, dd, dd, dd, dd, dd, dd, dd, dd, dd, dd, dd, dd, dd, dd, dd, dd, dd, dd, dd, dd, dd, dd, dd, dd, dd, dd, dd, dd, dd, dd, dd, dd, dd, dd, dd, dd, dd, dd, dd, dd, dd, dd, dd, dd, dd, dd, dd, dd, dd, dd, dd, dd, dd, dd, dd, dd, dd, dd, dd, dd, dd, dd, dd, dd, dd, .d (.v (.bool v_x546)), dd, dd, dd, dd, dd, dd, dd, dd, dd, dd, dd, dd, dd, dd, dd, dd, dd, dd, dd], [.box [.d (.v (.int .i64 v_r65.1.fUser)), .d (.v (.int .i64 v_r65.1.fGroup)), .d (.sl (v_r65.1.fMore.map (eI .i64))), .d (.v (.int .i64 v_r65.1.fCaps)), .d (.v (.int .i64 v_r65.1.fLevel)), .d (.v (.int .i64 v_r65.1.fKind))], .box [.d (.v (.int .i64 v_r71.1.fUser)), .d (.v (.int .i64 v_r71.1.fGroup)), .d (.sl (v_r71.1.fMore.map (eI .i64))), .d (.v (.int .i64 v_r71.1.fCaps)), .d (.v (.int .i64 v_r71.1.fLevel)), .d (.v (.int .i64 v_r71.1.fKind))], .box [.d (.v (.int .i64 v_r149.1.fUser)), .d (.v (.int .i64 v_r149.1.fGroup)), .d (.sl (v_r149.1.fMore.map (eI .i64))), .d (.v (.int .i64 v_r149.1.fCaps)), .d (.v (.int .i64 v_r149.1.fLevel)), .d (.v (.int .i64 v_r149.1.fKind))], .box [.d (.v (.int .i64 v_c1.fUser)), .d (.v (.int .i64 v_c1.fGroup)), .d (.sl (v_c1.fMore.map (eI .i64))), .d (.v (.int .i64 v_c1.fCaps)), .d (.v (.int .i64 v_c1.fLevel)), .d (.v (.int .i64 v_c1.fKind))], .box [.d (.v (.int .i64 v_n2)), .d (.v (.int .i64 v_c1.fGroup)), .d (.sl (v_c1.fMore.map (eI .i64))), .d (.v (.int .i64 0)), .d (.v (.int .i64 v_c1.fLevel)), .d (.v (.int .i64 v_c1.fKind))], .box [.d (.v (.int .i64 v_c1.fUser)), .d (.v (.int .i64 v_c1.fGroup)), .srf 6, .d (.v (.int .i64 v_c1.fCaps)), .d (.v (.int .i64 v_c1.fLevel)), .d (.v (.int .i64 v_c1.fKind))], .row 3 1 (v_w547.map (eI .i64))]⟩
def G_ringlaw5_CredSays_C19_hd (v_n2 : Int) (v_r51 : (Bool × Int)) (v_r65 : (S_api_Cred × Int)) (v_r71 : (S_api_Cred × Int)) (v_r149 : (S_api_Cred × Int)) (v_z426 : Int) (v_z543 : Int) (v_z544 : Int) (v_c1 : S_api_Cred) (v_z545 : (List Int))  : PS := ⟨[dd, .d (.v (.int .i64 v_n2)), .ref 0 0, dd, dd, dd, dd, .d (.v (.bool v_r51.1)), .d (.v (.int .i64 v_r51.2)), .ref 1 0, .d (.v (.int .i64 v_r65.2)), .ref 2 0, .d (.v (.int .i64 v_r71.2)), .ref 3 0, .d (.v (.int .i64 v_r149.2)), dd, dd, dd, .ref 4 0, .ref 5 0, .ref 6 0, .d (.v (.int .i64 v_z426)), .d (.v (.int .i64 v_z543)), .d (.v (.int .i64 v_z544)), dd, dd, dd, dd, dd, dd, dd, dd, dd, dd, dd, dd, dd, dd, dd, dd, dd, dd, dd, dd, dd, dd, dd, dd, dd, dd, dd, dd, dd, dd, dd, dd, dd, dd, dd, dd, dd, dd, dd, dd, dd, dd, dd, dd, dd, dd, dd, dd, dd, dd, dd, dd, dd, dd, dd, dd, dd, dd, dd, dd, dd, dd, dd, dd, dd, dd, dd, dd, dd, dd, dd, dd, dd, dd, dd, dd, dd, dd, dd, dd, dd, dd, dd, dd, dd, dd, dd, dd, dd, dd, dd, dd, dd, dd, dd, dd, dd, dd, dd, dd, dd, dd, dd, dd, dd, dd, dd, dd, dd, dd, dd, dd, dd, dd, dd, dd, dd, dd, dd, dd, dd, dd, dd, dd, dd, dd, dd, dd, dd, dd, dd, dd, dd, dd, dd, dd, dd, dd, dd, dd, dd, dd, dd, dd, dd, dd, dd, dd, dd, dd, dd, dd, dd, dd, dd, dd, dd, dd, dd, dd, dd, dd, dd, dd, dd, dd, dd, dd, dd, dd, dd, dd, dd, dd, dd, dd, dd, dd, dd, dd, dd, dd, dd, dd, dd, dd, dd, dd, dd, dd, dd, dd, dd, dd, dd, dd, dd, dd, dd, dd, dd, dd, dd, dd, dd, dd, dd, dd, dd], [.box [.d (.v (.int .i64 v_c1.fUser)), .d (.v (.int .i64 v_c1.fGroup)), .d (.sl (v_c1.fMore.map (eI .i64))), .d (.v (.int .i64 v_c1.fCaps)), .d (.v (.int .i64 v_c1.fLevel)), .d (.v (.int .i64 v_c1.fKind))], .box [.d (.v (.int .i64 v_r65.1.fUser)), .d (.v (.int .i64 v_r65.1.fGroup)), .d (.sl (v_r65.1.fMore.map (eI .i64))), .d (.v (.int .i64 v_r65.1.fCaps)), .d (.v (.int .i64 v_r65.1.fLevel)), .d (.v (.int .i64 v_r65.1.fKind))], .box [.d (.v (.int .i64 v_r71.1.fUser)), .d (.v (.int .i64 v_r71.1.fGroup)), .d (.sl (v_r71.1.fMore.map (eI .i64))), .d (.v (.int .i64 v_r71.1.fCaps)), .d (.v (.int .i64 v_r71.1.fLevel)), .d (.v (.int .i64 v_r71.1.fKind))], .box [.d (.v (.int .i64 v_r149.1.fUser)), .d (.v (.int .i64 v_r149.1.fGroup)), .d (.sl (v_r149.1.fMore.map (eI .i64))), .d (.v (.int .i64 v_r149.1.fCaps)), .d (.v (.int .i64 v_r149.1.fLevel)), .d (.v (.int .i64 v_r149.1.fKind))], .box [.d (.v (.int .i64 v_c1.fUser)), .d (.v (.int .i64 v_c1.fGroup)), .d (.sl (v_c1.fMore.map (eI .i64))), .d (.v (.int .i64 v_c1.fCaps)), .d (.v (.int .i64 v_c1.fLevel)), .d (.v (.int .i64 v_c1.fKind))], .box [.d (.v (.int .i64 v_n2)), .d (.v (.int .i64 v_c1.fGroup)), .d (.sl (v_c1.fMore.map (eI .i64))), .d (.v (.int .i64 0)), .d (.v (.int .i64 v_c1.fLevel)), .d (.v (.int .i64 v_c1.fKind))], .box [.d (.v (.int .i64 v_c1.fUser)), .d (.v (.int .i64 v_c1.fGroup)), .srf 7, .d (.v (.int .i64 v_c1.fCaps)), .d (.v (.int .i64 v_c1.fLevel)), .d (.v (.int .i64 v_c1.fKind))], .row 3 1 (v_z545.map (eI .i64))]⟩
def G_ringlaw5_CredSays_C19 (n : Nat) (v_n2 : Int) (v_r51 : (Bool × Int)) (v_r65 : (S_api_Cred × Int)) (v_r71 : (S_api_Cred × Int)) (v_r149 : (S_api_Cred × Int)) (v_z426 : Int) (v_z543 : Int) (v_z544 : Int) (v_c1 : S_api_Cred) (v_z545 : (List Int)) : Option G_ringlaw5_CredSays_C19_R :=
  if v_r51.2 = v_z426 then
   if v_z426 = 0 then
    if (eqRes .neq (v_r51.1 == (v_c1.fCaps == (wi .i64 (v_c1.fCaps - v_n2))))) = true then
     some (.x0 true v_z545)
    else
     if v_r65.2 = v_z426 then
      if v_r71.2 = v_z543 then
       some (.x0 (v_r149.2 != v_z544) v_z545)
      else
       some (.x0 true v_z545)
     else
      some (.x0 true v_z545)
   else
    if (eqRes .neq (v_r51.1 == false)) = true then
     some (.x0 true v_z545)
    else
     if v_r65.2 = v_z426 then
      if v_r71.2 = v_z543 then
       some (.x0 (v_r149.2 != v_z544) v_z545)
      else
       some (.x0 true v_z545)
     else
      some (.x0 true v_z545)
  else
   some (.x0 true v_z545)
theorem G_ringlaw5_CredSays_C19_ok {Fi : Ex → PS → Prop} (hF : KC 233 Fi) (ks : List Fr) (n : Nat) (v_n2 : Int) (v_r51 : (Bool × Int)) (v_r65 : (S_api_Cred × Int)) (v_r71 : (S_api_Cred × Int)) (v_r149 : (S_api_Cred × Int)) (v_z426 : Int) (v_z543 : Int) (v_z544 : Int) (v_c1 : S_api_Cred) (v_z545 : (List Int))  (o : G_ringlaw5_CredSays_C19_R) (h : G_ringlaw5_CredSays_C19 n v_n2 v_r51 v_r65 v_r71 v_r149 v_z426 v_z543 v_z544 v_c1 v_z545 = some o) (q : RunE Try.prog 233 Fi ks (G_ringlaw5_CredSays_C19_ex o) (G_ringlaw5_CredSays_C19_st v_n2 v_r51 v_r65 v_r71 v_r149 v_z426 v_z543 v_z544 v_c1 v_z545 o)) : RunE Try.prog 233 Fi (.s (cL (cL (cR (cR (cR (cR (cR (cR (cR (cR (cR (cR (cR (cR (cR (cR (cR (cR (cR (bodyOf Try.f3)))))))))))))))))))) :: ks) .normal (G_ringlaw5_CredSays_C19_hd v_n2 v_r51 v_r65 v_r71 v_r149 v_z426 v_z543 v_z544 v_c1 v_z545) := by
  unfold G_ringlaw5_CredSays_C19 at h
  by_cases h611 : v_r51.2 = v_z426
  · rw [if_pos h611] at h
    by_cases h612 : v_z426 = 0
    · rw [if_pos h612] at h
      by_cases h613 : (eqRes .neq (v_r51.1 == (v_c1.fCaps == (wi .i64 (v_c1.fCaps - v_n2))))) = true
      · rw [if_pos h613] at h
        cases h
        exact pkk_sound TTok mix hF 1 (hs := [.t false, .c, .c, .c, .t true, .c, .c, .c, .c, .c, .c, .c, .c, .c, .c, .t true, .c, .c, .c, .c, .c, .c, .c, .c]) (ts := []) (s := [1, 2, 3, 4, 5, 6, 7]) (l := [9, 11, 13, 18, 19, 20, 21, 22, 23, 213]) (by kernel_rfl) (by kernel_rfl) (.cons (nf h611) (.cons (bt h612) (.cons h613 .nil))) q
      · rw [if_neg h613] at h
        by_cases h614 : v_r65.2 = v_z426
        · rw [if_pos h614] at h
          by_cases h615 : v_r71.2 = v_z543
          · rw [if_pos h615] at h
            cases h
            exact pkk_sound TTok mix hF 1 (hs := [.t false, .c, .c, .c, .t true, .c, .c, .c, .c, .c, .c, .c, .c, .c, .c, .t false, .c, .c, .t false, .c, .c, .t false, .c, .c]) (ts := []) (s := [1, 2, 3, 4, 5, 6, 7]) (l := [9, 11, 13, 18, 19, 20, 21, 22, 23, 213]) (by kernel_rfl) (by kernel_rfl) (.cons (nf h611) (.cons (bt h612) (.cons (vf h613) (.cons (nf h614) (.cons (nf h615) .nil))))) q
          · rw [if_neg h615] at h
            cases h
            exact pkk_sound TTok mix hF 1 (hs := [.t false, .c, .c, .c, .t true, .c, .c, .c, .c, .c, .c, .c, .c, .c, .c, .t false, .c, .c, .t false, .c, .c, .t true, .c, .c]) (ts := []) (s := [1, 2, 3, 4, 5, 6, 7]) (l := [9, 11, 13, 18, 19, 20, 21, 22, 23, 213]) (by kernel_rfl) (by kernel_rfl) (.cons (nf h611) (.cons (bt h612) (.cons (vf h613) (.cons (nf h614) (.cons (nt h615) .nil))))) q
        · rw [if_neg h614] at h
          cases h
          exact pkk_sound TTok mix hF 1 (hs := [.t false, .c, .c, .c, .t true, .c, .c, .c, .c, .c, .c, .c, .c, .c, .c, .t false, .c, .c, .t true, .c, .c, .c, .c, .c]) (ts := []) (s := [1, 2, 3, 4, 5, 6, 7]) (l := [9, 11, 13, 18, 19, 20, 21, 22, 23, 213]) (by kernel_rfl) (by kernel_rfl) (.cons (nf h611) (.cons (bt h612) (.cons (vf h613) (.cons (nt h614) .nil)))) q
    · rw [if_neg h612] at h
      by_cases h616 : (eqRes .neq (v_r51.1 == false)) = true
      · rw [if_pos h616] at h
        cases h
        exact pkk_sound TTok mix hF 1 (hs := [.t false, .c, .c, .c, .t false, .c, .c, .c, .c, .c, .c, .c, .c, .t true, .c, .c, .c, .c, .c, .c, .c, .c]) (ts := []) (s := [1, 2, 3, 4, 5, 6, 7]) (l := [9, 11, 13, 18, 19, 20, 21, 22, 23, 213]) (by kernel_rfl) (by kernel_rfl) (.cons (nf h611) (.cons (bf h612) (.cons h616 .nil))) q
      · rw [if_neg h616] at h
        by_cases h617 : v_r65.2 = v_z426
        · rw [if_pos h617] at h
          by_cases h618 : v_r71.2 = v_z543
          · rw [if_pos h618] at h
            cases h
            exact pkk_sound TTok mix hF 1 (hs := [.t false, .c, .c, .c, .t false, .c, .c, .c, .c, .c, .c, .c, .c, .t false, .c, .c, .t false, .c, .c, .t false, .c, .c]) (ts := []) (s := [1, 2, 3, 4, 5, 6, 7]) (l := [9, 11, 13, 18, 19, 20, 21, 22, 23, 213]) (by kernel_rfl) (by kernel_rfl) (.cons (nf h611) (.cons (bf h612) (.cons (vf h616) (.cons (nf h617) (.cons (nf h618) .nil))))) q
          · rw [if_neg h618] at h
            cases h
            exact pkk_sound TTok mix hF 1 (hs := [.t false, .c, .c, .c, .t false, .c, .c, .c, .c, .c, .c, .c, .c, .t false, .c, .c, .t false, .c, .c, .t true, .c, .c]) (ts := []) (s := [1, 2, 3, 4, 5, 6, 7]) (l := [9, 11, 13, 18, 19, 20, 21, 22, 23, 213]) (by kernel_rfl) (by kernel_rfl) (.cons (nf h611) (.cons (bf h612) (.cons (vf h616) (.cons (nf h617) (.cons (nt h618) .nil))))) q
        · rw [if_neg h617] at h
          cases h
          exact pkk_sound TTok mix hF 1 (hs := [.t false, .c, .c, .c, .t false, .c, .c, .c, .c, .c, .c, .c, .c, .t false, .c, .c, .t true, .c, .c, .c, .c, .c]) (ts := []) (s := [1, 2, 3, 4, 5, 6, 7]) (l := [9, 11, 13, 18, 19, 20, 21, 22, 23, 213]) (by kernel_rfl) (by kernel_rfl) (.cons (nf h611) (.cons (bf h612) (.cons (vf h616) (.cons (nt h617) .nil)))) q
  · rw [if_neg h611] at h
    cases h
    exact pkk_sound TTok mix hF 1 (hs := [.t true, .c, .c, .c, .c, .c, .c, .c, .c, .c, .c, .c, .c, .c, .c]) (ts := []) (s := [1, 2, 3, 4, 5, 6, 7]) (l := [9, 11, 13, 18, 19, 20, 21, 22, 23, 213]) (by kernel_rfl) (by kernel_rfl) (.cons (nt h611) .nil) q
inductive G_ringlaw5_CredSays_C20_R where
  | x0 (v_x587 : Bool)
def G_ringlaw5_CredSays_C20_ex : G_ringlaw5_CredSays_C20_R → Ex
  | .x0 _ => .normal
def G_ringlaw5_CredSays_C20_st (v_z426 : Int) (v_z543 : Int) (v_z544 : Int) (v_r65 : (S_api_Cred × Int)) (v_r71 : (S_api_Cred × Int)) (v_r149 : (S_api_Cred × Int)) (v_c1 : S_api_Cred) (v_n2 : Int) (v_z566 : (List Int)) : G_ringlaw5_CredSays_C20_R → PS
  | .x0 v_x587 => ⟨[dd, dd, dd, dd, .d (.v (.bool v_x587)), dd, dd, dd, dd, dd, dd, dd, dd, dd, dd, dd, dd, dd, dd, dd, dd, dd, dd, dd, dd, dd, dd, dd, dd, dd, dd, dd, dd, dd, dd, dd, dd, dd, dd, dd, dd, dd, dd, dd, dd, dd, dd, dd, dd, dd, dd, dd, dd, dd, dd, dd, dd, dd, dd, dd, dd, dd, dd, dd, dd, dd, dd, dd, dd, dd, dd, dd, dd, dd, dd, dd, dd, dd, dd, dd, dd, dd, dd, dd, dd, dd, dd, dd, dd, dd, dd, dd, dd, dd, dd, dd, dd, dd, dd, dd, dd, dd, dd, dd, dd, dd, dd, dd, dd, dd, dd, dd, dd, dd, dd, dd, dd, dd, dd, dd, dd, dd, dd, dd, dd, dd, dd, dd, dd, dd, dd, dd, dd, dd, dd, dd, dd, dd, dd, dd, dd, dd, dd, dd, dd, dd, dd, dd, dd, dd, dd, dd, dd, dd, dd, dd, dd, dd, dd, dd, dd, dd, dd, dd, dd, dd, dd, dd, dd, dd, dd, dd, dd, dd, dd, dd, dd, dd, dd, dd, dd, dd, dd, dd, dd, dd, dd, dd, dd, dd, dd, dd, dd, dd, dd, dd, dd, dd, dd, dd, dd, dd, dd, dd, dd, dd, dd, dd, dd, dd, dd, dd, dd, dd, dd, dd, dd, dd, dd, dd, dd, dd, dd, dd, dd, dd, dd, dd, dd, dd, dd, dd, dd], []⟩
def G_ringlaw5_CredSays_C20_hd (v_z426 : Int) (v_z543 : Int) (v_z544 : Int) (v_r65 : (S_api_Cred × Int)) (v_r71 : (S_api_Cred × Int)) (v_r149 : (S_api_Cred × Int)) (v_c1 : S_api_Cred) (v_n2 : Int) (v_z566 : (List Int))  : PS := ⟨[dd, dd, dd, dd, dd, dd, dd, dd, dd, .ref 0 0, dd, .ref 1 0, dd, .ref 2 0, dd, dd, dd, dd, .ref 3 0, .ref 4 0, .ref 5 0, .d (.v (.int .i64 v_z426)), .d (.v (.int .i64 v_z543)), .d (.v (.int .i64 v_z544)), dd, dd, dd, dd, dd, dd, dd, dd, dd, dd, dd, dd, dd, dd, dd, dd, dd, dd, dd, dd, dd, dd, dd, dd, dd, dd, dd, dd, dd, dd, dd, dd, dd, dd, dd, dd, dd, dd, dd, dd, dd, dd, dd, dd, dd, dd, dd, dd, dd, dd, dd, dd, dd, dd, dd, dd, dd, dd, dd, dd, dd, dd, dd, dd, dd, dd, dd, dd, dd, dd, dd, dd, dd, dd, dd, dd, dd, dd, dd, dd, dd, dd, dd, dd, dd, dd, dd, dd, dd, dd, dd, dd, dd, dd, dd, dd, dd, dd, dd, dd, dd, dd, dd, dd, dd, dd, dd, dd, dd, dd, dd, dd, dd, dd, dd, dd, dd, dd, dd, dd, dd, dd, dd, dd, dd, dd, dd, dd, dd, dd, dd, dd, dd, dd, dd, dd, dd, dd, dd, dd, dd, dd, dd, dd, dd, dd, dd, dd, dd, dd, dd, dd, dd, dd, dd, dd, dd, dd, dd, dd, dd, dd, dd, dd, dd, dd, dd, dd, dd, dd, dd, dd, dd, dd, dd, dd, dd, dd, dd, dd, dd, dd, dd, dd, dd, dd, dd, dd, dd, dd, dd, dd, dd, dd, dd, dd, dd, dd, dd, dd, dd, dd, dd, dd, dd, dd, dd, dd, dd], [.box [.d (.v (.int .i64 v_r65.1.fUser)), .d (.v (.int .i64 v_r65.1.fGroup)), .d (.sl (v_r65.1.fMore.map (eI .i64))), .d (.v (.int .i64 v_r65.1.fCaps)), .d (.v (.int .i64 v_r65.1.fLevel)), .d (.v (.int .i64 v_r65.1.fKind))], .box [.d (.v (.int .i64 v_r71.1.fUser)), .d (.v (.int .i64 v_r71.1.fGroup)), .d (.sl (v_r71.1.fMore.map (eI .i64))), .d (.v (.int .i64 v_r71.1.fCaps)), .d (.v (.int .i64 v_r71.1.fLevel)), .d (.v (.int .i64 v_r71.1.fKind))], .box [.d (.v (.int .i64 v_r149.1.fUser)), .d (.v (.int .i64 v_r149.1.fGroup)), .d (.sl (v_r149.1.fMore.map (eI .i64))), .d (.v (.int .i64 v_r149.1.fCaps)), .d (.v (.int .i64 v_r149.1.fLevel)), .d (.v (.int .i64 v_r149.1.fKind))], .box [.d (.v (.int .i64 v_c1.fUser)), .d (.v (.int .i64 v_c1.fGroup)), .d (.sl (v_c1.fMore.map (eI .i64))), .d (.v (.int .i64 v_c1.fCaps)), .d (.v (.int .i64 v_c1.fLevel)), .d (.v (.int .i64 v_c1.fKind))], .box [.d (.v (.int .i64 v_n2)), .d (.v (.int .i64 v_c1.fGroup)), .d (.sl (v_c1.fMore.map (eI .i64))), .d (.v (.int .i64 0)), .d (.v (.int .i64 v_c1.fLevel)), .d (.v (.int .i64 v_c1.fKind))], .box [.d (.v (.int .i64 v_c1.fUser)), .d (.v (.int .i64 v_c1.fGroup)), .srf 6, .d (.v (.int .i64 v_c1.fCaps)), .d (.v (.int .i64 v_c1.fLevel)), .d (.v (.int .i64 v_c1.fKind))], .row 3 1 (v_z566.map (eI .i64))]⟩
def G_ringlaw5_CredSays_C20 (n : Nat) (v_z426 : Int) (v_z543 : Int) (v_z544 : Int) (v_r65 : (S_api_Cred × Int)) (v_r71 : (S_api_Cred × Int)) (v_r149 : (S_api_Cred × Int)) (v_c1 : S_api_Cred) (v_n2 : Int) (v_z566 : (List Int)) : Option G_ringlaw5_CredSays_C20_R :=
  (G_ringlaw5_pick n v_z426 v_c1).bind fun (v_r581 : (S_api_Cred)) =>
  (G_ringref5_SameCred n v_r65.1 v_r581).bind fun (v_r582 : (Bool)) =>
  if v_r582 = true then
   (G_ringlaw5_pick n v_z543 (S_api_Cred.mk v_n2 v_c1.fGroup v_c1.fMore 0 v_c1.fLevel v_c1.fKind)).bind fun (v_r583 : (S_api_Cred)) =>
   (G_ringref5_SameCred n v_r71.1 v_r583).bind fun (v_r584 : (Bool)) =>
   if v_r584 = true then
    (G_ringlaw5_pick n v_z544 (S_api_Cred.mk v_c1.fUser v_c1.fGroup v_z566 v_c1.fCaps v_c1.fLevel v_c1.fKind)).bind fun (v_r585 : (S_api_Cred)) =>
    (G_ringref5_SameCred n v_r149.1 v_r585).bind fun (v_r586 : (Bool)) =>
    some (.x0 v_r586)
   else
    some (.x0 false)
  else
   some (.x0 false)
theorem G_ringlaw5_CredSays_C20_ok {Fi : Ex → PS → Prop} (hF : KC 233 Fi) (ks : List Fr) (n : Nat) (v_z426 : Int) (v_z543 : Int) (v_z544 : Int) (v_r65 : (S_api_Cred × Int)) (v_r71 : (S_api_Cred × Int)) (v_r149 : (S_api_Cred × Int)) (v_c1 : S_api_Cred) (v_n2 : Int) (v_z566 : (List Int))  (o : G_ringlaw5_CredSays_C20_R) (h : G_ringlaw5_CredSays_C20 n v_z426 v_z543 v_z544 v_r65 v_r71 v_r149 v_c1 v_n2 v_z566 = some o) (q : RunE Try.prog 233 Fi ks (G_ringlaw5_CredSays_C20_ex o) (G_ringlaw5_CredSays_C20_st v_z426 v_z543 v_z544 v_r65 v_r71 v_r149 v_c1 v_n2 v_z566 o)) : RunE Try.prog 233 Fi (.s (cL (cR (cR (cR (cR (cR (cR (cR (cR (cR (cR (cR (cR (cR (cR (cR (cR (cR (cR (bodyOf Try.f3)))))))))))))))))))) :: ks) .normal (G_ringlaw5_CredSays_C20_hd v_z426 v_z543 v_z544 v_r65 v_r71 v_r149 v_c1 v_n2 v_z566) := by
  unfold G_ringlaw5_CredSays_C20 at h
  obtain ⟨v_r581, h641, h⟩ := bind_some h
  obtain ⟨v_r582, h642, h⟩ := bind_some h
  by_cases h643 : v_r582 = true
  · rw [if_pos h643] at h
    obtain ⟨v_r583, h644, h⟩ := bind_some h
    obtain ⟨v_r584, h645, h⟩ := bind_some h
    by_cases h646 : v_r584 = true
    · rw [if_pos h646] at h
      obtain ⟨v_r585, h647, h⟩ := bind_some h
      obtain ⟨v_r586, h648, h⟩ := bind_some h
      cases h
      exact pkk_sound TTok mix hF 2 (hs := [.fz 6, .c, .c, .r (eS_api_Cred v_r581), .r (eB v_r582), .t true, .c, .c, .c, .c, .c, .r (eS_api_Cred v_r583), .c, .r (eB v_r584), .t true, .c, .c, .c, .c, .c, .r (eS_api_Cred v_r585), .c, .r (eB v_r586)]) (ts := []) (s := []) (l := [4]) (by kernel_rfl) (by kernel_rfl) (.cons (G_ringlaw5_pick_ok n v_z426 v_c1 _ h641) (.cons (G_ringref5_SameCred_ok n v_r65.1 v_r581 _ h642) (.cons h643 (.cons (G_ringlaw5_pick_ok n v_z543 (S_api_Cred.mk v_n2 v_c1.fGroup v_c1.fMore 0 v_c1.fLevel v_c1.fKind) _ h644) (.cons (G_ringref5_SameCred_ok n v_r71.1 v_r583 _ h645) (.cons h646 (.cons (G_ringlaw5_pick_ok n v_z544 (S_api_Cred.mk v_c1.fUser v_c1.fGroup v_z566 v_c1.fCaps v_c1.fLevel v_c1.fKind) _ h647) (.cons (G_ringref5_SameCred_ok n v_r149.1 v_r585 _ h648) .nil)))))))) q
    · rw [if_neg h646] at h
      cases h
      exact pkk_sound TTok mix hF 2 (hs := [.fz 6, .c, .c, .r (eS_api_Cred v_r581), .r (eB v_r582), .t true, .c, .c, .c, .c, .c, .r (eS_api_Cred v_r583), .c, .r (eB v_r584), .t false, .c, .c, .c, .c]) (ts := []) (s := []) (l := [4]) (by kernel_rfl) (by kernel_rfl) (.cons (G_ringlaw5_pick_ok n v_z426 v_c1 _ h641) (.cons (G_ringref5_SameCred_ok n v_r65.1 v_r581 _ h642) (.cons h643 (.cons (G_ringlaw5_pick_ok n v_z543 (S_api_Cred.mk v_n2 v_c1.fGroup v_c1.fMore 0 v_c1.fLevel v_c1.fKind) _ h644) (.cons (G_ringref5_SameCred_ok n v_r71.1 v_r583 _ h645) (.cons (vf h646) .nil)))))) q
  · rw [if_neg h643] at h
    cases h
    exact pkk_sound TTok mix hF 2 (hs := [.fz 6, .c, .c, .r (eS_api_Cred v_r581), .r (eB v_r582), .t false, .c, .c, .c, .c, .c, .c, .c, .c, .c]) (ts := []) (s := []) (l := [4]) (by kernel_rfl) (by kernel_rfl) (.cons (G_ringlaw5_pick_ok n v_z426 v_c1 _ h641) (.cons (G_ringref5_SameCred_ok n v_r65.1 v_r581 _ h642) (.cons (vf h643) .nil))) q
inductive G_ringlaw5_CredSays_C21_R where
  | x0 (v_x592 : Bool) (v_w593 : (List Int))
def G_ringlaw5_CredSays_C21_ex : G_ringlaw5_CredSays_C21_R → Ex
  | .x0 _ _ => .normal
def G_ringlaw5_CredSays_C21_st (v_n2 : Int) (v_r51 : (Bool × Int)) (v_r65 : (S_api_Cred × Int)) (v_r71 : (S_api_Cred × Int)) (v_r149 : (S_api_Cred × Int)) (v_z426 : Int) (v_z543 : Int) (v_z544 : Int) (v_c1 : S_api_Cred) (v_z545 : (List Int)) : G_ringlaw5_CredSays_C21_R → PS
  | .x0 v_x592 v_w593 => ⟨[dd, dd, dd, dd, dd, dd, dd, dd, dd, .ref 0 0, dd, .ref 1 0, dd, .ref 2 0, dd, dd, dd, dd, .ref 3 0, .ref 4 0, .ref 5 0, .d (.v (.int .i64 v_z426)), .d (.v (.int .i64 v_z543)), .d (.v (.int .i64 v_z544)), dd, dd, dd, dd, dd, dd, dd, dd, dd, dd, dd, dd, dd, dd, dd, dd, dd, dd, dd, dd, dd, dd, dd, dd, dd, dd, dd, dd, dd, dd, dd, dd, dd, dd, dd, dd, dd, dd, dd, dd, dd, dd, dd, dd, dd, dd, dd, dd, dd, dd, dd, dd, dd, dd, dd, dd, dd, dd, dd, dd, dd, dd, dd, dd, dd, dd, dd, dd, dd, dd, dd, dd, dd, dd, dd, dd, dd, dd, dd, dd, dd, dd, dd, dd, dd, dd, dd, dd, dd, dd, dd, dd, dd, dd, dd, dd, dd, dd, dd, dd, dd, dd, dd, dd, dd, dd, dd, dd, dd, dd, dd, dd, dd, dd, dd, dd, dd, dd, dd, dd, dd, dd, dd, dd, dd, dd, dd, dd, dd, dd, dd, dd, dd, dd, dd, dd, dd, dd, dd, dd, dd, dd, dd, dd, dd, dd, dd, dd, dd, dd, dd, dd, dd, dd, dd, dd, dd, dd, dd, dd, dd, dd, dd, dd, dd, dd, dd, dd, dd, dd, dd, dd, dd, dd, dd, dd, dd, dd, dd, dd, dd, dd, dd, dd, dd, dd, dd, dd, dd, .d (.v (.bool v_x592)), dd, dd, dd, dd, dd, dd, dd, dd, dd, dd, dd, dd, dd, dd, dd, dd, dd, dd, dd], [.box [.d (.v (.int .i64 v_r65.1.fUser)), .d (.v (.int .i64 v_r65.1.fGroup)), .d (.sl (v_r65.1.fMore.map (eI .i64))), .d (.v (.int .i64 v_r65.1.fCaps)), .d (.v (.int .i64 v_r65.1.fLevel)), .d (.v (.int .i64 v_r65.1.fKind))], .box [.d (.v (.int .i64 v_r71.1.fUser)), .d (.v (.int .i64 v_r71.1.fGroup)), .d (.sl (v_r71.1.fMore.map (eI .i64))), .d (.v (.int .i64 v_r71.1.fCaps)), .d (.v (.int .i64 v_r71.1.fLevel)), .d (.v (.int .i64 v_r71.1.fKind))], .box [.d (.v (.int .i64 v_r149.1.fUser)), .d (.v (.int .i64 v_r149.1.fGroup)), .d (.sl (v_r149.1.fMore.map (eI .i64))), .d (.v (.int .i64 v_r149.1.fCaps)), .d (.v (.int .i64 v_r149.1.fLevel)), .d (.v (.int .i64 v_r149.1.fKind))], .box [.d (.v (.int .i64 v_c1.fUser)), .d (.v (.int .i64 v_c1.fGroup)), .d (.sl (v_c1.fMore.map (eI .i64))), .d (.v (.int .i64 v_c1.fCaps)), .d (.v (.int .i64 v_c1.fLevel)), .d (.v (.int .i64 v_c1.fKind))], .box [.d (.v (.int .i64 v_n2)), .d (.v (.int .i64 v_c1.fGroup)), .d (.sl (v_c1.fMore.map (eI .i64))), .d (.v (.int .i64 v_c1.fCaps)), .d (.v (.int .i64 v_c1.fLevel)), .d (.v (.int .i64 v_c1.fKind))], .box [.d (.v (.int .i64 v_c1.fUser)), .d (.v (.int .i64 v_c1.fGroup)), .srf 6, .d (.v (.int .i64 v_c1.fCaps)), .d (.v (.int .i64 v_c1.fLevel)), .d (.v (.int .i64 v_c1.fKind))], .row 3 1 (v_w593.map (eI .i64))]⟩
def G_ringlaw5_CredSays_C21_hd (v_n2 : Int) (v_r51 : (Bool × Int)) (v_r65 : (S_api_Cred × Int)) (v_r71 : (S_api_Cred × Int)) (v_r149 : (S_api_Cred × Int)) (v_z426 : Int) (v_z543 : Int) (v_z544 : Int) (v_c1 : S_api_Cred) (v_z545 : (List Int))  : PS := ⟨[dd, .d (.v (.int .i64 v_n2)), .ref 0 0, dd, dd, dd, dd, .d (.v (.bool v_r51.1)), .d (.v (.int .i64 v_r51.2)), .ref 1 0, .d (.v (.int .i64 v_r65.2)), .ref 2 0, .d (.v (.int .i64 v_r71.2)), .ref 3 0, .d (.v (.int .i64 v_r149.2)), dd, dd, dd, .ref 4 0, .ref 5 0, .ref 6 0, .d (.v (.int .i64 v_z426)), .d (.v (.int .i64 v_z543)), .d (.v (.int .i64 v_z544)), dd, dd, dd, dd, dd, dd, dd, dd, dd, dd, dd, dd, dd, dd, dd, dd, dd, dd, dd, dd, dd, dd, dd, dd, dd, dd, dd, dd, dd, dd, dd, dd, dd, dd, dd, dd, dd, dd, dd, dd, dd, dd, dd, dd, dd, dd, dd, dd, dd, dd, dd, dd, dd, dd, dd, dd, dd, dd, dd, dd, dd, dd, dd, dd, dd, dd, dd, dd, dd, dd, dd, dd, dd, dd, dd, dd, dd, dd, dd, dd, dd, dd, dd, dd, dd, dd, dd, dd, dd, dd, dd, dd, dd, dd, dd, dd, dd, dd, dd, dd, dd, dd, dd, dd, dd, dd, dd, dd, dd, dd, dd, dd, dd, dd, dd, dd, dd, dd, dd, dd, dd, dd, dd, dd, dd, dd, dd, dd, dd, dd, dd, dd, dd, dd, dd, dd, dd, dd, dd, dd, dd, dd, dd, dd, dd, dd, dd, dd, dd, dd, dd, dd, dd, dd, dd, dd, dd, dd, dd, dd, dd, dd, dd, dd, dd, dd, dd, dd, dd, dd, dd, dd, dd, dd, dd, dd, dd, dd, dd, dd, dd, dd, dd, dd, dd, dd, dd, dd, dd, dd, dd, dd, dd, dd, dd, dd, dd, dd, dd, dd, dd, dd, dd, dd, dd, dd, dd, dd, dd], [.box [.d (.v (.int .i64 v_c1.fUser)), .d (.v (.int .i64 v_c1.fGroup)), .d (.sl (v_c1.fMore.map (eI .i64))), .d (.v (.int .i64 v_c1.fCaps)), .d (.v (.int .i64 v_c1.fLevel)), .d (.v (.int .i64 v_c1.fKind))], .box [.d (.v (.int .i64 v_r65.1.fUser)), .d (.v (.int .i64 v_r65.1.fGroup)), .d (.sl (v_r65.1.fMore.map (eI .i64))), .d (.v (.int .i64 v_r65.1.fCaps)), .d (.v (.int .i64 v_r65.1.fLevel)), .d (.v (.int .i64 v_r65.1.fKind))], .box [.d (.v (.int .i64 v_r71.1.fUser)), .d (.v (.int .i64 v_r71.1.fGroup)), .d (.sl (v_r71.1.fMore.map (eI .i64))), .d (.v (.int .i64 v_r71.1.fCaps)), .d (.v (.int .i64 v_r71.1.fLevel)), .d (.v (.int .i64 v_r71.1.fKind))], .box [.d (.v (.int .i64 v_r149.1.fUser)), .d (.v (.int .i64 v_r149.1.fGroup)), .d (.sl (v_r149.1.fMore.map (eI .i64))), .d (.v (.int .i64 v_r149.1.fCaps)), .d (.v (.int .i64 v_r149.1.fLevel)), .d (.v (.int .i64 v_r149.1.fKind))], .box [.d (.v (.int .i64 v_c1.fUser)), .d (.v (.int .i64 v_c1.fGroup)), .d (.sl (v_c1.fMore.map (eI .i64))), .d (.v (.int .i64 v_c1.fCaps)), .d (.v (.int .i64 v_c1.fLevel)), .d (.v (.int .i64 v_c1.fKind))], .box [.d (.v (.int .i64 v_n2)), .d (.v (.int .i64 v_c1.fGroup)), .d (.sl (v_c1.fMore.map (eI .i64))), .d (.v (.int .i64 v_c1.fCaps)), .d (.v (.int .i64 v_c1.fLevel)), .d (.v (.int .i64 v_c1.fKind))], .box [.d (.v (.int .i64 v_c1.fUser)), .d (.v (.int .i64 v_c1.fGroup)), .srf 7, .d (.v (.int .i64 v_c1.fCaps)), .d (.v (.int .i64 v_c1.fLevel)), .d (.v (.int .i64 v_c1.fKind))], .row 3 1 (v_z545.map (eI .i64))]⟩
def G_ringlaw5_CredSays_C21 (n : Nat) (v_n2 : Int) (v_r51 : (Bool × Int)) (v_r65 : (S_api_Cred × Int)) (v_r71 : (S_api_Cred × Int)) (v_r149 : (S_api_Cred × Int)) (v_z426 : Int) (v_z543 : Int) (v_z544 : Int) (v_c1 : S_api_Cred) (v_z545 : (List Int)) : Option G_ringlaw5_CredSays_C21_R :=
  if v_r51.2 = v_z426 then
   if v_z426 = 0 then
    if (eqRes .neq (v_r51.1 == (v_c1.fCaps == (wi .i64 (v_c1.fCaps - v_n2))))) = true then
     some (.x0 true v_z545)
    else
     if v_r65.2 = v_z426 then
      if v_r71.2 = v_z543 then
       some (.x0 (v_r149.2 != v_z544) v_z545)
      else
       some (.x0 true v_z545)
     else
      some (.x0 true v_z545)
   else
    if (eqRes .neq (v_r51.1 == false)) = true then
     some (.x0 true v_z545)
    else
     if v_r65.2 = v_z426 then
      if v_r71.2 = v_z543 then
       some (.x0 (v_r149.2 != v_z544) v_z545)
      else
       some (.x0 true v_z545)
     else
      some (.x0 true v_z545)
  else
   some (.x0 true v_z545)
theorem G_ringlaw5_CredSays_C21_ok {Fi : Ex → PS → Prop} (hF : KC 233 Fi) (ks : List Fr) (n : Nat) (v_n2 : Int) (v_r51 : (Bool × Int)) (v_r65 : (S_api_Cred × Int)) (v_r71 : (S_api_Cred × Int)) (v_r149 : (S_api_Cred × Int)) (v_z426 : Int) (v_z543 : Int) (v_z544 : Int) (v_c1 : S_api_Cred) (v_z545 : (List Int))  (o : G_ringlaw5_CredSays_C21_R) (h : G_ringlaw5_CredSays_C21 n v_n2 v_r51 v_r65 v_r71 v_r149 v_z426 v_z543 v_z544 v_c1 v_z545 = some o) (q : RunE Try.prog 233 Fi ks (G_ringlaw5_CredSays_C21_ex o) (G_ringlaw5_CredSays_C21_st v_n2 v_r51 v_r65 v_r71 v_r149 v_z426 v_z543 v_z544 v_c1 v_z545 o)) : RunE Try.prog 233 Fi (.s (cL (cL (cR (cR (cR (cR (cR (cR (cR (cR (cR (cR (cR (cR (cR (cR (cR (cR (cR (bodyOf Try.f3)))))))))))))))))))) :: ks) .normal (G_ringlaw5_CredSays_C21_hd v_n2 v_r51 v_r65 v_r71 v_r149 v_z426 v_z543 v_z544 v_c1 v_z545) := by
  unfold G_ringlaw5_CredSays_C21 at h
  by_cases h658 : v_r51.2 = v_z426
  · rw [if_pos h658] at h
    by_cases h659 : v_z426 = 0
    · rw [if_pos h659] at h
      by_cases h660 : (eqRes .neq (v_r51.1 == (v_c1.fCaps == (wi .i64 (v_c1.fCaps - v_n2))))) = true
      · rw [if_pos h660] at h
        cases h
        exact pkk_sound TTok mix hF 1 (hs := [.t false, .c, .c, .c, .t true, .c, .c, .c, .c, .c, .c, .c, .c, .c, .c, .t true, .c, .c, .c, .c, .c, .c, .c, .c]) (ts := []) (s := [1, 2, 3, 4, 5, 6, 7]) (l := [9, 11, 13, 18, 19, 20, 21, 22, 23, 213]) (by kernel_rfl) (by kernel_rfl) (.cons (nf h658) (.cons (bt h659) (.cons h660 .nil))) q
      · rw [if_neg h660] at h
        by_cases h661 : v_r65.2 = v_z426
        · rw [if_pos h661] at h
          by_cases h662 : v_r71.2 = v_z543
          · rw [if_pos h662] at h
            cases h
            exact pkk_sound TTok mix hF 1 (hs := [.t false, .c, .c, .c, .t true, .c, .c, .c, .c, .c, .c, .c, .c, .c, .c, .t false, .c, .c, .t false, .c, .c, .t false, .c, .c]) (ts := []) (s := [1, 2, 3, 4, 5, 6, 7]) (l := [9, 11, 13, 18, 19, 20, 21, 22, 23, 213]) (by kernel_rfl) (by kernel_rfl) (.cons (nf h658) (.cons (bt h659) (.cons (vf h660) (.cons (nf h661) (.cons (nf h662) .nil))))) q
          · rw [if_neg h662] at h
            cases h
            exact pkk_sound TTok mix hF 1 (hs := [.t false, .c, .c, .c, .t true, .c, .c, .c, .c, .c, .c, .c, .c, .c, .c, .t false, .c, .c, .t false, .c, .c, .t true, .c, .c]) (ts := []) (s := [1, 2, 3, 4, 5, 6, 7]) (l := [9, 11, 13, 18, 19, 20, 21, 22, 23, 213]) (by kernel_rfl) (by kernel_rfl) (.cons (nf h658) (.cons (bt h659) (.cons (vf h660) (.cons (nf h661) (.cons (nt h662) .nil))))) q
        · rw [if_neg h661] at h
          cases h
          exact pkk_sound TTok mix hF 1 (hs := [.t false, .c, .c, .c, .t true, .c, .c, .c, .c, .c, .c, .c, .c, .c, .c, .t false, .c, .c, .t true, .c, .c, .c, .c, .c]) (ts := []) (s := [1, 2, 3, 4, 5, 6, 7]) (l := [9, 11, 13, 18, 19, 20, 21, 22, 23, 213]) (by kernel_rfl) (by kernel_rfl) (.cons (nf h658) (.cons (bt h659) (.cons (vf h660) (.cons (nt h661) .nil)))) q
    · rw [if_neg h659] at h
      by_cases h663 : (eqRes .neq (v_r51.1 == false)) = true
      · rw [if_pos h663] at h
        cases h
        exact pkk_sound TTok mix hF 1 (hs := [.t false, .c, .c, .c, .t false, .c, .c, .c, .c, .c, .c, .c, .c, .t true, .c, .c, .c, .c, .c, .c, .c, .c]) (ts := []) (s := [1, 2, 3, 4, 5, 6, 7]) (l := [9, 11, 13, 18, 19, 20, 21, 22, 23, 213]) (by kernel_rfl) (by kernel_rfl) (.cons (nf h658) (.cons (bf h659) (.cons h663 .nil))) q
      · rw [if_neg h663] at h
        by_cases h664 : v_r65.2 = v_z426
        · rw [if_pos h664] at h
          by_cases h665 : v_r71.2 = v_z543
          · rw [if_pos h665] at h
            cases h
            exact pkk_sound TTok mix hF 1 (hs := [.t false, .c, .c, .c, .t false, .c, .c, .c, .c, .c, .c, .c, .c, .t false, .c, .c, .t false, .c, .c, .t false, .c, .c]) (ts := []) (s := [1, 2, 3, 4, 5, 6, 7]) (l := [9, 11, 13, 18, 19, 20, 21, 22, 23, 213]) (by kernel_rfl) (by kernel_rfl) (.cons (nf h658) (.cons (bf h659) (.cons (vf h663) (.cons (nf h664) (.cons (nf h665) .nil))))) q
          · rw [if_neg h665] at h
            cases h
            exact pkk_sound TTok mix hF 1 (hs := [.t false, .c, .c, .c, .t false, .c, .c, .c, .c, .c, .c, .c, .c, .t false, .c, .c, .t false, .c, .c, .t true, .c, .c]) (ts := []) (s := [1, 2, 3, 4, 5, 6, 7]) (l := [9, 11, 13, 18, 19, 20, 21, 22, 23, 213]) (by kernel_rfl) (by kernel_rfl) (.cons (nf h658) (.cons (bf h659) (.cons (vf h663) (.cons (nf h664) (.cons (nt h665) .nil))))) q
        · rw [if_neg h664] at h
          cases h
          exact pkk_sound TTok mix hF 1 (hs := [.t false, .c, .c, .c, .t false, .c, .c, .c, .c, .c, .c, .c, .c, .t false, .c, .c, .t true, .c, .c, .c, .c, .c]) (ts := []) (s := [1, 2, 3, 4, 5, 6, 7]) (l := [9, 11, 13, 18, 19, 20, 21, 22, 23, 213]) (by kernel_rfl) (by kernel_rfl) (.cons (nf h658) (.cons (bf h659) (.cons (vf h663) (.cons (nt h664) .nil)))) q
  · rw [if_neg h658] at h
    cases h
    exact pkk_sound TTok mix hF 1 (hs := [.t true, .c, .c, .c, .c, .c, .c, .c, .c, .c, .c, .c, .c, .c, .c]) (ts := []) (s := [1, 2, 3, 4, 5, 6, 7]) (l := [9, 11, 13, 18, 19, 20, 21, 22, 23, 213]) (by kernel_rfl) (by kernel_rfl) (.cons (nt h658) .nil) q
inductive G_ringlaw5_CredSays_C22_R where
  | x0 (v_x633 : Bool)
def G_ringlaw5_CredSays_C22_ex : G_ringlaw5_CredSays_C22_R → Ex
  | .x0 _ => .normal
def G_ringlaw5_CredSays_C22_st (v_z426 : Int) (v_z543 : Int) (v_z544 : Int) (v_r65 : (S_api_Cred × Int)) (v_r71 : (S_api_Cred × Int)) (v_r149 : (S_api_Cred × Int)) (v_c1 : S_api_Cred) (v_n2 : Int) (v_z612 : (List Int)) : G_ringlaw5_CredSays_C22_R → PS
  | .x0 v_x633 => ⟨[dd, dd, dd, dd, .d (.v (.bool v_x633)), dd, dd, dd, dd, dd, dd, dd, dd, dd, dd, dd, dd, dd, dd, dd, dd, dd, dd, dd, dd, dd, dd, dd, dd, dd, dd, dd, dd, dd, dd, dd, dd, dd, dd, dd, dd, dd, dd, dd, dd, dd, dd, dd, dd, dd, dd, dd, dd, dd, dd, dd, dd, dd, dd, dd, dd, dd, dd, dd, dd, dd, dd, dd, dd, dd, dd, dd, dd, dd, dd, dd, dd, dd, dd, dd, dd, dd, dd, dd, dd, dd, dd, dd, dd, dd, dd, dd, dd, dd, dd, dd, dd, dd, dd, dd, dd, dd, dd, dd, dd, dd, dd, dd, dd, dd, dd, dd, dd, dd, dd, dd, dd, dd, dd, dd, dd, dd, dd, dd, dd, dd, dd, dd, dd, dd, dd, dd, dd, dd, dd, dd, dd, dd, dd, dd, dd, dd, dd, dd, dd, dd, dd, dd, dd, dd, dd, dd, dd, dd, dd, dd, dd, dd, dd, dd, dd, dd, dd, dd, dd, dd, dd, dd, dd, dd, dd, dd, dd, dd, dd, dd, dd, dd, dd, dd, dd, dd, dd, dd, dd, dd, dd, dd, dd, dd, dd, dd, dd, dd, dd, dd, dd, dd, dd, dd, dd, dd, dd, dd, dd, dd, dd, dd, dd, dd, dd, dd, dd, dd, dd, dd, dd, dd, dd, dd, dd, dd, dd, dd, dd, dd, dd, dd, dd, dd, dd, dd, dd], []⟩
def G_ringlaw5_CredSays_C22_hd (v_z426 : Int) (v_z543 : Int) (v_z544 : Int) (v_r65 : (S_api_Cred × Int)) (v_r71 : (S_api_Cred × Int)) (v_r149 : (S_api_Cred × Int)) (v_c1 : S_api_Cred) (v_n2 : Int) (v_z612 : (List Int))  : PS := ⟨[dd, dd, dd, dd, dd, dd, dd, dd, dd, .ref 0 0, dd, .ref 1 0, dd, .ref 2 0, dd, dd, dd, dd, .ref 3 0, .ref 4 0, .ref 5 0, .d (.v (.int .i64 v_z426)), .d (.v (.int .i64 v_z543)), .d (.v (.int .i64 v_z544)), dd, dd, dd, dd, dd, dd, dd, dd, dd, dd, dd, dd, dd, dd, dd, dd, dd, dd, dd, dd, dd, dd, dd, dd, dd, dd, dd, dd, dd, dd, dd, dd, dd, dd, dd, dd, dd, dd, dd, dd, dd, dd, dd, dd, dd, dd, dd, dd, dd, dd, dd, dd, dd, dd, dd, dd, dd, dd, dd, dd, dd, dd, dd, dd, dd, dd, dd, dd, dd, dd, dd, dd, dd, dd, dd, dd, dd, dd, dd, dd, dd, dd, dd, dd, dd, dd, dd, dd, dd, dd, dd, dd, dd, dd, dd, dd, dd, dd, dd, dd, dd, dd, dd, dd, dd, dd, dd, dd, dd, dd, dd, dd, dd, dd, dd, dd, dd, dd, dd, dd, dd, dd, dd, dd, dd, dd, dd, dd, dd, dd, dd, dd, dd, dd, dd, dd, dd, dd, dd, dd, dd, dd, dd, dd, dd, dd, dd, dd, dd, dd, dd, dd, dd, dd, dd, dd, dd, dd, dd, dd, dd, dd, dd, dd, dd, dd, dd, dd, dd, dd, dd, dd, dd, dd, dd, dd, dd, dd, dd, dd, dd, dd, dd, dd, dd, dd, dd, dd, dd, dd, dd, dd, dd, dd, dd, dd, dd, dd, dd, dd, dd, dd, dd, dd, dd, dd, dd, dd, dd], [.box [.d (.v (.int .i64 v_r65.1.fUser)), .d (.v (.int .i64 v_r65.1.fGroup)), .d (.sl (v_r65.1.fMore.map (eI .i64))), .d (.v (.int .i64 v_r65.1.fCaps)), .d (.v (.int .i64 v_r65.1.fLevel)), .d (.v (.int .i64 v_r65.1.fKind))], .box [.d (.v (.int .i64 v_r71.1.fUser)), .d (.v (.int .i64 v_r71.1.fGroup)), .d (.sl (v_r71.1.fMore.map (eI .i64))), .d (.v (.int .i64 v_r71.1.fCaps)), .d (.v (.int .i64 v_r71.1.fLevel)), .d (.v (.int .i64 v_r71.1.fKind))], .box [.d (.v (.int .i64 v_r149.1.fUser)), .d (.v (.int .i64 v_r149.1.fGroup)), .d (.sl (v_r149.1.fMore.map (eI .i64))), .d (.v (.int .i64 v_r149.1.fCaps)), .d (.v (.int .i64 v_r149.1.fLevel)), .d (.v (.int .i64 v_r149.1.fKind))], .box [.d (.v (.int .i64 v_c1.fUser)), .d (.v (.int .i64 v_c1.fGroup)), .d (.sl (v_c1.fMore.map (eI .i64))), .d (.v (.int .i64 v_c1.fCaps)), .d (.v (.int .i64 v_c1.fLevel)), .d (.v (.int .i64 v_c1.fKind))], .box [.d (.v (.int .i64 v_n2)), .d (.v (.int .i64 v_c1.fGroup)), .d (.sl (v_c1.fMore.map (eI .i64))), .d (.v (.int .i64 v_c1.fCaps)), .d (.v (.int .i64 v_c1.fLevel)), .d (.v (.int .i64 v_c1.fKind))], .box [.d (.v (.int .i64 v_c1.fUser)), .d (.v (.int .i64 v_c1.fGroup)), .srf 6, .d (.v (.int .i64 v_c1.fCaps)), .d (.v (.int .i64 v_c1.fLevel)), .d (.v (.int .i64 v_c1.fKind))], .row 3 1 (v_z612.map (eI .i64))]⟩
def G_ringlaw5_CredSays_C22 (n : Nat) (v_z426 : Int) (v_z543 : Int) (v_z544 : Int) (v_r65 : (S_api_Cred × Int)) (v_r71 : (S_api_Cred × Int)) (v_r149 : (S_api_Cred × Int)) (v_c1 : S_api_Cred) (v_n2 : Int) (v_z612 : (List Int)) : Option G_ringlaw5_CredSays_C22_R :=
  (G_ringlaw5_pick n v_z426 v_c1).bind fun (v_r627 : (S_api_Cred)) =>
  (G_ringref5_SameCred n v_r65.1 v_r627).bind fun (v_r628 : (Bool)) =>
  if v_r628 = true then
   (G_ringlaw5_pick n v_z543 (S_api_Cred.mk v_n2 v_c1.fGroup v_c1.fMore v_c1.fCaps v_c1.fLevel v_c1.fKind)).bind fun (v_r629 : (S_api_Cred)) =>
   (G_ringref5_SameCred n v_r71.1 v_r629).bind fun (v_r630 : (Bool)) =>
   if v_r630 = true then
    (G_ringlaw5_pick n v_z544 (S_api_Cred.mk v_c1.fUser v_c1.fGroup v_z612 v_c1.fCaps v_c1.fLevel v_c1.fKind)).bind fun (v_r631 : (S_api_Cred)) =>
    (G_ringref5_SameCred n v_r149.1 v_r631).bind fun (v_r632 : (Bool)) =>
    some (.x0 v_r632)
   else
    some (.x0 false)
  else
   some (.x0 false)
theorem G_ringlaw5_CredSays_C22_ok {Fi : Ex → PS → Prop} (hF : KC 233 Fi) (ks : List Fr) (n : Nat) (v_z426 : Int) (v_z543 : Int) (v_z544 : Int) (v_r65 : (S_api_Cred × Int)) (v_r71 : (S_api_Cred × Int)) (v_r149 : (S_api_Cred × Int)) (v_c1 : S_api_Cred) (v_n2 : Int) (v_z612 : (List Int))  (o : G_ringlaw5_CredSays_C22_R) (h : G_ringlaw5_CredSays_C22 n v_z426 v_z543 v_z544 v_r65 v_r71 v_r149 v_c1 v_n2 v_z612 = some o) (q : RunE Try.prog 233 Fi ks (G_ringlaw5_CredSays_C22_ex o) (G_ringlaw5_CredSays_C22_st v_z426 v_z543 v_z544 v_r65 v_r71 v_r149 v_c1 v_n2 v_z612 o)) : RunE Try.prog 233 Fi (.s (cL (cR (cR (cR (cR (cR (cR (cR (cR (cR (cR (cR (cR (cR (cR (cR (cR (cR (cR (bodyOf Try.f3)))))))))))))))))))) :: ks) .normal (G_ringlaw5_CredSays_C22_hd v_z426 v_z543 v_z544 v_r65 v_r71 v_r149 v_c1 v_n2 v_z612) := by
  unfold G_ringlaw5_CredSays_C22 at h
  obtain ⟨v_r627, h688, h⟩ := bind_some h
  obtain ⟨v_r628, h689, h⟩ := bind_some h
  by_cases h690 : v_r628 = true
  · rw [if_pos h690] at h
    obtain ⟨v_r629, h691, h⟩ := bind_some h
    obtain ⟨v_r630, h692, h⟩ := bind_some h
    by_cases h693 : v_r630 = true
    · rw [if_pos h693] at h
      obtain ⟨v_r631, h694, h⟩ := bind_some h
      obtain ⟨v_r632, h695, h⟩ := bind_some h
      cases h
      exact pkk_sound TTok mix hF 2 (hs := [.fz 6, .c, .c, .r (eS_api_Cred v_r627), .r (eB v_r628), .t true, .c, .c, .c, .c, .c, .r (eS_api_Cred v_r629), .c, .r (eB v_r630), .t true, .c, .c, .c, .c, .c, .r (eS_api_Cred v_r631), .c, .r (eB v_r632)]) (ts := []) (s := []) (l := [4]) (by kernel_rfl) (by kernel_rfl) (.cons (G_ringlaw5_pick_ok n v_z426 v_c1 _ h688) (.cons (G_ringref5_SameCred_ok n v_r65.1 v_r627 _ h689) (.cons h690 (.cons (G_ringlaw5_pick_ok n v_z543 (S_api_Cred.mk v_n2 v_c1.fGroup v_c1.fMore v_c1.fCaps v_c1.fLevel v_c1.fKind) _ h691) (.cons (G_ringref5_SameCred_ok n v_r71.1 v_r629 _ h692) (.cons h693 (.cons (G_ringlaw5_pick_ok n v_z544 (S_api_Cred.mk v_c1.fUser v_c1.fGroup v_z612 v_c1.fCaps v_c1.fLevel v_c1.fKind) _ h694) (.cons (G_ringref5_SameCred_ok n v_r149.1 v_r631 _ h695) .nil)))))))) q
    · rw [if_neg h693] at h
      cases h
      exact pkk_sound TTok mix hF 2 (hs := [.fz 6, .c, .c, .r (eS_api_Cred v_r627), .r (eB v_r628), .t true, .c, .c, .c, .c, .c, .r (eS_api_Cred v_r629), .c, .r (eB v_r630), .t false, .c, .c, .c, .c]) (ts := []) (s := []) (l := [4]) (by kernel_rfl) (by kernel_rfl) (.cons (G_ringlaw5_pick_ok n v_z426 v_c1 _ h688) (.cons (G_ringref5_SameCred_ok n v_r65.1 v_r627 _ h689) (.cons h690 (.cons (G_ringlaw5_pick_ok n v_z543 (S_api_Cred.mk v_n2 v_c1.fGroup v_c1.fMore v_c1.fCaps v_c1.fLevel v_c1.fKind) _ h691) (.cons (G_ringref5_SameCred_ok n v_r71.1 v_r629 _ h692) (.cons (vf h693) .nil)))))) q
  · rw [if_neg h690] at h
    cases h
    exact pkk_sound TTok mix hF 2 (hs := [.fz 6, .c, .c, .r (eS_api_Cred v_r627), .r (eB v_r628), .t false, .c, .c, .c, .c, .c, .c, .c, .c, .c]) (ts := []) (s := []) (l := [4]) (by kernel_rfl) (by kernel_rfl) (.cons (G_ringlaw5_pick_ok n v_z426 v_c1 _ h688) (.cons (G_ringref5_SameCred_ok n v_r65.1 v_r627 _ h689) (.cons (vf h690) .nil))) q
inductive G_ringlaw5_CredSays_C23_R where
  | x0 (v_wantB669 : Int) (v_wantJ670 : Int)
  | x1 (v_wantB680 : Int) (v_wantJ681 : Int) (v_w682 : (List Int))
def G_ringlaw5_CredSays_C23_ex : G_ringlaw5_CredSays_C23_R → Ex
  | .x0 _ _ => .normal
  | .x1 _ _ _ => .normal
def G_ringlaw5_CredSays_C23_st (v_n2 : Int) (v_r51 : (Bool × Int)) (v_r65 : (S_api_Cred × Int)) (v_r71 : (S_api_Cred × Int)) (v_r149 : (S_api_Cred × Int)) (v_r233 : (Bool)) (v_z638 : Int) (v_c1 : S_api_Cred) : G_ringlaw5_CredSays_C23_R → PS
  | .x0 v_wantB669 v_wantJ670 => ⟨[dd, .d (.v (.int .i64 v_n2)), .ref 0 0, dd, dd, dd, dd, .d (.v (.bool v_r51.1)), .d (.v (.int .i64 v_r51.2)), .ref 1 0, .d (.v (.int .i64 v_r65.2)), .ref 2 0, .d (.v (.int .i64 v_r71.2)), .ref 3 0, .d (.v (.int .i64 v_r149.2)), dd, dd, dd, .ref 4 0, .ref 5 0, .ref 6 0, .d (.v (.int .i64 v_z638)), .d (.v (.int .i64 v_wantB669)), .d (.v (.int .i64 v_wantJ670)), dd, dd, dd, dd, dd, dd, dd, dd, dd, dd, dd, dd, dd, dd, dd, dd, dd, dd, dd, dd, dd, dd, dd, dd, dd, dd, dd, dd, dd, dd, dd, dd, dd, dd, dd, dd, dd, dd, dd, dd, dd, dd, dd, dd, dd, dd, dd, dd, dd, dd, dd, dd, dd, dd, dd, dd, dd, dd, dd, dd, dd, dd, dd, dd, dd, dd, dd, dd, dd, dd, dd, dd, dd, dd, dd, dd, dd, dd, dd, dd, dd, dd, dd, dd, dd, dd, dd, dd, dd, dd, dd, dd, dd, dd, dd, dd, dd, dd, dd, dd, dd, dd, dd, dd, dd, dd, dd, dd, dd, dd, dd, dd, dd, dd, dd, dd, dd, dd, dd, dd, dd, dd, dd, dd, dd, dd, dd, dd, dd, dd, dd, dd, dd, dd, dd, dd, dd, dd, dd, dd, dd, dd, dd, dd, dd, dd, dd, dd, dd, dd, dd, dd, dd, dd, dd, dd, dd, dd, dd, dd, dd, dd, dd, dd, dd, dd, dd, dd, dd, dd, dd, dd, dd, dd, dd, dd, dd, dd, dd, dd, dd, dd, dd, dd, dd, dd, dd, dd, dd, dd, dd, dd, dd, dd, dd, dd, dd, dd, dd, dd, dd, dd, dd, dd, dd, dd, dd, dd, dd], [.box [.d (.v (.int .i64 v_c1.fUser)), .d (.v (.int .i64 v_c1.fGroup)), .d (.sl (v_c1.fMore.map (eI .i64))), .d (.v (.int .i64 v_c1.fCaps)), .d (.v (.int .i64 v_c1.fLevel)), .d (.v (.int .i64 v_c1.fKind))], .box [.d (.v (.int .i64 v_r65.1.fUser)), .d (.v (.int .i64 v_r65.1.fGroup)), .d (.sl (v_r65.1.fMore.map (eI .i64))), .d (.v (.int .i64 v_r65.1.fCaps)), .d (.v (.int .i64 v_r65.1.fLevel)), .d (.v (.int .i64 v_r65.1.fKind))], .box [.d (.v (.int .i64 v_r71.1.fUser)), .d (.v (.int .i64 v_r71.1.fGroup)), .d (.sl (v_r71.1.fMore.map (eI .i64))), .d (.v (.int .i64 v_r71.1.fCaps)), .d (.v (.int .i64 v_r71.1.fLevel)), .d (.v (.int .i64 v_r71.1.fKind))], .box [.d (.v (.int .i64 v_r149.1.fUser)), .d (.v (.int .i64 v_r149.1.fGroup)), .d (.sl (v_r149.1.fMore.map (eI .i64))), .d (.v (.int .i64 v_r149.1.fCaps)), .d (.v (.int .i64 v_r149.1.fLevel)), .d (.v (.int .i64 v_r149.1.fKind))], .box [.d (.v (.int .i64 v_c1.fUser)), .d (.v (.int .i64 v_c1.fGroup)), .d (.sl (v_c1.fMore.map (eI .i64))), .d (.v (.int .i64 (wi .i64 (v_c1.fCaps - (bits .and .i64 v_c1.fCaps v_n2))))), .d (.v (.int .i64 v_c1.fLevel)), .d (.v (.int .i64 v_c1.fKind))], .box [.d (.v (.int .i64 v_c1.fUser)), .d (.v (.int .i64 v_c1.fGroup)), .d (.sl (v_c1.fMore.map (eI .i64))), .d (.v (.int .i64 v_c1.fCaps)), .d (.v (.int .i64 v_c1.fLevel)), .d (.v (.int .i64 v_c1.fKind))], .box [.d (.v (.int .i64 v_c1.fUser)), .d (.v (.int .i64 v_c1.fGroup)), .d (.sl (v_c1.fMore.map (eI .i64))), .d (.v (.int .i64 v_c1.fCaps)), .d (.v (.int .i64 v_c1.fLevel)), .d (.v (.int .i64 v_c1.fKind))]]⟩
  | .x1 v_wantB680 v_wantJ681 v_w682 => ⟨[dd, .d (.v (.int .i64 v_n2)), .ref 0 0, dd, dd, dd, dd, .d (.v (.bool v_r51.1)), .d (.v (.int .i64 v_r51.2)), .ref 1 0, .d (.v (.int .i64 v_r65.2)), .ref 2 0, .d (.v (.int .i64 v_r71.2)), .ref 3 0, .d (.v (.int .i64 v_r149.2)), dd, dd, dd, .ref 4 0, .ref 5 0, .ref 6 0, .d (.v (.int .i64 v_z638)), .d (.v (.int .i64 v_wantB680)), .d (.v (.int .i64 v_wantJ681)), dd, dd, dd, dd, dd, dd, dd, dd, dd, dd, dd, dd, dd, dd, dd, dd, dd, dd, dd, dd, dd, dd, dd, dd, dd, dd, dd, dd, dd, dd, dd, dd, dd, dd, dd, dd, dd, dd, dd, dd, dd, dd, dd, dd, dd, dd, dd, dd, dd, dd, dd, dd, dd, dd, dd, dd, dd, dd, dd, dd, dd, dd, dd, dd, dd, dd, dd, dd, dd, dd, dd, dd, dd, dd, dd, dd, dd, dd, dd, dd, dd, dd, dd, dd, dd, dd, dd, dd, dd, dd, dd, dd, dd, dd, dd, dd, dd, dd, dd, dd, dd, dd, dd, dd, dd, dd, dd, dd, dd, dd, dd, dd, dd, dd, dd, dd, dd, dd, dd, dd, dd, dd, dd, dd, dd, dd, dd, dd, dd, dd, dd, dd, dd, dd, dd, dd, dd, dd, dd, dd, dd, dd, dd, dd, dd, dd, dd, dd, dd, dd, dd, dd, dd, dd, dd, dd, dd, dd, dd, dd, dd, dd, dd, dd, dd, dd, dd, dd, dd, dd, dd, dd, dd, dd, dd, dd, dd, dd, dd, dd, dd, dd, dd, dd, dd, dd, dd, dd, dd, dd, dd, dd, dd, dd, dd, dd, dd, dd, dd, dd, dd, dd, dd, dd, dd, dd, dd, dd, dd], [.box [.d (.v (.int .i64 v_c1.fUser)), .d (.v (.int .i64 v_c1.fGroup)), .d (.sl (v_c1.fMore.map (eI .i64))), .d (.v (.int .i64 v_c1.fCaps)), .d (.v (.int .i64 v_c1.fLevel)), .d (.v (.int .i64 v_c1.fKind))], .box [.d (.v (.int .i64 v_r65.1.fUser)), .d (.v (.int .i64 v_r65.1.fGroup)), .d (.sl (v_r65.1.fMore.map (eI .i64))), .d (.v (.int .i64 v_r65.1.fCaps)), .d (.v (.int .i64 v_r65.1.fLevel)), .d (.v (.int .i64 v_r65.1.fKind))], .box [.d (.v (.int .i64 v_r71.1.fUser)), .d (.v (.int .i64 v_r71.1.fGroup)), .d (.sl (v_r71.1.fMore.map (eI .i64))), .d (.v (.int .i64 v_r71.1.fCaps)), .d (.v (.int .i64 v_r71.1.fLevel)), .d (.v (.int .i64 v_r71.1.fKind))], .box [.d (.v (.int .i64 v_r149.1.fUser)), .d (.v (.int .i64 v_r149.1.fGroup)), .d (.sl (v_r149.1.fMore.map (eI .i64))), .d (.v (.int .i64 v_r149.1.fCaps)), .d (.v (.int .i64 v_r149.1.fLevel)), .d (.v (.int .i64 v_r149.1.fKind))], .box [.d (.v (.int .i64 v_c1.fUser)), .d (.v (.int .i64 v_c1.fGroup)), .d (.sl (v_c1.fMore.map (eI .i64))), .d (.v (.int .i64 (wi .i64 (v_c1.fCaps - (bits .and .i64 v_c1.fCaps v_n2))))), .d (.v (.int .i64 v_c1.fLevel)), .d (.v (.int .i64 v_c1.fKind))], .box [.d (.v (.int .i64 v_c1.fUser)), .d (.v (.int .i64 v_c1.fGroup)), .d (.sl (v_c1.fMore.map (eI .i64))), .d (.v (.int .i64 v_c1.fCaps)), .d (.v (.int .i64 v_c1.fLevel)), .d (.v (.int .i64 v_c1.fKind))], .box [.d (.v (.int .i64 v_c1.fUser)), .d (.v (.int .i64 v_c1.fGroup)), .srf 7, .d (.v (.int .i64 v_c1.fCaps)), .d (.v (.int .i64 v_c1.fLevel)), .d (.v (.int .i64 v_c1.fKind))], .row 3 1 (v_w682.map (eI .i64))]⟩
def G_ringlaw5_CredSays_C23_hd (v_n2 : Int) (v_r51 : (Bool × Int)) (v_r65 : (S_api_Cred × Int)) (v_r71 : (S_api_Cred × Int)) (v_r149 : (S_api_Cred × Int)) (v_r233 : (Bool)) (v_z638 : Int) (v_c1 : S_api_Cred)  : PS := ⟨[dd, .d (.v (.int .i64 v_n2)), .ref 0 0, dd, dd, dd, dd, .d (.v (.bool v_r51.1)), .d (.v (.int .i64 v_r51.2)), .ref 1 0, .d (.v (.int .i64 v_r65.2)), .ref 2 0, .d (.v (.int .i64 v_r71.2)), .ref 3 0, .d (.v (.int .i64 v_r149.2)), dd, dd, .d (.v (.bool v_r233)), .ref 4 0, .ref 5 0, .ref 6 0, .d (.v (.int .i64 v_z638)), .d (.v (.int .i64 0)), .d (.v (.int .i64 0)), dd, dd, dd, dd, dd, dd, dd, dd, dd, dd, dd, dd, dd, dd, dd, dd, dd, dd, dd, dd, dd, dd, dd, dd, dd, dd, dd, dd, dd, dd, dd, dd, dd, dd, dd, dd, dd, dd, dd, dd, dd, dd, dd, dd, dd, dd, dd, dd, dd, dd, dd, dd, dd, dd, dd, dd, dd, dd, dd, dd, dd, dd, dd, dd, dd, dd, dd, dd, dd, dd, dd, dd, dd, dd, dd, dd, dd, dd, dd, dd, dd, dd, dd, dd, dd, dd, dd, dd, dd, dd, dd, dd, dd, dd, dd, dd, dd, dd, dd, dd, dd, dd, dd, dd, dd, dd, dd, dd, dd, dd, dd, dd, dd, .d (.v (.bool (decide (v_n2 > 99)))), dd, dd, dd, dd, dd, dd, dd, dd, dd, dd, dd, dd, dd, dd, dd, dd, dd, dd, dd, dd, dd, dd, dd, dd, dd, dd, dd, dd, dd, dd, dd, dd, dd, dd, dd, dd, dd, dd, dd, dd, dd, dd, dd, dd, dd, dd, dd, dd, dd, dd, dd, dd, dd, dd, dd, dd, dd, dd, dd, dd, dd, dd, dd, dd, dd, dd, dd, dd, dd, dd, dd, dd, dd, dd, dd, dd, dd, dd, dd, dd, dd, dd, dd, dd, dd, dd, dd, dd, dd, dd, dd, dd, dd, dd, dd], [.box [.d (.v (.int .i64 v_c1.fUser)), .d (.v (.int .i64 v_c1.fGroup)), .d (.sl (v_c1.fMore.map (eI .i64))), .d (.v (.int .i64 v_c1.fCaps)), .d (.v (.int .i64 v_c1.fLevel)), .d (.v (.int .i64 v_c1.fKind))], .box [.d (.v (.int .i64 v_r65.1.fUser)), .d (.v (.int .i64 v_r65.1.fGroup)), .d (.sl (v_r65.1.fMore.map (eI .i64))), .d (.v (.int .i64 v_r65.1.fCaps)), .d (.v (.int .i64 v_r65.1.fLevel)), .d (.v (.int .i64 v_r65.1.fKind))], .box [.d (.v (.int .i64 v_r71.1.fUser)), .d (.v (.int .i64 v_r71.1.fGroup)), .d (.sl (v_r71.1.fMore.map (eI .i64))), .d (.v (.int .i64 v_r71.1.fCaps)), .d (.v (.int .i64 v_r71.1.fLevel)), .d (.v (.int .i64 v_r71.1.fKind))], .box [.d (.v (.int .i64 v_r149.1.fUser)), .d (.v (.int .i64 v_r149.1.fGroup)), .d (.sl (v_r149.1.fMore.map (eI .i64))), .d (.v (.int .i64 v_r149.1.fCaps)), .d (.v (.int .i64 v_r149.1.fLevel)), .d (.v (.int .i64 v_r149.1.fKind))], .box [.d (.v (.int .i64 v_c1.fUser)), .d (.v (.int .i64 v_c1.fGroup)), .d (.sl (v_c1.fMore.map (eI .i64))), .d (.v (.int .i64 (wi .i64 (v_c1.fCaps - (bits .and .i64 v_c1.fCaps v_n2))))), .d (.v (.int .i64 v_c1.fLevel)), .d (.v (.int .i64 v_c1.fKind))], .box [.d (.v (.int .i64 v_c1.fUser)), .d (.v (.int .i64 v_c1.fGroup)), .d (.sl (v_c1.fMore.map (eI .i64))), .d (.v (.int .i64 v_c1.fCaps)), .d (.v (.int .i64 v_c1.fLevel)), .d (.v (.int .i64 v_c1.fKind))], .box [.d (.v (.int .i64 v_c1.fUser)), .d (.v (.int .i64 v_c1.fGroup)), .d (.sl (v_c1.fMore.map (eI .i64))), .d (.v (.int .i64 v_c1.fCaps)), .d (.v (.int .i64 v_c1.fLevel)), .d (.v (.int .i64 v_c1.fKind))]]⟩
def G_ringlaw5_CredSays_C23 (n : Nat) (v_n2 : Int) (v_r51 : (Bool × Int)) (v_r65 : (S_api_Cred × Int)) (v_r71 : (S_api_Cred × Int)) (v_r149 : (S_api_Cred × Int)) (v_r233 : (Bool)) (v_z638 : Int) (v_c1 : S_api_Cred) : Option G_ringlaw5_CredSays_C23_R :=
  if v_n2 > 99 then
   some (.x0 1 1)
  else
   if (remI (quoI .i64 v_c1.fCaps 8) 2) = 0 then
    if v_n2 = v_c1.fUser then
     some (.x0 0 7)
    else
     some (.x0 7 7)
   else
    if v_r233 = true then
     some (.x0 0 0)
    else
     if (v_c1.fMore.length : Int) = 4 then
      some (.x0 0 6)
     else
      (G_slices_Clone_int_int n v_c1.fMore).bind fun (v_r677 : ((List Int))) =>
      (app 8 v_r677 ([v_n2])).bind fun (v_a678 : (List Int)) =>
      (G_slices_Sort_int_int_h n v_a678).bind fun (v_r679 : ((List Int))) =>
      some (.x1 0 0 v_r679)
theorem G_ringlaw5_CredSays_C23_ok {Fi : Ex → PS → Prop} (hF : KC 233 Fi) (ks : List Fr) (n : Nat) (v_n2 : Int) (v_r51 : (Bool × Int)) (v_r65 : (S_api_Cred × Int)) (v_r71 : (S_api_Cred × Int)) (v_r149 : (S_api_Cred × Int)) (v_r233 : (Bool)) (v_z638 : Int) (v_c1 : S_api_Cred)  (o : G_ringlaw5_CredSays_C23_R) (h : G_ringlaw5_CredSays_C23 n v_n2 v_r51 v_r65 v_r71 v_r149 v_r233 v_z638 v_c1 = some o) (q : RunE Try.prog 233 Fi ks (G_ringlaw5_CredSays_C23_ex o) (G_ringlaw5_CredSays_C23_st v_n2 v_r51 v_r65 v_r71 v_r149 v_r233 v_z638 v_c1 o)) : RunE Try.prog 233 Fi (.s (cR (cB (cL (cR (cR (cR (cR (cR (cR (cR (cR (cR (cR (cR (cR (cR (cR (cR (bodyOf Try.f3))))))))))))))))))) :: ks) .normal (G_ringlaw5_CredSays_C23_hd v_n2 v_r51 v_r65 v_r71 v_r149 v_r233 v_z638 v_c1) := by
  unfold G_ringlaw5_CredSays_C23 at h
  by_cases h733 : v_n2 > 99
  · rw [if_pos h733] at h
    cases h
    exact pkk_sound TTok mix hF 2 (hs := [.t true]) (ts := []) (s := [0, 1, 2, 3, 4, 5, 6]) (l := [1, 2, 7, 8, 9, 10, 11, 12, 13, 14, 18, 19, 20, 21, 22, 23]) (by kernel_rfl) (by kernel_rfl) (.cons (dt h733) .nil) q
  · rw [if_neg h733] at h
    by_cases h736 : (remI (quoI .i64 v_c1.fCaps 8) 2) = 0
    · rw [if_pos h736] at h
      by_cases h737 : v_n2 = v_c1.fUser
      · rw [if_pos h737] at h
        cases h
        exact pkk_sound TTok mix hF 10 (hs := [.t false, .c, .t true, .c, .t false]) (ts := []) (s := [0, 1, 2, 3, 4, 5, 6]) (l := [1, 2, 7, 8, 9, 10, 11, 12, 13, 14, 18, 19, 20, 21, 22, 23]) (by kernel_rfl) (by kernel_rfl) (.cons (df h733) (.cons (show (8 : Int) ≠ 0 by decide) (.cons (show (2 : Int) ≠ 0 by decide) (.cons (bt h736) (.cons (nf h737) .nil))))) q
      · rw [if_neg h737] at h
        cases h
        exact pkk_sound TTok mix hF 10 (hs := [.t false, .c, .t true, .c, .t true]) (ts := []) (s := [0, 1, 2, 3, 4, 5, 6]) (l := [1, 2, 7, 8, 9, 10, 11, 12, 13, 14, 18, 19, 20, 21, 22, 23]) (by kernel_rfl) (by kernel_rfl) (.cons (df h733) (.cons (show (8 : Int) ≠ 0 by decide) (.cons (show (2 : Int) ≠ 0 by decide) (.cons (bt h736) (.cons (nt h737) .nil))))) q
    · rw [if_neg h736] at h
      by_cases h739 : v_r233 = true
      · rw [if_pos h739] at h
        cases h
        exact pkk_sound TTok mix hF 11 (hs := [.t false, .c, .t false, .t false, .c, .c, .c, .c, .t false]) (ts := []) (s := [0, 1, 2, 3, 4, 5, 6]) (l := [1, 2, 7, 8, 9, 10, 11, 12, 13, 14, 18, 19, 20, 21, 22, 23]) (by kernel_rfl) (by kernel_rfl) (.cons (df h733) (.cons (show (8 : Int) ≠ 0 by decide) (.cons (show (2 : Int) ≠ 0 by decide) (.cons (bf h736) (.cons (bnf h739) (.cons (bnf h739) .nil)))))) q
      · rw [if_neg h739] at h
        by_cases h740 : (v_c1.fMore.length : Int) = 4
        · rw [if_pos h740] at h
          cases h
          exact pkk_sound TTok mix hF 8 (hs := [.t false, .c, .t false, .t true, .c, .c, .c, .u (.d (.v (.int .i64 (v_c1.fMore.length : Int)))), .c, .t true]) (ts := []) (s := [0, 1, 2, 3, 4, 5, 6]) (l := [1, 2, 7, 8, 9, 10, 11, 12, 13, 14, 18, 19, 20, 21, 22, 23]) (by kernel_rfl) (by kernel_rfl) (.cons (df h733) (.cons (show (8 : Int) ≠ 0 by decide) (.cons (show (2 : Int) ≠ 0 by decide) (.cons (bf h736) (.cons (bnt (vf h739)) (.cons (len_ob (f := (eI .i64)) (l := v_c1.fMore)) (.cons (bt h740) .nil))))))) q
        · rw [if_neg h740] at h
          obtain ⟨v_r677, h741, h⟩ := bind_some h
          obtain ⟨v_a678, h742, h⟩ := bind_some h
          obtain ⟨v_r679, h743, h⟩ := bind_some h
          cases h
          exact pkk_sound TTok mix hF 13 (hs := [.t false, .c, .t false, .t true, .c, .c, .c, .u (.d (.v (.int .i64 (v_c1.fMore.length : Int)))), .c, .t false, .t true, .c, .h [] [] [.row 3 1 (v_r677.map (eI .i64))] (.srf 0), .bd, .w (v_a678.map (eI .i64)), .c, .c, .h [76] [] [.row 3 1 (v_r679.map (eI .i64))] (.tup [])]) (ts := []) (s := [0, 1, 2, 3, 4, 5, 6, 76]) (l := [1, 2, 7, 8, 9, 10, 11, 12, 13, 14, 18, 19, 20, 21, 22, 23]) (by kernel_rfl) (by kernel_rfl) (.cons (df h733) (.cons (show (8 : Int) ≠ 0 by decide) (.cons (show (2 : Int) ≠ 0 by decide) (.cons (bf h736) (.cons (bnt (vf h739)) (.cons (len_ob (f := (eI .i64)) (l := v_c1.fMore)) (.cons (bf h740) (.cons (bnt (vf h739)) (.cons (G_slices_Clone_int_int_ok n v_c1.fMore _ h741) (.cons (app_ob (f := (eI .i64)) (s := 1) h742 (fun _ => rfl)).1 (.cons (app_ob (f := (eI .i64)) (s := 1) h742 (fun _ => rfl)).2.1 (.cons (app_ob (f := (eI .i64)) (s := 1) h742 (fun _ => rfl)).2.2.1 (.cons (app_ob (f := (eI .i64)) (s := 1) h742 (fun _ => rfl)).2.2.2 (.cons (show 2 + 1 ≤ 6 by decide) (.cons (G_slices_Sort_int_int_h_ok n v_a678 _ h743) .nil))))))))))))))) q
inductive G_ringlaw5_CredSays_C24_R where
  | x0 (v_wantB664 : Int) (v_wantJ665 : Int)
  | x1 (v_wantB693 : Int) (v_wantJ694 : Int) (v_w695 : (List Int))
def G_ringlaw5_CredSays_C24_ex : G_ringlaw5_CredSays_C24_R → Ex
  | .x0 _ _ => .normal
  | .x1 _ _ _ => .normal
def G_ringlaw5_CredSays_C24_st (v_n2 : Int) (v_r51 : (Bool × Int)) (v_r65 : (S_api_Cred × Int)) (v_r71 : (S_api_Cred × Int)) (v_r149 : (S_api_Cred × Int)) (v_r233 : (Bool)) (v_z638 : Int) (v_c1 : S_api_Cred) : G_ringlaw5_CredSays_C24_R → PS
  | .x0 v_wantB664 v_wantJ665 => ⟨[dd, .d (.v (.int .i64 v_n2)), .ref 0 0, dd, dd, dd, dd, .d (.v (.bool v_r51.1)), .d (.v (.int .i64 v_r51.2)), .ref 1 0, .d (.v (.int .i64 v_r65.2)), .ref 2 0, .d (.v (.int .i64 v_r71.2)), .ref 3 0, .d (.v (.int .i64 v_r149.2)), dd, dd, dd, .ref 4 0, .ref 5 0, .ref 6 0, .d (.v (.int .i64 v_z638)), .d (.v (.int .i64 v_wantB664)), .d (.v (.int .i64 v_wantJ665)), dd, dd, dd, dd, dd, dd, dd, dd, dd, dd, dd, dd, dd, dd, dd, dd, dd, dd, dd, dd, dd, dd, dd, dd, dd, dd, dd, dd, dd, dd, dd, dd, dd, dd, dd, dd, dd, dd, dd, dd, dd, dd, dd, dd, dd, dd, dd, dd, dd, dd, dd, dd, dd, dd, dd, dd, dd, dd, dd, dd, dd, dd, dd, dd, dd, dd, dd, dd, dd, dd, dd, dd, dd, dd, dd, dd, dd, dd, dd, dd, dd, dd, dd, dd, dd, dd, dd, dd, dd, dd, dd, dd, dd, dd, dd, dd, dd, dd, dd, dd, dd, dd, dd, dd, dd, dd, dd, dd, dd, dd, dd, dd, dd, dd, dd, dd, dd, dd, dd, dd, dd, dd, dd, dd, dd, dd, dd, dd, dd, dd, dd, dd, dd, dd, dd, dd, dd, dd, dd, dd, dd, dd, dd, dd, dd, dd, dd, dd, dd, dd, dd, dd, dd, dd, dd, dd, dd, dd, dd, dd, dd, dd, dd, dd, dd, dd, dd, dd, dd, dd, dd, dd, dd, dd, dd, dd, dd, dd, dd, dd, dd, dd, dd, dd, dd, dd, dd, dd, dd, dd, dd, dd, dd, dd, dd, dd, dd, dd, dd, dd, dd, dd, dd, dd, dd, dd, dd, dd, dd], [.box [.d (.v (.int .i64 v_c1.fUser)), .d (.v (.int .i64 v_c1.fGroup)), .d (.sl (v_c1.fMore.map (eI .i64))), .d (.v (.int .i64 v_c1.fCaps)), .d (.v (.int .i64 v_c1.fLevel)), .d (.v (.int .i64 v_c1.fKind))], .box [.d (.v (.int .i64 v_r65.1.fUser)), .d (.v (.int .i64 v_r65.1.fGroup)), .d (.sl (v_r65.1.fMore.map (eI .i64))), .d (.v (.int .i64 v_r65.1.fCaps)), .d (.v (.int .i64 v_r65.1.fLevel)), .d (.v (.int .i64 v_r65.1.fKind))], .box [.d (.v (.int .i64 v_r71.1.fUser)), .d (.v (.int .i64 v_r71.1.fGroup)), .d (.sl (v_r71.1.fMore.map (eI .i64))), .d (.v (.int .i64 v_r71.1.fCaps)), .d (.v (.int .i64 v_r71.1.fLevel)), .d (.v (.int .i64 v_r71.1.fKind))], .box [.d (.v (.int .i64 v_r149.1.fUser)), .d (.v (.int .i64 v_r149.1.fGroup)), .d (.sl (v_r149.1.fMore.map (eI .i64))), .d (.v (.int .i64 v_r149.1.fCaps)), .d (.v (.int .i64 v_r149.1.fLevel)), .d (.v (.int .i64 v_r149.1.fKind))], .box [.d (.v (.int .i64 v_c1.fUser)), .d (.v (.int .i64 v_c1.fGroup)), .d (.sl (v_c1.fMore.map (eI .i64))), .d (.v (.int .i64 (wi .i64 (v_c1.fCaps - (bits .and .i64 v_c1.fCaps v_n2))))), .d (.v (.int .i64 v_c1.fLevel)), .d (.v (.int .i64 v_c1.fKind))], .box [.d (.v (.int .i64 v_c1.fUser)), .d (.v (.int .i64 v_c1.fGroup)), .d (.sl (v_c1.fMore.map (eI .i64))), .d (.v (.int .i64 v_c1.fCaps)), .d (.v (.int .i64 v_c1.fLevel)), .d (.v (.int .i64 v_c1.fKind))], .box [.d (.v (.int .i64 v_c1.fUser)), .d (.v (.int .i64 v_c1.fGroup)), .d (.sl (v_c1.fMore.map (eI .i64))), .d (.v (.int .i64 v_c1.fCaps)), .d (.v (.int .i64 v_c1.fLevel)), .d (.v (.int .i64 v_c1.fKind))]]⟩
  | .x1 v_wantB693 v_wantJ694 v_w695 => ⟨[dd, .d (.v (.int .i64 v_n2)), .ref 0 0, dd, dd, dd, dd, .d (.v (.bool v_r51.1)), .d (.v (.int .i64 v_r51.2)), .ref 1 0, .d (.v (.int .i64 v_r65.2)), .ref 2 0, .d (.v (.int .i64 v_r71.2)), .ref 3 0, .d (.v (.int .i64 v_r149.2)), dd, dd, dd, .ref 4 0, .ref 5 0, .ref 6 0, .d (.v (.int .i64 v_z638)), .d (.v (.int .i64 v_wantB693)), .d (.v (.int .i64 v_wantJ694)), dd, dd, dd, dd, dd, dd, dd, dd, dd, dd, dd, dd, dd, dd, dd, dd, dd, dd, dd, dd, dd, dd, dd, dd, dd, dd, dd, dd, dd, dd, dd, dd, dd, dd, dd, dd, dd, dd, dd, dd, dd, dd, dd, dd, dd, dd, dd, dd, dd, dd, dd, dd, dd, dd, dd, dd, dd, dd, dd, dd, dd, dd, dd, dd, dd, dd, dd, dd, dd, dd, dd, dd, dd, dd, dd, dd, dd, dd, dd, dd, dd, dd, dd, dd, dd, dd, dd, dd, dd, dd, dd, dd, dd, dd, dd, dd, dd, dd, dd, dd, dd, dd, dd, dd, dd, dd, dd, dd, dd, dd, dd, dd, dd, dd, dd, dd, dd, dd, dd, dd, dd, dd, dd, dd, dd, dd, dd, dd, dd, dd, dd, dd, dd, dd, dd, dd, dd, dd, dd, dd, dd, dd, dd, dd, dd, dd, dd, dd, dd, dd, dd, dd, dd, dd, dd, dd, dd, dd, dd, dd, dd, dd, dd, dd, dd, dd, dd, dd, dd, dd, dd, dd, dd, dd, dd, dd, dd, dd, dd, dd, dd, dd, dd, dd, dd, dd, dd, dd, dd, dd, dd, dd, dd, dd, dd, dd, dd, dd, dd, dd, dd, dd, dd, dd, dd, dd, dd, dd, dd], [.box [.d (.v (.int .i64 v_c1.fUser)), .d (.v (.int .i64 v_c1.fGroup)), .d (.sl (v_c1.fMore.map (eI .i64))), .d (.v (.int .i64 v_c1.fCaps)), .d (.v (.int .i64 v_c1.fLevel)), .d (.v (.int .i64 v_c1.fKind))], .box [.d (.v (.int .i64 v_r65.1.fUser)), .d (.v (.int .i64 v_r65.1.fGroup)), .d (.sl (v_r65.1.fMore.map (eI .i64))), .d (.v (.int .i64 v_r65.1.fCaps)), .d (.v (.int .i64 v_r65.1.fLevel)), .d (.v (.int .i64 v_r65.1.fKind))], .box [.d (.v (.int .i64 v_r71.1.fUser)), .d (.v (.int .i64 v_r71.1.fGroup)), .d (.sl (v_r71.1.fMore.map (eI .i64))), .d (.v (.int .i64 v_r71.1.fCaps)), .d (.v (.int .i64 v_r71.1.fLevel)), .d (.v (.int .i64 v_r71.1.fKind))], .box [.d (.v (.int .i64 v_r149.1.fUser)), .d (.v (.int .i64 v_r149.1.fGroup)), .d (.sl (v_r149.1.fMore.map (eI .i64))), .d (.v (.int .i64 v_r149.1.fCaps)), .d (.v (.int .i64 v_r149.1.fLevel)), .d (.v (.int .i64 v_r149.1.fKind))], .box [.d (.v (.int .i64 v_c1.fUser)), .d (.v (.int .i64 v_c1.fGroup)), .d (.sl (v_c1.fMore.map (eI .i64))), .d (.v (.int .i64 (wi .i64 (v_c1.fCaps - (bits .and .i64 v_c1.fCaps v_n2))))), .d (.v (.int .i64 v_c1.fLevel)), .d (.v (.int .i64 v_c1.fKind))], .box [.d (.v (.int .i64 v_c1.fUser)), .d (.v (.int .i64 v_c1.fGroup)), .d (.sl (v_c1.fMore.map (eI .i64))), .d (.v (.int .i64 v_c1.fCaps)), .d (.v (.int .i64 v_c1.fLevel)), .d (.v (.int .i64 v_c1.fKind))], .box [.d (.v (.int .i64 v_c1.fUser)), .d (.v (.int .i64 v_c1.fGroup)), .srf 7, .d (.v (.int .i64 v_c1.fCaps)), .d (.v (.int .i64 v_c1.fLevel)), .d (.v (.int .i64 v_c1.fKind))], .row 3 1 (v_w695.map (eI .i64))]⟩
def G_ringlaw5_CredSays_C24_hd (v_n2 : Int) (v_r51 : (Bool × Int)) (v_r65 : (S_api_Cred × Int)) (v_r71 : (S_api_Cred × Int)) (v_r149 : (S_api_Cred × Int)) (v_r233 : (Bool)) (v_z638 : Int) (v_c1 : S_api_Cred)  : PS := ⟨[dd, .d (.v (.int .i64 v_n2)), .ref 0 0, dd, dd, dd, dd, .d (.v (.bool v_r51.1)), .d (.v (.int .i64 v_r51.2)), .ref 1 0, .d (.v (.int .i64 v_r65.2)), .ref 2 0, .d (.v (.int .i64 v_r71.2)), .ref 3 0, .d (.v (.int .i64 v_r149.2)), dd, dd, .d (.v (.bool v_r233)), .ref 4 0, .ref 5 0, .ref 6 0, .d (.v (.int .i64 v_z638)), .d (.v (.int .i64 0)), .d (.v (.int .i64 0)), dd, dd, dd, dd, dd, dd, dd, dd, dd, dd, dd, dd, dd, dd, dd, dd, dd, dd, dd, dd, dd, dd, dd, dd, dd, dd, dd, dd, dd, dd, dd, dd, dd, dd, dd, dd, dd, dd, dd, dd, dd, dd, dd, dd, dd, dd, dd, dd, dd, dd, dd, dd, dd, dd, dd, dd, dd, dd, dd, dd, dd, dd, dd, dd, dd, dd, dd, dd, dd, dd, dd, dd, dd, dd, dd, dd, dd, dd, dd, dd, dd, dd, dd, dd, dd, dd, dd, dd, dd, dd, dd, dd, dd, dd, dd, dd, dd, dd, dd, dd, dd, dd, dd, dd, dd, dd, dd, dd, dd, dd, dd, dd, dd, dd, dd, dd, dd, dd, dd, dd, dd, dd, dd, dd, dd, dd, dd, dd, dd, dd, dd, dd, dd, dd, dd, dd, dd, dd, dd, dd, dd, dd, dd, dd, dd, dd, dd, dd, dd, dd, dd, dd, dd, dd, dd, dd, dd, dd, dd, dd, dd, dd, dd, dd, dd, dd, dd, dd, dd, dd, dd, dd, dd, dd, dd, dd, dd, dd, dd, dd, dd, dd, dd, dd, dd, dd, dd, dd, dd, dd, dd, dd, dd, dd, dd, dd, dd, dd, dd, dd, dd, dd, dd, dd, dd, dd, dd, dd, dd], [.box [.d (.v (.int .i64 v_c1.fUser)), .d (.v (.int .i64 v_c1.fGroup)), .d (.sl (v_c1.fMore.map (eI .i64))), .d (.v (.int .i64 v_c1.fCaps)), .d (.v (.int .i64 v_c1.fLevel)), .d (.v (.int .i64 v_c1.fKind))], .box [.d (.v (.int .i64 v_r65.1.fUser)), .d (.v (.int .i64 v_r65.1.fGroup)), .d (.sl (v_r65.1.fMore.map (eI .i64))), .d (.v (.int .i64 v_r65.1.fCaps)), .d (.v (.int .i64 v_r65.1.fLevel)), .d (.v (.int .i64 v_r65.1.fKind))], .box [.d (.v (.int .i64 v_r71.1.fUser)), .d (.v (.int .i64 v_r71.1.fGroup)), .d (.sl (v_r71.1.fMore.map (eI .i64))), .d (.v (.int .i64 v_r71.1.fCaps)), .d (.v (.int .i64 v_r71.1.fLevel)), .d (.v (.int .i64 v_r71.1.fKind))], .box [.d (.v (.int .i64 v_r149.1.fUser)), .d (.v (.int .i64 v_r149.1.fGroup)), .d (.sl (v_r149.1.fMore.map (eI .i64))), .d (.v (.int .i64 v_r149.1.fCaps)), .d (.v (.int .i64 v_r149.1.fLevel)), .d (.v (.int .i64 v_r149.1.fKind))], .box [.d (.v (.int .i64 v_c1.fUser)), .d (.v (.int .i64 v_c1.fGroup)), .d (.sl (v_c1.fMore.map (eI .i64))), .d (.v (.int .i64 (wi .i64 (v_c1.fCaps - (bits .and .i64 v_c1.fCaps v_n2))))), .d (.v (.int .i64 v_c1.fLevel)), .d (.v (.int .i64 v_c1.fKind))], .box [.d (.v (.int .i64 v_c1.fUser)), .d (.v (.int .i64 v_c1.fGroup)), .d (.sl (v_c1.fMore.map (eI .i64))), .d (.v (.int .i64 v_c1.fCaps)), .d (.v (.int .i64 v_c1.fLevel)), .d (.v (.int .i64 v_c1.fKind))], .box [.d (.v (.int .i64 v_c1.fUser)), .d (.v (.int .i64 v_c1.fGroup)), .d (.sl (v_c1.fMore.map (eI .i64))), .d (.v (.int .i64 v_c1.fCaps)), .d (.v (.int .i64 v_c1.fLevel)), .d (.v (.int .i64 v_c1.fKind))]]⟩
def G_ringlaw5_CredSays_C24 (n : Nat) (v_n2 : Int) (v_r51 : (Bool × Int)) (v_r65 : (S_api_Cred × Int)) (v_r71 : (S_api_Cred × Int)) (v_r149 : (S_api_Cred × Int)) (v_r233 : (Bool)) (v_z638 : Int) (v_c1 : S_api_Cred) : Option G_ringlaw5_CredSays_C24_R :=
  if v_n2 < 0 then
   some (.x0 1 1)
  else
   (G_ringlaw5_CredSays_C23 n v_n2 v_r51 v_r65 v_r71 v_r149 v_r233 v_z638 v_c1).bind fun v_o685 => match v_o685 with
   | .x0 v_z686 v_z687 =>
     some (.x0 v_z686 v_z687)
   | .x1 v_z690 v_z691 v_z692 =>
     some (.x1 v_z690 v_z691 v_z692)
theorem G_ringlaw5_CredSays_C24_ok {Fi : Ex → PS → Prop} (hF : KC 233 Fi) (ks : List Fr) (n : Nat) (v_n2 : Int) (v_r51 : (Bool × Int)) (v_r65 : (S_api_Cred × Int)) (v_r71 : (S_api_Cred × Int)) (v_r149 : (S_api_Cred × Int)) (v_r233 : (Bool)) (v_z638 : Int) (v_c1 : S_api_Cred)  (o : G_ringlaw5_CredSays_C24_R) (h : G_ringlaw5_CredSays_C24 n v_n2 v_r51 v_r65 v_r71 v_r149 v_r233 v_z638 v_c1 = some o) (q : RunE Try.prog 233 Fi ks (G_ringlaw5_CredSays_C24_ex o) (G_ringlaw5_CredSays_C24_st v_n2 v_r51 v_r65 v_r71 v_r149 v_r233 v_z638 v_c1 o)) : RunE Try.prog 233 Fi (.s (cL (cR (cR (cR (cR (cR (cR (cR (cR (cR (cR (cR (cR (cR (cR (cR (bodyOf Try.f3))))))))))))))))) :: ks) .normal (G_ringlaw5_CredSays_C24_hd v_n2 v_r51 v_r65 v_r71 v_r149 v_r233 v_z638 v_c1) := by
  unfold G_ringlaw5_CredSays_C24 at h
  by_cases h721 : v_n2 < 0
  · rw [if_pos h721] at h
    cases h
    exact pkk_sound TTok mix hF 6 (hs := [.t true, .c, .c]) (ts := []) (s := [0, 1, 2, 3, 4, 5, 6]) (l := [1, 2, 7, 8, 9, 10, 11, 12, 13, 14, 18, 19, 20, 21, 22, 23]) (by kernel_rfl) (by kernel_rfl) (.cons (dt h721) .nil) q
  · rw [if_neg h721] at h
    obtain ⟨v_o685, h744, h⟩ := bind_some h
    refine pkk_sound TTok mix hF 3 (hs := [.t false, .c]) (ts := []) (s := [0, 1, 2, 3, 4, 5, 6]) (l := [1, 2, 7, 8, 9, 10, 11, 12, 13, 14, 17, 18, 19, 20, 21, 22, 23, 137]) (by kernel_rfl) (by kernel_rfl) (.cons (df h721) .nil) (G_ringlaw5_CredSays_C23_ok hF (.b 0 :: ks) n v_n2 v_r51 v_r65 v_r71 v_r149 v_r233 v_z638 v_c1 _ h744 ?_)
    cases v_o685 with
    | x0 v_z686 v_z687 =>
      try dsimp only at h
      cases h
      exact pkk_sound TTok mix hF 1 (hs := []) (ts := []) (s := [0, 1, 2, 3, 4, 5, 6]) (l := [1, 2, 7, 8, 9, 10, 11, 12, 13, 14, 18, 19, 20, 21, 22, 23]) (by kernel_rfl) (by kernel_rfl) .nil q
    | x1 v_z690 v_z691 v_z692 =>
      try dsimp only at h
      cases h
      exact pkk_sound TTok mix hF 1 (hs := []) (ts := []) (s := [0, 1, 2, 3, 4, 5, 6, 7]) (l := [1, 2, 7, 8, 9, 10, 11, 12, 13, 14, 18, 19, 20, 21, 22, 23]) (by kernel_rfl) (by kernel_rfl) .nil q
inductive G_ringlaw5_CredSays_C25_R where
  | x0 (v_x699 : Bool)
def G_ringlaw5_CredSays_C25_ex : G_ringlaw5_CredSays_C25_R → Ex
  | .x0 _ => .normal
def G_ringlaw5_CredSays_C25_st (v_n2 : Int) (v_r51 : (Bool × Int)) (v_r65 : (S_api_Cred × Int)) (v_r71 : (S_api_Cred × Int)) (v_r149 : (S_api_Cred × Int)) (v_z638 : Int) (v_z697 : Int) (v_z698 : Int) (v_c1 : S_api_Cred) : G_ringlaw5_CredSays_C25_R → PS
  | .x0 v_x699 => ⟨[dd, dd, dd, dd, dd, dd, dd, dd, dd, .ref 0 0, dd, .ref 1 0, dd, .ref 2 0, dd, dd, dd, dd, .ref 3 0, .ref 4 0, .ref 5 0, .d (.v (.int .i64 v_z638)), .d (.v (.int .i64 v_z697)), .d (.v (.int .i64 v_z698)), dd, dd, dd, dd, dd, dd, dd, dd, dd, dd, dd, dd, dd, dd, dd, dd, dd, dd, dd, dd, dd, dd, dd, dd, dd, dd, dd, dd, dd, dd, dd, dd, dd, dd, dd, dd, dd, dd, dd, dd, dd, dd, dd, dd, dd, dd, dd, dd, dd, dd, dd, dd, dd, dd, dd, dd, dd, dd, dd, dd, dd, dd, dd, dd, dd, dd, dd, dd, dd, dd, dd, dd, dd, dd, dd, dd, dd, dd, dd, dd, dd, dd, dd, dd, dd, dd, dd, dd, dd, dd, dd, dd, dd, dd, dd, dd, dd, dd, dd, dd, dd, dd, dd, dd, dd, dd, dd, dd, dd, dd, dd, dd, dd, dd, dd, dd, dd, dd, dd, dd, dd, dd, dd, dd, dd, dd, dd, dd, dd, dd, dd, dd, dd, dd, dd, dd, dd, dd, dd, dd, dd, dd, dd, dd, dd, dd, dd, dd, dd, dd, dd, dd, dd, dd, dd, dd, dd, dd, dd, dd, dd, dd, dd, dd, dd, dd, dd, dd, dd, dd, dd, dd, dd, dd, dd, dd, dd, dd, dd, dd, dd, dd, dd, dd, dd, dd, dd, dd, dd, .d (.v (.bool v_x699)), dd, dd, dd, dd, dd, dd, dd, dd, dd, dd, dd, dd, dd, dd, dd, dd, dd, dd, dd], [.box [.d (.v (.int .i64 v_r65.1.fUser)), .d (.v (.int .i64 v_r65.1.fGroup)), .d (.sl (v_r65.1.fMore.map (eI .i64))), .d (.v (.int .i64 v_r65.1.fCaps)), .d (.v (.int .i64 v_r65.1.fLevel)), .d (.v (.int .i64 v_r65.1.fKind))], .box [.d (.v (.int .i64 v_r71.1.fUser)), .d (.v (.int .i64 v_r71.1.fGroup)), .d (.sl (v_r71.1.fMore.map (eI .i64))), .d (.v (.int .i64 v_r71.1.fCaps)), .d (.v (.int .i64 v_r71.1.fLevel)), .d (.v (.int .i64 v_r71.1.fKind))], .box [.d (.v (.int .i64 v_r149.1.fUser)), .d (.v (.int .i64 v_r149.1.fGroup)), .d (.sl (v_r149.1.fMore.map (eI .i64))), .d (.v (.int .i64 v_r149.1.fCaps)), .d (.v (.int .i64 v_r149.1.fLevel)), .d (.v (.int .i64 v_r149.1.fKind))], .box [.d (.v (.int .i64 v_c1.fUser)), .d (.v (.int .i64 v_c1.fGroup)), .d (.sl (v_c1.fMore.map (eI .i64))), .d (.v (.int .i64 (wi .i64 (v_c1.fCaps - (bits .and .i64 v_c1.fCaps v_n2))))), .d (.v (.int .i64 v_c1.fLevel)), .d (.v (.int .i64 v_c1.fKind))], .box [.d (.v (.int .i64 v_n2)), .d (.v (.int .i64 v_c1.fGroup)), .d (.sl (v_c1.fMore.map (eI .i64))), .d (.v (.int .i64 0)), .d (.v (.int .i64 v_c1.fLevel)), .d (.v (.int .i64 v_c1.fKind))], .box [.d (.v (.int .i64 v_c1.fUser)), .d (.v (.int .i64 v_c1.fGroup)), .d (.sl (v_c1.fMore.map (eI .i64))), .d (.v (.int .i64 v_c1.fCaps)), .d (.v (.int .i64 v_c1.fLevel)), .d (.v (.int .i64 v_c1.fKind))]]⟩
def G_ringlaw5_CredSays_C25_hd (v_n2 : Int) (v_r51 : (Bool × Int)) (v_r65 : (S_api_Cred × Int)) (v_r71 : (S_api_Cred × Int)) (v_r149 : (S_api_Cred × Int)) (v_z638 : Int) (v_z697 : Int) (v_z698 : Int) (v_c1 : S_api_Cred)  : PS := ⟨[dd, .d (.v (.int .i64 v_n2)), .ref 0 0, dd, dd, dd, dd, .d (.v (.bool v_r51.1)), .d (.v (.int .i64 v_r51.2)), .ref 1 0, .d (.v (.int .i64 v_r65.2)), .ref 2 0, .d (.v (.int .i64 v_r71.2)), .ref 3 0, .d (.v (.int .i64 v_r149.2)), dd, dd, dd, .ref 4 0, .ref 5 0, .ref 6 0, .d (.v (.int .i64 v_z638)), .d (.v (.int .i64 v_z697)), .d (.v (.int .i64 v_z698)), dd, dd, dd, dd, dd, dd, dd, dd, dd, dd, dd, dd, dd, dd, dd, dd, dd, dd, dd, dd, dd, dd, dd, dd, dd, dd, dd, dd, dd, dd, dd, dd, dd, dd, dd, dd, dd, dd, dd, dd, dd, dd, dd, dd, dd, dd, dd, dd, dd, dd, dd, dd, dd, dd, dd, dd, dd, dd, dd, dd, dd, dd, dd, dd, dd, dd, dd, dd, dd, dd, dd, dd, dd, dd, dd, dd, dd, dd, dd, dd, dd, dd, dd, dd, dd, dd, dd, dd, dd, dd, dd, dd, dd, dd, dd, dd, dd, dd, dd, dd, dd, dd, dd, dd, dd, dd, dd, dd, dd, dd, dd, dd, dd, dd, dd, dd, dd, dd, dd, dd, dd, dd, dd, dd, dd, dd, dd, dd, dd, dd, dd, dd, dd, dd, dd, dd, dd, dd, dd, dd, dd, dd, dd, dd, dd, dd, dd, dd, dd, dd, dd, dd, dd, dd, dd, dd, dd, dd, dd, dd, dd, dd, dd, dd, dd, dd, dd, dd, dd, dd, dd, dd, dd, dd, dd, dd, dd, dd, dd, dd, dd, dd, dd, dd, dd, dd, dd, dd, dd, dd, dd, dd, dd, dd, dd, dd, dd, dd, dd, dd, dd, dd, dd, dd, dd, dd, dd, dd, dd], [.box [.d (.v (.int .i64 v_c1.fUser)), .d (.v (.int .i64 v_c1.fGroup)), .d (.sl (v_c1.fMore.map (eI .i64))), .d (.v (.int .i64 v_c1.fCaps)), .d (.v (.int .i64 v_c1.fLevel)), .d (.v (.int .i64 v_c1.fKind))], .box [.d (.v (.int .i64 v_r65.1.fUser)), .d (.v (.int .i64 v_r65.1.fGroup)), .d (.sl (v_r65.1.fMore.map (eI .i64))), .d (.v (.int .i64 v_r65.1.fCaps)), .d (.v (.int .i64 v_r65.1.fLevel)), .d (.v (.int .i64 v_r65.1.fKind))], .box [.d (.v (.int .i64 v_r71.1.fUser)), .d (.v (.int .i64 v_r71.1.fGroup)), .d (.sl (v_r71.1.fMore.map (eI .i64))), .d (.v (.int .i64 v_r71.1.fCaps)), .d (.v (.int .i64 v_r71.1.fLevel)), .d (.v (.int .i64 v_r71.1.fKind))], .box [.d (.v (.int .i64 v_r149.1.fUser)), .d (.v (.int .i64 v_r149.1.fGroup)), .d (.sl (v_r149.1.fMore.map (eI .i64))), .d (.v (.int .i64 v_r149.1.fCaps)), .d (.v (.int .i64 v_r149.1.fLevel)), .d (.v (.int .i64 v_r149.1.fKind))], .box [.d (.v (.int .i64 v_c1.fUser)), .d (.v (.int .i64 v_c1.fGroup)), .d (.sl (v_c1.fMore.map (eI .i64))), .d (.v (.int .i64 (wi .i64 (v_c1.fCaps - (bits .and .i64 v_c1.fCaps v_n2))))), .d (.v (.int .i64 v_c1.fLevel)), .d (.v (.int .i64 v_c1.fKind))], .box [.d (.v (.int .i64 v_n2)), .d (.v (.int .i64 v_c1.fGroup)), .d (.sl (v_c1.fMore.map (eI .i64))), .d (.v (.int .i64 0)), .d (.v (.int .i64 v_c1.fLevel)), .d (.v (.int .i64 v_c1.fKind))], .box [.d (.v (.int .i64 v_c1.fUser)), .d (.v (.int .i64 v_c1.fGroup)), .d (.sl (v_c1.fMore.map (eI .i64))), .d (.v (.int .i64 v_c1.fCaps)), .d (.v (.int .i64 v_c1.fLevel)), .d (.v (.int .i64 v_c1.fKind))]]⟩
def G_ringlaw5_CredSays_C25 (n : Nat) (v_n2 : Int) (v_r51 : (Bool × Int)) (v_r65 : (S_api_Cred × Int)) (v_r71 : (S_api_Cred × Int)) (v_r149 : (S_api_Cred × Int)) (v_z638 : Int) (v_z697 : Int) (v_z698 : Int) (v_c1 : S_api_Cred) : Option G_ringlaw5_CredSays_C25_R :=
  if v_r51.2 = v_z638 then
   if v_z638 = 0 then
    if (eqRes .neq (v_r51.1 == ((wi .i64 (v_c1.fCaps - (bits .and .i64 v_c1.fCaps v_n2))) == (wi .i64 (v_c1.fCaps - v_n2))))) = true then
     some (.x0 true)
    else
     if v_r65.2 = v_z638 then
      if v_r71.2 = v_z697 then
       some (.x0 (v_r149.2 != v_z698))
      else
       some (.x0 true)
     else
      some (.x0 true)
   else
    if (eqRes .neq (v_r51.1 == false)) = true then
     some (.x0 true)
    else
     if v_r65.2 = v_z638 then
      if v_r71.2 = v_z697 then
       some (.x0 (v_r149.2 != v_z698))
      else
       some (.x0 true)
     else
      some (.x0 true)
  else
   some (.x0 true)
theorem G_ringlaw5_CredSays_C25_ok {Fi : Ex → PS → Prop} (hF : KC 233 Fi) (ks : List Fr) (n : Nat) (v_n2 : Int) (v_r51 : (Bool × Int)) (v_r65 : (S_api_Cred × Int)) (v_r71 : (S_api_Cred × Int)) (v_r149 : (S_api_Cred × Int)) (v_z638 : Int) (v_z697 : Int) (v_z698 : Int) (v_c1 : S_api_Cred)  (o : G_ringlaw5_CredSays_C25_R) (h : G_ringlaw5_CredSays_C25 n v_n2 v_r51 v_r65 v_r71 v_r149 v_z638 v_z697 v_z698 v_c1 = some o) (q : RunE Try.prog 233 Fi ks (G_ringlaw5_CredSays_C25_ex o) (G_ringlaw5_CredSays_C25_st v_n2 v_r51 v_r65 v_r71 v_r149 v_z638 v_z697 v_z698 v_c1 o)) : RunE Try.prog 233 Fi (.s (cL (cL (cR (cR (cR (cR (cR (cR (cR (cR (cR (cR (cR (cR (cR (cR (cR (cR (cR (bodyOf Try.f3)))))))))))))))))))) :: ks) .normal (G_ringlaw5_CredSays_C25_hd v_n2 v_r51 v_r65 v_r71 v_r149 v_z638 v_z697 v_z698 v_c1) := by
  unfold G_ringlaw5_CredSays_C25 at h
  by_cases h755 : v_r51.2 = v_z638
  · rw [if_pos h755] at h
    by_cases h756 : v_z638 = 0
    · rw [if_pos h756] at h
      by_cases h757 : (eqRes .neq (v_r51.1 == ((wi .i64 (v_c1.fCaps - (bits .and .i64 v_c1.fCaps v_n2))) == (wi .i64 (v_c1.fCaps - v_n2))))) = true
      · rw [if_pos h757] at h
        cases h
        exact pkk_sound TTok mix hF 1 (hs := [.t false, .c, .c, .c, .t true, .c, .c, .c, .c, .c, .c, .c, .c, .c, .c, .t true, .c, .c, .c, .c, .c, .c, .c, .c]) (ts := []) (s := [1, 2, 3, 4, 5, 6]) (l := [9, 11, 13, 18, 19, 20, 21, 22, 23, 213]) (by kernel_rfl) (by kernel_rfl) (.cons (nf h755) (.cons (bt h756) (.cons h757 .nil))) q
      · rw [if_neg h757] at h
        by_cases h758 : v_r65.2 = v_z638
        · rw [if_pos h758] at h
          by_cases h759 : v_r71.2 = v_z697
          · rw [if_pos h759] at h
            cases h
            exact pkk_sound TTok mix hF 1 (hs := [.t false, .c, .c, .c, .t true, .c, .c, .c, .c, .c, .c, .c, .c, .c, .c, .t false, .c, .c, .t false, .c, .c, .t false, .c, .c]) (ts := []) (s := [1, 2, 3, 4, 5, 6]) (l := [9, 11, 13, 18, 19, 20, 21, 22, 23, 213]) (by kernel_rfl) (by kernel_rfl) (.cons (nf h755) (.cons (bt h756) (.cons (vf h757) (.cons (nf h758) (.cons (nf h759) .nil))))) q
          · rw [if_neg h759] at h
            cases h
            exact pkk_sound TTok mix hF 1 (hs := [.t false, .c, .c, .c, .t true, .c, .c, .c, .c, .c, .c, .c, .c, .c, .c, .t false, .c, .c, .t false, .c, .c, .t true, .c, .c]) (ts := []) (s := [1, 2, 3, 4, 5, 6]) (l := [9, 11, 13, 18, 19, 20, 21, 22, 23, 213]) (by kernel_rfl) (by kernel_rfl) (.cons (nf h755) (.cons (bt h756) (.cons (vf h757) (.cons (nf h758) (.cons (nt h759) .nil))))) q
        · rw [if_neg h758] at h
          cases h
          exact pkk_sound TTok mix hF 1 (hs := [.t false, .c, .c, .c, .t true, .c, .c, .c, .c, .c, .c, .c, .c, .c, .c, .t false, .c, .c, .t true, .c, .c, .c, .c, .c]) (ts := []) (s := [1, 2, 3, 4, 5, 6]) (l := [9, 11, 13, 18, 19, 20, 21, 22, 23, 213]) (by kernel_rfl) (by kernel_rfl) (.cons (nf h755) (.cons (bt h756) (.cons (vf h757) (.cons (nt h758) .nil)))) q
    · rw [if_neg h756] at h
      by_cases h760 : (eqRes .neq (v_r51.1 == false)) = true
      · rw [if_pos h760] at h
        cases h
        exact pkk_sound TTok mix hF 1 (hs := [.t false, .c, .c, .c, .t false, .c, .c, .c, .c, .c, .c, .c, .c, .t true, .c, .c, .c, .c, .c, .c, .c, .c]) (ts := []) (s := [1, 2, 3, 4, 5, 6]) (l := [9, 11, 13, 18, 19, 20, 21, 22, 23, 213]) (by kernel_rfl) (by kernel_rfl) (.cons (nf h755) (.cons (bf h756) (.cons h760 .nil))) q
      · rw [if_neg h760] at h
        by_cases h761 : v_r65.2 = v_z638
        · rw [if_pos h761] at h
          by_cases h762 : v_r71.2 = v_z697
          · rw [if_pos h762] at h
            cases h
            exact pkk_sound TTok mix hF 1 (hs := [.t false, .c, .c, .c, .t false, .c, .c, .c, .c, .c, .c, .c, .c, .t false, .c, .c, .t false, .c, .c, .t false, .c, .c]) (ts := []) (s := [1, 2, 3, 4, 5, 6]) (l := [9, 11, 13, 18, 19, 20, 21, 22, 23, 213]) (by kernel_rfl) (by kernel_rfl) (.cons (nf h755) (.cons (bf h756) (.cons (vf h760) (.cons (nf h761) (.cons (nf h762) .nil))))) q
          · rw [if_neg h762] at h
            cases h
            exact pkk_sound TTok mix hF 1 (hs := [.t false, .c, .c, .c, .t false, .c, .c, .c, .c, .c, .c, .c, .c, .t false, .c, .c, .t false, .c, .c, .t true, .c, .c]) (ts := []) (s := [1, 2, 3, 4, 5, 6]) (l := [9, 11, 13, 18, 19, 20, 21, 22, 23, 213]) (by kernel_rfl) (by kernel_rfl) (.cons (nf h755) (.cons (bf h756) (.cons (vf h760) (.cons (nf h761) (.cons (nt h762) .nil))))) q
        · rw [if_neg h761] at h
          cases h
          exact pkk_sound TTok mix hF 1 (hs := [.t false, .c, .c, .c, .t false, .c, .c, .c, .c, .c, .c, .c, .c, .t false, .c, .c, .t true, .c, .c, .c, .c, .c]) (ts := []) (s := [1, 2, 3, 4, 5, 6]) (l := [9, 11, 13, 18, 19, 20, 21, 22, 23, 213]) (by kernel_rfl) (by kernel_rfl) (.cons (nf h755) (.cons (bf h756) (.cons (vf h760) (.cons (nt h761) .nil)))) q
  · rw [if_neg h755] at h
    cases h
    exact pkk_sound TTok mix hF 1 (hs := [.t true, .c, .c, .c, .c, .c, .c, .c, .c, .c, .c, .c, .c, .c, .c]) (ts := []) (s := [1, 2, 3, 4, 5, 6]) (l := [9, 11, 13, 18, 19, 20, 21, 22, 23, 213]) (by kernel_rfl) (by kernel_rfl) (.cons (nt h755) .nil) q
inductive G_ringlaw5_CredSays_C26_R where
  | x0 (v_x722 : Bool)
def G_ringlaw5_CredSays_C26_ex : G_ringlaw5_CredSays_C26_R → Ex
  | .x0 _ => .normal
def G_ringlaw5_CredSays_C26_st (v_z638 : Int) (v_z697 : Int) (v_z698 : Int) (v_r65 : (S_api_Cred × Int)) (v_r71 : (S_api_Cred × Int)) (v_r149 : (S_api_Cred × Int)) (v_c1 : S_api_Cred) (v_n2 : Int) : G_ringlaw5_CredSays_C26_R → PS
  | .x0 v_x722 => ⟨[dd, dd, dd, dd, .d (.v (.bool v_x722)), dd, dd, dd, dd, dd, dd, dd, dd, dd, dd, dd, dd, dd, dd, dd, dd, dd, dd, dd, dd, dd, dd, dd, dd, dd, dd, dd, dd, dd, dd, dd, dd, dd, dd, dd, dd, dd, dd, dd, dd, dd, dd, dd, dd, dd, dd, dd, dd, dd, dd, dd, dd, dd, dd, dd, dd, dd, dd, dd, dd, dd, dd, dd, dd, dd, dd, dd, dd, dd, dd, dd, dd, dd, dd, dd, dd, dd, dd, dd, dd, dd, dd, dd, dd, dd, dd, dd, dd, dd, dd, dd, dd, dd, dd, dd, dd, dd, dd, dd, dd, dd, dd, dd, dd, dd, dd, dd, dd, dd, dd, dd, dd, dd, dd, dd, dd, dd, dd, dd, dd, dd, dd, dd, dd, dd, dd, dd, dd, dd, dd, dd, dd, dd, dd, dd, dd, dd, dd, dd, dd, dd, dd, dd, dd, dd, dd, dd, dd, dd, dd, dd, dd, dd, dd, dd, dd, dd, dd, dd, dd, dd, dd, dd, dd, dd, dd, dd, dd, dd, dd, dd, dd, dd, dd, dd, dd, dd, dd, dd, dd, dd, dd, dd, dd, dd, dd, dd, dd, dd, dd, dd, dd, dd, dd, dd, dd, dd, dd, dd, dd, dd, dd, dd, dd, dd, dd, dd, dd, dd, dd, dd, dd, dd, dd, dd, dd, dd, dd, dd, dd, dd, dd, dd, dd, dd, dd, dd, dd], []⟩
def G_ringlaw5_CredSays_C26_hd (v_z638 : Int) (v_z697 : Int) (v_z698 : Int) (v_r65 : (S_api_Cred × Int)) (v_r71 : (S_api_Cred × Int)) (v_r149 : (S_api_Cred × Int)) (v_c1 : S_api_Cred) (v_n2 : Int)  : PS := ⟨[dd, dd, dd, dd, dd, dd, dd, dd, dd, .ref 0 0, dd, .ref 1 0, dd, .ref 2 0, dd, dd, dd, dd, .ref 3 0, .ref 4 0, .ref 5 0, .d (.v (.int .i64 v_z638)), .d (.v (.int .i64 v_z697)), .d (.v (.int .i64 v_z698)), dd, dd, dd, dd, dd, dd, dd, dd, dd, dd, dd, dd, dd, dd, dd, dd, dd, dd, dd, dd, dd, dd, dd, dd, dd, dd, dd, dd, dd, dd, dd, dd, dd, dd, dd, dd, dd, dd, dd, dd, dd, dd, dd, dd, dd, dd, dd, dd, dd, dd, dd, dd, dd, dd, dd, dd, dd, dd, dd, dd, dd, dd, dd, dd, dd, dd, dd, dd, dd, dd, dd, dd, dd, dd, dd, dd, dd, dd, dd, dd, dd, dd, dd, dd, dd, dd, dd, dd, dd, dd, dd, dd, dd, dd, dd, dd, dd, dd, dd, dd, dd, dd, dd, dd, dd, dd, dd, dd, dd, dd, dd, dd, dd, dd, dd, dd, dd, dd, dd, dd, dd, dd, dd, dd, dd, dd, dd, dd, dd, dd, dd, dd, dd, dd, dd, dd, dd, dd, dd, dd, dd, dd, dd, dd, dd, dd, dd, dd, dd, dd, dd, dd, dd, dd, dd, dd, dd, dd, dd, dd, dd, dd, dd, dd, dd, dd, dd, dd, dd, dd, dd, dd, dd, dd, dd, dd, dd, dd, dd, dd, dd, dd, dd, dd, dd, dd, dd, dd, dd, dd, dd, dd, dd, dd, dd, dd, dd, dd, dd, dd, dd, dd, dd, dd, dd, dd, dd, dd, dd], [.box [.d (.v (.int .i64 v_r65.1.fUser)), .d (.v (.int .i64 v_r65.1.fGroup)), .d (.sl (v_r65.1.fMore.map (eI .i64))), .d (.v (.int .i64 v_r65.1.fCaps)), .d (.v (.int .i64 v_r65.1.fLevel)), .d (.v (.int .i64 v_r65.1.fKind))], .box [.d (.v (.int .i64 v_r71.1.fUser)), .d (.v (.int .i64 v_r71.1.fGroup)), .d (.sl (v_r71.1.fMore.map (eI .i64))), .d (.v (.int .i64 v_r71.1.fCaps)), .d (.v (.int .i64 v_r71.1.fLevel)), .d (.v (.int .i64 v_r71.1.fKind))], .box [.d (.v (.int .i64 v_r149.1.fUser)), .d (.v (.int .i64 v_r149.1.fGroup)), .d (.sl (v_r149.1.fMore.map (eI .i64))), .d (.v (.int .i64 v_r149.1.fCaps)), .d (.v (.int .i64 v_r149.1.fLevel)), .d (.v (.int .i64 v_r149.1.fKind))], .box [.d (.v (.int .i64 v_c1.fUser)), .d (.v (.int .i64 v_c1.fGroup)), .d (.sl (v_c1.fMore.map (eI .i64))), .d (.v (.int .i64 (wi .i64 (v_c1.fCaps - (bits .and .i64 v_c1.fCaps v_n2))))), .d (.v (.int .i64 v_c1.fLevel)), .d (.v (.int .i64 v_c1.fKind))], .box [.d (.v (.int .i64 v_n2)), .d (.v (.int .i64 v_c1.fGroup)), .d (.sl (v_c1.fMore.map (eI .i64))), .d (.v (.int .i64 0)), .d (.v (.int .i64 v_c1.fLevel)), .d (.v (.int .i64 v_c1.fKind))], .box [.d (.v (.int .i64 v_c1.fUser)), .d (.v (.int .i64 v_c1.fGroup)), .d (.sl (v_c1.fMore.map (eI .i64))), .d (.v (.int .i64 v_c1.fCaps)), .d (.v (.int .i64 v_c1.fLevel)), .d (.v (.int .i64 v_c1.fKind))]]⟩
def G_ringlaw5_CredSays_C26 (n : Nat) (v_z638 : Int) (v_z697 : Int) (v_z698 : Int) (v_r65 : (S_api_Cred × Int)) (v_r71 : (S_api_Cred × Int)) (v_r149 : (S_api_Cred × Int)) (v_c1 : S_api_Cred) (v_n2 : Int) : Option G_ringlaw5_CredSays_C26_R :=
  (G_ringlaw5_pick n v_z638 (S_api_Cred.mk v_c1.fUser v_c1.fGroup v_c1.fMore (wi .i64 (v_c1.fCaps - (bits .and .i64 v_c1.fCaps v_n2))) v_c1.fLevel v_c1.fKind)).bind fun (v_r716 : (S_api_Cred)) =>
  (G_ringref5_SameCred n v_r65.1 v_r716).bind fun (v_r717 : (Bool)) =>
  if v_r717 = true then
   (G_ringlaw5_pick n v_z697 (S_api_Cred.mk v_n2 v_c1.fGroup v_c1.fMore 0 v_c1.fLevel v_c1.fKind)).bind fun (v_r718 : (S_api_Cred)) =>
   (G_ringref5_SameCred n v_r71.1 v_r718).bind fun (v_r719 : (Bool)) =>
   if v_r719 = true then
    (G_ringlaw5_pick n v_z698 v_c1).bind fun (v_r720 : (S_api_Cred)) =>
    (G_ringref5_SameCred n v_r149.1 v_r720).bind fun (v_r721 : (Bool)) =>
    some (.x0 v_r721)
   else
    some (.x0 false)
  else
   some (.x0 false)
theorem G_ringlaw5_CredSays_C26_ok {Fi : Ex → PS → Prop} (hF : KC 233 Fi) (ks : List Fr) (n : Nat) (v_z638 : Int) (v_z697 : Int) (v_z698 : Int) (v_r65 : (S_api_Cred × Int)) (v_r71 : (S_api_Cred × Int)) (v_r149 : (S_api_Cred × Int)) (v_c1 : S_api_Cred) (v_n2 : Int)  (o : G_ringlaw5_CredSays_C26_R) (h : G_ringlaw5_CredSays_C26 n v_z638 v_z697 v_z698 v_r65 v_r71 v_r149 v_c1 v_n2 = some o) (q : RunE Try.prog 233 Fi ks (G_ringlaw5_CredSays_C26_ex o) (G_ringlaw5_CredSays_C26_st v_z638 v_z697 v_z698 v_r65 v_r71 v_r149 v_c1 v_n2 o)) : RunE Try.prog 233 Fi (.s (cL (cR (cR (cR (cR (cR (cR (cR (cR (cR (cR (cR (cR (cR (cR (cR (cR (cR (cR (bodyOf Try.f3)))))))))))))))))))) :: ks) .normal (G_ringlaw5_CredSays_C26_hd v_z638 v_z697 v_z698 v_r65 v_r71 v_r149 v_c1 v_n2) := by
  unfold G_ringlaw5_CredSays_C26 at h
  obtain ⟨v_r716, h773, h⟩ := bind_some h
  obtain ⟨v_r717, h774, h⟩ := bind_some h
  by_cases h775 : v_r717 = true
  · rw [if_pos h775] at h
    obtain ⟨v_r718, h776, h⟩ := bind_some h
    obtain ⟨v_r719, h777, h⟩ := bind_some h
    by_cases h778 : v_r719 = true
    · rw [if_pos h778] at h
      obtain ⟨v_r720, h779, h⟩ := bind_some h
      obtain ⟨v_r721, h780, h⟩ := bind_some h
      cases h
      exact pkk_sound TTok mix hF 1 (hs := [.c, .c, .r (eS_api_Cred v_r716), .r (eB v_r717), .t true, .c, .c, .c, .c, .c, .r (eS_api_Cred v_r718), .c, .r (eB v_r719), .t true, .c, .c, .c, .c, .c, .r (eS_api_Cred v_r720), .c, .r (eB v_r721)]) (ts := []) (s := []) (l := [4]) (by kernel_rfl) (by kernel_rfl) (.cons (G_ringlaw5_pick_ok n v_z638 (S_api_Cred.mk v_c1.fUser v_c1.fGroup v_c1.fMore (wi .i64 (v_c1.fCaps - (bits .and .i64 v_c1.fCaps v_n2))) v_c1.fLevel v_c1.fKind) _ h773) (.cons (G_ringref5_SameCred_ok n v_r65.1 v_r716 _ h774) (.cons h775 (.cons (G_ringlaw5_pick_ok n v_z697 (S_api_Cred.mk v_n2 v_c1.fGroup v_c1.fMore 0 v_c1.fLevel v_c1.fKind) _ h776) (.cons (G_ringref5_SameCred_ok n v_r71.1 v_r718 _ h777) (.cons h778 (.cons (G_ringlaw5_pick_ok n v_z698 v_c1 _ h779) (.cons (G_ringref5_SameCred_ok n v_r149.1 v_r720 _ h780) .nil)))))))) q
    · rw [if_neg h778] at h
      cases h
      exact pkk_sound TTok mix hF 1 (hs := [.c, .c, .r (eS_api_Cred v_r716), .r (eB v_r717), .t true, .c, .c, .c, .c, .c, .r (eS_api_Cred v_r718), .c, .r (eB v_r719), .t false, .c, .c, .c, .c]) (ts := []) (s := []) (l := [4]) (by kernel_rfl) (by kernel_rfl) (.cons (G_ringlaw5_pick_ok n v_z638 (S_api_Cred.mk v_c1.fUser v_c1.fGroup v_c1.fMore (wi .i64 (v_c1.fCaps - (bits .and .i64 v_c1.fCaps v_n2))) v_c1.fLevel v_c1.fKind) _ h773) (.cons (G_ringref5_SameCred_ok n v_r65.1 v_r716 _ h774) (.cons h775 (.cons (G_ringlaw5_pick_ok n v_z697 (S_api_Cred.mk v_n2 v_c1.fGroup v_c1.fMore 0 v_c1.fLevel v_c1.fKind) _ h776) (.cons (G_ringref5_SameCred_ok n v_r71.1 v_r718 _ h777) (.cons (vf h778) .nil)))))) q
  · rw [if_neg h775] at h
    cases h
    exact pkk_sound TTok mix hF 1 (hs := [.c, .c, .r (eS_api_Cred v_r716), .r (eB v_r717), .t false, .c, .c, .c, .c, .c, .c, .c, .c, .c]) (ts := []) (s := []) (l := [4]) (by kernel_rfl) (by kernel_rfl) (.cons (G_ringlaw5_pick_ok n v_z638 (S_api_Cred.mk v_c1.fUser v_c1.fGroup v_c1.fMore (wi .i64 (v_c1.fCaps - (bits .and .i64 v_c1.fCaps v_n2))) v_c1.fLevel v_c1.fKind) _ h773) (.cons (G_ringref5_SameCred_ok n v_r65.1 v_r716 _ h774) (.cons (vf h775) .nil))) q
inductive G_ringlaw5_CredSays_C27_R where
  | x0 (v_x727 : Bool)
def G_ringlaw5_CredSays_C27_ex : G_ringlaw5_CredSays_C27_R → Ex
  | .x0 _ => .normal
def G_ringlaw5_CredSays_C27_st (v_n2 : Int) (v_r51 : (Bool × Int)) (v_r65 : (S_api_Cred × Int)) (v_r71 : (S_api_Cred × Int)) (v_r149 : (S_api_Cred × Int)) (v_z638 : Int) (v_z697 : Int) (v_z698 : Int) (v_c1 : S_api_Cred) : G_ringlaw5_CredSays_C27_R → PS
  | .x0 v_x727 => ⟨[dd, dd, dd, dd, dd, dd, dd, dd, dd, .ref 0 0, dd, .ref 1 0, dd, .ref 2 0, dd, dd, dd, dd, .ref 3 0, .ref 4 0, .ref 5 0, .d (.v (.int .i64 v_z638)), .d (.v (.int .i64 v_z697)), .d (.v (.int .i64 v_z698)), dd, dd, dd, dd, dd, dd, dd, dd, dd, dd, dd, dd, dd, dd, dd, dd, dd, dd, dd, dd, dd, dd, dd, dd, dd, dd, dd, dd, dd, dd, dd, dd, dd, dd, dd, dd, dd, dd, dd, dd, dd, dd, dd, dd, dd, dd, dd, dd, dd, dd, dd, dd, dd, dd, dd, dd, dd, dd, dd, dd, dd, dd, dd, dd, dd, dd, dd, dd, dd, dd, dd, dd, dd, dd, dd, dd, dd, dd, dd, dd, dd, dd, dd, dd, dd, dd, dd, dd, dd, dd, dd, dd, dd, dd, dd, dd, dd, dd, dd, dd, dd, dd, dd, dd, dd, dd, dd, dd, dd, dd, dd, dd, dd, dd, dd, dd, dd, dd, dd, dd, dd, dd, dd, dd, dd, dd, dd, dd, dd, dd, dd, dd, dd, dd, dd, dd, dd, dd, dd, dd, dd, dd, dd, dd, dd, dd, dd, dd, dd, dd, dd, dd, dd, dd, dd, dd, dd, dd, dd, dd, dd, dd, dd, dd, dd, dd, dd, dd, dd, dd, dd, dd, dd, dd, dd, dd, dd, dd, dd, dd, dd, dd, dd, dd, dd, dd, dd, dd, dd, .d (.v (.bool v_x727)), dd, dd, dd, dd, dd, dd, dd, dd, dd, dd, dd, dd, dd, dd, dd, dd, dd, dd, dd], [.box [.d (.v (.int .i64 v_r65.1.fUser)), .d (.v (.int .i64 v_r65.1.fGroup)), .d (.sl (v_r65.1.fMore.map (eI .i64))), .d (.v (.int .i64 v_r65.1.fCaps)), .d (.v (.int .i64 v_r65.1.fLevel)), .d (.v (.int .i64 v_r65.1.fKind))], .box [.d (.v (.int .i64 v_r71.1.fUser)), .d (.v (.int .i64 v_r71.1.fGroup)), .d (.sl (v_r71.1.fMore.map (eI .i64))), .d (.v (.int .i64 v_r71.1.fCaps)), .d (.v (.int .i64 v_r71.1.fLevel)), .d (.v (.int .i64 v_r71.1.fKind))], .box [.d (.v (.int .i64 v_r149.1.fUser)), .d (.v (.int .i64 v_r149.1.fGroup)), .d (.sl (v_r149.1.fMore.map (eI .i64))), .d (.v (.int .i64 v_r149.1.fCaps)), .d (.v (.int .i64 v_r149.1.fLevel)), .d (.v (.int .i64 v_r149.1.fKind))], .box [.d (.v (.int .i64 v_c1.fUser)), .d (.v (.int .i64 v_c1.fGroup)), .d (.sl (v_c1.fMore.map (eI .i64))), .d (.v (.int .i64 (wi .i64 (v_c1.fCaps - (bits .and .i64 v_c1.fCaps v_n2))))), .d (.v (.int .i64 v_c1.fLevel)), .d (.v (.int .i64 v_c1.fKind))], .box [.d (.v (.int .i64 v_n2)), .d (.v (.int .i64 v_c1.fGroup)), .d (.sl (v_c1.fMore.map (eI .i64))), .d (.v (.int .i64 v_c1.fCaps)), .d (.v (.int .i64 v_c1.fLevel)), .d (.v (.int .i64 v_c1.fKind))], .box [.d (.v (.int .i64 v_c1.fUser)), .d (.v (.int .i64 v_c1.fGroup)), .d (.sl (v_c1.fMore.map (eI .i64))), .d (.v (.int .i64 v_c1.fCaps)), .d (.v (.int .i64 v_c1.fLevel)), .d (.v (.int .i64 v_c1.fKind))]]⟩
def G_ringlaw5_CredSays_C27_hd (v_n2 : Int) (v_r51 : (Bool × Int)) (v_r65 : (S_api_Cred × Int)) (v_r71 : (S_api_Cred × Int)) (v_r149 : (S_api_Cred × Int)) (v_z638 : Int) (v_z697 : Int) (v_z698 : Int) (v_c1 : S_api_Cred)  : PS := ⟨[dd, .d (.v (.int .i64 v_n2)), .ref 0 0, dd, dd, dd, dd, .d (.v (.bool v_r51.1)), .d (.v (.int .i64 v_r51.2)), .ref 1 0, .d (.v (.int .i64 v_r65.2)), .ref 2 0, .d (.v (.int .i64 v_r71.2)), .ref 3 0, .d (.v (.int .i64 v_r149.2)), dd, dd, dd, .ref 4 0, .ref 5 0, .ref 6 0, .d (.v (.int .i64 v_z638)), .d (.v (.int .i64 v_z697)), .d (.v (.int .i64 v_z698)), dd, dd, dd, dd, dd, dd, dd, dd, dd, dd, dd, dd, dd, dd, dd, dd, dd, dd, dd, dd, dd, dd, dd, dd, dd, dd, dd, dd, dd, dd, dd, dd, dd, dd, dd, dd, dd, dd, dd, dd, dd, dd, dd, dd, dd, dd, dd, dd, dd, dd, dd, dd, dd, dd, dd, dd, dd, dd, dd, dd, dd, dd, dd, dd, dd, dd, dd, dd, dd, dd, dd, dd, dd, dd, dd, dd, dd, dd, dd, dd, dd, dd, dd, dd, dd, dd, dd, dd, dd, dd, dd, dd, dd, dd, dd, dd, dd, dd, dd, dd, dd, dd, dd, dd, dd, dd, dd, dd, dd, dd, dd, dd, dd, dd, dd, dd, dd, dd, dd, dd, dd, dd, dd, dd, dd, dd, dd, dd, dd, dd, dd, dd, dd, dd, dd, dd, dd, dd, dd, dd, dd, dd, dd, dd, dd, dd, dd, dd, dd, dd, dd, dd, dd, dd, dd, dd, dd, dd, dd, dd, dd, dd, dd, dd, dd, dd, dd, dd, dd, dd, dd, dd, dd, dd, dd, dd, dd, dd, dd, dd, dd, dd, dd, dd, dd, dd, dd, dd, dd, dd, dd, dd, dd, dd, dd, dd, dd, dd, dd, dd, dd, dd, dd, dd, dd, dd, dd, dd, dd], [.box [.d (.v (.int .i64 v_c1.fUser)), .d (.v (.int .i64 v_c1.fGroup)), .d (.sl (v_c1.fMore.map (eI .i64))), .d (.v (.int .i64 v_c1.fCaps)), .d (.v (.int .i64 v_c1.fLevel)), .d (.v (.int .i64 v_c1.fKind))], .box [.d (.v (.int .i64 v_r65.1.fUser)), .d (.v (.int .i64 v_r65.1.fGroup)), .d (.sl (v_r65.1.fMore.map (eI .i64))), .d (.v (.int .i64 v_r65.1.fCaps)), .d (.v (.int .i64 v_r65.1.fLevel)), .d (.v (.int .i64 v_r65.1.fKind))], .box [.d (.v (.int .i64 v_r71.1.fUser)), .d (.v (.int .i64 v_r71.1.fGroup)), .d (.sl (v_r71.1.fMore.map (eI .i64))), .d (.v (.int .i64 v_r71.1.fCaps)), .d (.v (.int .i64 v_r71.1.fLevel)), .d (.v (.int .i64 v_r71.1.fKind))], .box [.d (.v (.int .i64 v_r149.1.fUser)), .d (.v (.int .i64 v_r149.1.fGroup)), .d (.sl (v_r149.1.fMore.map (eI .i64))), .d (.v (.int .i64 v_r149.1.fCaps)), .d (.v (.int .i64 v_r149.1.fLevel)), .d (.v (.int .i64 v_r149.1.fKind))], .box [.d (.v (.int .i64 v_c1.fUser)), .d (.v (.int .i64 v_c1.fGroup)), .d (.sl (v_c1.fMore.map (eI .i64))), .d (.v (.int .i64 (wi .i64 (v_c1.fCaps - (bits .and .i64 v_c1.fCaps v_n2))))), .d (.v (.int .i64 v_c1.fLevel)), .d (.v (.int .i64 v_c1.fKind))], .box [.d (.v (.int .i64 v_n2)), .d (.v (.int .i64 v_c1.fGroup)), .d (.sl (v_c1.fMore.map (eI .i64))), .d (.v (.int .i64 v_c1.fCaps)), .d (.v (.int .i64 v_c1.fLevel)), .d (.v (.int .i64 v_c1.fKind))], .box [.d (.v (.int .i64 v_c1.fUser)), .d (.v (.int .i64 v_c1.fGroup)), .d (.sl (v_c1.fMore.map (eI .i64))), .d (.v (.int .i64 v_c1.fCaps)), .d (.v (.int .i64 v_c1.fLevel)), .d (.v (.int .i64 v_c1.fKind))]]⟩
def G_ringlaw5_CredSays_C27 (n : Nat) (v_n2 : Int) (v_r51 : (Bool × Int)) (v_r65 : (S_api_Cred × Int)) (v_r71 : (S_api_Cred × Int)) (v_r149 : (S_api_Cred × Int)) (v_z638 : Int) (v_z697 : Int) (v_z698 : Int) (v_c1 : S_api_Cred) : Option G_ringlaw5_CredSays_C27_R :=
  if v_r51.2 = v_z638 then
   if v_z638 = 0 then
    if (eqRes .neq (v_r51.1 == ((wi .i64 (v_c1.fCaps - (bits .and .i64 v_c1.fCaps v_n2))) == (wi .i64 (v_c1.fCaps - v_n2))))) = true then
     some (.x0 true)
    else
     if v_r65.2 = v_z638 then
      if v_r71.2 = v_z697 then
       some (.x0 (v_r149.2 != v_z698))
      else
       some (.x0 true)
     else
      some (.x0 true)
   else
    if (eqRes .neq (v_r51.1 == false)) = true then
     some (.x0 true)
    else
     if v_r65.2 = v_z638 then
      if v_r71.2 = v_z697 then
       some (.x0 (v_r149.2 != v_z698))
      else
       some (.x0 true)
     else
      some (.x0 true)
  else
   some (.x0 true)
theorem G_ringlaw5_CredSays_C27_ok {Fi : Ex → PS → Prop} (hF : KC 233 Fi) (ks : List Fr) (n : Nat) (v_n2 : Int) (v_r51 : (Bool × Int)) (v_r65 : (S_api_Cred × Int)) (v_r71 : (S_api_Cred × Int)) (v_r149 : (S_api_Cred × Int)) (v_z638 : Int) (v_z697 : Int) (v_z698 : Int) (v_c1 : S_api_Cred)  (o : G_ringlaw5_CredSays_C27_R) (h : G_ringlaw5_CredSays_C27 n v_n2 v_r51 v_r65 v_r71 v_r149 v_z638 v_z697 v_z698 v_c1 = some o) (q : RunE Try.prog 233 Fi ks (G_ringlaw5_CredSays_C27_ex o) (G_ringlaw5_CredSays_C27_st v_n2 v_r51 v_r65 v_r71 v_r149 v_z638 v_z697 v_z698 v_c1 o)) : RunE Try.prog 233 Fi (.s (cL (cL (cR (cR (cR (cR (cR (cR (cR (cR (cR (cR (cR (cR (cR (cR (cR (cR (cR (bodyOf Try.f3)))))))))))))))))))) :: ks) .normal (G_ringlaw5_CredSays_C27_hd v_n2 v_r51 v_r65 v_r71 v_r149 v_z638 v_z697 v_z698 v_c1) := by
  unfold G_ringlaw5_CredSays_C27 at h
  by_cases h790 : v_r51.2 = v_z638
  · rw [if_pos h790] at h
    by_cases h791 : v_z638 = 0
    · rw [if_pos h791] at h
      by_cases h792 : (eqRes .neq (v_r51.1 == ((wi .i64 (v_c1.fCaps - (bits .and .i64 v_c1.fCaps v_n2))) == (wi .i64 (v_c1.fCaps - v_n2))))) = true
      · rw [if_pos h792] at h
        cases h
        exact pkk_sound TTok mix hF 1 (hs := [.t false, .c, .c, .c, .t true, .c, .c, .c, .c, .c, .c, .c, .c, .c, .c, .t true, .c, .c, .c, .c, .c, .c, .c, .c]) (ts := []) (s := [1, 2, 3, 4, 5, 6]) (l := [9, 11, 13, 18, 19, 20, 21, 22, 23, 213]) (by kernel_rfl) (by kernel_rfl) (.cons (nf h790) (.cons (bt h791) (.cons h792 .nil))) q
      · rw [if_neg h792] at h
        by_cases h793 : v_r65.2 = v_z638
        · rw [if_pos h793] at h
          by_cases h794 : v_r71.2 = v_z697
          · rw [if_pos h794] at h
            cases h
            exact pkk_sound TTok mix hF 1 (hs := [.t false, .c, .c, .c, .t true, .c, .c, .c, .c, .c, .c, .c, .c, .c, .c, .t false, .c, .c, .t false, .c, .c, .t false, .c, .c]) (ts := []) (s := [1, 2, 3, 4, 5, 6]) (l := [9, 11, 13, 18, 19, 20, 21, 22, 23, 213]) (by kernel_rfl) (by kernel_rfl) (.cons (nf h790) (.cons (bt h791) (.cons (vf h792) (.cons (nf h793) (.cons (nf h794) .nil))))) q
          · rw [if_neg h794] at h
            cases h
            exact pkk_sound TTok mix hF 1 (hs := [.t false, .c, .c, .c, .t true, .c, .c, .c, .c, .c, .c, .c, .c, .c, .c, .t false, .c, .c, .t false, .c, .c, .t true, .c, .c]) (ts := []) (s := [1, 2, 3, 4, 5, 6]) (l := [9, 11, 13, 18, 19, 20, 21, 22, 23, 213]) (by kernel_rfl) (by kernel_rfl) (.cons (nf h790) (.cons (bt h791) (.cons (vf h792) (.cons (nf h793) (.cons (nt h794) .nil))))) q
        · rw [if_neg h793] at h
          cases h
          exact pkk_sound TTok mix hF 1 (hs := [.t false, .c, .c, .c, .t true, .c, .c, .c, .c, .c, .c, .c, .c, .c, .c, .t false, .c, .c, .t true, .c, .c, .c, .c, .c]) (ts := []) (s := [1, 2, 3, 4, 5, 6]) (l := [9, 11, 13, 18, 19, 20, 21, 22, 23, 213]) (by kernel_rfl) (by kernel_rfl) (.cons (nf h790) (.cons (bt h791) (.cons (vf h792) (.cons (nt h793) .nil)))) q
    · rw [if_neg h791] at h
      by_cases h795 : (eqRes .neq (v_r51.1 == false)) = true
      · rw [if_pos h795] at h
        cases h
        exact pkk_sound TTok mix hF 1 (hs := [.t false, .c, .c, .c, .t false, .c, .c, .c, .c, .c, .c, .c, .c, .t true, .c, .c, .c, .c, .c, .c, .c, .c]) (ts := []) (s := [1, 2, 3, 4, 5, 6]) (l := [9, 11, 13, 18, 19, 20, 21, 22, 23, 213]) (by kernel_rfl) (by kernel_rfl) (.cons (nf h790) (.cons (bf h791) (.cons h795 .nil))) q
      · rw [if_neg h795] at h
        by_cases h796 : v_r65.2 = v_z638
        · rw [if_pos h796] at h
          by_cases h797 : v_r71.2 = v_z697
          · rw [if_pos h797] at h
            cases h
            exact pkk_sound TTok mix hF 1 (hs := [.t false, .c, .c, .c, .t false, .c, .c, .c, .c, .c, .c, .c, .c, .t false, .c, .c, .t false, .c, .c, .t false, .c, .c]) (ts := []) (s := [1, 2, 3, 4, 5, 6]) (l := [9, 11, 13, 18, 19, 20, 21, 22, 23, 213]) (by kernel_rfl) (by kernel_rfl) (.cons (nf h790) (.cons (bf h791) (.cons (vf h795) (.cons (nf h796) (.cons (nf h797) .nil))))) q
          · rw [if_neg h797] at h
            cases h
            exact pkk_sound TTok mix hF 1 (hs := [.t false, .c, .c, .c, .t false, .c, .c, .c, .c, .c, .c, .c, .c, .t false, .c, .c, .t false, .c, .c, .t true, .c, .c]) (ts := []) (s := [1, 2, 3, 4, 5, 6]) (l := [9, 11, 13, 18, 19, 20, 21, 22, 23, 213]) (by kernel_rfl) (by kernel_rfl) (.cons (nf h790) (.cons (bf h791) (.cons (vf h795) (.cons (nf h796) (.cons (nt h797) .nil))))) q
        · rw [if_neg h796] at h
          cases h
          exact pkk_sound TTok mix hF 1 (hs := [.t false, .c, .c, .c, .t false, .c, .c, .c, .c, .c, .c, .c, .c, .t false, .c, .c, .t true, .c, .c, .c, .c, .c]) (ts := []) (s := [1, 2, 3, 4, 5, 6]) (l := [9, 11, 13, 18, 19, 20, 21, 22, 23, 213]) (by kernel_rfl) (by kernel_rfl) (.cons (nf h790) (.cons (bf h791) (.cons (vf h795) (.cons (nt h796) .nil)))) q
  · rw [if_neg h790] at h
    cases h
    exact pkk_sound TTok mix hF 1 (hs := [.t true, .c, .c, .c, .c, .c, .c, .c, .c, .c, .c, .c, .c, .c, .c]) (ts := []) (s := [1, 2, 3, 4, 5, 6]) (l := [9, 11, 13, 18, 19, 20, 21, 22, 23, 213]) (by kernel_rfl) (by kernel_rfl) (.cons (nt h790) .nil) q
inductive G_ringlaw5_CredSays_C28_R where
  | x0 (v_x750 : Bool)
def G_ringlaw5_CredSays_C28_ex : G_ringlaw5_CredSays_C28_R → Ex
  | .x0 _ => .normal
def G_ringlaw5_CredSays_C28_st (v_z638 : Int) (v_z697 : Int) (v_z698 : Int) (v_r65 : (S_api_Cred × Int)) (v_r71 : (S_api_Cred × Int)) (v_r149 : (S_api_Cred × Int)) (v_c1 : S_api_Cred) (v_n2 : Int) : G_ringlaw5_CredSays_C28_R → PS
  | .x0 v_x750 => ⟨[dd, dd, dd, dd, .d (.v (.bool v_x750)), dd, dd, dd, dd, dd, dd, dd, dd, dd, dd, dd, dd, dd, dd, dd, dd, dd, dd, dd, dd, dd, dd, dd, dd, dd, dd, dd, dd, dd, dd, dd, dd, dd, dd, dd, dd, dd, dd, dd, dd, dd, dd, dd, dd, dd, dd, dd, dd, dd, dd, dd, dd, dd, dd, dd, dd, dd, dd, dd, dd, dd, dd, dd, dd, dd, dd, dd, dd, dd, dd, dd, dd, dd, dd, dd, dd, dd, dd, dd, dd, dd, dd, dd, dd, dd, dd, dd, dd, dd, dd, dd, dd, dd, dd, dd, dd, dd, dd, dd, dd, dd, dd, dd, dd, dd, dd, dd, dd, dd, dd, dd, dd, dd, dd, dd, dd, dd, dd, dd, dd, dd, dd, dd, dd, dd, dd, dd, dd, dd, dd, dd, dd, dd, dd, dd, dd, dd, dd, dd, dd, dd, dd, dd, dd, dd, dd, dd, dd, dd, dd, dd, dd, dd, dd, dd, dd, dd, dd, dd, dd, dd, dd, dd, dd, dd, dd, dd, dd, dd, dd, dd, dd, dd, dd, dd, dd, dd, dd, dd, dd, dd, dd, dd, dd, dd, dd, dd, dd, dd, dd, dd, dd, dd, dd, dd, dd, dd, dd, dd, dd, dd, dd, dd, dd, dd, dd, dd, dd, dd, dd, dd, dd, dd, dd, dd, dd, dd, dd, dd, dd, dd, dd, dd, dd, dd, dd, dd, dd], []⟩
def G_ringlaw5_CredSays_C28_hd (v_z638 : Int) (v_z697 : Int) (v_z698 : Int) (v_r65 : (S_api_Cred × Int)) (v_r71 : (S_api_Cred × Int)) (v_r149 : (S_api_Cred × Int)) (v_c1 : S_api_Cred) (v_n2 : Int)  : PS := ⟨[dd, dd, dd, dd, dd, dd, dd, dd, dd, .ref 0 0, dd, .ref 1 0, dd, .ref 2 0, dd, dd, dd, dd, .ref 3 0, .ref 4 0, .ref 5 0, .d (.v (.int .i64 v_z638)), .d (.v (.int .i64 v_z697)), .d (.v (.int .i64 v_z698)), dd, dd, dd, dd, dd, dd, dd, dd, dd, dd, dd, dd, dd, dd, dd, dd, dd, dd, dd, dd, dd, dd, dd, dd, dd, dd, dd, dd, dd, dd, dd, dd, dd, dd, dd, dd, dd, dd, dd, dd, dd, dd, dd, dd, dd, dd, dd, dd, dd, dd, dd, dd, dd, dd, dd, dd, dd, dd, dd, dd, dd, dd, dd, dd, dd, dd, dd, dd, dd, dd, dd, dd, dd, dd, dd, dd, dd, dd, dd, dd, dd, dd, dd, dd, dd, dd, dd, dd, dd, dd, dd, dd, dd, dd, dd, dd, dd, dd, dd, dd, dd, dd, dd, dd, dd, dd, dd, dd, dd, dd, dd, dd, dd, dd, dd, dd, dd, dd, dd, dd, dd, dd, dd, dd, dd, dd, dd, dd, dd, dd, dd, dd, dd, dd, dd, dd, dd, dd, dd, dd, dd, dd, dd, dd, dd, dd, dd, dd, dd, dd, dd, dd, dd, dd, dd, dd, dd, dd, dd, dd, dd, dd, dd, dd, dd, dd, dd, dd, dd, dd, dd, dd, dd, dd, dd, dd, dd, dd, dd, dd, dd, dd, dd, dd, dd, dd, dd, dd, dd, dd, dd, dd, dd, dd, dd, dd, dd, dd, dd, dd, dd, dd, dd, dd, dd, dd, dd, dd, dd], [.box [.d (.v (.int .i64 v_r65.1.fUser)), .d (.v (.int .i64 v_r65.1.fGroup)), .d (.sl (v_r65.1.fMore.map (eI .i64))), .d (.v (.int .i64 v_r65.1.fCaps)), .d (.v (.int .i64 v_r65.1.fLevel)), .d (.v (.int .i64 v_r65.1.fKind))], .box [.d (.v (.int .i64 v_r71.1.fUser)), .d (.v (.int .i64 v_r71.1.fGroup)), .d (.sl (v_r71.1.fMore.map (eI .i64))), .d (.v (.int .i64 v_r71.1.fCaps)), .d (.v (.int .i64 v_r71.1.fLevel)), .d (.v (.int .i64 v_r71.1.fKind))], .box [.d (.v (.int .i64 v_r149.1.fUser)), .d (.v (.int .i64 v_r149.1.fGroup)), .d (.sl (v_r149.1.fMore.map (eI .i64))), .d (.v (.int .i64 v_r149.1.fCaps)), .d (.v (.int .i64 v_r149.1.fLevel)), .d (.v (.int .i64 v_r149.1.fKind))], .box [.d (.v (.int .i64 v_c1.fUser)), .d (.v (.int .i64 v_c1.fGroup)), .d (.sl (v_c1.fMore.map (eI .i64))), .d (.v (.int .i64 (wi .i64 (v_c1.fCaps - (bits .and .i64 v_c1.fCaps v_n2))))), .d (.v (.int .i64 v_c1.fLevel)), .d (.v (.int .i64 v_c1.fKind))], .box [.d (.v (.int .i64 v_n2)), .d (.v (.int .i64 v_c1.fGroup)), .d (.sl (v_c1.fMore.map (eI .i64))), .d (.v (.int .i64 v_c1.fCaps)), .d (.v (.int .i64 v_c1.fLevel)), .d (.v (.int .i64 v_c1.fKind))], .box [.d (.v (.int .i64 v_c1.fUser)), .d (.v (.int .i64 v_c1.fGroup)), .d (.sl (v_c1.fMore.map (eI .i64))), .d (.v (.int .i64 v_c1.fCaps)), .d (.v (.int .i64 v_c1.fLevel)), .d (.v (.int .i64 v_c1.fKind))]]⟩
def G_ringlaw5_CredSays_C28 (n : Nat) (v_z638 : Int) (v_z697 : Int) (v_z698 : Int) (v_r65 : (S_api_Cred × Int)) (v_r71 : (S_api_Cred × Int)) (v_r149 : (S_api_Cred × Int)) (v_c1 : S_api_Cred) (v_n2 : Int) : Option G_ringlaw5_CredSays_C28_R :=
  (G_ringlaw5_pick n v_z638 (S_api_Cred.mk v_c1.fUser v_c1.fGroup v_c1.fMore (wi .i64 (v_c1.fCaps - (bits .and .i64 v_c1.fCaps v_n2))) v_c1.fLevel v_c1.fKind)).bind fun (v_r744 : (S_api_Cred)) =>
  (G_ringref5_SameCred n v_r65.1 v_r744).bind fun (v_r745 : (Bool)) =>
  if v_r745 = true then
   (G_ringlaw5_pick n v_z697 (S_api_Cred.mk v_n2 v_c1.fGroup v_c1.fMore v_c1.fCaps v_c1.fLevel v_c1.fKind)).bind fun (v_r746 : (S_api_Cred)) =>
   (G_ringref5_SameCred n v_r71.1 v_r746).bind fun (v_r747 : (Bool)) =>
   if v_r747 = true then
    (G_ringlaw5_pick n v_z698 v_c1).bind fun (v_r748 : (S_api_Cred)) =>
    (G_ringref5_SameCred n v_r149.1 v_r748).bind fun (v_r749 : (Bool)) =>
    some (.x0 v_r749)
   else
    some (.x0 false)
  else
   some (.x0 false)
theorem G_ringlaw5_CredSays_C28_ok {Fi : Ex → PS → Prop} (hF : KC 233 Fi) (ks : List Fr) (n : Nat) (v_z638 : Int) (v_z697 : Int) (v_z698 : Int) (v_r65 : (S_api_Cred × Int)) (v_r71 : (S_api_Cred × Int)) (v_r149 : (S_api_Cred × Int)) (v_c1 : S_api_Cred) (v_n2 : Int)  (o : G_ringlaw5_CredSays_C28_R) (h : G_ringlaw5_CredSays_C28 n v_z638 v_z697 v_z698 v_r65 v_r71 v_r149 v_c1 v_n2 = some o) (q : RunE Try.prog 233 Fi ks (G_ringlaw5_CredSays_C28_ex o) (G_ringlaw5_CredSays_C28_st v_z638 v_z697 v_z698 v_r65 v_r71 v_r149 v_c1 v_n2 o)) : RunE Try.prog 233 Fi (.s (cL (cR (cR (cR (cR (cR (cR (cR (cR (cR (cR (cR (cR (cR (cR (cR (cR (cR (cR (bodyOf Try.f3)))))))))))))))))))) :: ks) .normal (G_ringlaw5_CredSays_C28_hd v_z638 v_z697 v_z698 v_r65 v_r71 v_r149 v_c1 v_n2) := by
  unfold G_ringlaw5_CredSays_C28 at h
  obtain ⟨v_r744, h808, h⟩ := bind_some h
  obtain ⟨v_r745, h809, h⟩ := bind_some h
  by_cases h810 : v_r745 = true
  · rw [if_pos h810] at h
    obtain ⟨v_r746, h811, h⟩ := bind_some h
    obtain ⟨v_r747, h812, h⟩ := bind_some h
    by_cases h813 : v_r747 = true
    · rw [if_pos h813] at h
      obtain ⟨v_r748, h814, h⟩ := bind_some h
      obtain ⟨v_r749, h815, h⟩ := bind_some h
      cases h
      exact pkk_sound TTok mix hF 1 (hs := [.c, .c, .r (eS_api_Cred v_r744), .r (eB v_r745), .t true, .c, .c, .c, .c, .c, .r (eS_api_Cred v_r746), .c, .r (eB v_r747), .t true, .c, .c, .c, .c, .c, .r (eS_api_Cred v_r748), .c, .r (eB v_r749)]) (ts := []) (s := []) (l := [4]) (by kernel_rfl) (by kernel_rfl) (.cons (G_ringlaw5_pick_ok n v_z638 (S_api_Cred.mk v_c1.fUser v_c1.fGroup v_c1.fMore (wi .i64 (v_c1.fCaps - (bits .and .i64 v_c1.fCaps v_n2))) v_c1.fLevel v_c1.fKind) _ h808) (.cons (G_ringref5_SameCred_ok n v_r65.1 v_r744 _ h809) (.cons h810 (.cons (G_ringlaw5_pick_ok n v_z697 (S_api_Cred.mk v_n2 v_c1.fGroup v_c1.fMore v_c1.fCaps v_c1.fLevel v_c1.fKind) _ h811) (.cons (G_ringref5_SameCred_ok n v_r71.1 v_r746 _ h812) (.cons h813 (.cons (G_ringlaw5_pick_ok n v_z698 v_c1 _ h814) (.cons (G_ringref5_SameCred_ok n v_r149.1 v_r748 _ h815) .nil)))))))) q
    · rw [if_neg h813] at h
      cases h
      exact pkk_sound TTok mix hF 1 (hs := [.c, .c, .r (eS_api_Cred v_r744), .r (eB v_r745), .t true, .c, .c, .c, .c, .c, .r (eS_api_Cred v_r746), .c, .r (eB v_r747), .t false, .c, .c, .c, .c]) (ts := []) (s := []) (l := [4]) (by kernel_rfl) (by kernel_rfl) (.cons (G_ringlaw5_pick_ok n v_z638 (S_api_Cred.mk v_c1.fUser v_c1.fGroup v_c1.fMore (wi .i64 (v_c1.fCaps - (bits .and .i64 v_c1.fCaps v_n2))) v_c1.fLevel v_c1.fKind) _ h808) (.cons (G_ringref5_SameCred_ok n v_r65.1 v_r744 _ h809) (.cons h810 (.cons (G_ringlaw5_pick_ok n v_z697 (S_api_Cred.mk v_n2 v_c1.fGroup v_c1.fMore v_c1.fCaps v_c1.fLevel v_c1.fKind) _ h811) (.cons (G_ringref5_SameCred_ok n v_r71.1 v_r746 _ h812) (.cons (vf h813) .nil)))))) q
  · rw [if_neg h810] at h
    cases h
    exact pkk_sound TTok mix hF 1 (hs := [.c, .c, .r (eS_api_Cred v_r744), .r (eB v_r745), .t false, .c, .c, .c, .c, .c, .c, .c, .c, .c]) (ts := []) (s := []) (l := [4]) (by kernel_rfl) (by kernel_rfl) (.cons (G_ringlaw5_pick_ok n v_z638 (S_api_Cred.mk v_c1.fUser v_c1.fGroup v_c1.fMore (wi .i64 (v_c1.fCaps - (bits .and .i64 v_c1.fCaps v_n2))) v_c1.fLevel v_c1.fKind) _ h808) (.cons (G_ringref5_SameCred_ok n v_r65.1 v_r744 _ h809) (.cons (vf h810) .nil))) q
inductive G_ringlaw5_CredSays_C29_R where
  | x0 (v_x758 : Bool) (v_w759 : (List Int))
def G_ringlaw5_CredSays_C29_ex : G_ringlaw5_CredSays_C29_R → Ex
  | .x0 _ _ => .normal
def G_ringlaw5_CredSays_C29_st (v_n2 : Int) (v_r51 : (Bool × Int)) (v_r65 : (S_api_Cred × Int)) (v_r71 : (S_api_Cred × Int)) (v_r149 : (S_api_Cred × Int)) (v_z638 : Int) (v_z755 : Int) (v_z756 : Int) (v_c1 : S_api_Cred) (v_z757 : (List Int)) : G_ringlaw5_CredSays_C29_R → PS
  | .x0 v_x758 v_w759 => ⟨[dd, dd, dd, dd, dd, dd, dd, dd, dd, .ref 0 0, dd, .ref 1 0, dd, .ref 2 0, dd, dd, dd, dd, .ref 3 0, .ref 4 0, .ref 5 0, .d (.v (.int .i64 v_z638)), .d (.v (.int .i64 v_z755)), .d (.v (.int .i64 v_z756)), dd, dd, dd, dd, dd, dd, dd, dd, dd, dd, dd, dd, dd, dd, dd, dd, dd, dd, dd, dd, dd, dd, dd, dd, dd, dd, dd, dd, dd, dd, dd, dd, dd, dd, dd, dd, dd, dd, dd, dd, dd, dd, dd, dd, dd, dd, dd, dd, dd, dd, dd, dd, dd, dd, dd, dd, dd, dd, dd, dd, dd, dd, dd, dd, dd, dd, dd, dd, dd, dd, dd, dd, dd, dd, dd, dd, dd, dd, dd, dd, dd, dd, dd, dd, dd, dd, dd, dd, dd, dd, dd, dd, dd, dd, dd, dd, dd, dd, dd, dd, dd, dd, dd, dd, dd, dd, dd, dd, dd, dd, dd, dd, dd, dd, dd, dd, dd, dd, dd, dd, dd, dd, dd, dd, dd, dd, dd, dd, dd, dd, dd, dd, dd, dd, dd, dd, dd, dd, dd, dd, dd, dd, dd, dd, dd, dd, dd, dd, dd, dd, dd, dd, dd, dd, dd, dd, dd, dd, dd, dd, dd, dd, dd, dd, dd, dd, dd, dd, dd, dd, dd, dd, dd, dd, dd, dd, dd, dd, dd, dd, dd, dd, dd, dd, dd, dd, dd, dd, dd, .d (.v (.bool v_x758)), dd, dd, dd, dd, dd, dd, dd, dd, dd, dd, dd, dd, dd, dd, dd, dd, dd, dd, dd], [.box [.d (.v (.int .i64 v_r65.1.fUser)), .d (.v (.int .i64 v_r65.1.fGroup)), .d (.sl (v_r65.1.fMore.map (eI .i64))), .d (.v (.int .i64 v_r65.1.fCaps)), .d (.v (.int .i64 v_r65.1.fLevel)), .d (.v (.int .i64 v_r65.1.fKind))], .box [.d (.v (.int .i64 v_r71.1.fUser)), .d (.v (.int .i64 v_r71.1.fGroup)), .d (.sl (v_r71.1.fMore.map (eI .i64))), .d (.v (.int .i64 v_r71.1.fCaps)), .d (.v (.int .i64 v_r71.1.fLevel)), .d (.v (.int .i64 v_r71.1.fKind))], .box [.d (.v (.int .i64 v_r149.1.fUser)), .d (.v (.int .i64 v_r149.1.fGroup)), .d (.sl (v_r149.1.fMore.map (eI .i64))), .d (.v (.int .i64 v_r149.1.fCaps)), .d (.v (.int .i64 v_r149.1.fLevel)), .d (.v (.int .i64 v_r149.1.fKind))], .box [.d (.v (.int .i64 v_c1.fUser)), .d (.v (.int .i64 v_c1.fGroup)), .d (.sl (v_c1.fMore.map (eI .i64))), .d (.v (.int .i64 (wi .i64 (v_c1.fCaps - (bits .and .i64 v_c1.fCaps v_n2))))), .d (.v (.int .i64 v_c1.fLevel)), .d (.v (.int .i64 v_c1.fKind))], .box [.d (.v (.int .i64 v_n2)), .d (.v (.int .i64 v_c1.fGroup)), .d (.sl (v_c1.fMore.map (eI .i64))), .d (.v (.int .i64 0)), .d (.v (.int .i64 v_c1.fLevel)), .d (.v (.int .i64 v_c1.fKind))], .box [.d (.v (.int .i64 v_c1.fUser)), .d (.v (.int .i64 v_c1.fGroup)), .srf 6, .d (.v (.int .i64 v_c1.fCaps)), .d (.v (.int .i64 v_c1.fLevel)), .d (.v (.int .i64 v_c1.fKind))], .row 3 1 (v_w759.map (eI .i64))]⟩
def G_ringlaw5_CredSays_C29_hd (v_n2 : Int) (v_r51 : (Bool × Int)) (v_r65 : (S_api_Cred × Int)) (v_r71 : (S_api_Cred × Int)) (v_r149 : (S_api_Cred × Int)) (v_z638 : Int) (v_z755 : Int) (v_z756 : Int) (v_c1 : S_api_Cred) (v_z757 : (List Int))  : PS := ⟨[dd, .d (.v (.int .i64 v_n2)), .ref 0 0, dd, dd, dd, dd, .d (.v (.bool v_r51.1)), .d (.v (.int .i64 v_r51.2)), .ref 1 0, .d (.v (.int .i64 v_r65.2)), .ref 2 0, .d (.v (.int .i64 v_r71.2)), .ref 3 0, .d (.v (.int .i64 v_r149.2)), dd, dd, dd, .ref 4 0, .ref 5 0, .ref 6 0, .d (.v (.int .i64 v_z638)), .d (.v (.int .i64 v_z755)), .d (.v (.int .i64 v_z756)), dd, dd, dd, dd, dd, dd, dd, dd, dd, dd, dd, dd, dd, dd, dd, dd, dd, dd, dd, dd, dd, dd, dd, dd, dd, dd, dd, dd, dd, dd, dd, dd, dd, dd, dd, dd, dd, dd, dd, dd, dd, dd, dd, dd, dd, dd, dd, dd, dd, dd, dd, dd, dd, dd, dd, dd, dd, dd, dd, dd, dd, dd, dd, dd, dd, dd, dd, dd, dd, dd, dd, dd, dd, dd, dd, dd, dd, dd, dd, dd, dd, dd, dd, dd, dd, dd, dd, dd, dd, dd, dd, dd, dd, dd, dd, dd, dd, dd, dd, dd, dd, dd, dd, dd, dd, dd, dd, dd, dd, dd, dd, dd, dd, dd, dd, dd, dd, dd, dd, dd, dd, dd, dd, dd, dd, dd, dd, dd, dd, dd, dd, dd, dd, dd, dd, dd, dd, dd, dd, dd, dd, dd, dd, dd, dd, dd, dd, dd, dd, dd, dd, dd, dd, dd, dd, dd, dd, dd, dd, dd, dd, dd, dd, dd, dd, dd, dd, dd, dd, dd, dd, dd, dd, dd, dd, dd, dd, dd, dd, dd, dd, dd, dd, dd, dd, dd, dd, dd, dd, dd, dd, dd, dd, dd, dd, dd, dd, dd, dd, dd, dd, dd, dd, dd, dd, dd, dd, dd, dd], [.box [.d (.v (.int .i64 v_c1.fUser)), .d (.v (.int .i64 v_c1.fGroup)), .d (.sl (v_c1.fMore.map (eI .i64))), .d (.v (.int .i64 v_c1.fCaps)), .d (.v (.int .i64 v_c1.fLevel)), .d (.v (.int .i64 v_c1.fKind))], .box [.d (.v (.int .i64 v_r65.1.fUser)), .d (.v (.int .i64 v_r65.1.fGroup)), .d (.sl (v_r65.1.fMore.map (eI .i64))), .d (.v (.int .i64 v_r65.1.fCaps)), .d (.v (.int .i64 v_r65.1.fLevel)), .d (.v (.int .i64 v_r65.1.fKind))], .box [.d (.v (.int .i64 v_r71.1.fUser)), .d (.v (.int .i64 v_r71.1.fGroup)), .d (.sl (v_r71.1.fMore.map (eI .i64))), .d (.v (.int .i64 v_r71.1.fCaps)), .d (.v (.int .i64 v_r71.1.fLevel)), .d (.v (.int .i64 v_r71.1.fKind))], .box [.d (.v (.int .i64 v_r149.1.fUser)), .d (.v (.int .i64 v_r149.1.fGroup)), .d (.sl (v_r149.1.fMore.map (eI .i64))), .d (.v (.int .i64 v_r149.1.fCaps)), .d (.v (.int .i64 v_r149.1.fLevel)), .d (.v (.int .i64 v_r149.1.fKind))], .box [.d (.v (.int .i64 v_c1.fUser)), .d (.v (.int .i64 v_c1.fGroup)), .d (.sl (v_c1.fMore.map (eI .i64))), .d (.v (.int .i64 (wi .i64 (v_c1.fCaps - (bits .and .i64 v_c1.fCaps v_n2))))), .d (.v (.int .i64 v_c1.fLevel)), .d (.v (.int .i64 v_c1.fKind))], .box [.d (.v (.int .i64 v_n2)), .d (.v (.int .i64 v_c1.fGroup)), .d (.sl (v_c1.fMore.map (eI .i64))), .d (.v (.int .i64 0)), .d (.v (.int .i64 v_c1.fLevel)), .d (.v (.int .i64 v_c1.fKind))], .box [.d (.v (.int .i64 v_c1.fUser)), .d (.v (.int .i64 v_c1.fGroup)), .srf 7, .d (.v (.int .i64 v_c1.fCaps)), .d (.v (.int .i64 v_c1.fLevel)), .d (.v (.int .i64 v_c1.fKind))], .row 3 1 (v_z757.map (eI .i64))]⟩
def G_ringlaw5_CredSays_C29 (n : Nat) (v_n2 : Int) (v_r51 : (Bool × Int)) (v_r65 : (S_api_Cred × Int)) (v_r71 : (S_api_Cred × Int)) (v_r149 : (S_api_Cred × Int)) (v_z638 : Int) (v_z755 : Int) (v_z756 : Int) (v_c1 : S_api_Cred) (v_z757 : (List Int)) : Option G_ringlaw5_CredSays_C29_R :=
  if v_r51.2 = v_z638 then
   if v_z638 = 0 then
    if (eqRes .neq (v_r51.1 == ((wi .i64 (v_c1.fCaps - (bits .and .i64 v_c1.fCaps v_n2))) == (wi .i64 (v_c1.fCaps - v_n2))))) = true then
     some (.x0 true v_z757)
    else
     if v_r65.2 = v_z638 then
      if v_r71.2 = v_z755 then
       some (.x0 (v_r149.2 != v_z756) v_z757)
      else
       some (.x0 true v_z757)
     else
      some (.x0 true v_z757)
   else
    if (eqRes .neq (v_r51.1 == false)) = true then
     some (.x0 true v_z757)
    else
     if v_r65.2 = v_z638 then
      if v_r71.2 = v_z755 then
       some (.x0 (v_r149.2 != v_z756) v_z757)
      else
       some (.x0 true v_z757)
     else
      some (.x0 true v_z757)
  else
   some (.x0 true v_z757)
theorem G_ringlaw5_CredSays_C29_ok {Fi : Ex → PS → Prop} (hF : KC 233 Fi) (ks : List Fr) (n : Nat) (v_n2 : Int) (v_r51 : (Bool × Int)) (v_r65 : (S_api_Cred × Int)) (v_r71 : (S_api_Cred × Int)) (v_r149 : (S_api_Cred × Int)) (v_z638 : Int) (v_z755 : Int) (v_z756 : Int) (v_c1 : S_api_Cred) (v_z757 : (List Int))  (o : G_ringlaw5_CredSays_C29_R) (h : G_ringlaw5_CredSays_C29 n v_n2 v_r51 v_r65 v_r71 v_r149 v_z638 v_z755 v_z756 v_c1 v_z757 = some o) (q : RunE Try.prog 233 Fi ks (G_ringlaw5_CredSays_C29_ex o) (G_ringlaw5_CredSays_C29_st v_n2 v_r51 v_r65 v_r71 v_r149 v_z638 v_z755 v_z756 v_c1 v_z757 o)) : RunE Try.prog 233 Fi (.s (cL (cL (cR (cR (cR (cR (cR (cR (cR (cR (cR (cR (cR (cR (cR (cR (cR (cR (cR (bodyOf Try.f3)))))))))))))))))))) :: ks) .normal (G_ringlaw5_CredSays_C29_hd v_n2 v_r51 v_r65 v_r71 v_r149 v_z638 v_z755 v_z756 v_c1 v_z757) := by
  unfold G_ringlaw5_CredSays_C29 at h
  by_cases h826 : v_r51.2 = v_z638
  · rw [if_pos h826] at h
    by_cases h827 : v_z638 = 0
    · rw [if_pos h827] at h
      by_cases h828 : (eqRes .neq (v_r51.1 == ((wi .i64 (v_c1.fCaps - (bits .and .i64 v_c1.fCaps v_n2))) == (wi .i64 (v_c1.fCaps - v_n2))))) = true
      · rw [if_pos h828] at h
        cases h
        exact pkk_sound TTok mix hF 1 (hs := [.t false, .c, .c, .c, .t true, .c, .c, .c, .c, .c, .c, .c, .c, .c, .c, .t true, .c, .c, .c, .c, .c, .c, .c, .c]) (ts := []) (s := [1, 2, 3, 4, 5, 6, 7]) (l := [9, 11, 13, 18, 19, 20, 21, 22, 23, 213]) (by kernel_rfl) (by kernel_rfl) (.cons (nf h826) (.cons (bt h827) (.cons h828 .nil))) q
      · rw [if_neg h828] at h
        by_cases h829 : v_r65.2 = v_z638
        · rw [if_pos h829] at h
          by_cases h830 : v_r71.2 = v_z755
          · rw [if_pos h830] at h
            cases h
            exact pkk_sound TTok mix hF 1 (hs := [.t false, .c, .c, .c, .t true, .c, .c, .c, .c, .c, .c, .c, .c, .c, .c, .t false, .c, .c, .t false, .c, .c, .t false, .c, .c]) (ts := []) (s := [1, 2, 3, 4, 5, 6, 7]) (l := [9, 11, 13, 18, 19, 20, 21, 22, 23, 213]) (by kernel_rfl) (by kernel_rfl) (.cons (nf h826) (.cons (bt h827) (.cons (vf h828) (.cons (nf h829) (.cons (nf h830) .nil))))) q
          · rw [if_neg h830] at h
            cases h
            exact pkk_sound TTok mix hF 1 (hs := [.t false, .c, .c, .c, .t true, .c, .c, .c, .c, .c, .c, .c, .c, .c, .c, .t false, .c, .c, .t false, .c, .c, .t true, .c, .c]) (ts := []) (s := [1, 2, 3, 4, 5, 6, 7]) (l := [9, 11, 13, 18, 19, 20, 21, 22, 23, 213]) (by kernel_rfl) (by kernel_rfl) (.cons (nf h826) (.cons (bt h827) (.cons (vf h828) (.cons (nf h829) (.cons (nt h830) .nil))))) q
        · rw [if_neg h829] at h
          cases h
          exact pkk_sound TTok mix hF 1 (hs := [.t false, .c, .c, .c, .t true, .c, .c, .c, .c, .c, .c, .c, .c, .c, .c, .t false, .c, .c, .t true, .c, .c, .c, .c, .c]) (ts := []) (s := [1, 2, 3, 4, 5, 6, 7]) (l := [9, 11, 13, 18, 19, 20, 21, 22, 23, 213]) (by kernel_rfl) (by kernel_rfl) (.cons (nf h826) (.cons (bt h827) (.cons (vf h828) (.cons (nt h829) .nil)))) q
    · rw [if_neg h827] at h
      by_cases h831 : (eqRes .neq (v_r51.1 == false)) = true
      · rw [if_pos h831] at h
        cases h
        exact pkk_sound TTok mix hF 1 (hs := [.t false, .c, .c, .c, .t false, .c, .c, .c, .c, .c, .c, .c, .c, .t true, .c, .c, .c, .c, .c, .c, .c, .c]) (ts := []) (s := [1, 2, 3, 4, 5, 6, 7]) (l := [9, 11, 13, 18, 19, 20, 21, 22, 23, 213]) (by kernel_rfl) (by kernel_rfl) (.cons (nf h826) (.cons (bf h827) (.cons h831 .nil))) q
      · rw [if_neg h831] at h
        by_cases h832 : v_r65.2 = v_z638
        · rw [if_pos h832] at h
          by_cases h833 : v_r71.2 = v_z755
          · rw [if_pos h833] at h
            cases h
            exact pkk_sound TTok mix hF 1 (hs := [.t false, .c, .c, .c, .t false, .c, .c, .c, .c, .c, .c, .c, .c, .t false, .c, .c, .t false, .c, .c, .t false, .c, .c]) (ts := []) (s := [1, 2, 3, 4, 5, 6, 7]) (l := [9, 11, 13, 18, 19, 20, 21, 22, 23, 213]) (by kernel_rfl) (by kernel_rfl) (.cons (nf h826) (.cons (bf h827) (.cons (vf h831) (.cons (nf h832) (.cons (nf h833) .nil))))) q
          · rw [if_neg h833] at h
            cases h
            exact pkk_sound TTok mix hF 1 (hs := [.t false, .c, .c, .c, .t false, .c, .c, .c, .c, .c, .c, .c, .c, .t false, .c, .c, .t false, .c, .c, .t true, .c, .c]) (ts := []) (s := [1, 2, 3, 4, 5, 6, 7]) (l := [9, 11, 13, 18, 19, 20, 21, 22, 23, 213]) (by kernel_rfl) (by kernel_rfl) (.cons (nf h826) (.cons (bf h827) (.cons (vf h831) (.cons (nf h832) (.cons (nt h833) .nil))))) q
        · rw [if_neg h832] at h
          cases h
          exact pkk_sound TTok mix hF 1 (hs := [.t false, .c, .c, .c, .t false, .c, .c, .c, .c, .c, .c, .c, .c, .t false, .c, .c, .t true, .c, .c, .c, .c, .c]) (ts := []) (s := [1, 2, 3, 4, 5, 6, 7]) (l := [9, 11, 13, 18, 19, 20, 21, 22, 23, 213]) (by kernel_rfl) (by kernel_rfl) (.cons (nf h826) (.cons (bf h827) (.cons (vf h831) (.cons (nt h832) .nil)))) q
  · rw [if_neg h826] at h
    cases h
    exact pkk_sound TTok mix hF 1 (hs := [.t true, .c, .c, .c, .c, .c, .c, .c, .c, .c, .c, .c, .c, .c, .c]) (ts := []) (s := [1, 2, 3, 4, 5, 6, 7]) (l := [9, 11, 13, 18, 19, 20, 21, 22, 23, 213]) (by kernel_rfl) (by kernel_rfl) (.cons (nt h826) .nil) q
inductive G_ringlaw5_CredSays_C30_R where
  | x0 (v_x799 : Bool)
def G_ringlaw5_CredSays_C30_ex : G_ringlaw5_CredSays_C30_R → Ex
  | .x0 _ => .normal
def G_ringlaw5_CredSays_C30_st (v_z638 : Int) (v_z755 : Int) (v_z756 : Int) (v_r65 : (S_api_Cred × Int)) (v_r71 : (S_api_Cred × Int)) (v_r149 : (S_api_Cred × Int)) (v_c1 : S_api_Cred) (v_n2 : Int) (v_z778 : (List Int)) : G_ringlaw5_CredSays_C30_R → PS
  | .x0 v_x799 => ⟨[dd, dd, dd, dd, .d (.v (.bool v_x799)), dd, dd, dd, dd, dd, dd, dd, dd, dd, dd, dd, dd, dd, dd, dd, dd, dd, dd, dd, dd, dd, dd, dd, dd, dd, dd, dd, dd, dd, dd, dd, dd, dd, dd, dd, dd, dd, dd, dd, dd, dd, dd, dd, dd, dd, dd, dd, dd, dd, dd, dd, dd, dd, dd, dd, dd, dd, dd, dd, dd, dd, dd, dd, dd, dd, dd, dd, dd, dd, dd, dd, dd, dd, dd, dd, dd, dd, dd, dd, dd, dd, dd, dd, dd, dd, dd, dd, dd, dd, dd, dd, dd, dd, dd, dd, dd, dd, dd, dd, dd, dd, dd, dd, dd, dd, dd, dd, dd, dd, dd, dd, dd, dd, dd, dd, dd, dd, dd, dd, dd, dd, dd, dd, dd, dd, dd, dd, dd, dd, dd, dd, dd, dd, dd, dd, dd, dd, dd, dd, dd, dd, dd, dd, dd, dd, dd, dd, dd, dd, dd, dd, dd, dd, dd, dd, dd, dd, dd, dd, dd, dd, dd, dd, dd, dd, dd, dd, dd, dd, dd, dd, dd, dd, dd, dd, dd, dd, dd, dd, dd, dd, dd, dd, dd, dd, dd, dd, dd, dd, dd, dd, dd, dd, dd, dd, dd, dd, dd, dd, dd, dd, dd, dd, dd, dd, dd, dd, dd, dd, dd, dd, dd, dd, dd, dd, dd, dd, dd, dd, dd, dd, dd, dd, dd, dd, dd, dd, dd], []⟩
def G_ringlaw5_CredSays_C30_hd (v_z638 : Int) (v_z755 : Int) (v_z756 : Int) (v_r65 : (S_api_Cred × Int)) (v_r71 : (S_api_Cred × Int)) (v_r149 : (S_api_Cred × Int)) (v_c1 : S_api_Cred) (v_n2 : Int) (v_z778 : (List Int))  : PS := ⟨[dd, dd, dd, dd, dd, dd, dd, dd, dd, .ref 0 0, dd, .ref 1 0, dd, .ref 2 0, dd, dd, dd, dd, .ref 3 0, .ref 4 0, .ref 5 0, .d (.v (.int .i64 v_z638)), .d (.v (.int .i64 v_z755)), .d (.v (.int .i64 v_z756)), dd, dd, dd, dd, dd, dd, dd, dd, dd, dd, dd, dd, dd, dd, dd, dd, dd, dd, dd, dd, dd, dd, dd, dd, dd, dd, dd, dd, dd, dd, dd, dd, dd, dd, dd, dd, dd, dd, dd, dd, dd, dd, dd, dd, dd, dd, dd, dd, dd, dd, dd, dd, dd, dd, dd, dd, dd, dd, dd, dd, dd, dd, dd, dd, dd, dd, dd, dd, dd, dd, dd, dd, dd, dd, dd, dd, dd, dd, dd, dd, dd, dd, dd, dd, dd, dd, dd, dd, dd, dd, dd, dd, dd, dd, dd, dd, dd, dd, dd, dd, dd, dd, dd, dd, dd, dd, dd, dd, dd, dd, dd, dd, dd, dd, dd, dd, dd, dd, dd, dd, dd, dd, dd, dd, dd, dd, dd, dd, dd, dd, dd, dd, dd, dd, dd, dd, dd, dd, dd, dd, dd, dd, dd, dd, dd, dd, dd, dd, dd, dd, dd, dd, dd, dd, dd, dd, dd, dd, dd, dd, dd, dd, dd, dd, dd, dd, dd, dd, dd, dd, dd, dd, dd, dd, dd, dd, dd, dd, dd, dd, dd, dd, dd, dd, dd, dd, dd, dd, dd, dd, dd, dd, dd, dd, dd, dd, dd, dd, dd, dd, dd, dd, dd, dd, dd, dd, dd, dd, dd], [.box [.d (.v (.int .i64 v_r65.1.fUser)), .d (.v (.int .i64 v_r65.1.fGroup)), .d (.sl (v_r65.1.fMore.map (eI .i64))), .d (.v (.int .i64 v_r65.1.fCaps)), .d (.v (.int .i64 v_r65.1.fLevel)), .d (.v (.int .i64 v_r65.1.fKind))], .box [.d (.v (.int .i64 v_r71.1.fUser)), .d (.v (.int .i64 v_r71.1.fGroup)), .d (.sl (v_r71.1.fMore.map (eI .i64))), .d (.v (.int .i64 v_r71.1.fCaps)), .d (.v (.int .i64 v_r71.1.fLevel)), .d (.v (.int .i64 v_r71.1.fKind))], .box [.d (.v (.int .i64 v_r149.1.fUser)), .d (.v (.int .i64 v_r149.1.fGroup)), .d (.sl (v_r149.1.fMore.map (eI .i64))), .d (.v (.int .i64 v_r149.1.fCaps)), .d (.v (.int .i64 v_r149.1.fLevel)), .d (.v (.int .i64 v_r149.1.fKind))], .box [.d (.v (.int .i64 v_c1.fUser)), .d (.v (.int .i64 v_c1.fGroup)), .d (.sl (v_c1.fMore.map (eI .i64))), .d (.v (.int .i64 (wi .i64 (v_c1.fCaps - (bits .and .i64 v_c1.fCaps v_n2))))), .d (.v (.int .i64 v_c1.fLevel)), .d (.v (.int .i64 v_c1.fKind))], .box [.d (.v (.int .i64 v_n2)), .d (.v (.int .i64 v_c1.fGroup)), .d (.sl (v_c1.fMore.map (eI .i64))), .d (.v (.int .i64 0)), .d (.v (.int .i64 v_c1.fLevel)), .d (.v (.int .i64 v_c1.fKind))], .box [.d (.v (.int .i64 v_c1.fUser)), .d (.v (.int .i64 v_c1.fGroup)), .srf 6, .d (.v (.int .i64 v_c1.fCaps)), .d (.v (.int .i64 v_c1.fLevel)), .d (.v (.int .i64 v_c1.fKind))], .row 3 1 (v_z778.map (eI .i64))]⟩
def G_ringlaw5_CredSays_C30 (n : Nat) (v_z638 : Int) (v_z755 : Int) (v_z756 : Int) (v_r65 : (S_api_Cred × Int)) (v_r71 : (S_api_Cred × Int)) (v_r149 : (S_api_Cred × Int)) (v_c1 : S_api_Cred) (v_n2 : Int) (v_z778 : (List Int)) : Option G_ringlaw5_CredSays_C30_R :=
  (G_ringlaw5_pick n v_z638 (S_api_Cred.mk v_c1.fUser v_c1.fGroup v_c1.fMore (wi .i64 (v_c1.fCaps - (bits .and .i64 v_c1.fCaps v_n2))) v_c1.fLevel v_c1.fKind)).bind fun (v_r793 : (S_api_Cred)) =>
  (G_ringref5_SameCred n v_r65.1 v_r793).bind fun (v_r794 : (Bool)) =>
  if v_r794 = true then
   (G_ringlaw5_pick n v_z755 (S_api_Cred.mk v_n2 v_c1.fGroup v_c1.fMore 0 v_c1.fLevel v_c1.fKind)).bind fun (v_r795 : (S_api_Cred)) =>
   (G_ringref5_SameCred n v_r71.1 v_r795).bind fun (v_r796 : (Bool)) =>
   if v_r796 = true then
    (G_ringlaw5_pick n v_z756 (S_api_Cred.mk v_c1.fUser v_c1.fGroup v_z778 v_c1.fCaps v_c1.fLevel v_c1.fKind)).bind fun (v_r797 : (S_api_Cred)) =>
    (G_ringref5_SameCred n v_r149.1 v_r797).bind fun (v_r798 : (Bool)) =>
    some (.x0 v_r798)
   else
    some (.x0 false)
  else
   some (.x0 false)
theorem G_ringlaw5_CredSays_C30_ok {Fi : Ex → PS → Prop} (hF : KC 233 Fi) (ks : List Fr) (n : Nat) (v_z638 : Int) (v_z755 : Int) (v_z756 : Int) (v_r65 : (S_api_Cred × Int)) (v_r71 : (S_api_Cred × Int)) (v_r149 : (S_api_Cred × Int)) (v_c1 : S_api_Cred) (v_n2 : Int) (v_z778 : (List Int))  (o : G_ringlaw5_CredSays_C30_R) (h : G_ringlaw5_CredSays_C30 n v_z638 v_z755 v_z756 v_r65 v_r71 v_r149 v_c1 v_n2 v_z778 = some o) (q : RunE Try.prog 233 Fi ks (G_ringlaw5_CredSays_C30_ex o) (G_ringlaw5_CredSays_C30_st v_z638 v_z755 v_z756 v_r65 v_r71 v_r149 v_c1 v_n2 v_z778 o)) : RunE Try.prog 233 Fi (.s (cL (cR (cR (cR (cR (cR (cR (cR (cR (cR (cR (cR (cR (cR (cR (cR (cR (cR (cR (bodyOf Try.f3)))))))))))))))))))) :: ks) .normal (G_ringlaw5_CredSays_C30_hd v_z638 v_z755 v_z756 v_r65 v_r71 v_r149 v_c1 v_n2 v_z778) := by
  unfold G_ringlaw5_CredSays_C30 at h
  obtain ⟨v_r793, h856, h⟩ := bind_some h
  obtain ⟨v_r794, h857, h⟩ := bind_some h
  by_cases h858 : v_r794 = true
  · rw [if_pos h858] at h
    obtain ⟨v_r795, h859, h⟩ := bind_some h
    obtain ⟨v_r796, h860, h⟩ := bind_some h
    by_cases h861 : v_r796 = true
    · rw [if_pos h861] at h
      obtain ⟨v_r797, h862, h⟩ := bind_some h
      obtain ⟨v_r798, h863, h⟩ := bind_some h
      cases h
      exact pkk_sound TTok mix hF 2 (hs := [.fz 6, .c, .c, .r (eS_api_Cred v_r793), .r (eB v_r794), .t true, .c, .c, .c, .c, .c, .r (eS_api_Cred v_r795), .c, .r (eB v_r796), .t true, .c, .c, .c, .c, .c, .r (eS_api_Cred v_r797), .c, .r (eB v_r798)]) (ts := []) (s := []) (l := [4]) (by kernel_rfl) (by kernel_rfl) (.cons (G_ringlaw5_pick_ok n v_z638 (S_api_Cred.mk v_c1.fUser v_c1.fGroup v_c1.fMore (wi .i64 (v_c1.fCaps - (bits .and .i64 v_c1.fCaps v_n2))) v_c1.fLevel v_c1.fKind) _ h856) (.cons (G_ringref5_SameCred_ok n v_r65.1 v_r793 _ h857) (.cons h858 (.cons (G_ringlaw5_pick_ok n v_z755 (S_api_Cred.mk v_n2 v_c1.fGroup v_c1.fMore 0 v_c1.fLevel v_c1.fKind) _ h859) (.cons (G_ringref5_SameCred_ok n v_r71.1 v_r795 _ h860) (.cons h861 (.cons (G_ringlaw5_pick_ok n v_z756 (S_api_Cred.mk v_c1.fUser v_c1.fGroup v_z778 v_c1.fCaps v_c1.fLevel v_c1.fKind) _ h862) (.cons (G_ringref5_SameCred_ok n v_r149.1 v_r797 _ h863) .nil)))))))) q
    · rw [if_neg h861] at h
      cases h
      exact pkk_sound TTok mix hF 2 (hs := [.fz 6, .c, .c, .r (eS_api_Cred v_r793), .r (eB v_r794), .t true, .c, .c, .c, .c, .c, .r (eS_api_Cred v_r795), .c, .r (eB v_r796), .t false, .c, .c, .c, .c]) (ts := []) (s := []) (l := [4]) (by kernel_rfl) (by kernel_rfl) (.cons (G_ringlaw5_pick_ok n v_z638 (S_api_Cred.mk v_c1.fUser v_c1.fGroup v_c1.fMore (wi .i64 (v_c1.fCaps - (bits .and .i64 v_c1.fCaps v_n2))) v_c1.fLevel v_c1.fKind) _ h856) (.cons (G_ringref5_SameCred_ok n v_r65.1 v_r793 _ h857) (.cons h858 (.cons (G_ringlaw5_pick_ok n v_z755 (S_api_Cred.mk v_n2 v_c1.fGroup v_c1.fMore 0 v_c1.fLevel v_c1.fKind) _ h859) (.cons (G_ringref5_SameCred_ok n v_r71.1 v_r795 _ h860) (.cons (vf h861) .nil)))))) q
  · rw [if_neg h858] at h
    cases h
    exact pkk_sound TTok mix hF 2 (hs := [.fz 6, .c, .c, .r (eS_api_Cred v_r793), .r (eB v_r794), .t false, .c, .c, .c, .c, .c, .c, .c, .c, .c]) (ts := []) (s := []) (l := [4]) (by kernel_rfl) (by kernel_rfl) (.cons (G_ringlaw5_pick_ok n v_z638 (S_api_Cred.mk v_c1.fUser v_c1.fGroup v_c1.fMore (wi .i64 (v_c1.fCaps - (bits .and .i64 v_c1.fCaps v_n2))) v_c1.fLevel v_c1.fKind) _ h856) (.cons (G_ringref5_SameCred_ok n v_r65.1 v_r793 _ h857) (.cons (vf h858) .nil))) q
inductive G_ringlaw5_CredSays_C31_R where
  | x0 (v_x804 : Bool) (v_w805 : (List Int))
def G_ringlaw5_CredSays_C31_ex : G_ringlaw5_CredSays_C31_R → Ex
  | .x0 _ _ => .normal
def G_ringlaw5_CredSays_C31_st (v_n2 : Int) (v_r51 : (Bool × Int)) (v_r65 : (S_api_Cred × Int)) (v_r71 : (S_api_Cred × Int)) (v_r149 : (S_api_Cred × Int)) (v_z638 : Int) (v_z755 : Int) (v_z756 : Int) (v_c1 : S_api_Cred) (v_z757 : (List Int)) : G_ringlaw5_CredSays_C31_R → PS
  | .x0 v_x804 v_w805 => ⟨[dd, dd, dd, dd, dd, dd, dd, dd, dd, .ref 0 0, dd, .ref 1 0, dd, .ref 2 0, dd, dd, dd, dd, .ref 3 0, .ref 4 0, .ref 5 0, .d (.v (.int .i64 v_z638)), .d (.v (.int .i64 v_z755)), .d (.v (.int .i64 v_z756)), dd, dd, dd, dd, dd, dd, dd, dd, dd, dd, dd, dd, dd, dd, dd, dd, dd, dd, dd, dd, dd, dd, dd, dd, dd, dd, dd, dd, dd, dd, dd, dd, dd, dd, dd, dd, dd, dd, dd, dd, dd, dd, dd, dd, dd, dd, dd, dd, dd, dd, dd, dd, dd, dd, dd, dd, dd, dd, dd, dd, dd, dd, dd, dd, dd, dd, dd, dd, dd, dd, dd, dd, dd, dd, dd, dd, dd, dd, dd, dd, dd, dd, dd, dd, dd, dd, dd, dd, dd, dd, dd, dd, dd, dd, dd, dd, dd, dd, dd, dd, dd, dd, dd, dd, dd, dd, dd, dd, dd, dd, dd, dd, dd, dd, dd, dd, dd, dd, dd, dd, dd, dd, dd, dd, dd, dd, dd, dd, dd, dd, dd, dd, dd, dd, dd, dd, dd, dd, dd, dd, dd, dd, dd, dd, dd, dd, dd, dd, dd, dd, dd, dd, dd, dd, dd, dd, dd, dd, dd, dd, dd, dd, dd, dd, dd, dd, dd, dd, dd, dd, dd, dd, dd, dd, dd, dd, dd, dd, dd, dd, dd, dd, dd, dd, dd, dd, dd, dd, dd, .d (.v (.bool v_x804)), dd, dd, dd, dd, dd, dd, dd, dd, dd, dd, dd, dd, dd, dd, dd, dd, dd, dd, dd], [.box [.d (.v (.int .i64 v_r65.1.fUser)), .d (.v (.int .i64 v_r65.1.fGroup)), .d (.sl (v_r65.1.fMore.map (eI .i64))), .d (.v (.int .i64 v_r65.1.fCaps)), .d (.v (.int .i64 v_r65.1.fLevel)), .d (.v (.int .i64 v_r65.1.fKind))], .box [.d (.v (.int .i64 v_r71.1.fUser)), .d (.v (.int .i64 v_r71.1.fGroup)), .d (.sl (v_r71.1.fMore.map (eI .i64))), .d (.v (.int .i64 v_r71.1.fCaps)), .d (.v (.int .i64 v_r71.1.fLevel)), .d (.v (.int .i64 v_r71.1.fKind))], .box [.d (.v (.int .i64 v_r149.1.fUser)), .d (.v (.int .i64 v_r149.1.fGroup)), .d (.sl (v_r149.1.fMore.map (eI .i64))), .d (.v (.int .i64 v_r149.1.fCaps)), .d (.v (.int .i64 v_r149.1.fLevel)), .d (.v (.int .i64 v_r149.1.fKind))], .box [.d (.v (.int .i64 v_c1.fUser)), .d (.v (.int .i64 v_c1.fGroup)), .d (.sl (v_c1.fMore.map (eI .i64))), .d (.v (.int .i64 (wi .i64 (v_c1.fCaps - (bits .and .i64 v_c1.fCaps v_n2))))), .d (.v (.int .i64 v_c1.fLevel)), .d (.v (.int .i64 v_c1.fKind))], .box [.d (.v (.int .i64 v_n2)), .d (.v (.int .i64 v_c1.fGroup)), .d (.sl (v_c1.fMore.map (eI .i64))), .d (.v (.int .i64 v_c1.fCaps)), .d (.v (.int .i64 v_c1.fLevel)), .d (.v (.int .i64 v_c1.fKind))], .box [.d (.v (.int .i64 v_c1.fUser)), .d (.v (.int .i64 v_c1.fGroup)), .srf 6, .d (.v (.int .i64 v_c1.fCaps)), .d (.v (.int .i64 v_c1.fLevel)), .d (.v (.int .i64 v_c1.fKind))], .row 3 1 (v_w805.map (eI .i64))]⟩
def G_ringlaw5_CredSays_C31_hd (v_n2 : Int) (v_r51 : (Bool × Int)) (v_r65 : (S_api_Cred × Int)) (v_r71 : (S_api_Cred × Int)) (v_r149 : (S_api_Cred × Int)) (v_z638 : Int) (v_z755 : Int) (v_z756 : Int) (v_c1 : S_api_Cred) (v_z757 : (List Int))  : PS := ⟨[dd, .d (.v (.int .i64 v_n2)), .ref 0 0, dd, dd, dd, dd, .d (.v (.bool v_r51.1)), .d (.v (.int .i64 v_r51.2)), .ref 1 0, .d (.v (.int .i64 v_r65.2)), .ref 2 0, .d (.v (.int .i64 v_r71.2)), .ref 3 0, .d (.v (.int .i64 v_r149.2)), dd, dd, dd, .ref 4 0, .ref 5 0, .ref 6 0, .d (.v (.int .i64 v_z638)), .d (.v (.int .i64 v_z755)), .d (.v (.int .i64 v_z756)), dd, dd, dd, dd, dd, dd, dd, dd, dd, dd, dd, dd, dd, dd, dd, dd, dd, dd, dd, dd, dd, dd, dd, dd, dd, dd, dd, dd, dd, dd, dd, dd, dd, dd, dd, dd, dd, dd, dd, dd, dd, dd, dd, dd, dd, dd, dd, dd, dd, dd, dd, dd, dd, dd, dd, dd, dd, dd, dd, dd, dd, dd, dd, dd, dd, dd, dd, dd, dd, dd, dd, dd, dd, dd, dd, dd, dd, dd, dd, dd, dd, dd, dd, dd, dd, dd, dd, dd, dd, dd, dd, dd, dd, dd, dd, dd, dd, dd, dd, dd, dd, dd, dd, dd, dd, dd, dd, dd, dd, dd, dd, dd, dd, dd, dd, dd, dd, dd, dd, dd, dd, dd, dd, dd, dd, dd, dd, dd, dd, dd, dd, dd, dd, dd, dd, dd, dd, dd, dd, dd, dd, dd, dd, dd, dd, dd, dd, dd, dd, dd, dd, dd, dd, dd, dd, dd, dd, dd, dd, dd, dd, dd, dd, dd, dd, dd, dd, dd, dd, dd, dd, dd, dd, dd, dd, dd, dd, dd, dd, dd, dd, dd, dd, dd, dd, dd, dd, dd, dd, dd, dd, dd, dd, dd, dd, dd, dd, dd, dd, dd, dd, dd, dd, dd, dd, dd, dd, dd, dd], [.box [.d (.v (.int .i64 v_c1.fUser)), .d (.v (.int .i64 v_c1.fGroup)), .d (.sl (v_c1.fMore.map (eI .i64))), .d (.v (.int .i64 v_c1.fCaps)), .d (.v (.int .i64 v_c1.fLevel)), .d (.v (.int .i64 v_c1.fKind))], .box [.d (.v (.int .i64 v_r65.1.fUser)), .d (.v (.int .i64 v_r65.1.fGroup)), .d (.sl (v_r65.1.fMore.map (eI .i64))), .d (.v (.int .i64 v_r65.1.fCaps)), .d (.v (.int .i64 v_r65.1.fLevel)), .d (.v (.int .i64 v_r65.1.fKind))], .box [.d (.v (.int .i64 v_r71.1.fUser)), .d (.v (.int .i64 v_r71.1.fGroup)), .d (.sl (v_r71.1.fMore.map (eI .i64))), .d (.v (.int .i64 v_r71.1.fCaps)), .d (.v (.int .i64 v_r71.1.fLevel)), .d (.v (.int .i64 v_r71.1.fKind))], .box [.d (.v (.int .i64 v_r149.1.fUser)), .d (.v (.int .i64 v_r149.1.fGroup)), .d (.sl (v_r149.1.fMore.map (eI .i64))), .d (.v (.int .i64 v_r149.1.fCaps)), .d (.v (.int .i64 v_r149.1.fLevel)), .d (.v (.int .i64 v_r149.1.fKind))], .box [.d (.v (.int .i64 v_c1.fUser)), .d (.v (.int .i64 v_c1.fGroup)), .d (.sl (v_c1.fMore.map (eI .i64))), .d (.v (.int .i64 (wi .i64 (v_c1.fCaps - (bits .and .i64 v_c1.fCaps v_n2))))), .d (.v (.int .i64 v_c1.fLevel)), .d (.v (.int .i64 v_c1.fKind))], .box [.d (.v (.int .i64 v_n2)), .d (.v (.int .i64 v_c1.fGroup)), .d (.sl (v_c1.fMore.map (eI .i64))), .d (.v (.int .i64 v_c1.fCaps)), .d (.v (.int .i64 v_c1.fLevel)), .d (.v (.int .i64 v_c1.fKind))], .box [.d (.v (.int .i64 v_c1.fUser)), .d (.v (.int .i64 v_c1.fGroup)), .srf 7, .d (.v (.int .i64 v_c1.fCaps)), .d (.v (.int .i64 v_c1.fLevel)), .d (.v (.int .i64 v_c1.fKind))], .row 3 1 (v_z757.map (eI .i64))]⟩
def G_ringlaw5_CredSays_C31 (n : Nat) (v_n2 : Int) (v_r51 : (Bool × Int)) (v_r65 : (S_api_Cred × Int)) (v_r71 : (S_api_Cred × Int)) (v_r149 : (S_api_Cred × Int)) (v_z638 : Int) (v_z755 : Int) (v_z756 : Int) (v_c1 : S_api_Cred) (v_z757 : (List Int)) : Option G_ringlaw5_CredSays_C31_R :=
  if v_r51.2 = v_z638 then
   if v_z638 = 0 then
    if (eqRes .neq (v_r51.1 == ((wi .i64 (v_c1.fCaps - (bits .and .i64 v_c1.fCaps v_n2))) == (wi .i64 (v_c1.fCaps - v_n2))))) = true then
     some (.x0 true v_z757)
    else
     if v_r65.2 = v_z638 then
      if v_r71.2 = v_z755 then
       some (.x0 (v_r149.2 != v_z756) v_z757)
      else
       some (.x0 true v_z757)
     else
      some (.x0 true v_z757)
   else
    if (eqRes .neq (v_r51.1 == false)) = true then
     some (.x0 true v_z757)
    else
     if v_r65.2 = v_z638 then
      if v_r71.2 = v_z755 then
       some (.x0 (v_r149.2 != v_z756) v_z757)
      else
       some (.x0 true v_z757)
     else
      some (.x0 true v_z757)
  else
   some (.x0 true v_z757)
theorem G_ringlaw5_CredSays_C31_ok {Fi : Ex → PS → Prop} (hF : KC 233 Fi) (ks : List Fr) (n : Nat) (v_n2 : Int) (v_r51 : (Bool × Int)) (v_r65 : (S_api_Cred × Int)) (v_r71 : (S_api_Cred × Int)) (v_r149 : (S_api_Cred × Int)) (v_z638 : Int) (v_z755 : Int) (v_z756 : Int) (v_c1 : S_api_Cred) (v_z757 : (List Int))  (o : G_ringlaw5_CredSays_C31_R) (h : G_ringlaw5_CredSays_C31 n v_n2 v_r51 v_r65 v_r71 v_r149 v_z638 v_z755 v_z756 v_c1 v_z757 = some o) (q : RunE Try.prog 233 Fi ks (G_ringlaw5_CredSays_C31_ex o) (G_ringlaw5_CredSays_C31_st v_n2 v_r51 v_r65 v_r71 v_r149 v_z638 v_z755 v_z756 v_c1 v_z757 o)) : RunE Try.prog 233 Fi (.s (cL (cL (cR (cR (cR (cR (cR (cR (cR (cR (cR (cR (cR (cR (cR (cR (cR (cR (cR (bodyOf Try.f3)))))))))))))))))))) :: ks) .normal (G_ringlaw5_CredSays_C31_hd v_n2 v_r51 v_r65 v_r71 v_r149 v_z638 v_z755 v_z756 v_c1 v_z757) := by
  unfold G_ringlaw5_CredSays_C31 at h
  by_cases h873 : v_r51.2 = v_z638
  · rw [if_pos h873] at h
    by_cases h874 : v_z638 = 0
    · rw [if_pos h874] at h
      by_cases h875 : (eqRes .neq (v_r51.1 == ((wi .i64 (v_c1.fCaps - (bits .and .i64 v_c1.fCaps v_n2))) == (wi .i64 (v_c1.fCaps - v_n2))))) = true
      · rw [if_pos h875] at h
        cases h
        exact pkk_sound TTok mix hF 1 (hs := [.t false, .c, .c, .c, .t true, .c, .c, .c, .c, .c, .c, .c, .c, .c, .c, .t true, .c, .c, .c, .c, .c, .c, .c, .c]) (ts := []) (s := [1, 2, 3, 4, 5, 6, 7]) (l := [9, 11, 13, 18, 19, 20, 21, 22, 23, 213]) (by kernel_rfl) (by kernel_rfl) (.cons (nf h873) (.cons (bt h874) (.cons h875 .nil))) q
      · rw [if_neg h875] at h
        by_cases h876 : v_r65.2 = v_z638
        · rw [if_pos h876] at h
          by_cases h877 : v_r71.2 = v_z755
          · rw [if_pos h877] at h
            cases h
            exact pkk_sound TTok mix hF 1 (hs := [.t false, .c, .c, .c, .t true, .c, .c, .c, .c, .c, .c, .c, .c, .c, .c, .t false, .c, .c, .t false, .c, .c, .t false, .c, .c]) (ts := []) (s := [1, 2, 3, 4, 5, 6, 7]) (l := [9, 11, 13, 18, 19, 20, 21, 22, 23, 213]) (by kernel_rfl) (by kernel_rfl) (.cons (nf h873) (.cons (bt h874) (.cons (vf h875) (.cons (nf h876) (.cons (nf h877) .nil))))) q
          · rw [if_neg h877] at h
            cases h
            exact pkk_sound TTok mix hF 1 (hs := [.t false, .c, .c, .c, .t true, .c, .c, .c, .c, .c, .c, .c, .c, .c, .c, .t false, .c, .c, .t false, .c, .c, .t true, .c, .c]) (ts := []) (s := [1, 2, 3, 4, 5, 6, 7]) (l := [9, 11, 13, 18, 19, 20, 21, 22, 23, 213]) (by kernel_rfl) (by kernel_rfl) (.cons (nf h873) (.cons (bt h874) (.cons (vf h875) (.cons (nf h876) (.cons (nt h877) .nil))))) q
        · rw [if_neg h876] at h
          cases h
          exact pkk_sound TTok mix hF 1 (hs := [.t false, .c, .c, .c, .t true, .c, .c, .c, .c, .c, .c, .c, .c, .c, .c, .t false, .c, .c, .t true, .c, .c, .c, .c, .c]) (ts := []) (s := [1, 2, 3, 4, 5, 6, 7]) (l := [9, 11, 13, 18, 19, 20, 21, 22, 23, 213]) (by kernel_rfl) (by kernel_rfl) (.cons (nf h873) (.cons (bt h874) (.cons (vf h875) (.cons (nt h876) .nil)))) q
    · rw [if_neg h874] at h
      by_cases h878 : (eqRes .neq (v_r51.1 == false)) = true
      · rw [if_pos h878] at h
        cases h
        exact pkk_sound TTok mix hF 1 (hs := [.t false, .c, .c, .c, .t false, .c, .c, .c, .c, .c, .c, .c, .c, .t true, .c, .c, .c, .c, .c, .c, .c, .c]) (ts := []) (s := [1, 2, 3, 4, 5, 6, 7]) (l := [9, 11, 13, 18, 19, 20, 21, 22, 23, 213]) (by kernel_rfl) (by kernel_rfl) (.cons (nf h873) (.cons (bf h874) (.cons h878 .nil))) q
      · rw [if_neg h878] at h
        by_cases h879 : v_r65.2 = v_z638
        · rw [if_pos h879] at h
          by_cases h880 : v_r71.2 = v_z755
          · rw [if_pos h880] at h
            cases h
            exact pkk_sound TTok mix hF 1 (hs := [.t false, .c, .c, .c, .t false, .c, .c, .c, .c, .c, .c, .c, .c, .t false, .c, .c, .t false, .c, .c, .t false, .c, .c]) (ts := []) (s := [1, 2, 3, 4, 5, 6, 7]) (l := [9, 11, 13, 18, 19, 20, 21, 22, 23, 213]) (by kernel_rfl) (by kernel_rfl) (.cons (nf h873) (.cons (bf h874) (.cons (vf h878) (.cons (nf h879) (.cons (nf h880) .nil))))) q
          · rw [if_neg h880] at h
            cases h
            exact pkk_sound TTok mix hF 1 (hs := [.t false, .c, .c, .c, .t false, .c, .c, .c, .c, .c, .c, .c, .c, .t false, .c, .c, .t false, .c, .c, .t true, .c, .c]) (ts := []) (s := [1, 2, 3, 4, 5, 6, 7]) (l := [9, 11, 13, 18, 19, 20, 21, 22, 23, 213]) (by kernel_rfl) (by kernel_rfl) (.cons (nf h873) (.cons (bf h874) (.cons (vf h878) (.cons (nf h879) (.cons (nt h880) .nil))))) q
        · rw [if_neg h879] at h
          cases h
          exact pkk_sound TTok mix hF 1 (hs := [.t false, .c, .c, .c, .t false, .c, .c, .c, .c, .c, .c, .c, .c, .t false, .c, .c, .t true, .c, .c, .c, .c, .c]) (ts := []) (s := [1, 2, 3, 4, 5, 6, 7]) (l := [9, 11, 13, 18, 19, 20, 21, 22, 23, 213]) (by kernel_rfl) (by kernel_rfl) (.cons (nf h873) (.cons (bf h874) (.cons (vf h878) (.cons (nt h879) .nil)))) q
  · rw [if_neg h873] at h
    cases h
    exact pkk_sound TTok mix hF 1 (hs := [.t true, .c, .c, .c, .c, .c, .c, .c, .c, .c, .c, .c, .c, .c, .c]) (ts := []) (s := [1, 2, 3, 4, 5, 6, 7]) (l := [9, 11, 13, 18, 19, 20, 21, 22, 23, 213]) (by kernel_rfl) (by kernel_rfl) (.cons (nt h873) .nil) q
inductive G_ringlaw5_CredSays_C32_R where
  | x0 (v_x845 : Bool)
def G_ringlaw5_CredSays_C32_ex : G_ringlaw5_CredSays_C32_R → Ex
  | .x0 _ => .normal
def G_ringlaw5_CredSays_C32_st (v_z638 : Int) (v_z755 : Int) (v_z756 : Int) (v_r65 : (S_api_Cred × Int)) (v_r71 : (S_api_Cred × Int)) (v_r149 : (S_api_Cred × Int)) (v_c1 : S_api_Cred) (v_n2 : Int) (v_z824 : (List Int)) : G_ringlaw5_CredSays_C32_R → PS
  | .x0 v_x845 => ⟨[dd, dd, dd, dd, .d (.v (.bool v_x845)), dd, dd, dd, dd, dd, dd, dd, dd, dd, dd, dd, dd, dd, dd, dd, dd, dd, dd, dd, dd, dd, dd, dd, dd, dd, dd, dd, dd, dd, dd, dd, dd, dd, dd, dd, dd, dd, dd, dd, dd, dd, dd, dd, dd, dd, dd, dd, dd, dd, dd, dd, dd, dd, dd, dd, dd, dd, dd, dd, dd, dd, dd, dd, dd, dd, dd, dd, dd, dd, dd, dd, dd, dd, dd, dd, dd, dd, dd, dd, dd, dd, dd, dd, dd, dd, dd, dd, dd, dd, dd, dd, dd, dd, dd, dd, dd, dd, dd, dd, dd, dd, dd, dd, dd, dd, dd, dd, dd, dd, dd, dd, dd, dd, dd, dd, dd, dd, dd, dd, dd, dd, dd, dd, dd, dd, dd, dd, dd, dd, dd, dd, dd, dd, dd, dd, dd, dd, dd, dd, dd, dd, dd, dd, dd, dd, dd, dd, dd, dd, dd, dd, dd, dd, dd, dd, dd, dd, dd, dd, dd, dd, dd, dd, dd, dd, dd, dd, dd, dd, dd, dd, dd, dd, dd, dd, dd, dd, dd, dd, dd, dd, dd, dd, dd, dd, dd, dd, dd, dd, dd, dd, dd, dd, dd, dd, dd, dd, dd, dd, dd, dd, dd, dd, dd, dd, dd, dd, dd, dd, dd, dd, dd, dd, dd, dd, dd, dd, dd, dd, dd, dd, dd, dd, dd, dd, dd, dd, dd], []⟩
def G_ringlaw5_CredSays_C32_hd (v_z638 : Int) (v_z755 : Int) (v_z756 : Int) (v_r65 : (S_api_Cred × Int)) (v_r71 : (S_api_Cred × Int)) (v_r149 : (S_api_Cred × Int)) (v_c1 : S_api_Cred) (v_n2 : Int) (v_z824 : (List Int))  : PS := ⟨[dd, dd, dd, dd, dd, dd, dd, dd, dd, .ref 0 0, dd, .ref 1 0, dd, .ref 2 0, dd, dd, dd, dd, .ref 3 0, .ref 4 0, .ref 5 0, .d (.v (.int .i64 v_z638)), .d (.v (.int .i64 v_z755)), .d (.v (.int .i64 v_z756)), dd, dd, dd, dd, dd, dd, dd, dd, dd, dd, dd, dd, dd, dd, dd, dd, dd, dd, dd, dd, dd, dd, dd, dd, dd, dd, dd, dd, dd, dd, dd, dd, dd, dd, dd, dd, dd, dd, dd, dd, dd, dd, dd, dd, dd, dd, dd, dd, dd, dd, dd, dd, dd, dd, dd, dd, dd, dd, dd, dd, dd, dd, dd, dd, dd, dd, dd, dd, dd, dd, dd, dd, dd, dd, dd, dd, dd, dd, dd, dd, dd, dd, dd, dd, dd, dd, dd, dd, dd, dd, dd, dd, dd, dd, dd, dd, dd, dd, dd, dd, dd, dd, dd, dd, dd, dd, dd, dd, dd, dd, dd, dd, dd, dd, dd, dd, dd, dd, dd, dd, dd, dd, dd, dd, dd, dd, dd, dd, dd, dd, dd, dd, dd, dd, dd, dd, dd, dd, dd, dd, dd, dd, dd, dd, dd, dd, dd, dd, dd, dd, dd, dd, dd, dd, dd, dd, dd, dd, dd, dd, dd, dd, dd, dd, dd, dd, dd, dd, dd, dd, dd, dd, dd, dd, dd, dd, dd, dd, dd, dd, dd, dd, dd, dd, dd, dd, dd, dd, dd, dd, dd, dd, dd, dd, dd, dd, dd, dd, dd, dd, dd, dd, dd, dd, dd, dd, dd, dd, dd], [.box [.d (.v (.int .i64 v_r65.1.fUser)), .d (.v (.int .i64 v_r65.1.fGroup)), .d (.sl (v_r65.1.fMore.map (eI .i64))), .d (.v (.int .i64 v_r65.1.fCaps)), .d (.v (.int .i64 v_r65.1.fLevel)), .d (.v (.int .i64 v_r65.1.fKind))], .box [.d (.v (.int .i64 v_r71.1.fUser)), .d (.v (.int .i64 v_r71.1.fGroup)), .d (.sl (v_r71.1.fMore.map (eI .i64))), .d (.v (.int .i64 v_r71.1.fCaps)), .d (.v (.int .i64 v_r71.1.fLevel)), .d (.v (.int .i64 v_r71.1.fKind))], .box [.d (.v (.int .i64 v_r149.1.fUser)), .d (.v (.int .i64 v_r149.1.fGroup)), .d (.sl (v_r149.1.fMore.map (eI .i64))), .d (.v (.int .i64 v_r149.1.fCaps)), .d (.v (.int .i64 v_r149.1.fLevel)), .d (.v (.int .i64 v_r149.1.fKind))], .box [.d (.v (.int .i64 v_c1.fUser)), .d (.v (.int .i64 v_c1.fGroup)), .d (.sl (v_c1.fMore.map (eI .i64))), .d (.v (.int .i64 (wi .i64 (v_c1.fCaps - (bits .and .i64 v_c1.fCaps v_n2))))), .d (.v (.int .i64 v_c1.fLevel)), .d (.v (.int .i64 v_c1.fKind))], .box [.d (.v (.int .i64 v_n2)), .d (.v (.int .i64 v_c1.fGroup)), .d (.sl (v_c1.fMore.map (eI .i64))), .d (.v (.int .i64 v_c1.fCaps)), .d (.v (.int .i64 v_c1.fLevel)), .d (.v (.int .i64 v_c1.fKind))], .box [.d (.v (.int .i64 v_c1.fUser)), .d (.v (.int .i64 v_c1.fGroup)), .srf 6, .d (.v (.int .i64 v_c1.fCaps)), .d (.v (.int .i64 v_c1.fLevel)), .d (.v (.int .i64 v_c1.fKind))], .row 3 1 (v_z824.map (eI .i64))]⟩
def G_ringlaw5_CredSays_C32 (n : Nat) (v_z638 : Int) (v_z755 : Int) (v_z756 : Int) (v_r65 : (S_api_Cred × Int)) (v_r71 : (S_api_Cred × Int)) (v_r149 : (S_api_Cred × Int)) (v_c1 : S_api_Cred) (v_n2 : Int) (v_z824 : (List Int)) : Option G_ringlaw5_CredSays_C32_R :=
  (G_ringlaw5_pick n v_z638 (S_api_Cred.mk v_c1.fUser v_c1.fGroup v_c1.fMore (wi .i64 (v_c1.fCaps - (bits .and .i64 v_c1.fCaps v_n2))) v_c1.fLevel v_c1.fKind)).bind fun (v_r839 : (S_api_Cred)) =>
  (G_ringref5_SameCred n v_r65.1 v_r839).bind fun (v_r840 : (Bool)) =>
  if v_r840 = true then
   (G_ringlaw5_pick n v_z755 (S_api_Cred.mk v_n2 v_c1.fGroup v_c1.fMore v_c1.fCaps v_c1.fLevel v_c1.fKind)).bind fun (v_r841 : (S_api_Cred)) =>
   (G_ringref5_SameCred n v_r71.1 v_r841).bind fun (v_r842 : (Bool)) =>
   if v_r842 = true then
    (G_ringlaw5_pick n v_z756 (S_api_Cred.mk v_c1.fUser v_c1.fGroup v_z824 v_c1.fCaps v_c1.fLevel v_c1.fKind)).bind fun (v_r843 : (S_api_Cred)) =>
    (G_ringref5_SameCred n v_r149.1 v_r843).bind fun (v_r844 : (Bool)) =>
    some (.x0 v_r844)
   else
    some (.x0 false)
  else
   some (.x0 false)
theorem G_ringlaw5_CredSays_C32_ok {Fi : Ex → PS → Prop} (hF : KC 233 Fi) (ks : List Fr) (n : Nat) (v_z638 : Int) (v_z755 : Int) (v_z756 : Int) (v_r65 : (S_api_Cred × Int)) (v_r71 : (S_api_Cred × Int)) (v_r149 : (S_api_Cred × Int)) (v_c1 : S_api_Cred) (v_n2 : Int) (v_z824 : (List Int))  (o : G_ringlaw5_CredSays_C32_R) (h : G_ringlaw5_CredSays_C32 n v_z638 v_z755 v_z756 v_r65 v_r71 v_r149 v_c1 v_n2 v_z824 = some o) (q : RunE Try.prog 233 Fi ks (G_ringlaw5_CredSays_C32_ex o) (G_ringlaw5_CredSays_C32_st v_z638 v_z755 v_z756 v_r65 v_r71 v_r149 v_c1 v_n2 v_z824 o)) : RunE Try.prog 233 Fi (.s (cL (cR (cR (cR (cR (cR (cR (cR (cR (cR (cR (cR (cR (cR (cR (cR (cR (cR (cR (bodyOf Try.f3)))))))))))))))))))) :: ks) .normal (G_ringlaw5_CredSays_C32_hd v_z638 v_z755 v_z756 v_r65 v_r71 v_r149 v_c1 v_n2 v_z824) := by
  unfold G_ringlaw5_CredSays_C32 at h
  obtain ⟨v_r839, h903, h⟩ := bind_some h
  obtain ⟨v_r840, h904, h⟩ := bind_some h
  by_cases h905 : v_r840 = true
  · rw [if_pos h905] at h
    obtain ⟨v_r841, h906, h⟩ := bind_some h
    obtain ⟨v_r842, h907, h⟩ := bind_some h
    by_cases h908 : v_r842 = true
    · rw [if_pos h908] at h
      obtain ⟨v_r843, h909, h⟩ := bind_some h
      obtain ⟨v_r844, h910, h⟩ := bind_some h
      cases h
      exact pkk_sound TTok mix hF 2 (hs := [.fz 6, .c, .c, .r (eS_api_Cred v_r839), .r (eB v_r840), .t true, .c, .c, .c, .c, .c, .r (eS_api_Cred v_r841), .c, .r (eB v_r842), .t true, .c, .c, .c, .c, .c, .r (eS_api_Cred v_r843), .c, .r (eB v_r844)]) (ts := []) (s := []) (l := [4]) (by kernel_rfl) (by kernel_rfl) (.cons (G_ringlaw5_pick_ok n v_z638 (S_api_Cred.mk v_c1.fUser v_c1.fGroup v_c1.fMore (wi .i64 (v_c1.fCaps - (bits .and .i64 v_c1.fCaps v_n2))) v_c1.fLevel v_c1.fKind) _ h903) (.cons (G_ringref5_SameCred_ok n v_r65.1 v_r839 _ h904) (.cons h905 (.cons (G_ringlaw5_pick_ok n v_z755 (S_api_Cred.mk v_n2 v_c1.fGroup v_c1.fMore v_c1.fCaps v_c1.fLevel v_c1.fKind) _ h906) (.cons (G_ringref5_SameCred_ok n v_r71.1 v_r841 _ h907) (.cons h908 (.cons (G_ringlaw5_pick_ok n v_z756 (S_api_Cred.mk v_c1.fUser v_c1.fGroup v_z824 v_c1.fCaps v_c1.fLevel v_c1.fKind) _ h909) (.cons (G_ringref5_SameCred_ok n v_r149.1 v_r843 _ h910) .nil)))))))) q
    · rw [if_neg h908] at h
      cases h
      exact pkk_sound TTok mix hF 2 (hs := [.fz 6, .c, .c, .r (eS_api_Cred v_r839), .r (eB v_r840), .t true, .c, .c, .c, .c, .c, .r (eS_api_Cred v_r841), .c, .r (eB v_r842), .t false, .c, .c, .c, .c]) (ts := []) (s := []) (l := [4]) (by kernel_rfl) (by kernel_rfl) (.cons (G_ringlaw5_pick_ok n v_z638 (S_api_Cred.mk v_c1.fUser v_c1.fGroup v_c1.fMore (wi .i64 (v_c1.fCaps - (bits .and .i64 v_c1.fCaps v_n2))) v_c1.fLevel v_c1.fKind) _ h903) (.cons (G_ringref5_SameCred_ok n v_r65.1 v_r839 _ h904) (.cons h905 (.cons (G_ringlaw5_pick_ok n v_z755 (S_api_Cred.mk v_n2 v_c1.fGroup v_c1.fMore v_c1.fCaps v_c1.fLevel v_c1.fKind) _ h906) (.cons (G_ringref5_SameCred_ok n v_r71.1 v_r841 _ h907) (.cons (vf h908) .nil)))))) q
  · rw [if_neg h905] at h
    cases h
    exact pkk_sound TTok mix hF 2 (hs := [.fz 6, .c, .c, .r (eS_api_Cred v_r839), .r (eB v_r840), .t false, .c, .c, .c, .c, .c, .c, .c, .c, .c]) (ts := []) (s := []) (l := [4]) (by kernel_rfl) (by kernel_rfl) (.cons (G_ringlaw5_pick_ok n v_z638 (S_api_Cred.mk v_c1.fUser v_c1.fGroup v_c1.fMore (wi .i64 (v_c1.fCaps - (bits .and .i64 v_c1.fCaps v_n2))) v_c1.fLevel v_c1.fKind) _ h903) (.cons (G_ringref5_SameCred_ok n v_r65.1 v_r839 _ h904) (.cons (vf h905) .nil))) q
/- ringhall/ringlaw5.CredSays -/
def G_ringlaw5_CredSays (n : Nat) (v_c1 : S_api_Cred) (v_n2 : Int) : Option (Bool) :=
  (G_cred_In n v_c1 v_n2).bind fun (v_r47 : (Bool × Int)) =>
  (G_cred_Has n v_c1 v_n2).bind fun (v_r51 : (Bool × Int)) =>
  (G_cred_Drop n v_c1 v_n2).bind fun (v_r65 : (S_api_Cred × Int)) =>
  (G_cred_Become n v_c1 v_n2).bind fun (v_r71 : (S_api_Cred × Int)) =>
  (G_cred_Join n v_c1 v_n2).bind fun (v_r149 : (S_api_Cred × Int)) =>
  (G_ringref5_CredErr n v_c1).bind fun (v_r170 : (Int)) =>
  (G_cred_Check n v_c1).bind fun (v_r171 : (Int)) =>
  if v_r171 = v_r170 then
   if v_r170 = 0 then
    (G_ringref5_Groups n v_c1).bind fun (v_r232 : ((List Int))) =>
    (G_slices_Contains_int_int n v_r232 v_n2).bind fun (v_r233 : (Bool)) =>
    if v_r47.2 = 0 then
     if (eqRes .neq (v_r47.1 == v_r233)) = true then
      some false
     else
      if v_n2 < 0 then
       (G_ringlaw5_CredSays_C3 n v_n2 v_r51 v_r65 v_r71 v_r149 v_r233 v_c1).bind fun v_o291 => match v_o291 with
       | .x0 v_z292 v_z293 =>
         if v_n2 = 0 then
          (G_ringlaw5_CredSays_C6 n v_n2 v_r51 v_r65 v_r71 v_r149 v_z292 v_z293 v_c1).bind fun v_o325 => match v_o325 with
          | .x0 v_z326 =>
            if v_z326 = true then
             some false
            else
             (G_ringlaw5_CredSays_C7 n v_z292 v_z293 v_r65 v_r71 v_r149 v_c1 v_n2).bind fun v_o342 => match v_o342 with
             | .x0 v_z343 =>
               some v_z343
         else
          (G_ringlaw5_CredSays_C4 n v_n2 v_r51 v_r65 v_r71 v_r149 v_z292 v_z293 v_c1).bind fun v_o299 => match v_o299 with
          | .x0 v_z300 =>
            if v_z300 = true then
             some false
            else
             (G_ringlaw5_CredSays_C5 n v_z292 v_z293 v_r65 v_r71 v_r149 v_c1 v_n2).bind fun v_o318 => match v_o318 with
             | .x0 v_z319 =>
               some v_z319
       | .x1 v_z344 v_z345 v_z346 =>
         if v_n2 = 0 then
          (G_ringlaw5_CredSays_C10 n v_n2 v_r51 v_r65 v_r71 v_r149 v_z344 v_z345 v_c1 v_z346).bind fun v_o395 => match v_o395 with
          | .x0 v_z396 v_z397 =>
            if v_z396 = true then
             some false
            else
             (G_ringlaw5_CredSays_C11 n v_z344 v_z345 v_r65 v_r71 v_r149 v_c1 v_n2 v_z397).bind fun v_o421 => match v_o421 with
             | .x0 v_z422 =>
               some v_z422
         else
          (G_ringlaw5_CredSays_C8 n v_n2 v_r51 v_r65 v_r71 v_r149 v_z344 v_z345 v_c1 v_z346).bind fun v_o357 => match v_o357 with
          | .x0 v_z358 v_z359 =>
            if v_z358 = true then
             some false
            else
             (G_ringlaw5_CredSays_C9 n v_z344 v_z345 v_r65 v_r71 v_r149 v_c1 v_n2 v_z359).bind fun v_o383 => match v_o383 with
             | .x0 v_z384 =>
               some v_z384
      else
       (G_ringlaw5_CredSays_C12 n v_n2 v_r51 v_r65 v_r71 v_r149 v_r233 v_c1).bind fun v_o425 => match v_o425 with
       | .x0 v_z426 =>
         (G_ringlaw5_CredSays_C14 n v_n2 v_r51 v_r65 v_r71 v_r149 v_r233 v_z426 v_c1).bind fun v_o484 => match v_o484 with
         | .x0 v_z485 v_z486 =>
           if v_n2 = 0 then
            (G_ringlaw5_CredSays_C17 n v_n2 v_r51 v_r65 v_r71 v_r149 v_z426 v_z485 v_z486 v_c1).bind fun v_o524 => match v_o524 with
            | .x0 v_z525 =>
              if v_z525 = true then
               some false
              else
               (G_ringlaw5_CredSays_C18 n v_z426 v_z485 v_z486 v_r65 v_r71 v_r149 v_c1 v_n2).bind fun v_o541 => match v_o541 with
               | .x0 v_z542 =>
                 some v_z542
           else
            (G_ringlaw5_CredSays_C15 n v_n2 v_r51 v_r65 v_r71 v_r149 v_z426 v_z485 v_z486 v_c1).bind fun v_o496 => match v_o496 with
            | .x0 v_z497 =>
              if v_z497 = true then
               some false
              else
               (G_ringlaw5_CredSays_C16 n v_z426 v_z485 v_z486 v_r65 v_r71 v_r149 v_c1 v_n2).bind fun v_o513 => match v_o513 with
               | .x0 v_z514 =>
                 some v_z514
         | .x1 v_z543 v_z544 v_z545 =>
           if v_n2 = 0 then
            (G_ringlaw5_CredSays_C21 n v_n2 v_r51 v_r65 v_r71 v_r149 v_z426 v_z543 v_z544 v_c1 v_z545).bind fun v_o610 => match v_o610 with
            | .x0 v_z611 v_z612 =>
              if v_z611 = true then
               some false
              else
               (G_ringlaw5_CredSays_C22 n v_z426 v_z543 v_z544 v_r65 v_r71 v_r149 v_c1 v_n2 v_z612).bind fun v_o636 => match v_o636 with
               | .x0 v_z637 =>
                 some v_z637
           else
            (G_ringlaw5_CredSays_C19 n v_n2 v_r51 v_r65 v_r71 v_r149 v_z426 v_z543 v_z544 v_c1 v_z545).bind fun v_o564 => match v_o564 with
            | .x0 v_z565 v_z566 =>
              if v_z565 = true then
               some false
              else
               (G_ringlaw5_CredSays_C20 n v_z426 v_z543 v_z544 v_r65 v_r71 v_r149 v_c1 v_n2 v_z566).bind fun v_o590 => match v_o590 with
               | .x0 v_z591 =>
                 some v_z591
       | .x1 v_z638 =>
         (G_ringlaw5_CredSays_C24 n v_n2 v_r51 v_r65 v_r71 v_r149 v_r233 v_z638 v_c1).bind fun v_o696 => match v_o696 with
         | .x0 v_z697 v_z698 =>
           if v_n2 = 0 then
            (G_ringlaw5_CredSays_C27 n v_n2 v_r51 v_r65 v_r71 v_r149 v_z638 v_z697 v_z698 v_c1).bind fun v_o736 => match v_o736 with
            | .x0 v_z737 =>
              if v_z737 = true then
               some false
              else
               (G_ringlaw5_CredSays_C28 n v_z638 v_z697 v_z698 v_r65 v_r71 v_r149 v_c1 v_n2).bind fun v_o753 => match v_o753 with
               | .x0 v_z754 =>
                 some v_z754
           else
            (G_ringlaw5_CredSays_C25 n v_n2 v_r51 v_r65 v_r71 v_r149 v_z638 v_z697 v_z698 v_c1).bind fun v_o708 => match v_o708 with
            | .x0 v_z709 =>
              if v_z709 = true then
               some false
              else
               (G_ringlaw5_CredSays_C26 n v_z638 v_z697 v_z698 v_r65 v_r71 v_r149 v_c1 v_n2).bind fun v_o725 => match v_o725 with
               | .x0 v_z726 =>
                 some v_z726
         | .x1 v_z755 v_z756 v_z757 =>
           if v_n2 = 0 then
            (G_ringlaw5_CredSays_C31 n v_n2 v_r51 v_r65 v_r71 v_r149 v_z638 v_z755 v_z756 v_c1 v_z757).bind fun v_o822 => match v_o822 with
            | .x0 v_z823 v_z824 =>
              if v_z823 = true then
               some false
              else
               (G_ringlaw5_CredSays_C32 n v_z638 v_z755 v_z756 v_r65 v_r71 v_r149 v_c1 v_n2 v_z824).bind fun v_o848 => match v_o848 with
               | .x0 v_z849 =>
                 some v_z849
           else
            (G_ringlaw5_CredSays_C29 n v_n2 v_r51 v_r65 v_r71 v_r149 v_z638 v_z755 v_z756 v_c1 v_z757).bind fun v_o776 => match v_o776 with
            | .x0 v_z777 v_z778 =>
              if v_z777 = true then
               some false
              else
               (G_ringlaw5_CredSays_C30 n v_z638 v_z755 v_z756 v_r65 v_r71 v_r149 v_c1 v_n2 v_z778).bind fun v_o802 => match v_o802 with
               | .x0 v_z803 =>
                 some v_z803
    else
     some false
   else
    (G_ringlaw5_CredSays_C1 n v_r47 v_r51 v_r65 v_r71 v_r149 v_r170).bind fun v_o228 => match v_o228 with
    | .x0 v_z229 =>
      some v_z229
  else
   some false
theorem G_ringlaw5_CredSays_ok (n : Nat) (v_c1 : S_api_Cred) (v_n2 : Int) (r : Bool) (h : G_ringlaw5_CredSays n v_c1 v_n2 = some r) : Ret Try.prog 3 [eS_api_Cred v_c1, (eI .i64) v_n2] (eB r) := by
  refine ret_run (n := 233) (fn := Try.f3) (c := bodyOf Try.f3) (by kernel_rfl) (by kernel_rfl) (by kernel_rfl) (by kernel_rfl) ?_
  have hF : KC 233 (FinR Try.prog Try.f3 (eB r)) := FinR.kc' (by kernel_rfl)
  unfold G_ringlaw5_CredSays at h
  obtain ⟨v_r47, h54, h⟩ := bind_some h
  obtain ⟨v_r51, h60, h⟩ := bind_some h
  obtain ⟨v_r65, h68, h⟩ := bind_some h
  obtain ⟨v_r71, h83, h⟩ := bind_some h
  obtain ⟨v_r149, h188, h⟩ := bind_some h
  obtain ⟨v_r170, h212, h⟩ := bind_some h
  obtain ⟨v_r171, h213, h⟩ := bind_some h
  by_cases h214 : v_r171 = v_r170
  · rw [if_pos h214] at h
    by_cases h263 : v_r170 = 0
    · rw [if_pos h263] at h
      obtain ⟨v_r232, h290, h⟩ := bind_some h
      obtain ⟨v_r233, h291, h⟩ := bind_some h
      by_cases h292 : v_r47.2 = 0
      · rw [if_pos h292] at h
        by_cases h293 : (eqRes .neq (v_r47.1 == v_r233)) = true
        · rw [if_pos h293] at h
          obtain rfl := Option.some.inj h
          exact pend_sound TTok mix 36 (hs := [.c, .r (.tup [eB v_r47.1, (eI .i64) v_r47.2]), .c, .r (.tup [eB v_r51.1, (eI .i64) v_r51.2]), .c, .r (.tup [eS_api_Cred v_r65.1, (eI .i64) v_r65.2]), .c, .c, .r (.tup [eS_api_Cred v_r71.1, (eI .i64) v_r71.2]), .c, .c, .r (.tup [eS_api_Cred v_r149.1, (eI .i64) v_r149.2]), .c, .c, .r ((eI .i64) v_r170), .c, .c, .r ((eI .i64) v_r171), .t false, .t false, .c, .r ((eL (eI .i64)) v_r232), .r (eB v_r233), .t false, .c, .c, .t true]) (by kernel_rfl) (by kernel_rfl) (by kernel_rfl) (.cons (G_cred_In_ok n v_c1 v_n2 _ h54) (.cons (G_cred_Has_ok n v_c1 v_n2 _ h60) (.cons (G_cred_Drop_ok n v_c1 v_n2 _ h68) (.cons (show 0 + 6 ≤ 6 by decide) (.cons (G_cred_Become_ok n v_c1 v_n2 _ h83) (.cons (show 0 + 6 ≤ 6 by decide) (.cons (G_cred_Join_ok n v_c1 v_n2 _ h188) (.cons (show 0 + 6 ≤ 6 by decide) (.cons (G_ringref5_CredErr_ok n v_c1 _ h212) (.cons (show 0 + 6 ≤ 6 by decide) (.cons (G_cred_Check_ok n v_c1 _ h213) (.cons (nf h214) (.cons (nf h263) (.cons (G_ringref5_Groups_ok n v_c1 _ h290) (.cons (G_slices_Contains_int_int_ok n v_r232 v_n2 _ h291) (.cons (nf h292) (.cons h293 .nil)))))))))))))))))
        · rw [if_neg h293] at h
          by_cases h294 : v_n2 < 0
          · rw [if_pos h294] at h
            obtain ⟨v_o291, h343, h⟩ := bind_some h
            refine pkk_sound TTok mix hF 43 (hs := [.c, .r (.tup [eB v_r47.1, (eI .i64) v_r47.2]), .c, .r (.tup [eB v_r51.1, (eI .i64) v_r51.2]), .c, .r (.tup [eS_api_Cred v_r65.1, (eI .i64) v_r65.2]), .c, .c, .r (.tup [eS_api_Cred v_r71.1, (eI .i64) v_r71.2]), .c, .c, .r (.tup [eS_api_Cred v_r149.1, (eI .i64) v_r149.2]), .c, .c, .r ((eI .i64) v_r170), .c, .c, .r ((eI .i64) v_r171), .t false, .t false, .c, .r ((eL (eI .i64)) v_r232), .r (eB v_r233), .t false, .c, .c, .t false, .c, .c, .c, .c, .c, .c, .t true, .c, .c]) (ts := []) (s := [0, 72, 99, 126, 216, 219, 222]) (l := [1, 2, 7, 8, 9, 10, 11, 12, 13, 14, 17, 18, 19, 20, 21, 22, 23]) (by kernel_rfl) (by kernel_rfl) (.cons (G_cred_In_ok n v_c1 v_n2 _ h54) (.cons (G_cred_Has_ok n v_c1 v_n2 _ h60) (.cons (G_cred_Drop_ok n v_c1 v_n2 _ h68) (.cons (show 0 + 6 ≤ 6 by decide) (.cons (G_cred_Become_ok n v_c1 v_n2 _ h83) (.cons (show 0 + 6 ≤ 6 by decide) (.cons (G_cred_Join_ok n v_c1 v_n2 _ h188) (.cons (show 0 + 6 ≤ 6 by decide) (.cons (G_ringref5_CredErr_ok n v_c1 _ h212) (.cons (show 0 + 6 ≤ 6 by decide) (.cons (G_cred_Check_ok n v_c1 _ h213) (.cons (nf h214) (.cons (nf h263) (.cons (G_ringref5_Groups_ok n v_c1 _ h290) (.cons (G_slices_Contains_int_int_ok n v_r232 v_n2 _ h291) (.cons (nf h292) (.cons (vf h293) (.cons (show 0 + 6 ≤ 6 by decide) (.cons (show 0 + 6 ≤ 6 by decide) (.cons (show 0 + 6 ≤ 6 by decide) (.cons (dt h294) .nil))))))))))))))))))))) (G_ringlaw5_CredSays_C3_ok hF (.s (cR (cR (cR (cR (cR (cR (cR (cR (cR (cR (cR (cR (cR (cR (cR (cR (bodyOf Try.f3))))))))))))))))) :: []) n v_n2 v_r51 v_r65 v_r71 v_r149 v_r233 v_c1 _ h343 ?_)
            cases v_o291 with
            | x0 v_z292 v_z293 =>
              try dsimp only at h
              by_cases h344 : v_n2 = 0
              · rw [if_pos h344] at h
                obtain ⟨v_o325, h381, h⟩ := bind_some h
                refine pkk_sound TTok mix hF 9 (hs := [.c, .t false]) (ts := []) (s := [0, 1, 2, 3, 4, 5, 6]) (l := [1, 2, 7, 8, 9, 10, 11, 12, 13, 14, 18, 19, 20, 21, 22, 23]) (by kernel_rfl) (by kernel_rfl) (.cons (show 0 + 1 ≤ 6 by decide) (.cons (nf h344) .nil)) (G_ringlaw5_CredSays_C6_ok hF (.s (cR (cL (cR (cR (cR (cR (cR (cR (cR (cR (cR (cR (cR (cR (cR (cR (cR (cR (cR (bodyOf Try.f3)))))))))))))))))))) :: .s (cR (cR (cR (cR (cR (cR (cR (cR (cR (cR (cR (cR (cR (cR (cR (cR (cR (cR (bodyOf Try.f3))))))))))))))))))) :: []) n v_n2 v_r51 v_r65 v_r71 v_r149 v_z292 v_z293 v_c1 _ h381 ?_)
                cases v_o325 with
                | x0 v_z326 =>
                  try dsimp only at h
                  by_cases h382 : v_z326 = true
                  · rw [if_pos h382] at h
                    obtain rfl := Option.some.inj h
                    exact pend_sound TTok mix 5 (hs := [.t true]) (by kernel_rfl) (by kernel_rfl) (by kernel_rfl) (.cons h382 .nil)
                  · rw [if_neg h382] at h
                    obtain ⟨v_o342, h399, h⟩ := bind_some h
                    refine pkk_sound TTok mix hF 3 (hs := [.t false]) (ts := []) (s := [0, 1, 2, 3, 4, 5]) (l := [9, 11, 13, 18, 19, 20, 21, 22, 23]) (by kernel_rfl) (by kernel_rfl) (.cons (vf h382) .nil) (G_ringlaw5_CredSays_C7_ok hF (.s (cR (cR (cR (cR (cR (cR (cR (cR (cR (cR (cR (cR (cR (cR (cR (cR (cR (cR (cR (bodyOf Try.f3)))))))))))))))))))) :: []) n v_z292 v_z293 v_r65 v_r71 v_r149 v_c1 v_n2 _ h399 ?_)
                    cases v_o342 with
                    | x0 v_z343 =>
                      try dsimp only at h
                      obtain rfl := Option.some.inj h
                      exact pend_sound TTok mix 1 (hs := []) (by kernel_rfl) (by kernel_rfl) (by kernel_rfl) .nil
              · rw [if_neg h344] at h
                obtain ⟨v_o299, h353, h⟩ := bind_some h
                refine pkk_sound TTok mix hF 9 (hs := [.c, .t true, .c]) (ts := []) (s := [0, 1, 2, 3, 4, 5, 6]) (l := [1, 2, 7, 8, 9, 10, 11, 12, 13, 14, 18, 19, 20, 21, 22, 23]) (by kernel_rfl) (by kernel_rfl) (.cons (show 0 + 1 ≤ 6 by decide) (.cons (nt h344) (.cons (show 3 + 1 ≤ 6 by decide) .nil))) (G_ringlaw5_CredSays_C4_ok hF (.s (cR (cL (cR (cR (cR (cR (cR (cR (cR (cR (cR (cR (cR (cR (cR (cR (cR (cR (cR (bodyOf Try.f3)))))))))))))))))))) :: .s (cR (cR (cR (cR (cR (cR (cR (cR (cR (cR (cR (cR (cR (cR (cR (cR (cR (cR (bodyOf Try.f3))))))))))))))))))) :: []) n v_n2 v_r51 v_r65 v_r71 v_r149 v_z292 v_z293 v_c1 _ h353 ?_)
                cases v_o299 with
                | x0 v_z300 =>
                  try dsimp only at h
                  by_cases h354 : v_z300 = true
                  · rw [if_pos h354] at h
                    obtain rfl := Option.some.inj h
                    exact pend_sound TTok mix 5 (hs := [.t true]) (by kernel_rfl) (by kernel_rfl) (by kernel_rfl) (.cons h354 .nil)
                  · rw [if_neg h354] at h
                    obtain ⟨v_o318, h372, h⟩ := bind_some h
                    refine pkk_sound TTok mix hF 3 (hs := [.t false]) (ts := []) (s := [0, 1, 2, 3, 4, 5]) (l := [9, 11, 13, 18, 19, 20, 21, 22, 23]) (by kernel_rfl) (by kernel_rfl) (.cons (vf h354) .nil) (G_ringlaw5_CredSays_C5_ok hF (.s (cR (cR (cR (cR (cR (cR (cR (cR (cR (cR (cR (cR (cR (cR (cR (cR (cR (cR (cR (bodyOf Try.f3)))))))))))))))))))) :: []) n v_z292 v_z293 v_r65 v_r71 v_r149 v_c1 v_n2 _ h372 ?_)
                    cases v_o318 with
                    | x0 v_z319 =>
                      try dsimp only at h
                      obtain rfl := Option.some.inj h
                      exact pend_sound TTok mix 1 (hs := []) (by kernel_rfl) (by kernel_rfl) (by kernel_rfl) .nil
            | x1 v_z344 v_z345 v_z346 =>
              try dsimp only at h
              by_cases h400 : v_n2 = 0
              · rw [if_pos h400] at h
                obtain ⟨v_o395, h448, h⟩ := bind_some h
                refine pkk_sound TTok mix hF 9 (hs := [.c, .t false]) (ts := []) (s := [0, 1, 2, 3, 4, 5, 6, 7]) (l := [1, 2, 7, 8, 9, 10, 11, 12, 13, 14, 18, 19, 20, 21, 22, 23]) (by kernel_rfl) (by kernel_rfl) (.cons (show 0 + 1 ≤ 6 by decide) (.cons (nf h400) .nil)) (G_ringlaw5_CredSays_C10_ok hF (.s (cR (cL (cR (cR (cR (cR (cR (cR (cR (cR (cR (cR (cR (cR (cR (cR (cR (cR (cR (bodyOf Try.f3)))))))))))))))))))) :: .s (cR (cR (cR (cR (cR (cR (cR (cR (cR (cR (cR (cR (cR (cR (cR (cR (cR (cR (bodyOf Try.f3))))))))))))))))))) :: []) n v_n2 v_r51 v_r65 v_r71 v_r149 v_z344 v_z345 v_c1 v_z346 _ h448 ?_)
                cases v_o395 with
                | x0 v_z396 v_z397 =>
                  try dsimp only at h
                  by_cases h449 : v_z396 = true
                  · rw [if_pos h449] at h
                    obtain rfl := Option.some.inj h
                    exact pend_sound TTok mix 5 (hs := [.t true]) (by kernel_rfl) (by kernel_rfl) (by kernel_rfl) (.cons h449 .nil)
                  · rw [if_neg h449] at h
                    obtain ⟨v_o421, h478, h⟩ := bind_some h
                    refine pkk_sound TTok mix hF 3 (hs := [.t false]) (ts := []) (s := [0, 1, 2, 3, 4, 5, 6]) (l := [9, 11, 13, 18, 19, 20, 21, 22, 23]) (by kernel_rfl) (by kernel_rfl) (.cons (vf h449) .nil) (G_ringlaw5_CredSays_C11_ok hF (.s (cR (cR (cR (cR (cR (cR (cR (cR (cR (cR (cR (cR (cR (cR (cR (cR (cR (cR (cR (bodyOf Try.f3)))))))))))))))))))) :: []) n v_z344 v_z345 v_r65 v_r71 v_r149 v_c1 v_n2 v_z397 _ h478 ?_)
                    cases v_o421 with
                    | x0 v_z422 =>
                      try dsimp only at h
                      obtain rfl := Option.some.inj h
                      exact pend_sound TTok mix 1 (hs := []) (by kernel_rfl) (by kernel_rfl) (by kernel_rfl) .nil
              · rw [if_neg h400] at h
                obtain ⟨v_o357, h409, h⟩ := bind_some h
                refine pkk_sound TTok mix hF 9 (hs := [.c, .t true, .c]) (ts := []) (s := [0, 1, 2, 3, 4, 5, 6, 7]) (l := [1, 2, 7, 8, 9, 10, 11, 12, 13, 14, 18, 19, 20, 21, 22, 23]) (by kernel_rfl) (by kernel_rfl) (.cons (show 0 + 1 ≤ 6 by decide) (.cons (nt h400) (.cons (show 3 + 1 ≤ 6 by decide) .nil))) (G_ringlaw5_CredSays_C8_ok hF (.s (cR (cL (cR (cR (cR (cR (cR (cR (cR (cR (cR (cR (cR (cR (cR (cR (cR (cR (cR (bodyOf Try.f3)))))))))))))))))))) :: .s (cR (cR (cR (cR (cR (cR (cR (cR (cR (cR (cR (cR (cR (cR (cR (cR (cR (cR (bodyOf Try.f3))))))))))))))))))) :: []) n v_n2 v_r51 v_r65 v_r71 v_r149 v_z344 v_z345 v_c1 v_z346 _ h409 ?_)
                cases v_o357 with
                | x0 v_z358 v_z359 =>
                  try dsimp only at h
                  by_cases h410 : v_z358 = true
                  · rw [if_pos h410] at h
                    obtain rfl := Option.some.inj h
                    exact pend_sound TTok mix 5 (hs := [.t true]) (by kernel_rfl) (by kernel_rfl) (by kernel_rfl) (.cons h410 .nil)
                  · rw [if_neg h410] at h
                    obtain ⟨v_o383, h439, h⟩ := bind_some h
                    refine pkk_sound TTok mix hF 3 (hs := [.t false]) (ts := []) (s := [0, 1, 2, 3, 4, 5, 6]) (l := [9, 11, 13, 18, 19, 20, 21, 22, 23]) (by kernel_rfl) (by kernel_rfl) (.cons (vf h410) .nil) (G_ringlaw5_CredSays_C9_ok hF (.s (cR (cR (cR (cR (cR (cR (cR (cR (cR (cR (cR (cR (cR (cR (cR (cR (cR (cR (cR (bodyOf Try.f3)))))))))))))))))))) :: []) n v_z344 v_z345 v_r65 v_r71 v_r149 v_c1 v_n2 v_z359 _ h439 ?_)
                    cases v_o383 with
                    | x0 v_z384 =>
                      try dsimp only at h
                      obtain rfl := Option.some.inj h
                      exact pend_sound TTok mix 1 (hs := []) (by kernel_rfl) (by kernel_rfl) (by kernel_rfl) .nil
          · rw [if_neg h294] at h
            obtain ⟨v_o425, h481, h⟩ := bind_some h
            refine pkk_sound TTok mix hF 40 (hs := [.c, .r (.tup [eB v_r47.1, (eI .i64) v_r47.2]), .c, .r (.tup [eB v_r51.1, (eI .i64) v_r51.2]), .c, .r (.tup [eS_api_Cred v_r65.1, (eI .i64) v_r65.2]), .c, .c, .r (.tup [eS_api_Cred v_r71.1, (eI .i64) v_r71.2]), .c, .c, .r (.tup [eS_api_Cred v_r149.1, (eI .i64) v_r149.2]), .c, .c, .r ((eI .i64) v_r170), .c, .c, .r ((eI .i64) v_r171), .t false, .t false, .c, .r ((eL (eI .i64)) v_r232), .r (eB v_r233), .t false, .c, .c, .t false, .c, .c, .c, .c, .c, .c, .t false, .c]) (ts := []) (s := [0, 72, 99, 126, 216, 219, 222]) (l := [1, 2, 7, 8, 9, 10, 11, 12, 13, 14, 17, 18, 19, 20, 21, 22, 23, 128]) (by kernel_rfl) (by kernel_rfl) (.cons (G_cred_In_ok n v_c1 v_n2 _ h54) (.cons (G_cred_Has_ok n v_c1 v_n2 _ h60) (.cons (G_cred_Drop_ok n v_c1 v_n2 _ h68) (.cons (show 0 + 6 ≤ 6 by decide) (.cons (G_cred_Become_ok n v_c1 v_n2 _ h83) (.cons (show 0 + 6 ≤ 6 by decide) (.cons (G_cred_Join_ok n v_c1 v_n2 _ h188) (.cons (show 0 + 6 ≤ 6 by decide) (.cons (G_ringref5_CredErr_ok n v_c1 _ h212) (.cons (show 0 + 6 ≤ 6 by decide) (.cons (G_cred_Check_ok n v_c1 _ h213) (.cons (nf h214) (.cons (nf h263) (.cons (G_ringref5_Groups_ok n v_c1 _ h290) (.cons (G_slices_Contains_int_int_ok n v_r232 v_n2 _ h291) (.cons (nf h292) (.cons (vf h293) (.cons (show 0 + 6 ≤ 6 by decide) (.cons (show 0 + 6 ≤ 6 by decide) (.cons (show 0 + 6 ≤ 6 by decide) (.cons (df h294) .nil))))))))))))))))))))) (G_ringlaw5_CredSays_C12_ok hF (.s (cR (cR (cR (cR (cR (cR (cR (cR (cR (cR (cR (cR (cR (cR (cR (bodyOf Try.f3)))))))))))))))) :: []) n v_n2 v_r51 v_r65 v_r71 v_r149 v_r233 v_c1 _ h481 ?_)
            cases v_o425 with
            | x0 v_z426 =>
              try dsimp only at h
              obtain ⟨v_o484, h530, h⟩ := bind_some h
              refine pkk_sound TTok mix hF 1 (hs := []) (ts := []) (s := [0, 1, 2, 3, 4, 5, 6]) (l := [1, 2, 7, 8, 9, 10, 11, 12, 13, 14, 17, 18, 19, 20, 21, 22, 23]) (by kernel_rfl) (by kernel_rfl) .nil (G_ringlaw5_CredSays_C14_ok hF (.s (cR (cR (cR (cR (cR (cR (cR (cR (cR (cR (cR (cR (cR (cR (cR (cR (bodyOf Try.f3))))))))))))))))) :: []) n v_n2 v_r51 v_r65 v_r71 v_r149 v_r233 v_z426 v_c1 _ h530 ?_)
              cases v_o484 with
              | x0 v_z485 v_z486 =>
                try dsimp only at h
                by_cases h531 : v_n2 = 0
                · rw [if_pos h531] at h
                  obtain ⟨v_o524, h583, h⟩ := bind_some h
                  refine pkk_sound TTok mix hF 9 (hs := [.c, .t false]) (ts := []) (s := [0, 1, 2, 3, 4, 5, 6]) (l := [1, 2, 7, 8, 9, 10, 11, 12, 13, 14, 18, 19, 20, 21, 22, 23]) (by kernel_rfl) (by kernel_rfl) (.cons (show 0 + 1 ≤ 6 by decide) (.cons (nf h531) .nil)) (G_ringlaw5_CredSays_C17_ok hF (.s (cR (cL (cR (cR (cR (cR (cR (cR (cR (cR (cR (cR (cR (cR (cR (cR (cR (cR (cR (bodyOf Try.f3)))))))))))))))))))) :: .s (cR (cR (cR (cR (cR (cR (cR (cR (cR (cR (cR (cR (cR (cR (cR (cR (cR (cR (bodyOf Try.f3))))))))))))))))))) :: []) n v_n2 v_r51 v_r65 v_r71 v_r149 v_z426 v_z485 v_z486 v_c1 _ h583 ?_)
                  cases v_o524 with
                  | x0 v_z525 =>
                    try dsimp only at h
                    by_cases h584 : v_z525 = true
                    · rw [if_pos h584] at h
                      obtain rfl := Option.some.inj h
                      exact pend_sound TTok mix 5 (hs := [.t true]) (by kernel_rfl) (by kernel_rfl) (by kernel_rfl) (.cons h584 .nil)
                    · rw [if_neg h584] at h
                      obtain ⟨v_o541, h601, h⟩ := bind_some h
                      refine pkk_sound TTok mix hF 3 (hs := [.t false]) (ts := []) (s := [0, 1, 2, 3, 4, 5]) (l := [9, 11, 13, 18, 19, 20, 21, 22, 23]) (by kernel_rfl) (by kernel_rfl) (.cons (vf h584) .nil) (G_ringlaw5_CredSays_C18_ok hF (.s (cR (cR (cR (cR (cR (cR (cR (cR (cR (cR (cR (cR (cR (cR (cR (cR (cR (cR (cR (bodyOf Try.f3)))))))))))))))))))) :: []) n v_z426 v_z485 v_z486 v_r65 v_r71 v_r149 v_c1 v_n2 _ h601 ?_)
                      cases v_o541 with
                      | x0 v_z542 =>
                        try dsimp only at h
                        obtain rfl := Option.some.inj h
                        exact pend_sound TTok mix 1 (hs := []) (by kernel_rfl) (by kernel_rfl) (by kernel_rfl) .nil
                · rw [if_neg h531] at h
                  obtain ⟨v_o496, h548, h⟩ := bind_some h
                  refine pkk_sound TTok mix hF 9 (hs := [.c, .t true, .c]) (ts := []) (s := [0, 1, 2, 3, 4, 5, 6]) (l := [1, 2, 7, 8, 9, 10, 11, 12, 13, 14, 18, 19, 20, 21, 22, 23]) (by kernel_rfl) (by kernel_rfl) (.cons (show 0 + 1 ≤ 6 by decide) (.cons (nt h531) (.cons (show 3 + 1 ≤ 6 by decide) .nil))) (G_ringlaw5_CredSays_C15_ok hF (.s (cR (cL (cR (cR (cR (cR (cR (cR (cR (cR (cR (cR (cR (cR (cR (cR (cR (cR (cR (bodyOf Try.f3)))))))))))))))))))) :: .s (cR (cR (cR (cR (cR (cR (cR (cR (cR (cR (cR (cR (cR (cR (cR (cR (cR (cR (bodyOf Try.f3))))))))))))))))))) :: []) n v_n2 v_r51 v_r65 v_r71 v_r149 v_z426 v_z485 v_z486 v_c1 _ h548 ?_)
                  cases v_o496 with
                  | x0 v_z497 =>
                    try dsimp only at h
                    by_cases h549 : v_z497 = true
                    · rw [if_pos h549] at h
                      obtain rfl := Option.some.inj h
                      exact pend_sound TTok mix 5 (hs := [.t true]) (by kernel_rfl) (by kernel_rfl) (by kernel_rfl) (.cons h549 .nil)
                    · rw [if_neg h549] at h
                      obtain ⟨v_o513, h566, h⟩ := bind_some h
                      refine pkk_sound TTok mix hF 3 (hs := [.t false]) (ts := []) (s := [0, 1, 2, 3, 4, 5]) (l := [9, 11, 13, 18, 19, 20, 21, 22, 23]) (by kernel_rfl) (by kernel_rfl) (.cons (vf h549) .nil) (G_ringlaw5_CredSays_C16_ok hF (.s (cR (cR (cR (cR (cR (cR (cR (cR (cR (cR (cR (cR (cR (cR (cR (cR (cR (cR (cR (bodyOf Try.f3)))))))))))))))))))) :: []) n v_z426 v_z485 v_z486 v_r65 v_r71 v_r149 v_c1 v_n2 _ h566 ?_)
                      cases v_o513 with
                      | x0 v_z514 =>
                        try dsimp only at h
                        obtain rfl := Option.some.inj h
                        exact pend_sound TTok mix 1 (hs := []) (by kernel_rfl) (by kernel_rfl) (by kernel_rfl) .nil
              | x1 v_z543 v_z544 v_z545 =>
                try dsimp only at h
                by_cases h602 : v_n2 = 0
                · rw [if_pos h602] at h
                  obtain ⟨v_o610, h666, h⟩ := bind_some h
                  refine pkk_sound TTok mix hF 9 (hs := [.c, .t false]) (ts := []) (s := [0, 1, 2, 3, 4, 5, 6, 7]) (l := [1, 2, 7, 8, 9, 10, 11, 12, 13, 14, 18, 19, 20, 21, 22, 23]) (by kernel_rfl) (by kernel_rfl) (.cons (show 0 + 1 ≤ 6 by decide) (.cons (nf h602) .nil)) (G_ringlaw5_CredSays_C21_ok hF (.s (cR (cL (cR (cR (cR (cR (cR (cR (cR (cR (cR (cR (cR (cR (cR (cR (cR (cR (cR (bodyOf Try.f3)))))))))))))))))))) :: .s (cR (cR (cR (cR (cR (cR (cR (cR (cR (cR (cR (cR (cR (cR (cR (cR (cR (cR (bodyOf Try.f3))))))))))))))))))) :: []) n v_n2 v_r51 v_r65 v_r71 v_r149 v_z426 v_z543 v_z544 v_c1 v_z545 _ h666 ?_)
                  cases v_o610 with
                  | x0 v_z611 v_z612 =>
                    try dsimp only at h
                    by_cases h667 : v_z611 = true
                    · rw [if_pos h667] at h
                      obtain rfl := Option.some.inj h
                      exact pend_sound TTok mix 5 (hs := [.t true]) (by kernel_rfl) (by kernel_rfl) (by kernel_rfl) (.cons h667 .nil)
                    · rw [if_neg h667] at h
                      obtain ⟨v_o636, h696, h⟩ := bind_some h
                      refine pkk_sound TTok mix hF 3 (hs := [.t false]) (ts := []) (s := [0, 1, 2, 3, 4, 5, 6]) (l := [9, 11, 13, 18, 19, 20, 21, 22, 23]) (by kernel_rfl) (by kernel_rfl) (.cons (vf h667) .nil) (G_ringlaw5_CredSays_C22_ok hF (.s (cR (cR (cR (cR (cR (cR (cR (cR (cR (cR (cR (cR (cR (cR (cR (cR (cR (cR (cR (bodyOf Try.f3)))))))))))))))))))) :: []) n v_z426 v_z543 v_z544 v_r65 v_r71 v_r149 v_c1 v_n2 v_z612 _ h696 ?_)
                      cases v_o636 with
                      | x0 v_z637 =>
                        try dsimp only at h
                        obtain rfl := Option.some.inj h
                        exact pend_sound TTok mix 1 (hs := []) (by kernel_rfl) (by kernel_rfl) (by kernel_rfl) .nil
                · rw [if_neg h602] at h
                  obtain ⟨v_o564, h619, h⟩ := bind_some h
                  refine pkk_sound TTok mix hF 9 (hs := [.c, .t true, .c]) (ts := []) (s := [0, 1, 2, 3, 4, 5, 6, 7]) (l := [1, 2, 7, 8, 9, 10, 11, 12, 13, 14, 18, 19, 20, 21, 22, 23]) (by kernel_rfl) (by kernel_rfl) (.cons (show 0 + 1 ≤ 6 by decide) (.cons (nt h602) (.cons (show 3 + 1 ≤ 6 by decide) .nil))) (G_ringlaw5_CredSays_C19_ok hF (.s (cR (cL (cR (cR (cR (cR (cR (cR (cR (cR (cR (cR (cR (cR (cR (cR (cR (cR (cR (bodyOf Try.f3)))))))))))))))))))) :: .s (cR (cR (cR (cR (cR (cR (cR (cR (cR (cR (cR (cR (cR (cR (cR (cR (cR (cR (bodyOf Try.f3))))))))))))))))))) :: []) n v_n2 v_r51 v_r65 v_r71 v_r149 v_z426 v_z543 v_z544 v_c1 v_z545 _ h619 ?_)
                  cases v_o564 with
                  | x0 v_z565 v_z566 =>
                    try dsimp only at h
                    by_cases h620 : v_z565 = true
                    · rw [if_pos h620] at h
                      obtain rfl := Option.some.inj h
                      exact pend_sound TTok mix 5 (hs := [.t true]) (by kernel_rfl) (by kernel_rfl) (by kernel_rfl) (.cons h620 .nil)
                    · rw [if_neg h620] at h
                      obtain ⟨v_o590, h649, h⟩ := bind_some h
                      refine pkk_sound TTok mix hF 3 (hs := [.t false]) (ts := []) (s := [0, 1, 2, 3, 4, 5, 6]) (l := [9, 11, 13, 18, 19, 20, 21, 22, 23]) (by kernel_rfl) (by kernel_rfl) (.cons (vf h620) .nil) (G_ringlaw5_CredSays_C20_ok hF (.s (cR (cR (cR (cR (cR (cR (cR (cR (cR (cR (cR (cR (cR (cR (cR (cR (cR (cR (cR (bodyOf Try.f3)))))))))))))))))))) :: []) n v_z426 v_z543 v_z544 v_r65 v_r71 v_r149 v_c1 v_n2 v_z566 _ h649 ?_)
                      cases v_o590 with
                      | x0 v_z591 =>
                        try dsimp only at h
                        obtain rfl := Option.some.inj h
                        exact pend_sound TTok mix 1 (hs := []) (by kernel_rfl) (by kernel_rfl) (by kernel_rfl) .nil
            | x1 v_z638 =>
              try dsimp only at h
              obtain ⟨v_o696, h745, h⟩ := bind_some h
              refine pkk_sound TTok mix hF 1 (hs := []) (ts := []) (s := [0, 1, 2, 3, 4, 5, 6]) (l := [1, 2, 7, 8, 9, 10, 11, 12, 13, 14, 17, 18, 19, 20, 21, 22, 23]) (by kernel_rfl) (by kernel_rfl) .nil (G_ringlaw5_CredSays_C24_ok hF (.s (cR (cR (cR (cR (cR (cR (cR (cR (cR (cR (cR (cR (cR (cR (cR (cR (bodyOf Try.f3))))))))))))))))) :: []) n v_n2 v_r51 v_r65 v_r71 v_r149 v_r233 v_z638 v_c1 _ h745 ?_)
              cases v_o696 with
              | x0 v_z697 v_z698 =>
                try dsimp only at h
                by_cases h746 : v_n2 = 0
                · rw [if_pos h746] at h
                  obtain ⟨v_o736, h798, h⟩ := bind_some h
                  refine pkk_sound TTok mix hF 9 (hs := [.c, .t false]) (ts := []) (s := [0, 1, 2, 3, 4, 5, 6]) (l := [1, 2, 7, 8, 9, 10, 11, 12, 13, 14, 18, 19, 20, 21, 22, 23]) (by kernel_rfl) (by kernel_rfl) (.cons (show 0 + 1 ≤ 6 by decide) (.cons (nf h746) .nil)) (G_ringlaw5_CredSays_C27_ok hF (.s (cR (cL (cR (cR (cR (cR (cR (cR (cR (cR (cR (cR (cR (cR (cR (cR (cR (cR (cR (bodyOf Try.f3)))))))))))))))))))) :: .s (cR (cR (cR (cR (cR (cR (cR (cR (cR (cR (cR (cR (cR (cR (cR (cR (cR (cR (bodyOf Try.f3))))))))))))))))))) :: []) n v_n2 v_r51 v_r65 v_r71 v_r149 v_z638 v_z697 v_z698 v_c1 _ h798 ?_)
                  cases v_o736 with
                  | x0 v_z737 =>
                    try dsimp only at h
                    by_cases h799 : v_z737 = true
                    · rw [if_pos h799] at h
                      obtain rfl := Option.some.inj h
                      exact pend_sound TTok mix 5 (hs := [.t true]) (by kernel_rfl) (by kernel_rfl) (by kernel_rfl) (.cons h799 .nil)
                    · rw [if_neg h799] at h
                      obtain ⟨v_o753, h816, h⟩ := bind_some h
                      refine pkk_sound TTok mix hF 3 (hs := [.t false]) (ts := []) (s := [0, 1, 2, 3, 4, 5]) (l := [9, 11, 13, 18, 19, 20, 21, 22, 23]) (by kernel_rfl) (by kernel_rfl) (.cons (vf h799) .nil) (G_ringlaw5_CredSays_C28_ok hF (.s (cR (cR (cR (cR (cR (cR (cR (cR (cR (cR (cR (cR (cR (cR (cR (cR (cR (cR (cR (bodyOf Try.f3)))))))))))))))))))) :: []) n v_z638 v_z697 v_z698 v_r65 v_r71 v_r149 v_c1 v_n2 _ h816 ?_)
                      cases v_o753 with
                      | x0 v_z754 =>
                        try dsimp only at h
                        obtain rfl := Option.some.inj h
                        exact pend_sound TTok mix 1 (hs := []) (by kernel_rfl) (by kernel_rfl) (by kernel_rfl) .nil
                · rw [if_neg h746] at h
                  obtain ⟨v_o708, h763, h⟩ := bind_some h
                  refine pkk_sound TTok mix hF 9 (hs := [.c, .t true, .c]) (ts := []) (s := [0, 1, 2, 3, 4, 5, 6]) (l := [1, 2, 7, 8, 9, 10, 11, 12, 13, 14, 18, 19, 20, 21, 22, 23]) (by kernel_rfl) (by kernel_rfl) (.cons (show 0 + 1 ≤ 6 by decide) (.cons (nt h746) (.cons (show 3 + 1 ≤ 6 by decide) .nil))) (G_ringlaw5_CredSays_C25_ok hF (.s (cR (cL (cR (cR (cR (cR (cR (cR (cR (cR (cR (cR (cR (cR (cR (cR (cR (cR (cR (bodyOf Try.f3)))))))))))))))))))) :: .s (cR (cR (cR (cR (cR (cR (cR (cR (cR (cR (cR (cR (cR (cR (cR (cR (cR (cR (bodyOf Try.f3))))))))))))))))))) :: []) n v_n2 v_r51 v_r65 v_r71 v_r149 v_z638 v_z697 v_z698 v_c1 _ h763 ?_)
                  cases v_o708 with
                  | x0 v_z709 =>
                    try dsimp only at h
                    by_cases h764 : v_z709 = true
                    · rw [if_pos h764] at h
                      obtain rfl := Option.some.inj h
                      exact pend_sound TTok mix 5 (hs := [.t true]) (by kernel_rfl) (by kernel_rfl) (by kernel_rfl) (.cons h764 .nil)
                    · rw [if_neg h764] at h
                      obtain ⟨v_o725, h781, h⟩ := bind_some h
                      refine pkk_sound TTok mix hF 3 (hs := [.t false]) (ts := []) (s := [0, 1, 2, 3, 4, 5]) (l := [9, 11, 13, 18, 19, 20, 21, 22, 23]) (by kernel_rfl) (by kernel_rfl) (.cons (vf h764) .nil) (G_ringlaw5_CredSays_C26_ok hF (.s (cR (cR (cR (cR (cR (cR (cR (cR (cR (cR (cR (cR (cR (cR (cR (cR (cR (cR (cR (bodyOf Try.f3)))))))))))))))))))) :: []) n v_z638 v_z697 v_z698 v_r65 v_r71 v_r149 v_c1 v_n2 _ h781 ?_)
                      cases v_o725 with
                      | x0 v_z726 =>
                        try dsimp only at h
                        obtain rfl := Option.some.inj h
                        exact pend_sound TTok mix 1 (hs := []) (by kernel_rfl) (by kernel_rfl) (by kernel_rfl) .nil
              | x1 v_z755 v_z756 v_z757 =>
                try dsimp only at h
                by_cases h817 : v_n2 = 0
                · rw [if_pos h817] at h
                  obtain ⟨v_o822, h881, h⟩ := bind_some h
                  refine pkk_sound TTok mix hF 9 (hs := [.c, .t false]) (ts := []) (s := [0, 1, 2, 3, 4, 5, 6, 7]) (l := [1, 2, 7, 8, 9, 10, 11, 12, 13, 14, 18, 19, 20, 21, 22, 23]) (by kernel_rfl) (by kernel_rfl) (.cons (show 0 + 1 ≤ 6 by decide) (.cons (nf h817) .nil)) (G_ringlaw5_CredSays_C31_ok hF (.s (cR (cL (cR (cR (cR (cR (cR (cR (cR (cR (cR (cR (cR (cR (cR (cR (cR (cR (cR (bodyOf Try.f3)))))))))))))))))))) :: .s (cR (cR (cR (cR (cR (cR (cR (cR (cR (cR (cR (cR (cR (cR (cR (cR (cR (cR (bodyOf Try.f3))))))))))))))))))) :: []) n v_n2 v_r51 v_r65 v_r71 v_r149 v_z638 v_z755 v_z756 v_c1 v_z757 _ h881 ?_)
                  cases v_o822 with
                  | x0 v_z823 v_z824 =>
                    try dsimp only at h
                    by_cases h882 : v_z823 = true
                    · rw [if_pos h882] at h
                      obtain rfl := Option.some.inj h
                      exact pend_sound TTok mix 5 (hs := [.t true]) (by kernel_rfl) (by kernel_rfl) (by kernel_rfl) (.cons h882 .nil)
                    · rw [if_neg h882] at h
                      obtain ⟨v_o848, h911, h⟩ := bind_some h
                      refine pkk_sound TTok mix hF 3 (hs := [.t false]) (ts := []) (s := [0, 1, 2, 3, 4, 5, 6]) (l := [9, 11, 13, 18, 19, 20, 21, 22, 23]) (by kernel_rfl) (by kernel_rfl) (.cons (vf h882) .nil) (G_ringlaw5_CredSays_C32_ok hF (.s (cR (cR (cR (cR (cR (cR (cR (cR (cR (cR (cR (cR (cR (cR (cR (cR (cR (cR (cR (bodyOf Try.f3)))))))))))))))))))) :: []) n v_z638 v_z755 v_z756 v_r65 v_r71 v_r149 v_c1 v_n2 v_z824 _ h911 ?_)
                      cases v_o848 with
                      | x0 v_z849 =>
                        try dsimp only at h
                        obtain rfl := Option.some.inj h
                        exact pend_sound TTok mix 1 (hs := []) (by kernel_rfl) (by kernel_rfl) (by kernel_rfl) .nil
                · rw [if_neg h817] at h
                  obtain ⟨v_o776, h834, h⟩ := bind_some h
                  refine pkk_sound TTok mix hF 9 (hs := [.c, .t true, .c]) (ts := []) (s := [0, 1, 2, 3, 4, 5, 6, 7]) (l := [1, 2, 7, 8, 9, 10, 11, 12, 13, 14, 18, 19, 20, 21, 22, 23]) (by kernel_rfl) (by kernel_rfl) (.cons (show 0 + 1 ≤ 6 by decide) (.cons (nt h817) (.cons (show 3 + 1 ≤ 6 by decide) .nil))) (G_ringlaw5_CredSays_C29_ok hF (.s (cR (cL (cR (cR (cR (cR (cR (cR (cR (cR (cR (cR (cR (cR (cR (cR (cR (cR (cR (bodyOf Try.f3)))))))))))))))))))) :: .s (cR (cR (cR (cR (cR (cR (cR (cR (cR (cR (cR (cR (cR (cR (cR (cR (cR (cR (bodyOf Try.f3))))))))))))))))))) :: []) n v_n2 v_r51 v_r65 v_r71 v_r149 v_z638 v_z755 v_z756 v_c1 v_z757 _ h834 ?_)
                  cases v_o776 with
                  | x0 v_z777 v_z778 =>
                    try dsimp only at h
                    by_cases h835 : v_z777 = true
                    · rw [if_pos h835] at h
                      obtain rfl := Option.some.inj h
                      exact pend_sound TTok mix 5 (hs := [.t true]) (by kernel_rfl) (by kernel_rfl) (by kernel_rfl) (.cons h835 .nil)
                    · rw [if_neg h835] at h
                      obtain ⟨v_o802, h864, h⟩ := bind_some h
                      refine pkk_sound TTok mix hF 3 (hs := [.t false]) (ts := []) (s := [0, 1, 2, 3, 4, 5, 6]) (l := [9, 11, 13, 18, 19, 20, 21, 22, 23]) (by kernel_rfl) (by kernel_rfl) (.cons (vf h835) .nil) (G_ringlaw5_CredSays_C30_ok hF (.s (cR (cR (cR (cR (cR (cR (cR (cR (cR (cR (cR (cR (cR (cR (cR (cR (cR (cR (cR (bodyOf Try.f3)))))))))))))))))))) :: []) n v_z638 v_z755 v_z756 v_r65 v_r71 v_r149 v_c1 v_n2 v_z778 _ h864 ?_)
                      cases v_o802 with
                      | x0 v_z803 =>
                        try dsimp only at h
                        obtain rfl := Option.some.inj h
                        exact pend_sound TTok mix 1 (hs := []) (by kernel_rfl) (by kernel_rfl) (by kernel_rfl) .nil
      · rw [if_neg h292] at h
        obtain rfl := Option.some.inj h
        exact pend_sound TTok mix 36 (hs := [.c, .r (.tup [eB v_r47.1, (eI .i64) v_r47.2]), .c, .r (.tup [eB v_r51.1, (eI .i64) v_r51.2]), .c, .r (.tup [eS_api_Cred v_r65.1, (eI .i64) v_r65.2]), .c, .c, .r (.tup [eS_api_Cred v_r71.1, (eI .i64) v_r71.2]), .c, .c, .r (.tup [eS_api_Cred v_r149.1, (eI .i64) v_r149.2]), .c, .c, .r ((eI .i64) v_r170), .c, .c, .r ((eI .i64) v_r171), .t false, .t false, .c, .r ((eL (eI .i64)) v_r232), .r (eB v_r233), .t true, .c, .c, .c]) (by kernel_rfl) (by kernel_rfl) (by kernel_rfl) (.cons (G_cred_In_ok n v_c1 v_n2 _ h54) (.cons (G_cred_Has_ok n v_c1 v_n2 _ h60) (.cons (G_cred_Drop_ok n v_c1 v_n2 _ h68) (.cons (show 0 + 6 ≤ 6 by decide) (.cons (G_cred_Become_ok n v_c1 v_n2 _ h83) (.cons (show 0 + 6 ≤ 6 by decide) (.cons (G_cred_Join_ok n v_c1 v_n2 _ h188) (.cons (show 0 + 6 ≤ 6 by decide) (.cons (G_ringref5_CredErr_ok n v_c1 _ h212) (.cons (show 0 + 6 ≤ 6 by decide) (.cons (G_cred_Check_ok n v_c1 _ h213) (.cons (nf h214) (.cons (nf h263) (.cons (G_ringref5_Groups_ok n v_c1 _ h290) (.cons (G_slices_Contains_int_int_ok n v_r232 v_n2 _ h291) (.cons (nt h292) .nil))))))))))))))))
    · rw [if_neg h263] at h
      obtain ⟨v_o228, h288, h⟩ := bind_some h
      refine pkk_sound TTok mix hF 26 (hs := [.c, .r (.tup [eB v_r47.1, (eI .i64) v_r47.2]), .c, .r (.tup [eB v_r51.1, (eI .i64) v_r51.2]), .c, .r (.tup [eS_api_Cred v_r65.1, (eI .i64) v_r65.2]), .c, .c, .r (.tup [eS_api_Cred v_r71.1, (eI .i64) v_r71.2]), .c, .c, .r (.tup [eS_api_Cred v_r149.1, (eI .i64) v_r149.2]), .c, .c, .r ((eI .i64) v_r170), .c, .c, .r ((eI .i64) v_r171), .t false, .t true]) (ts := []) (s := [72, 99, 126, 147]) (l := [5, 6, 7, 8, 9, 10, 11, 12, 13, 14, 15, 16]) (by kernel_rfl) (by kernel_rfl) (.cons (G_cred_In_ok n v_c1 v_n2 _ h54) (.cons (G_cred_Has_ok n v_c1 v_n2 _ h60) (.cons (G_cred_Drop_ok n v_c1 v_n2 _ h68) (.cons (show 0 + 6 ≤ 6 by decide) (.cons (G_cred_Become_ok n v_c1 v_n2 _ h83) (.cons (show 0 + 6 ≤ 6 by decide) (.cons (G_cred_Join_ok n v_c1 v_n2 _ h188) (.cons (show 0 + 6 ≤ 6 by decide) (.cons (G_ringref5_CredErr_ok n v_c1 _ h212) (.cons (show 0 + 6 ≤ 6 by decide) (.cons (G_cred_Check_ok n v_c1 _ h213) (.cons (nf h214) (.cons (nt h263) .nil))))))))))))) (G_ringlaw5_CredSays_C1_ok hF (.s (cR (cT (cR (cL (cR (cR (cR (cR (cR (cR (cR (cR (cR (bodyOf Try.f3)))))))))))))) :: .s (cR (cR (cR (cR (cR (cR (cR (cR (cR (cR (bodyOf Try.f3))))))))))) :: []) n v_r47 v_r51 v_r65 v_r71 v_r149 v_r170 _ h288 ?_)
      cases v_o228 with
      | x0 v_z229 =>
        try dsimp only at h
        obtain rfl := Option.some.inj h
        exact pend_sound TTok mix 2 (hs := []) (by kernel_rfl) (by kernel_rfl) (by kernel_rfl) .nil
  · rw [if_neg h214] at h
    obtain rfl := Option.some.inj h
    exact pend_sound TTok mix 24 (hs := [.c, .r (.tup [eB v_r47.1, (eI .i64) v_r47.2]), .c, .r (.tup [eB v_r51.1, (eI .i64) v_r51.2]), .c, .r (.tup [eS_api_Cred v_r65.1, (eI .i64) v_r65.2]), .c, .c, .r (.tup [eS_api_Cred v_r71.1, (eI .i64) v_r71.2]), .c, .c, .r (.tup [eS_api_Cred v_r149.1, (eI .i64) v_r149.2]), .c, .c, .r ((eI .i64) v_r170), .c, .c, .r ((eI .i64) v_r171), .t true]) (by kernel_rfl) (by kernel_rfl) (by kernel_rfl) (.cons (G_cred_In_ok n v_c1 v_n2 _ h54) (.cons (G_cred_Has_ok n v_c1 v_n2 _ h60) (.cons (G_cred_Drop_ok n v_c1 v_n2 _ h68) (.cons (show 0 + 6 ≤ 6 by decide) (.cons (G_cred_Become_ok n v_c1 v_n2 _ h83) (.cons (show 0 + 6 ≤ 6 by decide) (.cons (G_cred_Join_ok n v_c1 v_n2 _ h188) (.cons (show 0 + 6 ≤ 6 by decide) (.cons (G_ringref5_CredErr_ok n v_c1 _ h212) (.cons (show 0 + 6 ≤ 6 by decide) (.cons (G_cred_Check_ok n v_c1 _ h213) (.cons (nt h214) .nil))))))))))))
def okS_api_Cred (x : S_api_Cred) : Prop := (fun a => (Lit.int .i64 a).wf = true) x.fUser ∧ (fun a => (Lit.int .i64 a).wf = true) x.fGroup ∧ (okL 8 (fun a => (Lit.int .i64 a).wf = true)) x.fMore ∧ (fun a => (Lit.int .i64 a).wf = true) x.fCaps ∧ (fun a => (Lit.int .i64 a).wf = true) x.fLevel ∧ (fun a => (Lit.int .i64 a).wf = true) x.fKind ∧ True
theorem brS_api_Cred : Br (.pair (.int .i64) (.pair (.int .i64) (.pair (.slice 8 (.int .i64)) (.pair (.int .i64) (.pair (.int .i64) (.pair (.int .i64) .unit)))))) (fun x : S_api_Cred => [.v (.int .i64 x.fUser), .v (.int .i64 x.fGroup), .sl (x.fMore.map (eI .i64)), .v (.int .i64 x.fCaps), .v (.int .i64 x.fLevel), .v (.int .i64 x.fKind)]) okS_api_Cred := br_map (br_pair (br_int .i64) (br_pair (br_int .i64) (br_pair (br_slice (f := (eI .i64)) (ok := (fun a => (Lit.int .i64 a).wf = true)) (br_int .i64) (fun _ => rfl) (by decide)) (br_pair (br_int .i64) (br_pair (br_int .i64) (br_pair (br_int .i64) br_unit)))))) (fun p => S_api_Cred.mk p.1 p.2.1 p.2.2.1 p.2.2.2.1 p.2.2.2.2.1 p.2.2.2.2.2.1) (fun p h => ⟨rfl, h⟩)
theorem CredSays_walk (H : ∀ (a0 : S_api_Cred) (a1 : Int), okS_api_Cred a0 → (fun a => (Lit.int .i64 a).wf = true) a1 → ∃ n, G_ringlaw5_CredSays n a0 a1 = some true) (w : World) (v0 : Value) (v1 : Value) (h0 : rep.Arg w (.pair (.int .i64) (.pair (.int .i64) (.pair (.slice 8 (.int .i64)) (.pair (.int .i64) (.pair (.int .i64) (.pair (.int .i64) .unit)))))) v0) (h1 : rep.Arg w (.int .i64) v1) : Calls Try.prog 3 #[v0, v1] w (help.Ret (.bool true) w) := by
  obtain ⟨a0, o0, r0⟩ := arg_agg brS_api_Cred (by rfl) h0
  obtain ⟨a1, o1, r1⟩ := arg_one (br_int .i64) (by rfl) h1
  obtain ⟨n, hn⟩ := H a0 a1 o0 o1
  exact walk_of (G_ringlaw5_CredSays_ok n a0 a1 true hn) (RT_cons r0 (RT_cons r1 RT_nil))
/- FRAME CredSays; ringhall/ringlaw5.CredSays; (.pair (.int .i64) (.pair (.int .i64) (.pair (.slice 8 (.int .i64)) (.pair (.int .i64) (.pair (.int .i64) (.pair (.int .i64) .unit)))))) | (.int .i64); .agg #[.int .i64 0, .int .i64 0, .slice none 0 0, .int .i64 0, .int .i64 0, .int .i64 0] | .int .i64 0 -/
end Go.Proofs.Ytjjjaakefnnbpaa.pv
