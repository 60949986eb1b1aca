/- What the functions compute (part 2): written by gen.py. -/
import Derived.Test.YtnmpnljjaoddhaaGuModeSaysP1
set_option maxRecDepth 100000
set_option linter.all false
namespace Go.Proofs.Ytnmpnljjaoddhaa.pv
open Go.RowKit
def G_ringlaw5_ModeSays_C20 (n : Nat) (v_r138 : (S_api_Stat × Int)) (v_r164 : (S_api_Stat × Int)) (v_z392 : Int) : Option G_ringlaw5_ModeSays_C20_R :=
  if v_r138.2 = 1 then
   if (eqRes .eql (eqS_api_Stat v_r138.1 (S_api_Stat.mk 0 0 0 0 0 0))) = true then
    if v_r164.2 = v_z392 then
     some (.x0 (eqRes .eql (eqS_api_Stat v_r164.1 (S_api_Stat.mk 0 0 0 0 0 0))))
    else
     some (.x0 false)
   else
    some (.x0 false)
  else
   some (.x0 false)
theorem G_ringlaw5_ModeSays_C20_ok {Fi : Ex → PS → Prop} (hF : KC 198 Fi) (ks : List Fr) (n : Nat) (v_r138 : (S_api_Stat × Int)) (v_r164 : (S_api_Stat × Int)) (v_z392 : Int)  (o : G_ringlaw5_ModeSays_C20_R) (h : G_ringlaw5_ModeSays_C20 n v_r138 v_r164 v_z392 = some o) (q : RunE Try.prog 198 Fi ks (G_ringlaw5_ModeSays_C20_ex o) (G_ringlaw5_ModeSays_C20_st v_r138 v_r164 v_z392 o)) : RunE Try.prog 198 Fi (.s (cL (cR (cR (cR (cR (cR (cR (cR (cR (cR (cR (cR (cR (cR (cR (cR (cR (cR (cR (bodyOf Try.f4)))))))))))))))))))) :: ks) .normal (G_ringlaw5_ModeSays_C20_hd v_r138 v_r164 v_z392) := by
  unfold G_ringlaw5_ModeSays_C20 at h
  by_cases h510 : v_r138.2 = 1
  · rw [if_pos h510] at h
    by_cases h511 : (eqRes .eql (eqS_api_Stat v_r138.1 (S_api_Stat.mk 0 0 0 0 0 0))) = true
    · rw [if_pos h511] at h
      by_cases h512 : v_r164.2 = v_z392
      · rw [if_pos h512] at h
        cases h
        exact pkk_sound TTok mix hF 1 (hs := [.t true, .c, .c, .c, .c, .q (eqS_api_Stat v_r138.1 (S_api_Stat.mk 0 0 0 0 0 0)), .t true, .c, .c, .t true, .c, .c, .c, .c, .q (eqS_api_Stat v_r164.1 (S_api_Stat.mk 0 0 0 0 0 0))]) (ts := []) (s := []) (l := [10]) (by kernel_rfl) (by kernel_rfl) (.cons (bt h510) (.cons (eqS_api_Stat_ok v_r138.1 (S_api_Stat.mk 0 0 0 0 0 0)) (.cons h511 (.cons (bt h512) (.cons (eqS_api_Stat_ok v_r164.1 (S_api_Stat.mk 0 0 0 0 0 0)) .nil))))) q
      · rw [if_neg h512] at h
        cases h
        exact pkk_sound TTok mix hF 1 (hs := [.t true, .c, .c, .c, .c, .q (eqS_api_Stat v_r138.1 (S_api_Stat.mk 0 0 0 0 0 0)), .t true, .c, .c, .t false, .c, .c]) (ts := []) (s := []) (l := [10]) (by kernel_rfl) (by kernel_rfl) (.cons (bt h510) (.cons (eqS_api_Stat_ok v_r138.1 (S_api_Stat.mk 0 0 0 0 0 0)) (.cons h511 (.cons (bf h512) .nil)))) q
    · rw [if_neg h511] at h
      cases h
      exact pkk_sound TTok mix hF 1 (hs := [.t true, .c, .c, .c, .c, .q (eqS_api_Stat v_r138.1 (S_api_Stat.mk 0 0 0 0 0 0)), .t false, .c, .c, .c, .c, .c]) (ts := []) (s := []) (l := [10]) (by kernel_rfl) (by kernel_rfl) (.cons (bt h510) (.cons (eqS_api_Stat_ok v_r138.1 (S_api_Stat.mk 0 0 0 0 0 0)) (.cons (vf h511) .nil))) q
  · rw [if_neg h510] at h
    cases h
    exact pkk_sound TTok mix hF 1 (hs := [.t false, .c, .c, .c, .c, .c, .c, .c, .c]) (ts := []) (s := []) (l := [10]) (by kernel_rfl) (by kernel_rfl) (.cons (bf h510) .nil) q
inductive G_ringlaw5_ModeSays_C21_R where
  | x0 (v_x399 : Bool)
def G_ringlaw5_ModeSays_C21_ex : G_ringlaw5_ModeSays_C21_R → Ex
  | .x0 _ => .normal
def G_ringlaw5_ModeSays_C21_st (v_r138 : (S_api_Stat × Int)) (v_r164 : (S_api_Stat × Int)) (v_z392 : Int) (v_s1 : S_api_Stat) (v_n4 : Int) (v_m5 : Int) : G_ringlaw5_ModeSays_C21_R → PS
  | .x0 v_x399 => ⟨[dd, dd, dd, dd, dd, dd, dd, dd, dd, dd, .d (.v (.bool v_x399)), dd, dd, dd, dd, dd, dd, dd, dd, dd, dd, dd, dd, dd, dd, dd, dd, dd, dd, dd, dd, dd, dd, dd, dd, dd, dd, dd, dd, dd, dd, dd, dd, dd, dd, dd, dd, dd, dd, dd, dd, dd, dd, dd, dd, dd, dd, dd, dd, dd, dd, dd, dd, dd, dd, dd, dd, dd, dd, dd, dd, dd, dd, dd, dd, dd, dd, dd, dd, dd, dd, dd, dd, dd, dd, dd, dd, dd, dd, dd, dd, dd, dd, dd, dd, dd, dd, dd, dd, dd, dd, dd, dd, dd, dd, dd, dd, dd, dd, dd, dd, dd, dd, dd, dd, dd, dd, dd, dd, dd, dd, dd, dd, dd, dd, dd, dd, dd, dd, dd, dd, dd, dd, dd, dd, dd, dd, dd, dd, dd, dd, dd, dd, dd, dd, dd, dd, dd, dd, dd, dd, dd, dd, dd, dd, dd, dd, dd, dd, dd, dd, dd, dd, dd, dd, dd, dd, dd, dd, dd, dd, dd, dd, dd, dd, dd, dd, dd, dd, dd, dd, dd, dd, dd, dd, dd, dd, dd, dd, dd, dd, dd, dd, dd, dd, dd, dd, dd], []⟩
def G_ringlaw5_ModeSays_C21_hd (v_r138 : (S_api_Stat × Int)) (v_r164 : (S_api_Stat × Int)) (v_z392 : Int) (v_s1 : S_api_Stat) (v_n4 : Int) (v_m5 : Int)  : PS := ⟨[dd, dd, dd, dd, dd, dd, dd, dd, dd, dd, dd, dd, dd, .ref 0 0, .d (.v (.int .i64 v_r138.2)), .ref 1 0, .d (.v (.int .i64 v_r164.2)), dd, .ref 2 0, .ref 3 0, dd, .d (.v (.int .i64 1)), .d (.v (.int .i64 v_z392)), dd, dd, dd, dd, dd, dd, dd, dd, dd, dd, dd, dd, dd, dd, dd, dd, dd, dd, dd, dd, dd, dd, dd, dd, dd, dd, dd, dd, dd, dd, dd, dd, dd, dd, dd, dd, dd, dd, dd, dd, dd, dd, dd, dd, dd, dd, dd, dd, dd, dd, dd, dd, dd, dd, dd, dd, dd, dd, dd, dd, dd, dd, dd, dd, dd, dd, dd, dd, dd, dd, dd, dd, dd, dd, dd, dd, dd, dd, dd, dd, dd, dd, dd, dd, dd, dd, dd, dd, dd, dd, dd, dd, dd, dd, dd, dd, dd, dd, dd, dd, dd, dd, dd, dd, dd, dd, dd, dd, dd, dd, dd, dd, dd, dd, dd, dd, dd, dd, dd, dd, dd, dd, dd, dd, dd, dd, dd, dd, dd, dd, dd, dd, dd, dd, dd, dd, dd, dd, dd, dd, dd, dd, dd, dd, dd, dd, dd, dd, dd, dd, dd, dd, dd, dd, dd, dd, dd, dd, dd, dd, dd, dd, dd, dd, dd, dd, dd, dd, dd, dd, dd, dd, dd, dd, dd], [.box [.d (.v (.int .i64 v_r138.1.fKind)), .d (.v (.int .i64 v_r138.1.fMode)), .d (.v (.int .i64 v_r138.1.fUser)), .d (.v (.int .i64 v_r138.1.fGroup)), .d (.v (.int .i64 v_r138.1.fSize)), .d (.v (.int .i64 v_r138.1.fLinks))], .box [.d (.v (.int .i64 v_r164.1.fKind)), .d (.v (.int .i64 v_r164.1.fMode)), .d (.v (.int .i64 v_r164.1.fUser)), .d (.v (.int .i64 v_r164.1.fGroup)), .d (.v (.int .i64 v_r164.1.fSize)), .d (.v (.int .i64 v_r164.1.fLinks))], .box [.d (.v (.int .i64 0)), .d (.v (.int .i64 0)), .d (.v (.int .i64 0)), .d (.v (.int .i64 0)), .d (.v (.int .i64 0)), .d (.v (.int .i64 0))], .box [.d (.v (.int .i64 v_s1.fKind)), .d (.v (.int .i64 v_s1.fMode)), .d (.v (.int .i64 v_n4)), .d (.v (.int .i64 v_m5)), .d (.v (.int .i64 v_s1.fSize)), .d (.v (.int .i64 v_s1.fLinks))]]⟩
def G_ringlaw5_ModeSays_C21 (n : Nat) (v_r138 : (S_api_Stat × Int)) (v_r164 : (S_api_Stat × Int)) (v_z392 : Int) (v_s1 : S_api_Stat) (v_n4 : Int) (v_m5 : Int) : Option G_ringlaw5_ModeSays_C21_R :=
  if v_r138.2 = 1 then
   if (eqRes .eql (eqS_api_Stat v_r138.1 (S_api_Stat.mk 0 0 0 0 0 0))) = true then
    if v_r164.2 = v_z392 then
     some (.x0 (eqRes .eql (eqS_api_Stat v_r164.1 (S_api_Stat.mk v_s1.fKind v_s1.fMode v_n4 v_m5 v_s1.fSize v_s1.fLinks))))
    else
     some (.x0 false)
   else
    some (.x0 false)
  else
   some (.x0 false)
theorem G_ringlaw5_ModeSays_C21_ok {Fi : Ex → PS → Prop} (hF : KC 198 Fi) (ks : List Fr) (n : Nat) (v_r138 : (S_api_Stat × Int)) (v_r164 : (S_api_Stat × Int)) (v_z392 : Int) (v_s1 : S_api_Stat) (v_n4 : Int) (v_m5 : Int)  (o : G_ringlaw5_ModeSays_C21_R) (h : G_ringlaw5_ModeSays_C21 n v_r138 v_r164 v_z392 v_s1 v_n4 v_m5 = some o) (q : RunE Try.prog 198 Fi ks (G_ringlaw5_ModeSays_C21_ex o) (G_ringlaw5_ModeSays_C21_st v_r138 v_r164 v_z392 v_s1 v_n4 v_m5 o)) : RunE Try.prog 198 Fi (.s (cL (cR (cR (cR (cR (cR (cR (cR (cR (cR (cR (cR (cR (cR (cR (cR (cR (cR (cR (bodyOf Try.f4)))))))))))))))))))) :: ks) .normal (G_ringlaw5_ModeSays_C21_hd v_r138 v_r164 v_z392 v_s1 v_n4 v_m5) := by
  unfold G_ringlaw5_ModeSays_C21 at h
  by_cases h517 : v_r138.2 = 1
  · rw [if_pos h517] at h
    by_cases h518 : (eqRes .eql (eqS_api_Stat v_r138.1 (S_api_Stat.mk 0 0 0 0 0 0))) = true
    · rw [if_pos h518] at h
      by_cases h519 : v_r164.2 = v_z392
      · rw [if_pos h519] at h
        cases h
        exact pkk_sound TTok mix hF 1 (hs := [.t true, .c, .c, .c, .c, .q (eqS_api_Stat v_r138.1 (S_api_Stat.mk 0 0 0 0 0 0)), .t true, .c, .c, .t true, .c, .c, .c, .c, .q (eqS_api_Stat v_r164.1 (S_api_Stat.mk v_s1.fKind v_s1.fMode v_n4 v_m5 v_s1.fSize v_s1.fLinks))]) (ts := []) (s := []) (l := [10]) (by kernel_rfl) (by kernel_rfl) (.cons (bt h517) (.cons (eqS_api_Stat_ok v_r138.1 (S_api_Stat.mk 0 0 0 0 0 0)) (.cons h518 (.cons (bt h519) (.cons (eqS_api_Stat_ok v_r164.1 (S_api_Stat.mk v_s1.fKind v_s1.fMode v_n4 v_m5 v_s1.fSize v_s1.fLinks)) .nil))))) q
      · rw [if_neg h519] at h
        cases h
        exact pkk_sound TTok mix hF 1 (hs := [.t true, .c, .c, .c, .c, .q (eqS_api_Stat v_r138.1 (S_api_Stat.mk 0 0 0 0 0 0)), .t true, .c, .c, .t false, .c, .c]) (ts := []) (s := []) (l := [10]) (by kernel_rfl) (by kernel_rfl) (.cons (bt h517) (.cons (eqS_api_Stat_ok v_r138.1 (S_api_Stat.mk 0 0 0 0 0 0)) (.cons h518 (.cons (bf h519) .nil)))) q
    · rw [if_neg h518] at h
      cases h
      exact pkk_sound TTok mix hF 1 (hs := [.t true, .c, .c, .c, .c, .q (eqS_api_Stat v_r138.1 (S_api_Stat.mk 0 0 0 0 0 0)), .t false, .c, .c, .c, .c, .c]) (ts := []) (s := []) (l := [10]) (by kernel_rfl) (by kernel_rfl) (.cons (bt h517) (.cons (eqS_api_Stat_ok v_r138.1 (S_api_Stat.mk 0 0 0 0 0 0)) (.cons (vf h518) .nil))) q
  · rw [if_neg h517] at h
    cases h
    exact pkk_sound TTok mix hF 1 (hs := [.t false, .c, .c, .c, .c, .c, .c, .c, .c]) (ts := []) (s := []) (l := [10]) (by kernel_rfl) (by kernel_rfl) (.cons (bf h517) .nil) q
inductive G_ringlaw5_ModeSays_C22_R where
  | x0 (v_wantS405 : Int)
def G_ringlaw5_ModeSays_C22_ex : G_ringlaw5_ModeSays_C22_R → Ex
  | .x0 _ => .normal
def G_ringlaw5_ModeSays_C22_st (v_n4 : Int) (v_m5 : Int) (v_r138 : (S_api_Stat × Int)) (v_r164 : (S_api_Stat × Int)) (v_c2 : S_api_Cred) (v_s1 : S_api_Stat) : G_ringlaw5_ModeSays_C22_R → PS
  | .x0 v_wantS405 => ⟨[dd, dd, dd, .d (.v (.int .i64 v_n4)), .d (.v (.int .i64 v_m5)), .ref 0 0, .ref 1 0, dd, dd, dd, dd, dd, dd, .ref 2 0, .d (.v (.int .i64 v_r138.2)), .ref 3 0, .d (.v (.int .i64 v_r164.2)), dd, .ref 4 0, .ref 5 0, .d (.v (.bool ((remI (quoI .i64 v_c2.fCaps 4) 2) == 1))), .d (.v (.int .i64 v_wantS405)), .d (.v (.int .i64 0)), dd, dd, dd, dd, dd, dd, dd, dd, dd, dd, dd, dd, dd, dd, dd, dd, dd, dd, dd, dd, dd, dd, dd, dd, dd, dd, dd, dd, dd, dd, dd, dd, dd, dd, dd, dd, dd, dd, dd, dd, dd, dd, dd, dd, dd, dd, dd, dd, dd, dd, dd, dd, dd, dd, dd, dd, dd, dd, dd, dd, dd, dd, dd, dd, dd, dd, dd, dd, dd, dd, dd, dd, dd, dd, dd, dd, dd, dd, dd, dd, dd, dd, dd, dd, dd, dd, dd, dd, dd, dd, dd, dd, dd, dd, dd, dd, dd, dd, dd, dd, dd, dd, dd, dd, dd, dd, dd, dd, dd, dd, dd, dd, dd, dd, dd, dd, dd, dd, dd, dd, dd, dd, dd, dd, dd, dd, dd, dd, dd, dd, dd, dd, dd, dd, dd, dd, dd, dd, dd, dd, dd, dd, dd, dd, dd, dd, dd, dd, dd, dd, dd, dd, dd, dd, dd, dd, dd, dd, dd, dd, dd, dd, dd, dd, dd, dd, dd, dd, dd, dd, dd, dd, dd, dd, dd], [.box [.d (.v (.int .i64 v_s1.fKind)), .d (.v (.int .i64 v_s1.fMode)), .d (.v (.int .i64 v_s1.fUser)), .d (.v (.int .i64 v_s1.fGroup)), .d (.v (.int .i64 v_s1.fSize)), .d (.v (.int .i64 v_s1.fLinks))], .box [.d (.v (.int .i64 v_c2.fUser)), .d (.v (.int .i64 v_c2.fGroup)), .d (.sl (v_c2.fMore.map (eI .i64))), .d (.v (.int .i64 v_c2.fCaps)), .d (.v (.int .i64 v_c2.fLevel)), .d (.v (.int .i64 v_c2.fKind))], .box [.d (.v (.int .i64 v_r138.1.fKind)), .d (.v (.int .i64 v_r138.1.fMode)), .d (.v (.int .i64 v_r138.1.fUser)), .d (.v (.int .i64 v_r138.1.fGroup)), .d (.v (.int .i64 v_r138.1.fSize)), .d (.v (.int .i64 v_r138.1.fLinks))], .box [.d (.v (.int .i64 v_r164.1.fKind)), .d (.v (.int .i64 v_r164.1.fMode)), .d (.v (.int .i64 v_r164.1.fUser)), .d (.v (.int .i64 v_r164.1.fGroup)), .d (.v (.int .i64 v_r164.1.fSize)), .d (.v (.int .i64 v_r164.1.fLinks))], .box [.d (.v (.int .i64 v_s1.fKind)), .d (.v (.int .i64 v_n4)), .d (.v (.int .i64 v_s1.fUser)), .d (.v (.int .i64 v_s1.fGroup)), .d (.v (.int .i64 v_s1.fSize)), .d (.v (.int .i64 v_s1.fLinks))], .box [.d (.v (.int .i64 v_s1.fKind)), .d (.v (.int .i64 v_s1.fMode)), .d (.v (.int .i64 v_n4)), .d (.v (.int .i64 v_m5)), .d (.v (.int .i64 v_s1.fSize)), .d (.v (.int .i64 v_s1.fLinks))]]⟩
def G_ringlaw5_ModeSays_C22_hd (v_n4 : Int) (v_m5 : Int) (v_r138 : (S_api_Stat × Int)) (v_r164 : (S_api_Stat × Int)) (v_c2 : S_api_Cred) (v_s1 : S_api_Stat)  : PS := ⟨[dd, dd, dd, .d (.v (.int .i64 v_n4)), .d (.v (.int .i64 v_m5)), .ref 0 0, .ref 1 0, dd, dd, dd, dd, dd, dd, .ref 2 0, .d (.v (.int .i64 v_r138.2)), .ref 3 0, .d (.v (.int .i64 v_r164.2)), dd, .ref 4 0, .ref 5 0, .d (.v (.bool ((remI (quoI .i64 v_c2.fCaps 4) 2) == 1))), .d (.v (.int .i64 0)), .d (.v (.int .i64 0)), dd, dd, dd, dd, dd, dd, dd, dd, dd, dd, dd, dd, dd, dd, dd, dd, dd, dd, dd, dd, dd, dd, dd, dd, dd, dd, dd, dd, dd, dd, dd, dd, dd, dd, dd, dd, dd, dd, dd, dd, dd, dd, dd, dd, dd, dd, dd, dd, dd, dd, dd, dd, dd, dd, dd, dd, dd, dd, dd, dd, dd, dd, dd, dd, dd, dd, dd, dd, dd, dd, dd, dd, dd, dd, dd, dd, dd, dd, dd, dd, dd, dd, dd, dd, dd, dd, dd, dd, dd, dd, dd, dd, dd, dd, dd, dd, dd, dd, dd, dd, dd, dd, dd, .d (.v (.bool (decide (v_n4 > 511)))), dd, dd, dd, dd, dd, dd, dd, dd, dd, dd, dd, dd, dd, dd, dd, dd, dd, dd, dd, dd, dd, dd, dd, dd, dd, dd, dd, dd, dd, dd, dd, dd, dd, dd, dd, dd, dd, dd, dd, dd, dd, dd, dd, dd, dd, dd, dd, dd, dd, dd, dd, dd, dd, dd, dd, dd, dd, dd, dd, dd, dd, dd, dd, dd, dd, dd, dd, dd, dd, dd, dd], [.box [.d (.v (.int .i64 v_s1.fKind)), .d (.v (.int .i64 v_s1.fMode)), .d (.v (.int .i64 v_s1.fUser)), .d (.v (.int .i64 v_s1.fGroup)), .d (.v (.int .i64 v_s1.fSize)), .d (.v (.int .i64 v_s1.fLinks))], .box [.d (.v (.int .i64 v_c2.fUser)), .d (.v (.int .i64 v_c2.fGroup)), .d (.sl (v_c2.fMore.map (eI .i64))), .d (.v (.int .i64 v_c2.fCaps)), .d (.v (.int .i64 v_c2.fLevel)), .d (.v (.int .i64 v_c2.fKind))], .box [.d (.v (.int .i64 v_r138.1.fKind)), .d (.v (.int .i64 v_r138.1.fMode)), .d (.v (.int .i64 v_r138.1.fUser)), .d (.v (.int .i64 v_r138.1.fGroup)), .d (.v (.int .i64 v_r138.1.fSize)), .d (.v (.int .i64 v_r138.1.fLinks))], .box [.d (.v (.int .i64 v_r164.1.fKind)), .d (.v (.int .i64 v_r164.1.fMode)), .d (.v (.int .i64 v_r164.1.fUser)), .d (.v (.int .i64 v_r164.1.fGroup)), .d (.v (.int .i64 v_r164.1.fSize)), .d (.v (.int .i64 v_r164.1.fLinks))], .box [.d (.v (.int .i64 v_s1.fKind)), .d (.v (.int .i64 v_n4)), .d (.v (.int .i64 v_s1.fUser)), .d (.v (.int .i64 v_s1.fGroup)), .d (.v (.int .i64 v_s1.fSize)), .d (.v (.int .i64 v_s1.fLinks))], .box [.d (.v (.int .i64 v_s1.fKind)), .d (.v (.int .i64 v_s1.fMode)), .d (.v (.int .i64 v_n4)), .d (.v (.int .i64 v_m5)), .d (.v (.int .i64 v_s1.fSize)), .d (.v (.int .i64 v_s1.fLinks))]]⟩
def G_ringlaw5_ModeSays_C22 (n : Nat) (v_n4 : Int) (v_m5 : Int) (v_r138 : (S_api_Stat × Int)) (v_r164 : (S_api_Stat × Int)) (v_c2 : S_api_Cred) (v_s1 : S_api_Stat) : Option G_ringlaw5_ModeSays_C22_R :=
  if v_n4 > 511 then
   some (.x0 1)
  else
   if (remI (quoI .i64 v_c2.fCaps 4) 2) = 1 then
    some (.x0 0)
   else
    if v_c2.fUser = v_s1.fUser then
     some (.x0 0)
    else
     some (.x0 7)
theorem G_ringlaw5_ModeSays_C22_ok {Fi : Ex → PS → Prop} (hF : KC 198 Fi) (ks : List Fr) (n : Nat) (v_n4 : Int) (v_m5 : Int) (v_r138 : (S_api_Stat × Int)) (v_r164 : (S_api_Stat × Int)) (v_c2 : S_api_Cred) (v_s1 : S_api_Stat)  (o : G_ringlaw5_ModeSays_C22_R) (h : G_ringlaw5_ModeSays_C22 n v_n4 v_m5 v_r138 v_r164 v_c2 v_s1 = some o) (q : RunE Try.prog 198 Fi ks (G_ringlaw5_ModeSays_C22_ex o) (G_ringlaw5_ModeSays_C22_st v_n4 v_m5 v_r138 v_r164 v_c2 v_s1 o)) : RunE Try.prog 198 Fi (.s (cR (cL (cR (cR (cR (cR (cR (cR (cR (cR (cR (cR (cR (cR (cR (cR (bodyOf Try.f4))))))))))))))))) :: ks) .normal (G_ringlaw5_ModeSays_C22_hd v_n4 v_m5 v_r138 v_r164 v_c2 v_s1) := by
  unfold G_ringlaw5_ModeSays_C22 at h
  by_cases h525 : v_n4 > 511
  · rw [if_pos h525] at h
    cases h
    exact pkk_sound TTok mix hF 2 (hs := [.t true]) (ts := []) (s := [0, 1, 2, 3, 4, 5]) (l := [3, 4, 5, 6, 13, 14, 15, 16, 18, 19, 20, 21, 22]) (by kernel_rfl) (by kernel_rfl) (.cons (dt h525) .nil) q
  · rw [if_neg h525] at h
    by_cases h527 : (remI (quoI .i64 v_c2.fCaps 4) 2) = 1
    · rw [if_pos h527] at h
      cases h
      exact pkk_sound TTok mix hF 5 (hs := [.t false, .t false, .c, .c, .c, .c, .c]) (ts := []) (s := [0, 1, 2, 3, 4, 5]) (l := [3, 4, 5, 6, 13, 14, 15, 16, 18, 19, 20, 21, 22]) (by kernel_rfl) (by kernel_rfl) (.cons (df h525) (.cons (bnf (bt h527)) .nil)) q
    · rw [if_neg h527] at h
      by_cases h528 : v_c2.fUser = v_s1.fUser
      · rw [if_pos h528] at h
        cases h
        exact pkk_sound TTok mix hF 5 (hs := [.t false, .t true, .c, .c, .c, .c, .c, .c, .t false]) (ts := []) (s := [0, 1, 2, 3, 4, 5]) (l := [3, 4, 5, 6, 13, 14, 15, 16, 18, 19, 20, 21, 22]) (by kernel_rfl) (by kernel_rfl) (.cons (df h525) (.cons (bnt (bf h527)) (.cons (nf h528) .nil))) q
      · rw [if_neg h528] at h
        cases h
        exact pkk_sound TTok mix hF 5 (hs := [.t false, .t true, .c, .c, .c, .c, .c, .c, .t true]) (ts := []) (s := [0, 1, 2, 3, 4, 5]) (l := [3, 4, 5, 6, 13, 14, 15, 16, 18, 19, 20, 21, 22]) (by kernel_rfl) (by kernel_rfl) (.cons (df h525) (.cons (bnt (bf h527)) (.cons (nt h528) .nil))) q
inductive G_ringlaw5_ModeSays_C23_R where
  | x0 (v_x411 : Bool)
def G_ringlaw5_ModeSays_C23_ex : G_ringlaw5_ModeSays_C23_R → Ex
  | .x0 _ => .normal
def G_ringlaw5_ModeSays_C23_st (v_n4 : Int) (v_m5 : Int) (v_r138 : (S_api_Stat × Int)) (v_r164 : (S_api_Stat × Int)) (v_c2 : S_api_Cred) (v_z410 : Int) (v_s1 : S_api_Stat) : G_ringlaw5_ModeSays_C23_R → PS
  | .x0 v_x411 => ⟨[dd, dd, dd, .d (.v (.int .i64 v_n4)), .d (.v (.int .i64 v_m5)), .ref 0 0, .ref 1 0, dd, dd, dd, dd, dd, dd, .ref 2 0, .d (.v (.int .i64 v_r138.2)), .ref 3 0, .d (.v (.int .i64 v_r164.2)), dd, .ref 4 0, .ref 5 0, .d (.v (.bool ((remI (quoI .i64 v_c2.fCaps 4) 2) == 1))), .d (.v (.int .i64 v_z410)), .d (.v (.int .i64 0)), dd, dd, dd, dd, dd, dd, dd, dd, dd, dd, dd, dd, dd, dd, dd, dd, dd, dd, dd, dd, dd, dd, dd, dd, dd, dd, dd, dd, dd, dd, dd, dd, dd, dd, dd, dd, dd, dd, dd, dd, dd, dd, dd, dd, dd, dd, dd, dd, dd, dd, dd, dd, dd, dd, dd, dd, dd, dd, dd, dd, dd, dd, dd, dd, dd, dd, dd, dd, dd, dd, dd, dd, dd, dd, dd, dd, dd, dd, dd, dd, dd, dd, dd, dd, dd, dd, dd, dd, dd, dd, dd, dd, dd, dd, dd, dd, dd, dd, dd, dd, dd, dd, dd, dd, dd, dd, dd, dd, dd, dd, dd, dd, dd, dd, dd, dd, dd, dd, dd, dd, dd, dd, .d (.v (.bool v_x411)), dd, dd, dd, dd, dd, dd, dd, dd, dd, dd, dd, dd, dd, dd, dd, dd, dd, dd, dd, dd, dd, dd, dd, dd, dd, dd, dd, dd, dd, dd, dd, dd, dd, dd, dd, dd, dd, dd, dd, dd, dd, dd, dd, dd, dd, dd, dd, dd, dd, dd, dd, dd], [.box [.d (.v (.int .i64 v_s1.fKind)), .d (.v (.int .i64 v_s1.fMode)), .d (.v (.int .i64 v_s1.fUser)), .d (.v (.int .i64 v_s1.fGroup)), .d (.v (.int .i64 v_s1.fSize)), .d (.v (.int .i64 v_s1.fLinks))], .box [.d (.v (.int .i64 v_c2.fUser)), .d (.v (.int .i64 v_c2.fGroup)), .d (.sl (v_c2.fMore.map (eI .i64))), .d (.v (.int .i64 v_c2.fCaps)), .d (.v (.int .i64 v_c2.fLevel)), .d (.v (.int .i64 v_c2.fKind))], .box [.d (.v (.int .i64 v_r138.1.fKind)), .d (.v (.int .i64 v_r138.1.fMode)), .d (.v (.int .i64 v_r138.1.fUser)), .d (.v (.int .i64 v_r138.1.fGroup)), .d (.v (.int .i64 v_r138.1.fSize)), .d (.v (.int .i64 v_r138.1.fLinks))], .box [.d (.v (.int .i64 v_r164.1.fKind)), .d (.v (.int .i64 v_r164.1.fMode)), .d (.v (.int .i64 v_r164.1.fUser)), .d (.v (.int .i64 v_r164.1.fGroup)), .d (.v (.int .i64 v_r164.1.fSize)), .d (.v (.int .i64 v_r164.1.fLinks))], .box [.d (.v (.int .i64 v_s1.fKind)), .d (.v (.int .i64 v_n4)), .d (.v (.int .i64 v_s1.fUser)), .d (.v (.int .i64 v_s1.fGroup)), .d (.v (.int .i64 v_s1.fSize)), .d (.v (.int .i64 v_s1.fLinks))], .box [.d (.v (.int .i64 v_s1.fKind)), .d (.v (.int .i64 v_s1.fMode)), .d (.v (.int .i64 v_n4)), .d (.v (.int .i64 v_m5)), .d (.v (.int .i64 v_s1.fSize)), .d (.v (.int .i64 v_s1.fLinks))]]⟩
def G_ringlaw5_ModeSays_C23_hd (v_n4 : Int) (v_m5 : Int) (v_r138 : (S_api_Stat × Int)) (v_r164 : (S_api_Stat × Int)) (v_c2 : S_api_Cred) (v_z410 : Int) (v_s1 : S_api_Stat)  : PS := ⟨[dd, dd, dd, .d (.v (.int .i64 v_n4)), .d (.v (.int .i64 v_m5)), .ref 0 0, .ref 1 0, dd, dd, dd, dd, dd, dd, .ref 2 0, .d (.v (.int .i64 v_r138.2)), .ref 3 0, .d (.v (.int .i64 v_r164.2)), dd, .ref 4 0, .ref 5 0, .d (.v (.bool ((remI (quoI .i64 v_c2.fCaps 4) 2) == 1))), .d (.v (.int .i64 v_z410)), .d (.v (.int .i64 0)), dd, dd, dd, dd, dd, dd, dd, dd, dd, dd, dd, dd, dd, dd, dd, dd, dd, dd, dd, dd, dd, dd, dd, dd, dd, dd, dd, dd, dd, dd, dd, dd, dd, dd, dd, dd, dd, dd, dd, dd, dd, dd, dd, dd, dd, dd, dd, dd, dd, dd, dd, dd, dd, dd, dd, dd, dd, dd, dd, dd, dd, dd, dd, dd, dd, dd, dd, dd, dd, dd, dd, dd, dd, dd, dd, dd, dd, dd, dd, dd, dd, dd, dd, dd, dd, dd, dd, dd, dd, dd, dd, dd, dd, dd, dd, dd, dd, dd, dd, dd, dd, dd, dd, dd, dd, dd, dd, dd, dd, dd, dd, dd, dd, dd, dd, dd, dd, dd, dd, dd, dd, dd, dd, dd, dd, dd, dd, dd, dd, dd, dd, dd, dd, dd, dd, dd, dd, dd, dd, dd, dd, dd, dd, dd, dd, dd, dd, dd, dd, dd, dd, dd, dd, dd, dd, dd, dd, dd, dd, dd, dd, dd, dd, dd, dd, dd, dd, dd, dd, dd, dd, dd, dd, dd, dd], [.box [.d (.v (.int .i64 v_s1.fKind)), .d (.v (.int .i64 v_s1.fMode)), .d (.v (.int .i64 v_s1.fUser)), .d (.v (.int .i64 v_s1.fGroup)), .d (.v (.int .i64 v_s1.fSize)), .d (.v (.int .i64 v_s1.fLinks))], .box [.d (.v (.int .i64 v_c2.fUser)), .d (.v (.int .i64 v_c2.fGroup)), .d (.sl (v_c2.fMore.map (eI .i64))), .d (.v (.int .i64 v_c2.fCaps)), .d (.v (.int .i64 v_c2.fLevel)), .d (.v (.int .i64 v_c2.fKind))], .box [.d (.v (.int .i64 v_r138.1.fKind)), .d (.v (.int .i64 v_r138.1.fMode)), .d (.v (.int .i64 v_r138.1.fUser)), .d (.v (.int .i64 v_r138.1.fGroup)), .d (.v (.int .i64 v_r138.1.fSize)), .d (.v (.int .i64 v_r138.1.fLinks))], .box [.d (.v (.int .i64 v_r164.1.fKind)), .d (.v (.int .i64 v_r164.1.fMode)), .d (.v (.int .i64 v_r164.1.fUser)), .d (.v (.int .i64 v_r164.1.fGroup)), .d (.v (.int .i64 v_r164.1.fSize)), .d (.v (.int .i64 v_r164.1.fLinks))], .box [.d (.v (.int .i64 v_s1.fKind)), .d (.v (.int .i64 v_n4)), .d (.v (.int .i64 v_s1.fUser)), .d (.v (.int .i64 v_s1.fGroup)), .d (.v (.int .i64 v_s1.fSize)), .d (.v (.int .i64 v_s1.fLinks))], .box [.d (.v (.int .i64 v_s1.fKind)), .d (.v (.int .i64 v_s1.fMode)), .d (.v (.int .i64 v_n4)), .d (.v (.int .i64 v_m5)), .d (.v (.int .i64 v_s1.fSize)), .d (.v (.int .i64 v_s1.fLinks))]]⟩
def G_ringlaw5_ModeSays_C23 (n : Nat) (v_n4 : Int) (v_m5 : Int) (v_r138 : (S_api_Stat × Int)) (v_r164 : (S_api_Stat × Int)) (v_c2 : S_api_Cred) (v_z410 : Int) (v_s1 : S_api_Stat) : Option G_ringlaw5_ModeSays_C23_R :=
  if (minI v_n4 v_m5) < 0 then
   some (.x0 true)
  else
   some (.x0 (decide ((maxI v_n4 v_m5) > 99)))
theorem G_ringlaw5_ModeSays_C23_ok {Fi : Ex → PS → Prop} (hF : KC 198 Fi) (ks : List Fr) (n : Nat) (v_n4 : Int) (v_m5 : Int) (v_r138 : (S_api_Stat × Int)) (v_r164 : (S_api_Stat × Int)) (v_c2 : S_api_Cred) (v_z410 : Int) (v_s1 : S_api_Stat)  (o : G_ringlaw5_ModeSays_C23_R) (h : G_ringlaw5_ModeSays_C23 n v_n4 v_m5 v_r138 v_r164 v_c2 v_z410 v_s1 = some o) (q : RunE Try.prog 198 Fi ks (G_ringlaw5_ModeSays_C23_ex o) (G_ringlaw5_ModeSays_C23_st v_n4 v_m5 v_r138 v_r164 v_c2 v_z410 v_s1 o)) : RunE Try.prog 198 Fi (.s (cL (cL (cR (cR (cR (cR (cR (cR (cR (cR (cR (cR (cR (cR (cR (cR (cR (bodyOf Try.f4)))))))))))))))))) :: ks) .normal (G_ringlaw5_ModeSays_C23_hd v_n4 v_m5 v_r138 v_r164 v_c2 v_z410 v_s1) := by
  unfold G_ringlaw5_ModeSays_C23 at h
  by_cases h531 : (minI v_n4 v_m5) < 0
  · rw [if_pos h531] at h
    cases h
    exact pkk_sound TTok mix hF 1 (hs := [.t true, .c, .c, .c]) (ts := []) (s := [0, 1, 2, 3, 4, 5]) (l := [3, 4, 5, 6, 13, 14, 15, 16, 18, 19, 20, 21, 22, 145]) (by kernel_rfl) (by kernel_rfl) (.cons (dt h531) .nil) q
  · rw [if_neg h531] at h
    cases h
    exact pkk_sound TTok mix hF 1 (hs := [.t false, .c, .c, .c]) (ts := []) (s := [0, 1, 2, 3, 4, 5]) (l := [3, 4, 5, 6, 13, 14, 15, 16, 18, 19, 20, 21, 22, 145]) (by kernel_rfl) (by kernel_rfl) (.cons (df h531) .nil) q
inductive G_ringlaw5_ModeSays_C24_R where
  | x0 (v_x429 : Bool)
def G_ringlaw5_ModeSays_C24_ex : G_ringlaw5_ModeSays_C24_R → Ex
  | .x0 _ => .normal
def G_ringlaw5_ModeSays_C24_st (v_n4 : Int) (v_m5 : Int) (v_r138 : (S_api_Stat × Int)) (v_r164 : (S_api_Stat × Int)) (v_c2 : S_api_Cred) (v_z410 : Int) (v_s1 : S_api_Stat) : G_ringlaw5_ModeSays_C24_R → PS
  | .x0 v_x429 => ⟨[dd, dd, dd, dd, dd, dd, dd, dd, dd, dd, dd, dd, dd, .ref 0 0, .d (.v (.int .i64 v_r138.2)), .ref 1 0, .d (.v (.int .i64 v_r164.2)), dd, .ref 2 0, .ref 3 0, dd, .d (.v (.int .i64 v_z410)), .d (.v (.int .i64 0)), dd, dd, dd, dd, dd, dd, dd, dd, dd, dd, dd, dd, dd, dd, dd, dd, dd, dd, dd, dd, dd, dd, dd, dd, dd, dd, dd, dd, dd, dd, dd, dd, dd, dd, dd, dd, dd, dd, dd, dd, dd, dd, dd, dd, dd, dd, dd, dd, dd, dd, dd, dd, dd, dd, dd, dd, dd, dd, dd, dd, dd, dd, dd, dd, dd, dd, dd, dd, dd, dd, dd, dd, dd, dd, dd, dd, dd, dd, dd, dd, dd, dd, dd, dd, dd, dd, dd, dd, dd, dd, dd, dd, dd, dd, dd, dd, dd, dd, dd, dd, dd, dd, dd, dd, dd, dd, dd, dd, dd, dd, dd, dd, dd, dd, dd, dd, dd, dd, dd, dd, dd, dd, dd, dd, dd, dd, dd, dd, dd, dd, dd, dd, dd, dd, dd, dd, dd, dd, dd, dd, dd, dd, dd, dd, dd, dd, dd, dd, dd, dd, .d (.v (.bool v_x429)), dd, dd, dd, dd, dd, dd, dd, dd, dd, dd, dd, dd, dd, dd, dd, dd, dd, dd, dd, dd, dd, dd, dd, dd], [.box [.d (.v (.int .i64 v_r138.1.fKind)), .d (.v (.int .i64 v_r138.1.fMode)), .d (.v (.int .i64 v_r138.1.fUser)), .d (.v (.int .i64 v_r138.1.fGroup)), .d (.v (.int .i64 v_r138.1.fSize)), .d (.v (.int .i64 v_r138.1.fLinks))], .box [.d (.v (.int .i64 v_r164.1.fKind)), .d (.v (.int .i64 v_r164.1.fMode)), .d (.v (.int .i64 v_r164.1.fUser)), .d (.v (.int .i64 v_r164.1.fGroup)), .d (.v (.int .i64 v_r164.1.fSize)), .d (.v (.int .i64 v_r164.1.fLinks))], .box [.d (.v (.int .i64 v_s1.fKind)), .d (.v (.int .i64 v_n4)), .d (.v (.int .i64 v_s1.fUser)), .d (.v (.int .i64 v_s1.fGroup)), .d (.v (.int .i64 v_s1.fSize)), .d (.v (.int .i64 v_s1.fLinks))], .box [.d (.v (.int .i64 v_s1.fKind)), .d (.v (.int .i64 v_s1.fMode)), .d (.v (.int .i64 v_n4)), .d (.v (.int .i64 v_m5)), .d (.v (.int .i64 v_s1.fSize)), .d (.v (.int .i64 v_s1.fLinks))]]⟩
def G_ringlaw5_ModeSays_C24_hd (v_n4 : Int) (v_m5 : Int) (v_r138 : (S_api_Stat × Int)) (v_r164 : (S_api_Stat × Int)) (v_c2 : S_api_Cred) (v_z410 : Int) (v_s1 : S_api_Stat)  : PS := ⟨[dd, dd, dd, .d (.v (.int .i64 v_n4)), .d (.v (.int .i64 v_m5)), .ref 0 0, .ref 1 0, dd, dd, dd, dd, dd, dd, .ref 2 0, .d (.v (.int .i64 v_r138.2)), .ref 3 0, .d (.v (.int .i64 v_r164.2)), dd, .ref 4 0, .ref 5 0, .d (.v (.bool ((remI (quoI .i64 v_c2.fCaps 4) 2) == 1))), .d (.v (.int .i64 v_z410)), .d (.v (.int .i64 0)), dd, dd, dd, dd, dd, dd, dd, dd, dd, dd, dd, dd, dd, dd, dd, dd, dd, dd, dd, dd, dd, dd, dd, dd, dd, dd, dd, dd, dd, dd, dd, dd, dd, dd, dd, dd, dd, dd, dd, dd, dd, dd, dd, dd, dd, dd, dd, dd, dd, dd, dd, dd, dd, dd, dd, dd, dd, dd, dd, dd, dd, dd, dd, dd, dd, dd, dd, dd, dd, dd, dd, dd, dd, dd, dd, dd, dd, dd, dd, dd, dd, dd, dd, dd, dd, dd, dd, dd, dd, dd, dd, dd, dd, dd, dd, dd, dd, dd, dd, dd, dd, dd, dd, dd, dd, dd, dd, dd, dd, dd, dd, dd, dd, dd, dd, dd, dd, dd, dd, dd, dd, dd, dd, dd, dd, dd, dd, dd, dd, dd, dd, dd, dd, dd, dd, dd, dd, dd, dd, dd, dd, dd, dd, dd, dd, dd, dd, dd, dd, dd, dd, dd, dd, dd, dd, dd, dd, dd, dd, dd, dd, dd, dd, dd, dd, dd, dd, dd, dd, dd, dd, dd, dd, dd, dd], [.box [.d (.v (.int .i64 v_s1.fKind)), .d (.v (.int .i64 v_s1.fMode)), .d (.v (.int .i64 v_s1.fUser)), .d (.v (.int .i64 v_s1.fGroup)), .d (.v (.int .i64 v_s1.fSize)), .d (.v (.int .i64 v_s1.fLinks))], .box [.d (.v (.int .i64 v_c2.fUser)), .d (.v (.int .i64 v_c2.fGroup)), .d (.sl (v_c2.fMore.map (eI .i64))), .d (.v (.int .i64 v_c2.fCaps)), .d (.v (.int .i64 v_c2.fLevel)), .d (.v (.int .i64 v_c2.fKind))], .box [.d (.v (.int .i64 v_r138.1.fKind)), .d (.v (.int .i64 v_r138.1.fMode)), .d (.v (.int .i64 v_r138.1.fUser)), .d (.v (.int .i64 v_r138.1.fGroup)), .d (.v (.int .i64 v_r138.1.fSize)), .d (.v (.int .i64 v_r138.1.fLinks))], .box [.d (.v (.int .i64 v_r164.1.fKind)), .d (.v (.int .i64 v_r164.1.fMode)), .d (.v (.int .i64 v_r164.1.fUser)), .d (.v (.int .i64 v_r164.1.fGroup)), .d (.v (.int .i64 v_r164.1.fSize)), .d (.v (.int .i64 v_r164.1.fLinks))], .box [.d (.v (.int .i64 v_s1.fKind)), .d (.v (.int .i64 v_n4)), .d (.v (.int .i64 v_s1.fUser)), .d (.v (.int .i64 v_s1.fGroup)), .d (.v (.int .i64 v_s1.fSize)), .d (.v (.int .i64 v_s1.fLinks))], .box [.d (.v (.int .i64 v_s1.fKind)), .d (.v (.int .i64 v_s1.fMode)), .d (.v (.int .i64 v_n4)), .d (.v (.int .i64 v_m5)), .d (.v (.int .i64 v_s1.fSize)), .d (.v (.int .i64 v_s1.fLinks))]]⟩
def G_ringlaw5_ModeSays_C24 (n : Nat) (v_n4 : Int) (v_m5 : Int) (v_r138 : (S_api_Stat × Int)) (v_r164 : (S_api_Stat × Int)) (v_c2 : S_api_Cred) (v_z410 : Int) (v_s1 : S_api_Stat) : Option G_ringlaw5_ModeSays_C24_R :=
  if (remI (quoI .i64 v_c2.fCaps 4) 2) = 1 then
   some (.x0 false)
  else
   if v_c2.fUser = v_s1.fUser then
    if v_n4 = v_s1.fUser then
     if v_m5 = v_s1.fGroup then
      some (.x0 false)
     else
      (G_ringref5_Groups n v_c2).bind fun (v_r431 : ((List Int))) =>
      (G_slices_Contains_int_int n v_r431 v_m5).bind fun (v_r432 : (Bool)) =>
      some (.x0 (!v_r432))
    else
     some (.x0 true)
   else
    some (.x0 true)
theorem G_ringlaw5_ModeSays_C24_ok {Fi : Ex → PS → Prop} (hF : KC 198 Fi) (ks : List Fr) (n : Nat) (v_n4 : Int) (v_m5 : Int) (v_r138 : (S_api_Stat × Int)) (v_r164 : (S_api_Stat × Int)) (v_c2 : S_api_Cred) (v_z410 : Int) (v_s1 : S_api_Stat)  (o : G_ringlaw5_ModeSays_C24_R) (h : G_ringlaw5_ModeSays_C24 n v_n4 v_m5 v_r138 v_r164 v_c2 v_z410 v_s1 = some o) (q : RunE Try.prog 198 Fi ks (G_ringlaw5_ModeSays_C24_ex o) (G_ringlaw5_ModeSays_C24_st v_n4 v_m5 v_r138 v_r164 v_c2 v_z410 v_s1 o)) : RunE Try.prog 198 Fi (.s (cL (cF (cR (cL (cR (cR (cR (cR (cR (cR (cR (cR (cR (cR (cR (cR (cR (cR (cR (bodyOf Try.f4)))))))))))))))))))) :: ks) .normal (G_ringlaw5_ModeSays_C24_hd v_n4 v_m5 v_r138 v_r164 v_c2 v_z410 v_s1) := by
  unfold G_ringlaw5_ModeSays_C24 at h
  by_cases h555 : (remI (quoI .i64 v_c2.fCaps 4) 2) = 1
  · rw [if_pos h555] at h
    cases h
    exact pkk_sound TTok mix hF 1 (hs := [.t false, .c, .c, .c, .c, .c, .c, .c, .c]) (ts := []) (s := [2, 3, 4, 5]) (l := [13, 14, 15, 16, 18, 19, 21, 22, 173]) (by kernel_rfl) (by kernel_rfl) (.cons (bnf (bt h555)) .nil) q
  · rw [if_neg h555] at h
    by_cases h556 : v_c2.fUser = v_s1.fUser
    · rw [if_pos h556] at h
      by_cases h557 : v_n4 = v_s1.fUser
      · rw [if_pos h557] at h
        by_cases h558 : v_m5 = v_s1.fGroup
        · rw [if_pos h558] at h
          cases h
          exact pkk_sound TTok mix hF 1 (hs := [.t true, .c, .c, .c, .c, .c, .c, .c, .t false, .c, .c, .c, .c, .c, .c, .t false, .c, .c, .c, .c, .c, .t false, .c, .c, .c, .c, .c, .c]) (ts := []) (s := [2, 3, 4, 5]) (l := [13, 14, 15, 16, 18, 19, 21, 22, 173]) (by kernel_rfl) (by kernel_rfl) (.cons (bnt (bf h555)) (.cons (nf h556) (.cons (nf h557) (.cons (nf h558) .nil)))) q
        · rw [if_neg h558] at h
          obtain ⟨v_r431, h559, h⟩ := bind_some h
          obtain ⟨v_r432, h560, h⟩ := bind_some h
          cases h
          exact pkk_sound TTok mix hF 1 (hs := [.t true, .c, .c, .c, .c, .c, .c, .c, .t false, .c, .c, .c, .c, .c, .c, .t false, .c, .c, .c, .c, .c, .t true, .c, .c, .r ((eL (eI .i64)) v_r431), .c, .c, .r (eB v_r432), .c, .c, .c]) (ts := []) (s := [2, 3, 4, 5]) (l := [13, 14, 15, 16, 18, 19, 21, 22, 173]) (by kernel_rfl) (by kernel_rfl) (.cons (bnt (bf h555)) (.cons (nf h556) (.cons (nf h557) (.cons (nt h558) (.cons (G_ringref5_Groups_ok n v_c2 _ h559) (.cons (G_slices_Contains_int_int_ok n v_r431 v_m5 _ h560) .nil)))))) q
      · rw [if_neg h557] at h
        cases h
        exact pkk_sound TTok mix hF 1 (hs := [.t true, .c, .c, .c, .c, .c, .c, .c, .t false, .c, .c, .c, .c, .c, .c, .t true, .c, .c, .c, .c, .c, .c]) (ts := []) (s := [2, 3, 4, 5]) (l := [13, 14, 15, 16, 18, 19, 21, 22, 173]) (by kernel_rfl) (by kernel_rfl) (.cons (bnt (bf h555)) (.cons (nf h556) (.cons (nt h557) .nil))) q
    · rw [if_neg h556] at h
      cases h
      exact pkk_sound TTok mix hF 1 (hs := [.t true, .c, .c, .c, .c, .c, .c, .c, .t true, .c, .c, .c, .c, .c, .c, .c, .c, .c, .c, .c, .c]) (ts := []) (s := [2, 3, 4, 5]) (l := [13, 14, 15, 16, 18, 19, 21, 22, 173]) (by kernel_rfl) (by kernel_rfl) (.cons (bnt (bf h555)) (.cons (nt h556) .nil)) q
inductive G_ringlaw5_ModeSays_C25_R where
  | x0 (v_wantO426 : Int)
def G_ringlaw5_ModeSays_C25_ex : G_ringlaw5_ModeSays_C25_R → Ex
  | .x0 _ => .normal
def G_ringlaw5_ModeSays_C25_st (v_n4 : Int) (v_m5 : Int) (v_r138 : (S_api_Stat × Int)) (v_r164 : (S_api_Stat × Int)) (v_c2 : S_api_Cred) (v_z410 : Int) (v_z414 : Bool) (v_s1 : S_api_Stat) : G_ringlaw5_ModeSays_C25_R → PS
  | .x0 v_wantO426 => ⟨[dd, dd, dd, dd, dd, dd, dd, dd, dd, dd, dd, dd, dd, .ref 0 0, .d (.v (.int .i64 v_r138.2)), .ref 1 0, .d (.v (.int .i64 v_r164.2)), dd, .ref 2 0, .ref 3 0, dd, .d (.v (.int .i64 v_z410)), .d (.v (.int .i64 v_wantO426)), dd, dd, dd, dd, dd, dd, dd, dd, dd, dd, dd, dd, dd, dd, dd, dd, dd, dd, dd, dd, dd, dd, dd, dd, dd, dd, dd, dd, dd, dd, dd, dd, dd, dd, dd, dd, dd, dd, dd, dd, dd, dd, dd, dd, dd, dd, dd, dd, dd, dd, dd, dd, dd, dd, dd, dd, dd, dd, dd, dd, dd, dd, dd, dd, dd, dd, dd, dd, dd, dd, dd, dd, dd, dd, dd, dd, dd, dd, dd, dd, dd, dd, dd, dd, dd, dd, dd, dd, dd, dd, dd, dd, dd, dd, dd, dd, dd, dd, dd, dd, dd, dd, dd, dd, dd, dd, dd, dd, dd, dd, dd, dd, dd, dd, dd, dd, dd, dd, dd, dd, dd, dd, dd, dd, dd, dd, dd, dd, dd, dd, dd, dd, dd, dd, dd, dd, dd, dd, dd, dd, dd, dd, dd, dd, dd, dd, dd, dd, dd, dd, dd, dd, dd, dd, dd, dd, dd, dd, dd, dd, dd, dd, dd, dd, dd, dd, dd, dd, dd, dd, dd, dd, dd, dd, dd], [.box [.d (.v (.int .i64 v_r138.1.fKind)), .d (.v (.int .i64 v_r138.1.fMode)), .d (.v (.int .i64 v_r138.1.fUser)), .d (.v (.int .i64 v_r138.1.fGroup)), .d (.v (.int .i64 v_r138.1.fSize)), .d (.v (.int .i64 v_r138.1.fLinks))], .box [.d (.v (.int .i64 v_r164.1.fKind)), .d (.v (.int .i64 v_r164.1.fMode)), .d (.v (.int .i64 v_r164.1.fUser)), .d (.v (.int .i64 v_r164.1.fGroup)), .d (.v (.int .i64 v_r164.1.fSize)), .d (.v (.int .i64 v_r164.1.fLinks))], .box [.d (.v (.int .i64 v_s1.fKind)), .d (.v (.int .i64 v_n4)), .d (.v (.int .i64 v_s1.fUser)), .d (.v (.int .i64 v_s1.fGroup)), .d (.v (.int .i64 v_s1.fSize)), .d (.v (.int .i64 v_s1.fLinks))], .box [.d (.v (.int .i64 v_s1.fKind)), .d (.v (.int .i64 v_s1.fMode)), .d (.v (.int .i64 v_n4)), .d (.v (.int .i64 v_m5)), .d (.v (.int .i64 v_s1.fSize)), .d (.v (.int .i64 v_s1.fLinks))]]⟩
def G_ringlaw5_ModeSays_C25_hd (v_n4 : Int) (v_m5 : Int) (v_r138 : (S_api_Stat × Int)) (v_r164 : (S_api_Stat × Int)) (v_c2 : S_api_Cred) (v_z410 : Int) (v_z414 : Bool) (v_s1 : S_api_Stat)  : PS := ⟨[dd, dd, dd, .d (.v (.int .i64 v_n4)), .d (.v (.int .i64 v_m5)), .ref 0 0, .ref 1 0, dd, dd, dd, dd, dd, dd, .ref 2 0, .d (.v (.int .i64 v_r138.2)), .ref 3 0, .d (.v (.int .i64 v_r164.2)), dd, .ref 4 0, .ref 5 0, .d (.v (.bool ((remI (quoI .i64 v_c2.fCaps 4) 2) == 1))), .d (.v (.int .i64 v_z410)), .d (.v (.int .i64 0)), dd, dd, dd, dd, dd, dd, dd, dd, dd, dd, dd, dd, dd, dd, dd, dd, dd, dd, dd, dd, dd, dd, dd, dd, dd, dd, dd, dd, dd, dd, dd, dd, dd, dd, dd, dd, dd, dd, dd, dd, dd, dd, dd, dd, dd, dd, dd, dd, dd, dd, dd, dd, dd, dd, dd, dd, dd, dd, dd, dd, dd, dd, dd, dd, dd, dd, dd, dd, dd, dd, dd, dd, dd, dd, dd, dd, dd, dd, dd, dd, dd, dd, dd, dd, dd, dd, dd, dd, dd, dd, dd, dd, dd, dd, dd, dd, dd, dd, dd, dd, dd, dd, dd, dd, dd, dd, dd, dd, dd, dd, dd, dd, dd, dd, dd, dd, dd, dd, dd, dd, dd, dd, .d (.v (.bool v_z414)), dd, dd, dd, dd, dd, dd, dd, dd, dd, dd, dd, dd, dd, dd, dd, dd, dd, dd, dd, dd, dd, dd, dd, dd, dd, dd, dd, dd, dd, dd, dd, dd, dd, dd, dd, dd, dd, dd, dd, dd, dd, dd, dd, dd, dd, dd, dd, dd, dd, dd, dd, dd], [.box [.d (.v (.int .i64 v_s1.fKind)), .d (.v (.int .i64 v_s1.fMode)), .d (.v (.int .i64 v_s1.fUser)), .d (.v (.int .i64 v_s1.fGroup)), .d (.v (.int .i64 v_s1.fSize)), .d (.v (.int .i64 v_s1.fLinks))], .box [.d (.v (.int .i64 v_c2.fUser)), .d (.v (.int .i64 v_c2.fGroup)), .d (.sl (v_c2.fMore.map (eI .i64))), .d (.v (.int .i64 v_c2.fCaps)), .d (.v (.int .i64 v_c2.fLevel)), .d (.v (.int .i64 v_c2.fKind))], .box [.d (.v (.int .i64 v_r138.1.fKind)), .d (.v (.int .i64 v_r138.1.fMode)), .d (.v (.int .i64 v_r138.1.fUser)), .d (.v (.int .i64 v_r138.1.fGroup)), .d (.v (.int .i64 v_r138.1.fSize)), .d (.v (.int .i64 v_r138.1.fLinks))], .box [.d (.v (.int .i64 v_r164.1.fKind)), .d (.v (.int .i64 v_r164.1.fMode)), .d (.v (.int .i64 v_r164.1.fUser)), .d (.v (.int .i64 v_r164.1.fGroup)), .d (.v (.int .i64 v_r164.1.fSize)), .d (.v (.int .i64 v_r164.1.fLinks))], .box [.d (.v (.int .i64 v_s1.fKind)), .d (.v (.int .i64 v_n4)), .d (.v (.int .i64 v_s1.fUser)), .d (.v (.int .i64 v_s1.fGroup)), .d (.v (.int .i64 v_s1.fSize)), .d (.v (.int .i64 v_s1.fLinks))], .box [.d (.v (.int .i64 v_s1.fKind)), .d (.v (.int .i64 v_s1.fMode)), .d (.v (.int .i64 v_n4)), .d (.v (.int .i64 v_m5)), .d (.v (.int .i64 v_s1.fSize)), .d (.v (.int .i64 v_s1.fLinks))]]⟩
def G_ringlaw5_ModeSays_C25 (n : Nat) (v_n4 : Int) (v_m5 : Int) (v_r138 : (S_api_Stat × Int)) (v_r164 : (S_api_Stat × Int)) (v_c2 : S_api_Cred) (v_z410 : Int) (v_z414 : Bool) (v_s1 : S_api_Stat) : Option G_ringlaw5_ModeSays_C25_R :=
  if v_z414 = true then
   some (.x0 1)
  else
   (G_ringlaw5_ModeSays_C24 n v_n4 v_m5 v_r138 v_r164 v_c2 v_z410 v_s1).bind fun v_o436 => match v_o436 with
   | .x0 v_z437 =>
     if v_z437 = true then
      some (.x0 7)
     else
      some (.x0 0)
theorem G_ringlaw5_ModeSays_C25_ok {Fi : Ex → PS → Prop} (hF : KC 198 Fi) (ks : List Fr) (n : Nat) (v_n4 : Int) (v_m5 : Int) (v_r138 : (S_api_Stat × Int)) (v_r164 : (S_api_Stat × Int)) (v_c2 : S_api_Cred) (v_z410 : Int) (v_z414 : Bool) (v_s1 : S_api_Stat)  (o : G_ringlaw5_ModeSays_C25_R) (h : G_ringlaw5_ModeSays_C25 n v_n4 v_m5 v_r138 v_r164 v_c2 v_z410 v_z414 v_s1 = some o) (q : RunE Try.prog 198 Fi ks (G_ringlaw5_ModeSays_C25_ex o) (G_ringlaw5_ModeSays_C25_st v_n4 v_m5 v_r138 v_r164 v_c2 v_z410 v_z414 v_s1 o)) : RunE Try.prog 198 Fi (.s (cR (cL (cR (cR (cR (cR (cR (cR (cR (cR (cR (cR (cR (cR (cR (cR (cR (bodyOf Try.f4)))))))))))))))))) :: ks) .normal (G_ringlaw5_ModeSays_C25_hd v_n4 v_m5 v_r138 v_r164 v_c2 v_z410 v_z414 v_s1) := by
  unfold G_ringlaw5_ModeSays_C25 at h
  by_cases h548 : v_z414 = true
  · rw [if_pos h548] at h
    cases h
    exact pkk_sound TTok mix hF 2 (hs := [.t true]) (ts := []) (s := [2, 3, 4, 5]) (l := [13, 14, 15, 16, 18, 19, 21, 22]) (by kernel_rfl) (by kernel_rfl) (.cons h548 .nil) q
  · rw [if_neg h548] at h
    obtain ⟨v_o436, h561, h⟩ := bind_some h
    refine pkk_sound TTok mix hF 2 (hs := [.t false]) (ts := []) (s := [0, 1, 2, 3, 4, 5]) (l := [3, 4, 5, 6, 13, 14, 15, 16, 18, 19, 20, 21, 22]) (by kernel_rfl) (by kernel_rfl) (.cons (vf h548) .nil) (G_ringlaw5_ModeSays_C24_ok hF (.s (cR (cF (cR (cL (cR (cR (cR (cR (cR (cR (cR (cR (cR (cR (cR (cR (cR (cR (cR (bodyOf Try.f4)))))))))))))))))))) :: ks) n v_n4 v_m5 v_r138 v_r164 v_c2 v_z410 v_s1 _ h561 ?_)
    cases v_o436 with
    | x0 v_z437 =>
      dsimp only at h
      by_cases h562 : v_z437 = true
      · rw [if_pos h562] at h
        cases h
        exact pkk_sound TTok mix hF 2 (hs := [.t true]) (ts := []) (s := [0, 1, 2, 3]) (l := [13, 14, 15, 16, 18, 19, 21, 22]) (by kernel_rfl) (by kernel_rfl) (.cons h562 .nil) q
      · rw [if_neg h562] at h
        cases h
        exact pkk_sound TTok mix hF 2 (hs := [.t false]) (ts := []) (s := [0, 1, 2, 3]) (l := [13, 14, 15, 16, 18, 19, 21, 22]) (by kernel_rfl) (by kernel_rfl) (.cons (vf h562) .nil) q
inductive G_ringlaw5_ModeSays_C26_R where
  | x0 (v_x442 : Bool)
def G_ringlaw5_ModeSays_C26_ex : G_ringlaw5_ModeSays_C26_R → Ex
  | .x0 _ => .normal
def G_ringlaw5_ModeSays_C26_st (v_r138 : (S_api_Stat × Int)) (v_r164 : (S_api_Stat × Int)) (v_z410 : Int) (v_z441 : Int) : G_ringlaw5_ModeSays_C26_R → PS
  | .x0 v_x442 => ⟨[dd, dd, dd, dd, dd, dd, dd, dd, dd, dd, .d (.v (.bool v_x442)), dd, dd, dd, dd, dd, dd, dd, dd, dd, dd, dd, dd, dd, dd, dd, dd, dd, dd, dd, dd, dd, dd, dd, dd, dd, dd, dd, dd, dd, dd, dd, dd, dd, dd, dd, dd, dd, dd, dd, dd, dd, dd, dd, dd, dd, dd, dd, dd, dd, dd, dd, dd, dd, dd, dd, dd, dd, dd, dd, dd, dd, dd, dd, dd, dd, dd, dd, dd, dd, dd, dd, dd, dd, dd, dd, dd, dd, dd, dd, dd, dd, dd, dd, dd, dd, dd, dd, dd, dd, dd, dd, dd, dd, dd, dd, dd, dd, dd, dd, dd, dd, dd, dd, dd, dd, dd, dd, dd, dd, dd, dd, dd, dd, dd, dd, dd, dd, dd, dd, dd, dd, dd, dd, dd, dd, dd, dd, dd, dd, dd, dd, dd, dd, dd, dd, dd, dd, dd, dd, dd, dd, dd, dd, dd, dd, dd, dd, dd, dd, dd, dd, dd, dd, dd, dd, dd, dd, dd, dd, dd, dd, dd, dd, dd, dd, dd, dd, dd, dd, dd, dd, dd, dd, dd, dd, dd, dd, dd, dd, dd, dd, dd, dd, dd, dd, dd, dd], []⟩
def G_ringlaw5_ModeSays_C26_hd (v_r138 : (S_api_Stat × Int)) (v_r164 : (S_api_Stat × Int)) (v_z410 : Int) (v_z441 : Int)  : PS := ⟨[dd, dd, dd, dd, dd, dd, dd, dd, dd, dd, dd, dd, dd, .ref 0 0, .d (.v (.int .i64 v_r138.2)), .ref 1 0, .d (.v (.int .i64 v_r164.2)), dd, .ref 2 0, .ref 3 0, dd, .d (.v (.int .i64 v_z410)), .d (.v (.int .i64 v_z441)), dd, dd, dd, dd, dd, dd, dd, dd, dd, dd, dd, dd, dd, dd, dd, dd, dd, dd, dd, dd, dd, dd, dd, dd, dd, dd, dd, dd, dd, dd, dd, dd, dd, dd, dd, dd, dd, dd, dd, dd, dd, dd, dd, dd, dd, dd, dd, dd, dd, dd, dd, dd, dd, dd, dd, dd, dd, dd, dd, dd, dd, dd, dd, dd, dd, dd, dd, dd, dd, dd, dd, dd, dd, dd, dd, dd, dd, dd, dd, dd, dd, dd, dd, dd, dd, dd, dd, dd, dd, dd, dd, dd, dd, dd, dd, dd, dd, dd, dd, dd, dd, dd, dd, dd, dd, dd, dd, dd, dd, dd, dd, dd, dd, dd, dd, dd, dd, dd, dd, dd, dd, dd, dd, dd, dd, dd, dd, dd, dd, dd, dd, dd, dd, dd, dd, dd, dd, dd, dd, dd, dd, dd, dd, dd, dd, dd, dd, dd, dd, dd, dd, dd, dd, dd, dd, dd, dd, dd, dd, dd, dd, dd, dd, dd, dd, dd, dd, dd, dd, dd, dd, dd, dd, dd, dd], [.box [.d (.v (.int .i64 v_r138.1.fKind)), .d (.v (.int .i64 v_r138.1.fMode)), .d (.v (.int .i64 v_r138.1.fUser)), .d (.v (.int .i64 v_r138.1.fGroup)), .d (.v (.int .i64 v_r138.1.fSize)), .d (.v (.int .i64 v_r138.1.fLinks))], .box [.d (.v (.int .i64 v_r164.1.fKind)), .d (.v (.int .i64 v_r164.1.fMode)), .d (.v (.int .i64 v_r164.1.fUser)), .d (.v (.int .i64 v_r164.1.fGroup)), .d (.v (.int .i64 v_r164.1.fSize)), .d (.v (.int .i64 v_r164.1.fLinks))], .box [.d (.v (.int .i64 0)), .d (.v (.int .i64 0)), .d (.v (.int .i64 0)), .d (.v (.int .i64 0)), .d (.v (.int .i64 0)), .d (.v (.int .i64 0))], .box [.d (.v (.int .i64 0)), .d (.v (.int .i64 0)), .d (.v (.int .i64 0)), .d (.v (.int .i64 0)), .d (.v (.int .i64 0)), .d (.v (.int .i64 0))]]⟩
def G_ringlaw5_ModeSays_C26 (n : Nat) (v_r138 : (S_api_Stat × Int)) (v_r164 : (S_api_Stat × Int)) (v_z410 : Int) (v_z441 : Int) : Option G_ringlaw5_ModeSays_C26_R :=
  if v_r138.2 = v_z410 then
   if (eqRes .eql (eqS_api_Stat v_r138.1 (S_api_Stat.mk 0 0 0 0 0 0))) = true then
    if v_r164.2 = v_z441 then
     some (.x0 (eqRes .eql (eqS_api_Stat v_r164.1 (S_api_Stat.mk 0 0 0 0 0 0))))
    else
     some (.x0 false)
   else
    some (.x0 false)
  else
   some (.x0 false)
theorem G_ringlaw5_ModeSays_C26_ok {Fi : Ex → PS → Prop} (hF : KC 198 Fi) (ks : List Fr) (n : Nat) (v_r138 : (S_api_Stat × Int)) (v_r164 : (S_api_Stat × Int)) (v_z410 : Int) (v_z441 : Int)  (o : G_ringlaw5_ModeSays_C26_R) (h : G_ringlaw5_ModeSays_C26 n v_r138 v_r164 v_z410 v_z441 = some o) (q : RunE Try.prog 198 Fi ks (G_ringlaw5_ModeSays_C26_ex o) (G_ringlaw5_ModeSays_C26_st v_r138 v_r164 v_z410 v_z441 o)) : RunE Try.prog 198 Fi (.s (cL (cR (cR (cR (cR (cR (cR (cR (cR (cR (cR (cR (cR (cR (cR (cR (cR (cR (cR (bodyOf Try.f4)))))))))))))))))))) :: ks) .normal (G_ringlaw5_ModeSays_C26_hd v_r138 v_r164 v_z410 v_z441) := by
  unfold G_ringlaw5_ModeSays_C26 at h
  by_cases h569 : v_r138.2 = v_z410
  · rw [if_pos h569] at h
    by_cases h570 : (eqRes .eql (eqS_api_Stat v_r138.1 (S_api_Stat.mk 0 0 0 0 0 0))) = true
    · rw [if_pos h570] at h
      by_cases h571 : v_r164.2 = v_z441
      · rw [if_pos h571] at h
        cases h
        exact pkk_sound TTok mix hF 1 (hs := [.t true, .c, .c, .c, .c, .q (eqS_api_Stat v_r138.1 (S_api_Stat.mk 0 0 0 0 0 0)), .t true, .c, .c, .t true, .c, .c, .c, .c, .q (eqS_api_Stat v_r164.1 (S_api_Stat.mk 0 0 0 0 0 0))]) (ts := []) (s := []) (l := [10]) (by kernel_rfl) (by kernel_rfl) (.cons (bt h569) (.cons (eqS_api_Stat_ok v_r138.1 (S_api_Stat.mk 0 0 0 0 0 0)) (.cons h570 (.cons (bt h571) (.cons (eqS_api_Stat_ok v_r164.1 (S_api_Stat.mk 0 0 0 0 0 0)) .nil))))) q
      · rw [if_neg h571] at h
        cases h
        exact pkk_sound TTok mix hF 1 (hs := [.t true, .c, .c, .c, .c, .q (eqS_api_Stat v_r138.1 (S_api_Stat.mk 0 0 0 0 0 0)), .t true, .c, .c, .t false, .c, .c]) (ts := []) (s := []) (l := [10]) (by kernel_rfl) (by kernel_rfl) (.cons (bt h569) (.cons (eqS_api_Stat_ok v_r138.1 (S_api_Stat.mk 0 0 0 0 0 0)) (.cons h570 (.cons (bf h571) .nil)))) q
    · rw [if_neg h570] at h
      cases h
      exact pkk_sound TTok mix hF 1 (hs := [.t true, .c, .c, .c, .c, .q (eqS_api_Stat v_r138.1 (S_api_Stat.mk 0 0 0 0 0 0)), .t false, .c, .c, .c, .c, .c]) (ts := []) (s := []) (l := [10]) (by kernel_rfl) (by kernel_rfl) (.cons (bt h569) (.cons (eqS_api_Stat_ok v_r138.1 (S_api_Stat.mk 0 0 0 0 0 0)) (.cons (vf h570) .nil))) q
  · rw [if_neg h569] at h
    cases h
    exact pkk_sound TTok mix hF 1 (hs := [.t false, .c, .c, .c, .c, .c, .c, .c, .c]) (ts := []) (s := []) (l := [10]) (by kernel_rfl) (by kernel_rfl) (.cons (bf h569) .nil) q
inductive G_ringlaw5_ModeSays_C27_R where
  | x0 (v_x448 : Bool)
def G_ringlaw5_ModeSays_C27_ex : G_ringlaw5_ModeSays_C27_R → Ex
  | .x0 _ => .normal
def G_ringlaw5_ModeSays_C27_st (v_r138 : (S_api_Stat × Int)) (v_r164 : (S_api_Stat × Int)) (v_z410 : Int) (v_z441 : Int) (v_s1 : S_api_Stat) (v_n4 : Int) (v_m5 : Int) : G_ringlaw5_ModeSays_C27_R → PS
  | .x0 v_x448 => ⟨[dd, dd, dd, dd, dd, dd, dd, dd, dd, dd, .d (.v (.bool v_x448)), dd, dd, dd, dd, dd, dd, dd, dd, dd, dd, dd, dd, dd, dd, dd, dd, dd, dd, dd, dd, dd, dd, dd, dd, dd, dd, dd, dd, dd, dd, dd, dd, dd, dd, dd, dd, dd, dd, dd, dd, dd, dd, dd, dd, dd, dd, dd, dd, dd, dd, dd, dd, dd, dd, dd, dd, dd, dd, dd, dd, dd, dd, dd, dd, dd, dd, dd, dd, dd, dd, dd, dd, dd, dd, dd, dd, dd, dd, dd, dd, dd, dd, dd, dd, dd, dd, dd, dd, dd, dd, dd, dd, dd, dd, dd, dd, dd, dd, dd, dd, dd, dd, dd, dd, dd, dd, dd, dd, dd, dd, dd, dd, dd, dd, dd, dd, dd, dd, dd, dd, dd, dd, dd, dd, dd, dd, dd, dd, dd, dd, dd, dd, dd, dd, dd, dd, dd, dd, dd, dd, dd, dd, dd, dd, dd, dd, dd, dd, dd, dd, dd, dd, dd, dd, dd, dd, dd, dd, dd, dd, dd, dd, dd, dd, dd, dd, dd, dd, dd, dd, dd, dd, dd, dd, dd, dd, dd, dd, dd, dd, dd, dd, dd, dd, dd, dd, dd], []⟩
def G_ringlaw5_ModeSays_C27_hd (v_r138 : (S_api_Stat × Int)) (v_r164 : (S_api_Stat × Int)) (v_z410 : Int) (v_z441 : Int) (v_s1 : S_api_Stat) (v_n4 : Int) (v_m5 : Int)  : PS := ⟨[dd, dd, dd, dd, dd, dd, dd, dd, dd, dd, dd, dd, dd, .ref 0 0, .d (.v (.int .i64 v_r138.2)), .ref 1 0, .d (.v (.int .i64 v_r164.2)), dd, .ref 2 0, .ref 3 0, dd, .d (.v (.int .i64 v_z410)), .d (.v (.int .i64 v_z441)), dd, dd, dd, dd, dd, dd, dd, dd, dd, dd, dd, dd, dd, dd, dd, dd, dd, dd, dd, dd, dd, dd, dd, dd, dd, dd, dd, dd, dd, dd, dd, dd, dd, dd, dd, dd, dd, dd, dd, dd, dd, dd, dd, dd, dd, dd, dd, dd, dd, dd, dd, dd, dd, dd, dd, dd, dd, dd, dd, dd, dd, dd, dd, dd, dd, dd, dd, dd, dd, dd, dd, dd, dd, dd, dd, dd, dd, dd, dd, dd, dd, dd, dd, dd, dd, dd, dd, dd, dd, dd, dd, dd, dd, dd, dd, dd, dd, dd, dd, dd, dd, dd, dd, dd, dd, dd, dd, dd, dd, dd, dd, dd, dd, dd, dd, dd, dd, dd, dd, dd, dd, dd, dd, dd, dd, dd, dd, dd, dd, dd, dd, dd, dd, dd, dd, dd, dd, dd, dd, dd, dd, dd, dd, dd, dd, dd, dd, dd, dd, dd, dd, dd, dd, dd, dd, dd, dd, dd, dd, dd, dd, dd, dd, dd, dd, dd, dd, dd, dd, dd, dd, dd, dd, dd, dd], [.box [.d (.v (.int .i64 v_r138.1.fKind)), .d (.v (.int .i64 v_r138.1.fMode)), .d (.v (.int .i64 v_r138.1.fUser)), .d (.v (.int .i64 v_r138.1.fGroup)), .d (.v (.int .i64 v_r138.1.fSize)), .d (.v (.int .i64 v_r138.1.fLinks))], .box [.d (.v (.int .i64 v_r164.1.fKind)), .d (.v (.int .i64 v_r164.1.fMode)), .d (.v (.int .i64 v_r164.1.fUser)), .d (.v (.int .i64 v_r164.1.fGroup)), .d (.v (.int .i64 v_r164.1.fSize)), .d (.v (.int .i64 v_r164.1.fLinks))], .box [.d (.v (.int .i64 0)), .d (.v (.int .i64 0)), .d (.v (.int .i64 0)), .d (.v (.int .i64 0)), .d (.v (.int .i64 0)), .d (.v (.int .i64 0))], .box [.d (.v (.int .i64 v_s1.fKind)), .d (.v (.int .i64 v_s1.fMode)), .d (.v (.int .i64 v_n4)), .d (.v (.int .i64 v_m5)), .d (.v (.int .i64 v_s1.fSize)), .d (.v (.int .i64 v_s1.fLinks))]]⟩
def G_ringlaw5_ModeSays_C27 (n : Nat) (v_r138 : (S_api_Stat × Int)) (v_r164 : (S_api_Stat × Int)) (v_z410 : Int) (v_z441 : Int) (v_s1 : S_api_Stat) (v_n4 : Int) (v_m5 : Int) : Option G_ringlaw5_ModeSays_C27_R :=
  if v_r138.2 = v_z410 then
   if (eqRes .eql (eqS_api_Stat v_r138.1 (S_api_Stat.mk 0 0 0 0 0 0))) = true then
    if v_r164.2 = v_z441 then
     some (.x0 (eqRes .eql (eqS_api_Stat v_r164.1 (S_api_Stat.mk v_s1.fKind v_s1.fMode v_n4 v_m5 v_s1.fSize v_s1.fLinks))))
    else
     some (.x0 false)
   else
    some (.x0 false)
  else
   some (.x0 false)
theorem G_ringlaw5_ModeSays_C27_ok {Fi : Ex → PS → Prop} (hF : KC 198 Fi) (ks : List Fr) (n : Nat) (v_r138 : (S_api_Stat × Int)) (v_r164 : (S_api_Stat × Int)) (v_z410 : Int) (v_z441 : Int) (v_s1 : S_api_Stat) (v_n4 : Int) (v_m5 : Int)  (o : G_ringlaw5_ModeSays_C27_R) (h : G_ringlaw5_ModeSays_C27 n v_r138 v_r164 v_z410 v_z441 v_s1 v_n4 v_m5 = some o) (q : RunE Try.prog 198 Fi ks (G_ringlaw5_ModeSays_C27_ex o) (G_ringlaw5_ModeSays_C27_st v_r138 v_r164 v_z410 v_z441 v_s1 v_n4 v_m5 o)) : RunE Try.prog 198 Fi (.s (cL (cR (cR (cR (cR (cR (cR (cR (cR (cR (cR (cR (cR (cR (cR (cR (cR (cR (cR (bodyOf Try.f4)))))))))))))))))))) :: ks) .normal (G_ringlaw5_ModeSays_C27_hd v_r138 v_r164 v_z410 v_z441 v_s1 v_n4 v_m5) := by
  unfold G_ringlaw5_ModeSays_C27 at h
  by_cases h576 : v_r138.2 = v_z410
  · rw [if_pos h576] at h
    by_cases h577 : (eqRes .eql (eqS_api_Stat v_r138.1 (S_api_Stat.mk 0 0 0 0 0 0))) = true
    · rw [if_pos h577] at h
      by_cases h578 : v_r164.2 = v_z441
      · rw [if_pos h578] at h
        cases h
        exact pkk_sound TTok mix hF 1 (hs := [.t true, .c, .c, .c, .c, .q (eqS_api_Stat v_r138.1 (S_api_Stat.mk 0 0 0 0 0 0)), .t true, .c, .c, .t true, .c, .c, .c, .c, .q (eqS_api_Stat v_r164.1 (S_api_Stat.mk v_s1.fKind v_s1.fMode v_n4 v_m5 v_s1.fSize v_s1.fLinks))]) (ts := []) (s := []) (l := [10]) (by kernel_rfl) (by kernel_rfl) (.cons (bt h576) (.cons (eqS_api_Stat_ok v_r138.1 (S_api_Stat.mk 0 0 0 0 0 0)) (.cons h577 (.cons (bt h578) (.cons (eqS_api_Stat_ok v_r164.1 (S_api_Stat.mk v_s1.fKind v_s1.fMode v_n4 v_m5 v_s1.fSize v_s1.fLinks)) .nil))))) q
      · rw [if_neg h578] at h
        cases h
        exact pkk_sound TTok mix hF 1 (hs := [.t true, .c, .c, .c, .c, .q (eqS_api_Stat v_r138.1 (S_api_Stat.mk 0 0 0 0 0 0)), .t true, .c, .c, .t false, .c, .c]) (ts := []) (s := []) (l := [10]) (by kernel_rfl) (by kernel_rfl) (.cons (bt h576) (.cons (eqS_api_Stat_ok v_r138.1 (S_api_Stat.mk 0 0 0 0 0 0)) (.cons h577 (.cons (bf h578) .nil)))) q
    · rw [if_neg h577] at h
      cases h
      exact pkk_sound TTok mix hF 1 (hs := [.t true, .c, .c, .c, .c, .q (eqS_api_Stat v_r138.1 (S_api_Stat.mk 0 0 0 0 0 0)), .t false, .c, .c, .c, .c, .c]) (ts := []) (s := []) (l := [10]) (by kernel_rfl) (by kernel_rfl) (.cons (bt h576) (.cons (eqS_api_Stat_ok v_r138.1 (S_api_Stat.mk 0 0 0 0 0 0)) (.cons (vf h577) .nil))) q
  · rw [if_neg h576] at h
    cases h
    exact pkk_sound TTok mix hF 1 (hs := [.t false, .c, .c, .c, .c, .c, .c, .c, .c]) (ts := []) (s := []) (l := [10]) (by kernel_rfl) (by kernel_rfl) (.cons (bf h576) .nil) q
inductive G_ringlaw5_ModeSays_C28_R where
  | x0 (v_x454 : Bool)
def G_ringlaw5_ModeSays_C28_ex : G_ringlaw5_ModeSays_C28_R → Ex
  | .x0 _ => .normal
def G_ringlaw5_ModeSays_C28_st (v_r138 : (S_api_Stat × Int)) (v_r164 : (S_api_Stat × Int)) (v_z410 : Int) (v_z441 : Int) (v_s1 : S_api_Stat) (v_n4 : Int) : G_ringlaw5_ModeSays_C28_R → PS
  | .x0 v_x454 => ⟨[dd, dd, dd, dd, dd, dd, dd, dd, dd, dd, .d (.v (.bool v_x454)), dd, dd, dd, dd, dd, dd, dd, dd, dd, dd, dd, dd, dd, dd, dd, dd, dd, dd, dd, dd, dd, dd, dd, dd, dd, dd, dd, dd, dd, dd, dd, dd, dd, dd, dd, dd, dd, dd, dd, dd, dd, dd, dd, dd, dd, dd, dd, dd, dd, dd, dd, dd, dd, dd, dd, dd, dd, dd, dd, dd, dd, dd, dd, dd, dd, dd, dd, dd, dd, dd, dd, dd, dd, dd, dd, dd, dd, dd, dd, dd, dd, dd, dd, dd, dd, dd, dd, dd, dd, dd, dd, dd, dd, dd, dd, dd, dd, dd, dd, dd, dd, dd, dd, dd, dd, dd, dd, dd, dd, dd, dd, dd, dd, dd, dd, dd, dd, dd, dd, dd, dd, dd, dd, dd, dd, dd, dd, dd, dd, dd, dd, dd, dd, dd, dd, dd, dd, dd, dd, dd, dd, dd, dd, dd, dd, dd, dd, dd, dd, dd, dd, dd, dd, dd, dd, dd, dd, dd, dd, dd, dd, dd, dd, dd, dd, dd, dd, dd, dd, dd, dd, dd, dd, dd, dd, dd, dd, dd, dd, dd, dd, dd, dd, dd, dd, dd, dd], []⟩
def G_ringlaw5_ModeSays_C28_hd (v_r138 : (S_api_Stat × Int)) (v_r164 : (S_api_Stat × Int)) (v_z410 : Int) (v_z441 : Int) (v_s1 : S_api_Stat) (v_n4 : Int)  : PS := ⟨[dd, dd, dd, dd, dd, dd, dd, dd, dd, dd, dd, dd, dd, .ref 0 0, .d (.v (.int .i64 v_r138.2)), .ref 1 0, .d (.v (.int .i64 v_r164.2)), dd, .ref 2 0, .ref 3 0, dd, .d (.v (.int .i64 v_z410)), .d (.v (.int .i64 v_z441)), dd, dd, dd, dd, dd, dd, dd, dd, dd, dd, dd, dd, dd, dd, dd, dd, dd, dd, dd, dd, dd, dd, dd, dd, dd, dd, dd, dd, dd, dd, dd, dd, dd, dd, dd, dd, dd, dd, dd, dd, dd, dd, dd, dd, dd, dd, dd, dd, dd, dd, dd, dd, dd, dd, dd, dd, dd, dd, dd, dd, dd, dd, dd, dd, dd, dd, dd, dd, dd, dd, dd, dd, dd, dd, dd, dd, dd, dd, dd, dd, dd, dd, dd, dd, dd, dd, dd, dd, dd, dd, dd, dd, dd, dd, dd, dd, dd, dd, dd, dd, dd, dd, dd, dd, dd, dd, dd, dd, dd, dd, dd, dd, dd, dd, dd, dd, dd, dd, dd, dd, dd, dd, dd, dd, dd, dd, dd, dd, dd, dd, dd, dd, dd, dd, dd, dd, dd, dd, dd, dd, dd, dd, dd, dd, dd, dd, dd, dd, dd, dd, dd, dd, dd, dd, dd, dd, dd, dd, dd, dd, dd, dd, dd, dd, dd, dd, dd, dd, dd, dd, dd, dd, dd, dd, dd], [.box [.d (.v (.int .i64 v_r138.1.fKind)), .d (.v (.int .i64 v_r138.1.fMode)), .d (.v (.int .i64 v_r138.1.fUser)), .d (.v (.int .i64 v_r138.1.fGroup)), .d (.v (.int .i64 v_r138.1.fSize)), .d (.v (.int .i64 v_r138.1.fLinks))], .box [.d (.v (.int .i64 v_r164.1.fKind)), .d (.v (.int .i64 v_r164.1.fMode)), .d (.v (.int .i64 v_r164.1.fUser)), .d (.v (.int .i64 v_r164.1.fGroup)), .d (.v (.int .i64 v_r164.1.fSize)), .d (.v (.int .i64 v_r164.1.fLinks))], .box [.d (.v (.int .i64 v_s1.fKind)), .d (.v (.int .i64 v_n4)), .d (.v (.int .i64 v_s1.fUser)), .d (.v (.int .i64 v_s1.fGroup)), .d (.v (.int .i64 v_s1.fSize)), .d (.v (.int .i64 v_s1.fLinks))], .box [.d (.v (.int .i64 0)), .d (.v (.int .i64 0)), .d (.v (.int .i64 0)), .d (.v (.int .i64 0)), .d (.v (.int .i64 0)), .d (.v (.int .i64 0))]]⟩
def G_ringlaw5_ModeSays_C28 (n : Nat) (v_r138 : (S_api_Stat × Int)) (v_r164 : (S_api_Stat × Int)) (v_z410 : Int) (v_z441 : Int) (v_s1 : S_api_Stat) (v_n4 : Int) : Option G_ringlaw5_ModeSays_C28_R :=
  if v_r138.2 = v_z410 then
   if (eqRes .eql (eqS_api_Stat v_r138.1 (S_api_Stat.mk v_s1.fKind v_n4 v_s1.fUser v_s1.fGroup v_s1.fSize v_s1.fLinks))) = true then
    if v_r164.2 = v_z441 then
     some (.x0 (eqRes .eql (eqS_api_Stat v_r164.1 (S_api_Stat.mk 0 0 0 0 0 0))))
    else
     some (.x0 false)
   else
    some (.x0 false)
  else
   some (.x0 false)
theorem G_ringlaw5_ModeSays_C28_ok {Fi : Ex → PS → Prop} (hF : KC 198 Fi) (ks : List Fr) (n : Nat) (v_r138 : (S_api_Stat × Int)) (v_r164 : (S_api_Stat × Int)) (v_z410 : Int) (v_z441 : Int) (v_s1 : S_api_Stat) (v_n4 : Int)  (o : G_ringlaw5_ModeSays_C28_R) (h : G_ringlaw5_ModeSays_C28 n v_r138 v_r164 v_z410 v_z441 v_s1 v_n4 = some o) (q : RunE Try.prog 198 Fi ks (G_ringlaw5_ModeSays_C28_ex o) (G_ringlaw5_ModeSays_C28_st v_r138 v_r164 v_z410 v_z441 v_s1 v_n4 o)) : RunE Try.prog 198 Fi (.s (cL (cR (cR (cR (cR (cR (cR (cR (cR (cR (cR (cR (cR (cR (cR (cR (cR (cR (cR (bodyOf Try.f4)))))))))))))))))))) :: ks) .normal (G_ringlaw5_ModeSays_C28_hd v_r138 v_r164 v_z410 v_z441 v_s1 v_n4) := by
  unfold G_ringlaw5_ModeSays_C28 at h
  by_cases h584 : v_r138.2 = v_z410
  · rw [if_pos h584] at h
    by_cases h585 : (eqRes .eql (eqS_api_Stat v_r138.1 (S_api_Stat.mk v_s1.fKind v_n4 v_s1.fUser v_s1.fGroup v_s1.fSize v_s1.fLinks))) = true
    · rw [if_pos h585] at h
      by_cases h586 : v_r164.2 = v_z441
      · rw [if_pos h586] at h
        cases h
        exact pkk_sound TTok mix hF 1 (hs := [.t true, .c, .c, .c, .c, .q (eqS_api_Stat v_r138.1 (S_api_Stat.mk v_s1.fKind v_n4 v_s1.fUser v_s1.fGroup v_s1.fSize v_s1.fLinks)), .t true, .c, .c, .t true, .c, .c, .c, .c, .q (eqS_api_Stat v_r164.1 (S_api_Stat.mk 0 0 0 0 0 0))]) (ts := []) (s := []) (l := [10]) (by kernel_rfl) (by kernel_rfl) (.cons (bt h584) (.cons (eqS_api_Stat_ok v_r138.1 (S_api_Stat.mk v_s1.fKind v_n4 v_s1.fUser v_s1.fGroup v_s1.fSize v_s1.fLinks)) (.cons h585 (.cons (bt h586) (.cons (eqS_api_Stat_ok v_r164.1 (S_api_Stat.mk 0 0 0 0 0 0)) .nil))))) q
      · rw [if_neg h586] at h
        cases h
        exact pkk_sound TTok mix hF 1 (hs := [.t true, .c, .c, .c, .c, .q (eqS_api_Stat v_r138.1 (S_api_Stat.mk v_s1.fKind v_n4 v_s1.fUser v_s1.fGroup v_s1.fSize v_s1.fLinks)), .t true, .c, .c, .t false, .c, .c]) (ts := []) (s := []) (l := [10]) (by kernel_rfl) (by kernel_rfl) (.cons (bt h584) (.cons (eqS_api_Stat_ok v_r138.1 (S_api_Stat.mk v_s1.fKind v_n4 v_s1.fUser v_s1.fGroup v_s1.fSize v_s1.fLinks)) (.cons h585 (.cons (bf h586) .nil)))) q
    · rw [if_neg h585] at h
      cases h
      exact pkk_sound TTok mix hF 1 (hs := [.t true, .c, .c, .c, .c, .q (eqS_api_Stat v_r138.1 (S_api_Stat.mk v_s1.fKind v_n4 v_s1.fUser v_s1.fGroup v_s1.fSize v_s1.fLinks)), .t false, .c, .c, .c, .c, .c]) (ts := []) (s := []) (l := [10]) (by kernel_rfl) (by kernel_rfl) (.cons (bt h584) (.cons (eqS_api_Stat_ok v_r138.1 (S_api_Stat.mk v_s1.fKind v_n4 v_s1.fUser v_s1.fGroup v_s1.fSize v_s1.fLinks)) (.cons (vf h585) .nil))) q
  · rw [if_neg h584] at h
    cases h
    exact pkk_sound TTok mix hF 1 (hs := [.t false, .c, .c, .c, .c, .c, .c, .c, .c]) (ts := []) (s := []) (l := [10]) (by kernel_rfl) (by kernel_rfl) (.cons (bf h584) .nil) q
inductive G_ringlaw5_ModeSays_C29_R where
  | x0 (v_x460 : Bool)
def G_ringlaw5_ModeSays_C29_ex : G_ringlaw5_ModeSays_C29_R → Ex
  | .x0 _ => .normal
def G_ringlaw5_ModeSays_C29_st (v_r138 : (S_api_Stat × Int)) (v_r164 : (S_api_Stat × Int)) (v_z410 : Int) (v_z441 : Int) (v_s1 : S_api_Stat) (v_n4 : Int) (v_m5 : Int) : G_ringlaw5_ModeSays_C29_R → PS
  | .x0 v_x460 => ⟨[dd, dd, dd, dd, dd, dd, dd, dd, dd, dd, .d (.v (.bool v_x460)), dd, dd, dd, dd, dd, dd, dd, dd, dd, dd, dd, dd, dd, dd, dd, dd, dd, dd, dd, dd, dd, dd, dd, dd, dd, dd, dd, dd, dd, dd, dd, dd, dd, dd, dd, dd, dd, dd, dd, dd, dd, dd, dd, dd, dd, dd, dd, dd, dd, dd, dd, dd, dd, dd, dd, dd, dd, dd, dd, dd, dd, dd, dd, dd, dd, dd, dd, dd, dd, dd, dd, dd, dd, dd, dd, dd, dd, dd, dd, dd, dd, dd, dd, dd, dd, dd, dd, dd, dd, dd, dd, dd, dd, dd, dd, dd, dd, dd, dd, dd, dd, dd, dd, dd, dd, dd, dd, dd, dd, dd, dd, dd, dd, dd, dd, dd, dd, dd, dd, dd, dd, dd, dd, dd, dd, dd, dd, dd, dd, dd, dd, dd, dd, dd, dd, dd, dd, dd, dd, dd, dd, dd, dd, dd, dd, dd, dd, dd, dd, dd, dd, dd, dd, dd, dd, dd, dd, dd, dd, dd, dd, dd, dd, dd, dd, dd, dd, dd, dd, dd, dd, dd, dd, dd, dd, dd, dd, dd, dd, dd, dd, dd, dd, dd, dd, dd, dd], []⟩
def G_ringlaw5_ModeSays_C29_hd (v_r138 : (S_api_Stat × Int)) (v_r164 : (S_api_Stat × Int)) (v_z410 : Int) (v_z441 : Int) (v_s1 : S_api_Stat) (v_n4 : Int) (v_m5 : Int)  : PS := ⟨[dd, dd, dd, dd, dd, dd, dd, dd, dd, dd, dd, dd, dd, .ref 0 0, .d (.v (.int .i64 v_r138.2)), .ref 1 0, .d (.v (.int .i64 v_r164.2)), dd, .ref 2 0, .ref 3 0, dd, .d (.v (.int .i64 v_z410)), .d (.v (.int .i64 v_z441)), dd, dd, dd, dd, dd, dd, dd, dd, dd, dd, dd, dd, dd, dd, dd, dd, dd, dd, dd, dd, dd, dd, dd, dd, dd, dd, dd, dd, dd, dd, dd, dd, dd, dd, dd, dd, dd, dd, dd, dd, dd, dd, dd, dd, dd, dd, dd, dd, dd, dd, dd, dd, dd, dd, dd, dd, dd, dd, dd, dd, dd, dd, dd, dd, dd, dd, dd, dd, dd, dd, dd, dd, dd, dd, dd, dd, dd, dd, dd, dd, dd, dd, dd, dd, dd, dd, dd, dd, dd, dd, dd, dd, dd, dd, dd, dd, dd, dd, dd, dd, dd, dd, dd, dd, dd, dd, dd, dd, dd, dd, dd, dd, dd, dd, dd, dd, dd, dd, dd, dd, dd, dd, dd, dd, dd, dd, dd, dd, dd, dd, dd, dd, dd, dd, dd, dd, dd, dd, dd, dd, dd, dd, dd, dd, dd, dd, dd, dd, dd, dd, dd, dd, dd, dd, dd, dd, dd, dd, dd, dd, dd, dd, dd, dd, dd, dd, dd, dd, dd, dd, dd, dd, dd, dd, dd], [.box [.d (.v (.int .i64 v_r138.1.fKind)), .d (.v (.int .i64 v_r138.1.fMode)), .d (.v (.int .i64 v_r138.1.fUser)), .d (.v (.int .i64 v_r138.1.fGroup)), .d (.v (.int .i64 v_r138.1.fSize)), .d (.v (.int .i64 v_r138.1.fLinks))], .box [.d (.v (.int .i64 v_r164.1.fKind)), .d (.v (.int .i64 v_r164.1.fMode)), .d (.v (.int .i64 v_r164.1.fUser)), .d (.v (.int .i64 v_r164.1.fGroup)), .d (.v (.int .i64 v_r164.1.fSize)), .d (.v (.int .i64 v_r164.1.fLinks))], .box [.d (.v (.int .i64 v_s1.fKind)), .d (.v (.int .i64 v_n4)), .d (.v (.int .i64 v_s1.fUser)), .d (.v (.int .i64 v_s1.fGroup)), .d (.v (.int .i64 v_s1.fSize)), .d (.v (.int .i64 v_s1.fLinks))], .box [.d (.v (.int .i64 v_s1.fKind)), .d (.v (.int .i64 v_s1.fMode)), .d (.v (.int .i64 v_n4)), .d (.v (.int .i64 v_m5)), .d (.v (.int .i64 v_s1.fSize)), .d (.v (.int .i64 v_s1.fLinks))]]⟩
def G_ringlaw5_ModeSays_C29 (n : Nat) (v_r138 : (S_api_Stat × Int)) (v_r164 : (S_api_Stat × Int)) (v_z410 : Int) (v_z441 : Int) (v_s1 : S_api_Stat) (v_n4 : Int) (v_m5 : Int) : Option G_ringlaw5_ModeSays_C29_R :=
  if v_r138.2 = v_z410 then
   if (eqRes .eql (eqS_api_Stat v_r138.1 (S_api_Stat.mk v_s1.fKind v_n4 v_s1.fUser v_s1.fGroup v_s1.fSize v_s1.fLinks))) = true then
    if v_r164.2 = v_z441 then
     some (.x0 (eqRes .eql (eqS_api_Stat v_r164.1 (S_api_Stat.mk v_s1.fKind v_s1.fMode v_n4 v_m5 v_s1.fSize v_s1.fLinks))))
    else
     some (.x0 false)
   else
    some (.x0 false)
  else
   some (.x0 false)
theorem G_ringlaw5_ModeSays_C29_ok {Fi : Ex → PS → Prop} (hF : KC 198 Fi) (ks : List Fr) (n : Nat) (v_r138 : (S_api_Stat × Int)) (v_r164 : (S_api_Stat × Int)) (v_z410 : Int) (v_z441 : Int) (v_s1 : S_api_Stat) (v_n4 : Int) (v_m5 : Int)  (o : G_ringlaw5_ModeSays_C29_R) (h : G_ringlaw5_ModeSays_C29 n v_r138 v_r164 v_z410 v_z441 v_s1 v_n4 v_m5 = some o) (q : RunE Try.prog 198 Fi ks (G_ringlaw5_ModeSays_C29_ex o) (G_ringlaw5_ModeSays_C29_st v_r138 v_r164 v_z410 v_z441 v_s1 v_n4 v_m5 o)) : RunE Try.prog 198 Fi (.s (cL (cR (cR (cR (cR (cR (cR (cR (cR (cR (cR (cR (cR (cR (cR (cR (cR (cR (cR (bodyOf Try.f4)))))))))))))))))))) :: ks) .normal (G_ringlaw5_ModeSays_C29_hd v_r138 v_r164 v_z410 v_z441 v_s1 v_n4 v_m5) := by
  unfold G_ringlaw5_ModeSays_C29 at h
  by_cases h591 : v_r138.2 = v_z410
  · rw [if_pos h591] at h
    by_cases h592 : (eqRes .eql (eqS_api_Stat v_r138.1 (S_api_Stat.mk v_s1.fKind v_n4 v_s1.fUser v_s1.fGroup v_s1.fSize v_s1.fLinks))) = true
    · rw [if_pos h592] at h
      by_cases h593 : v_r164.2 = v_z441
      · rw [if_pos h593] at h
        cases h
        exact pkk_sound TTok mix hF 1 (hs := [.t true, .c, .c, .c, .c, .q (eqS_api_Stat v_r138.1 (S_api_Stat.mk v_s1.fKind v_n4 v_s1.fUser v_s1.fGroup v_s1.fSize v_s1.fLinks)), .t true, .c, .c, .t true, .c, .c, .c, .c, .q (eqS_api_Stat v_r164.1 (S_api_Stat.mk v_s1.fKind v_s1.fMode v_n4 v_m5 v_s1.fSize v_s1.fLinks))]) (ts := []) (s := []) (l := [10]) (by kernel_rfl) (by kernel_rfl) (.cons (bt h591) (.cons (eqS_api_Stat_ok v_r138.1 (S_api_Stat.mk v_s1.fKind v_n4 v_s1.fUser v_s1.fGroup v_s1.fSize v_s1.fLinks)) (.cons h592 (.cons (bt h593) (.cons (eqS_api_Stat_ok v_r164.1 (S_api_Stat.mk v_s1.fKind v_s1.fMode v_n4 v_m5 v_s1.fSize v_s1.fLinks)) .nil))))) q
      · rw [if_neg h593] at h
        cases h
        exact pkk_sound TTok mix hF 1 (hs := [.t true, .c, .c, .c, .c, .q (eqS_api_Stat v_r138.1 (S_api_Stat.mk v_s1.fKind v_n4 v_s1.fUser v_s1.fGroup v_s1.fSize v_s1.fLinks)), .t true, .c, .c, .t false, .c, .c]) (ts := []) (s := []) (l := [10]) (by kernel_rfl) (by kernel_rfl) (.cons (bt h591) (.cons (eqS_api_Stat_ok v_r138.1 (S_api_Stat.mk v_s1.fKind v_n4 v_s1.fUser v_s1.fGroup v_s1.fSize v_s1.fLinks)) (.cons h592 (.cons (bf h593) .nil)))) q
    · rw [if_neg h592] at h
      cases h
      exact pkk_sound TTok mix hF 1 (hs := [.t true, .c, .c, .c, .c, .q (eqS_api_Stat v_r138.1 (S_api_Stat.mk v_s1.fKind v_n4 v_s1.fUser v_s1.fGroup v_s1.fSize v_s1.fLinks)), .t false, .c, .c, .c, .c, .c]) (ts := []) (s := []) (l := [10]) (by kernel_rfl) (by kernel_rfl) (.cons (bt h591) (.cons (eqS_api_Stat_ok v_r138.1 (S_api_Stat.mk v_s1.fKind v_n4 v_s1.fUser v_s1.fGroup v_s1.fSize v_s1.fLinks)) (.cons (vf h592) .nil))) q
  · rw [if_neg h591] at h
    cases h
    exact pkk_sound TTok mix hF 1 (hs := [.t false, .c, .c, .c, .c, .c, .c, .c, .c]) (ts := []) (s := []) (l := [10]) (by kernel_rfl) (by kernel_rfl) (.cons (bf h591) .nil) q
/- ringhall/ringlaw5.ModeSays -/
def G_ringlaw5_ModeSays (n : Nat) (v_s1 : S_api_Stat) (v_c2 : S_api_Cred) (v_want3 : Int) (v_n4 : Int) (v_m5 : Int) : Option (Bool) :=
  (G_ringlaw5_mays n ).bind fun (v_r132 : (Bool)) =>
  if v_r132 = true then
   (G_mode_May n v_s1 v_c2 v_want3).bind fun (v_r133 : (Bool × Int)) =>
   (G_mode_Set n v_s1 v_c2 v_n4).bind fun (v_r138 : (S_api_Stat × Int)) =>
   (G_mode_Own n v_s1 v_c2 v_n4 v_m5).bind fun (v_r164 : (S_api_Stat × Int)) =>
   (G_ringref5_CredErr n v_c2).bind fun (v_r185 : (Int)) =>
   (G_ringlaw5_ModeSays_C1 n v_want3 v_n4 v_m5 v_r133 v_r138 v_r164 v_r185 v_s1 v_c2).bind fun v_o197 => match v_o197 with
   | .x0 v_z198 =>
     (G_mode_Check n v_s1).bind fun (v_r199 : (Int)) =>
     (G_ringref5_StatErr n v_s1).bind fun (v_r200 : (Int)) =>
     if v_r199 = v_r200 then
      if v_z198 = 0 then
       if v_want3 < 0 then
        if v_r133.2 = 1 then
         if v_r133.1 = true then
          some false
         else
          if v_n4 < 0 then
           (G_ringlaw5_ModeSays_C3 n v_n4 v_m5 v_r138 v_r164 v_c2 v_s1).bind fun v_o219 => match v_o219 with
           | .x0 v_z220 =>
             (G_ringlaw5_ModeSays_C5 n v_n4 v_m5 v_r138 v_r164 v_c2 v_z220 v_s1).bind fun v_o248 => match v_o248 with
             | .x0 v_z249 =>
               if v_z249 = 0 then
                (G_ringlaw5_ModeSays_C7 n v_r138 v_r164 v_z249 v_s1 v_n4 v_m5).bind fun v_o260 => match v_o260 with
                | .x0 v_z261 =>
                  some v_z261
               else
                (G_ringlaw5_ModeSays_C6 n v_r138 v_r164 v_z249).bind fun v_o254 => match v_o254 with
                | .x0 v_z255 =>
                  some v_z255
          else
           (G_ringlaw5_ModeSays_C8 n v_n4 v_m5 v_r138 v_r164 v_c2 v_s1).bind fun v_o266 => match v_o266 with
           | .x0 v_z267 =>
             (G_ringlaw5_ModeSays_C9 n v_n4 v_m5 v_r138 v_r164 v_c2 v_z267 v_s1).bind fun v_o270 => match v_o270 with
             | .x0 v_z271 =>
               (G_ringlaw5_ModeSays_C11 n v_n4 v_m5 v_r138 v_r164 v_c2 v_z267 v_z271 v_s1).bind fun v_o297 => match v_o297 with
               | .x0 v_z298 =>
                 if v_z267 = 0 then
                  if v_z298 = 0 then
                   (G_ringlaw5_ModeSays_C15 n v_r138 v_r164 v_z267 v_z298 v_s1 v_n4 v_m5).bind fun v_o321 => match v_o321 with
                   | .x0 v_z322 =>
                     some v_z322
                  else
                   (G_ringlaw5_ModeSays_C14 n v_r138 v_r164 v_z267 v_z298 v_s1 v_n4).bind fun v_o315 => match v_o315 with
                   | .x0 v_z316 =>
                     some v_z316
                 else
                  if v_z298 = 0 then
                   (G_ringlaw5_ModeSays_C13 n v_r138 v_r164 v_z267 v_z298 v_s1 v_n4 v_m5).bind fun v_o309 => match v_o309 with
                   | .x0 v_z310 =>
                     some v_z310
                  else
                   (G_ringlaw5_ModeSays_C12 n v_r138 v_r164 v_z267 v_z298).bind fun v_o303 => match v_o303 with
                   | .x0 v_z304 =>
                     some v_z304
        else
         some false
       else
        (G_ringlaw5_ModeSays_C16 n v_want3 v_n4 v_m5 v_r133 v_r138 v_r164 v_s1 v_c2).bind fun v_o360 => match v_o360 with
        | .x0 v_z361 =>
          some v_z361
        | .x1  =>
          if v_n4 < 0 then
           (G_ringlaw5_ModeSays_C17 n v_n4 v_m5 v_r138 v_r164 v_c2 v_s1).bind fun v_o364 => match v_o364 with
           | .x0 v_z365 =>
             (G_ringlaw5_ModeSays_C19 n v_n4 v_m5 v_r138 v_r164 v_c2 v_z365 v_s1).bind fun v_o391 => match v_o391 with
             | .x0 v_z392 =>
               if v_z392 = 0 then
                (G_ringlaw5_ModeSays_C21 n v_r138 v_r164 v_z392 v_s1 v_n4 v_m5).bind fun v_o403 => match v_o403 with
                | .x0 v_z404 =>
                  some v_z404
               else
                (G_ringlaw5_ModeSays_C20 n v_r138 v_r164 v_z392).bind fun v_o397 => match v_o397 with
                | .x0 v_z398 =>
                  some v_z398
          else
           (G_ringlaw5_ModeSays_C22 n v_n4 v_m5 v_r138 v_r164 v_c2 v_s1).bind fun v_o409 => match v_o409 with
           | .x0 v_z410 =>
             (G_ringlaw5_ModeSays_C23 n v_n4 v_m5 v_r138 v_r164 v_c2 v_z410 v_s1).bind fun v_o413 => match v_o413 with
             | .x0 v_z414 =>
               (G_ringlaw5_ModeSays_C25 n v_n4 v_m5 v_r138 v_r164 v_c2 v_z410 v_z414 v_s1).bind fun v_o440 => match v_o440 with
               | .x0 v_z441 =>
                 if v_z410 = 0 then
                  if v_z441 = 0 then
                   (G_ringlaw5_ModeSays_C29 n v_r138 v_r164 v_z410 v_z441 v_s1 v_n4 v_m5).bind fun v_o464 => match v_o464 with
                   | .x0 v_z465 =>
                     some v_z465
                  else
                   (G_ringlaw5_ModeSays_C28 n v_r138 v_r164 v_z410 v_z441 v_s1 v_n4).bind fun v_o458 => match v_o458 with
                   | .x0 v_z459 =>
                     some v_z459
                 else
                  if v_z441 = 0 then
                   (G_ringlaw5_ModeSays_C27 n v_r138 v_r164 v_z410 v_z441 v_s1 v_n4 v_m5).bind fun v_o452 => match v_o452 with
                   | .x0 v_z453 =>
                     some v_z453
                  else
                   (G_ringlaw5_ModeSays_C26 n v_r138 v_r164 v_z410 v_z441).bind fun v_o446 => match v_o446 with
                   | .x0 v_z447 =>
                     some v_z447
      else
       (G_ringlaw5_ModeSays_C2 n v_r133 v_r138 v_r164 v_z198).bind fun v_o215 => match v_o215 with
       | .x0 v_z216 =>
         some v_z216
     else
      some false
  else
   some false
theorem G_ringlaw5_ModeSays_ok (n : Nat) (v_s1 : S_api_Stat) (v_c2 : S_api_Cred) (v_want3 : Int) (v_n4 : Int) (v_m5 : Int) (r : Bool) (h : G_ringlaw5_ModeSays n v_s1 v_c2 v_want3 v_n4 v_m5 = some r) : Ret Try.prog 4 [eS_api_Stat v_s1, eS_api_Cred v_c2, (eI .i64) v_want3, (eI .i64) v_n4, (eI .i64) v_m5] (eB r) := by
  refine ret_run (n := 198) (fn := Try.f4) (c := bodyOf Try.f4) (by kernel_rfl) (by kernel_rfl) (by kernel_rfl) (by kernel_rfl) ?_
  have hF : KC 198 (FinR Try.prog Try.f4 (eB r)) := FinR.kc' (by kernel_rfl)
  unfold G_ringlaw5_ModeSays at h
  obtain ⟨v_r132, h154, h⟩ := bind_some h
  by_cases h155 : v_r132 = true
  · rw [if_pos h155] at h
    obtain ⟨v_r133, h156, h⟩ := bind_some h
    obtain ⟨v_r138, h167, h⟩ := bind_some h
    obtain ⟨v_r164, h201, h⟩ := bind_some h
    obtain ⟨v_r185, h225, h⟩ := bind_some h
    obtain ⟨v_o197, h238, h⟩ := bind_some h
    refine pkk_sound TTok mix hF 18 (hs := [.r (eB v_r132), .t false, .c, .c, .r (.tup [eB v_r133.1, (eI .i64) v_r133.2]), .c, .c, .r (.tup [eS_api_Stat v_r138.1, (eI .i64) v_r138.2]), .c, .c, .c, .r (.tup [eS_api_Stat v_r164.1, (eI .i64) v_r164.2]), .c, .c, .r ((eI .i64) v_r185)]) (ts := []) (s := [0, 3, 63, 96]) (l := [2, 3, 4, 5, 6, 11, 12, 13, 14, 15, 16, 17, 50]) (by kernel_rfl) (by kernel_rfl) (.cons (G_ringlaw5_mays_ok n  _ h154) (.cons (bnf h155) (.cons (G_mode_May_ok n v_s1 v_c2 v_want3 _ h156) (.cons (G_mode_Set_ok n v_s1 v_c2 v_n4 _ h167) (.cons (show 0 + 6 ≤ 6 by decide) (.cons (G_mode_Own_ok n v_s1 v_c2 v_n4 v_m5 _ h201) (.cons (show 0 + 6 ≤ 6 by decide) (.cons (G_ringref5_CredErr_ok n v_c2 _ h225) .nil)))))))) (G_ringlaw5_ModeSays_C1_ok hF (.s (cR (cR (cR (cR (cR (cR (cR (bodyOf Try.f4)))))))) :: []) n v_want3 v_n4 v_m5 v_r133 v_r138 v_r164 v_r185 v_s1 v_c2 _ h238 ?_)
    cases v_o197 with
    | x0 v_z198 =>
      dsimp only at h
      obtain ⟨v_r199, h239, h⟩ := bind_some h
      obtain ⟨v_r200, h240, h⟩ := bind_some h
      by_cases h241 : v_r199 = v_r200
      · rw [if_pos h241] at h
        by_cases h254 : v_z198 = 0
        · rw [if_pos h254] at h
          by_cases h266 : v_want3 < 0
          · rw [if_pos h266] at h
            by_cases h269 : v_r133.2 = 1
            · rw [if_pos h269] at h
              by_cases h270 : v_r133.1 = true
              · rw [if_pos h270] at h
                obtain rfl := Option.some.inj h
                exact pend_sound TTok mix 21 (hs := [.c, .r ((eI .i64) v_r199), .c, .r ((eI .i64) v_r200), .t false, .t false, .t true, .c, .c, .t false, .t true]) (by kernel_rfl) (by kernel_rfl) (by kernel_rfl) (.cons (G_mode_Check_ok n v_s1 _ h239) (.cons (G_ringref5_StatErr_ok n v_s1 _ h240) (.cons (nf h241) (.cons (nf h254) (.cons (dt h266) (.cons (nf h269) (.cons h270 .nil)))))))
              · rw [if_neg h270] at h
                by_cases h273 : v_n4 < 0
                · rw [if_pos h273] at h
                  obtain ⟨v_o219, h276, h⟩ := bind_some h
                  refine pkk_sound TTok mix hF 33 (hs := [.c, .r ((eI .i64) v_r199), .c, .r ((eI .i64) v_r200), .t false, .t false, .t true, .c, .c, .t false, .t false, .c, .c, .c, .c, .c, .c, .c, .c, .t true, .c, .c]) (ts := []) (s := [0, 1, 2, 3, 64, 67]) (l := [3, 4, 5, 6, 13, 14, 15, 16, 18, 19, 20, 21, 22]) (by kernel_rfl) (by kernel_rfl) (.cons (G_mode_Check_ok n v_s1 _ h239) (.cons (G_ringref5_StatErr_ok n v_s1 _ h240) (.cons (nf h241) (.cons (nf h254) (.cons (dt h266) (.cons (nf h269) (.cons (vf h270) (.cons (show 0 + 6 ≤ 6 by decide) (.cons (show 0 + 6 ≤ 6 by decide) (.cons (show 1 + 1 ≤ 6 by decide) (.cons (show 2 + 1 ≤ 6 by decide) (.cons (show 3 + 1 ≤ 6 by decide) (.cons (show (4 : Int) ≠ 0 by decide) (.cons (show (2 : Int) ≠ 0 by decide) (.cons (dt h273) .nil))))))))))))))) (G_ringlaw5_ModeSays_C3_ok hF (.s (cR (cL (cR (cR (cR (cR (cR (cR (cR (cR (cR (cR (cR (cR (cR (cR (cR (bodyOf Try.f4)))))))))))))))))) :: .s (cR (cR (cR (cR (cR (cR (cR (cR (cR (cR (cR (cR (cR (cR (cR (cR (bodyOf Try.f4))))))))))))))))) :: []) n v_n4 v_m5 v_r138 v_r164 v_c2 v_s1 _ h276 ?_)
                  cases v_o219 with
                  | x0 v_z220 =>
                    dsimp only at h
                    obtain ⟨v_o248, h308, h⟩ := bind_some h
                    refine pkk_sound TTok mix hF 0 (hs := []) (ts := []) (s := [0, 1, 2, 3, 4, 5]) (l := [3, 4, 5, 6, 13, 14, 15, 16, 18, 19, 20, 21, 22, 145]) (by kernel_rfl) (by kernel_rfl) .nil (G_ringlaw5_ModeSays_C5_ok hF (.s (cR (cR (cR (cR (cR (cR (cR (cR (cR (cR (cR (cR (cR (cR (cR (cR (bodyOf Try.f4))))))))))))))))) :: []) n v_n4 v_m5 v_r138 v_r164 v_c2 v_z220 v_s1 _ h308 ?_)
                    cases v_o248 with
                    | x0 v_z249 =>
                      dsimp only at h
                      by_cases h309 : v_z249 = 0
                      · rw [if_pos h309] at h
                        obtain ⟨v_o260, h323, h⟩ := bind_some h
                        refine pkk_sound TTok mix hF 11 (hs := [.c, .c, .t false]) (ts := []) (s := [0, 1, 2, 3]) (l := [13, 14, 15, 16, 18, 19, 21, 22]) (by kernel_rfl) (by kernel_rfl) (.cons (show 0 + 6 ≤ 6 by decide) (.cons (nf h309) .nil)) (G_ringlaw5_ModeSays_C7_ok hF (.s (cR (cR (cR (cR (cR (cR (cR (cR (cR (cR (cR (cR (cR (cR (cR (cR (cR (cR (cR (bodyOf Try.f4)))))))))))))))))))) :: []) n v_r138 v_r164 v_z249 v_s1 v_n4 v_m5 _ h323 ?_)
                        cases v_o260 with
                        | x0 v_z261 =>
                          dsimp only at h
                          obtain rfl := Option.some.inj h
                          exact pend_sound TTok mix 1 (hs := []) (by kernel_rfl) (by kernel_rfl) (by kernel_rfl) .nil
                      · rw [if_neg h309] at h
                        obtain ⟨v_o254, h316, h⟩ := bind_some h
                        refine pkk_sound TTok mix hF 11 (hs := [.c, .c, .t true, .c]) (ts := []) (s := [0, 1, 2, 3]) (l := [13, 14, 15, 16, 18, 19, 21, 22]) (by kernel_rfl) (by kernel_rfl) (.cons (show 0 + 6 ≤ 6 by decide) (.cons (nt h309) (.cons (show 0 + 6 ≤ 6 by decide) .nil))) (G_ringlaw5_ModeSays_C6_ok hF (.s (cR (cR (cR (cR (cR (cR (cR (cR (cR (cR (cR (cR (cR (cR (cR (cR (cR (cR (cR (bodyOf Try.f4)))))))))))))))))))) :: []) n v_r138 v_r164 v_z249 _ h316 ?_)
                        cases v_o254 with
                        | x0 v_z255 =>
                          dsimp only at h
                          obtain rfl := Option.some.inj h
                          exact pend_sound TTok mix 1 (hs := []) (by kernel_rfl) (by kernel_rfl) (by kernel_rfl) .nil
                · rw [if_neg h273] at h
                  obtain ⟨v_o266, h332, h⟩ := bind_some h
                  refine pkk_sound TTok mix hF 29 (hs := [.c, .r ((eI .i64) v_r199), .c, .r ((eI .i64) v_r200), .t false, .t false, .t true, .c, .c, .t false, .t false, .c, .c, .c, .c, .c, .c, .c, .c, .t false, .c]) (ts := []) (s := [0, 1, 2, 3, 64, 67]) (l := [3, 4, 5, 6, 13, 14, 15, 16, 18, 19, 20, 21, 22, 126]) (by kernel_rfl) (by kernel_rfl) (.cons (G_mode_Check_ok n v_s1 _ h239) (.cons (G_ringref5_StatErr_ok n v_s1 _ h240) (.cons (nf h241) (.cons (nf h254) (.cons (dt h266) (.cons (nf h269) (.cons (vf h270) (.cons (show 0 + 6 ≤ 6 by decide) (.cons (show 0 + 6 ≤ 6 by decide) (.cons (show 1 + 1 ≤ 6 by decide) (.cons (show 2 + 1 ≤ 6 by decide) (.cons (show 3 + 1 ≤ 6 by decide) (.cons (show (4 : Int) ≠ 0 by decide) (.cons (show (2 : Int) ≠ 0 by decide) (.cons (df h273) .nil))))))))))))))) (G_ringlaw5_ModeSays_C8_ok hF (.s (cR (cR (cR (cR (cR (cR (cR (cR (cR (cR (cR (cR (cR (cR (cR (bodyOf Try.f4)))))))))))))))) :: []) n v_n4 v_m5 v_r138 v_r164 v_c2 v_s1 _ h332 ?_)
                  cases v_o266 with
                  | x0 v_z267 =>
                    dsimp only at h
                    obtain ⟨v_o270, h335, h⟩ := bind_some h
                    refine pkk_sound TTok mix hF 2 (hs := []) (ts := []) (s := [0, 1, 2, 3, 4, 5]) (l := [3, 4, 5, 6, 13, 14, 15, 16, 18, 19, 20, 21, 22]) (by kernel_rfl) (by kernel_rfl) .nil (G_ringlaw5_ModeSays_C9_ok hF (.s (cR (cL (cR (cR (cR (cR (cR (cR (cR (cR (cR (cR (cR (cR (cR (cR (cR (bodyOf Try.f4)))))))))))))))))) :: .s (cR (cR (cR (cR (cR (cR (cR (cR (cR (cR (cR (cR (cR (cR (cR (cR (bodyOf Try.f4))))))))))))))))) :: []) n v_n4 v_m5 v_r138 v_r164 v_c2 v_z267 v_s1 _ h335 ?_)
                    cases v_o270 with
                    | x0 v_z271 =>
                      dsimp only at h
                      obtain ⟨v_o297, h366, h⟩ := bind_some h
                      refine pkk_sound TTok mix hF 0 (hs := []) (ts := []) (s := [0, 1, 2, 3, 4, 5]) (l := [3, 4, 5, 6, 13, 14, 15, 16, 18, 19, 20, 21, 22, 145]) (by kernel_rfl) (by kernel_rfl) .nil (G_ringlaw5_ModeSays_C11_ok hF (.s (cR (cR (cR (cR (cR (cR (cR (cR (cR (cR (cR (cR (cR (cR (cR (cR (bodyOf Try.f4))))))))))))))))) :: []) n v_n4 v_m5 v_r138 v_r164 v_c2 v_z267 v_z271 v_s1 _ h366 ?_)
                      cases v_o297 with
                      | x0 v_z298 =>
                        dsimp only at h
                        by_cases h367 : v_z267 = 0
                        · rw [if_pos h367] at h
                          by_cases h383 : v_z298 = 0
                          · rw [if_pos h383] at h
                            obtain ⟨v_o321, h397, h⟩ := bind_some h
                            refine pkk_sound TTok mix hF 11 (hs := [.t false, .t false]) (ts := []) (s := [0, 1, 2, 3]) (l := [13, 14, 15, 16, 18, 19, 21, 22]) (by kernel_rfl) (by kernel_rfl) (.cons (nf h367) (.cons (nf h383) .nil)) (G_ringlaw5_ModeSays_C15_ok hF (.s (cR (cR (cR (cR (cR (cR (cR (cR (cR (cR (cR (cR (cR (cR (cR (cR (cR (cR (cR (bodyOf Try.f4)))))))))))))))))))) :: []) n v_r138 v_r164 v_z267 v_z298 v_s1 v_n4 v_m5 _ h397 ?_)
                            cases v_o321 with
                            | x0 v_z322 =>
                              dsimp only at h
                              obtain rfl := Option.some.inj h
                              exact pend_sound TTok mix 1 (hs := []) (by kernel_rfl) (by kernel_rfl) (by kernel_rfl) .nil
                          · rw [if_neg h383] at h
                            obtain ⟨v_o315, h390, h⟩ := bind_some h
                            refine pkk_sound TTok mix hF 11 (hs := [.t false, .t true, .c]) (ts := []) (s := [0, 1, 2, 3]) (l := [13, 14, 15, 16, 18, 19, 21, 22]) (by kernel_rfl) (by kernel_rfl) (.cons (nf h367) (.cons (nt h383) (.cons (show 0 + 6 ≤ 6 by decide) .nil))) (G_ringlaw5_ModeSays_C14_ok hF (.s (cR (cR (cR (cR (cR (cR (cR (cR (cR (cR (cR (cR (cR (cR (cR (cR (cR (cR (cR (bodyOf Try.f4)))))))))))))))))))) :: []) n v_r138 v_r164 v_z267 v_z298 v_s1 v_n4 _ h390 ?_)
                            cases v_o315 with
                            | x0 v_z316 =>
                              dsimp only at h
                              obtain rfl := Option.some.inj h
                              exact pend_sound TTok mix 1 (hs := []) (by kernel_rfl) (by kernel_rfl) (by kernel_rfl) .nil
                        · rw [if_neg h367] at h
                          by_cases h368 : v_z298 = 0
                          · rw [if_pos h368] at h
                            obtain ⟨v_o309, h382, h⟩ := bind_some h
                            refine pkk_sound TTok mix hF 11 (hs := [.t true, .c, .t false]) (ts := []) (s := [0, 1, 2, 3]) (l := [13, 14, 15, 16, 18, 19, 21, 22]) (by kernel_rfl) (by kernel_rfl) (.cons (nt h367) (.cons (show 0 + 6 ≤ 6 by decide) (.cons (nf h368) .nil))) (G_ringlaw5_ModeSays_C13_ok hF (.s (cR (cR (cR (cR (cR (cR (cR (cR (cR (cR (cR (cR (cR (cR (cR (cR (cR (cR (cR (bodyOf Try.f4)))))))))))))))))))) :: []) n v_r138 v_r164 v_z267 v_z298 v_s1 v_n4 v_m5 _ h382 ?_)
                            cases v_o309 with
                            | x0 v_z310 =>
                              dsimp only at h
                              obtain rfl := Option.some.inj h
                              exact pend_sound TTok mix 1 (hs := []) (by kernel_rfl) (by kernel_rfl) (by kernel_rfl) .nil
                          · rw [if_neg h368] at h
                            obtain ⟨v_o303, h375, h⟩ := bind_some h
                            refine pkk_sound TTok mix hF 11 (hs := [.t true, .c, .t true, .c]) (ts := []) (s := [0, 1, 2, 3]) (l := [13, 14, 15, 16, 18, 19, 21, 22]) (by kernel_rfl) (by kernel_rfl) (.cons (nt h367) (.cons (show 0 + 6 ≤ 6 by decide) (.cons (nt h368) (.cons (show 0 + 6 ≤ 6 by decide) .nil)))) (G_ringlaw5_ModeSays_C12_ok hF (.s (cR (cR (cR (cR (cR (cR (cR (cR (cR (cR (cR (cR (cR (cR (cR (cR (cR (cR (cR (bodyOf Try.f4)))))))))))))))))))) :: []) n v_r138 v_r164 v_z267 v_z298 _ h375 ?_)
                            cases v_o303 with
                            | x0 v_z304 =>
                              dsimp only at h
                              obtain rfl := Option.some.inj h
                              exact pend_sound TTok mix 1 (hs := []) (by kernel_rfl) (by kernel_rfl) (by kernel_rfl) .nil
            · rw [if_neg h269] at h
              obtain rfl := Option.some.inj h
              exact pend_sound TTok mix 21 (hs := [.c, .r ((eI .i64) v_r199), .c, .r ((eI .i64) v_r200), .t false, .t false, .t true, .c, .c, .t true, .c]) (by kernel_rfl) (by kernel_rfl) (by kernel_rfl) (.cons (G_mode_Check_ok n v_s1 _ h239) (.cons (G_ringref5_StatErr_ok n v_s1 _ h240) (.cons (nf h241) (.cons (nf h254) (.cons (dt h266) (.cons (nt h269) .nil))))))
          · rw [if_neg h266] at h
            obtain ⟨v_o360, h468, h⟩ := bind_some h
            refine pkk_sound TTok mix hF 13 (hs := [.c, .r ((eI .i64) v_r199), .c, .r ((eI .i64) v_r200), .t false, .t false, .t false, .c]) (ts := []) (s := [0, 1, 2, 3]) (l := [2, 3, 4, 5, 6, 11, 12, 13, 14, 15, 16, 92]) (by kernel_rfl) (by kernel_rfl) (.cons (G_mode_Check_ok n v_s1 _ h239) (.cons (G_ringref5_StatErr_ok n v_s1 _ h240) (.cons (nf h241) (.cons (nf h254) (.cons (df h266) .nil))))) (G_ringlaw5_ModeSays_C16_ok hF (.s (cR (cR (cR (cR (cR (cR (cR (cR (cR (cR (bodyOf Try.f4))))))))))) :: []) n v_want3 v_n4 v_m5 v_r133 v_r138 v_r164 v_s1 v_c2 _ h468 ?_)
            cases v_o360 with
            | x0 v_z361 =>
              dsimp only at h
              obtain rfl := Option.some.inj h
              exact pend_sound TTok mix 1 (hs := []) (by kernel_rfl) (by kernel_rfl) (by kernel_rfl) .nil
            | x1  =>
              dsimp only at h
              by_cases h471 : v_n4 < 0
              · rw [if_pos h471] at h
                obtain ⟨v_o364, h474, h⟩ := bind_some h
                refine pkk_sound TTok mix hF 15 (hs := [.c, .c, .c, .c, .c, .c, .c, .c, .t true, .c, .c]) (ts := []) (s := [0, 1, 2, 3, 10, 13]) (l := [3, 4, 5, 6, 13, 14, 15, 16, 18, 19, 20, 21, 22]) (by kernel_rfl) (by kernel_rfl) (.cons (show 0 + 6 ≤ 6 by decide) (.cons (show 0 + 6 ≤ 6 by decide) (.cons (show 1 + 1 ≤ 6 by decide) (.cons (show 2 + 1 ≤ 6 by decide) (.cons (show 3 + 1 ≤ 6 by decide) (.cons (show (4 : Int) ≠ 0 by decide) (.cons (show (2 : Int) ≠ 0 by decide) (.cons (dt h471) .nil)))))))) (G_ringlaw5_ModeSays_C17_ok hF (.s (cR (cL (cR (cR (cR (cR (cR (cR (cR (cR (cR (cR (cR (cR (cR (cR (cR (bodyOf Try.f4)))))))))))))))))) :: .s (cR (cR (cR (cR (cR (cR (cR (cR (cR (cR (cR (cR (cR (cR (cR (cR (bodyOf Try.f4))))))))))))))))) :: []) n v_n4 v_m5 v_r138 v_r164 v_c2 v_s1 _ h474 ?_)
                cases v_o364 with
                | x0 v_z365 =>
                  dsimp only at h
                  obtain ⟨v_o391, h505, h⟩ := bind_some h
                  refine pkk_sound TTok mix hF 0 (hs := []) (ts := []) (s := [0, 1, 2, 3, 4, 5]) (l := [3, 4, 5, 6, 13, 14, 15, 16, 18, 19, 20, 21, 22, 145]) (by kernel_rfl) (by kernel_rfl) .nil (G_ringlaw5_ModeSays_C19_ok hF (.s (cR (cR (cR (cR (cR (cR (cR (cR (cR (cR (cR (cR (cR (cR (cR (cR (bodyOf Try.f4))))))))))))))))) :: []) n v_n4 v_m5 v_r138 v_r164 v_c2 v_z365 v_s1 _ h505 ?_)
                  cases v_o391 with
                  | x0 v_z392 =>
                    dsimp only at h
                    by_cases h506 : v_z392 = 0
                    · rw [if_pos h506] at h
                      obtain ⟨v_o403, h520, h⟩ := bind_some h
                      refine pkk_sound TTok mix hF 11 (hs := [.c, .c, .t false]) (ts := []) (s := [0, 1, 2, 3]) (l := [13, 14, 15, 16, 18, 19, 21, 22]) (by kernel_rfl) (by kernel_rfl) (.cons (show 0 + 6 ≤ 6 by decide) (.cons (nf h506) .nil)) (G_ringlaw5_ModeSays_C21_ok hF (.s (cR (cR (cR (cR (cR (cR (cR (cR (cR (cR (cR (cR (cR (cR (cR (cR (cR (cR (cR (bodyOf Try.f4)))))))))))))))))))) :: []) n v_r138 v_r164 v_z392 v_s1 v_n4 v_m5 _ h520 ?_)
                      cases v_o403 with
                      | x0 v_z404 =>
                        dsimp only at h
                        obtain rfl := Option.some.inj h
                        exact pend_sound TTok mix 1 (hs := []) (by kernel_rfl) (by kernel_rfl) (by kernel_rfl) .nil
                    · rw [if_neg h506] at h
                      obtain ⟨v_o397, h513, h⟩ := bind_some h
                      refine pkk_sound TTok mix hF 11 (hs := [.c, .c, .t true, .c]) (ts := []) (s := [0, 1, 2, 3]) (l := [13, 14, 15, 16, 18, 19, 21, 22]) (by kernel_rfl) (by kernel_rfl) (.cons (show 0 + 6 ≤ 6 by decide) (.cons (nt h506) (.cons (show 0 + 6 ≤ 6 by decide) .nil))) (G_ringlaw5_ModeSays_C20_ok hF (.s (cR (cR (cR (cR (cR (cR (cR (cR (cR (cR (cR (cR (cR (cR (cR (cR (cR (cR (cR (bodyOf Try.f4)))))))))))))))))))) :: []) n v_r138 v_r164 v_z392 _ h513 ?_)
                      cases v_o397 with
                      | x0 v_z398 =>
                        dsimp only at h
                        obtain rfl := Option.some.inj h
                        exact pend_sound TTok mix 1 (hs := []) (by kernel_rfl) (by kernel_rfl) (by kernel_rfl) .nil
              · rw [if_neg h471] at h
                obtain ⟨v_o409, h529, h⟩ := bind_some h
                refine pkk_sound TTok mix hF 11 (hs := [.c, .c, .c, .c, .c, .c, .c, .c, .t false, .c]) (ts := []) (s := [0, 1, 2, 3, 10, 13]) (l := [3, 4, 5, 6, 13, 14, 15, 16, 18, 19, 20, 21, 22, 126]) (by kernel_rfl) (by kernel_rfl) (.cons (show 0 + 6 ≤ 6 by decide) (.cons (show 0 + 6 ≤ 6 by decide) (.cons (show 1 + 1 ≤ 6 by decide) (.cons (show 2 + 1 ≤ 6 by decide) (.cons (show 3 + 1 ≤ 6 by decide) (.cons (show (4 : Int) ≠ 0 by decide) (.cons (show (2 : Int) ≠ 0 by decide) (.cons (df h471) .nil)))))))) (G_ringlaw5_ModeSays_C22_ok hF (.s (cR (cR (cR (cR (cR (cR (cR (cR (cR (cR (cR (cR (cR (cR (cR (bodyOf Try.f4)))))))))))))))) :: []) n v_n4 v_m5 v_r138 v_r164 v_c2 v_s1 _ h529 ?_)
                cases v_o409 with
                | x0 v_z410 =>
                  dsimp only at h
                  obtain ⟨v_o413, h532, h⟩ := bind_some h
                  refine pkk_sound TTok mix hF 2 (hs := []) (ts := []) (s := [0, 1, 2, 3, 4, 5]) (l := [3, 4, 5, 6, 13, 14, 15, 16, 18, 19, 20, 21, 22]) (by kernel_rfl) (by kernel_rfl) .nil (G_ringlaw5_ModeSays_C23_ok hF (.s (cR (cL (cR (cR (cR (cR (cR (cR (cR (cR (cR (cR (cR (cR (cR (cR (cR (bodyOf Try.f4)))))))))))))))))) :: .s (cR (cR (cR (cR (cR (cR (cR (cR (cR (cR (cR (cR (cR (cR (cR (cR (bodyOf Try.f4))))))))))))))))) :: []) n v_n4 v_m5 v_r138 v_r164 v_c2 v_z410 v_s1 _ h532 ?_)
                  cases v_o413 with
                  | x0 v_z414 =>
                    dsimp only at h
                    obtain ⟨v_o440, h563, h⟩ := bind_some h
                    refine pkk_sound TTok mix hF 0 (hs := []) (ts := []) (s := [0, 1, 2, 3, 4, 5]) (l := [3, 4, 5, 6, 13, 14, 15, 16, 18, 19, 20, 21, 22, 145]) (by kernel_rfl) (by kernel_rfl) .nil (G_ringlaw5_ModeSays_C25_ok hF (.s (cR (cR (cR (cR (cR (cR (cR (cR (cR (cR (cR (cR (cR (cR (cR (cR (bodyOf Try.f4))))))))))))))))) :: []) n v_n4 v_m5 v_r138 v_r164 v_c2 v_z410 v_z414 v_s1 _ h563 ?_)
                    cases v_o440 with
                    | x0 v_z441 =>
                      dsimp only at h
                      by_cases h564 : v_z410 = 0
                      · rw [if_pos h564] at h
                        by_cases h580 : v_z441 = 0
                        · rw [if_pos h580] at h
                          obtain ⟨v_o464, h594, h⟩ := bind_some h
                          refine pkk_sound TTok mix hF 11 (hs := [.t false, .t false]) (ts := []) (s := [0, 1, 2, 3]) (l := [13, 14, 15, 16, 18, 19, 21, 22]) (by kernel_rfl) (by kernel_rfl) (.cons (nf h564) (.cons (nf h580) .nil)) (G_ringlaw5_ModeSays_C29_ok hF (.s (cR (cR (cR (cR (cR (cR (cR (cR (cR (cR (cR (cR (cR (cR (cR (cR (cR (cR (cR (bodyOf Try.f4)))))))))))))))))))) :: []) n v_r138 v_r164 v_z410 v_z441 v_s1 v_n4 v_m5 _ h594 ?_)
                          cases v_o464 with
                          | x0 v_z465 =>
                            dsimp only at h
                            obtain rfl := Option.some.inj h
                            exact pend_sound TTok mix 1 (hs := []) (by kernel_rfl) (by kernel_rfl) (by kernel_rfl) .nil
                        · rw [if_neg h580] at h
                          obtain ⟨v_o458, h587, h⟩ := bind_some h
                          refine pkk_sound TTok mix hF 11 (hs := [.t false, .t true, .c]) (ts := []) (s := [0, 1, 2, 3]) (l := [13, 14, 15, 16, 18, 19, 21, 22]) (by kernel_rfl) (by kernel_rfl) (.cons (nf h564) (.cons (nt h580) (.cons (show 0 + 6 ≤ 6 by decide) .nil))) (G_ringlaw5_ModeSays_C28_ok hF (.s (cR (cR (cR (cR (cR (cR (cR (cR (cR (cR (cR (cR (cR (cR (cR (cR (cR (cR (cR (bodyOf Try.f4)))))))))))))))))))) :: []) n v_r138 v_r164 v_z410 v_z441 v_s1 v_n4 _ h587 ?_)
                          cases v_o458 with
                          | x0 v_z459 =>
                            dsimp only at h
                            obtain rfl := Option.some.inj h
                            exact pend_sound TTok mix 1 (hs := []) (by kernel_rfl) (by kernel_rfl) (by kernel_rfl) .nil
                      · rw [if_neg h564] at h
                        by_cases h565 : v_z441 = 0
                        · rw [if_pos h565] at h
                          obtain ⟨v_o452, h579, h⟩ := bind_some h
                          refine pkk_sound TTok mix hF 11 (hs := [.t true, .c, .t false]) (ts := []) (s := [0, 1, 2, 3]) (l := [13, 14, 15, 16, 18, 19, 21, 22]) (by kernel_rfl) (by kernel_rfl) (.cons (nt h564) (.cons (show 0 + 6 ≤ 6 by decide) (.cons (nf h565) .nil))) (G_ringlaw5_ModeSays_C27_ok hF (.s (cR (cR (cR (cR (cR (cR (cR (cR (cR (cR (cR (cR (cR (cR (cR (cR (cR (cR (cR (bodyOf Try.f4)))))))))))))))))))) :: []) n v_r138 v_r164 v_z410 v_z441 v_s1 v_n4 v_m5 _ h579 ?_)
                          cases v_o452 with
                          | x0 v_z453 =>
                            dsimp only at h
                            obtain rfl := Option.some.inj h
                            exact pend_sound TTok mix 1 (hs := []) (by kernel_rfl) (by kernel_rfl) (by kernel_rfl) .nil
                        · rw [if_neg h565] at h
                          obtain ⟨v_o446, h572, h⟩ := bind_some h
                          refine pkk_sound TTok mix hF 11 (hs := [.t true, .c, .t true, .c]) (ts := []) (s := [0, 1, 2, 3]) (l := [13, 14, 15, 16, 18, 19, 21, 22]) (by kernel_rfl) (by kernel_rfl) (.cons (nt h564) (.cons (show 0 + 6 ≤ 6 by decide) (.cons (nt h565) (.cons (show 0 + 6 ≤ 6 by decide) .nil)))) (G_ringlaw5_ModeSays_C26_ok hF (.s (cR (cR (cR (cR (cR (cR (cR (cR (cR (cR (cR (cR (cR (cR (cR (cR (cR (cR (cR (bodyOf Try.f4)))))))))))))))))))) :: []) n v_r138 v_r164 v_z410 v_z441 _ h572 ?_)
                          cases v_o446 with
                          | x0 v_z447 =>
                            dsimp only at h
                            obtain rfl := Option.some.inj h
                            exact pend_sound TTok mix 1 (hs := []) (by kernel_rfl) (by kernel_rfl) (by kernel_rfl) .nil
        · rw [if_neg h254] at h
          obtain ⟨v_o215, h265, h⟩ := bind_some h
          refine pkk_sound TTok mix hF 10 (hs := [.c, .r ((eI .i64) v_r199), .c, .r ((eI .i64) v_r200), .t false, .t true]) (ts := []) (s := [2, 3]) (l := [11, 12, 13, 14, 15, 16, 17]) (by kernel_rfl) (by kernel_rfl) (.cons (G_mode_Check_ok n v_s1 _ h239) (.cons (G_ringref5_StatErr_ok n v_s1 _ h240) (.cons (nf h241) (.cons (nt h254) .nil)))) (G_ringlaw5_ModeSays_C2_ok hF (.s (cR (cT (cR (cL (cR (cR (cR (cR (cR (cR (cR (cR (bodyOf Try.f4))))))))))))) :: .s (cR (cR (cR (cR (cR (cR (cR (cR (cR (bodyOf Try.f4)))))))))) :: []) n v_r133 v_r138 v_r164 v_z198 _ h265 ?_)
          cases v_o215 with
          | x0 v_z216 =>
            dsimp only at h
            obtain rfl := Option.some.inj h
            exact pend_sound TTok mix 2 (hs := []) (by kernel_rfl) (by kernel_rfl) (by kernel_rfl) .nil
      · rw [if_neg h241] at h
        obtain rfl := Option.some.inj h
        exact pend_sound TTok mix 8 (hs := [.c, .r ((eI .i64) v_r199), .c, .r ((eI .i64) v_r200), .t true]) (by kernel_rfl) (by kernel_rfl) (by kernel_rfl) (.cons (G_mode_Check_ok n v_s1 _ h239) (.cons (G_ringref5_StatErr_ok n v_s1 _ h240) (.cons (nt h241) .nil)))
  · rw [if_neg h155] at h
    obtain rfl := Option.some.inj h
    exact pend_sound TTok mix 10 (hs := [.r (eB v_r132), .t true]) (by kernel_rfl) (by kernel_rfl) (by kernel_rfl) (.cons (G_ringlaw5_mays_ok n  _ h154) (.cons (bnt (vf h155)) .nil))
def okS_api_Stat (x : S_api_Stat) : Prop := (fun a => (Lit.int .i64 a).wf = true) x.fKind ∧ (fun a => (Lit.int .i64 a).wf = true) x.fMode ∧ (fun a => (Lit.int .i64 a).wf = true) x.fUser ∧ (fun a => (Lit.int .i64 a).wf = true) x.fGroup ∧ (fun a => (Lit.int .i64 a).wf = true) x.fSize ∧ (fun a => (Lit.int .i64 a).wf = true) x.fLinks ∧ True
theorem brS_api_Stat : Br (.pair (.int .i64) (.pair (.int .i64) (.pair (.int .i64) (.pair (.int .i64) (.pair (.int .i64) (.pair (.int .i64) .unit)))))) (fun x : S_api_Stat => [.v (.int .i64 x.fKind), .v (.int .i64 x.fMode), .v (.int .i64 x.fUser), .v (.int .i64 x.fGroup), .v (.int .i64 x.fSize), .v (.int .i64 x.fLinks)]) okS_api_Stat := br_map (br_pair (br_int .i64) (br_pair (br_int .i64) (br_pair (br_int .i64) (br_pair (br_int .i64) (br_pair (br_int .i64) (br_pair (br_int .i64) br_unit)))))) (fun p => S_api_Stat.mk p.1 p.2.1 p.2.2.1 p.2.2.2.1 p.2.2.2.2.1 p.2.2.2.2.2.1) (fun p h => ⟨rfl, h⟩)
def okS_api_Cred (x : S_api_Cred) : Prop := (fun a => (Lit.int .i64 a).wf = true) x.fUser ∧ (fun a => (Lit.int .i64 a).wf = true) x.fGroup ∧ (okL 8 (fun a => (Lit.int .i64 a).wf = true)) x.fMore ∧ (fun a => (Lit.int .i64 a).wf = true) x.fCaps ∧ (fun a => (Lit.int .i64 a).wf = true) x.fLevel ∧ (fun a => (Lit.int .i64 a).wf = true) x.fKind ∧ True
theorem brS_api_Cred : Br (.pair (.int .i64) (.pair (.int .i64) (.pair (.slice 8 (.int .i64)) (.pair (.int .i64) (.pair (.int .i64) (.pair (.int .i64) .unit)))))) (fun x : S_api_Cred => [.v (.int .i64 x.fUser), .v (.int .i64 x.fGroup), .sl (x.fMore.map (eI .i64)), .v (.int .i64 x.fCaps), .v (.int .i64 x.fLevel), .v (.int .i64 x.fKind)]) okS_api_Cred := br_map (br_pair (br_int .i64) (br_pair (br_int .i64) (br_pair (br_slice (f := (eI .i64)) (ok := (fun a => (Lit.int .i64 a).wf = true)) (br_int .i64) (fun _ => rfl) (by decide)) (br_pair (br_int .i64) (br_pair (br_int .i64) (br_pair (br_int .i64) br_unit)))))) (fun p => S_api_Cred.mk p.1 p.2.1 p.2.2.1 p.2.2.2.1 p.2.2.2.2.1 p.2.2.2.2.2.1) (fun p h => ⟨rfl, h⟩)
theorem ModeSays_walk (H : ∀ (a0 : S_api_Stat) (a1 : S_api_Cred) (a2 : Int) (a3 : Int) (a4 : Int), okS_api_Stat a0 → okS_api_Cred a1 → (fun a => (Lit.int .i64 a).wf = true) a2 → (fun a => (Lit.int .i64 a).wf = true) a3 → (fun a => (Lit.int .i64 a).wf = true) a4 → ∃ n, G_ringlaw5_ModeSays n a0 a1 a2 a3 a4 = some true) (w : World) (v0 : Value) (v1 : Value) (v2 : Value) (v3 : Value) (v4 : Value) (h0 : rep.Arg w (.pair (.int .i64) (.pair (.int .i64) (.pair (.int .i64) (.pair (.int .i64) (.pair (.int .i64) (.pair (.int .i64) .unit)))))) v0) (h1 : rep.Arg w (.pair (.int .i64) (.pair (.int .i64) (.pair (.slice 8 (.int .i64)) (.pair (.int .i64) (.pair (.int .i64) (.pair (.int .i64) .unit)))))) v1) (h2 : rep.Arg w (.int .i64) v2) (h3 : rep.Arg w (.int .i64) v3) (h4 : rep.Arg w (.int .i64) v4) : Calls Try.prog 4 #[v0, v1, v2, v3, v4] w (help.Ret (.bool true) w) := by
  obtain ⟨a0, o0, r0⟩ := arg_agg brS_api_Stat (by rfl) h0
  obtain ⟨a1, o1, r1⟩ := arg_agg brS_api_Cred (by rfl) h1
  obtain ⟨a2, o2, r2⟩ := arg_one (br_int .i64) (by rfl) h2
  obtain ⟨a3, o3, r3⟩ := arg_one (br_int .i64) (by rfl) h3
  obtain ⟨a4, o4, r4⟩ := arg_one (br_int .i64) (by rfl) h4
  obtain ⟨n, hn⟩ := H a0 a1 a2 a3 a4 o0 o1 o2 o3 o4
  exact walk_of (G_ringlaw5_ModeSays_ok n a0 a1 a2 a3 a4 true hn) (RT_cons r0 (RT_cons r1 (RT_cons r2 (RT_cons r3 (RT_cons r4 RT_nil)))))
/- FRAME ModeSays; ringhall/ringlaw5.ModeSays; (.pair (.int .i64) (.pair (.int .i64) (.pair (.int .i64) (.pair (.int .i64) (.pair (.int .i64) (.pair (.int .i64) .unit)))))) | (.pair (.int .i64) (.pair (.int .i64) (.pair (.slice 8 (.int .i64)) (.pair (.int .i64) (.pair (.int .i64) (.pair (.int .i64) .unit)))))) | (.int .i64) | (.int .i64) | (.int .i64); .agg #[.int .i64 0, .int .i64 0, .int .i64 0, .int .i64 0, .int .i64 0, .int .i64 0] | .agg #[.int .i64 0, .int .i64 0, .slice none 0 0, .int .i64 0, .int .i64 0, .int .i64 0] | .int .i64 0 | .int .i64 0 | .int .i64 0 -/
end Go.Proofs.Ytnmpnljjaoddhaa.pv
