/- What the functions compute (part 3): written by gen.py. -/
import Derived.Test.YtjjjaakefnnbpaaGuSigSaysP2
set_option maxRecDepth 100000
set_option linter.all false
namespace Go.Proofs.Ytjjjaakefnnbpaa.pv
open Go.RowKit
def G_ringlaw5_SigSays_C15_st (v_n2 : Int) (v_how3 : Int) (v_r40 : (S_sig_Set × Int)) (v_r44 : (S_sig_Set × Int)) (v_r51 : (S_sig_Set × Int)) (v_r86 : (S_sig_Set × Int)) (v_s1 : S_sig_Set) (v_r157 : (S_ringref5_Signals)) : G_ringlaw5_SigSays_C15_R → PS
  | .x0 v_x1192 => ⟨[dd, .d (.v (.int .i64 v_n2)), .d (.v (.int .i64 v_how3)), dd, .ref 0 0, dd, dd, dd, dd, .ref 1 0, .d (.v (.int .i64 v_r40.2)), .ref 2 0, .d (.v (.int .i64 v_r44.2)), .ref 3 0, .d (.v (.int .i64 v_r51.2)), dd, dd, dd, dd, dd, dd, dd, dd, .ref 4 0, dd, .ref 5 0, dd, dd, dd, dd, dd, dd, dd, dd, dd, dd, dd, dd, dd, dd, dd, dd, dd, dd, dd, dd, dd, dd, dd, dd, dd, dd, dd, dd, dd, dd, dd, dd, dd, dd, dd, dd, dd, dd, dd, dd, dd, dd, dd, dd, dd, dd, dd, dd, dd, dd, dd, dd, dd, dd, dd, dd, dd, dd, dd, dd, dd, dd, dd, dd, dd, dd, dd, dd, dd, dd, dd, dd, dd, dd, dd, dd, dd, dd, dd, dd, dd, dd, dd, dd, dd, dd, dd, dd, dd, dd, dd, dd, dd, dd, dd, dd, dd, dd, dd, dd, dd, dd, dd, dd, dd, dd, dd, dd, dd, dd, dd, dd, dd, dd, dd, dd, dd, dd, dd, dd, dd, dd, dd, dd, dd, dd, dd, dd, dd, dd, dd, dd, dd, dd, dd, dd, dd, dd, dd, dd, dd, dd, dd, dd, dd, dd, dd, dd, dd, dd, dd, dd, dd, dd, dd, dd, dd, dd, dd, dd, dd, dd, dd, dd, dd, dd, dd, dd, dd, dd, dd, dd, dd, dd, dd, dd, dd, dd, dd, dd, dd, dd, dd, dd, dd, dd, dd, dd, dd, dd, dd, dd, dd, dd, dd, dd, dd, dd, dd, dd, dd, dd, dd, dd, dd, dd, dd, dd, .d (.v (.bool v_x1192)), dd, dd, dd, dd, dd, dd, dd, dd, dd, dd, dd, dd, dd, dd, dd, dd, dd, dd, dd, dd, dd, dd, dd, dd, dd, dd, dd, dd, dd, dd, dd, dd, dd, dd, dd, dd, dd, dd, dd, dd, dd, dd, dd, dd, dd, dd, dd, dd, dd, dd, dd, dd, dd, dd, dd, dd, dd, dd, dd, dd, dd, dd, dd, dd, dd, dd, dd, dd, dd, dd, dd, dd, dd, dd, dd, dd, dd, dd, dd, dd, dd, dd, dd, dd, dd, dd, dd, dd, dd, dd, dd, dd, dd, dd, dd, dd, dd, dd, dd, dd, dd, dd, dd, dd, dd, dd, dd, dd, dd, dd, dd, dd, dd, dd, dd, dd, dd], [.box ((cS_sig_Set v_s1).map FV.d), .box ((cS_sig_Set v_r40.1).map FV.d), .box ((cS_sig_Set v_r44.1).map FV.d), .box ((cS_sig_Set v_r51.1).map FV.d), .box ((cS_sig_Set (S_sig_Set.mk 0 0 (fun (_ : Fin 16) => 0))).map FV.d), .box ((cS_ringref5_Signals v_r157).map FV.d)]⟩
def G_ringlaw5_SigSays_C15_hd (v_n2 : Int) (v_how3 : Int) (v_r40 : (S_sig_Set × Int)) (v_r44 : (S_sig_Set × Int)) (v_r51 : (S_sig_Set × Int)) (v_r86 : (S_sig_Set × Int)) (v_s1 : S_sig_Set) (v_r157 : (S_ringref5_Signals))  : PS := ⟨[dd, .d (.v (.int .i64 v_n2)), .d (.v (.int .i64 v_how3)), dd, .ref 0 0, dd, dd, dd, dd, .ref 1 0, .d (.v (.int .i64 v_r40.2)), .ref 2 0, .d (.v (.int .i64 v_r44.2)), .ref 3 0, .d (.v (.int .i64 v_r51.2)), dd, dd, dd, dd, dd, dd, .ref 4 0, .d (.v (.int .i64 v_r86.2)), .ref 5 0, dd, .ref 6 0, dd, .ref 7 0, dd, dd, dd, dd, dd, dd, dd, dd, dd, dd, dd, dd, dd, dd, dd, dd, dd, dd, dd, dd, dd, dd, dd, dd, dd, dd, dd, dd, dd, dd, dd, dd, dd, dd, dd, dd, dd, dd, dd, dd, dd, dd, dd, dd, dd, dd, dd, dd, dd, dd, dd, dd, dd, dd, dd, dd, dd, dd, dd, dd, dd, dd, dd, dd, dd, dd, dd, dd, dd, dd, dd, dd, dd, dd, dd, dd, dd, dd, dd, dd, dd, dd, dd, dd, dd, dd, dd, dd, dd, dd, dd, dd, dd, dd, dd, dd, dd, dd, dd, dd, dd, dd, dd, dd, dd, dd, dd, dd, dd, dd, dd, dd, dd, dd, dd, dd, dd, dd, dd, dd, dd, dd, dd, dd, dd, dd, dd, dd, dd, dd, dd, dd, dd, dd, dd, dd, dd, dd, dd, dd, dd, dd, dd, dd, dd, dd, dd, dd, dd, dd, dd, dd, dd, dd, dd, dd, dd, dd, dd, dd, dd, dd, dd, dd, dd, dd, dd, dd, dd, dd, dd, dd, dd, dd, dd, dd, dd, dd, dd, dd, dd, dd, dd, dd, dd, dd, dd, dd, dd, dd, dd, dd, dd, dd, dd, dd, dd, dd, dd, dd, dd, dd, dd, dd, dd, dd, dd, dd, dd, dd, dd, dd, dd, dd, dd, dd, dd, dd, dd, dd, dd, dd, dd, dd, dd, dd, dd, dd, dd, dd, dd, dd, dd, dd, dd, dd, dd, dd, dd, dd, dd, dd, dd, dd, dd, dd, dd, dd, dd, dd, dd, dd, dd, dd, dd, dd, dd, dd, dd, dd, dd, dd, dd, dd, dd, dd, dd, dd, dd, dd, dd, dd, dd, dd, dd, dd, dd, dd, dd, dd, dd, dd, dd, dd, dd, dd, dd, dd, dd, dd, dd, dd, dd, dd, dd, dd, dd, dd, dd, dd, dd, dd, dd, dd, dd, dd, dd, dd, dd, dd, dd, dd, dd, dd, dd, dd, dd, dd, dd, dd, dd, dd, dd, dd], [.box ((cS_sig_Set v_s1).map FV.d), .box ((cS_sig_Set v_r40.1).map FV.d), .box ((cS_sig_Set v_r44.1).map FV.d), .box ((cS_sig_Set v_r51.1).map FV.d), .box ((cS_sig_Set v_r86.1).map FV.d), .box ((cS_sig_Set (S_sig_Set.mk 0 0 (fun (_ : Fin 16) => 0))).map FV.d), .box ((cS_ringref5_Signals v_r157).map FV.d), .box ([.d (vnil), .d (.sl (v_r157.fBack.map (eI .i64)))] ++ ((cA_t87 v_r157.fHow).map FV.d))]⟩
def G_ringlaw5_SigSays_C15 (n : Nat) (v_n2 : Int) (v_how3 : Int) (v_r40 : (S_sig_Set × Int)) (v_r44 : (S_sig_Set × Int)) (v_r51 : (S_sig_Set × Int)) (v_r86 : (S_sig_Set × Int)) (v_s1 : S_sig_Set) (v_r157 : (S_ringref5_Signals)) : Option G_ringlaw5_SigSays_C15_R :=
  if v_r86.2 = 0 then
   (G_ringlaw5_same n v_r86.1 (S_ringref5_Signals.mk ([] : (List Int)) v_r157.fBack v_r157.fHow)).bind fun (v_r1193 : (Bool)) =>
   some (.x0 (!v_r1193))
  else
   some (.x0 true)
theorem G_ringlaw5_SigSays_C15_ok {Fi : Ex → PS → Prop} (hF : KC 352 Fi) (ks : List Fr) (n : Nat) (v_n2 : Int) (v_how3 : Int) (v_r40 : (S_sig_Set × Int)) (v_r44 : (S_sig_Set × Int)) (v_r51 : (S_sig_Set × Int)) (v_r86 : (S_sig_Set × Int)) (v_s1 : S_sig_Set) (v_r157 : (S_ringref5_Signals))  (o : G_ringlaw5_SigSays_C15_R) (h : G_ringlaw5_SigSays_C15 n v_n2 v_how3 v_r40 v_r44 v_r51 v_r86 v_s1 v_r157 = some o) (q : RunE Try.prog 352 Fi ks (G_ringlaw5_SigSays_C15_ex o) (G_ringlaw5_SigSays_C15_st v_n2 v_how3 v_r40 v_r44 v_r51 v_r86 v_s1 v_r157 o)) : RunE Try.prog 352 Fi (.s (cL (cL (cR (cR (cR (cR (cR (cR (cR (cR (cR (cR (cR (cR (cR (cR (cR (bodyOf Try.f7)))))))))))))))))) :: ks) .normal (G_ringlaw5_SigSays_C15_hd v_n2 v_how3 v_r40 v_r44 v_r51 v_r86 v_s1 v_r157) := by
  unfold G_ringlaw5_SigSays_C15 at h
  by_cases h1363 : v_r86.2 = 0
  · rw [if_pos h1363] at h
    obtain ⟨v_r1193, h1364, h⟩ := bind_some h
    cases h
    exact pkk_sound TTok mix hF 1 (hs := [.t false, .c, .c, .c, .c, .r (eB v_r1193), .c]) (ts := []) (s := [0, 1, 2, 3, 5, 6]) (l := [1, 2, 4, 9, 10, 11, 12, 13, 14, 23, 25, 234]) (by kernel_rfl) (by kernel_rfl) (.cons (nf h1363) (.cons (G_ringlaw5_same_ok n v_r86.1 (S_ringref5_Signals.mk ([] : (List Int)) v_r157.fBack v_r157.fHow) _ h1364) .nil)) q
  · rw [if_neg h1363] at h
    cases h
    exact pkk_sound TTok mix hF 1 (hs := [.t true, .c, .c, .c]) (ts := []) (s := [0, 1, 2, 3, 5, 6]) (l := [1, 2, 4, 9, 10, 11, 12, 13, 14, 23, 25, 234]) (by kernel_rfl) (by kernel_rfl) (.cons (nt h1363) .nil) q
inductive G_ringlaw5_SigSays_C16_R where
  | x0 (v_x1197 : Bool)
def G_ringlaw5_SigSays_C16_ex : G_ringlaw5_SigSays_C16_R → Ex
  | .x0 _ => .normal
def G_ringlaw5_SigSays_C16_st (v_n2 : Int) (v_how3 : Int) (v_r40 : (S_sig_Set × Int)) (v_r44 : (S_sig_Set × Int)) (v_r51 : (S_sig_Set × Int)) (v_s1 : S_sig_Set) (v_r157 : (S_ringref5_Signals)) : G_ringlaw5_SigSays_C16_R → PS
  | .x0 v_x1197 => ⟨[dd, .d (.v (.int .i64 v_n2)), .d (.v (.int .i64 v_how3)), dd, .ref 0 0, dd, dd, dd, dd, .ref 1 0, .d (.v (.int .i64 v_r40.2)), .ref 2 0, .d (.v (.int .i64 v_r44.2)), .ref 3 0, .d (.v (.int .i64 v_r51.2)), dd, dd, dd, dd, dd, dd, dd, dd, .ref 4 0, dd, .ref 5 0, dd, dd, dd, dd, dd, dd, dd, dd, dd, dd, dd, dd, dd, dd, dd, dd, dd, dd, dd, dd, dd, dd, dd, dd, dd, dd, dd, dd, dd, dd, dd, dd, dd, dd, dd, dd, dd, dd, dd, dd, dd, dd, dd, dd, dd, dd, dd, dd, dd, dd, dd, dd, dd, dd, dd, dd, dd, dd, dd, dd, dd, dd, dd, dd, dd, dd, dd, dd, dd, dd, dd, dd, dd, dd, dd, dd, dd, dd, dd, dd, dd, dd, dd, dd, dd, dd, dd, dd, dd, dd, dd, dd, dd, dd, dd, dd, dd, dd, dd, dd, dd, dd, dd, dd, dd, dd, dd, dd, dd, dd, dd, dd, dd, dd, dd, dd, dd, dd, dd, dd, dd, dd, dd, dd, dd, dd, dd, dd, dd, dd, dd, dd, dd, dd, dd, dd, dd, dd, dd, dd, dd, dd, dd, dd, dd, dd, dd, dd, dd, dd, dd, dd, dd, dd, dd, dd, dd, dd, dd, dd, dd, dd, dd, dd, dd, dd, dd, dd, dd, dd, dd, dd, dd, dd, dd, dd, dd, dd, dd, dd, dd, dd, dd, dd, dd, dd, dd, dd, dd, dd, dd, dd, dd, dd, dd, dd, dd, dd, dd, dd, dd, dd, dd, dd, dd, dd, dd, dd, dd, dd, dd, dd, dd, dd, dd, dd, dd, dd, dd, .d (.v (.bool v_x1197)), dd, dd, dd, dd, dd, dd, dd, dd, dd, dd, dd, dd, dd, dd, dd, dd, dd, dd, dd, dd, dd, dd, dd, dd, dd, dd, dd, dd, dd, dd, dd, dd, dd, dd, dd, dd, dd, dd, dd, dd, dd, dd, dd, dd, dd, dd, dd, dd, dd, dd, dd, dd, dd, dd, dd, dd, dd, dd, dd, dd, dd, dd, dd, dd, dd, dd, dd, dd, dd, dd, dd, dd, dd, dd, dd, dd, dd, dd, dd, dd, dd, dd, dd, dd, dd, dd, dd, dd, dd, dd, dd, dd, dd, dd, dd, dd, dd, dd, dd, dd, dd, dd, dd, dd, dd, dd], [.box ((cS_sig_Set v_s1).map FV.d), .box ((cS_sig_Set v_r40.1).map FV.d), .box ((cS_sig_Set v_r44.1).map FV.d), .box ((cS_sig_Set v_r51.1).map FV.d), .box ((cS_sig_Set (S_sig_Set.mk 0 0 (fun (_ : Fin 16) => 0))).map FV.d), .box ((cS_ringref5_Signals v_r157).map FV.d)]⟩
def G_ringlaw5_SigSays_C16_hd (v_n2 : Int) (v_how3 : Int) (v_r40 : (S_sig_Set × Int)) (v_r44 : (S_sig_Set × Int)) (v_r51 : (S_sig_Set × Int)) (v_s1 : S_sig_Set) (v_r157 : (S_ringref5_Signals))  : PS := ⟨[dd, .d (.v (.int .i64 v_n2)), .d (.v (.int .i64 v_how3)), dd, .ref 0 0, dd, dd, dd, dd, .ref 1 0, .d (.v (.int .i64 v_r40.2)), .ref 2 0, .d (.v (.int .i64 v_r44.2)), .ref 3 0, .d (.v (.int .i64 v_r51.2)), dd, dd, dd, dd, dd, dd, dd, dd, .ref 4 0, dd, .ref 5 0, dd, dd, dd, dd, dd, dd, dd, dd, dd, dd, dd, dd, dd, dd, dd, dd, dd, dd, dd, dd, dd, dd, dd, dd, dd, dd, dd, dd, dd, dd, dd, dd, dd, dd, dd, dd, dd, dd, dd, dd, dd, dd, dd, dd, dd, dd, dd, dd, dd, dd, dd, dd, dd, dd, dd, dd, dd, dd, dd, dd, dd, dd, dd, dd, dd, dd, dd, dd, dd, dd, dd, dd, dd, dd, dd, dd, dd, dd, dd, dd, dd, dd, dd, dd, dd, dd, dd, dd, dd, dd, dd, dd, dd, dd, dd, dd, dd, dd, dd, dd, dd, dd, dd, dd, dd, dd, dd, dd, dd, dd, dd, dd, dd, dd, dd, dd, dd, dd, dd, dd, dd, dd, dd, dd, dd, dd, dd, dd, dd, dd, dd, dd, dd, dd, dd, dd, dd, dd, dd, dd, dd, dd, dd, dd, dd, dd, dd, dd, dd, dd, dd, dd, dd, dd, dd, dd, dd, dd, dd, dd, dd, dd, dd, dd, dd, dd, dd, dd, dd, dd, dd, dd, dd, dd, dd, dd, dd, dd, dd, dd, dd, dd, dd, dd, dd, dd, dd, dd, dd, dd, dd, dd, dd, dd, dd, dd, dd, dd, dd, dd, dd, dd, dd, dd, dd, dd, dd, dd, dd, dd, dd, dd, dd, dd, dd, dd, dd, dd, dd, dd, dd, dd, dd, dd, dd, dd, dd, dd, dd, dd, dd, dd, dd, dd, dd, dd, dd, dd, dd, dd, dd, dd, dd, dd, dd, dd, dd, dd, dd, dd, dd, dd, dd, dd, dd, dd, dd, dd, dd, dd, dd, dd, dd, dd, dd, dd, dd, dd, dd, dd, dd, dd, dd, dd, dd, dd, dd, dd, dd, dd, dd, dd, dd, dd, dd, dd, dd, dd, dd, dd, dd, dd, dd, dd, dd, dd, dd, dd, dd, dd, dd, dd, dd, dd, dd, dd, dd, dd, dd, dd, dd, dd, dd, dd, dd, dd, dd, dd, dd, dd, dd, dd, dd, dd, dd, dd], [.box ((cS_sig_Set v_s1).map FV.d), .box ((cS_sig_Set v_r40.1).map FV.d), .box ((cS_sig_Set v_r44.1).map FV.d), .box ((cS_sig_Set v_r51.1).map FV.d), .box ((cS_sig_Set (S_sig_Set.mk 0 0 (fun (_ : Fin 16) => 0))).map FV.d), .box ((cS_ringref5_Signals v_r157).map FV.d)]⟩
def G_ringlaw5_SigSays_C16 (n : Nat) (v_n2 : Int) (v_how3 : Int) (v_r40 : (S_sig_Set × Int)) (v_r44 : (S_sig_Set × Int)) (v_r51 : (S_sig_Set × Int)) (v_s1 : S_sig_Set) (v_r157 : (S_ringref5_Signals)) : Option G_ringlaw5_SigSays_C16_R :=
  if v_n2 < 0 then
   some (.x0 true)
  else
   if v_n2 > 65535 then
    some (.x0 true)
   else
    some (.x0 ((remI v_n2 2) == 1))
theorem G_ringlaw5_SigSays_C16_ok {Fi : Ex → PS → Prop} (hF : KC 352 Fi) (ks : List Fr) (n : Nat) (v_n2 : Int) (v_how3 : Int) (v_r40 : (S_sig_Set × Int)) (v_r44 : (S_sig_Set × Int)) (v_r51 : (S_sig_Set × Int)) (v_s1 : S_sig_Set) (v_r157 : (S_ringref5_Signals))  (o : G_ringlaw5_SigSays_C16_R) (h : G_ringlaw5_SigSays_C16 n v_n2 v_how3 v_r40 v_r44 v_r51 v_s1 v_r157 = some o) (q : RunE Try.prog 352 Fi ks (G_ringlaw5_SigSays_C16_ex o) (G_ringlaw5_SigSays_C16_st v_n2 v_how3 v_r40 v_r44 v_r51 v_s1 v_r157 o)) : RunE Try.prog 352 Fi (.s (cL (cL (cR (cR (cR (cR (cR (cR (cR (cR (cR (cR (cR (cR (cR (cR (cR (cR (bodyOf Try.f7))))))))))))))))))) :: ks) .normal (G_ringlaw5_SigSays_C16_hd v_n2 v_how3 v_r40 v_r44 v_r51 v_s1 v_r157) := by
  unfold G_ringlaw5_SigSays_C16 at h
  by_cases h1370 : v_n2 < 0
  · rw [if_pos h1370] at h
    cases h
    exact pkk_sound TTok mix hF 1 (hs := [.t true, .c, .c, .c, .c]) (ts := []) (s := [0, 1, 2, 3, 4, 5]) (l := [1, 2, 4, 9, 10, 11, 12, 13, 14, 23, 25, 245]) (by kernel_rfl) (by kernel_rfl) (.cons (dt h1370) .nil) q
  · rw [if_neg h1370] at h
    by_cases h1371 : v_n2 > 65535
    · rw [if_pos h1371] at h
      cases h
      exact pkk_sound TTok mix hF 1 (hs := [.t false, .c, .t true, .c, .c]) (ts := []) (s := [0, 1, 2, 3, 4, 5]) (l := [1, 2, 4, 9, 10, 11, 12, 13, 14, 23, 25, 245]) (by kernel_rfl) (by kernel_rfl) (.cons (df h1370) (.cons (dt h1371) .nil)) q
    · rw [if_neg h1371] at h
      cases h
      exact pkk_sound TTok mix hF 1 (hs := [.t false, .c, .t false, .c, .c]) (ts := []) (s := [0, 1, 2, 3, 4, 5]) (l := [1, 2, 4, 9, 10, 11, 12, 13, 14, 23, 25, 245]) (by kernel_rfl) (by kernel_rfl) (.cons (df h1370) (.cons (df h1371) (.cons (show (2 : Int) ≠ 0 by decide) .nil))) q
inductive G_ringlaw5_SigSays_C17_R where
  | x0 (v_x1210 : Bool)
def G_ringlaw5_SigSays_C17_ex : G_ringlaw5_SigSays_C17_R → Ex
  | .x0 _ => .normal
def G_ringlaw5_SigSays_C17_st (v_n2 : Int) (v_how3 : Int) (v_r40 : (S_sig_Set × Int)) (v_r44 : (S_sig_Set × Int)) (v_r51 : (S_sig_Set × Int)) (v_s1 : S_sig_Set) (v_r157 : (S_ringref5_Signals)) : G_ringlaw5_SigSays_C17_R → PS
  | .x0 v_x1210 => ⟨[dd, .d (.v (.int .i64 v_n2)), .d (.v (.int .i64 v_how3)), dd, dd, dd, dd, dd, dd, .ref 0 0, .d (.v (.int .i64 v_r40.2)), dd, dd, .ref 1 0, .d (.v (.int .i64 v_r51.2)), dd, dd, dd, dd, dd, dd, dd, dd, .ref 2 0, dd, .ref 3 0, dd, dd, dd, dd, dd, dd, dd, dd, dd, dd, dd, dd, dd, dd, dd, dd, dd, dd, dd, dd, dd, dd, dd, dd, dd, dd, dd, dd, dd, dd, dd, dd, dd, dd, dd, dd, dd, dd, dd, dd, dd, dd, dd, dd, dd, dd, dd, dd, dd, dd, dd, dd, dd, dd, dd, dd, dd, dd, dd, dd, dd, dd, dd, dd, dd, dd, dd, dd, dd, dd, dd, dd, dd, dd, dd, dd, dd, dd, dd, dd, dd, dd, dd, dd, dd, dd, dd, dd, dd, dd, dd, dd, dd, dd, dd, dd, dd, dd, dd, dd, dd, dd, dd, dd, dd, dd, dd, dd, dd, dd, dd, dd, dd, dd, dd, dd, dd, dd, dd, dd, dd, dd, dd, dd, dd, dd, dd, dd, dd, dd, dd, dd, dd, dd, dd, dd, dd, dd, dd, dd, dd, dd, dd, dd, dd, dd, dd, dd, dd, dd, dd, dd, dd, dd, dd, dd, dd, dd, dd, dd, dd, dd, dd, dd, dd, dd, dd, dd, dd, dd, dd, dd, dd, dd, dd, dd, dd, dd, dd, dd, dd, dd, dd, dd, dd, dd, dd, dd, dd, dd, dd, dd, dd, dd, dd, dd, dd, dd, dd, dd, dd, dd, dd, dd, dd, dd, dd, dd, dd, dd, dd, dd, dd, dd, dd, dd, dd, dd, dd, dd, dd, dd, dd, dd, dd, dd, dd, dd, dd, dd, dd, dd, dd, dd, dd, dd, dd, dd, dd, dd, dd, dd, dd, dd, dd, dd, dd, dd, dd, dd, dd, .d (.v (.bool v_x1210)), dd, dd, dd, dd, dd, dd, dd, dd, dd, dd, dd, dd, dd, dd, dd, dd, dd, dd, dd, dd, dd, dd, dd, dd, dd, dd, dd, dd, dd, dd, dd, dd, dd, dd, dd, dd, dd, dd, dd, dd, dd, dd, dd, dd, dd, dd, dd, dd, dd, dd, dd, dd, dd, dd, dd, dd, dd, dd, dd, dd, dd, dd, dd, dd, dd, dd, dd, dd, dd, dd, dd, dd, dd, dd], [.box ((cS_sig_Set v_r40.1).map FV.d), .box ((cS_sig_Set v_r51.1).map FV.d), .box ((cS_sig_Set (S_sig_Set.mk 0 0 (fun (_ : Fin 16) => 0))).map FV.d), .box ((cS_ringref5_Signals v_r157).map FV.d)]⟩
def G_ringlaw5_SigSays_C17_hd (v_n2 : Int) (v_how3 : Int) (v_r40 : (S_sig_Set × Int)) (v_r44 : (S_sig_Set × Int)) (v_r51 : (S_sig_Set × Int)) (v_s1 : S_sig_Set) (v_r157 : (S_ringref5_Signals))  : PS := ⟨[dd, .d (.v (.int .i64 v_n2)), .d (.v (.int .i64 v_how3)), dd, .ref 0 0, dd, dd, dd, dd, .ref 1 0, .d (.v (.int .i64 v_r40.2)), .ref 2 0, .d (.v (.int .i64 v_r44.2)), .ref 3 0, .d (.v (.int .i64 v_r51.2)), dd, dd, dd, dd, dd, dd, dd, dd, .ref 4 0, dd, .ref 5 0, dd, dd, dd, dd, dd, dd, dd, dd, dd, dd, dd, dd, dd, dd, dd, dd, dd, dd, dd, dd, dd, dd, dd, dd, dd, dd, dd, dd, dd, dd, dd, dd, dd, dd, dd, dd, dd, dd, dd, dd, dd, dd, dd, dd, dd, dd, dd, dd, dd, dd, dd, dd, dd, dd, dd, dd, dd, dd, dd, dd, dd, dd, dd, dd, dd, dd, dd, dd, dd, dd, dd, dd, dd, dd, dd, dd, dd, dd, dd, dd, dd, dd, dd, dd, dd, dd, dd, dd, dd, dd, dd, dd, dd, dd, dd, dd, dd, dd, dd, dd, dd, dd, dd, dd, dd, dd, dd, dd, dd, dd, dd, dd, dd, dd, dd, dd, dd, dd, dd, dd, dd, dd, dd, dd, dd, dd, dd, dd, dd, dd, dd, dd, dd, dd, dd, dd, dd, dd, dd, dd, dd, dd, dd, dd, dd, dd, dd, dd, dd, dd, dd, dd, dd, dd, dd, dd, dd, dd, dd, dd, dd, dd, dd, dd, dd, dd, dd, dd, dd, dd, dd, dd, dd, dd, dd, dd, dd, dd, dd, dd, dd, dd, dd, dd, dd, dd, dd, dd, dd, dd, dd, dd, dd, dd, dd, dd, dd, dd, dd, dd, dd, dd, dd, dd, dd, dd, dd, dd, dd, dd, dd, dd, dd, dd, dd, dd, dd, dd, dd, dd, dd, dd, dd, dd, dd, dd, dd, dd, dd, dd, dd, dd, dd, dd, dd, dd, dd, dd, dd, dd, dd, dd, dd, dd, dd, dd, dd, dd, dd, dd, dd, dd, dd, dd, dd, dd, dd, dd, dd, dd, dd, dd, dd, dd, dd, dd, dd, dd, dd, dd, dd, dd, dd, dd, dd, dd, dd, dd, dd, dd, dd, dd, dd, dd, dd, dd, dd, dd, dd, dd, dd, dd, dd, dd, dd, dd, dd, dd, dd, dd, dd, dd, dd, dd, dd, dd, dd, dd, dd, dd, dd, dd, dd, dd, dd, dd, dd, dd, dd, dd, dd, dd, dd, dd, dd, dd], [.box ((cS_sig_Set v_s1).map FV.d), .box ((cS_sig_Set v_r40.1).map FV.d), .box ((cS_sig_Set v_r44.1).map FV.d), .box ((cS_sig_Set v_r51.1).map FV.d), .box ((cS_sig_Set (S_sig_Set.mk 0 0 (fun (_ : Fin 16) => 0))).map FV.d), .box ((cS_ringref5_Signals v_r157).map FV.d)]⟩
def G_ringlaw5_SigSays_C17 (n : Nat) (v_n2 : Int) (v_how3 : Int) (v_r40 : (S_sig_Set × Int)) (v_r44 : (S_sig_Set × Int)) (v_r51 : (S_sig_Set × Int)) (v_s1 : S_sig_Set) (v_r157 : (S_ringref5_Signals)) : Option G_ringlaw5_SigSays_C17_R :=
  if v_r44.2 = 0 then
   if v_r44.1.fMask = (wi .i64 (v_n2 - (bits .and .i64 v_n2 512))) then
    if v_r44.1.fPending = v_s1.fPending then
     some (.x0 (eqRes .neq (eqA_16_int v_r44.1.fHow v_s1.fHow)))
    else
     some (.x0 true)
   else
    some (.x0 true)
  else
   some (.x0 true)
theorem G_ringlaw5_SigSays_C17_ok {Fi : Ex → PS → Prop} (hF : KC 352 Fi) (ks : List Fr) (n : Nat) (v_n2 : Int) (v_how3 : Int) (v_r40 : (S_sig_Set × Int)) (v_r44 : (S_sig_Set × Int)) (v_r51 : (S_sig_Set × Int)) (v_s1 : S_sig_Set) (v_r157 : (S_ringref5_Signals))  (o : G_ringlaw5_SigSays_C17_R) (h : G_ringlaw5_SigSays_C17 n v_n2 v_how3 v_r40 v_r44 v_r51 v_s1 v_r157 = some o) (q : RunE Try.prog 352 Fi ks (G_ringlaw5_SigSays_C17_ex o) (G_ringlaw5_SigSays_C17_st v_n2 v_how3 v_r40 v_r44 v_r51 v_s1 v_r157 o)) : RunE Try.prog 352 Fi (.s (cL (cF (cR (cL (cR (cR (cR (cR (cR (cR (cR (cR (cR (cR (cR (cR (cR (cR (cR (cR (bodyOf Try.f7))))))))))))))))))))) :: ks) .normal (G_ringlaw5_SigSays_C17_hd v_n2 v_how3 v_r40 v_r44 v_r51 v_s1 v_r157) := by
  unfold G_ringlaw5_SigSays_C17 at h
  by_cases h1391 : v_r44.2 = 0
  · rw [if_pos h1391] at h
    by_cases h1392 : v_r44.1.fMask = (wi .i64 (v_n2 - (bits .and .i64 v_n2 512)))
    · rw [if_pos h1392] at h
      by_cases h1393 : v_r44.1.fPending = v_s1.fPending
      · rw [if_pos h1393] at h
        cases h
        exact pkk_sound TTok mix hF 1 (hs := [.t false, .c, .c, .c, .c, .c, .c, .c, .t false, .c, .c, .c, .c, .c, .c, .t false, .c, .c, .c, .c, .c, .c, .q (eqA_16_int v_r44.1.fHow v_s1.fHow)]) (ts := []) (s := [1, 3, 4, 5]) (l := [1, 2, 9, 10, 13, 14, 23, 25, 277]) (by kernel_rfl) (by kernel_rfl) (.cons (nf h1391) (.cons (nf h1392) (.cons (nf h1393) (.cons (eqA_16_int_ok v_r44.1.fHow v_s1.fHow) .nil)))) q
      · rw [if_neg h1393] at h
        cases h
        exact pkk_sound TTok mix hF 1 (hs := [.t false, .c, .c, .c, .c, .c, .c, .c, .t false, .c, .c, .c, .c, .c, .c, .t true, .c, .c, .c, .c]) (ts := []) (s := [1, 3, 4, 5]) (l := [1, 2, 9, 10, 13, 14, 23, 25, 277]) (by kernel_rfl) (by kernel_rfl) (.cons (nf h1391) (.cons (nf h1392) (.cons (nt h1393) .nil))) q
    · rw [if_neg h1392] at h
      cases h
      exact pkk_sound TTok mix hF 1 (hs := [.t false, .c, .c, .c, .c, .c, .c, .c, .t true, .c, .c, .c, .c, .c, .c, .c, .c, .c]) (ts := []) (s := [1, 3, 4, 5]) (l := [1, 2, 9, 10, 13, 14, 23, 25, 277]) (by kernel_rfl) (by kernel_rfl) (.cons (nf h1391) (.cons (nt h1392) .nil)) q
  · rw [if_neg h1391] at h
    cases h
    exact pkk_sound TTok mix hF 1 (hs := [.t true, .c, .c, .c, .c, .c, .c, .c, .c, .c, .c, .c, .c, .c, .c, .c, .c]) (ts := []) (s := [1, 3, 4, 5]) (l := [1, 2, 9, 10, 13, 14, 23, 25, 277]) (by kernel_rfl) (by kernel_rfl) (.cons (nt h1391) .nil) q
inductive G_ringlaw5_SigSays_C18_R where
  | x0 (v_x1208 : Bool)
  | x1 
def G_ringlaw5_SigSays_C18_ex : G_ringlaw5_SigSays_C18_R → Ex
  | .x0 _ => .ret
  | .x1  => .normal
def G_ringlaw5_SigSays_C18_st (v_n2 : Int) (v_how3 : Int) (v_r40 : (S_sig_Set × Int)) (v_r44 : (S_sig_Set × Int)) (v_r51 : (S_sig_Set × Int)) (v_z1201 : Bool) (v_s1 : S_sig_Set) (v_r157 : (S_ringref5_Signals)) : G_ringlaw5_SigSays_C18_R → PS
  | .x0 v_x1208 => ⟨[dd, dd, dd, dd, dd, dd, dd, dd, .d (.v (.bool v_x1208)), dd, dd, dd, dd, dd, dd, dd, dd, dd, dd, dd, dd, dd, dd, dd, dd, dd, dd, dd, dd, dd, dd, dd, dd, dd, dd, dd, dd, dd, dd, dd, dd, dd, dd, dd, dd, dd, dd, dd, dd, dd, dd, dd, dd, dd, dd, dd, dd, dd, dd, dd, dd, dd, dd, dd, dd, dd, dd, dd, dd, dd, dd, dd, dd, dd, dd, dd, dd, dd, dd, dd, dd, dd, dd, dd, dd, dd, dd, dd, dd, dd, dd, dd, dd, dd, dd, dd, dd, dd, dd, dd, dd, dd, dd, dd, dd, dd, dd, dd, dd, dd, dd, dd, dd, dd, dd, dd, dd, dd, dd, dd, dd, dd, dd, dd, dd, dd, dd, dd, dd, dd, dd, dd, dd, dd, dd, dd, dd, dd, dd, dd, dd, dd, dd, dd, dd, dd, dd, dd, dd, dd, dd, dd, dd, dd, dd, dd, dd, dd, dd, dd, dd, dd, dd, dd, dd, dd, dd, dd, dd, dd, dd, dd, dd, dd, dd, dd, dd, dd, dd, dd, dd, dd, dd, dd, dd, dd, dd, dd, dd, dd, dd, dd, dd, dd, dd, dd, dd, dd, dd, dd, dd, dd, dd, dd, dd, dd, dd, dd, dd, dd, dd, dd, dd, dd, dd, dd, dd, dd, dd, dd, dd, dd, dd, dd, dd, dd, dd, dd, dd, dd, dd, dd, dd, dd, dd, dd, dd, dd, dd, dd, dd, dd, dd, dd, dd, dd, dd, dd, dd, dd, dd, dd, dd, dd, dd, dd, dd, dd, dd, dd, dd, dd, dd, dd, dd, dd, dd, dd, dd, dd, dd, dd, dd, dd, dd, dd, dd, dd, dd, dd, dd, dd, dd, dd, dd, dd, dd, dd, dd, dd, dd, dd, dd, dd, dd, dd, dd, dd, dd, dd, dd, dd, dd, dd, dd, dd, dd, dd, dd, dd, dd, dd, dd, dd, dd, dd, dd, dd, dd, dd, dd, dd, dd, dd, dd, dd, dd, dd, dd, dd, dd, dd, dd, dd, dd, dd, dd, dd, dd, dd, dd, dd, dd, dd, dd, dd, dd, dd, dd, dd, dd, dd], []⟩
  | .x1  => ⟨[dd, .d (.v (.int .i64 v_n2)), .d (.v (.int .i64 v_how3)), dd, dd, dd, dd, dd, dd, .ref 0 0, .d (.v (.int .i64 v_r40.2)), dd, dd, .ref 1 0, .d (.v (.int .i64 v_r51.2)), dd, dd, dd, dd, dd, dd, dd, dd, .ref 2 0, dd, .ref 3 0, dd, dd, dd, dd, dd, dd, dd, dd, dd, dd, dd, dd, dd, dd, dd, dd, dd, dd, dd, dd, dd, dd, dd, dd, dd, dd, dd, dd, dd, dd, dd, dd, dd, dd, dd, dd, dd, dd, dd, dd, dd, dd, dd, dd, dd, dd, dd, dd, dd, dd, dd, dd, dd, dd, dd, dd, dd, dd, dd, dd, dd, dd, dd, dd, dd, dd, dd, dd, dd, dd, dd, dd, dd, dd, dd, dd, dd, dd, dd, dd, dd, dd, dd, dd, dd, dd, dd, dd, dd, dd, dd, dd, dd, dd, dd, dd, dd, dd, dd, dd, dd, dd, dd, dd, dd, dd, dd, dd, dd, dd, dd, dd, dd, dd, dd, dd, dd, dd, dd, dd, dd, dd, dd, dd, dd, dd, dd, dd, dd, dd, dd, dd, dd, dd, dd, dd, dd, dd, dd, dd, dd, dd, dd, dd, dd, dd, dd, dd, dd, dd, dd, dd, dd, dd, dd, dd, dd, dd, dd, dd, dd, dd, dd, dd, dd, dd, dd, dd, dd, dd, dd, dd, dd, dd, dd, dd, dd, dd, dd, dd, dd, dd, dd, dd, dd, dd, dd, dd, dd, dd, dd, dd, dd, dd, dd, dd, dd, dd, dd, dd, dd, dd, dd, dd, dd, dd, dd, dd, dd, dd, dd, dd, dd, dd, dd, dd, dd, dd, dd, dd, dd, dd, dd, dd, dd, dd, dd, dd, dd, dd, dd, dd, dd, dd, dd, dd, dd, dd, dd, dd, dd, dd, dd, dd, dd, dd, dd, dd, dd, dd, dd, dd, dd, dd, dd, dd, dd, dd, dd, dd, dd, dd, dd, dd, dd, dd, dd, dd, dd, dd, dd, dd, dd, dd, dd, dd, dd, dd, dd, dd, dd, dd, dd, dd, dd, dd, dd, dd, dd, dd, dd, dd, dd, dd, dd, dd, dd, dd, dd, dd, dd, dd, dd, dd, dd, dd, dd, dd, dd, dd, dd, dd, dd, dd, dd, dd, dd, dd, dd, dd, dd, dd, dd, dd, dd, dd], [.box ((cS_sig_Set v_r40.1).map FV.d), .box ((cS_sig_Set v_r51.1).map FV.d), .box ((cS_sig_Set (S_sig_Set.mk 0 0 (fun (_ : Fin 16) => 0))).map FV.d), .box ((cS_ringref5_Signals v_r157).map FV.d)]⟩
def G_ringlaw5_SigSays_C18_hd (v_n2 : Int) (v_how3 : Int) (v_r40 : (S_sig_Set × Int)) (v_r44 : (S_sig_Set × Int)) (v_r51 : (S_sig_Set × Int)) (v_z1201 : Bool) (v_s1 : S_sig_Set) (v_r157 : (S_ringref5_Signals))  : PS := ⟨[dd, .d (.v (.int .i64 v_n2)), .d (.v (.int .i64 v_how3)), dd, .ref 0 0, dd, dd, dd, dd, .ref 1 0, .d (.v (.int .i64 v_r40.2)), .ref 2 0, .d (.v (.int .i64 v_r44.2)), .ref 3 0, .d (.v (.int .i64 v_r51.2)), dd, dd, dd, dd, dd, dd, dd, dd, .ref 4 0, dd, .ref 5 0, dd, dd, dd, dd, dd, dd, dd, dd, dd, dd, dd, dd, dd, dd, dd, dd, dd, dd, dd, dd, dd, dd, dd, dd, dd, dd, dd, dd, dd, dd, dd, dd, dd, dd, dd, dd, dd, dd, dd, dd, dd, dd, dd, dd, dd, dd, dd, dd, dd, dd, dd, dd, dd, dd, dd, dd, dd, dd, dd, dd, dd, dd, dd, dd, dd, dd, dd, dd, dd, dd, dd, dd, dd, dd, dd, dd, dd, dd, dd, dd, dd, dd, dd, dd, dd, dd, dd, dd, dd, dd, dd, dd, dd, dd, dd, dd, dd, dd, dd, dd, dd, dd, dd, dd, dd, dd, dd, dd, dd, dd, dd, dd, dd, dd, dd, dd, dd, dd, dd, dd, dd, dd, dd, dd, dd, dd, dd, dd, dd, dd, dd, dd, dd, dd, dd, dd, dd, dd, dd, dd, dd, dd, dd, dd, dd, dd, dd, dd, dd, dd, dd, dd, dd, dd, dd, dd, dd, dd, dd, dd, dd, dd, dd, dd, dd, dd, dd, dd, dd, dd, dd, dd, dd, dd, dd, dd, dd, dd, dd, dd, dd, dd, dd, dd, dd, dd, dd, dd, dd, dd, dd, dd, dd, dd, dd, dd, dd, dd, dd, dd, dd, dd, dd, dd, dd, dd, dd, dd, dd, dd, dd, dd, dd, dd, dd, dd, dd, dd, dd, .d (.v (.bool v_z1201)), dd, dd, dd, dd, dd, dd, dd, dd, dd, dd, dd, dd, dd, dd, dd, dd, dd, dd, dd, dd, dd, dd, dd, dd, dd, dd, dd, dd, dd, dd, dd, dd, dd, dd, dd, dd, dd, dd, dd, dd, dd, dd, dd, dd, dd, dd, dd, dd, dd, dd, dd, dd, dd, dd, dd, dd, dd, dd, dd, dd, dd, dd, dd, dd, dd, dd, dd, dd, dd, dd, dd, dd, dd, dd, dd, dd, dd, dd, dd, dd, dd, dd, dd, dd, dd, dd, dd, dd, dd, dd, dd, dd, dd, dd, dd, dd, dd, dd, dd, dd, dd, dd, dd, dd, dd, dd], [.box ((cS_sig_Set v_s1).map FV.d), .box ((cS_sig_Set v_r40.1).map FV.d), .box ((cS_sig_Set v_r44.1).map FV.d), .box ((cS_sig_Set v_r51.1).map FV.d), .box ((cS_sig_Set (S_sig_Set.mk 0 0 (fun (_ : Fin 16) => 0))).map FV.d), .box ((cS_ringref5_Signals v_r157).map FV.d)]⟩
def G_ringlaw5_SigSays_C18 (n : Nat) (v_n2 : Int) (v_how3 : Int) (v_r40 : (S_sig_Set × Int)) (v_r44 : (S_sig_Set × Int)) (v_r51 : (S_sig_Set × Int)) (v_z1201 : Bool) (v_s1 : S_sig_Set) (v_r157 : (S_ringref5_Signals)) : Option G_ringlaw5_SigSays_C18_R :=
  if v_z1201 = true then
   if v_r44.2 = 1 then
    if (eqRes .neq (eqS_sig_Set v_r44.1 (S_sig_Set.mk 0 0 (fun (_ : Fin 16) => 0)))) = true then
     some (.x0 false)
    else
     some (.x1 )
   else
    some (.x0 false)
  else
   (G_ringlaw5_SigSays_C17 n v_n2 v_how3 v_r40 v_r44 v_r51 v_s1 v_r157).bind fun v_o1214 => match v_o1214 with
   | .x0 v_z1215 =>
     if v_z1215 = true then
      some (.x0 false)
     else
      some (.x1 )
theorem G_ringlaw5_SigSays_C18_ok {Fi : Ex → PS → Prop} (hF : KC 352 Fi) (ks : List Fr) (n : Nat) (v_n2 : Int) (v_how3 : Int) (v_r40 : (S_sig_Set × Int)) (v_r44 : (S_sig_Set × Int)) (v_r51 : (S_sig_Set × Int)) (v_z1201 : Bool) (v_s1 : S_sig_Set) (v_r157 : (S_ringref5_Signals))  (o : G_ringlaw5_SigSays_C18_R) (h : G_ringlaw5_SigSays_C18 n v_n2 v_how3 v_r40 v_r44 v_r51 v_z1201 v_s1 v_r157 = some o) (q : RunE Try.prog 352 Fi ks (G_ringlaw5_SigSays_C18_ex o) (G_ringlaw5_SigSays_C18_st v_n2 v_how3 v_r40 v_r44 v_r51 v_z1201 v_s1 v_r157 o)) : RunE Try.prog 352 Fi (.s (cR (cL (cR (cR (cR (cR (cR (cR (cR (cR (cR (cR (cR (cR (cR (cR (cR (cR (bodyOf Try.f7))))))))))))))))))) :: ks) .normal (G_ringlaw5_SigSays_C18_hd v_n2 v_how3 v_r40 v_r44 v_r51 v_z1201 v_s1 v_r157) := by
  unfold G_ringlaw5_SigSays_C18 at h
  by_cases h1385 : v_z1201 = true
  · rw [if_pos h1385] at h
    by_cases h1386 : v_r44.2 = 1
    · rw [if_pos h1386] at h
      by_cases h1387 : (eqRes .neq (eqS_sig_Set v_r44.1 (S_sig_Set.mk 0 0 (fun (_ : Fin 16) => 0)))) = true
      · rw [if_pos h1387] at h
        cases h
        exact pkk_sound TTok mix hF 7 (hs := [.t true, .t false, .c, .c, .c, .c, .q (eqS_sig_Set v_r44.1 (S_sig_Set.mk 0 0 (fun (_ : Fin 16) => 0))), .t true]) (ts := []) (s := []) (l := [8]) (by kernel_rfl) (by kernel_rfl) (.cons h1385 (.cons (nf h1386) (.cons (eqS_sig_Set_ok v_r44.1 (S_sig_Set.mk 0 0 (fun (_ : Fin 16) => 0))) (.cons h1387 .nil)))) q
      · rw [if_neg h1387] at h
        cases h
        exact pkk_sound TTok mix hF 5 (hs := [.t true, .t false, .c, .c, .c, .c, .q (eqS_sig_Set v_r44.1 (S_sig_Set.mk 0 0 (fun (_ : Fin 16) => 0))), .t false]) (ts := []) (s := [1, 3, 4, 5]) (l := [1, 2, 9, 10, 13, 14, 23, 25]) (by kernel_rfl) (by kernel_rfl) (.cons h1385 (.cons (nf h1386) (.cons (eqS_sig_Set_ok v_r44.1 (S_sig_Set.mk 0 0 (fun (_ : Fin 16) => 0))) (.cons (vf h1387) .nil)))) q
    · rw [if_neg h1386] at h
      cases h
      exact pkk_sound TTok mix hF 7 (hs := [.t true, .t true, .c, .c, .c]) (ts := []) (s := []) (l := [8]) (by kernel_rfl) (by kernel_rfl) (.cons h1385 (.cons (nt h1386) .nil)) q
  · rw [if_neg h1385] at h
    obtain ⟨v_o1214, h1394, h⟩ := bind_some h
    refine pkk_sound TTok mix hF 2 (hs := [.t false]) (ts := []) (s := [0, 1, 2, 3, 4, 5]) (l := [1, 2, 4, 9, 10, 11, 12, 13, 14, 23, 25]) (by kernel_rfl) (by kernel_rfl) (.cons (vf h1385) .nil) (G_ringlaw5_SigSays_C17_ok hF (.s (cR (cF (cR (cL (cR (cR (cR (cR (cR (cR (cR (cR (cR (cR (cR (cR (cR (cR (cR (cR (bodyOf Try.f7))))))))))))))))))))) :: ks) n v_n2 v_how3 v_r40 v_r44 v_r51 v_s1 v_r157 _ h1394 ?_)
    cases v_o1214 with
    | x0 v_z1215 =>
      try dsimp only at h
      by_cases h1395 : v_z1215 = true
      · rw [if_pos h1395] at h
        cases h
        exact pkk_sound TTok mix hF 4 (hs := [.t true]) (ts := []) (s := []) (l := [8]) (by kernel_rfl) (by kernel_rfl) (.cons h1395 .nil) q
      · rw [if_neg h1395] at h
        cases h
        exact pkk_sound TTok mix hF 2 (hs := [.t false]) (ts := []) (s := [0, 1, 2, 3]) (l := [1, 2, 9, 10, 13, 14, 23, 25]) (by kernel_rfl) (by kernel_rfl) (.cons (vf h1395) .nil) q
inductive G_ringlaw5_SigSays_C19_R where
  | x0 (v_x1225 : Bool)
def G_ringlaw5_SigSays_C19_ex : G_ringlaw5_SigSays_C19_R → Ex
  | .x0 _ => .normal
def G_ringlaw5_SigSays_C19_st (v_r40 : (S_sig_Set × Int)) (v_r51 : (S_sig_Set × Int)) : G_ringlaw5_SigSays_C19_R → PS
  | .x0 v_x1225 => ⟨[dd, dd, dd, dd, dd, dd, dd, dd, .d (.v (.bool v_x1225)), dd, dd, dd, dd, dd, dd, dd, dd, dd, dd, dd, dd, dd, dd, dd, dd, dd, dd, dd, dd, dd, dd, dd, dd, dd, dd, dd, dd, dd, dd, dd, dd, dd, dd, dd, dd, dd, dd, dd, dd, dd, dd, dd, dd, dd, dd, dd, dd, dd, dd, dd, dd, dd, dd, dd, dd, dd, dd, dd, dd, dd, dd, dd, dd, dd, dd, dd, dd, dd, dd, dd, dd, dd, dd, dd, dd, dd, dd, dd, dd, dd, dd, dd, dd, dd, dd, dd, dd, dd, dd, dd, dd, dd, dd, dd, dd, dd, dd, dd, dd, dd, dd, dd, dd, dd, dd, dd, dd, dd, dd, dd, dd, dd, dd, dd, dd, dd, dd, dd, dd, dd, dd, dd, dd, dd, dd, dd, dd, dd, dd, dd, dd, dd, dd, dd, dd, dd, dd, dd, dd, dd, dd, dd, dd, dd, dd, dd, dd, dd, dd, dd, dd, dd, dd, dd, dd, dd, dd, dd, dd, dd, dd, dd, dd, dd, dd, dd, dd, dd, dd, dd, dd, dd, dd, dd, dd, dd, dd, dd, dd, dd, dd, dd, dd, dd, dd, dd, dd, dd, dd, dd, dd, dd, dd, dd, dd, dd, dd, dd, dd, dd, dd, dd, dd, dd, dd, dd, dd, dd, dd, dd, dd, dd, dd, dd, dd, dd, dd, dd, dd, dd, dd, dd, dd, dd, dd, dd, dd, dd, dd, dd, dd, dd, dd, dd, dd, dd, dd, dd, dd, dd, dd, dd, dd, dd, dd, dd, dd, dd, dd, dd, dd, dd, dd, dd, dd, dd, dd, dd, dd, dd, dd, dd, dd, dd, dd, dd, dd, dd, dd, dd, dd, dd, dd, dd, dd, dd, dd, dd, dd, dd, dd, dd, dd, dd, dd, dd, dd, dd, dd, dd, dd, dd, dd, dd, dd, dd, dd, dd, dd, dd, dd, dd, dd, dd, dd, dd, dd, dd, dd, dd, dd, dd, dd, dd, dd, dd, dd, dd, dd, dd, dd, dd, dd, dd, dd, dd, dd, dd, dd, dd, dd, dd, dd, dd, dd, dd, dd, dd, dd, dd, dd, dd], []⟩
def G_ringlaw5_SigSays_C19_hd (v_r40 : (S_sig_Set × Int)) (v_r51 : (S_sig_Set × Int))  : PS := ⟨[dd, dd, dd, dd, dd, dd, dd, dd, dd, .ref 0 0, .d (.v (.int .i64 v_r40.2)), dd, dd, .ref 1 0, .d (.v (.int .i64 v_r51.2)), dd, dd, dd, dd, dd, dd, dd, dd, .ref 2 0, dd, dd, dd, dd, dd, dd, dd, dd, dd, dd, dd, dd, dd, dd, dd, dd, dd, dd, dd, dd, dd, dd, dd, dd, dd, dd, dd, dd, dd, dd, dd, dd, dd, dd, dd, dd, dd, dd, dd, dd, dd, dd, dd, dd, dd, dd, dd, dd, dd, dd, dd, dd, dd, dd, dd, dd, dd, dd, dd, dd, dd, dd, dd, dd, dd, dd, dd, dd, dd, dd, dd, dd, dd, dd, dd, dd, dd, dd, dd, dd, dd, dd, dd, dd, dd, dd, dd, dd, dd, dd, dd, dd, dd, dd, dd, dd, dd, dd, dd, dd, dd, dd, dd, dd, dd, dd, dd, dd, dd, dd, dd, dd, dd, dd, dd, dd, dd, dd, dd, dd, dd, dd, dd, dd, dd, dd, dd, dd, dd, dd, dd, dd, dd, dd, dd, dd, dd, dd, dd, dd, dd, dd, dd, dd, dd, dd, dd, dd, dd, dd, dd, dd, dd, dd, dd, dd, dd, dd, dd, dd, dd, dd, dd, dd, dd, dd, dd, dd, dd, dd, dd, dd, dd, dd, dd, dd, dd, dd, dd, dd, dd, dd, dd, dd, dd, dd, dd, dd, dd, dd, dd, dd, dd, dd, dd, dd, dd, dd, dd, dd, dd, dd, dd, dd, dd, dd, dd, dd, dd, dd, dd, dd, dd, dd, dd, dd, dd, dd, dd, dd, dd, dd, dd, dd, dd, dd, dd, dd, dd, dd, dd, dd, dd, dd, dd, dd, dd, dd, dd, dd, dd, dd, dd, dd, dd, dd, dd, dd, dd, dd, dd, dd, dd, dd, dd, dd, dd, dd, dd, dd, dd, dd, dd, dd, dd, dd, dd, dd, dd, dd, dd, dd, dd, dd, dd, dd, dd, dd, dd, dd, dd, dd, dd, dd, dd, dd, dd, dd, dd, dd, dd, dd, dd, dd, dd, dd, dd, dd, dd, dd, dd, dd, dd, dd, dd, dd, dd, dd, dd, dd, dd, dd, dd, dd, dd, dd, dd, dd, dd, dd, dd, dd, dd, dd, dd, dd, dd, dd], [.box ((cS_sig_Set v_r40.1).map FV.d), .box ((cS_sig_Set v_r51.1).map FV.d), .box ((cS_sig_Set (S_sig_Set.mk 0 0 (fun (_ : Fin 16) => 0))).map FV.d)]⟩
def G_ringlaw5_SigSays_C19 (n : Nat) (v_r40 : (S_sig_Set × Int)) (v_r51 : (S_sig_Set × Int)) : Option G_ringlaw5_SigSays_C19_R :=
  if v_r40.2 = 1 then
   if v_r51.2 = v_r40.2 then
    if (eqRes .eql (eqS_sig_Set v_r40.1 (S_sig_Set.mk 0 0 (fun (_ : Fin 16) => 0)))) = true then
     some (.x0 (eqRes .eql (eqS_sig_Set v_r51.1 (S_sig_Set.mk 0 0 (fun (_ : Fin 16) => 0)))))
    else
     some (.x0 false)
   else
    some (.x0 false)
  else
   some (.x0 false)
theorem G_ringlaw5_SigSays_C19_ok {Fi : Ex → PS → Prop} (hF : KC 352 Fi) (ks : List Fr) (n : Nat) (v_r40 : (S_sig_Set × Int)) (v_r51 : (S_sig_Set × Int))  (o : G_ringlaw5_SigSays_C19_R) (h : G_ringlaw5_SigSays_C19 n v_r40 v_r51 = some o) (q : RunE Try.prog 352 Fi ks (G_ringlaw5_SigSays_C19_ex o) (G_ringlaw5_SigSays_C19_st v_r40 v_r51 o)) : RunE Try.prog 352 Fi (.s (cL (cT (cR (cL (cR (cR (cR (cR (cR (cR (cR (cR (cR (cR (cR (cR (cR (cR (cR (cR (cR (bodyOf Try.f7)))))))))))))))))))))) :: ks) .normal (G_ringlaw5_SigSays_C19_hd v_r40 v_r51) := by
  unfold G_ringlaw5_SigSays_C19 at h
  by_cases h1408 : v_r40.2 = 1
  · rw [if_pos h1408] at h
    by_cases h1409 : v_r51.2 = v_r40.2
    · rw [if_pos h1409] at h
      by_cases h1410 : (eqRes .eql (eqS_sig_Set v_r40.1 (S_sig_Set.mk 0 0 (fun (_ : Fin 16) => 0)))) = true
      · rw [if_pos h1410] at h
        cases h
        exact pkk_sound TTok mix hF 1 (hs := [.t true, .c, .c, .t true, .c, .c, .c, .c, .q (eqS_sig_Set v_r40.1 (S_sig_Set.mk 0 0 (fun (_ : Fin 16) => 0))), .t true, .c, .c, .c, .c, .q (eqS_sig_Set v_r51.1 (S_sig_Set.mk 0 0 (fun (_ : Fin 16) => 0)))]) (ts := []) (s := []) (l := [8]) (by kernel_rfl) (by kernel_rfl) (.cons (bt h1408) (.cons (bt h1409) (.cons (eqS_sig_Set_ok v_r40.1 (S_sig_Set.mk 0 0 (fun (_ : Fin 16) => 0))) (.cons h1410 (.cons (eqS_sig_Set_ok v_r51.1 (S_sig_Set.mk 0 0 (fun (_ : Fin 16) => 0))) .nil))))) q
      · rw [if_neg h1410] at h
        cases h
        exact pkk_sound TTok mix hF 1 (hs := [.t true, .c, .c, .t true, .c, .c, .c, .c, .q (eqS_sig_Set v_r40.1 (S_sig_Set.mk 0 0 (fun (_ : Fin 16) => 0))), .t false, .c, .c]) (ts := []) (s := []) (l := [8]) (by kernel_rfl) (by kernel_rfl) (.cons (bt h1408) (.cons (bt h1409) (.cons (eqS_sig_Set_ok v_r40.1 (S_sig_Set.mk 0 0 (fun (_ : Fin 16) => 0))) (.cons (vf h1410) .nil)))) q
    · rw [if_neg h1409] at h
      cases h
      exact pkk_sound TTok mix hF 1 (hs := [.t true, .c, .c, .t false, .c, .c, .c, .c, .c]) (ts := []) (s := []) (l := [8]) (by kernel_rfl) (by kernel_rfl) (.cons (bt h1408) (.cons (bf h1409) .nil)) q
  · rw [if_neg h1408] at h
    cases h
    exact pkk_sound TTok mix hF 1 (hs := [.t false, .c, .c, .c, .c, .c, .c, .c, .c]) (ts := []) (s := []) (l := [8]) (by kernel_rfl) (by kernel_rfl) (.cons (bf h1408) .nil) q
inductive G_ringlaw5_SigSays_C20_R where
  | x0 (v_x1237 : Bool)
def G_ringlaw5_SigSays_C20_ex : G_ringlaw5_SigSays_C20_R → Ex
  | .x0 _ => .normal
def G_ringlaw5_SigSays_C20_st (v_r40 : (S_sig_Set × Int)) (v_r51 : (S_sig_Set × Int)) : G_ringlaw5_SigSays_C20_R → PS
  | .x0 v_x1237 => ⟨[dd, dd, dd, dd, dd, dd, dd, dd, .d (.v (.bool v_x1237)), dd, dd, dd, dd, dd, dd, dd, dd, dd, dd, dd, dd, dd, dd, dd, dd, dd, dd, dd, dd, dd, dd, dd, dd, dd, dd, dd, dd, dd, dd, dd, dd, dd, dd, dd, dd, dd, dd, dd, dd, dd, dd, dd, dd, dd, dd, dd, dd, dd, dd, dd, dd, dd, dd, dd, dd, dd, dd, dd, dd, dd, dd, dd, dd, dd, dd, dd, dd, dd, dd, dd, dd, dd, dd, dd, dd, dd, dd, dd, dd, dd, dd, dd, dd, dd, dd, dd, dd, dd, dd, dd, dd, dd, dd, dd, dd, dd, dd, dd, dd, dd, dd, dd, dd, dd, dd, dd, dd, dd, dd, dd, dd, dd, dd, dd, dd, dd, dd, dd, dd, dd, dd, dd, dd, dd, dd, dd, dd, dd, dd, dd, dd, dd, dd, dd, dd, dd, dd, dd, dd, dd, dd, dd, dd, dd, dd, dd, dd, dd, dd, dd, dd, dd, dd, dd, dd, dd, dd, dd, dd, dd, dd, dd, dd, dd, dd, dd, dd, dd, dd, dd, dd, dd, dd, dd, dd, dd, dd, dd, dd, dd, dd, dd, dd, dd, dd, dd, dd, dd, dd, dd, dd, dd, dd, dd, dd, dd, dd, dd, dd, dd, dd, dd, dd, dd, dd, dd, dd, dd, dd, dd, dd, dd, dd, dd, dd, dd, dd, dd, dd, dd, dd, dd, dd, dd, dd, dd, dd, dd, dd, dd, dd, dd, dd, dd, dd, dd, dd, dd, dd, dd, dd, dd, dd, dd, dd, dd, dd, dd, dd, dd, dd, dd, dd, dd, dd, dd, dd, dd, dd, dd, dd, dd, dd, dd, dd, dd, dd, dd, dd, dd, dd, dd, dd, dd, dd, dd, dd, dd, dd, dd, dd, dd, dd, dd, dd, dd, dd, dd, dd, dd, dd, dd, dd, dd, dd, dd, dd, dd, dd, dd, dd, dd, dd, dd, dd, dd, dd, dd, dd, dd, dd, dd, dd, dd, dd, dd, dd, dd, dd, dd, dd, dd, dd, dd, dd, dd, dd, dd, dd, dd, dd, dd, dd, dd, dd, dd, dd, dd, dd, dd, dd, dd], []⟩
def G_ringlaw5_SigSays_C20_hd (v_r40 : (S_sig_Set × Int)) (v_r51 : (S_sig_Set × Int))  : PS := ⟨[dd, dd, dd, dd, dd, dd, dd, dd, dd, .ref 0 0, .d (.v (.int .i64 v_r40.2)), dd, dd, .ref 1 0, .d (.v (.int .i64 v_r51.2)), dd, dd, dd, dd, dd, dd, dd, dd, .ref 2 0, dd, dd, dd, dd, dd, dd, dd, dd, dd, dd, dd, dd, dd, dd, dd, dd, dd, dd, dd, dd, dd, dd, dd, dd, dd, dd, dd, dd, dd, dd, dd, dd, dd, dd, dd, dd, dd, dd, dd, dd, dd, dd, dd, dd, dd, dd, dd, dd, dd, dd, dd, dd, dd, dd, dd, dd, dd, dd, dd, dd, dd, dd, dd, dd, dd, dd, dd, dd, dd, dd, dd, dd, dd, dd, dd, dd, dd, dd, dd, dd, dd, dd, dd, dd, dd, dd, dd, dd, dd, dd, dd, dd, dd, dd, dd, dd, dd, dd, dd, dd, dd, dd, dd, dd, dd, dd, dd, dd, dd, dd, dd, dd, dd, dd, dd, dd, dd, dd, dd, dd, dd, dd, dd, dd, dd, dd, dd, dd, dd, dd, dd, dd, dd, dd, dd, dd, dd, dd, dd, dd, dd, dd, dd, dd, dd, dd, dd, dd, dd, dd, dd, dd, dd, dd, dd, dd, dd, dd, dd, dd, dd, dd, dd, dd, dd, dd, dd, dd, dd, dd, dd, dd, dd, dd, dd, dd, dd, dd, dd, dd, dd, dd, dd, dd, dd, dd, dd, dd, dd, dd, dd, dd, dd, dd, dd, dd, dd, dd, dd, dd, dd, dd, dd, dd, dd, dd, dd, dd, dd, dd, dd, dd, dd, dd, dd, dd, dd, dd, dd, dd, dd, dd, dd, dd, dd, dd, dd, dd, dd, dd, dd, dd, dd, dd, dd, dd, dd, dd, dd, dd, dd, dd, dd, dd, dd, dd, dd, dd, dd, dd, dd, dd, dd, dd, dd, dd, dd, dd, dd, dd, dd, dd, dd, dd, dd, dd, dd, dd, dd, dd, dd, dd, dd, dd, dd, dd, dd, dd, dd, dd, dd, dd, dd, dd, dd, dd, dd, dd, dd, dd, dd, dd, dd, dd, dd, dd, dd, dd, dd, dd, dd, dd, dd, dd, dd, dd, dd, dd, dd, dd, dd, dd, dd, dd, dd, dd, dd, dd, dd, dd, dd, dd, dd, dd, dd, dd, dd, dd], [.box ((cS_sig_Set v_r40.1).map FV.d), .box ((cS_sig_Set v_r51.1).map FV.d), .box ((cS_sig_Set (S_sig_Set.mk 0 0 (fun (_ : Fin 16) => 0))).map FV.d)]⟩
def G_ringlaw5_SigSays_C20 (n : Nat) (v_r40 : (S_sig_Set × Int)) (v_r51 : (S_sig_Set × Int)) : Option G_ringlaw5_SigSays_C20_R :=
  if v_r40.2 = 1 then
   if v_r51.2 = v_r40.2 then
    if (eqRes .eql (eqS_sig_Set v_r40.1 (S_sig_Set.mk 0 0 (fun (_ : Fin 16) => 0)))) = true then
     some (.x0 (eqRes .eql (eqS_sig_Set v_r51.1 (S_sig_Set.mk 0 0 (fun (_ : Fin 16) => 0)))))
    else
     some (.x0 false)
   else
    some (.x0 false)
  else
   some (.x0 false)
theorem G_ringlaw5_SigSays_C20_ok {Fi : Ex → PS → Prop} (hF : KC 352 Fi) (ks : List Fr) (n : Nat) (v_r40 : (S_sig_Set × Int)) (v_r51 : (S_sig_Set × Int))  (o : G_ringlaw5_SigSays_C20_R) (h : G_ringlaw5_SigSays_C20 n v_r40 v_r51 = some o) (q : RunE Try.prog 352 Fi ks (G_ringlaw5_SigSays_C20_ex o) (G_ringlaw5_SigSays_C20_st v_r40 v_r51 o)) : RunE Try.prog 352 Fi (.s (cL (cT (cR (cL (cR (cR (cR (cR (cR (cR (cR (cR (cR (cR (cR (cR (cR (cR (cR (cR (cR (bodyOf Try.f7)))))))))))))))))))))) :: ks) .normal (G_ringlaw5_SigSays_C20_hd v_r40 v_r51) := by
  unfold G_ringlaw5_SigSays_C20 at h
  by_cases h1424 : v_r40.2 = 1
  · rw [if_pos h1424] at h
    by_cases h1425 : v_r51.2 = v_r40.2
    · rw [if_pos h1425] at h
      by_cases h1426 : (eqRes .eql (eqS_sig_Set v_r40.1 (S_sig_Set.mk 0 0 (fun (_ : Fin 16) => 0)))) = true
      · rw [if_pos h1426] at h
        cases h
        exact pkk_sound TTok mix hF 1 (hs := [.t true, .c, .c, .t true, .c, .c, .c, .c, .q (eqS_sig_Set v_r40.1 (S_sig_Set.mk 0 0 (fun (_ : Fin 16) => 0))), .t true, .c, .c, .c, .c, .q (eqS_sig_Set v_r51.1 (S_sig_Set.mk 0 0 (fun (_ : Fin 16) => 0)))]) (ts := []) (s := []) (l := [8]) (by kernel_rfl) (by kernel_rfl) (.cons (bt h1424) (.cons (bt h1425) (.cons (eqS_sig_Set_ok v_r40.1 (S_sig_Set.mk 0 0 (fun (_ : Fin 16) => 0))) (.cons h1426 (.cons (eqS_sig_Set_ok v_r51.1 (S_sig_Set.mk 0 0 (fun (_ : Fin 16) => 0))) .nil))))) q
      · rw [if_neg h1426] at h
        cases h
        exact pkk_sound TTok mix hF 1 (hs := [.t true, .c, .c, .t true, .c, .c, .c, .c, .q (eqS_sig_Set v_r40.1 (S_sig_Set.mk 0 0 (fun (_ : Fin 16) => 0))), .t false, .c, .c]) (ts := []) (s := []) (l := [8]) (by kernel_rfl) (by kernel_rfl) (.cons (bt h1424) (.cons (bt h1425) (.cons (eqS_sig_Set_ok v_r40.1 (S_sig_Set.mk 0 0 (fun (_ : Fin 16) => 0))) (.cons (vf h1426) .nil)))) q
    · rw [if_neg h1425] at h
      cases h
      exact pkk_sound TTok mix hF 1 (hs := [.t true, .c, .c, .t false, .c, .c, .c, .c, .c]) (ts := []) (s := []) (l := [8]) (by kernel_rfl) (by kernel_rfl) (.cons (bt h1424) (.cons (bf h1425) .nil)) q
  · rw [if_neg h1424] at h
    cases h
    exact pkk_sound TTok mix hF 1 (hs := [.t false, .c, .c, .c, .c, .c, .c, .c, .c]) (ts := []) (s := []) (l := [8]) (by kernel_rfl) (by kernel_rfl) (.cons (bf h1424) .nil) q
inductive G_ringlaw5_SigSays_C21_R where
  | x0 (v_x1245 : Bool)
def G_ringlaw5_SigSays_C21_ex : G_ringlaw5_SigSays_C21_R → Ex
  | .x0 _ => .normal
def G_ringlaw5_SigSays_C21_st (v_n2 : Int) (v_how3 : Int) (v_r40 : (S_sig_Set × Int)) (v_r51 : (S_sig_Set × Int)) (v_r157 : (S_ringref5_Signals)) : G_ringlaw5_SigSays_C21_R → PS
  | .x0 v_x1245 => ⟨[dd, .d (.v (.int .i64 v_n2)), .d (.v (.int .i64 v_how3)), dd, dd, dd, dd, dd, dd, dd, dd, dd, dd, .ref 0 0, .d (.v (.int .i64 v_r51.2)), dd, dd, dd, dd, dd, dd, dd, dd, .ref 1 0, dd, .ref 2 0, dd, dd, dd, dd, dd, dd, dd, dd, dd, dd, dd, dd, dd, dd, dd, dd, dd, dd, dd, dd, dd, dd, dd, dd, dd, dd, dd, dd, dd, dd, dd, dd, dd, dd, dd, dd, dd, dd, dd, dd, dd, dd, dd, dd, dd, dd, dd, dd, dd, dd, dd, dd, dd, dd, dd, dd, dd, dd, dd, dd, dd, dd, dd, dd, dd, dd, dd, dd, dd, dd, dd, dd, dd, dd, dd, dd, dd, dd, dd, dd, dd, dd, dd, dd, dd, dd, dd, dd, dd, dd, dd, dd, dd, dd, dd, dd, dd, dd, dd, dd, dd, dd, dd, dd, dd, dd, dd, dd, dd, dd, dd, dd, dd, dd, dd, dd, dd, dd, dd, dd, dd, dd, dd, dd, dd, dd, dd, dd, dd, dd, dd, dd, dd, dd, dd, dd, dd, dd, dd, dd, dd, dd, dd, dd, dd, dd, dd, dd, dd, dd, dd, dd, dd, dd, dd, dd, dd, dd, dd, dd, dd, dd, dd, dd, dd, dd, dd, dd, dd, dd, dd, dd, dd, dd, dd, dd, dd, dd, dd, dd, dd, dd, dd, dd, dd, dd, dd, dd, dd, dd, dd, dd, dd, dd, dd, dd, dd, dd, dd, dd, dd, dd, dd, dd, dd, dd, dd, dd, dd, dd, dd, dd, dd, dd, dd, dd, dd, dd, dd, dd, dd, dd, dd, dd, dd, dd, dd, dd, dd, dd, dd, dd, dd, dd, dd, dd, dd, dd, dd, dd, dd, dd, dd, dd, dd, dd, dd, dd, dd, dd, dd, dd, dd, dd, dd, dd, dd, dd, dd, dd, dd, dd, dd, dd, dd, dd, dd, dd, dd, dd, dd, dd, dd, dd, dd, dd, dd, dd, dd, dd, dd, dd, dd, dd, .d (.v (.bool v_x1245)), dd, dd, dd, dd, dd, dd, dd, dd, dd, dd, dd, dd, dd, dd, dd, dd, dd, dd, dd, dd, dd, dd, dd, dd, dd, dd, dd, dd, dd, dd, dd, dd, dd, dd, dd, dd, dd, dd, dd, dd, dd], [.box ((cS_sig_Set v_r51.1).map FV.d), .box ((cS_sig_Set (S_sig_Set.mk 0 0 (fun (_ : Fin 16) => 0))).map FV.d), .box ((cS_ringref5_Signals v_r157).map FV.d)]⟩
def G_ringlaw5_SigSays_C21_hd (v_n2 : Int) (v_how3 : Int) (v_r40 : (S_sig_Set × Int)) (v_r51 : (S_sig_Set × Int)) (v_r157 : (S_ringref5_Signals))  : PS := ⟨[dd, .d (.v (.int .i64 v_n2)), .d (.v (.int .i64 v_how3)), dd, dd, dd, dd, dd, dd, .ref 0 0, .d (.v (.int .i64 v_r40.2)), dd, dd, .ref 1 0, .d (.v (.int .i64 v_r51.2)), dd, dd, dd, dd, dd, dd, dd, dd, .ref 2 0, dd, .ref 3 0, dd, dd, dd, dd, dd, dd, dd, dd, dd, dd, dd, dd, dd, dd, dd, dd, dd, dd, dd, dd, dd, dd, dd, dd, dd, dd, dd, dd, dd, dd, dd, dd, dd, dd, dd, dd, dd, dd, dd, dd, dd, dd, dd, dd, dd, dd, dd, dd, dd, dd, dd, dd, dd, dd, dd, dd, dd, dd, dd, dd, dd, dd, dd, dd, dd, dd, dd, dd, dd, dd, dd, dd, dd, dd, dd, dd, dd, dd, dd, dd, dd, dd, dd, dd, dd, dd, dd, dd, dd, dd, dd, dd, dd, dd, dd, dd, dd, dd, dd, dd, dd, dd, dd, dd, dd, dd, dd, dd, dd, dd, dd, dd, dd, dd, dd, dd, dd, dd, dd, dd, dd, dd, dd, dd, dd, dd, dd, dd, dd, dd, dd, dd, dd, dd, dd, dd, dd, dd, dd, dd, dd, dd, dd, dd, dd, dd, dd, dd, dd, dd, dd, dd, dd, dd, dd, dd, dd, dd, dd, dd, dd, dd, dd, dd, dd, dd, dd, dd, dd, dd, dd, dd, dd, dd, dd, dd, dd, dd, dd, dd, dd, dd, dd, dd, dd, dd, dd, dd, dd, dd, dd, dd, dd, dd, dd, dd, dd, dd, dd, dd, dd, dd, dd, dd, dd, dd, dd, dd, dd, dd, dd, dd, dd, dd, dd, dd, dd, dd, dd, dd, dd, dd, dd, dd, dd, dd, dd, dd, dd, dd, dd, dd, dd, dd, dd, dd, dd, dd, dd, dd, dd, dd, dd, dd, dd, dd, dd, dd, dd, dd, dd, dd, dd, dd, dd, dd, dd, dd, dd, dd, dd, dd, dd, dd, dd, dd, dd, dd, dd, dd, dd, dd, dd, dd, dd, dd, dd, dd, dd, dd, dd, dd, dd, dd, dd, dd, dd, dd, dd, dd, dd, dd, dd, dd, dd, dd, dd, dd, dd, dd, dd, dd, dd, dd, dd, dd, dd, dd, dd, dd, dd, dd, dd, dd, dd, dd, dd, dd, dd, dd, dd, dd, dd, dd, dd, dd], [.box ((cS_sig_Set v_r40.1).map FV.d), .box ((cS_sig_Set v_r51.1).map FV.d), .box ((cS_sig_Set (S_sig_Set.mk 0 0 (fun (_ : Fin 16) => 0))).map FV.d), .box ((cS_ringref5_Signals v_r157).map FV.d)]⟩
def G_ringlaw5_SigSays_C21 (n : Nat) (v_n2 : Int) (v_how3 : Int) (v_r40 : (S_sig_Set × Int)) (v_r51 : (S_sig_Set × Int)) (v_r157 : (S_ringref5_Signals)) : Option G_ringlaw5_SigSays_C21_R :=
  if v_r40.2 = 0 then
   (G_ringref5_Signals_Sent n v_r157 v_n2).bind fun (v_r1246 : (S_ringref5_Signals)) =>
   (G_ringlaw5_same n v_r40.1 v_r1246).bind fun (v_r1247 : (Bool)) =>
   some (.x0 (!v_r1247))
  else
   some (.x0 true)
theorem G_ringlaw5_SigSays_C21_ok {Fi : Ex → PS → Prop} (hF : KC 352 Fi) (ks : List Fr) (n : Nat) (v_n2 : Int) (v_how3 : Int) (v_r40 : (S_sig_Set × Int)) (v_r51 : (S_sig_Set × Int)) (v_r157 : (S_ringref5_Signals))  (o : G_ringlaw5_SigSays_C21_R) (h : G_ringlaw5_SigSays_C21 n v_n2 v_how3 v_r40 v_r51 v_r157 = some o) (q : RunE Try.prog 352 Fi ks (G_ringlaw5_SigSays_C21_ex o) (G_ringlaw5_SigSays_C21_st v_n2 v_how3 v_r40 v_r51 v_r157 o)) : RunE Try.prog 352 Fi (.s (cL (cL (cR (cR (cR (cR (cR (cR (cR (cR (cR (cR (cR (cR (cR (cR (cR (cR (cR (cR (bodyOf Try.f7))))))))))))))))))))) :: ks) .normal (G_ringlaw5_SigSays_C21_hd v_n2 v_how3 v_r40 v_r51 v_r157) := by
  unfold G_ringlaw5_SigSays_C21 at h
  by_cases h1431 : v_r40.2 = 0
  · rw [if_pos h1431] at h
    obtain ⟨v_r1246, h1432, h⟩ := bind_some h
    obtain ⟨v_r1247, h1433, h⟩ := bind_some h
    cases h
    exact pkk_sound TTok mix hF 1 (hs := [.t false, .c, .c, .c, .c, .c, .r (eS_ringref5_Signals v_r1246), .c, .r (eB v_r1247), .c]) (ts := []) (s := [1, 2, 3]) (l := [1, 2, 13, 14, 23, 25, 310]) (by kernel_rfl) (by kernel_rfl) (.cons (nf h1431) (.cons (G_ringref5_Signals_Sent_ok n v_r157 v_n2 _ h1432) (.cons (G_ringlaw5_same_ok n v_r40.1 v_r1246 _ h1433) .nil))) q
  · rw [if_neg h1431] at h
    cases h
    exact pkk_sound TTok mix hF 1 (hs := [.t true, .c, .c, .c, .c, .c]) (ts := []) (s := [1, 2, 3]) (l := [1, 2, 13, 14, 23, 25, 310]) (by kernel_rfl) (by kernel_rfl) (.cons (nt h1431) .nil) q
inductive G_ringlaw5_SigSays_C22_R where
  | x0 (v_x1260 : Bool)
def G_ringlaw5_SigSays_C22_ex : G_ringlaw5_SigSays_C22_R → Ex
  | .x0 _ => .normal
def G_ringlaw5_SigSays_C22_st (v_how3 : Int) (v_r51 : (S_sig_Set × Int)) : G_ringlaw5_SigSays_C22_R → PS
  | .x0 v_x1260 => ⟨[dd, dd, dd, dd, dd, dd, dd, dd, .d (.v (.bool v_x1260)), dd, dd, dd, dd, dd, dd, dd, dd, dd, dd, dd, dd, dd, dd, dd, dd, dd, dd, dd, dd, dd, dd, dd, dd, dd, dd, dd, dd, dd, dd, dd, dd, dd, dd, dd, dd, dd, dd, dd, dd, dd, dd, dd, dd, dd, dd, dd, dd, dd, dd, dd, dd, dd, dd, dd, dd, dd, dd, dd, dd, dd, dd, dd, dd, dd, dd, dd, dd, dd, dd, dd, dd, dd, dd, dd, dd, dd, dd, dd, dd, dd, dd, dd, dd, dd, dd, dd, dd, dd, dd, dd, dd, dd, dd, dd, dd, dd, dd, dd, dd, dd, dd, dd, dd, dd, dd, dd, dd, dd, dd, dd, dd, dd, dd, dd, dd, dd, dd, dd, dd, dd, dd, dd, dd, dd, dd, dd, dd, dd, dd, dd, dd, dd, dd, dd, dd, dd, dd, dd, dd, dd, dd, dd, dd, dd, dd, dd, dd, dd, dd, dd, dd, dd, dd, dd, dd, dd, dd, dd, dd, dd, dd, dd, dd, dd, dd, dd, dd, dd, dd, dd, dd, dd, dd, dd, dd, dd, dd, dd, dd, dd, dd, dd, dd, dd, dd, dd, dd, dd, dd, dd, dd, dd, dd, dd, dd, dd, dd, dd, dd, dd, dd, dd, dd, dd, dd, dd, dd, dd, dd, dd, dd, dd, dd, dd, dd, dd, dd, dd, dd, dd, dd, dd, dd, dd, dd, dd, dd, dd, dd, dd, dd, dd, dd, dd, dd, dd, dd, dd, dd, dd, dd, dd, dd, dd, dd, dd, dd, dd, dd, dd, dd, dd, dd, dd, dd, dd, dd, dd, dd, dd, dd, dd, dd, dd, dd, dd, dd, dd, dd, dd, dd, dd, dd, dd, dd, dd, dd, dd, dd, dd, dd, dd, dd, dd, dd, dd, dd, dd, dd, dd, dd, dd, dd, dd, dd, dd, dd, dd, dd, dd, dd, dd, dd, dd, dd, dd, dd, dd, dd, dd, dd, dd, dd, dd, dd, dd, dd, dd, dd, dd, dd, dd, dd, dd, dd, dd, dd, dd, dd, dd, dd, dd, dd, dd, dd, dd, dd, dd, dd, dd, dd, dd], []⟩
def G_ringlaw5_SigSays_C22_hd (v_how3 : Int) (v_r51 : (S_sig_Set × Int))  : PS := ⟨[dd, dd, .d (.v (.int .i64 v_how3)), dd, dd, dd, dd, dd, dd, dd, dd, dd, dd, .ref 0 0, .d (.v (.int .i64 v_r51.2)), dd, dd, dd, dd, dd, dd, dd, dd, .ref 1 0, dd, dd, dd, dd, dd, dd, dd, dd, dd, dd, dd, dd, dd, dd, dd, dd, dd, dd, dd, dd, dd, dd, dd, dd, dd, dd, dd, dd, dd, dd, dd, dd, dd, dd, dd, dd, dd, dd, dd, dd, dd, dd, dd, dd, dd, dd, dd, dd, dd, dd, dd, dd, dd, dd, dd, dd, dd, dd, dd, dd, dd, dd, dd, dd, dd, dd, dd, dd, dd, dd, dd, dd, dd, dd, dd, dd, dd, dd, dd, dd, dd, dd, dd, dd, dd, dd, dd, dd, dd, dd, dd, dd, dd, dd, dd, dd, dd, dd, dd, dd, dd, dd, dd, dd, dd, dd, dd, dd, dd, dd, dd, dd, dd, dd, dd, dd, dd, dd, dd, dd, dd, dd, dd, dd, dd, dd, dd, dd, dd, dd, dd, dd, dd, dd, dd, dd, dd, dd, dd, dd, dd, dd, dd, dd, dd, dd, dd, dd, dd, dd, dd, dd, dd, dd, dd, dd, dd, dd, dd, dd, dd, dd, dd, dd, dd, dd, dd, dd, dd, dd, dd, dd, dd, dd, dd, dd, dd, dd, dd, dd, dd, dd, dd, dd, dd, dd, dd, dd, dd, dd, dd, dd, dd, dd, dd, dd, dd, dd, dd, dd, dd, dd, dd, dd, dd, dd, dd, dd, dd, dd, dd, dd, dd, dd, dd, dd, dd, dd, dd, dd, dd, dd, dd, dd, dd, dd, dd, dd, dd, dd, dd, dd, dd, dd, dd, dd, dd, dd, dd, dd, dd, dd, dd, dd, dd, dd, dd, dd, dd, dd, dd, dd, dd, dd, dd, dd, dd, dd, dd, dd, dd, dd, dd, dd, dd, dd, dd, dd, dd, dd, dd, dd, dd, dd, dd, dd, dd, dd, dd, dd, dd, dd, dd, dd, dd, dd, dd, dd, dd, dd, dd, dd, dd, dd, dd, dd, dd, dd, dd, dd, dd, dd, dd, dd, dd, dd, dd, dd, dd, dd, dd, dd, dd, dd, dd, dd, dd, dd, dd, dd, dd, dd, dd, dd, dd, dd, dd, dd], [.box ((cS_sig_Set v_r51.1).map FV.d), .box ((cS_sig_Set (S_sig_Set.mk 0 0 (fun (_ : Fin 16) => 0))).map FV.d)]⟩
def G_ringlaw5_SigSays_C22 (n : Nat) (v_how3 : Int) (v_r51 : (S_sig_Set × Int)) : Option G_ringlaw5_SigSays_C22_R :=
  if v_how3 < 0 then
   if v_r51.2 = 1 then
    some (.x0 (eqRes .eql (eqS_sig_Set v_r51.1 (S_sig_Set.mk 0 0 (fun (_ : Fin 16) => 0)))))
   else
    if v_how3 ≥ 0 then
     if v_r51.2 = 7 then
      some (.x0 (eqRes .eql (eqS_sig_Set v_r51.1 (S_sig_Set.mk 0 0 (fun (_ : Fin 16) => 0)))))
     else
      some (.x0 false)
    else
     some (.x0 false)
  else
   if v_how3 ≥ 0 then
    if v_r51.2 = 7 then
     some (.x0 (eqRes .eql (eqS_sig_Set v_r51.1 (S_sig_Set.mk 0 0 (fun (_ : Fin 16) => 0)))))
    else
     some (.x0 false)
   else
    some (.x0 false)
theorem G_ringlaw5_SigSays_C22_ok {Fi : Ex → PS → Prop} (hF : KC 352 Fi) (ks : List Fr) (n : Nat) (v_how3 : Int) (v_r51 : (S_sig_Set × Int))  (o : G_ringlaw5_SigSays_C22_R) (h : G_ringlaw5_SigSays_C22 n v_how3 v_r51 = some o) (q : RunE Try.prog 352 Fi ks (G_ringlaw5_SigSays_C22_ex o) (G_ringlaw5_SigSays_C22_st v_how3 v_r51 o)) : RunE Try.prog 352 Fi (.s (cL (cT (cR (cL (cR (cR (cR (cR (cR (cR (cR (cR (cR (cR (cR (cR (cR (cR (cR (cR (cR (cR (cR (bodyOf Try.f7)))))))))))))))))))))))) :: ks) .normal (G_ringlaw5_SigSays_C22_hd v_how3 v_r51) := by
  unfold G_ringlaw5_SigSays_C22 at h
  by_cases h1456 : v_how3 < 0
  · rw [if_pos h1456] at h
    by_cases h1457 : v_r51.2 = 1
    · rw [if_pos h1457] at h
      cases h
      exact pkk_sound TTok mix hF 1 (hs := [.t true, .c, .t true, .c, .c, .c, .c, .c, .c, .c, .c, .q (eqS_sig_Set v_r51.1 (S_sig_Set.mk 0 0 (fun (_ : Fin 16) => 0)))]) (ts := []) (s := []) (l := [8]) (by kernel_rfl) (by kernel_rfl) (.cons (dt h1456) (.cons (bt h1457) (.cons (eqS_sig_Set_ok v_r51.1 (S_sig_Set.mk 0 0 (fun (_ : Fin 16) => 0))) .nil))) q
    · rw [if_neg h1457] at h
      by_cases h1458 : v_how3 ≥ 0
      · rw [if_pos h1458] at h
        by_cases h1459 : v_r51.2 = 7
        · rw [if_pos h1459] at h
          cases h
          exact pkk_sound TTok mix hF 1 (hs := [.t true, .c, .t false, .c, .c, .t true, .c, .c, .t true, .c, .c, .c, .c, .q (eqS_sig_Set v_r51.1 (S_sig_Set.mk 0 0 (fun (_ : Fin 16) => 0)))]) (ts := []) (s := []) (l := [8]) (by kernel_rfl) (by kernel_rfl) (.cons (dt h1456) (.cons (bf h1457) (.cons (dt h1458) (.cons (bt h1459) (.cons (eqS_sig_Set_ok v_r51.1 (S_sig_Set.mk 0 0 (fun (_ : Fin 16) => 0))) .nil))))) q
        · rw [if_neg h1459] at h
          cases h
          exact pkk_sound TTok mix hF 1 (hs := [.t true, .c, .t false, .c, .c, .t true, .c, .c, .t false, .c, .c]) (ts := []) (s := []) (l := [8]) (by kernel_rfl) (by kernel_rfl) (.cons (dt h1456) (.cons (bf h1457) (.cons (dt h1458) (.cons (bf h1459) .nil)))) q
      · rw [if_neg h1458] at h
        cases h
        exact pkk_sound TTok mix hF 1 (hs := [.t true, .c, .t false, .c, .c, .t false, .c, .c, .c, .c, .c]) (ts := []) (s := []) (l := [8]) (by kernel_rfl) (by kernel_rfl) (.cons (dt h1456) (.cons (bf h1457) (.cons (df h1458) .nil))) q
  · rw [if_neg h1456] at h
    by_cases h1460 : v_how3 ≥ 0
    · rw [if_pos h1460] at h
      by_cases h1461 : v_r51.2 = 7
      · rw [if_pos h1461] at h
        cases h
        exact pkk_sound TTok mix hF 1 (hs := [.t false, .c, .c, .c, .c, .t true, .c, .c, .t true, .c, .c, .c, .c, .q (eqS_sig_Set v_r51.1 (S_sig_Set.mk 0 0 (fun (_ : Fin 16) => 0)))]) (ts := []) (s := []) (l := [8]) (by kernel_rfl) (by kernel_rfl) (.cons (df h1456) (.cons (dt h1460) (.cons (bt h1461) (.cons (eqS_sig_Set_ok v_r51.1 (S_sig_Set.mk 0 0 (fun (_ : Fin 16) => 0))) .nil)))) q
      · rw [if_neg h1461] at h
        cases h
        exact pkk_sound TTok mix hF 1 (hs := [.t false, .c, .c, .c, .c, .t true, .c, .c, .t false, .c, .c]) (ts := []) (s := []) (l := [8]) (by kernel_rfl) (by kernel_rfl) (.cons (df h1456) (.cons (dt h1460) (.cons (bf h1461) .nil))) q
    · rw [if_neg h1460] at h
      cases h
      exact pkk_sound TTok mix hF 1 (hs := [.t false, .c, .c, .c, .c, .t false, .c, .c, .c, .c, .c]) (ts := []) (s := []) (l := [8]) (by kernel_rfl) (by kernel_rfl) (.cons (df h1456) (.cons (df h1460) .nil)) q
inductive G_ringlaw5_SigSays_C23_R where
  | x0 (v_x1278 : Bool)
def G_ringlaw5_SigSays_C23_ex : G_ringlaw5_SigSays_C23_R → Ex
  | .x0 _ => .normal
def G_ringlaw5_SigSays_C23_st (v_how3 : Int) (v_r51 : (S_sig_Set × Int)) : G_ringlaw5_SigSays_C23_R → PS
  | .x0 v_x1278 => ⟨[dd, dd, dd, dd, dd, dd, dd, dd, .d (.v (.bool v_x1278)), dd, dd, dd, dd, dd, dd, dd, dd, dd, dd, dd, dd, dd, dd, dd, dd, dd, dd, dd, dd, dd, dd, dd, dd, dd, dd, dd, dd, dd, dd, dd, dd, dd, dd, dd, dd, dd, dd, dd, dd, dd, dd, dd, dd, dd, dd, dd, dd, dd, dd, dd, dd, dd, dd, dd, dd, dd, dd, dd, dd, dd, dd, dd, dd, dd, dd, dd, dd, dd, dd, dd, dd, dd, dd, dd, dd, dd, dd, dd, dd, dd, dd, dd, dd, dd, dd, dd, dd, dd, dd, dd, dd, dd, dd, dd, dd, dd, dd, dd, dd, dd, dd, dd, dd, dd, dd, dd, dd, dd, dd, dd, dd, dd, dd, dd, dd, dd, dd, dd, dd, dd, dd, dd, dd, dd, dd, dd, dd, dd, dd, dd, dd, dd, dd, dd, dd, dd, dd, dd, dd, dd, dd, dd, dd, dd, dd, dd, dd, dd, dd, dd, dd, dd, dd, dd, dd, dd, dd, dd, dd, dd, dd, dd, dd, dd, dd, dd, dd, dd, dd, dd, dd, dd, dd, dd, dd, dd, dd, dd, dd, dd, dd, dd, dd, dd, dd, dd, dd, dd, dd, dd, dd, dd, dd, dd, dd, dd, dd, dd, dd, dd, dd, dd, dd, dd, dd, dd, dd, dd, dd, dd, dd, dd, dd, dd, dd, dd, dd, dd, dd, dd, dd, dd, dd, dd, dd, dd, dd, dd, dd, dd, dd, dd, dd, dd, dd, dd, dd, dd, dd, dd, dd, dd, dd, dd, dd, dd, dd, dd, dd, dd, dd, dd, dd, dd, dd, dd, dd, dd, dd, dd, dd, dd, dd, dd, dd, dd, dd, dd, dd, dd, dd, dd, dd, dd, dd, dd, dd, dd, dd, dd, dd, dd, dd, dd, dd, dd, dd, dd, dd, dd, dd, dd, dd, dd, dd, dd, dd, dd, dd, dd, dd, dd, dd, dd, dd, dd, dd, dd, dd, dd, dd, dd, dd, dd, dd, dd, dd, dd, dd, dd, dd, dd, dd, dd, dd, dd, dd, dd, dd, dd, dd, dd, dd, dd, dd, dd, dd, dd, dd, dd, dd, dd], []⟩
def G_ringlaw5_SigSays_C23_hd (v_how3 : Int) (v_r51 : (S_sig_Set × Int))  : PS := ⟨[dd, dd, .d (.v (.int .i64 v_how3)), dd, dd, dd, dd, dd, dd, dd, dd, dd, dd, .ref 0 0, .d (.v (.int .i64 v_r51.2)), dd, dd, dd, dd, dd, dd, dd, dd, .ref 1 0, dd, dd, dd, dd, dd, dd, dd, dd, dd, dd, dd, dd, dd, dd, dd, dd, dd, dd, dd, dd, dd, dd, dd, dd, dd, dd, dd, dd, dd, dd, dd, dd, dd, dd, dd, dd, dd, dd, dd, dd, dd, dd, dd, dd, dd, dd, dd, dd, dd, dd, dd, dd, dd, dd, dd, dd, dd, dd, dd, dd, dd, dd, dd, dd, dd, dd, dd, dd, dd, dd, dd, dd, dd, dd, dd, dd, dd, dd, dd, dd, dd, dd, dd, dd, dd, dd, dd, dd, dd, dd, dd, dd, dd, dd, dd, dd, dd, dd, dd, dd, dd, dd, dd, dd, dd, dd, dd, dd, dd, dd, dd, dd, dd, dd, dd, dd, dd, dd, dd, dd, dd, dd, dd, dd, dd, dd, dd, dd, dd, dd, dd, dd, dd, dd, dd, dd, dd, dd, dd, dd, dd, dd, dd, dd, dd, dd, dd, dd, dd, dd, dd, dd, dd, dd, dd, dd, dd, dd, dd, dd, dd, dd, dd, dd, dd, dd, dd, dd, dd, dd, dd, dd, dd, dd, dd, dd, dd, dd, dd, dd, dd, dd, dd, dd, dd, dd, dd, dd, dd, dd, dd, dd, dd, dd, dd, dd, dd, dd, dd, dd, dd, dd, dd, dd, dd, dd, dd, dd, dd, dd, dd, dd, dd, dd, dd, dd, dd, dd, dd, dd, dd, dd, dd, dd, dd, dd, dd, dd, dd, dd, dd, dd, dd, dd, dd, dd, dd, dd, dd, dd, dd, dd, dd, dd, dd, dd, dd, dd, dd, dd, dd, dd, dd, dd, dd, dd, dd, dd, dd, dd, dd, dd, dd, dd, dd, dd, dd, dd, dd, dd, dd, dd, dd, dd, dd, dd, dd, dd, dd, dd, dd, dd, dd, dd, dd, dd, dd, dd, dd, dd, dd, dd, dd, dd, dd, dd, dd, dd, dd, dd, dd, dd, dd, dd, dd, dd, dd, dd, dd, dd, dd, dd, dd, dd, dd, dd, dd, dd, dd, dd, dd, dd, dd, dd, dd, dd, dd, dd], [.box ((cS_sig_Set v_r51.1).map FV.d), .box ((cS_sig_Set (S_sig_Set.mk 0 0 (fun (_ : Fin 16) => 0))).map FV.d)]⟩
def G_ringlaw5_SigSays_C23 (n : Nat) (v_how3 : Int) (v_r51 : (S_sig_Set × Int)) : Option G_ringlaw5_SigSays_C23_R :=
  if v_how3 < 0 then
   if v_r51.2 = 1 then
    some (.x0 (eqRes .eql (eqS_sig_Set v_r51.1 (S_sig_Set.mk 0 0 (fun (_ : Fin 16) => 0)))))
   else
    if v_how3 ≥ 0 then
     if v_r51.2 = 7 then
      some (.x0 (eqRes .eql (eqS_sig_Set v_r51.1 (S_sig_Set.mk 0 0 (fun (_ : Fin 16) => 0)))))
     else
      some (.x0 false)
    else
     some (.x0 false)
  else
   if v_how3 ≥ 0 then
    if v_r51.2 = 7 then
     some (.x0 (eqRes .eql (eqS_sig_Set v_r51.1 (S_sig_Set.mk 0 0 (fun (_ : Fin 16) => 0)))))
    else
     some (.x0 false)
   else
    some (.x0 false)
theorem G_ringlaw5_SigSays_C23_ok {Fi : Ex → PS → Prop} (hF : KC 352 Fi) (ks : List Fr) (n : Nat) (v_how3 : Int) (v_r51 : (S_sig_Set × Int))  (o : G_ringlaw5_SigSays_C23_R) (h : G_ringlaw5_SigSays_C23 n v_how3 v_r51 = some o) (q : RunE Try.prog 352 Fi ks (G_ringlaw5_SigSays_C23_ex o) (G_ringlaw5_SigSays_C23_st v_how3 v_r51 o)) : RunE Try.prog 352 Fi (.s (cL (cT (cR (cL (cR (cR (cR (cR (cR (cR (cR (cR (cR (cR (cR (cR (cR (cR (cR (cR (cR (cR (cR (bodyOf Try.f7)))))))))))))))))))))))) :: ks) .normal (G_ringlaw5_SigSays_C23_hd v_how3 v_r51) := by
  unfold G_ringlaw5_SigSays_C23 at h
  by_cases h1484 : v_how3 < 0
  · rw [if_pos h1484] at h
    by_cases h1485 : v_r51.2 = 1
    · rw [if_pos h1485] at h
      cases h
      exact pkk_sound TTok mix hF 1 (hs := [.t true, .c, .t true, .c, .c, .c, .c, .c, .c, .c, .c, .q (eqS_sig_Set v_r51.1 (S_sig_Set.mk 0 0 (fun (_ : Fin 16) => 0)))]) (ts := []) (s := []) (l := [8]) (by kernel_rfl) (by kernel_rfl) (.cons (dt h1484) (.cons (bt h1485) (.cons (eqS_sig_Set_ok v_r51.1 (S_sig_Set.mk 0 0 (fun (_ : Fin 16) => 0))) .nil))) q
    · rw [if_neg h1485] at h
      by_cases h1486 : v_how3 ≥ 0
      · rw [if_pos h1486] at h
        by_cases h1487 : v_r51.2 = 7
        · rw [if_pos h1487] at h
          cases h
          exact pkk_sound TTok mix hF 1 (hs := [.t true, .c, .t false, .c, .c, .t true, .c, .c, .t true, .c, .c, .c, .c, .q (eqS_sig_Set v_r51.1 (S_sig_Set.mk 0 0 (fun (_ : Fin 16) => 0)))]) (ts := []) (s := []) (l := [8]) (by kernel_rfl) (by kernel_rfl) (.cons (dt h1484) (.cons (bf h1485) (.cons (dt h1486) (.cons (bt h1487) (.cons (eqS_sig_Set_ok v_r51.1 (S_sig_Set.mk 0 0 (fun (_ : Fin 16) => 0))) .nil))))) q
        · rw [if_neg h1487] at h
          cases h
          exact pkk_sound TTok mix hF 1 (hs := [.t true, .c, .t false, .c, .c, .t true, .c, .c, .t false, .c, .c]) (ts := []) (s := []) (l := [8]) (by kernel_rfl) (by kernel_rfl) (.cons (dt h1484) (.cons (bf h1485) (.cons (dt h1486) (.cons (bf h1487) .nil)))) q
      · rw [if_neg h1486] at h
        cases h
        exact pkk_sound TTok mix hF 1 (hs := [.t true, .c, .t false, .c, .c, .t false, .c, .c, .c, .c, .c]) (ts := []) (s := []) (l := [8]) (by kernel_rfl) (by kernel_rfl) (.cons (dt h1484) (.cons (bf h1485) (.cons (df h1486) .nil))) q
  · rw [if_neg h1484] at h
    by_cases h1488 : v_how3 ≥ 0
    · rw [if_pos h1488] at h
      by_cases h1489 : v_r51.2 = 7
      · rw [if_pos h1489] at h
        cases h
        exact pkk_sound TTok mix hF 1 (hs := [.t false, .c, .c, .c, .c, .t true, .c, .c, .t true, .c, .c, .c, .c, .q (eqS_sig_Set v_r51.1 (S_sig_Set.mk 0 0 (fun (_ : Fin 16) => 0)))]) (ts := []) (s := []) (l := [8]) (by kernel_rfl) (by kernel_rfl) (.cons (df h1484) (.cons (dt h1488) (.cons (bt h1489) (.cons (eqS_sig_Set_ok v_r51.1 (S_sig_Set.mk 0 0 (fun (_ : Fin 16) => 0))) .nil)))) q
      · rw [if_neg h1489] at h
        cases h
        exact pkk_sound TTok mix hF 1 (hs := [.t false, .c, .c, .c, .c, .t true, .c, .c, .t false, .c, .c]) (ts := []) (s := []) (l := [8]) (by kernel_rfl) (by kernel_rfl) (.cons (df h1484) (.cons (dt h1488) (.cons (bf h1489) .nil))) q
    · rw [if_neg h1488] at h
      cases h
      exact pkk_sound TTok mix hF 1 (hs := [.t false, .c, .c, .c, .c, .t false, .c, .c, .c, .c, .c]) (ts := []) (s := []) (l := [8]) (by kernel_rfl) (by kernel_rfl) (.cons (df h1484) (.cons (df h1488) .nil)) q
/- ringhall/ringlaw5.SigSays -/
def G_ringlaw5_SigSays (n : Nat) (v_s1 : S_sig_Set) (v_n2 : Int) (v_how3 : Int) (v_exec4 : Bool) : Option (Bool) :=
  (G_sig_Send n v_s1 v_n2).bind fun (v_r40 : (S_sig_Set × Int)) =>
  (G_sig_Hold n v_s1 v_n2).bind fun (v_r44 : (S_sig_Set × Int)) =>
  (G_sig_Handle n v_s1 v_n2 v_how3).bind fun (v_r51 : (S_sig_Set × Int)) =>
  (G_sig_Next n v_s1).bind fun (v_r60 : (Int × Int)) =>
  (G_sig_Take n v_s1).bind fun (v_r64 : (S_sig_Set × Int × Int × Int)) =>
  (G_sig_Child n v_s1 v_exec4).bind fun (v_r86 : (S_sig_Set × Int)) =>
  (G_ringref5_SignalErr n v_s1.fPending v_s1.fMask v_s1.fHow).bind fun (v_r108 : (Int)) =>
  (G_sig_Check n v_s1).bind fun (v_r109 : (Int)) =>
  if v_r109 = v_r108 then
   if v_r108 = 0 then
    (G_ringref5_SignalsOf n v_s1.fPending v_s1.fMask v_s1.fHow).bind fun (v_r157 : (S_ringref5_Signals)) =>
    (G_ringref5_Signals_Ready n v_r157).bind fun (v_r179 : (Int)) =>
    (G_ringlaw5_SigSays_C4 n v_n2 v_how3 v_exec4 v_r40 v_r44 v_r51 v_r60 v_r64 v_r86 v_r179 v_s1 v_r157).bind fun v_o289 => match v_o289 with
    | .x0 v_z290 =>
      some v_z290
    | .x1  =>
      if v_exec4 = true then
       (G_ringlaw5_SigSays_L5 n v_n2 v_how3 v_r40 v_r44 v_r51 v_r86 v_s1 v_r157 n 0 v_r157).bind fun v_o307 => match v_o307 with
       | .x0 v_z308 =>
         (G_ringlaw5_SigSays_C6 n v_n2 v_how3 v_r40 v_r44 v_r51 v_r86 v_s1 v_r157 v_z308).bind fun v_o313 => match v_o313 with
         | .x0 v_z314 =>
           if v_z314 = true then
            some false
           else
            (G_ringlaw5_SigSays_C7 n v_n2 v_how3 v_r40 v_r44 v_r51 v_s1 v_r157).bind fun v_o318 => match v_o318 with
            | .x0 v_z319 =>
              (G_ringlaw5_SigSays_C9 n v_n2 v_how3 v_r40 v_r44 v_r51 v_z319 v_s1 v_r157).bind fun v_o335 => match v_o335 with
              | .x0 v_z336 =>
                some v_z336
              | .x1  =>
                if v_n2 < 1 then
                 (G_ringlaw5_SigSays_C10 n v_r40 v_r51).bind fun v_o347 => match v_o347 with
                 | .x0 v_z348 =>
                   some v_z348
                else
                 if v_n2 > 15 then
                  (G_ringlaw5_SigSays_C11 n v_r40 v_r51).bind fun v_o359 => match v_o359 with
                  | .x0 v_z360 =>
                    some v_z360
                 else
                  (G_ringlaw5_SigSays_C12 n v_n2 v_how3 v_r40 v_r51 v_r157).bind fun v_o1148 => match v_o1148 with
                  | .x0 v_z1149 =>
                    if v_z1149 = true then
                     some false
                    else
                     if v_how3 < 0 then
                      (G_ringlaw5_SigSays_C13 n v_how3 v_r51).bind fun v_o1166 => match v_o1166 with
                      | .x0 v_z1167 =>
                        some v_z1167
                     else
                      if v_n2 = 9 then
                       (G_ringlaw5_SigSays_C14 n v_how3 v_r51).bind fun v_o1184 => match v_o1184 with
                       | .x0 v_z1185 =>
                         some v_z1185
                      else
                       if 0 ≤ v_n2 ∧ v_n2 < (16 : Int) then
                        (getA v_r157.fHow v_n2).bind fun (v_y1186 : Int) =>
                        if v_how3 = 1 then
                         (G_ringref5_Signals_Without n (S_ringref5_Signals.mk v_r157.fWait v_r157.fBack (setA v_r157.fHow v_n2 v_how3)) v_n2).bind fun (v_r1188 : (S_ringref5_Signals)) =>
                         if v_r51.2 = 0 then
                          (G_ringlaw5_same n v_r51.1 v_r1188).bind fun (v_r1189 : (Bool)) =>
                          some v_r1189
                         else
                          some false
                        else
                         if v_r51.2 = 0 then
                          (G_ringlaw5_same n v_r51.1 (S_ringref5_Signals.mk v_r157.fWait v_r157.fBack (setA v_r157.fHow v_n2 v_how3))).bind fun (v_r1190 : (Bool)) =>
                          some v_r1190
                         else
                          some false
                       else none
      else
       (G_ringlaw5_SigSays_C15 n v_n2 v_how3 v_r40 v_r44 v_r51 v_r86 v_s1 v_r157).bind fun v_o1195 => match v_o1195 with
       | .x0 v_z1196 =>
         if v_z1196 = true then
          some false
         else
          (G_ringlaw5_SigSays_C16 n v_n2 v_how3 v_r40 v_r44 v_r51 v_s1 v_r157).bind fun v_o1200 => match v_o1200 with
          | .x0 v_z1201 =>
            (G_ringlaw5_SigSays_C18 n v_n2 v_how3 v_r40 v_r44 v_r51 v_z1201 v_s1 v_r157).bind fun v_o1217 => match v_o1217 with
            | .x0 v_z1218 =>
              some v_z1218
            | .x1  =>
              if v_n2 < 1 then
               (G_ringlaw5_SigSays_C19 n v_r40 v_r51).bind fun v_o1229 => match v_o1229 with
               | .x0 v_z1230 =>
                 some v_z1230
              else
               if v_n2 > 15 then
                (G_ringlaw5_SigSays_C20 n v_r40 v_r51).bind fun v_o1241 => match v_o1241 with
                | .x0 v_z1242 =>
                  some v_z1242
               else
                (G_ringlaw5_SigSays_C21 n v_n2 v_how3 v_r40 v_r51 v_r157).bind fun v_o1249 => match v_o1249 with
                | .x0 v_z1250 =>
                  if v_z1250 = true then
                   some false
                  else
                   if v_how3 < 0 then
                    (G_ringlaw5_SigSays_C22 n v_how3 v_r51).bind fun v_o1267 => match v_o1267 with
                    | .x0 v_z1268 =>
                      some v_z1268
                   else
                    if v_n2 = 9 then
                     (G_ringlaw5_SigSays_C23 n v_how3 v_r51).bind fun v_o1285 => match v_o1285 with
                     | .x0 v_z1286 =>
                       some v_z1286
                    else
                     if 0 ≤ v_n2 ∧ v_n2 < (16 : Int) then
                      (getA v_r157.fHow v_n2).bind fun (v_y1287 : Int) =>
                      if v_how3 = 1 then
                       (G_ringref5_Signals_Without n (S_ringref5_Signals.mk v_r157.fWait v_r157.fBack (setA v_r157.fHow v_n2 v_how3)) v_n2).bind fun (v_r1289 : (S_ringref5_Signals)) =>
                       if v_r51.2 = 0 then
                        (G_ringlaw5_same n v_r51.1 v_r1289).bind fun (v_r1290 : (Bool)) =>
                        some v_r1290
                       else
                        some false
                      else
                       if v_r51.2 = 0 then
                        (G_ringlaw5_same n v_r51.1 (S_ringref5_Signals.mk v_r157.fWait v_r157.fBack (setA v_r157.fHow v_n2 v_how3))).bind fun (v_r1291 : (Bool)) =>
                        some v_r1291
                       else
                        some false
                     else none
   else
    (G_ringlaw5_SigSays_C1 n v_r40 v_r44 v_r51 v_r60 v_r64 v_r86 v_r108).bind fun v_o140 => match v_o140 with
    | .x0 v_z141 =>
      some v_z141
  else
   some false
theorem G_ringlaw5_SigSays_ok (n : Nat) (v_s1 : S_sig_Set) (v_n2 : Int) (v_how3 : Int) (v_exec4 : Bool) (r : Bool) (h : G_ringlaw5_SigSays n v_s1 v_n2 v_how3 v_exec4 = some r) : Ret Try.prog 7 [eS_sig_Set v_s1, (eI .i64) v_n2, (eI .i64) v_how3, eB v_exec4] (eB r) := by
  refine ret_run (n := 352) (fn := Try.f7) (c := bodyOf Try.f7) (by kernel_rfl) (by kernel_rfl) (by kernel_rfl) (by kernel_rfl) ?_
  have hF : KC 352 (FinR Try.prog Try.f7 (eB r)) := FinR.kc' (by kernel_rfl)
  unfold G_ringlaw5_SigSays at h
  obtain ⟨v_r40, h49, h⟩ := bind_some h
  obtain ⟨v_r44, h55, h⟩ := bind_some h
  obtain ⟨v_r51, h71, h⟩ := bind_some h
  obtain ⟨v_r60, h85, h⟩ := bind_some h
  obtain ⟨v_r64, h92, h⟩ := bind_some h
  obtain ⟨v_r86, h132, h⟩ := bind_some h
  obtain ⟨v_r108, h162, h⟩ := bind_some h
  obtain ⟨v_r109, h163, h⟩ := bind_some h
  by_cases h164 : v_r109 = v_r108
  · rw [if_pos h164] at h
    by_cases h193 : v_r108 = 0
    · rw [if_pos h193] at h
      obtain ⟨v_r157, h235, h⟩ := bind_some h
      obtain ⟨v_r179, h253, h⟩ := bind_some h
      obtain ⟨v_o289, h373, h⟩ := bind_some h
      refine pkk_sound TTok mix hF 35 (hs := [.c, .r (.tup [eS_sig_Set v_r40.1, (eI .i64) v_r40.2]), .c, .c, .r (.tup [eS_sig_Set v_r44.1, (eI .i64) v_r44.2]), .c, .c, .r (.tup [eS_sig_Set v_r51.1, (eI .i64) v_r51.2]), .c, .c, .r (.tup [(eI .i64) v_r60.1, (eI .i64) v_r60.2]), .c, .r (.tup [eS_sig_Set v_r64.1, (eI .i64) v_r64.2.1, (eI .i64) v_r64.2.2.1, (eI .i64) v_r64.2.2.2]), .c, .c, .r (.tup [eS_sig_Set v_r86.1, (eI .i64) v_r86.2]), .c, .c, .c, .c, .c, .r ((eI .i64) v_r108), .c, .r ((eI .i64) v_r109), .t false, .t false, .c, .c, .c, .r (eS_ringref5_Signals v_r157), .c, .c, .r ((eI .i64) v_r179)]) (ts := []) (s := [0, 24, 51, 81, 132, 165, 177, 246]) (l := [1, 2, 3, 4, 9, 10, 11, 12, 13, 14, 15, 16, 17, 18, 19, 20, 21, 22, 23, 25, 26, 155]) (by kernel_rfl) (by kernel_rfl) (.cons (G_sig_Send_ok n v_s1 v_n2 _ h49) (.cons (show 0 + 18 ≤ 18 by decide) (.cons (G_sig_Hold_ok n v_s1 v_n2 _ h55) (.cons (show 0 + 18 ≤ 18 by decide) (.cons (G_sig_Handle_ok n v_s1 v_n2 v_how3 _ h71) (.cons (show 0 + 18 ≤ 18 by decide) (.cons (G_sig_Next_ok n v_s1 _ h85) (.cons (G_sig_Take_ok n v_s1 _ h92) (.cons (show 0 + 18 ≤ 18 by decide) (.cons (G_sig_Child_ok n v_s1 v_exec4 _ h132) (.cons (show 0 + 18 ≤ 18 by decide) (.cons (show 0 + 18 ≤ 18 by decide) (.cons (G_ringref5_SignalErr_ok n v_s1.fPending v_s1.fMask v_s1.fHow _ h162) (.cons (G_sig_Check_ok n v_s1 _ h163) (.cons (nf h164) (.cons (nf h193) (.cons (G_ringref5_SignalsOf_ok n v_s1.fPending v_s1.fMask v_s1.fHow _ h235) (.cons (show 0 + 18 ≤ 18 by decide) (.cons (G_ringref5_Signals_Ready_ok n v_r157 _ h253) .nil))))))))))))))))))) (G_ringlaw5_SigSays_C4_ok hF (.s (cR (cR (cR (cR (cR (cR (cR (cR (cR (cR (cR (cR (cR (bodyOf Try.f7)))))))))))))) :: []) n v_n2 v_how3 v_exec4 v_r40 v_r44 v_r51 v_r60 v_r64 v_r86 v_r179 v_s1 v_r157 _ h373 ?_)
      cases v_o289 with
      | x0 v_z290 =>
        try dsimp only at h
        obtain rfl := Option.some.inj h
        exact pend_sound TTok mix 1 (hs := []) (by kernel_rfl) (by kernel_rfl) (by kernel_rfl) .nil
      | x1  =>
        try dsimp only at h
        by_cases h374 : v_exec4 = true
        · rw [if_pos h374] at h
          obtain ⟨v_o307, h409, h⟩ := bind_some h
          refine pkk_sound TTok mix hF 10 (hs := [.c, .c, .t true, .n n]) (ts := []) (s := [0, 1, 2, 3, 4, 5, 6, 10]) (l := [1, 2, 4, 9, 10, 11, 12, 13, 14, 21, 22, 23, 25, 27, 214]) (by kernel_rfl) (by kernel_rfl) (.cons (show 0 + 18 ≤ 18 by decide) (.cons h374 .nil)) (G_ringlaw5_SigSays_L5_ok hF (.b 0 :: .s (cR (cR (cR (cR (cR (cR (cR (cR (cR (cR (cR (cR (cR (cR (cR (bodyOf Try.f7)))))))))))))))) :: []) n v_n2 v_how3 v_r40 v_r44 v_r51 v_r86 v_s1 v_r157 n 0 v_r157 _ h409 ?_)
          cases v_o307 with
          | x0 v_z308 =>
            try dsimp only at h
            obtain ⟨v_o313, h414, h⟩ := bind_some h
            refine pkk_sound TTok mix hF 3 (hs := []) (ts := []) (s := [0, 1, 2, 3, 4, 5, 6, 7]) (l := [1, 2, 4, 9, 10, 11, 12, 13, 14, 21, 22, 23, 25, 27]) (by kernel_rfl) (by kernel_rfl) .nil (G_ringlaw5_SigSays_C6_ok hF (.s (cR (cL (cR (cR (cR (cR (cR (cR (cR (cR (cR (cR (cR (cR (cR (cR (cR (bodyOf Try.f7)))))))))))))))))) :: .s (cR (cR (cR (cR (cR (cR (cR (cR (cR (cR (cR (cR (cR (cR (cR (cR (bodyOf Try.f7))))))))))))))))) :: []) n v_n2 v_how3 v_r40 v_r44 v_r51 v_r86 v_s1 v_r157 v_z308 _ h414 ?_)
            cases v_o313 with
            | x0 v_z314 =>
              try dsimp only at h
              by_cases h415 : v_z314 = true
              · rw [if_pos h415] at h
                obtain rfl := Option.some.inj h
                exact pend_sound TTok mix 5 (hs := [.t true]) (by kernel_rfl) (by kernel_rfl) (by kernel_rfl) (.cons h415 .nil)
              · rw [if_neg h415] at h
                obtain ⟨v_o318, h422, h⟩ := bind_some h
                refine pkk_sound TTok mix hF 4 (hs := [.t false]) (ts := []) (s := [0, 1, 2, 3, 4, 5]) (l := [1, 2, 4, 9, 10, 11, 12, 13, 14, 23, 25]) (by kernel_rfl) (by kernel_rfl) (.cons (vf h415) .nil) (G_ringlaw5_SigSays_C7_ok hF (.s (cR (cL (cR (cR (cR (cR (cR (cR (cR (cR (cR (cR (cR (cR (cR (cR (cR (cR (bodyOf Try.f7))))))))))))))))))) :: .s (cR (cR (cR (cR (cR (cR (cR (cR (cR (cR (cR (cR (cR (cR (cR (cR (cR (bodyOf Try.f7)))))))))))))))))) :: []) n v_n2 v_how3 v_r40 v_r44 v_r51 v_s1 v_r157 _ h422 ?_)
                cases v_o318 with
                | x0 v_z319 =>
                  try dsimp only at h
                  obtain ⟨v_o335, h445, h⟩ := bind_some h
                  refine pkk_sound TTok mix hF 0 (hs := []) (ts := []) (s := [0, 1, 2, 3, 4, 5]) (l := [1, 2, 4, 9, 10, 11, 12, 13, 14, 23, 25, 245]) (by kernel_rfl) (by kernel_rfl) .nil (G_ringlaw5_SigSays_C9_ok hF (.s (cR (cR (cR (cR (cR (cR (cR (cR (cR (cR (cR (cR (cR (cR (cR (cR (cR (bodyOf Try.f7)))))))))))))))))) :: []) n v_n2 v_how3 v_r40 v_r44 v_r51 v_z319 v_s1 v_r157 _ h445 ?_)
                  cases v_o335 with
                  | x0 v_z336 =>
                    try dsimp only at h
                    obtain rfl := Option.some.inj h
                    exact pend_sound TTok mix 1 (hs := []) (by kernel_rfl) (by kernel_rfl) (by kernel_rfl) .nil
                  | x1  =>
                    try dsimp only at h
                    by_cases h446 : v_n2 < 1
                    · rw [if_pos h446] at h
                      obtain ⟨v_o347, h460, h⟩ := bind_some h
                      refine pkk_sound TTok mix hF 5 (hs := [.t true, .c, .c]) (ts := []) (s := [0, 1, 2]) (l := [9, 10, 13, 14, 23]) (by kernel_rfl) (by kernel_rfl) (.cons (dt h446) .nil) (G_ringlaw5_SigSays_C10_ok hF (.s (cR (cT (cR (cL (cR (cR (cR (cR (cR (cR (cR (cR (cR (cR (cR (cR (cR (cR (cR (cR (cR (bodyOf Try.f7)))))))))))))))))))))) :: .s (cR (cR (cR (cR (cR (cR (cR (cR (cR (cR (cR (cR (cR (cR (cR (cR (cR (cR (bodyOf Try.f7))))))))))))))))))) :: []) n v_r40 v_r51 _ h460 ?_)
                      cases v_o347 with
                      | x0 v_z348 =>
                        try dsimp only at h
                        obtain rfl := Option.some.inj h
                        exact pend_sound TTok mix 2 (hs := []) (by kernel_rfl) (by kernel_rfl) (by kernel_rfl) .nil
                    · rw [if_neg h446] at h
                      by_cases h469 : v_n2 > 15
                      · rw [if_pos h469] at h
                        obtain ⟨v_o359, h476, h⟩ := bind_some h
                        refine pkk_sound TTok mix hF 5 (hs := [.t false, .c, .t true]) (ts := []) (s := [0, 1, 2]) (l := [9, 10, 13, 14, 23]) (by kernel_rfl) (by kernel_rfl) (.cons (df h446) (.cons (dt h469) .nil)) (G_ringlaw5_SigSays_C11_ok hF (.s (cR (cT (cR (cL (cR (cR (cR (cR (cR (cR (cR (cR (cR (cR (cR (cR (cR (cR (cR (cR (cR (bodyOf Try.f7)))))))))))))))))))))) :: .s (cR (cR (cR (cR (cR (cR (cR (cR (cR (cR (cR (cR (cR (cR (cR (cR (cR (cR (bodyOf Try.f7))))))))))))))))))) :: []) n v_r40 v_r51 _ h476 ?_)
                        cases v_o359 with
                        | x0 v_z360 =>
                          try dsimp only at h
                          obtain rfl := Option.some.inj h
                          exact pend_sound TTok mix 2 (hs := []) (by kernel_rfl) (by kernel_rfl) (by kernel_rfl) .nil
                      · rw [if_neg h469] at h
                        obtain ⟨v_o1148, h1294, h⟩ := bind_some h
                        refine pkk_sound TTok mix hF 7 (hs := [.t false, .c, .t false]) (ts := []) (s := [0, 1, 2, 3]) (l := [1, 2, 9, 10, 13, 14, 23, 25]) (by kernel_rfl) (by kernel_rfl) (.cons (df h446) (.cons (df h469) .nil)) (G_ringlaw5_SigSays_C12_ok hF (.s (cR (cL (cR (cR (cR (cR (cR (cR (cR (cR (cR (cR (cR (cR (cR (cR (cR (cR (cR (cR (bodyOf Try.f7))))))))))))))))))))) :: .s (cR (cR (cR (cR (cR (cR (cR (cR (cR (cR (cR (cR (cR (cR (cR (cR (cR (cR (cR (bodyOf Try.f7)))))))))))))))))))) :: []) n v_n2 v_how3 v_r40 v_r51 v_r157 _ h1294 ?_)
                        cases v_o1148 with
                        | x0 v_z1149 =>
                          try dsimp only at h
                          by_cases h1295 : v_z1149 = true
                          · rw [if_pos h1295] at h
                            obtain rfl := Option.some.inj h
                            exact pend_sound TTok mix 5 (hs := [.t true]) (by kernel_rfl) (by kernel_rfl) (by kernel_rfl) (.cons h1295 .nil)
                          · rw [if_neg h1295] at h
                            by_cases h1296 : v_how3 < 0
                            · rw [if_pos h1296] at h
                              obtain ⟨v_o1166, h1322, h⟩ := bind_some h
                              refine pkk_sound TTok mix hF 7 (hs := [.t false, .t true, .c, .c]) (ts := []) (s := [0, 1]) (l := [2, 13, 14, 23]) (by kernel_rfl) (by kernel_rfl) (.cons (vf h1295) (.cons (dt h1296) .nil)) (G_ringlaw5_SigSays_C13_ok hF (.s (cR (cT (cR (cL (cR (cR (cR (cR (cR (cR (cR (cR (cR (cR (cR (cR (cR (cR (cR (cR (cR (cR (cR (bodyOf Try.f7)))))))))))))))))))))))) :: .s (cR (cR (cR (cR (cR (cR (cR (cR (cR (cR (cR (cR (cR (cR (cR (cR (cR (cR (cR (cR (bodyOf Try.f7))))))))))))))))))))) :: []) n v_how3 v_r51 _ h1322 ?_)
                              cases v_o1166 with
                              | x0 v_z1167 =>
                                try dsimp only at h
                                obtain rfl := Option.some.inj h
                                exact pend_sound TTok mix 2 (hs := []) (by kernel_rfl) (by kernel_rfl) (by kernel_rfl) .nil
                            · rw [if_neg h1296] at h
                              by_cases h1337 : v_n2 = 9
                              · rw [if_pos h1337] at h
                                obtain ⟨v_o1184, h1350, h⟩ := bind_some h
                                refine pkk_sound TTok mix hF 7 (hs := [.t false, .t false, .c, .t true]) (ts := []) (s := [0, 1]) (l := [2, 13, 14, 23]) (by kernel_rfl) (by kernel_rfl) (.cons (vf h1295) (.cons (df h1296) (.cons (bt h1337) .nil))) (G_ringlaw5_SigSays_C14_ok hF (.s (cR (cT (cR (cL (cR (cR (cR (cR (cR (cR (cR (cR (cR (cR (cR (cR (cR (cR (cR (cR (cR (cR (cR (bodyOf Try.f7)))))))))))))))))))))))) :: .s (cR (cR (cR (cR (cR (cR (cR (cR (cR (cR (cR (cR (cR (cR (cR (cR (cR (cR (cR (cR (bodyOf Try.f7))))))))))))))))))))) :: []) n v_how3 v_r51 _ h1350 ?_)
                                cases v_o1184 with
                                | x0 v_z1185 =>
                                  try dsimp only at h
                                  obtain rfl := Option.some.inj h
                                  exact pend_sound TTok mix 2 (hs := []) (by kernel_rfl) (by kernel_rfl) (by kernel_rfl) .nil
                              · rw [if_neg h1337] at h
                                by_cases h1351 : 0 ≤ v_n2 ∧ v_n2 < (16 : Int)
                                · rw [if_pos h1351] at h
                                  obtain ⟨v_y1186, h1352, h⟩ := bind_some h
                                  by_cases h1355 : v_how3 = 1
                                  · rw [if_pos h1355] at h
                                    obtain ⟨v_r1188, h1356, h⟩ := bind_some h
                                    by_cases h1357 : v_r51.2 = 0
                                    · rw [if_pos h1357] at h
                                      obtain ⟨v_r1189, h1358, h⟩ := bind_some h
                                      obtain rfl := Option.some.inj h
                                      exact pend_sound TTok mix 17 (hs := [.t false, .t false, .c, .t false, .x ((cS_ringref5_Signals (S_ringref5_Signals.mk v_r157.fWait v_r157.fBack (setA v_r157.fHow v_n2 v_how3))).map FV.d), .c, .t true, .c, .r (eS_ringref5_Signals v_r1188), .c, .t true, .c, .c, .c, .c, .r (eB v_r1189)]) (by kernel_rfl) (by kernel_rfl) (by kernel_rfl) (.cons (vf h1295) (.cons (df h1296) (.cons (bf h1337) (.cons h1351 (.cons (arr_store (γ := FV) (sz := 1) (g := (fun x => [.d (.v (.int .i64 x))])) (pre := [.d (.sl (v_r157.fWait.map (eI .i64))), .d (.sl (v_r157.fBack.map (eI .i64)))]) (post := []) (o := 0) (y := v_how3) (zs := [.d (.v (.int .i64 v_how3))]) (fun _ => rfl) h1352 rfl (Nat.le_of_ble_eq_true rfl)).1 (.cons (arr_store (γ := FV) (sz := 1) (g := (fun x => [.d (.v (.int .i64 x))])) (pre := [.d (.sl (v_r157.fWait.map (eI .i64))), .d (.sl (v_r157.fBack.map (eI .i64)))]) (post := []) (o := 0) (y := v_how3) (zs := [.d (.v (.int .i64 v_how3))]) (fun _ => rfl) h1352 rfl (Nat.le_of_ble_eq_true rfl)).2 (.cons (bt h1355) (.cons (G_ringref5_Signals_Without_ok n (S_ringref5_Signals.mk v_r157.fWait v_r157.fBack (setA v_r157.fHow v_n2 v_how3)) v_n2 _ h1356) (.cons (show 0 + 18 ≤ 18 by decide) (.cons (bt h1357) (.cons (G_ringlaw5_same_ok n v_r51.1 v_r1188 _ h1358) .nil)))))))))))
                                    · rw [if_neg h1357] at h
                                      obtain rfl := Option.some.inj h
                                      exact pend_sound TTok mix 17 (hs := [.t false, .t false, .c, .t false, .x ((cS_ringref5_Signals (S_ringref5_Signals.mk v_r157.fWait v_r157.fBack (setA v_r157.fHow v_n2 v_how3))).map FV.d), .c, .t true, .c, .r (eS_ringref5_Signals v_r1188), .c, .t false, .c, .c]) (by kernel_rfl) (by kernel_rfl) (by kernel_rfl) (.cons (vf h1295) (.cons (df h1296) (.cons (bf h1337) (.cons h1351 (.cons (arr_store (γ := FV) (sz := 1) (g := (fun x => [.d (.v (.int .i64 x))])) (pre := [.d (.sl (v_r157.fWait.map (eI .i64))), .d (.sl (v_r157.fBack.map (eI .i64)))]) (post := []) (o := 0) (y := v_how3) (zs := [.d (.v (.int .i64 v_how3))]) (fun _ => rfl) h1352 rfl (Nat.le_of_ble_eq_true rfl)).1 (.cons (arr_store (γ := FV) (sz := 1) (g := (fun x => [.d (.v (.int .i64 x))])) (pre := [.d (.sl (v_r157.fWait.map (eI .i64))), .d (.sl (v_r157.fBack.map (eI .i64)))]) (post := []) (o := 0) (y := v_how3) (zs := [.d (.v (.int .i64 v_how3))]) (fun _ => rfl) h1352 rfl (Nat.le_of_ble_eq_true rfl)).2 (.cons (bt h1355) (.cons (G_ringref5_Signals_Without_ok n (S_ringref5_Signals.mk v_r157.fWait v_r157.fBack (setA v_r157.fHow v_n2 v_how3)) v_n2 _ h1356) (.cons (show 0 + 18 ≤ 18 by decide) (.cons (bf h1357) .nil))))))))))
                                  · rw [if_neg h1355] at h
                                    by_cases h1359 : v_r51.2 = 0
                                    · rw [if_pos h1359] at h
                                      obtain ⟨v_r1190, h1360, h⟩ := bind_some h
                                      obtain rfl := Option.some.inj h
                                      exact pend_sound TTok mix 17 (hs := [.t false, .t false, .c, .t false, .x ((cS_ringref5_Signals (S_ringref5_Signals.mk v_r157.fWait v_r157.fBack (setA v_r157.fHow v_n2 v_how3))).map FV.d), .c, .t false, .t true, .c, .c, .c, .c, .r (eB v_r1190)]) (by kernel_rfl) (by kernel_rfl) (by kernel_rfl) (.cons (vf h1295) (.cons (df h1296) (.cons (bf h1337) (.cons h1351 (.cons (arr_store (γ := FV) (sz := 1) (g := (fun x => [.d (.v (.int .i64 x))])) (pre := [.d (.sl (v_r157.fWait.map (eI .i64))), .d (.sl (v_r157.fBack.map (eI .i64)))]) (post := []) (o := 0) (y := v_how3) (zs := [.d (.v (.int .i64 v_how3))]) (fun _ => rfl) h1352 rfl (Nat.le_of_ble_eq_true rfl)).1 (.cons (arr_store (γ := FV) (sz := 1) (g := (fun x => [.d (.v (.int .i64 x))])) (pre := [.d (.sl (v_r157.fWait.map (eI .i64))), .d (.sl (v_r157.fBack.map (eI .i64)))]) (post := []) (o := 0) (y := v_how3) (zs := [.d (.v (.int .i64 v_how3))]) (fun _ => rfl) h1352 rfl (Nat.le_of_ble_eq_true rfl)).2 (.cons (bf h1355) (.cons (bt h1359) (.cons (G_ringlaw5_same_ok n v_r51.1 (S_ringref5_Signals.mk v_r157.fWait v_r157.fBack (setA v_r157.fHow v_n2 v_how3)) _ h1360) .nil)))))))))
                                    · rw [if_neg h1359] at h
                                      obtain rfl := Option.some.inj h
                                      exact pend_sound TTok mix 17 (hs := [.t false, .t false, .c, .t false, .x ((cS_ringref5_Signals (S_ringref5_Signals.mk v_r157.fWait v_r157.fBack (setA v_r157.fHow v_n2 v_how3))).map FV.d), .c, .t false, .t false, .c, .c]) (by kernel_rfl) (by kernel_rfl) (by kernel_rfl) (.cons (vf h1295) (.cons (df h1296) (.cons (bf h1337) (.cons h1351 (.cons (arr_store (γ := FV) (sz := 1) (g := (fun x => [.d (.v (.int .i64 x))])) (pre := [.d (.sl (v_r157.fWait.map (eI .i64))), .d (.sl (v_r157.fBack.map (eI .i64)))]) (post := []) (o := 0) (y := v_how3) (zs := [.d (.v (.int .i64 v_how3))]) (fun _ => rfl) h1352 rfl (Nat.le_of_ble_eq_true rfl)).1 (.cons (arr_store (γ := FV) (sz := 1) (g := (fun x => [.d (.v (.int .i64 x))])) (pre := [.d (.sl (v_r157.fWait.map (eI .i64))), .d (.sl (v_r157.fBack.map (eI .i64)))]) (post := []) (o := 0) (y := v_how3) (zs := [.d (.v (.int .i64 v_how3))]) (fun _ => rfl) h1352 rfl (Nat.le_of_ble_eq_true rfl)).2 (.cons (bf h1355) (.cons (bf h1359) .nil))))))))
                                · rw [if_neg h1351] at h; cases h
        · rw [if_neg h374] at h
          obtain ⟨v_o1195, h1365, h⟩ := bind_some h
          refine pkk_sound TTok mix hF 9 (hs := [.c, .c, .t false, .c]) (ts := []) (s := [0, 1, 2, 3, 4, 5, 6, 10]) (l := [1, 2, 4, 9, 10, 11, 12, 13, 14, 21, 22, 23, 25, 27]) (by kernel_rfl) (by kernel_rfl) (.cons (show 0 + 18 ≤ 18 by decide) (.cons (vf h374) (.cons (show 0 + 1 ≤ 18 by decide) .nil))) (G_ringlaw5_SigSays_C15_ok hF (.s (cR (cL (cR (cR (cR (cR (cR (cR (cR (cR (cR (cR (cR (cR (cR (cR (cR (bodyOf Try.f7)))))))))))))))))) :: .s (cR (cR (cR (cR (cR (cR (cR (cR (cR (cR (cR (cR (cR (cR (cR (cR (bodyOf Try.f7))))))))))))))))) :: []) n v_n2 v_how3 v_r40 v_r44 v_r51 v_r86 v_s1 v_r157 _ h1365 ?_)
          cases v_o1195 with
          | x0 v_z1196 =>
            try dsimp only at h
            by_cases h1366 : v_z1196 = true
            · rw [if_pos h1366] at h
              obtain rfl := Option.some.inj h
              exact pend_sound TTok mix 5 (hs := [.t true]) (by kernel_rfl) (by kernel_rfl) (by kernel_rfl) (.cons h1366 .nil)
            · rw [if_neg h1366] at h
              obtain ⟨v_o1200, h1373, h⟩ := bind_some h
              refine pkk_sound TTok mix hF 4 (hs := [.t false]) (ts := []) (s := [0, 1, 2, 3, 4, 5]) (l := [1, 2, 4, 9, 10, 11, 12, 13, 14, 23, 25]) (by kernel_rfl) (by kernel_rfl) (.cons (vf h1366) .nil) (G_ringlaw5_SigSays_C16_ok hF (.s (cR (cL (cR (cR (cR (cR (cR (cR (cR (cR (cR (cR (cR (cR (cR (cR (cR (cR (bodyOf Try.f7))))))))))))))))))) :: .s (cR (cR (cR (cR (cR (cR (cR (cR (cR (cR (cR (cR (cR (cR (cR (cR (cR (bodyOf Try.f7)))))))))))))))))) :: []) n v_n2 v_how3 v_r40 v_r44 v_r51 v_s1 v_r157 _ h1373 ?_)
              cases v_o1200 with
              | x0 v_z1201 =>
                try dsimp only at h
                obtain ⟨v_o1217, h1396, h⟩ := bind_some h
                refine pkk_sound TTok mix hF 0 (hs := []) (ts := []) (s := [0, 1, 2, 3, 4, 5]) (l := [1, 2, 4, 9, 10, 11, 12, 13, 14, 23, 25, 245]) (by kernel_rfl) (by kernel_rfl) .nil (G_ringlaw5_SigSays_C18_ok hF (.s (cR (cR (cR (cR (cR (cR (cR (cR (cR (cR (cR (cR (cR (cR (cR (cR (cR (bodyOf Try.f7)))))))))))))))))) :: []) n v_n2 v_how3 v_r40 v_r44 v_r51 v_z1201 v_s1 v_r157 _ h1396 ?_)
                cases v_o1217 with
                | x0 v_z1218 =>
                  try dsimp only at h
                  obtain rfl := Option.some.inj h
                  exact pend_sound TTok mix 1 (hs := []) (by kernel_rfl) (by kernel_rfl) (by kernel_rfl) .nil
                | x1  =>
                  try dsimp only at h
                  by_cases h1397 : v_n2 < 1
                  · rw [if_pos h1397] at h
                    obtain ⟨v_o1229, h1411, h⟩ := bind_some h
                    refine pkk_sound TTok mix hF 5 (hs := [.t true, .c, .c]) (ts := []) (s := [0, 1, 2]) (l := [9, 10, 13, 14, 23]) (by kernel_rfl) (by kernel_rfl) (.cons (dt h1397) .nil) (G_ringlaw5_SigSays_C19_ok hF (.s (cR (cT (cR (cL (cR (cR (cR (cR (cR (cR (cR (cR (cR (cR (cR (cR (cR (cR (cR (cR (cR (bodyOf Try.f7)))))))))))))))))))))) :: .s (cR (cR (cR (cR (cR (cR (cR (cR (cR (cR (cR (cR (cR (cR (cR (cR (cR (cR (bodyOf Try.f7))))))))))))))))))) :: []) n v_r40 v_r51 _ h1411 ?_)
                    cases v_o1229 with
                    | x0 v_z1230 =>
                      try dsimp only at h
                      obtain rfl := Option.some.inj h
                      exact pend_sound TTok mix 2 (hs := []) (by kernel_rfl) (by kernel_rfl) (by kernel_rfl) .nil
                  · rw [if_neg h1397] at h
                    by_cases h1420 : v_n2 > 15
                    · rw [if_pos h1420] at h
                      obtain ⟨v_o1241, h1427, h⟩ := bind_some h
                      refine pkk_sound TTok mix hF 5 (hs := [.t false, .c, .t true]) (ts := []) (s := [0, 1, 2]) (l := [9, 10, 13, 14, 23]) (by kernel_rfl) (by kernel_rfl) (.cons (df h1397) (.cons (dt h1420) .nil)) (G_ringlaw5_SigSays_C20_ok hF (.s (cR (cT (cR (cL (cR (cR (cR (cR (cR (cR (cR (cR (cR (cR (cR (cR (cR (cR (cR (cR (cR (bodyOf Try.f7)))))))))))))))))))))) :: .s (cR (cR (cR (cR (cR (cR (cR (cR (cR (cR (cR (cR (cR (cR (cR (cR (cR (cR (bodyOf Try.f7))))))))))))))))))) :: []) n v_r40 v_r51 _ h1427 ?_)
                      cases v_o1241 with
                      | x0 v_z1242 =>
                        try dsimp only at h
                        obtain rfl := Option.some.inj h
                        exact pend_sound TTok mix 2 (hs := []) (by kernel_rfl) (by kernel_rfl) (by kernel_rfl) .nil
                    · rw [if_neg h1420] at h
                      obtain ⟨v_o1249, h1434, h⟩ := bind_some h
                      refine pkk_sound TTok mix hF 7 (hs := [.t false, .c, .t false]) (ts := []) (s := [0, 1, 2, 3]) (l := [1, 2, 9, 10, 13, 14, 23, 25]) (by kernel_rfl) (by kernel_rfl) (.cons (df h1397) (.cons (df h1420) .nil)) (G_ringlaw5_SigSays_C21_ok hF (.s (cR (cL (cR (cR (cR (cR (cR (cR (cR (cR (cR (cR (cR (cR (cR (cR (cR (cR (cR (cR (bodyOf Try.f7))))))))))))))))))))) :: .s (cR (cR (cR (cR (cR (cR (cR (cR (cR (cR (cR (cR (cR (cR (cR (cR (cR (cR (cR (bodyOf Try.f7)))))))))))))))))))) :: []) n v_n2 v_how3 v_r40 v_r51 v_r157 _ h1434 ?_)
                      cases v_o1249 with
                      | x0 v_z1250 =>
                        try dsimp only at h
                        by_cases h1435 : v_z1250 = true
                        · rw [if_pos h1435] at h
                          obtain rfl := Option.some.inj h
                          exact pend_sound TTok mix 5 (hs := [.t true]) (by kernel_rfl) (by kernel_rfl) (by kernel_rfl) (.cons h1435 .nil)
                        · rw [if_neg h1435] at h
                          by_cases h1436 : v_how3 < 0
                          · rw [if_pos h1436] at h
                            obtain ⟨v_o1267, h1462, h⟩ := bind_some h
                            refine pkk_sound TTok mix hF 7 (hs := [.t false, .t true, .c, .c]) (ts := []) (s := [0, 1]) (l := [2, 13, 14, 23]) (by kernel_rfl) (by kernel_rfl) (.cons (vf h1435) (.cons (dt h1436) .nil)) (G_ringlaw5_SigSays_C22_ok hF (.s (cR (cT (cR (cL (cR (cR (cR (cR (cR (cR (cR (cR (cR (cR (cR (cR (cR (cR (cR (cR (cR (cR (cR (bodyOf Try.f7)))))))))))))))))))))))) :: .s (cR (cR (cR (cR (cR (cR (cR (cR (cR (cR (cR (cR (cR (cR (cR (cR (cR (cR (cR (cR (bodyOf Try.f7))))))))))))))))))))) :: []) n v_how3 v_r51 _ h1462 ?_)
                            cases v_o1267 with
                            | x0 v_z1268 =>
                              try dsimp only at h
                              obtain rfl := Option.some.inj h
                              exact pend_sound TTok mix 2 (hs := []) (by kernel_rfl) (by kernel_rfl) (by kernel_rfl) .nil
                          · rw [if_neg h1436] at h
                            by_cases h1477 : v_n2 = 9
                            · rw [if_pos h1477] at h
                              obtain ⟨v_o1285, h1490, h⟩ := bind_some h
                              refine pkk_sound TTok mix hF 7 (hs := [.t false, .t false, .c, .t true]) (ts := []) (s := [0, 1]) (l := [2, 13, 14, 23]) (by kernel_rfl) (by kernel_rfl) (.cons (vf h1435) (.cons (df h1436) (.cons (bt h1477) .nil))) (G_ringlaw5_SigSays_C23_ok hF (.s (cR (cT (cR (cL (cR (cR (cR (cR (cR (cR (cR (cR (cR (cR (cR (cR (cR (cR (cR (cR (cR (cR (cR (bodyOf Try.f7)))))))))))))))))))))))) :: .s (cR (cR (cR (cR (cR (cR (cR (cR (cR (cR (cR (cR (cR (cR (cR (cR (cR (cR (cR (cR (bodyOf Try.f7))))))))))))))))))))) :: []) n v_how3 v_r51 _ h1490 ?_)
                              cases v_o1285 with
                              | x0 v_z1286 =>
                                try dsimp only at h
                                obtain rfl := Option.some.inj h
                                exact pend_sound TTok mix 2 (hs := []) (by kernel_rfl) (by kernel_rfl) (by kernel_rfl) .nil
                            · rw [if_neg h1477] at h
                              by_cases h1491 : 0 ≤ v_n2 ∧ v_n2 < (16 : Int)
                              · rw [if_pos h1491] at h
                                obtain ⟨v_y1287, h1492, h⟩ := bind_some h
                                by_cases h1495 : v_how3 = 1
                                · rw [if_pos h1495] at h
                                  obtain ⟨v_r1289, h1496, h⟩ := bind_some h
                                  by_cases h1497 : v_r51.2 = 0
                                  · rw [if_pos h1497] at h
                                    obtain ⟨v_r1290, h1498, h⟩ := bind_some h
                                    obtain rfl := Option.some.inj h
                                    exact pend_sound TTok mix 17 (hs := [.t false, .t false, .c, .t false, .x ((cS_ringref5_Signals (S_ringref5_Signals.mk v_r157.fWait v_r157.fBack (setA v_r157.fHow v_n2 v_how3))).map FV.d), .c, .t true, .c, .r (eS_ringref5_Signals v_r1289), .c, .t true, .c, .c, .c, .c, .r (eB v_r1290)]) (by kernel_rfl) (by kernel_rfl) (by kernel_rfl) (.cons (vf h1435) (.cons (df h1436) (.cons (bf h1477) (.cons h1491 (.cons (arr_store (γ := FV) (sz := 1) (g := (fun x => [.d (.v (.int .i64 x))])) (pre := [.d (.sl (v_r157.fWait.map (eI .i64))), .d (.sl (v_r157.fBack.map (eI .i64)))]) (post := []) (o := 0) (y := v_how3) (zs := [.d (.v (.int .i64 v_how3))]) (fun _ => rfl) h1492 rfl (Nat.le_of_ble_eq_true rfl)).1 (.cons (arr_store (γ := FV) (sz := 1) (g := (fun x => [.d (.v (.int .i64 x))])) (pre := [.d (.sl (v_r157.fWait.map (eI .i64))), .d (.sl (v_r157.fBack.map (eI .i64)))]) (post := []) (o := 0) (y := v_how3) (zs := [.d (.v (.int .i64 v_how3))]) (fun _ => rfl) h1492 rfl (Nat.le_of_ble_eq_true rfl)).2 (.cons (bt h1495) (.cons (G_ringref5_Signals_Without_ok n (S_ringref5_Signals.mk v_r157.fWait v_r157.fBack (setA v_r157.fHow v_n2 v_how3)) v_n2 _ h1496) (.cons (show 0 + 18 ≤ 18 by decide) (.cons (bt h1497) (.cons (G_ringlaw5_same_ok n v_r51.1 v_r1289 _ h1498) .nil)))))))))))
                                  · rw [if_neg h1497] at h
                                    obtain rfl := Option.some.inj h
                                    exact pend_sound TTok mix 17 (hs := [.t false, .t false, .c, .t false, .x ((cS_ringref5_Signals (S_ringref5_Signals.mk v_r157.fWait v_r157.fBack (setA v_r157.fHow v_n2 v_how3))).map FV.d), .c, .t true, .c, .r (eS_ringref5_Signals v_r1289), .c, .t false, .c, .c]) (by kernel_rfl) (by kernel_rfl) (by kernel_rfl) (.cons (vf h1435) (.cons (df h1436) (.cons (bf h1477) (.cons h1491 (.cons (arr_store (γ := FV) (sz := 1) (g := (fun x => [.d (.v (.int .i64 x))])) (pre := [.d (.sl (v_r157.fWait.map (eI .i64))), .d (.sl (v_r157.fBack.map (eI .i64)))]) (post := []) (o := 0) (y := v_how3) (zs := [.d (.v (.int .i64 v_how3))]) (fun _ => rfl) h1492 rfl (Nat.le_of_ble_eq_true rfl)).1 (.cons (arr_store (γ := FV) (sz := 1) (g := (fun x => [.d (.v (.int .i64 x))])) (pre := [.d (.sl (v_r157.fWait.map (eI .i64))), .d (.sl (v_r157.fBack.map (eI .i64)))]) (post := []) (o := 0) (y := v_how3) (zs := [.d (.v (.int .i64 v_how3))]) (fun _ => rfl) h1492 rfl (Nat.le_of_ble_eq_true rfl)).2 (.cons (bt h1495) (.cons (G_ringref5_Signals_Without_ok n (S_ringref5_Signals.mk v_r157.fWait v_r157.fBack (setA v_r157.fHow v_n2 v_how3)) v_n2 _ h1496) (.cons (show 0 + 18 ≤ 18 by decide) (.cons (bf h1497) .nil))))))))))
                                · rw [if_neg h1495] at h
                                  by_cases h1499 : v_r51.2 = 0
                                  · rw [if_pos h1499] at h
                                    obtain ⟨v_r1291, h1500, h⟩ := bind_some h
                                    obtain rfl := Option.some.inj h
                                    exact pend_sound TTok mix 17 (hs := [.t false, .t false, .c, .t false, .x ((cS_ringref5_Signals (S_ringref5_Signals.mk v_r157.fWait v_r157.fBack (setA v_r157.fHow v_n2 v_how3))).map FV.d), .c, .t false, .t true, .c, .c, .c, .c, .r (eB v_r1291)]) (by kernel_rfl) (by kernel_rfl) (by kernel_rfl) (.cons (vf h1435) (.cons (df h1436) (.cons (bf h1477) (.cons h1491 (.cons (arr_store (γ := FV) (sz := 1) (g := (fun x => [.d (.v (.int .i64 x))])) (pre := [.d (.sl (v_r157.fWait.map (eI .i64))), .d (.sl (v_r157.fBack.map (eI .i64)))]) (post := []) (o := 0) (y := v_how3) (zs := [.d (.v (.int .i64 v_how3))]) (fun _ => rfl) h1492 rfl (Nat.le_of_ble_eq_true rfl)).1 (.cons (arr_store (γ := FV) (sz := 1) (g := (fun x => [.d (.v (.int .i64 x))])) (pre := [.d (.sl (v_r157.fWait.map (eI .i64))), .d (.sl (v_r157.fBack.map (eI .i64)))]) (post := []) (o := 0) (y := v_how3) (zs := [.d (.v (.int .i64 v_how3))]) (fun _ => rfl) h1492 rfl (Nat.le_of_ble_eq_true rfl)).2 (.cons (bf h1495) (.cons (bt h1499) (.cons (G_ringlaw5_same_ok n v_r51.1 (S_ringref5_Signals.mk v_r157.fWait v_r157.fBack (setA v_r157.fHow v_n2 v_how3)) _ h1500) .nil)))))))))
                                  · rw [if_neg h1499] at h
                                    obtain rfl := Option.some.inj h
                                    exact pend_sound TTok mix 17 (hs := [.t false, .t false, .c, .t false, .x ((cS_ringref5_Signals (S_ringref5_Signals.mk v_r157.fWait v_r157.fBack (setA v_r157.fHow v_n2 v_how3))).map FV.d), .c, .t false, .t false, .c, .c]) (by kernel_rfl) (by kernel_rfl) (by kernel_rfl) (.cons (vf h1435) (.cons (df h1436) (.cons (bf h1477) (.cons h1491 (.cons (arr_store (γ := FV) (sz := 1) (g := (fun x => [.d (.v (.int .i64 x))])) (pre := [.d (.sl (v_r157.fWait.map (eI .i64))), .d (.sl (v_r157.fBack.map (eI .i64)))]) (post := []) (o := 0) (y := v_how3) (zs := [.d (.v (.int .i64 v_how3))]) (fun _ => rfl) h1492 rfl (Nat.le_of_ble_eq_true rfl)).1 (.cons (arr_store (γ := FV) (sz := 1) (g := (fun x => [.d (.v (.int .i64 x))])) (pre := [.d (.sl (v_r157.fWait.map (eI .i64))), .d (.sl (v_r157.fBack.map (eI .i64)))]) (post := []) (o := 0) (y := v_how3) (zs := [.d (.v (.int .i64 v_how3))]) (fun _ => rfl) h1492 rfl (Nat.le_of_ble_eq_true rfl)).2 (.cons (bf h1495) (.cons (bf h1499) .nil))))))))
                              · rw [if_neg h1491] at h; cases h
    · rw [if_neg h193] at h
      obtain ⟨v_o140, h220, h⟩ := bind_some h
      refine pkk_sound TTok mix hF 28 (hs := [.c, .r (.tup [eS_sig_Set v_r40.1, (eI .i64) v_r40.2]), .c, .c, .r (.tup [eS_sig_Set v_r44.1, (eI .i64) v_r44.2]), .c, .c, .r (.tup [eS_sig_Set v_r51.1, (eI .i64) v_r51.2]), .c, .c, .r (.tup [(eI .i64) v_r60.1, (eI .i64) v_r60.2]), .c, .r (.tup [eS_sig_Set v_r64.1, (eI .i64) v_r64.2.1, (eI .i64) v_r64.2.2.1, (eI .i64) v_r64.2.2.2]), .c, .c, .r (.tup [eS_sig_Set v_r86.1, (eI .i64) v_r86.2]), .c, .c, .c, .c, .c, .r ((eI .i64) v_r108), .c, .r ((eI .i64) v_r109), .t false, .t true]) (ts := []) (s := [24, 51, 81, 132, 165, 177]) (l := [9, 10, 11, 12, 13, 14, 15, 16, 17, 18, 19, 20, 21, 22, 23, 24]) (by kernel_rfl) (by kernel_rfl) (.cons (G_sig_Send_ok n v_s1 v_n2 _ h49) (.cons (show 0 + 18 ≤ 18 by decide) (.cons (G_sig_Hold_ok n v_s1 v_n2 _ h55) (.cons (show 0 + 18 ≤ 18 by decide) (.cons (G_sig_Handle_ok n v_s1 v_n2 v_how3 _ h71) (.cons (show 0 + 18 ≤ 18 by decide) (.cons (G_sig_Next_ok n v_s1 _ h85) (.cons (G_sig_Take_ok n v_s1 _ h92) (.cons (show 0 + 18 ≤ 18 by decide) (.cons (G_sig_Child_ok n v_s1 v_exec4 _ h132) (.cons (show 0 + 18 ≤ 18 by decide) (.cons (show 0 + 18 ≤ 18 by decide) (.cons (G_ringref5_SignalErr_ok n v_s1.fPending v_s1.fMask v_s1.fHow _ h162) (.cons (G_sig_Check_ok n v_s1 _ h163) (.cons (nf h164) (.cons (nt h193) .nil)))))))))))))))) (G_ringlaw5_SigSays_C1_ok hF (.s (cR (cT (cR (cL (cR (cR (cR (cR (cR (cR (cR (cR (cR (cR (bodyOf Try.f7))))))))))))))) :: .s (cR (cR (cR (cR (cR (cR (cR (cR (cR (cR (cR (bodyOf Try.f7)))))))))))) :: []) n v_r40 v_r44 v_r51 v_r60 v_r64 v_r86 v_r108 _ h220 ?_)
      cases v_o140 with
      | x0 v_z141 =>
        try dsimp only at h
        obtain rfl := Option.some.inj h
        exact pend_sound TTok mix 2 (hs := []) (by kernel_rfl) (by kernel_rfl) (by kernel_rfl) .nil
  · rw [if_neg h164] at h
    obtain rfl := Option.some.inj h
    exact pend_sound TTok mix 26 (hs := [.c, .r (.tup [eS_sig_Set v_r40.1, (eI .i64) v_r40.2]), .c, .c, .r (.tup [eS_sig_Set v_r44.1, (eI .i64) v_r44.2]), .c, .c, .r (.tup [eS_sig_Set v_r51.1, (eI .i64) v_r51.2]), .c, .c, .r (.tup [(eI .i64) v_r60.1, (eI .i64) v_r60.2]), .c, .r (.tup [eS_sig_Set v_r64.1, (eI .i64) v_r64.2.1, (eI .i64) v_r64.2.2.1, (eI .i64) v_r64.2.2.2]), .c, .c, .r (.tup [eS_sig_Set v_r86.1, (eI .i64) v_r86.2]), .c, .c, .c, .c, .c, .r ((eI .i64) v_r108), .c, .r ((eI .i64) v_r109), .t true]) (by kernel_rfl) (by kernel_rfl) (by kernel_rfl) (.cons (G_sig_Send_ok n v_s1 v_n2 _ h49) (.cons (show 0 + 18 ≤ 18 by decide) (.cons (G_sig_Hold_ok n v_s1 v_n2 _ h55) (.cons (show 0 + 18 ≤ 18 by decide) (.cons (G_sig_Handle_ok n v_s1 v_n2 v_how3 _ h71) (.cons (show 0 + 18 ≤ 18 by decide) (.cons (G_sig_Next_ok n v_s1 _ h85) (.cons (G_sig_Take_ok n v_s1 _ h92) (.cons (show 0 + 18 ≤ 18 by decide) (.cons (G_sig_Child_ok n v_s1 v_exec4 _ h132) (.cons (show 0 + 18 ≤ 18 by decide) (.cons (show 0 + 18 ≤ 18 by decide) (.cons (G_ringref5_SignalErr_ok n v_s1.fPending v_s1.fMask v_s1.fHow _ h162) (.cons (G_sig_Check_ok n v_s1 _ h163) (.cons (nt h164) .nil)))))))))))))))
def okA {n : Nat} {α : Type} (ok : α → Prop) (A : Fin n → α) : Prop := ∀ i, ok (A i)
theorem br_congr {α : Type} {s : rep.Sh} {g g' : α → List PV} {ok : α → Prop} (h : Br s g ok) (h' : ∀ a, g' a = g a) : Br s g' ok := by
  intro w x cs hr
  obtain ⟨a, o, q⟩ := h w x cs hr
  exact ⟨a, o, by rw [h' a]; exact q⟩
theorem RL_flat {α : Type} {w : World} {s : Nat} {g : α → List PV} : ∀ (l : List α) (cs : List Value), cs.length = l.length * s → (∀ i (hi : i < l.length), RL (fun _ => false) w (g l[i]) ((cs.drop (i * s)).take s)) → RL (fun _ => false) w (l.flatMap g) cs
  | [], cs, h, _ => by
    have : cs = [] := by simpa using h
    subst this
    simp [RL]
  | a :: l, cs, h, hp => by
    have h0 := hp 0 (by simp)
    simp only [Nat.zero_mul, List.drop_zero, List.getElem_cons_zero] at h0
    have h1 := RL_flat (w := w) (s := s) (g := g) l (cs.drop s) (by rw [List.length_drop, h, List.length_cons, Nat.succ_mul]; omega) (fun i hi => by
      have := hp (i + 1) (by simpa using hi)
      rw [List.getElem_cons_succ, Nat.succ_mul] at this
      rw [List.drop_drop]
      rwa [Nat.add_comm s (i * s)])
    rw [List.flatMap_cons, ← List.take_append_drop s cs]
    exact h0.append h1
theorem br_arr {n : Nat} {α : Type} {e : rep.Sh} {g : α → List PV} {ok : α → Prop} (h : Br e g ok) : Br (.arr n e) (fun A : Fin n → α => (List.ofFn A).flatMap g) (okA ok) := by
  intro w xs cs hr
  obtain ⟨h1, h2, h3⟩ := hr
  have hx : ∀ i, i < n → ∃ a : α, ok a ∧ RL (fun _ => false) w (g a) ((cs.drop (i * e.size)).take e.size) := fun i hi => h w _ _ (h3 i (by rw [h1]; exact hi))
  obtain ⟨l, hl, hp⟩ := rep.exists_list n _ hx
  subst hl
  refine ⟨fun i => l[i.val], fun i => (hp i.val i.isLt).1, ?_⟩
  have e1 : List.ofFn (fun i : Fin l.length => l[i.val]) = l := List.ofFn_getElem
  show RL (fun _ => false) w ((List.ofFn (fun i : Fin l.length => l[i.val])).flatMap g) cs
  rw [e1]
  exact RL_flat l cs h2 (fun i hi => (hp i hi).2)
def okS_sig_Set (x : S_sig_Set) : Prop := (fun a => (Lit.int .i64 a).wf = true) x.fPending ∧ (fun a => (Lit.int .i64 a).wf = true) x.fMask ∧ (okA (n := 16) (fun a => (Lit.int .i64 a).wf = true)) x.fHow ∧ True
theorem brS_sig_Set : Br (.pair (.int .i64) (.pair (.int .i64) (.pair (.arr 16 (.int .i64)) .unit))) (fun x : S_sig_Set => [.v (.int .i64 x.fPending), .v (.int .i64 x.fMask), .v (.int .i64 (x.fHow 0)), .v (.int .i64 (x.fHow 1)), .v (.int .i64 (x.fHow 2)), .v (.int .i64 (x.fHow 3)), .v (.int .i64 (x.fHow 4)), .v (.int .i64 (x.fHow 5)), .v (.int .i64 (x.fHow 6)), .v (.int .i64 (x.fHow 7)), .v (.int .i64 (x.fHow 8)), .v (.int .i64 (x.fHow 9)), .v (.int .i64 (x.fHow 10)), .v (.int .i64 (x.fHow 11)), .v (.int .i64 (x.fHow 12)), .v (.int .i64 (x.fHow 13)), .v (.int .i64 (x.fHow 14)), .v (.int .i64 (x.fHow 15))]) okS_sig_Set := br_map (br_pair (br_int .i64) (br_pair (br_int .i64) (br_pair (br_congr (g' := fun x : (Fin 16 → Int) => [.v (.int .i64 (x 0)), .v (.int .i64 (x 1)), .v (.int .i64 (x 2)), .v (.int .i64 (x 3)), .v (.int .i64 (x 4)), .v (.int .i64 (x 5)), .v (.int .i64 (x 6)), .v (.int .i64 (x 7)), .v (.int .i64 (x 8)), .v (.int .i64 (x 9)), .v (.int .i64 (x 10)), .v (.int .i64 (x 11)), .v (.int .i64 (x 12)), .v (.int .i64 (x 13)), .v (.int .i64 (x 14)), .v (.int .i64 (x 15))]) (br_arr (n := 16) (g := fun a : Int => [.v (.int .i64 a)]) (ok := (fun a => (Lit.int .i64 a).wf = true)) (br_int .i64)) (fun x => rfl)) br_unit))) (fun p => S_sig_Set.mk p.1 p.2.1 p.2.2.1) (fun p h => ⟨rfl, h⟩)
theorem SigSays_walk (H : ∀ (a0 : S_sig_Set) (a1 : Int) (a2 : Int) (a3 : Bool), okS_sig_Set a0 → (fun a => (Lit.int .i64 a).wf = true) a1 → (fun a => (Lit.int .i64 a).wf = true) a2 → (fun _ => True) a3 → ∃ n, G_ringlaw5_SigSays n a0 a1 a2 a3 = some true) (w : World) (v0 : Value) (v1 : Value) (v2 : Value) (v3 : Value) (h0 : rep.Arg w (.pair (.int .i64) (.pair (.int .i64) (.pair (.arr 16 (.int .i64)) .unit))) v0) (h1 : rep.Arg w (.int .i64) v1) (h2 : rep.Arg w (.int .i64) v2) (h3 : rep.Arg w .bool v3) : Calls Try.prog 7 #[v0, v1, v2, v3] w (help.Ret (.bool true) w) := by
  obtain ⟨a0, o0, r0⟩ := arg_agg brS_sig_Set (by rfl) h0
  obtain ⟨a1, o1, r1⟩ := arg_one (br_int .i64) (by rfl) h1
  obtain ⟨a2, o2, r2⟩ := arg_one (br_int .i64) (by rfl) h2
  obtain ⟨a3, o3, r3⟩ := arg_one br_bool (by rfl) h3
  obtain ⟨n, hn⟩ := H a0 a1 a2 a3 o0 o1 o2 o3
  exact walk_of (G_ringlaw5_SigSays_ok n a0 a1 a2 a3 true hn) (RT_cons r0 (RT_cons r1 (RT_cons r2 (RT_cons r3 RT_nil))))
/- FRAME SigSays; ringhall/ringlaw5.SigSays; (.pair (.int .i64) (.pair (.int .i64) (.pair (.arr 16 (.int .i64)) .unit))) | (.int .i64) | (.int .i64) | .bool; .agg #[.int .i64 0, .int .i64 0, .int .i64 0, .int .i64 0, .int .i64 0, .int .i64 0, .int .i64 0, .int .i64 0, .int .i64 0, .int .i64 0, .int .i64 0, .int .i64 0, .int .i64 0, .int .i64 0, .int .i64 0, .int .i64 0, .int .i64 0, .int .i64 0] | .int .i64 0 | .int .i64 0 | .bool false -/
end Go.Proofs.Ytjjjaakefnnbpaa.pv
