/- What the functions compute (part 2): written by gen.py. -/
import Derived.Test.YtnmpnljjaoddhaaGuTableTellsP1
set_option maxRecDepth 100000
set_option linter.all false
namespace Go.Proofs.Ytnmpnljjaoddhaa.pv
open Go.RowKit
theorem G_ringlaw2_others_ok (n : Nat) (v_t668 : (Fin 8 → S_table_Node)) (v_x669 : (Fin 8 → S_table_Node)) (v_k670 : Int) (r : Bool) (h : G_ringlaw2_others n v_t668 v_x669 v_k670 = some r) : Ret Try.prog 37 [(fun x => PV.agg (cA_t49 x)) v_t668, (fun x => PV.agg (cA_t49 x)) v_x669, (eI .i64) v_k670] (eB r) := by
  refine ret_run (n := 38) (fn := Try.f37) (c := bodyOf Try.f37) (by kernel_rfl) (by kernel_rfl) (by kernel_rfl) (by kernel_rfl) ?_
  have hF : KC 38 (FinR Try.prog Try.f37 (eB r)) := FinR.kc' (by kernel_rfl)
  unfold G_ringlaw2_others at h
  obtain ⟨v_o713, h958, h⟩ := bind_some h
  refine pkk_sound TTok mix hF 7 (hs := [.n n]) (ts := []) (s := [0, 3]) (l := [2, 3, 4, 8]) (by kernel_rfl) (by kernel_rfl) .nil (G_ringlaw2_others_L2_ok hF (.b 0 :: .s (cR (cR (bodyOf Try.f37))) :: []) n v_k670 v_t668 v_x669 n 0 _ h958 ?_)
  cases v_o713 with
  | x0 v_z714 =>
    dsimp only at h
    obtain rfl := Option.some.inj h
    exact pend_sound TTok mix 2 (hs := []) (by kernel_rfl) (by kernel_rfl) (by kernel_rfl) .nil
  | x1  =>
    dsimp only at h
    obtain rfl := Option.some.inj h
    exact pend_sound TTok mix 4 (hs := []) (by kernel_rfl) (by kernel_rfl) (by kernel_rfl) .nil
inductive G_ringlaw2_TableTells_C1_R where
  | x0 (v_x543 : Bool)
def G_ringlaw2_TableTells_C1_ex : G_ringlaw2_TableTells_C1_R → Ex
  | .x0 _ => .normal
def G_ringlaw2_TableTells_C1_st (v_p2 : Int) (v_k4 : Int) (v_r267 : (S_entry_Entry × Int)) (v_r321 : ((Fin 8 → S_table_Node) × Int)) (v_r340 : ((Fin 8 → S_table_Node) × Int)) (v_r365 : ((Fin 8 → S_table_Node) × Int)) (v_r378 : (Int × Int × Int)) (v_r461 : (Int)) (v_t1 : (Fin 8 → S_table_Node)) (v_x3 : S_entry_Entry) : G_ringlaw2_TableTells_C1_R → PS
  | .x0 v_x543 => ⟨[dd, .d (.v (.int .i64 v_p2)), dd, .d (.v (.int .i64 v_k4)), .ref 0 0, dd, .ref 1 0, dd, dd, .ref 2 0, dd, .ref 3 0, dd, .ref 4 0, .d (.v (.int .i64 v_r340.2)), .ref 5 0, .d (.v (.int .i64 v_r365.2)), .d (.v (.int .i64 v_r378.1)), .d (.v (.int .i64 v_r378.2.1)), dd, .d (.v (.int .i64 v_r461)), .d (.clo 33 []), .d (.v (.int .i64 1)), .d (.v (.int .i64 1)), .d (.v (.int .i64 1)), dd, dd, dd, dd, dd, dd, dd, dd, dd, dd, dd, dd, dd, dd, dd, dd, dd, dd, dd, dd, dd, dd, dd, dd, dd, dd, dd, dd, dd, dd, dd, dd, dd, dd, dd, dd, dd, dd, dd, dd, dd, dd, dd, dd, dd, dd, dd, dd, dd, dd, dd, dd, dd, dd, dd, dd, dd, dd, dd, dd, dd, dd, dd, dd, dd, dd, dd, dd, dd, dd, dd, dd, dd, dd, dd, dd, dd, dd, dd, dd, dd, dd, dd, dd, dd, dd, dd, dd, dd, dd, dd, dd, dd, dd, dd, dd, dd, dd, dd, dd, dd, dd, dd, dd, dd, .d (.v (.bool v_x543)), dd, dd, dd, dd, dd, dd, dd, dd, dd, dd, dd, dd, dd, dd, dd, dd, dd, dd, dd, dd, dd, dd, dd, dd, dd, dd, dd, dd, dd, dd, dd, dd, dd, dd, dd, dd, dd, dd, dd, dd, dd, dd, dd, dd, dd, dd, dd, dd, dd, dd, dd, dd, dd, dd, dd, dd, dd, dd, dd, dd, dd, dd, dd, dd, dd, dd, dd, dd, dd, dd, dd, dd, dd, dd, dd, dd, dd, dd, dd, dd, dd, dd, dd, dd, dd, dd, dd, dd, dd, dd, dd, dd, dd, dd, dd, dd, dd, dd, dd, dd, dd, dd, dd, dd, dd, dd, dd, dd, dd, dd, dd, dd, dd, dd, dd, dd, dd, dd, dd, dd, dd, dd, dd, dd, dd, dd, dd, dd, dd, dd, dd, dd, dd, dd, dd, dd, dd, dd, dd, dd, dd, dd, dd, dd, dd, dd, dd, dd, dd, dd, dd, dd, dd, dd, dd, dd, dd, dd, dd, dd, dd, dd, dd, dd, dd, dd, dd, dd, dd, dd, dd, dd, dd, dd, dd, dd, dd, dd, dd, dd, dd, dd, dd, dd], [.box ((cA_t49 v_t1).map FV.d), .box [.d (.v (.bool v_x3.fHere)), .d (.v (.bool v_x3.fSlot)), .d (.v (.int .i64 v_x3.fAt)), .d (.v (.int .i64 v_x3.fRights)), .d (.v (.bool v_x3.fUsed)), .d (.v (.bool v_x3.fDirty)), .d (.v (.bool v_x3.fCopy))], .box [.d (.v (.bool v_r267.1.fHere)), .d (.v (.bool v_r267.1.fSlot)), .d (.v (.int .i64 v_r267.1.fAt)), .d (.v (.int .i64 v_r267.1.fRights)), .d (.v (.bool v_r267.1.fUsed)), .d (.v (.bool v_r267.1.fDirty)), .d (.v (.bool v_r267.1.fCopy))], .box ((cA_t49 v_r321.1).map FV.d), .box ((cA_t49 v_r340.1).map FV.d), .box ((cA_t49 v_r365.1).map FV.d)]⟩
def G_ringlaw2_TableTells_C1_hd (v_p2 : Int) (v_k4 : Int) (v_r267 : (S_entry_Entry × Int)) (v_r321 : ((Fin 8 → S_table_Node) × Int)) (v_r340 : ((Fin 8 → S_table_Node) × Int)) (v_r365 : ((Fin 8 → S_table_Node) × Int)) (v_r378 : (Int × Int × Int)) (v_r461 : (Int)) (v_t1 : (Fin 8 → S_table_Node)) (v_x3 : S_entry_Entry)  : PS := ⟨[dd, .d (.v (.int .i64 v_p2)), dd, .d (.v (.int .i64 v_k4)), .ref 0 0, dd, .ref 1 0, dd, dd, .ref 2 0, .d (.v (.int .i64 v_r267.2)), .ref 3 0, .d (.v (.int .i64 v_r321.2)), .ref 4 0, .d (.v (.int .i64 v_r340.2)), .ref 5 0, .d (.v (.int .i64 v_r365.2)), .d (.v (.int .i64 v_r378.1)), .d (.v (.int .i64 v_r378.2.1)), .d (.v (.int .i64 v_r378.2.2)), .d (.v (.int .i64 v_r461)), .d (.clo 33 []), .d (.v (.int .i64 1)), .d (.v (.int .i64 1)), .d (.v (.int .i64 1)), dd, dd, dd, dd, dd, dd, dd, dd, dd, dd, dd, dd, dd, dd, dd, dd, dd, dd, dd, dd, dd, dd, dd, dd, dd, dd, dd, dd, dd, dd, dd, dd, dd, dd, dd, dd, dd, dd, dd, dd, dd, dd, dd, dd, dd, dd, dd, dd, dd, dd, dd, dd, dd, dd, dd, dd, dd, dd, dd, dd, dd, dd, dd, dd, dd, dd, dd, dd, dd, dd, dd, dd, dd, dd, dd, dd, dd, dd, dd, dd, dd, dd, dd, dd, dd, dd, dd, dd, dd, dd, dd, dd, dd, dd, dd, dd, dd, dd, dd, dd, dd, dd, dd, dd, dd, dd, dd, dd, dd, dd, dd, dd, dd, dd, dd, dd, dd, dd, dd, dd, dd, dd, dd, dd, dd, dd, dd, dd, dd, dd, dd, dd, dd, dd, dd, dd, dd, dd, dd, dd, dd, dd, dd, dd, dd, dd, dd, dd, dd, dd, dd, dd, dd, dd, dd, dd, dd, dd, dd, dd, dd, dd, dd, dd, dd, dd, dd, dd, dd, dd, dd, dd, dd, dd, dd, dd, dd, dd, dd, dd, dd, dd, dd, dd, dd, dd, dd, dd, dd, dd, dd, dd, dd, dd, dd, dd, dd, dd, dd, dd, dd, dd, dd, dd, dd, dd, dd, dd, dd, dd, dd, dd, dd, dd, dd, dd, dd, dd, dd, dd, dd, dd, dd, dd, dd, dd, dd, dd, dd, dd, dd, dd, dd, dd, dd, dd, dd, dd, dd, dd, dd, dd, dd, dd, dd, dd, dd, dd, dd, dd, dd, dd, dd, dd, dd, dd, dd, dd, dd, dd, dd, dd, dd, dd, dd, dd, dd, dd, dd, dd, dd, dd, dd, dd, dd, dd, dd, dd, dd, dd, dd, dd, dd, dd, dd, dd, dd, dd, dd, dd], [.box ((cA_t49 v_t1).map FV.d), .box [.d (.v (.bool v_x3.fHere)), .d (.v (.bool v_x3.fSlot)), .d (.v (.int .i64 v_x3.fAt)), .d (.v (.int .i64 v_x3.fRights)), .d (.v (.bool v_x3.fUsed)), .d (.v (.bool v_x3.fDirty)), .d (.v (.bool v_x3.fCopy))], .box [.d (.v (.bool v_r267.1.fHere)), .d (.v (.bool v_r267.1.fSlot)), .d (.v (.int .i64 v_r267.1.fAt)), .d (.v (.int .i64 v_r267.1.fRights)), .d (.v (.bool v_r267.1.fUsed)), .d (.v (.bool v_r267.1.fDirty)), .d (.v (.bool v_r267.1.fCopy))], .box ((cA_t49 v_r321.1).map FV.d), .box ((cA_t49 v_r340.1).map FV.d), .box ((cA_t49 v_r365.1).map FV.d)]⟩
def G_ringlaw2_TableTells_C1 (n : Nat) (v_p2 : Int) (v_k4 : Int) (v_r267 : (S_entry_Entry × Int)) (v_r321 : ((Fin 8 → S_table_Node) × Int)) (v_r340 : ((Fin 8 → S_table_Node) × Int)) (v_r365 : ((Fin 8 → S_table_Node) × Int)) (v_r378 : (Int × Int × Int)) (v_r461 : (Int)) (v_t1 : (Fin 8 → S_table_Node)) (v_x3 : S_entry_Entry) : Option G_ringlaw2_TableTells_C1_R :=
  if v_r267.2 = 1 then
   if v_r321.2 = 1 then
    if v_r378.2.2 = v_r461 then
     if (eqRes .neq (eqS_entry_Entry v_r267.1 (S_entry_Entry.mk false false 0 0 false false false))) = true then
      some (.x0 true)
     else
      (G_ringlaw2_TableTells_1 n v_r321.1).bind fun (v_r547 : (Bool)) =>
      if v_r547 = true then
       if v_r461 = 0 then
        some (.x0 false)
       else
        some (.x0 ((wi .i64 (v_r378.1 + v_r378.2.1)) != 0))
      else
       some (.x0 true)
    else
     some (.x0 true)
   else
    some (.x0 true)
  else
   some (.x0 true)
theorem G_ringlaw2_TableTells_C1_ok {Fi : Ex → PS → Prop} (hF : KC 315 Fi) (ks : List Fr) (n : Nat) (v_p2 : Int) (v_k4 : Int) (v_r267 : (S_entry_Entry × Int)) (v_r321 : ((Fin 8 → S_table_Node) × Int)) (v_r340 : ((Fin 8 → S_table_Node) × Int)) (v_r365 : ((Fin 8 → S_table_Node) × Int)) (v_r378 : (Int × Int × Int)) (v_r461 : (Int)) (v_t1 : (Fin 8 → S_table_Node)) (v_x3 : S_entry_Entry)  (o : G_ringlaw2_TableTells_C1_R) (h : G_ringlaw2_TableTells_C1 n v_p2 v_k4 v_r267 v_r321 v_r340 v_r365 v_r378 v_r461 v_t1 v_x3 = some o) (q : RunE Try.prog 315 Fi ks (G_ringlaw2_TableTells_C1_ex o) (G_ringlaw2_TableTells_C1_st v_p2 v_k4 v_r267 v_r321 v_r340 v_r365 v_r378 v_r461 v_t1 v_x3 o)) : RunE Try.prog 315 Fi (.s (cL (cL (cR (cR (cR (cR (cR (cR (cR (cR (cR (cR (cR (cR (cR (bodyOf Try.f5)))))))))))))))) :: ks) .normal (G_ringlaw2_TableTells_C1_hd v_p2 v_k4 v_r267 v_r321 v_r340 v_r365 v_r378 v_r461 v_t1 v_x3) := by
  unfold G_ringlaw2_TableTells_C1 at h
  by_cases h754 : v_r267.2 = 1
  · rw [if_pos h754] at h
    by_cases h755 : v_r321.2 = 1
    · rw [if_pos h755] at h
      by_cases h756 : v_r378.2.2 = v_r461
      · rw [if_pos h756] at h
        by_cases h757 : (eqRes .neq (eqS_entry_Entry v_r267.1 (S_entry_Entry.mk false false 0 0 false false false))) = true
        · rw [if_pos h757] at h
          cases h
          exact pkk_sound TTok mix hF 1 (hs := [.t false, .c, .c, .t false, .c, .c, .t false, .c, .c, .c, .c, .c, .c, .q (eqS_entry_Entry v_r267.1 (S_entry_Entry.mk false false 0 0 false false false)), .c, .t true, .c, .c, .c, .c, .c, .c, .c]) (ts := []) (s := [0, 1, 2, 3, 4, 5]) (l := [1, 3, 4, 6, 9, 11, 13, 14, 15, 16, 17, 18, 20, 21, 22, 23, 24, 130]) (by kernel_rfl) (by kernel_rfl) (.cons (nf h754) (.cons (nf h755) (.cons (nf h756) (.cons (eqS_entry_Entry_ok v_r267.1 (S_entry_Entry.mk false false 0 0 false false false)) (.cons h757 .nil))))) q
        · rw [if_neg h757] at h
          obtain ⟨v_r547, h758, h⟩ := bind_some h
          by_cases h759 : v_r547 = true
          · rw [if_pos h759] at h
            by_cases h760 : v_r461 = 0
            · rw [if_pos h760] at h
              cases h
              exact pkk_sound TTok mix hF 1 (hs := [.t false, .c, .c, .t false, .c, .c, .t false, .c, .c, .c, .c, .c, .c, .q (eqS_entry_Entry v_r267.1 (S_entry_Entry.mk false false 0 0 false false false)), .c, .t false, .c, .c, .c, .c, .c, .c, .r (eB v_r547), .c, .c, .t false, .c, .c, .t false, .c, .c, .c, .c]) (ts := []) (s := [0, 1, 2, 3, 4, 5]) (l := [1, 3, 4, 6, 9, 11, 13, 14, 15, 16, 17, 18, 20, 21, 22, 23, 24, 130]) (by kernel_rfl) (by kernel_rfl) (.cons (nf h754) (.cons (nf h755) (.cons (nf h756) (.cons (eqS_entry_Entry_ok v_r267.1 (S_entry_Entry.mk false false 0 0 false false false)) (.cons (vf h757) (.cons (G_ringlaw2_TableTells_1_ok n v_r321.1 _ h758) (.cons (bnf h759) (.cons (nf h760) .nil)))))))) q
            · rw [if_neg h760] at h
              cases h
              exact pkk_sound TTok mix hF 1 (hs := [.t false, .c, .c, .t false, .c, .c, .t false, .c, .c, .c, .c, .c, .c, .q (eqS_entry_Entry v_r267.1 (S_entry_Entry.mk false false 0 0 false false false)), .c, .t false, .c, .c, .c, .c, .c, .c, .r (eB v_r547), .c, .c, .t false, .c, .c, .t true, .c, .c, .c, .c]) (ts := []) (s := [0, 1, 2, 3, 4, 5]) (l := [1, 3, 4, 6, 9, 11, 13, 14, 15, 16, 17, 18, 20, 21, 22, 23, 24, 130]) (by kernel_rfl) (by kernel_rfl) (.cons (nf h754) (.cons (nf h755) (.cons (nf h756) (.cons (eqS_entry_Entry_ok v_r267.1 (S_entry_Entry.mk false false 0 0 false false false)) (.cons (vf h757) (.cons (G_ringlaw2_TableTells_1_ok n v_r321.1 _ h758) (.cons (bnf h759) (.cons (nt h760) .nil)))))))) q
          · rw [if_neg h759] at h
            cases h
            exact pkk_sound TTok mix hF 1 (hs := [.t false, .c, .c, .t false, .c, .c, .t false, .c, .c, .c, .c, .c, .c, .q (eqS_entry_Entry v_r267.1 (S_entry_Entry.mk false false 0 0 false false false)), .c, .t false, .c, .c, .c, .c, .c, .c, .r (eB v_r547), .c, .c, .t true, .c, .c, .c]) (ts := []) (s := [0, 1, 2, 3, 4, 5]) (l := [1, 3, 4, 6, 9, 11, 13, 14, 15, 16, 17, 18, 20, 21, 22, 23, 24, 130]) (by kernel_rfl) (by kernel_rfl) (.cons (nf h754) (.cons (nf h755) (.cons (nf h756) (.cons (eqS_entry_Entry_ok v_r267.1 (S_entry_Entry.mk false false 0 0 false false false)) (.cons (vf h757) (.cons (G_ringlaw2_TableTells_1_ok n v_r321.1 _ h758) (.cons (bnt (vf h759)) .nil))))))) q
      · rw [if_neg h756] at h
        cases h
        exact pkk_sound TTok mix hF 1 (hs := [.t false, .c, .c, .t false, .c, .c, .t true, .c, .c, .c, .c, .c, .c, .c, .c, .c, .c, .c]) (ts := []) (s := [0, 1, 2, 3, 4, 5]) (l := [1, 3, 4, 6, 9, 11, 13, 14, 15, 16, 17, 18, 20, 21, 22, 23, 24, 130]) (by kernel_rfl) (by kernel_rfl) (.cons (nf h754) (.cons (nf h755) (.cons (nt h756) .nil))) q
    · rw [if_neg h755] at h
      cases h
      exact pkk_sound TTok mix hF 1 (hs := [.t false, .c, .c, .t true, .c, .c, .c, .c, .c, .c, .c, .c, .c, .c, .c, .c, .c, .c]) (ts := []) (s := [0, 1, 2, 3, 4, 5]) (l := [1, 3, 4, 6, 9, 11, 13, 14, 15, 16, 17, 18, 20, 21, 22, 23, 24, 130]) (by kernel_rfl) (by kernel_rfl) (.cons (nf h754) (.cons (nt h755) .nil)) q
  · rw [if_neg h754] at h
    cases h
    exact pkk_sound TTok mix hF 1 (hs := [.t true, .c, .c, .c, .c, .c, .c, .c, .c, .c, .c, .c, .c, .c, .c, .c, .c, .c]) (ts := []) (s := [0, 1, 2, 3, 4, 5]) (l := [1, 3, 4, 6, 9, 11, 13, 14, 15, 16, 17, 18, 20, 21, 22, 23, 24, 130]) (by kernel_rfl) (by kernel_rfl) (.cons (nt h754) .nil) q
inductive G_ringlaw2_TableTells_L2_R where
  | x0 (v_n569 : Int) (v_all570 : Int)
def G_ringlaw2_TableTells_L2_ex : G_ringlaw2_TableTells_L2_R → Ex
  | .x0 _ _ => .exit 0
def G_ringlaw2_TableTells_L2_st (v_p2 : Int) (v_k4 : Int) (v_r340 : ((Fin 8 → S_table_Node) × Int)) (v_r365 : ((Fin 8 → S_table_Node) × Int)) (v_r378 : (Int × Int × Int)) (v_t1 : (Fin 8 → S_table_Node)) (v_x3 : S_entry_Entry) (v_r267 : (S_entry_Entry × Int)) (v_r321 : ((Fin 8 → S_table_Node) × Int)) (v_r563 : ((Fin 64 → S_entry_Entry))) : G_ringlaw2_TableTells_L2_R → PS
  | .x0 v_n569 v_all570 => ⟨[dd, .d (.v (.int .i64 v_p2)), dd, .d (.v (.int .i64 v_k4)), .ref 0 0, dd, .ref 1 0, dd, dd, .ref 2 0, dd, .ref 3 0, dd, .ref 4 0, .d (.v (.int .i64 v_r340.2)), .ref 5 0, .d (.v (.int .i64 v_r365.2)), .d (.v (.int .i64 v_r378.1)), .d (.v (.int .i64 v_r378.2.1)), dd, dd, .d (.clo 33 []), .d (.v (.int .i64 1)), .d (.v (.int .i64 1)), .d (.v (.int .i64 1)), .ref 6 0, .d (.v (.int .i64 v_n569)), .d (.v (.int .i64 v_all570)), dd, dd, dd, dd, dd, dd, dd, dd, dd, dd, dd, dd, dd, dd, dd, dd, dd, dd, dd, dd, dd, dd, dd, dd, dd, dd, dd, dd, dd, dd, dd, dd, dd, dd, dd, dd, dd, dd, dd, dd, dd, dd, dd, dd, dd, dd, dd, dd, dd, dd, dd, dd, dd, dd, dd, dd, dd, dd, dd, dd, dd, dd, dd, dd, dd, dd, dd, dd, dd, dd, dd, dd, dd, dd, dd, dd, dd, dd, dd, dd, dd, dd, dd, dd, dd, dd, dd, dd, dd, dd, dd, dd, dd, dd, dd, dd, dd, dd, dd, dd, dd, dd, dd, dd, dd, dd, dd, dd, dd, dd, dd, dd, dd, dd, dd, dd, dd, dd, dd, dd, dd, dd, dd, dd, dd, dd, dd, dd, dd, dd, dd, dd, dd, dd, dd, dd, dd, dd, dd, dd, dd, dd, dd, dd, dd, dd, dd, dd, dd, dd, dd, dd, dd, dd, dd, dd, dd, dd, dd, dd, dd, dd, dd, dd, dd, dd, dd, dd, dd, dd, dd, dd, dd, dd, dd, dd, dd, dd, dd, dd, dd, dd, dd, dd, dd, dd, dd, dd, dd, dd, dd, dd, dd, dd, dd, dd, dd, dd, dd, dd, dd, dd, dd, dd, dd, dd, dd, dd, dd, dd, dd, dd, dd, dd, dd, dd, dd, dd, dd, dd, dd, dd, dd, dd, dd, dd, dd, dd, dd, dd, dd, dd, dd, dd, dd, dd, dd, dd, dd, dd, dd, dd, dd, dd, dd, dd, dd, dd, dd, dd, dd, dd, dd, dd, dd, dd, dd, dd, dd, dd, dd, dd, dd, dd, dd, dd, dd, dd, dd, dd, dd, dd, dd, dd, dd, dd, dd, dd, dd, dd, dd, dd, dd, dd, dd, dd, dd], [.box ((cA_t49 v_t1).map FV.d), .box [.d (.v (.bool v_x3.fHere)), .d (.v (.bool v_x3.fSlot)), .d (.v (.int .i64 v_x3.fAt)), .d (.v (.int .i64 v_x3.fRights)), .d (.v (.bool v_x3.fUsed)), .d (.v (.bool v_x3.fDirty)), .d (.v (.bool v_x3.fCopy))], .box [.d (.v (.bool v_r267.1.fHere)), .d (.v (.bool v_r267.1.fSlot)), .d (.v (.int .i64 v_r267.1.fAt)), .d (.v (.int .i64 v_r267.1.fRights)), .d (.v (.bool v_r267.1.fUsed)), .d (.v (.bool v_r267.1.fDirty)), .d (.v (.bool v_r267.1.fCopy))], .box ((cA_t49 v_r321.1).map FV.d), .box ((cA_t49 v_r340.1).map FV.d), .box ((cA_t49 v_r365.1).map FV.d), .box ((cA_t61 v_r563).map FV.d)]⟩
def G_ringlaw2_TableTells_L2_hd (v_p2 : Int) (v_k4 : Int) (v_r340 : ((Fin 8 → S_table_Node) × Int)) (v_r365 : ((Fin 8 → S_table_Node) × Int)) (v_r378 : (Int × Int × Int)) (v_t1 : (Fin 8 → S_table_Node)) (v_x3 : S_entry_Entry) (v_r267 : (S_entry_Entry × Int)) (v_r321 : ((Fin 8 → S_table_Node) × Int)) (v_r563 : ((Fin 64 → S_entry_Entry))) (v_n564 : Int) (v_all565 : Int) (v_x566 : Int) : PS := ⟨[dd, .d (.v (.int .i64 v_p2)), dd, .d (.v (.int .i64 v_k4)), .ref 0 0, dd, .ref 1 0, dd, dd, .ref 2 0, dd, .ref 3 0, dd, .ref 4 0, .d (.v (.int .i64 v_r340.2)), .ref 5 0, .d (.v (.int .i64 v_r365.2)), .d (.v (.int .i64 v_r378.1)), .d (.v (.int .i64 v_r378.2.1)), dd, dd, .d (.clo 33 []), .d (.v (.int .i64 1)), .d (.v (.int .i64 1)), .d (.v (.int .i64 1)), .ref 6 0, .d (.v (.int .i64 v_n564)), .d (.v (.int .i64 v_all565)), dd, dd, dd, dd, dd, dd, dd, dd, dd, dd, dd, dd, dd, dd, dd, dd, dd, dd, dd, dd, dd, dd, dd, dd, dd, dd, dd, dd, dd, dd, dd, dd, dd, dd, dd, dd, dd, dd, dd, dd, dd, dd, dd, dd, dd, dd, dd, dd, dd, dd, dd, dd, dd, dd, dd, dd, dd, dd, dd, dd, dd, dd, dd, dd, dd, dd, dd, dd, dd, dd, dd, dd, dd, dd, dd, dd, dd, dd, dd, dd, dd, dd, dd, dd, dd, dd, dd, dd, dd, dd, dd, dd, dd, dd, dd, dd, dd, dd, dd, dd, dd, dd, dd, dd, dd, dd, dd, dd, dd, dd, dd, dd, dd, dd, dd, dd, dd, dd, dd, dd, dd, dd, dd, dd, dd, .d (.agg (cA_t49 v_t1)), .d (.v (.int .i64 v_x566)), dd, dd, dd, dd, dd, dd, dd, dd, dd, dd, dd, dd, dd, dd, dd, dd, dd, dd, dd, dd, dd, dd, dd, dd, dd, dd, dd, dd, dd, dd, dd, dd, dd, dd, dd, dd, dd, dd, dd, dd, dd, dd, dd, dd, dd, dd, dd, dd, dd, dd, dd, dd, dd, dd, dd, dd, dd, dd, dd, dd, dd, dd, dd, dd, dd, dd, dd, dd, dd, dd, dd, dd, dd, dd, dd, dd, dd, dd, dd, dd, dd, dd, dd, dd, dd, dd, dd, dd, dd, dd, dd, dd, dd, dd, dd, dd, dd, dd, dd, dd, dd, dd, dd, dd, dd, dd, dd, dd, dd, dd, dd, dd, dd, dd, dd, dd, dd, dd, dd, dd, dd, dd, dd, dd, dd, dd, dd, dd, dd, dd, dd, dd, dd, dd, dd, dd, dd, dd, dd, dd, dd, dd, dd, dd, dd, dd, dd, dd, dd, dd, dd, dd, dd, dd, dd, dd, dd, dd, dd, dd], [.box ((cA_t49 v_t1).map FV.d), .box [.d (.v (.bool v_x3.fHere)), .d (.v (.bool v_x3.fSlot)), .d (.v (.int .i64 v_x3.fAt)), .d (.v (.int .i64 v_x3.fRights)), .d (.v (.bool v_x3.fUsed)), .d (.v (.bool v_x3.fDirty)), .d (.v (.bool v_x3.fCopy))], .box [.d (.v (.bool v_r267.1.fHere)), .d (.v (.bool v_r267.1.fSlot)), .d (.v (.int .i64 v_r267.1.fAt)), .d (.v (.int .i64 v_r267.1.fRights)), .d (.v (.bool v_r267.1.fUsed)), .d (.v (.bool v_r267.1.fDirty)), .d (.v (.bool v_r267.1.fCopy))], .box ((cA_t49 v_r321.1).map FV.d), .box ((cA_t49 v_r340.1).map FV.d), .box ((cA_t49 v_r365.1).map FV.d), .box ((cA_t61 v_r563).map FV.d)]⟩
def G_ringlaw2_TableTells_L2 (n : Nat) (v_p2 : Int) (v_k4 : Int) (v_r340 : ((Fin 8 → S_table_Node) × Int)) (v_r365 : ((Fin 8 → S_table_Node) × Int)) (v_r378 : (Int × Int × Int)) (v_t1 : (Fin 8 → S_table_Node)) (v_x3 : S_entry_Entry) (v_r267 : (S_entry_Entry × Int)) (v_r321 : ((Fin 8 → S_table_Node) × Int)) (v_r563 : ((Fin 64 → S_entry_Entry))) : Nat → Int → Int → Int → Option G_ringlaw2_TableTells_L2_R
  | 0, _, _, _ => none
  | k + 1, v_n564, v_all565, v_x566 =>
    if v_x566 < 8 then
     (getA v_t1 v_x566).bind fun (v_y568 : S_table_Node) =>
     if (v_y568.fEntries.length : Int) > 0 then
      G_ringlaw2_TableTells_L2 n v_p2 v_k4 v_r340 v_r365 v_r378 v_t1 v_x3 v_r267 v_r321 v_r563 k (wi .i64 (v_n564 + 1)) (wi .i64 (v_all565 + (v_y568.fEntries.length : Int))) (wi .i64 (v_x566 + 1))
     else
      G_ringlaw2_TableTells_L2 n v_p2 v_k4 v_r340 v_r365 v_r378 v_t1 v_x3 v_r267 v_r321 v_r563 k v_n564 (wi .i64 (v_all565 + (v_y568.fEntries.length : Int))) (wi .i64 (v_x566 + 1))
    else
     some (.x0 v_n564 v_all565)
theorem G_ringlaw2_TableTells_L2_ok {Fi : Ex → PS → Prop} (hF : KC 315 Fi) (ks : List Fr) (n : Nat) (v_p2 : Int) (v_k4 : Int) (v_r340 : ((Fin 8 → S_table_Node) × Int)) (v_r365 : ((Fin 8 → S_table_Node) × Int)) (v_r378 : (Int × Int × Int)) (v_t1 : (Fin 8 → S_table_Node)) (v_x3 : S_entry_Entry) (v_r267 : (S_entry_Entry × Int)) (v_r321 : ((Fin 8 → S_table_Node) × Int)) (v_r563 : ((Fin 64 → S_entry_Entry)))  : ∀ (k : Nat) (v_n564 : Int) (v_all565 : Int) (v_x566 : Int) (o : G_ringlaw2_TableTells_L2_R), G_ringlaw2_TableTells_L2 n v_p2 v_k4 v_r340 v_r365 v_r378 v_t1 v_x3 v_r267 v_r321 v_r563 k v_n564 v_all565 v_x566 = some o → RunE Try.prog 315 Fi ks (G_ringlaw2_TableTells_L2_ex o) (G_ringlaw2_TableTells_L2_st v_p2 v_k4 v_r340 v_r365 v_r378 v_t1 v_x3 v_r267 v_r321 v_r563 o) → RunE Try.prog 315 Fi (.l k (cP (cB (cR (cL (cR (cR (cR (cR (cR (cR (cR (cR (cR (cR (cR (cR (cR (cR (cR (cR (cR (bodyOf Try.f5)))))))))))))))))))))) :: ks) .normal (G_ringlaw2_TableTells_L2_hd v_p2 v_k4 v_r340 v_r365 v_r378 v_t1 v_x3 v_r267 v_r321 v_r563 v_n564 v_all565 v_x566)
  | 0, v_n564, v_all565, v_x566, o, h, q => by rw [G_ringlaw2_TableTells_L2] at h; cases h
  | k + 1, v_n564, v_all565, v_x566, o, h, q => by
    rw [G_ringlaw2_TableTells_L2] at h
    by_cases h776 : v_x566 < 8
    · rw [if_pos h776] at h
      obtain ⟨v_y568, h780, h⟩ := bind_some h
      by_cases h782 : (v_y568.fEntries.length : Int) > 0
      · rw [if_pos h782] at h
        exact pkk_sound TTok mix hF 18 (hs := [.t true, .l (.d (.agg [.v (.bool v_y568.fHuge), .sl (v_y568.fEntries.map eS_entry_Entry)])), .c, .c, .u (.d (.v (.int .i64 (v_y568.fEntries.length : Int)))), .c, .u (.d (.v (.int .i64 (v_y568.fEntries.length : Int)))), .t true]) (ts := []) (s := [0, 1, 2, 3, 4, 5, 6]) (l := [1, 3, 4, 6, 9, 11, 13, 14, 15, 16, 17, 18, 21, 22, 23, 24, 25, 26, 27, 153, 154]) (by kernel_rfl) (by kernel_rfl) (.cons (dt h776) (.cons (arr_idx (sz := 2) (g := (fun x => [.d (.v (.bool x.fHuge)), .d (.sl (x.fEntries.map eS_entry_Entry))])) (fun _ => rfl) h780) (.cons (show 0 + 2 ≤ 2 by decide) (.cons (len_ob (f := eS_entry_Entry) (l := v_y568.fEntries)) (.cons (len_ob (f := eS_entry_Entry) (l := v_y568.fEntries)) (.cons (dt h782) .nil)))))) (G_ringlaw2_TableTells_L2_ok hF ks n v_p2 v_k4 v_r340 v_r365 v_r378 v_t1 v_x3 v_r267 v_r321 v_r563 k (wi .i64 (v_n564 + 1)) (wi .i64 (v_all565 + (v_y568.fEntries.length : Int))) (wi .i64 (v_x566 + 1)) _ h q)
      · rw [if_neg h782] at h
        exact pkk_sound TTok mix hF 18 (hs := [.t true, .l (.d (.agg [.v (.bool v_y568.fHuge), .sl (v_y568.fEntries.map eS_entry_Entry)])), .c, .c, .u (.d (.v (.int .i64 (v_y568.fEntries.length : Int)))), .c, .u (.d (.v (.int .i64 (v_y568.fEntries.length : Int)))), .t false]) (ts := []) (s := [0, 1, 2, 3, 4, 5, 6]) (l := [1, 3, 4, 6, 9, 11, 13, 14, 15, 16, 17, 18, 21, 22, 23, 24, 25, 26, 27, 153, 154]) (by kernel_rfl) (by kernel_rfl) (.cons (dt h776) (.cons (arr_idx (sz := 2) (g := (fun x => [.d (.v (.bool x.fHuge)), .d (.sl (x.fEntries.map eS_entry_Entry))])) (fun _ => rfl) h780) (.cons (show 0 + 2 ≤ 2 by decide) (.cons (len_ob (f := eS_entry_Entry) (l := v_y568.fEntries)) (.cons (len_ob (f := eS_entry_Entry) (l := v_y568.fEntries)) (.cons (df h782) .nil)))))) (G_ringlaw2_TableTells_L2_ok hF ks n v_p2 v_k4 v_r340 v_r365 v_r378 v_t1 v_x3 v_r267 v_r321 v_r563 k v_n564 (wi .i64 (v_all565 + (v_y568.fEntries.length : Int))) (wi .i64 (v_x566 + 1)) _ h q)
    · rw [if_neg h776] at h
      cases h
      exact pkk_sound TTok mix hF 8 (hs := [.t false]) (ts := []) (s := [0, 1, 2, 3, 4, 5, 6]) (l := [1, 3, 4, 6, 9, 11, 13, 14, 15, 16, 17, 18, 21, 22, 23, 24, 25, 26, 27]) (by kernel_rfl) (by kernel_rfl) (.cons (df h776) .nil) q
inductive G_ringlaw2_TableTells_C3_R where
  | x0 (v_x574 : Bool)
def G_ringlaw2_TableTells_C3_ex : G_ringlaw2_TableTells_C3_R → Ex
  | .x0 _ => .normal
def G_ringlaw2_TableTells_C3_st (v_p2 : Int) (v_k4 : Int) (v_r340 : ((Fin 8 → S_table_Node) × Int)) (v_r365 : ((Fin 8 → S_table_Node) × Int)) (v_r378 : (Int × Int × Int)) (v_z572 : Int) (v_z573 : Int) (v_t1 : (Fin 8 → S_table_Node)) (v_x3 : S_entry_Entry) (v_r267 : (S_entry_Entry × Int)) (v_r321 : ((Fin 8 → S_table_Node) × Int)) (v_r563 : ((Fin 64 → S_entry_Entry))) : G_ringlaw2_TableTells_C3_R → PS
  | .x0 v_x574 => ⟨[dd, .d (.v (.int .i64 v_p2)), dd, .d (.v (.int .i64 v_k4)), .ref 0 0, dd, .ref 1 0, dd, dd, dd, dd, .ref 2 0, dd, .ref 3 0, .d (.v (.int .i64 v_r340.2)), .ref 4 0, .d (.v (.int .i64 v_r365.2)), dd, dd, dd, dd, .d (.clo 33 []), dd, .d (.v (.int .i64 1)), .d (.v (.int .i64 1)), .ref 5 0, dd, dd, dd, dd, dd, dd, dd, dd, dd, dd, dd, dd, dd, dd, dd, dd, dd, dd, dd, dd, dd, dd, dd, dd, dd, dd, dd, dd, dd, dd, dd, dd, dd, dd, dd, dd, dd, dd, dd, dd, dd, dd, dd, dd, dd, dd, dd, dd, dd, dd, dd, dd, dd, dd, dd, dd, dd, dd, dd, dd, dd, dd, dd, dd, dd, dd, dd, dd, dd, dd, dd, dd, dd, dd, dd, dd, dd, dd, dd, dd, dd, dd, dd, dd, dd, dd, dd, dd, dd, dd, dd, dd, dd, dd, dd, dd, dd, dd, dd, dd, dd, dd, dd, dd, dd, dd, dd, dd, dd, dd, dd, dd, dd, dd, dd, dd, dd, dd, dd, dd, dd, dd, dd, dd, dd, dd, dd, dd, dd, dd, dd, dd, dd, dd, dd, dd, dd, dd, dd, dd, dd, dd, dd, dd, dd, dd, dd, dd, dd, dd, dd, dd, dd, dd, dd, dd, dd, dd, dd, dd, dd, .d (.v (.bool v_x574)), dd, dd, dd, dd, dd, dd, dd, dd, dd, dd, dd, dd, dd, dd, dd, dd, dd, dd, dd, dd, dd, dd, dd, dd, dd, dd, dd, dd, dd, dd, dd, dd, dd, dd, dd, dd, dd, dd, dd, dd, dd, dd, dd, dd, dd, dd, dd, dd, dd, dd, dd, dd, dd, dd, dd, dd, dd, dd, dd, dd, dd, dd, dd, dd, dd, dd, dd, dd, dd, dd, dd, dd, dd, dd, dd, dd, dd, dd, dd, dd, dd, dd, dd, dd, dd, dd, dd, dd, dd, dd, dd, dd, dd, dd, dd, dd, dd, dd, dd, dd, dd, dd, dd, dd, dd, dd, dd, dd, dd, dd, dd, dd, dd, dd, dd, dd, dd, dd, dd, dd, dd, dd, dd, dd, dd, dd, dd], [.box ((cA_t49 v_t1).map FV.d), .box [.d (.v (.bool v_x3.fHere)), .d (.v (.bool v_x3.fSlot)), .d (.v (.int .i64 v_x3.fAt)), .d (.v (.int .i64 v_x3.fRights)), .d (.v (.bool v_x3.fUsed)), .d (.v (.bool v_x3.fDirty)), .d (.v (.bool v_x3.fCopy))], .box ((cA_t49 v_r321.1).map FV.d), .box ((cA_t49 v_r340.1).map FV.d), .box ((cA_t49 v_r365.1).map FV.d), .box ((cA_t61 v_r563).map FV.d)]⟩
def G_ringlaw2_TableTells_C3_hd (v_p2 : Int) (v_k4 : Int) (v_r340 : ((Fin 8 → S_table_Node) × Int)) (v_r365 : ((Fin 8 → S_table_Node) × Int)) (v_r378 : (Int × Int × Int)) (v_z572 : Int) (v_z573 : Int) (v_t1 : (Fin 8 → S_table_Node)) (v_x3 : S_entry_Entry) (v_r267 : (S_entry_Entry × Int)) (v_r321 : ((Fin 8 → S_table_Node) × Int)) (v_r563 : ((Fin 64 → S_entry_Entry)))  : PS := ⟨[dd, .d (.v (.int .i64 v_p2)), dd, .d (.v (.int .i64 v_k4)), .ref 0 0, dd, .ref 1 0, dd, dd, .ref 2 0, dd, .ref 3 0, dd, .ref 4 0, .d (.v (.int .i64 v_r340.2)), .ref 5 0, .d (.v (.int .i64 v_r365.2)), .d (.v (.int .i64 v_r378.1)), .d (.v (.int .i64 v_r378.2.1)), dd, dd, .d (.clo 33 []), .d (.v (.int .i64 1)), .d (.v (.int .i64 1)), .d (.v (.int .i64 1)), .ref 6 0, .d (.v (.int .i64 v_z572)), .d (.v (.int .i64 v_z573)), dd, dd, dd, dd, dd, dd, dd, dd, dd, dd, dd, dd, dd, dd, dd, dd, dd, dd, dd, dd, dd, dd, dd, dd, dd, dd, dd, dd, dd, dd, dd, dd, dd, dd, dd, dd, dd, dd, dd, dd, dd, dd, dd, dd, dd, dd, dd, dd, dd, dd, dd, dd, dd, dd, dd, dd, dd, dd, dd, dd, dd, dd, dd, dd, dd, dd, dd, dd, dd, dd, dd, dd, dd, dd, dd, dd, dd, dd, dd, dd, dd, dd, dd, dd, dd, dd, dd, dd, dd, dd, dd, dd, dd, dd, dd, dd, dd, dd, dd, dd, dd, dd, dd, dd, dd, dd, dd, dd, dd, dd, dd, dd, dd, dd, dd, dd, dd, dd, dd, dd, dd, dd, dd, dd, dd, dd, dd, dd, dd, dd, dd, dd, dd, dd, dd, dd, dd, dd, dd, dd, dd, dd, dd, dd, dd, dd, dd, dd, dd, dd, dd, dd, dd, dd, dd, dd, dd, dd, dd, dd, dd, dd, dd, dd, dd, dd, dd, dd, dd, dd, dd, dd, dd, dd, dd, dd, dd, dd, dd, dd, dd, dd, dd, dd, dd, dd, dd, dd, dd, dd, dd, dd, dd, dd, dd, dd, dd, dd, dd, dd, dd, dd, dd, dd, dd, dd, dd, dd, dd, dd, dd, dd, dd, dd, dd, dd, dd, dd, dd, dd, dd, dd, dd, dd, dd, dd, dd, dd, dd, dd, dd, dd, dd, dd, dd, dd, dd, dd, dd, dd, dd, dd, dd, dd, dd, dd, dd, dd, dd, dd, dd, dd, dd, dd, dd, dd, dd, dd, dd, dd, dd, dd, dd, dd, dd, dd, dd, dd, dd, dd, dd, dd, dd, dd, dd, dd, dd, dd, dd, dd, dd, dd, dd, dd, dd, dd, dd], [.box ((cA_t49 v_t1).map FV.d), .box [.d (.v (.bool v_x3.fHere)), .d (.v (.bool v_x3.fSlot)), .d (.v (.int .i64 v_x3.fAt)), .d (.v (.int .i64 v_x3.fRights)), .d (.v (.bool v_x3.fUsed)), .d (.v (.bool v_x3.fDirty)), .d (.v (.bool v_x3.fCopy))], .box [.d (.v (.bool v_r267.1.fHere)), .d (.v (.bool v_r267.1.fSlot)), .d (.v (.int .i64 v_r267.1.fAt)), .d (.v (.int .i64 v_r267.1.fRights)), .d (.v (.bool v_r267.1.fUsed)), .d (.v (.bool v_r267.1.fDirty)), .d (.v (.bool v_r267.1.fCopy))], .box ((cA_t49 v_r321.1).map FV.d), .box ((cA_t49 v_r340.1).map FV.d), .box ((cA_t49 v_r365.1).map FV.d), .box ((cA_t61 v_r563).map FV.d)]⟩
def G_ringlaw2_TableTells_C3 (n : Nat) (v_p2 : Int) (v_k4 : Int) (v_r340 : ((Fin 8 → S_table_Node) × Int)) (v_r365 : ((Fin 8 → S_table_Node) × Int)) (v_r378 : (Int × Int × Int)) (v_z572 : Int) (v_z573 : Int) (v_t1 : (Fin 8 → S_table_Node)) (v_x3 : S_entry_Entry) (v_r267 : (S_entry_Entry × Int)) (v_r321 : ((Fin 8 → S_table_Node) × Int)) (v_r563 : ((Fin 64 → S_entry_Entry))) : Option G_ringlaw2_TableTells_C3_R :=
  if v_r378.1 = v_z572 then
   some (.x0 (v_r378.2.1 != v_z573))
  else
   some (.x0 true)
theorem G_ringlaw2_TableTells_C3_ok {Fi : Ex → PS → Prop} (hF : KC 315 Fi) (ks : List Fr) (n : Nat) (v_p2 : Int) (v_k4 : Int) (v_r340 : ((Fin 8 → S_table_Node) × Int)) (v_r365 : ((Fin 8 → S_table_Node) × Int)) (v_r378 : (Int × Int × Int)) (v_z572 : Int) (v_z573 : Int) (v_t1 : (Fin 8 → S_table_Node)) (v_x3 : S_entry_Entry) (v_r267 : (S_entry_Entry × Int)) (v_r321 : ((Fin 8 → S_table_Node) × Int)) (v_r563 : ((Fin 64 → S_entry_Entry)))  (o : G_ringlaw2_TableTells_C3_R) (h : G_ringlaw2_TableTells_C3 n v_p2 v_k4 v_r340 v_r365 v_r378 v_z572 v_z573 v_t1 v_x3 v_r267 v_r321 v_r563 = some o) (q : RunE Try.prog 315 Fi ks (G_ringlaw2_TableTells_C3_ex o) (G_ringlaw2_TableTells_C3_st v_p2 v_k4 v_r340 v_r365 v_r378 v_z572 v_z573 v_t1 v_x3 v_r267 v_r321 v_r563 o)) : RunE Try.prog 315 Fi (.s (cL (cL (cR (cR (cR (cR (cR (cR (cR (cR (cR (cR (cR (cR (cR (cR (cR (cR (cR (cR (bodyOf Try.f5))))))))))))))))))))) :: ks) .normal (G_ringlaw2_TableTells_C3_hd v_p2 v_k4 v_r340 v_r365 v_r378 v_z572 v_z573 v_t1 v_x3 v_r267 v_r321 v_r563) := by
  unfold G_ringlaw2_TableTells_C3 at h
  by_cases h785 : v_r378.1 = v_z572
  · rw [if_pos h785] at h
    cases h
    exact pkk_sound TTok mix hF 1 (hs := [.c, .c, .c, .c, .c, .c, .c, .c, .t false, .c, .c]) (ts := []) (s := [0, 1, 3, 4, 5, 6]) (l := [1, 3, 4, 6, 11, 13, 14, 15, 16, 21, 23, 24, 25, 187]) (by kernel_rfl) (by kernel_rfl) (.cons (nf h785) .nil) q
  · rw [if_neg h785] at h
    cases h
    exact pkk_sound TTok mix hF 1 (hs := [.c, .c, .c, .c, .c, .c, .c, .c, .t true, .c, .c]) (ts := []) (s := [0, 1, 3, 4, 5, 6]) (l := [1, 3, 4, 6, 11, 13, 14, 15, 16, 21, 23, 24, 25, 187]) (by kernel_rfl) (by kernel_rfl) (.cons (nt h785) .nil) q
inductive G_ringlaw2_TableTells_C4_R where
  | x0 (v_x592 : Bool)
def G_ringlaw2_TableTells_C4_ex : G_ringlaw2_TableTells_C4_R → Ex
  | .x0 _ => .normal
def G_ringlaw2_TableTells_C4_st (v_r340 : ((Fin 8 → S_table_Node) × Int)) (v_r365 : ((Fin 8 → S_table_Node) × Int)) : G_ringlaw2_TableTells_C4_R → PS
  | .x0 v_x592 => ⟨[dd, dd, dd, dd, dd, dd, dd, dd, .d (.v (.bool v_x592)), dd, dd, dd, dd, dd, dd, dd, dd, dd, dd, dd, dd, dd, dd, dd, dd, dd, dd, dd, dd, dd, dd, dd, dd, dd, dd, dd, dd, dd, dd, dd, dd, dd, dd, dd, dd, dd, dd, dd, dd, dd, dd, dd, dd, dd, dd, dd, dd, dd, dd, dd, dd, dd, dd, dd, dd, dd, dd, dd, dd, dd, dd, dd, dd, dd, dd, dd, dd, dd, dd, dd, dd, dd, dd, dd, dd, dd, dd, dd, dd, dd, dd, dd, dd, dd, dd, dd, dd, dd, dd, dd, dd, dd, dd, dd, dd, dd, dd, dd, dd, dd, dd, dd, dd, dd, dd, dd, dd, dd, dd, dd, dd, dd, dd, dd, dd, dd, dd, dd, dd, dd, dd, dd, dd, dd, dd, dd, dd, dd, dd, dd, dd, dd, dd, dd, dd, dd, dd, dd, dd, dd, dd, dd, dd, dd, dd, dd, dd, dd, dd, dd, dd, dd, dd, dd, dd, dd, dd, dd, dd, dd, dd, dd, dd, dd, dd, dd, dd, dd, dd, dd, dd, dd, dd, dd, dd, dd, dd, dd, dd, dd, dd, dd, dd, dd, dd, dd, dd, dd, dd, dd, dd, dd, dd, dd, dd, dd, dd, dd, dd, dd, dd, dd, dd, dd, dd, dd, dd, dd, dd, dd, dd, dd, dd, dd, dd, dd, dd, dd, dd, dd, dd, dd, dd, dd, dd, dd, dd, dd, dd, dd, dd, dd, dd, dd, dd, dd, dd, dd, dd, dd, dd, dd, dd, dd, dd, dd, dd, dd, dd, dd, dd, dd, dd, dd, dd, dd, dd, dd, dd, dd, dd, dd, dd, dd, dd, dd, dd, dd, dd, dd, dd, dd, dd, dd, dd, dd, dd, dd, dd, dd, dd, dd, dd, dd, dd, dd, dd, dd, dd, dd, dd, dd, dd, dd, dd, dd, dd, dd, dd, dd, dd, dd, dd, dd, dd], []⟩
def G_ringlaw2_TableTells_C4_hd (v_r340 : ((Fin 8 → S_table_Node) × Int)) (v_r365 : ((Fin 8 → S_table_Node) × Int))  : PS := ⟨[dd, dd, dd, dd, dd, dd, dd, dd, dd, dd, dd, dd, dd, .ref 0 0, .d (.v (.int .i64 v_r340.2)), .ref 1 0, .d (.v (.int .i64 v_r365.2)), dd, dd, dd, dd, .d (.clo 33 []), dd, dd, .d (.v (.int .i64 1)), dd, dd, dd, dd, dd, dd, dd, dd, dd, dd, dd, dd, dd, dd, dd, dd, dd, dd, dd, dd, dd, dd, dd, dd, dd, dd, dd, dd, dd, dd, dd, dd, dd, dd, dd, dd, dd, dd, dd, dd, dd, dd, dd, dd, dd, dd, dd, dd, dd, dd, dd, dd, dd, dd, dd, dd, dd, dd, dd, dd, dd, dd, dd, dd, dd, dd, dd, dd, dd, dd, dd, dd, dd, dd, dd, dd, dd, dd, dd, dd, dd, dd, dd, dd, dd, dd, dd, dd, dd, dd, dd, dd, dd, dd, dd, dd, dd, dd, dd, dd, dd, dd, dd, dd, dd, dd, dd, dd, dd, dd, dd, dd, dd, dd, dd, dd, dd, dd, dd, dd, dd, dd, dd, dd, dd, dd, dd, dd, dd, dd, dd, dd, dd, dd, dd, dd, dd, dd, dd, dd, dd, dd, dd, dd, dd, dd, dd, dd, dd, dd, dd, dd, dd, dd, dd, dd, dd, dd, dd, dd, dd, dd, dd, dd, dd, dd, dd, dd, dd, dd, dd, dd, dd, dd, dd, dd, dd, dd, dd, dd, dd, dd, dd, dd, dd, dd, dd, dd, dd, dd, dd, dd, dd, dd, dd, dd, dd, dd, dd, dd, dd, dd, dd, dd, dd, dd, dd, dd, dd, dd, dd, dd, dd, dd, dd, dd, dd, dd, dd, dd, dd, dd, dd, dd, dd, dd, dd, dd, dd, dd, dd, dd, dd, dd, dd, dd, dd, dd, dd, dd, dd, dd, dd, dd, dd, dd, dd, dd, dd, dd, dd, dd, dd, dd, dd, dd, dd, dd, dd, dd, dd, dd, dd, dd, dd, dd, dd, dd, dd, dd, dd, dd, dd, dd, dd, dd, dd, dd, dd, dd, dd, dd, dd, dd, dd, dd, dd, dd, dd, dd], [.box ((cA_t49 v_r340.1).map FV.d), .box ((cA_t49 v_r365.1).map FV.d)]⟩
def G_ringlaw2_TableTells_C4 (n : Nat) (v_r340 : ((Fin 8 → S_table_Node) × Int)) (v_r365 : ((Fin 8 → S_table_Node) × Int)) : Option G_ringlaw2_TableTells_C4_R :=
  (G_ringlaw2_TableTells_1 n v_r340.1).bind fun (v_r590 : (Bool)) =>
  if v_r590 = true then
   if v_r340.2 = 1 then
    (G_ringlaw2_TableTells_1 n v_r365.1).bind fun (v_r591 : (Bool)) =>
    if v_r591 = true then
     some (.x0 (v_r365.2 == 1))
    else
     some (.x0 false)
   else
    some (.x0 false)
  else
   some (.x0 false)
theorem G_ringlaw2_TableTells_C4_ok {Fi : Ex → PS → Prop} (hF : KC 315 Fi) (ks : List Fr) (n : Nat) (v_r340 : ((Fin 8 → S_table_Node) × Int)) (v_r365 : ((Fin 8 → S_table_Node) × Int))  (o : G_ringlaw2_TableTells_C4_R) (h : G_ringlaw2_TableTells_C4 n v_r340 v_r365 = some o) (q : RunE Try.prog 315 Fi ks (G_ringlaw2_TableTells_C4_ex o) (G_ringlaw2_TableTells_C4_st v_r340 v_r365 o)) : RunE Try.prog 315 Fi (.s (cL (cT (cR (cL (cR (cR (cR (cR (cR (cR (cR (cR (cR (cR (cR (cR (cR (cR (cR (cR (cR (cR (cR (cR (bodyOf Try.f5))))))))))))))))))))))))) :: ks) .normal (G_ringlaw2_TableTells_C4_hd v_r340 v_r365) := by
  unfold G_ringlaw2_TableTells_C4 at h
  obtain ⟨v_r590, h804, h⟩ := bind_some h
  by_cases h805 : v_r590 = true
  · rw [if_pos h805] at h
    by_cases h806 : v_r340.2 = 1
    · rw [if_pos h806] at h
      obtain ⟨v_r591, h807, h⟩ := bind_some h
      by_cases h808 : v_r591 = true
      · rw [if_pos h808] at h
        cases h
        exact pkk_sound TTok mix hF 1 (hs := [.c, .r (eB v_r590), .t true, .c, .c, .t true, .c, .c, .c, .r (eB v_r591), .t true, .c, .c]) (ts := []) (s := []) (l := [8]) (by kernel_rfl) (by kernel_rfl) (.cons (G_ringlaw2_TableTells_1_ok n v_r340.1 _ h804) (.cons h805 (.cons (bt h806) (.cons (G_ringlaw2_TableTells_1_ok n v_r365.1 _ h807) (.cons h808 .nil))))) q
      · rw [if_neg h808] at h
        cases h
        exact pkk_sound TTok mix hF 1 (hs := [.c, .r (eB v_r590), .t true, .c, .c, .t true, .c, .c, .c, .r (eB v_r591), .t false, .c, .c]) (ts := []) (s := []) (l := [8]) (by kernel_rfl) (by kernel_rfl) (.cons (G_ringlaw2_TableTells_1_ok n v_r340.1 _ h804) (.cons h805 (.cons (bt h806) (.cons (G_ringlaw2_TableTells_1_ok n v_r365.1 _ h807) (.cons (vf h808) .nil))))) q
    · rw [if_neg h806] at h
      cases h
      exact pkk_sound TTok mix hF 1 (hs := [.c, .r (eB v_r590), .t true, .c, .c, .t false, .c, .c, .c, .c, .c]) (ts := []) (s := []) (l := [8]) (by kernel_rfl) (by kernel_rfl) (.cons (G_ringlaw2_TableTells_1_ok n v_r340.1 _ h804) (.cons h805 (.cons (bf h806) .nil))) q
  · rw [if_neg h805] at h
    cases h
    exact pkk_sound TTok mix hF 1 (hs := [.c, .r (eB v_r590), .t false, .c, .c, .c, .c, .c, .c, .c, .c]) (ts := []) (s := []) (l := [8]) (by kernel_rfl) (by kernel_rfl) (.cons (G_ringlaw2_TableTells_1_ok n v_r340.1 _ h804) (.cons (vf h805) .nil)) q
inductive G_ringlaw2_TableTells_C5_R where
  | x0 (v_x599 : Bool)
def G_ringlaw2_TableTells_C5_ex : G_ringlaw2_TableTells_C5_R → Ex
  | .x0 _ => .normal
def G_ringlaw2_TableTells_C5_st (v_p2 : Int) (v_k4 : Int) (v_r267 : (S_entry_Entry × Int)) (v_r321 : ((Fin 8 → S_table_Node) × Int)) (v_r340 : ((Fin 8 → S_table_Node) × Int)) (v_r365 : ((Fin 8 → S_table_Node) × Int)) (v_r378 : (Int × Int × Int)) (v_r461 : (Int)) (v_t1 : (Fin 8 → S_table_Node)) (v_x3 : S_entry_Entry) : G_ringlaw2_TableTells_C5_R → PS
  | .x0 v_x599 => ⟨[dd, .d (.v (.int .i64 v_p2)), dd, .d (.v (.int .i64 v_k4)), .ref 0 0, dd, .ref 1 0, dd, dd, .ref 2 0, dd, .ref 3 0, dd, .ref 4 0, .d (.v (.int .i64 v_r340.2)), .ref 5 0, .d (.v (.int .i64 v_r365.2)), .d (.v (.int .i64 v_r378.1)), .d (.v (.int .i64 v_r378.2.1)), dd, .d (.v (.int .i64 v_r461)), .d (.clo 33 []), .d (.v (.int .i64 1)), .d (.v (.int .i64 1)), .d (.v (.int .i64 v_r461)), dd, dd, dd, dd, dd, dd, dd, dd, dd, dd, dd, dd, dd, dd, dd, dd, dd, dd, dd, dd, dd, dd, dd, dd, dd, dd, dd, dd, dd, dd, dd, dd, dd, dd, dd, dd, dd, dd, dd, dd, dd, dd, dd, dd, dd, dd, dd, dd, dd, dd, dd, dd, dd, dd, dd, dd, dd, dd, dd, dd, dd, dd, dd, dd, dd, dd, dd, dd, dd, dd, dd, dd, dd, dd, dd, dd, dd, dd, dd, dd, dd, dd, dd, dd, dd, dd, dd, dd, dd, dd, dd, dd, dd, dd, dd, dd, dd, dd, dd, dd, dd, dd, dd, dd, dd, .d (.v (.bool v_x599)), dd, dd, dd, dd, dd, dd, dd, dd, dd, dd, dd, dd, dd, dd, dd, dd, dd, dd, dd, dd, dd, dd, dd, dd, dd, dd, dd, dd, dd, dd, dd, dd, dd, dd, dd, dd, dd, dd, dd, dd, dd, dd, dd, dd, dd, dd, dd, dd, dd, dd, dd, dd, dd, dd, dd, dd, dd, dd, dd, dd, dd, dd, dd, dd, dd, dd, dd, dd, dd, dd, dd, dd, dd, dd, dd, dd, dd, dd, dd, dd, dd, dd, dd, dd, dd, dd, dd, dd, dd, dd, dd, dd, dd, dd, dd, dd, dd, dd, dd, dd, dd, dd, dd, dd, dd, dd, dd, dd, dd, dd, dd, dd, dd, dd, dd, dd, dd, dd, dd, dd, dd, dd, dd, dd, dd, dd, dd, dd, dd, dd, dd, dd, dd, dd, dd, dd, dd, dd, dd, dd, dd, dd, dd, dd, dd, dd, dd, dd, dd, dd, dd, dd, dd, dd, dd, dd, dd, dd, dd, dd, dd, dd, dd, dd, dd, dd, dd, dd, dd, dd, dd, dd, dd, dd, dd, dd, dd, dd, dd, dd, dd, dd, dd, dd], [.box ((cA_t49 v_t1).map FV.d), .box [.d (.v (.bool v_x3.fHere)), .d (.v (.bool v_x3.fSlot)), .d (.v (.int .i64 v_x3.fAt)), .d (.v (.int .i64 v_x3.fRights)), .d (.v (.bool v_x3.fUsed)), .d (.v (.bool v_x3.fDirty)), .d (.v (.bool v_x3.fCopy))], .box [.d (.v (.bool v_r267.1.fHere)), .d (.v (.bool v_r267.1.fSlot)), .d (.v (.int .i64 v_r267.1.fAt)), .d (.v (.int .i64 v_r267.1.fRights)), .d (.v (.bool v_r267.1.fUsed)), .d (.v (.bool v_r267.1.fDirty)), .d (.v (.bool v_r267.1.fCopy))], .box ((cA_t49 v_r321.1).map FV.d), .box ((cA_t49 v_r340.1).map FV.d), .box ((cA_t49 v_r365.1).map FV.d)]⟩
def G_ringlaw2_TableTells_C5_hd (v_p2 : Int) (v_k4 : Int) (v_r267 : (S_entry_Entry × Int)) (v_r321 : ((Fin 8 → S_table_Node) × Int)) (v_r340 : ((Fin 8 → S_table_Node) × Int)) (v_r365 : ((Fin 8 → S_table_Node) × Int)) (v_r378 : (Int × Int × Int)) (v_r461 : (Int)) (v_t1 : (Fin 8 → S_table_Node)) (v_x3 : S_entry_Entry)  : PS := ⟨[dd, .d (.v (.int .i64 v_p2)), dd, .d (.v (.int .i64 v_k4)), .ref 0 0, dd, .ref 1 0, dd, dd, .ref 2 0, .d (.v (.int .i64 v_r267.2)), .ref 3 0, .d (.v (.int .i64 v_r321.2)), .ref 4 0, .d (.v (.int .i64 v_r340.2)), .ref 5 0, .d (.v (.int .i64 v_r365.2)), .d (.v (.int .i64 v_r378.1)), .d (.v (.int .i64 v_r378.2.1)), .d (.v (.int .i64 v_r378.2.2)), .d (.v (.int .i64 v_r461)), .d (.clo 33 []), .d (.v (.int .i64 1)), .d (.v (.int .i64 1)), .d (.v (.int .i64 v_r461)), dd, dd, dd, dd, dd, dd, dd, dd, dd, dd, dd, dd, dd, dd, dd, dd, dd, dd, dd, dd, dd, dd, dd, dd, dd, dd, dd, dd, dd, dd, dd, dd, dd, dd, dd, dd, dd, dd, dd, dd, dd, dd, dd, dd, dd, dd, dd, dd, dd, dd, dd, dd, dd, dd, dd, dd, dd, dd, dd, dd, dd, dd, dd, dd, dd, dd, dd, dd, dd, dd, dd, dd, dd, dd, dd, dd, dd, dd, dd, dd, dd, dd, dd, dd, dd, dd, dd, dd, dd, dd, dd, dd, dd, dd, dd, dd, dd, dd, dd, dd, dd, dd, dd, dd, dd, dd, dd, dd, dd, dd, dd, dd, dd, dd, dd, dd, dd, dd, dd, dd, dd, dd, dd, dd, dd, dd, dd, dd, dd, dd, dd, dd, dd, dd, dd, dd, dd, dd, dd, dd, dd, dd, dd, dd, dd, dd, dd, dd, dd, dd, dd, dd, dd, dd, dd, dd, dd, dd, dd, dd, dd, dd, dd, dd, dd, dd, dd, dd, dd, dd, dd, dd, dd, dd, dd, dd, dd, dd, dd, dd, dd, dd, dd, dd, dd, dd, dd, dd, dd, dd, dd, dd, dd, dd, dd, dd, dd, dd, dd, dd, dd, dd, dd, dd, dd, dd, dd, dd, dd, dd, dd, dd, dd, dd, dd, dd, dd, dd, dd, dd, dd, dd, dd, dd, dd, dd, dd, dd, dd, dd, dd, dd, dd, dd, dd, dd, dd, dd, dd, dd, dd, dd, dd, dd, dd, dd, dd, dd, dd, dd, dd, dd, dd, dd, dd, dd, dd, dd, dd, dd, dd, dd, dd, dd, dd, dd, dd, dd, dd, dd, dd, dd, dd, dd, dd, dd, dd, dd, dd, dd, dd, dd, dd, dd, dd, dd, dd, dd, dd, dd], [.box ((cA_t49 v_t1).map FV.d), .box [.d (.v (.bool v_x3.fHere)), .d (.v (.bool v_x3.fSlot)), .d (.v (.int .i64 v_x3.fAt)), .d (.v (.int .i64 v_x3.fRights)), .d (.v (.bool v_x3.fUsed)), .d (.v (.bool v_x3.fDirty)), .d (.v (.bool v_x3.fCopy))], .box [.d (.v (.bool v_r267.1.fHere)), .d (.v (.bool v_r267.1.fSlot)), .d (.v (.int .i64 v_r267.1.fAt)), .d (.v (.int .i64 v_r267.1.fRights)), .d (.v (.bool v_r267.1.fUsed)), .d (.v (.bool v_r267.1.fDirty)), .d (.v (.bool v_r267.1.fCopy))], .box ((cA_t49 v_r321.1).map FV.d), .box ((cA_t49 v_r340.1).map FV.d), .box ((cA_t49 v_r365.1).map FV.d)]⟩
def G_ringlaw2_TableTells_C5 (n : Nat) (v_p2 : Int) (v_k4 : Int) (v_r267 : (S_entry_Entry × Int)) (v_r321 : ((Fin 8 → S_table_Node) × Int)) (v_r340 : ((Fin 8 → S_table_Node) × Int)) (v_r365 : ((Fin 8 → S_table_Node) × Int)) (v_r378 : (Int × Int × Int)) (v_r461 : (Int)) (v_t1 : (Fin 8 → S_table_Node)) (v_x3 : S_entry_Entry) : Option G_ringlaw2_TableTells_C5_R :=
  if v_r267.2 = 1 then
   if v_r321.2 = 1 then
    if v_r378.2.2 = v_r461 then
     if (eqRes .neq (eqS_entry_Entry v_r267.1 (S_entry_Entry.mk false false 0 0 false false false))) = true then
      some (.x0 true)
     else
      (G_ringlaw2_TableTells_1 n v_r321.1).bind fun (v_r603 : (Bool)) =>
      if v_r603 = true then
       if v_r461 = 0 then
        some (.x0 false)
       else
        some (.x0 ((wi .i64 (v_r378.1 + v_r378.2.1)) != 0))
      else
       some (.x0 true)
    else
     some (.x0 true)
   else
    some (.x0 true)
  else
   some (.x0 true)
theorem G_ringlaw2_TableTells_C5_ok {Fi : Ex → PS → Prop} (hF : KC 315 Fi) (ks : List Fr) (n : Nat) (v_p2 : Int) (v_k4 : Int) (v_r267 : (S_entry_Entry × Int)) (v_r321 : ((Fin 8 → S_table_Node) × Int)) (v_r340 : ((Fin 8 → S_table_Node) × Int)) (v_r365 : ((Fin 8 → S_table_Node) × Int)) (v_r378 : (Int × Int × Int)) (v_r461 : (Int)) (v_t1 : (Fin 8 → S_table_Node)) (v_x3 : S_entry_Entry)  (o : G_ringlaw2_TableTells_C5_R) (h : G_ringlaw2_TableTells_C5 n v_p2 v_k4 v_r267 v_r321 v_r340 v_r365 v_r378 v_r461 v_t1 v_x3 = some o) (q : RunE Try.prog 315 Fi ks (G_ringlaw2_TableTells_C5_ex o) (G_ringlaw2_TableTells_C5_st v_p2 v_k4 v_r267 v_r321 v_r340 v_r365 v_r378 v_r461 v_t1 v_x3 o)) : RunE Try.prog 315 Fi (.s (cL (cL (cR (cR (cR (cR (cR (cR (cR (cR (cR (cR (cR (cR (cR (bodyOf Try.f5)))))))))))))))) :: ks) .normal (G_ringlaw2_TableTells_C5_hd v_p2 v_k4 v_r267 v_r321 v_r340 v_r365 v_r378 v_r461 v_t1 v_x3) := by
  unfold G_ringlaw2_TableTells_C5 at h
  by_cases h817 : v_r267.2 = 1
  · rw [if_pos h817] at h
    by_cases h818 : v_r321.2 = 1
    · rw [if_pos h818] at h
      by_cases h819 : v_r378.2.2 = v_r461
      · rw [if_pos h819] at h
        by_cases h820 : (eqRes .neq (eqS_entry_Entry v_r267.1 (S_entry_Entry.mk false false 0 0 false false false))) = true
        · rw [if_pos h820] at h
          cases h
          exact pkk_sound TTok mix hF 1 (hs := [.t false, .c, .c, .t false, .c, .c, .t false, .c, .c, .c, .c, .c, .c, .q (eqS_entry_Entry v_r267.1 (S_entry_Entry.mk false false 0 0 false false false)), .c, .t true, .c, .c, .c, .c, .c, .c, .c]) (ts := []) (s := [0, 1, 2, 3, 4, 5]) (l := [1, 3, 4, 6, 9, 11, 13, 14, 15, 16, 17, 18, 20, 21, 22, 23, 24, 130]) (by kernel_rfl) (by kernel_rfl) (.cons (nf h817) (.cons (nf h818) (.cons (nf h819) (.cons (eqS_entry_Entry_ok v_r267.1 (S_entry_Entry.mk false false 0 0 false false false)) (.cons h820 .nil))))) q
        · rw [if_neg h820] at h
          obtain ⟨v_r603, h821, h⟩ := bind_some h
          by_cases h822 : v_r603 = true
          · rw [if_pos h822] at h
            by_cases h823 : v_r461 = 0
            · rw [if_pos h823] at h
              cases h
              exact pkk_sound TTok mix hF 1 (hs := [.t false, .c, .c, .t false, .c, .c, .t false, .c, .c, .c, .c, .c, .c, .q (eqS_entry_Entry v_r267.1 (S_entry_Entry.mk false false 0 0 false false false)), .c, .t false, .c, .c, .c, .c, .c, .c, .r (eB v_r603), .c, .c, .t false, .c, .c, .t false, .c, .c, .c, .c]) (ts := []) (s := [0, 1, 2, 3, 4, 5]) (l := [1, 3, 4, 6, 9, 11, 13, 14, 15, 16, 17, 18, 20, 21, 22, 23, 24, 130]) (by kernel_rfl) (by kernel_rfl) (.cons (nf h817) (.cons (nf h818) (.cons (nf h819) (.cons (eqS_entry_Entry_ok v_r267.1 (S_entry_Entry.mk false false 0 0 false false false)) (.cons (vf h820) (.cons (G_ringlaw2_TableTells_1_ok n v_r321.1 _ h821) (.cons (bnf h822) (.cons (nf h823) .nil)))))))) q
            · rw [if_neg h823] at h
              cases h
              exact pkk_sound TTok mix hF 1 (hs := [.t false, .c, .c, .t false, .c, .c, .t false, .c, .c, .c, .c, .c, .c, .q (eqS_entry_Entry v_r267.1 (S_entry_Entry.mk false false 0 0 false false false)), .c, .t false, .c, .c, .c, .c, .c, .c, .r (eB v_r603), .c, .c, .t false, .c, .c, .t true, .c, .c, .c, .c]) (ts := []) (s := [0, 1, 2, 3, 4, 5]) (l := [1, 3, 4, 6, 9, 11, 13, 14, 15, 16, 17, 18, 20, 21, 22, 23, 24, 130]) (by kernel_rfl) (by kernel_rfl) (.cons (nf h817) (.cons (nf h818) (.cons (nf h819) (.cons (eqS_entry_Entry_ok v_r267.1 (S_entry_Entry.mk false false 0 0 false false false)) (.cons (vf h820) (.cons (G_ringlaw2_TableTells_1_ok n v_r321.1 _ h821) (.cons (bnf h822) (.cons (nt h823) .nil)))))))) q
          · rw [if_neg h822] at h
            cases h
            exact pkk_sound TTok mix hF 1 (hs := [.t false, .c, .c, .t false, .c, .c, .t false, .c, .c, .c, .c, .c, .c, .q (eqS_entry_Entry v_r267.1 (S_entry_Entry.mk false false 0 0 false false false)), .c, .t false, .c, .c, .c, .c, .c, .c, .r (eB v_r603), .c, .c, .t true, .c, .c, .c]) (ts := []) (s := [0, 1, 2, 3, 4, 5]) (l := [1, 3, 4, 6, 9, 11, 13, 14, 15, 16, 17, 18, 20, 21, 22, 23, 24, 130]) (by kernel_rfl) (by kernel_rfl) (.cons (nf h817) (.cons (nf h818) (.cons (nf h819) (.cons (eqS_entry_Entry_ok v_r267.1 (S_entry_Entry.mk false false 0 0 false false false)) (.cons (vf h820) (.cons (G_ringlaw2_TableTells_1_ok n v_r321.1 _ h821) (.cons (bnt (vf h822)) .nil))))))) q
      · rw [if_neg h819] at h
        cases h
        exact pkk_sound TTok mix hF 1 (hs := [.t false, .c, .c, .t false, .c, .c, .t true, .c, .c, .c, .c, .c, .c, .c, .c, .c, .c, .c]) (ts := []) (s := [0, 1, 2, 3, 4, 5]) (l := [1, 3, 4, 6, 9, 11, 13, 14, 15, 16, 17, 18, 20, 21, 22, 23, 24, 130]) (by kernel_rfl) (by kernel_rfl) (.cons (nf h817) (.cons (nf h818) (.cons (nt h819) .nil))) q
    · rw [if_neg h818] at h
      cases h
      exact pkk_sound TTok mix hF 1 (hs := [.t false, .c, .c, .t true, .c, .c, .c, .c, .c, .c, .c, .c, .c, .c, .c, .c, .c, .c]) (ts := []) (s := [0, 1, 2, 3, 4, 5]) (l := [1, 3, 4, 6, 9, 11, 13, 14, 15, 16, 17, 18, 20, 21, 22, 23, 24, 130]) (by kernel_rfl) (by kernel_rfl) (.cons (nf h817) (.cons (nt h818) .nil)) q
  · rw [if_neg h817] at h
    cases h
    exact pkk_sound TTok mix hF 1 (hs := [.t true, .c, .c, .c, .c, .c, .c, .c, .c, .c, .c, .c, .c, .c, .c, .c, .c, .c]) (ts := []) (s := [0, 1, 2, 3, 4, 5]) (l := [1, 3, 4, 6, 9, 11, 13, 14, 15, 16, 17, 18, 20, 21, 22, 23, 24, 130]) (by kernel_rfl) (by kernel_rfl) (.cons (nt h817) .nil) q
inductive G_ringlaw2_TableTells_L6_R where
  | x0 (v_n625 : Int) (v_all626 : Int)
def G_ringlaw2_TableTells_L6_ex : G_ringlaw2_TableTells_L6_R → Ex
  | .x0 _ _ => .exit 0
def G_ringlaw2_TableTells_L6_st (v_p2 : Int) (v_k4 : Int) (v_r340 : ((Fin 8 → S_table_Node) × Int)) (v_r365 : ((Fin 8 → S_table_Node) × Int)) (v_r378 : (Int × Int × Int)) (v_r461 : (Int)) (v_t1 : (Fin 8 → S_table_Node)) (v_x3 : S_entry_Entry) (v_r267 : (S_entry_Entry × Int)) (v_r321 : ((Fin 8 → S_table_Node) × Int)) (v_r619 : ((Fin 64 → S_entry_Entry))) : G_ringlaw2_TableTells_L6_R → PS
  | .x0 v_n625 v_all626 => ⟨[dd, .d (.v (.int .i64 v_p2)), dd, .d (.v (.int .i64 v_k4)), .ref 0 0, dd, .ref 1 0, dd, dd, .ref 2 0, dd, .ref 3 0, dd, .ref 4 0, .d (.v (.int .i64 v_r340.2)), .ref 5 0, .d (.v (.int .i64 v_r365.2)), .d (.v (.int .i64 v_r378.1)), .d (.v (.int .i64 v_r378.2.1)), dd, dd, .d (.clo 33 []), .d (.v (.int .i64 1)), .d (.v (.int .i64 1)), .d (.v (.int .i64 v_r461)), .ref 6 0, .d (.v (.int .i64 v_n625)), .d (.v (.int .i64 v_all626)), dd, dd, dd, dd, dd, dd, dd, dd, dd, dd, dd, dd, dd, dd, dd, dd, dd, dd, dd, dd, dd, dd, dd, dd, dd, dd, dd, dd, dd, dd, dd, dd, dd, dd, dd, dd, dd, dd, dd, dd, dd, dd, dd, dd, dd, dd, dd, dd, dd, dd, dd, dd, dd, dd, dd, dd, dd, dd, dd, dd, dd, dd, dd, dd, dd, dd, dd, dd, dd, dd, dd, dd, dd, dd, dd, dd, dd, dd, dd, dd, dd, dd, dd, dd, dd, dd, dd, dd, dd, dd, dd, dd, dd, dd, dd, dd, dd, dd, dd, dd, dd, dd, dd, dd, dd, dd, dd, dd, dd, dd, dd, dd, dd, dd, dd, dd, dd, dd, dd, dd, dd, dd, dd, dd, dd, dd, dd, dd, dd, dd, dd, dd, dd, dd, dd, dd, dd, dd, dd, dd, dd, dd, dd, dd, dd, dd, dd, dd, dd, dd, dd, dd, dd, dd, dd, dd, dd, dd, dd, dd, dd, dd, dd, dd, dd, dd, dd, dd, dd, dd, dd, dd, dd, dd, dd, dd, dd, dd, dd, dd, dd, dd, dd, dd, dd, dd, dd, dd, dd, dd, dd, dd, dd, dd, dd, dd, dd, dd, dd, dd, dd, dd, dd, dd, dd, dd, dd, dd, dd, dd, dd, dd, dd, dd, dd, dd, dd, dd, dd, dd, dd, dd, dd, dd, dd, dd, dd, dd, dd, dd, dd, dd, dd, dd, dd, dd, dd, dd, dd, dd, dd, dd, dd, dd, dd, dd, dd, dd, dd, dd, dd, dd, dd, dd, dd, dd, dd, dd, dd, dd, dd, dd, dd, dd, dd, dd, dd, dd, dd, dd, dd, dd, dd, dd, dd, dd, dd, dd, dd, dd, dd, dd, dd, dd, dd, dd, dd], [.box ((cA_t49 v_t1).map FV.d), .box [.d (.v (.bool v_x3.fHere)), .d (.v (.bool v_x3.fSlot)), .d (.v (.int .i64 v_x3.fAt)), .d (.v (.int .i64 v_x3.fRights)), .d (.v (.bool v_x3.fUsed)), .d (.v (.bool v_x3.fDirty)), .d (.v (.bool v_x3.fCopy))], .box [.d (.v (.bool v_r267.1.fHere)), .d (.v (.bool v_r267.1.fSlot)), .d (.v (.int .i64 v_r267.1.fAt)), .d (.v (.int .i64 v_r267.1.fRights)), .d (.v (.bool v_r267.1.fUsed)), .d (.v (.bool v_r267.1.fDirty)), .d (.v (.bool v_r267.1.fCopy))], .box ((cA_t49 v_r321.1).map FV.d), .box ((cA_t49 v_r340.1).map FV.d), .box ((cA_t49 v_r365.1).map FV.d), .box ((cA_t61 v_r619).map FV.d)]⟩
def G_ringlaw2_TableTells_L6_hd (v_p2 : Int) (v_k4 : Int) (v_r340 : ((Fin 8 → S_table_Node) × Int)) (v_r365 : ((Fin 8 → S_table_Node) × Int)) (v_r378 : (Int × Int × Int)) (v_r461 : (Int)) (v_t1 : (Fin 8 → S_table_Node)) (v_x3 : S_entry_Entry) (v_r267 : (S_entry_Entry × Int)) (v_r321 : ((Fin 8 → S_table_Node) × Int)) (v_r619 : ((Fin 64 → S_entry_Entry))) (v_n620 : Int) (v_all621 : Int) (v_x622 : Int) : PS := ⟨[dd, .d (.v (.int .i64 v_p2)), dd, .d (.v (.int .i64 v_k4)), .ref 0 0, dd, .ref 1 0, dd, dd, .ref 2 0, dd, .ref 3 0, dd, .ref 4 0, .d (.v (.int .i64 v_r340.2)), .ref 5 0, .d (.v (.int .i64 v_r365.2)), .d (.v (.int .i64 v_r378.1)), .d (.v (.int .i64 v_r378.2.1)), dd, dd, .d (.clo 33 []), .d (.v (.int .i64 1)), .d (.v (.int .i64 1)), .d (.v (.int .i64 v_r461)), .ref 6 0, .d (.v (.int .i64 v_n620)), .d (.v (.int .i64 v_all621)), dd, dd, dd, dd, dd, dd, dd, dd, dd, dd, dd, dd, dd, dd, dd, dd, dd, dd, dd, dd, dd, dd, dd, dd, dd, dd, dd, dd, dd, dd, dd, dd, dd, dd, dd, dd, dd, dd, dd, dd, dd, dd, dd, dd, dd, dd, dd, dd, dd, dd, dd, dd, dd, dd, dd, dd, dd, dd, dd, dd, dd, dd, dd, dd, dd, dd, dd, dd, dd, dd, dd, dd, dd, dd, dd, dd, dd, dd, dd, dd, dd, dd, dd, dd, dd, dd, dd, dd, dd, dd, dd, dd, dd, dd, dd, dd, dd, dd, dd, dd, dd, dd, dd, dd, dd, dd, dd, dd, dd, dd, dd, dd, dd, dd, dd, dd, dd, dd, dd, dd, dd, dd, dd, dd, dd, .d (.agg (cA_t49 v_t1)), .d (.v (.int .i64 v_x622)), dd, dd, dd, dd, dd, dd, dd, dd, dd, dd, dd, dd, dd, dd, dd, dd, dd, dd, dd, dd, dd, dd, dd, dd, dd, dd, dd, dd, dd, dd, dd, dd, dd, dd, dd, dd, dd, dd, dd, dd, dd, dd, dd, dd, dd, dd, dd, dd, dd, dd, dd, dd, dd, dd, dd, dd, dd, dd, dd, dd, dd, dd, dd, dd, dd, dd, dd, dd, dd, dd, dd, dd, dd, dd, dd, dd, dd, dd, dd, dd, dd, dd, dd, dd, dd, dd, dd, dd, dd, dd, dd, dd, dd, dd, dd, dd, dd, dd, dd, dd, dd, dd, dd, dd, dd, dd, dd, dd, dd, dd, dd, dd, dd, dd, dd, dd, dd, dd, dd, dd, dd, dd, dd, dd, dd, dd, dd, dd, dd, dd, dd, dd, dd, dd, dd, dd, dd, dd, dd, dd, dd, dd, dd, dd, dd, dd, dd, dd, dd, dd, dd, dd, dd, dd, dd, dd, dd, dd, dd, dd], [.box ((cA_t49 v_t1).map FV.d), .box [.d (.v (.bool v_x3.fHere)), .d (.v (.bool v_x3.fSlot)), .d (.v (.int .i64 v_x3.fAt)), .d (.v (.int .i64 v_x3.fRights)), .d (.v (.bool v_x3.fUsed)), .d (.v (.bool v_x3.fDirty)), .d (.v (.bool v_x3.fCopy))], .box [.d (.v (.bool v_r267.1.fHere)), .d (.v (.bool v_r267.1.fSlot)), .d (.v (.int .i64 v_r267.1.fAt)), .d (.v (.int .i64 v_r267.1.fRights)), .d (.v (.bool v_r267.1.fUsed)), .d (.v (.bool v_r267.1.fDirty)), .d (.v (.bool v_r267.1.fCopy))], .box ((cA_t49 v_r321.1).map FV.d), .box ((cA_t49 v_r340.1).map FV.d), .box ((cA_t49 v_r365.1).map FV.d), .box ((cA_t61 v_r619).map FV.d)]⟩
def G_ringlaw2_TableTells_L6 (n : Nat) (v_p2 : Int) (v_k4 : Int) (v_r340 : ((Fin 8 → S_table_Node) × Int)) (v_r365 : ((Fin 8 → S_table_Node) × Int)) (v_r378 : (Int × Int × Int)) (v_r461 : (Int)) (v_t1 : (Fin 8 → S_table_Node)) (v_x3 : S_entry_Entry) (v_r267 : (S_entry_Entry × Int)) (v_r321 : ((Fin 8 → S_table_Node) × Int)) (v_r619 : ((Fin 64 → S_entry_Entry))) : Nat → Int → Int → Int → Option G_ringlaw2_TableTells_L6_R
  | 0, _, _, _ => none
  | k + 1, v_n620, v_all621, v_x622 =>
    if v_x622 < 8 then
     (getA v_t1 v_x622).bind fun (v_y624 : S_table_Node) =>
     if (v_y624.fEntries.length : Int) > 0 then
      G_ringlaw2_TableTells_L6 n v_p2 v_k4 v_r340 v_r365 v_r378 v_r461 v_t1 v_x3 v_r267 v_r321 v_r619 k (wi .i64 (v_n620 + 1)) (wi .i64 (v_all621 + (v_y624.fEntries.length : Int))) (wi .i64 (v_x622 + 1))
     else
      G_ringlaw2_TableTells_L6 n v_p2 v_k4 v_r340 v_r365 v_r378 v_r461 v_t1 v_x3 v_r267 v_r321 v_r619 k v_n620 (wi .i64 (v_all621 + (v_y624.fEntries.length : Int))) (wi .i64 (v_x622 + 1))
    else
     some (.x0 v_n620 v_all621)
theorem G_ringlaw2_TableTells_L6_ok {Fi : Ex → PS → Prop} (hF : KC 315 Fi) (ks : List Fr) (n : Nat) (v_p2 : Int) (v_k4 : Int) (v_r340 : ((Fin 8 → S_table_Node) × Int)) (v_r365 : ((Fin 8 → S_table_Node) × Int)) (v_r378 : (Int × Int × Int)) (v_r461 : (Int)) (v_t1 : (Fin 8 → S_table_Node)) (v_x3 : S_entry_Entry) (v_r267 : (S_entry_Entry × Int)) (v_r321 : ((Fin 8 → S_table_Node) × Int)) (v_r619 : ((Fin 64 → S_entry_Entry)))  : ∀ (k : Nat) (v_n620 : Int) (v_all621 : Int) (v_x622 : Int) (o : G_ringlaw2_TableTells_L6_R), G_ringlaw2_TableTells_L6 n v_p2 v_k4 v_r340 v_r365 v_r378 v_r461 v_t1 v_x3 v_r267 v_r321 v_r619 k v_n620 v_all621 v_x622 = some o → RunE Try.prog 315 Fi ks (G_ringlaw2_TableTells_L6_ex o) (G_ringlaw2_TableTells_L6_st v_p2 v_k4 v_r340 v_r365 v_r378 v_r461 v_t1 v_x3 v_r267 v_r321 v_r619 o) → RunE Try.prog 315 Fi (.l k (cP (cB (cR (cL (cR (cR (cR (cR (cR (cR (cR (cR (cR (cR (cR (cR (cR (cR (cR (cR (cR (bodyOf Try.f5)))))))))))))))))))))) :: ks) .normal (G_ringlaw2_TableTells_L6_hd v_p2 v_k4 v_r340 v_r365 v_r378 v_r461 v_t1 v_x3 v_r267 v_r321 v_r619 v_n620 v_all621 v_x622)
  | 0, v_n620, v_all621, v_x622, o, h, q => by rw [G_ringlaw2_TableTells_L6] at h; cases h
  | k + 1, v_n620, v_all621, v_x622, o, h, q => by
    rw [G_ringlaw2_TableTells_L6] at h
    by_cases h839 : v_x622 < 8
    · rw [if_pos h839] at h
      obtain ⟨v_y624, h843, h⟩ := bind_some h
      by_cases h845 : (v_y624.fEntries.length : Int) > 0
      · rw [if_pos h845] at h
        exact pkk_sound TTok mix hF 18 (hs := [.t true, .l (.d (.agg [.v (.bool v_y624.fHuge), .sl (v_y624.fEntries.map eS_entry_Entry)])), .c, .c, .u (.d (.v (.int .i64 (v_y624.fEntries.length : Int)))), .c, .u (.d (.v (.int .i64 (v_y624.fEntries.length : Int)))), .t true]) (ts := []) (s := [0, 1, 2, 3, 4, 5, 6]) (l := [1, 3, 4, 6, 9, 11, 13, 14, 15, 16, 17, 18, 21, 22, 23, 24, 25, 26, 27, 153, 154]) (by kernel_rfl) (by kernel_rfl) (.cons (dt h839) (.cons (arr_idx (sz := 2) (g := (fun x => [.d (.v (.bool x.fHuge)), .d (.sl (x.fEntries.map eS_entry_Entry))])) (fun _ => rfl) h843) (.cons (show 0 + 2 ≤ 2 by decide) (.cons (len_ob (f := eS_entry_Entry) (l := v_y624.fEntries)) (.cons (len_ob (f := eS_entry_Entry) (l := v_y624.fEntries)) (.cons (dt h845) .nil)))))) (G_ringlaw2_TableTells_L6_ok hF ks n v_p2 v_k4 v_r340 v_r365 v_r378 v_r461 v_t1 v_x3 v_r267 v_r321 v_r619 k (wi .i64 (v_n620 + 1)) (wi .i64 (v_all621 + (v_y624.fEntries.length : Int))) (wi .i64 (v_x622 + 1)) _ h q)
      · rw [if_neg h845] at h
        exact pkk_sound TTok mix hF 18 (hs := [.t true, .l (.d (.agg [.v (.bool v_y624.fHuge), .sl (v_y624.fEntries.map eS_entry_Entry)])), .c, .c, .u (.d (.v (.int .i64 (v_y624.fEntries.length : Int)))), .c, .u (.d (.v (.int .i64 (v_y624.fEntries.length : Int)))), .t false]) (ts := []) (s := [0, 1, 2, 3, 4, 5, 6]) (l := [1, 3, 4, 6, 9, 11, 13, 14, 15, 16, 17, 18, 21, 22, 23, 24, 25, 26, 27, 153, 154]) (by kernel_rfl) (by kernel_rfl) (.cons (dt h839) (.cons (arr_idx (sz := 2) (g := (fun x => [.d (.v (.bool x.fHuge)), .d (.sl (x.fEntries.map eS_entry_Entry))])) (fun _ => rfl) h843) (.cons (show 0 + 2 ≤ 2 by decide) (.cons (len_ob (f := eS_entry_Entry) (l := v_y624.fEntries)) (.cons (len_ob (f := eS_entry_Entry) (l := v_y624.fEntries)) (.cons (df h845) .nil)))))) (G_ringlaw2_TableTells_L6_ok hF ks n v_p2 v_k4 v_r340 v_r365 v_r378 v_r461 v_t1 v_x3 v_r267 v_r321 v_r619 k v_n620 (wi .i64 (v_all621 + (v_y624.fEntries.length : Int))) (wi .i64 (v_x622 + 1)) _ h q)
    · rw [if_neg h839] at h
      cases h
      exact pkk_sound TTok mix hF 8 (hs := [.t false]) (ts := []) (s := [0, 1, 2, 3, 4, 5, 6]) (l := [1, 3, 4, 6, 9, 11, 13, 14, 15, 16, 17, 18, 21, 22, 23, 24, 25, 26, 27]) (by kernel_rfl) (by kernel_rfl) (.cons (df h839) .nil) q
inductive G_ringlaw2_TableTells_C7_R where
  | x0 (v_x630 : Bool)
def G_ringlaw2_TableTells_C7_ex : G_ringlaw2_TableTells_C7_R → Ex
  | .x0 _ => .normal
def G_ringlaw2_TableTells_C7_st (v_p2 : Int) (v_k4 : Int) (v_r340 : ((Fin 8 → S_table_Node) × Int)) (v_r365 : ((Fin 8 → S_table_Node) × Int)) (v_r378 : (Int × Int × Int)) (v_r461 : (Int)) (v_z628 : Int) (v_z629 : Int) (v_t1 : (Fin 8 → S_table_Node)) (v_x3 : S_entry_Entry) (v_r267 : (S_entry_Entry × Int)) (v_r321 : ((Fin 8 → S_table_Node) × Int)) (v_r619 : ((Fin 64 → S_entry_Entry))) : G_ringlaw2_TableTells_C7_R → PS
  | .x0 v_x630 => ⟨[dd, .d (.v (.int .i64 v_p2)), dd, .d (.v (.int .i64 v_k4)), .ref 0 0, dd, .ref 1 0, dd, dd, dd, dd, .ref 2 0, dd, .ref 3 0, .d (.v (.int .i64 v_r340.2)), .ref 4 0, .d (.v (.int .i64 v_r365.2)), dd, dd, dd, dd, .d (.clo 33 []), dd, .d (.v (.int .i64 1)), .d (.v (.int .i64 v_r461)), .ref 5 0, dd, dd, dd, dd, dd, dd, dd, dd, dd, dd, dd, dd, dd, dd, dd, dd, dd, dd, dd, dd, dd, dd, dd, dd, dd, dd, dd, dd, dd, dd, dd, dd, dd, dd, dd, dd, dd, dd, dd, dd, dd, dd, dd, dd, dd, dd, dd, dd, dd, dd, dd, dd, dd, dd, dd, dd, dd, dd, dd, dd, dd, dd, dd, dd, dd, dd, dd, dd, dd, dd, dd, dd, dd, dd, dd, dd, dd, dd, dd, dd, dd, dd, dd, dd, dd, dd, dd, dd, dd, dd, dd, dd, dd, dd, dd, dd, dd, dd, dd, dd, dd, dd, dd, dd, dd, dd, dd, dd, dd, dd, dd, dd, dd, dd, dd, dd, dd, dd, dd, dd, dd, dd, dd, dd, dd, dd, dd, dd, dd, dd, dd, dd, dd, dd, dd, dd, dd, dd, dd, dd, dd, dd, dd, dd, dd, dd, dd, dd, dd, dd, dd, dd, dd, dd, dd, dd, dd, dd, dd, dd, dd, .d (.v (.bool v_x630)), dd, dd, dd, dd, dd, dd, dd, dd, dd, dd, dd, dd, dd, dd, dd, dd, dd, dd, dd, dd, dd, dd, dd, dd, dd, dd, dd, dd, dd, dd, dd, dd, dd, dd, dd, dd, dd, dd, dd, dd, dd, dd, dd, dd, dd, dd, dd, dd, dd, dd, dd, dd, dd, dd, dd, dd, dd, dd, dd, dd, dd, dd, dd, dd, dd, dd, dd, dd, dd, dd, dd, dd, dd, dd, dd, dd, dd, dd, dd, dd, dd, dd, dd, dd, dd, dd, dd, dd, dd, dd, dd, dd, dd, dd, dd, dd, dd, dd, dd, dd, dd, dd, dd, dd, dd, dd, dd, dd, dd, dd, dd, dd, dd, dd, dd, dd, dd, dd, dd, dd, dd, dd, dd, dd, dd, dd, dd], [.box ((cA_t49 v_t1).map FV.d), .box [.d (.v (.bool v_x3.fHere)), .d (.v (.bool v_x3.fSlot)), .d (.v (.int .i64 v_x3.fAt)), .d (.v (.int .i64 v_x3.fRights)), .d (.v (.bool v_x3.fUsed)), .d (.v (.bool v_x3.fDirty)), .d (.v (.bool v_x3.fCopy))], .box ((cA_t49 v_r321.1).map FV.d), .box ((cA_t49 v_r340.1).map FV.d), .box ((cA_t49 v_r365.1).map FV.d), .box ((cA_t61 v_r619).map FV.d)]⟩
def G_ringlaw2_TableTells_C7_hd (v_p2 : Int) (v_k4 : Int) (v_r340 : ((Fin 8 → S_table_Node) × Int)) (v_r365 : ((Fin 8 → S_table_Node) × Int)) (v_r378 : (Int × Int × Int)) (v_r461 : (Int)) (v_z628 : Int) (v_z629 : Int) (v_t1 : (Fin 8 → S_table_Node)) (v_x3 : S_entry_Entry) (v_r267 : (S_entry_Entry × Int)) (v_r321 : ((Fin 8 → S_table_Node) × Int)) (v_r619 : ((Fin 64 → S_entry_Entry)))  : PS := ⟨[dd, .d (.v (.int .i64 v_p2)), dd, .d (.v (.int .i64 v_k4)), .ref 0 0, dd, .ref 1 0, dd, dd, .ref 2 0, dd, .ref 3 0, dd, .ref 4 0, .d (.v (.int .i64 v_r340.2)), .ref 5 0, .d (.v (.int .i64 v_r365.2)), .d (.v (.int .i64 v_r378.1)), .d (.v (.int .i64 v_r378.2.1)), dd, dd, .d (.clo 33 []), .d (.v (.int .i64 1)), .d (.v (.int .i64 1)), .d (.v (.int .i64 v_r461)), .ref 6 0, .d (.v (.int .i64 v_z628)), .d (.v (.int .i64 v_z629)), dd, dd, dd, dd, dd, dd, dd, dd, dd, dd, dd, dd, dd, dd, dd, dd, dd, dd, dd, dd, dd, dd, dd, dd, dd, dd, dd, dd, dd, dd, dd, dd, dd, dd, dd, dd, dd, dd, dd, dd, dd, dd, dd, dd, dd, dd, dd, dd, dd, dd, dd, dd, dd, dd, dd, dd, dd, dd, dd, dd, dd, dd, dd, dd, dd, dd, dd, dd, dd, dd, dd, dd, dd, dd, dd, dd, dd, dd, dd, dd, dd, dd, dd, dd, dd, dd, dd, dd, dd, dd, dd, dd, dd, dd, dd, dd, dd, dd, dd, dd, dd, dd, dd, dd, dd, dd, dd, dd, dd, dd, dd, dd, dd, dd, dd, dd, dd, dd, dd, dd, dd, dd, dd, dd, dd, dd, dd, dd, dd, dd, dd, dd, dd, dd, dd, dd, dd, dd, dd, dd, dd, dd, dd, dd, dd, dd, dd, dd, dd, dd, dd, dd, dd, dd, dd, dd, dd, dd, dd, dd, dd, dd, dd, dd, dd, dd, dd, dd, dd, dd, dd, dd, dd, dd, dd, dd, dd, dd, dd, dd, dd, dd, dd, dd, dd, dd, dd, dd, dd, dd, dd, dd, dd, dd, dd, dd, dd, dd, dd, dd, dd, dd, dd, dd, dd, dd, dd, dd, dd, dd, dd, dd, dd, dd, dd, dd, dd, dd, dd, dd, dd, dd, dd, dd, dd, dd, dd, dd, dd, dd, dd, dd, dd, dd, dd, dd, dd, dd, dd, dd, dd, dd, dd, dd, dd, dd, dd, dd, dd, dd, dd, dd, dd, dd, dd, dd, dd, dd, dd, dd, dd, dd, dd, dd, dd, dd, dd, dd, dd, dd, dd, dd, dd, dd, dd, dd, dd, dd, dd, dd, dd, dd, dd, dd, dd, dd, dd], [.box ((cA_t49 v_t1).map FV.d), .box [.d (.v (.bool v_x3.fHere)), .d (.v (.bool v_x3.fSlot)), .d (.v (.int .i64 v_x3.fAt)), .d (.v (.int .i64 v_x3.fRights)), .d (.v (.bool v_x3.fUsed)), .d (.v (.bool v_x3.fDirty)), .d (.v (.bool v_x3.fCopy))], .box [.d (.v (.bool v_r267.1.fHere)), .d (.v (.bool v_r267.1.fSlot)), .d (.v (.int .i64 v_r267.1.fAt)), .d (.v (.int .i64 v_r267.1.fRights)), .d (.v (.bool v_r267.1.fUsed)), .d (.v (.bool v_r267.1.fDirty)), .d (.v (.bool v_r267.1.fCopy))], .box ((cA_t49 v_r321.1).map FV.d), .box ((cA_t49 v_r340.1).map FV.d), .box ((cA_t49 v_r365.1).map FV.d), .box ((cA_t61 v_r619).map FV.d)]⟩
def G_ringlaw2_TableTells_C7 (n : Nat) (v_p2 : Int) (v_k4 : Int) (v_r340 : ((Fin 8 → S_table_Node) × Int)) (v_r365 : ((Fin 8 → S_table_Node) × Int)) (v_r378 : (Int × Int × Int)) (v_r461 : (Int)) (v_z628 : Int) (v_z629 : Int) (v_t1 : (Fin 8 → S_table_Node)) (v_x3 : S_entry_Entry) (v_r267 : (S_entry_Entry × Int)) (v_r321 : ((Fin 8 → S_table_Node) × Int)) (v_r619 : ((Fin 64 → S_entry_Entry))) : Option G_ringlaw2_TableTells_C7_R :=
  if v_r378.1 = v_z628 then
   some (.x0 (v_r378.2.1 != v_z629))
  else
   some (.x0 true)
theorem G_ringlaw2_TableTells_C7_ok {Fi : Ex → PS → Prop} (hF : KC 315 Fi) (ks : List Fr) (n : Nat) (v_p2 : Int) (v_k4 : Int) (v_r340 : ((Fin 8 → S_table_Node) × Int)) (v_r365 : ((Fin 8 → S_table_Node) × Int)) (v_r378 : (Int × Int × Int)) (v_r461 : (Int)) (v_z628 : Int) (v_z629 : Int) (v_t1 : (Fin 8 → S_table_Node)) (v_x3 : S_entry_Entry) (v_r267 : (S_entry_Entry × Int)) (v_r321 : ((Fin 8 → S_table_Node) × Int)) (v_r619 : ((Fin 64 → S_entry_Entry)))  (o : G_ringlaw2_TableTells_C7_R) (h : G_ringlaw2_TableTells_C7 n v_p2 v_k4 v_r340 v_r365 v_r378 v_r461 v_z628 v_z629 v_t1 v_x3 v_r267 v_r321 v_r619 = some o) (q : RunE Try.prog 315 Fi ks (G_ringlaw2_TableTells_C7_ex o) (G_ringlaw2_TableTells_C7_st v_p2 v_k4 v_r340 v_r365 v_r378 v_r461 v_z628 v_z629 v_t1 v_x3 v_r267 v_r321 v_r619 o)) : RunE Try.prog 315 Fi (.s (cL (cL (cR (cR (cR (cR (cR (cR (cR (cR (cR (cR (cR (cR (cR (cR (cR (cR (cR (cR (bodyOf Try.f5))))))))))))))))))))) :: ks) .normal (G_ringlaw2_TableTells_C7_hd v_p2 v_k4 v_r340 v_r365 v_r378 v_r461 v_z628 v_z629 v_t1 v_x3 v_r267 v_r321 v_r619) := by
  unfold G_ringlaw2_TableTells_C7 at h
  by_cases h848 : v_r378.1 = v_z628
  · rw [if_pos h848] at h
    cases h
    exact pkk_sound TTok mix hF 1 (hs := [.c, .c, .c, .c, .c, .c, .c, .c, .t false, .c, .c]) (ts := []) (s := [0, 1, 3, 4, 5, 6]) (l := [1, 3, 4, 6, 11, 13, 14, 15, 16, 21, 23, 24, 25, 187]) (by kernel_rfl) (by kernel_rfl) (.cons (nf h848) .nil) q
  · rw [if_neg h848] at h
    cases h
    exact pkk_sound TTok mix hF 1 (hs := [.c, .c, .c, .c, .c, .c, .c, .c, .t true, .c, .c]) (ts := []) (s := [0, 1, 3, 4, 5, 6]) (l := [1, 3, 4, 6, 11, 13, 14, 15, 16, 21, 23, 24, 25, 187]) (by kernel_rfl) (by kernel_rfl) (.cons (nt h848) .nil) q
inductive G_ringlaw2_TableTells_C8_R where
  | x0 (v_x734 : Bool)
def G_ringlaw2_TableTells_C8_ex : G_ringlaw2_TableTells_C8_R → Ex
  | .x0 _ => .normal
def G_ringlaw2_TableTells_C8_st (v_k4 : Int) (v_r340 : ((Fin 8 → S_table_Node) × Int)) (v_r365 : ((Fin 8 → S_table_Node) × Int)) (v_t1 : (Fin 8 → S_table_Node)) (v_r619 : ((Fin 64 → S_entry_Entry))) : G_ringlaw2_TableTells_C8_R → PS
  | .x0 v_x734 => ⟨[dd, dd, dd, .d (.v (.int .i64 v_k4)), .ref 0 0, dd, dd, dd, dd, dd, dd, dd, dd, dd, dd, .ref 1 0, .d (.v (.int .i64 v_r365.2)), dd, dd, dd, dd, .d (.clo 33 []), dd, dd, dd, .ref 2 0, dd, dd, dd, dd, dd, dd, dd, dd, dd, dd, dd, dd, dd, dd, dd, dd, dd, dd, dd, dd, dd, dd, dd, dd, dd, dd, dd, dd, dd, dd, dd, dd, dd, dd, dd, dd, dd, dd, dd, dd, dd, dd, dd, dd, dd, dd, dd, dd, dd, dd, dd, dd, dd, dd, dd, dd, dd, dd, dd, dd, dd, dd, dd, dd, dd, dd, dd, dd, dd, dd, dd, dd, dd, dd, dd, dd, dd, dd, dd, dd, dd, dd, dd, dd, dd, dd, dd, dd, dd, dd, dd, dd, dd, dd, dd, dd, dd, dd, dd, dd, dd, dd, dd, dd, dd, dd, dd, dd, dd, dd, dd, dd, dd, dd, dd, dd, dd, dd, dd, dd, dd, dd, dd, dd, dd, dd, dd, dd, dd, dd, dd, dd, dd, dd, dd, dd, dd, dd, dd, dd, dd, dd, dd, dd, dd, dd, dd, dd, dd, dd, dd, dd, dd, dd, dd, dd, dd, dd, dd, dd, dd, dd, dd, dd, dd, dd, dd, dd, dd, dd, dd, dd, dd, dd, dd, dd, dd, dd, dd, dd, dd, dd, dd, dd, dd, dd, dd, dd, dd, dd, dd, dd, dd, dd, dd, dd, dd, dd, dd, dd, dd, dd, dd, dd, dd, dd, dd, dd, dd, dd, dd, dd, dd, dd, dd, dd, dd, dd, dd, dd, dd, dd, dd, dd, dd, dd, dd, dd, dd, dd, dd, dd, dd, dd, dd, dd, dd, dd, dd, dd, dd, dd, dd, dd, dd, dd, dd, dd, dd, dd, .d (.v (.bool v_x734)), dd, dd, dd, dd, dd, dd, dd, dd, dd, dd, dd, dd, dd, dd, dd, dd, dd, dd, dd, dd, dd, dd, dd, dd, dd, dd, dd, dd, dd, dd, dd, dd, dd, dd, dd, dd, dd, dd], [.box ((cA_t49 v_t1).map FV.d), .box ((cA_t49 v_r365.1).map FV.d), .box ((cA_t61 v_r619).map FV.d)]⟩
def G_ringlaw2_TableTells_C8_hd (v_k4 : Int) (v_r340 : ((Fin 8 → S_table_Node) × Int)) (v_r365 : ((Fin 8 → S_table_Node) × Int)) (v_t1 : (Fin 8 → S_table_Node)) (v_r619 : ((Fin 64 → S_entry_Entry)))  : PS := ⟨[dd, dd, dd, .d (.v (.int .i64 v_k4)), .ref 0 0, dd, dd, dd, dd, dd, dd, dd, dd, .ref 1 0, .d (.v (.int .i64 v_r340.2)), .ref 2 0, .d (.v (.int .i64 v_r365.2)), dd, dd, dd, dd, .d (.clo 33 []), dd, dd, dd, .ref 3 0, dd, dd, dd, dd, dd, dd, dd, dd, dd, dd, dd, dd, dd, dd, dd, dd, dd, dd, dd, dd, dd, dd, dd, dd, dd, dd, dd, dd, dd, dd, dd, dd, dd, dd, dd, dd, dd, dd, dd, dd, dd, dd, dd, dd, dd, dd, dd, dd, dd, dd, dd, dd, dd, dd, dd, dd, dd, dd, dd, dd, dd, dd, dd, dd, dd, dd, dd, dd, dd, dd, dd, dd, dd, dd, dd, dd, dd, dd, dd, dd, dd, dd, dd, dd, dd, dd, dd, dd, dd, dd, dd, dd, dd, dd, dd, dd, dd, dd, dd, dd, dd, dd, dd, dd, dd, dd, dd, dd, dd, dd, dd, dd, dd, dd, dd, dd, dd, dd, dd, dd, dd, dd, dd, dd, dd, dd, dd, dd, dd, dd, dd, dd, dd, dd, dd, dd, dd, dd, dd, dd, dd, dd, dd, dd, dd, dd, dd, dd, dd, dd, dd, dd, dd, dd, dd, dd, dd, dd, dd, dd, dd, dd, dd, dd, dd, dd, dd, dd, dd, dd, dd, dd, dd, dd, dd, dd, dd, dd, dd, dd, dd, dd, dd, dd, dd, dd, dd, dd, dd, dd, dd, dd, dd, dd, dd, dd, dd, dd, dd, dd, dd, dd, dd, dd, dd, dd, dd, dd, dd, dd, dd, dd, dd, dd, dd, dd, dd, dd, dd, dd, dd, dd, dd, dd, dd, dd, dd, dd, dd, dd, dd, dd, dd, dd, dd, dd, dd, dd, dd, dd, dd, dd, dd, dd, dd, dd, dd, dd, dd, dd, dd, dd, dd, dd, dd, dd, dd, dd, dd, dd, dd, dd, dd, dd, dd, dd, dd, dd, dd, dd, dd, dd, dd, dd, dd, dd, dd, dd, dd, dd, dd, dd, dd, dd, dd, dd, dd, dd, dd], [.box ((cA_t49 v_t1).map FV.d), .box ((cA_t49 v_r340.1).map FV.d), .box ((cA_t49 v_r365.1).map FV.d), .box ((cA_t61 v_r619).map FV.d)]⟩
def G_ringlaw2_TableTells_C8 (n : Nat) (v_k4 : Int) (v_r340 : ((Fin 8 → S_table_Node) × Int)) (v_r365 : ((Fin 8 → S_table_Node) × Int)) (v_t1 : (Fin 8 → S_table_Node)) (v_r619 : ((Fin 64 → S_entry_Entry))) : Option G_ringlaw2_TableTells_C8_R :=
  if v_r340.2 = 0 then
   (G_ringref2_Tables n v_r340.1).bind fun (v_r735 : (Int)) =>
   if v_r735 = 0 then
    (G_ringref2_TablePages n v_r340.1).bind fun (v_r737 : ((Fin 64 → S_entry_Entry))) =>
    if (eqRes .neq (eqA_ringref2_Plain v_r737 v_r619)) = true then
     some (.x0 true)
    else
     if 0 ≤ v_k4 ∧ v_k4 < (8 : Int) then
      (getA v_r340.1 v_k4).bind fun (v_y739 : S_table_Node) =>
      if v_y739.fHuge = true then
       (G_ringlaw2_others n v_t1 v_r340.1 v_k4).bind fun (v_r741 : (Bool)) =>
       some (.x0 (!v_r741))
      else
       some (.x0 true)
     else none
   else
    some (.x0 true)
  else
   some (.x0 true)
theorem G_ringlaw2_TableTells_C8_ok {Fi : Ex → PS → Prop} (hF : KC 315 Fi) (ks : List Fr) (n : Nat) (v_k4 : Int) (v_r340 : ((Fin 8 → S_table_Node) × Int)) (v_r365 : ((Fin 8 → S_table_Node) × Int)) (v_t1 : (Fin 8 → S_table_Node)) (v_r619 : ((Fin 64 → S_entry_Entry)))  (o : G_ringlaw2_TableTells_C8_R) (h : G_ringlaw2_TableTells_C8 n v_k4 v_r340 v_r365 v_t1 v_r619 = some o) (q : RunE Try.prog 315 Fi ks (G_ringlaw2_TableTells_C8_ex o) (G_ringlaw2_TableTells_C8_st v_k4 v_r340 v_r365 v_t1 v_r619 o)) : RunE Try.prog 315 Fi (.s (cL (cF (cR (cL (cR (cR (cR (cR (cR (cR (cR (cR (cR (cR (cR (cR (cR (cR (cR (cR (cR (cR (cR (cR (cR (bodyOf Try.f5)))))))))))))))))))))))))) :: ks) .normal (G_ringlaw2_TableTells_C8_hd v_k4 v_r340 v_r365 v_t1 v_r619) := by
  unfold G_ringlaw2_TableTells_C8 at h
  by_cases h984 : v_r340.2 = 0
  · rw [if_pos h984] at h
    obtain ⟨v_r735, h985, h⟩ := bind_some h
    by_cases h986 : v_r735 = 0
    · rw [if_pos h986] at h
      obtain ⟨v_r737, h987, h⟩ := bind_some h
      by_cases h988 : (eqRes .neq (eqA_ringref2_Plain v_r737 v_r619)) = true
      · rw [if_pos h988] at h
        cases h
        exact pkk_sound TTok mix hF 1 (hs := [.t false, .c, .c, .r ((eI .i64) v_r735), .c, .t false, .c, .c, .r ((fun x => PV.agg (cA_t61 x)) v_r737), .c, .c, .c, .q (eqA_ringref2_Plain v_r737 v_r619), .t true, .c, .c, .c, .c, .c, .c, .c, .c, .c]) (ts := []) (s := [0, 2, 3]) (l := [3, 4, 15, 16, 21, 25, 276]) (by kernel_rfl) (by kernel_rfl) (.cons (nf h984) (.cons (G_ringref2_Tables_ok n v_r340.1 _ h985) (.cons (nf h986) (.cons (G_ringref2_TablePages_ok n v_r340.1 _ h987) (.cons (eqA_ringref2_Plain_ok v_r737 v_r619) (.cons h988 .nil)))))) q
      · rw [if_neg h988] at h
        by_cases h989 : 0 ≤ v_k4 ∧ v_k4 < (8 : Int)
        · rw [if_pos h989] at h
          obtain ⟨v_y739, h990, h⟩ := bind_some h
          by_cases h991 : v_y739.fHuge = true
          · rw [if_pos h991] at h
            obtain ⟨v_r741, h992, h⟩ := bind_some h
            cases h
            exact pkk_sound TTok mix hF 1 (hs := [.t false, .c, .c, .r ((eI .i64) v_r735), .c, .t false, .c, .c, .r ((fun x => PV.agg (cA_t61 x)) v_r737), .c, .c, .c, .q (eqA_ringref2_Plain v_r737 v_r619), .t false, .c, .c, .c, .l (.d (.v (.bool v_y739.fHuge))), .c, .t false, .c, .c, .c, .c, .c, .r (eB v_r741), .c]) (ts := []) (s := [0, 2, 3]) (l := [3, 4, 15, 16, 21, 25, 276]) (by kernel_rfl) (by kernel_rfl) (.cons (nf h984) (.cons (G_ringref2_Tables_ok n v_r340.1 _ h985) (.cons (nf h986) (.cons (G_ringref2_TablePages_ok n v_r340.1 _ h987) (.cons (eqA_ringref2_Plain_ok v_r737 v_r619) (.cons (vf h988) (.cons h989 (.cons (arr_cell (γ := FV) (sz := 2) (g := (fun x => [.d (.v (.bool x.fHuge)), .d (.sl (x.fEntries.map eS_entry_Entry))])) (pre := []) (post := []) (o := 0) (fun _ => rfl) h990 rfl) (.cons (bnf h991) (.cons (G_ringlaw2_others_ok n v_t1 v_r340.1 v_k4 _ h992) .nil)))))))))) q
          · rw [if_neg h991] at h
            cases h
            exact pkk_sound TTok mix hF 1 (hs := [.t false, .c, .c, .r ((eI .i64) v_r735), .c, .t false, .c, .c, .r ((fun x => PV.agg (cA_t61 x)) v_r737), .c, .c, .c, .q (eqA_ringref2_Plain v_r737 v_r619), .t false, .c, .c, .c, .l (.d (.v (.bool v_y739.fHuge))), .c, .t true, .c, .c, .c, .c]) (ts := []) (s := [0, 2, 3]) (l := [3, 4, 15, 16, 21, 25, 276]) (by kernel_rfl) (by kernel_rfl) (.cons (nf h984) (.cons (G_ringref2_Tables_ok n v_r340.1 _ h985) (.cons (nf h986) (.cons (G_ringref2_TablePages_ok n v_r340.1 _ h987) (.cons (eqA_ringref2_Plain_ok v_r737 v_r619) (.cons (vf h988) (.cons h989 (.cons (arr_cell (γ := FV) (sz := 2) (g := (fun x => [.d (.v (.bool x.fHuge)), .d (.sl (x.fEntries.map eS_entry_Entry))])) (pre := []) (post := []) (o := 0) (fun _ => rfl) h990 rfl) (.cons (bnt (vf h991)) .nil))))))))) q
        · rw [if_neg h989] at h; cases h
    · rw [if_neg h986] at h
      cases h
      exact pkk_sound TTok mix hF 1 (hs := [.t false, .c, .c, .r ((eI .i64) v_r735), .c, .t true, .c, .c, .c, .c, .c, .c, .c, .c, .c, .c, .c, .c, .c]) (ts := []) (s := [0, 2, 3]) (l := [3, 4, 15, 16, 21, 25, 276]) (by kernel_rfl) (by kernel_rfl) (.cons (nf h984) (.cons (G_ringref2_Tables_ok n v_r340.1 _ h985) (.cons (nt h986) .nil))) q
  · rw [if_neg h984] at h
    cases h
    exact pkk_sound TTok mix hF 1 (hs := [.t true, .c, .c, .c, .c, .c, .c, .c, .c, .c, .c, .c, .c, .c, .c, .c, .c]) (ts := []) (s := [0, 2, 3]) (l := [3, 4, 15, 16, 21, 25, 276]) (by kernel_rfl) (by kernel_rfl) (.cons (nt h984) .nil) q
inductive G_ringlaw2_TableTells_C9_R where
  | x0 (v_x728 : Bool)
  | x1 
def G_ringlaw2_TableTells_C9_ex : G_ringlaw2_TableTells_C9_R → Ex
  | .x0 _ => .ret
  | .x1  => .normal
def G_ringlaw2_TableTells_C9_st (v_k4 : Int) (v_r340 : ((Fin 8 → S_table_Node) × Int)) (v_r365 : ((Fin 8 → S_table_Node) × Int)) (v_r663 : (Bool)) (v_t1 : (Fin 8 → S_table_Node)) (v_r619 : ((Fin 64 → S_entry_Entry))) : G_ringlaw2_TableTells_C9_R → PS
  | .x0 v_x728 => ⟨[dd, dd, dd, dd, dd, dd, dd, dd, .d (.v (.bool v_x728)), dd, dd, dd, dd, dd, dd, dd, dd, dd, dd, dd, dd, dd, dd, dd, dd, dd, dd, dd, dd, dd, dd, dd, dd, dd, dd, dd, dd, dd, dd, dd, dd, dd, dd, dd, dd, dd, dd, dd, dd, dd, dd, dd, dd, dd, dd, dd, dd, dd, dd, dd, dd, dd, dd, dd, dd, dd, dd, dd, dd, dd, dd, dd, dd, dd, dd, dd, dd, dd, dd, dd, dd, dd, dd, dd, dd, dd, dd, dd, dd, dd, dd, dd, dd, dd, dd, dd, dd, dd, dd, dd, dd, dd, dd, dd, dd, dd, dd, dd, dd, dd, dd, dd, dd, dd, dd, dd, dd, dd, dd, dd, dd, dd, dd, dd, dd, dd, dd, dd, dd, dd, dd, dd, dd, dd, dd, dd, dd, dd, dd, dd, dd, dd, dd, dd, dd, dd, dd, dd, dd, dd, dd, dd, dd, dd, dd, dd, dd, dd, dd, dd, dd, dd, dd, dd, dd, dd, dd, dd, dd, dd, dd, dd, dd, dd, dd, dd, dd, dd, dd, dd, dd, dd, dd, dd, dd, dd, dd, dd, dd, dd, dd, dd, dd, dd, dd, dd, dd, dd, dd, dd, dd, dd, dd, dd, dd, dd, dd, dd, dd, dd, dd, dd, dd, dd, dd, dd, dd, dd, dd, dd, dd, dd, dd, dd, dd, dd, dd, dd, dd, dd, dd, dd, dd, dd, dd, dd, dd, dd, dd, dd, dd, dd, dd, dd, dd, dd, dd, dd, dd, dd, dd, dd, dd, dd, dd, dd, dd, dd, dd, dd, dd, dd, dd, dd, dd, dd, dd, dd, dd, dd, dd, dd, dd, dd, dd, dd, dd, dd, dd, dd, dd, dd, dd, dd, dd, dd, dd, dd, dd, dd, dd, dd, dd, dd, dd, dd, dd, dd, dd, dd, dd, dd, dd, dd, dd, dd, dd, dd, dd, dd, dd, dd, dd, dd, dd], []⟩
  | .x1  => ⟨[dd, dd, dd, .d (.v (.int .i64 v_k4)), .ref 0 0, dd, dd, dd, dd, dd, dd, dd, dd, dd, dd, .ref 1 0, .d (.v (.int .i64 v_r365.2)), dd, dd, dd, dd, .d (.clo 33 []), dd, dd, dd, .ref 2 0, dd, dd, dd, dd, dd, dd, dd, dd, dd, dd, dd, dd, dd, dd, dd, dd, dd, dd, dd, dd, dd, dd, dd, dd, dd, dd, dd, dd, dd, dd, dd, dd, dd, dd, dd, dd, dd, dd, dd, dd, dd, dd, dd, dd, dd, dd, dd, dd, dd, dd, dd, dd, dd, dd, dd, dd, dd, dd, dd, dd, dd, dd, dd, dd, dd, dd, dd, dd, dd, dd, dd, dd, dd, dd, dd, dd, dd, dd, dd, dd, dd, dd, dd, dd, dd, dd, dd, dd, dd, dd, dd, dd, dd, dd, dd, dd, dd, dd, dd, dd, dd, dd, dd, dd, dd, dd, dd, dd, dd, dd, dd, dd, dd, dd, dd, dd, dd, dd, dd, dd, dd, dd, dd, dd, dd, dd, dd, dd, dd, dd, dd, dd, dd, dd, dd, dd, dd, dd, dd, dd, dd, dd, dd, dd, dd, dd, dd, dd, dd, dd, dd, dd, dd, dd, dd, dd, dd, dd, dd, dd, dd, dd, dd, dd, dd, dd, dd, dd, dd, dd, dd, dd, dd, dd, dd, dd, dd, dd, dd, dd, dd, dd, dd, dd, dd, dd, dd, dd, dd, dd, dd, dd, dd, dd, dd, dd, dd, dd, dd, dd, dd, dd, dd, dd, dd, dd, dd, dd, dd, dd, dd, dd, dd, dd, dd, dd, dd, dd, dd, dd, dd, dd, dd, dd, dd, dd, dd, dd, dd, dd, dd, dd, dd, dd, dd, dd, dd, dd, dd, dd, dd, dd, dd, dd, dd, dd, dd, dd, dd, dd, dd, dd, dd, dd, dd, dd, dd, dd, dd, dd, dd, dd, dd, dd, dd, dd, dd, dd, dd, dd, dd, dd, dd, dd, dd, dd, dd, dd, dd, dd, dd, dd, dd, dd, dd, dd, dd, dd, dd], [.box ((cA_t49 v_t1).map FV.d), .box ((cA_t49 v_r365.1).map FV.d), .box ((cA_t61 v_r619).map FV.d)]⟩
def G_ringlaw2_TableTells_C9_hd (v_k4 : Int) (v_r340 : ((Fin 8 → S_table_Node) × Int)) (v_r365 : ((Fin 8 → S_table_Node) × Int)) (v_r663 : (Bool)) (v_t1 : (Fin 8 → S_table_Node)) (v_r619 : ((Fin 64 → S_entry_Entry)))  : PS := ⟨[dd, dd, dd, .d (.v (.int .i64 v_k4)), .ref 0 0, dd, dd, dd, dd, dd, dd, dd, dd, .ref 1 0, .d (.v (.int .i64 v_r340.2)), .ref 2 0, .d (.v (.int .i64 v_r365.2)), dd, dd, dd, dd, .d (.clo 33 []), dd, dd, dd, .ref 3 0, dd, dd, dd, dd, dd, dd, dd, dd, dd, dd, dd, dd, dd, dd, dd, dd, dd, dd, dd, dd, dd, dd, dd, dd, dd, dd, dd, dd, dd, dd, dd, dd, dd, dd, dd, dd, dd, dd, dd, dd, dd, dd, dd, dd, dd, dd, dd, dd, dd, dd, dd, dd, dd, dd, dd, dd, dd, dd, dd, dd, dd, dd, dd, dd, dd, dd, dd, dd, dd, dd, dd, dd, dd, dd, dd, dd, dd, dd, dd, dd, dd, dd, dd, dd, dd, dd, dd, dd, dd, dd, dd, dd, dd, dd, dd, dd, dd, dd, dd, dd, dd, dd, dd, dd, dd, dd, dd, dd, dd, dd, dd, dd, dd, dd, dd, dd, dd, dd, dd, dd, dd, dd, dd, dd, dd, dd, dd, dd, dd, dd, dd, dd, dd, dd, dd, dd, dd, dd, dd, dd, dd, dd, dd, dd, dd, dd, dd, dd, dd, dd, dd, dd, dd, dd, dd, dd, dd, dd, dd, dd, dd, dd, dd, dd, dd, dd, dd, dd, dd, dd, dd, dd, dd, dd, dd, dd, dd, dd, dd, dd, dd, dd, dd, dd, dd, dd, dd, dd, dd, dd, dd, dd, dd, dd, dd, dd, dd, dd, dd, dd, dd, dd, dd, dd, dd, dd, dd, dd, dd, dd, dd, dd, dd, dd, dd, .d (.v (.bool (!v_r663))), dd, dd, dd, dd, dd, dd, dd, dd, dd, dd, dd, dd, dd, dd, dd, dd, dd, dd, dd, dd, dd, dd, dd, dd, dd, dd, dd, dd, dd, dd, dd, dd, dd, dd, dd, dd, dd, dd, dd, dd, dd, dd, dd, dd, dd, dd, dd, dd, dd, dd, dd, dd, dd, dd, dd, dd, dd, dd, dd, dd, dd, dd, dd, dd, dd, dd, dd, dd, dd, dd, dd, dd, dd], [.box ((cA_t49 v_t1).map FV.d), .box ((cA_t49 v_r340.1).map FV.d), .box ((cA_t49 v_r365.1).map FV.d), .box ((cA_t61 v_r619).map FV.d)]⟩
def G_ringlaw2_TableTells_C9 (n : Nat) (v_k4 : Int) (v_r340 : ((Fin 8 → S_table_Node) × Int)) (v_r365 : ((Fin 8 → S_table_Node) × Int)) (v_r663 : (Bool)) (v_t1 : (Fin 8 → S_table_Node)) (v_r619 : ((Fin 64 → S_entry_Entry))) : Option G_ringlaw2_TableTells_C9_R :=
  if v_r663 = true then
   (G_ringlaw2_TableTells_C8 n v_k4 v_r340 v_r365 v_t1 v_r619).bind fun v_o743 => match v_o743 with
   | .x0 v_z744 =>
     if v_z744 = true then
      some (.x0 false)
     else
      some (.x1 )
  else
   (G_ringlaw2_TableTells_1 n v_r340.1).bind fun (v_r727 : (Bool)) =>
   if v_r727 = true then
    if v_r340.2 = 8 then
     some (.x1 )
    else
     some (.x0 false)
   else
    some (.x0 false)
theorem G_ringlaw2_TableTells_C9_ok {Fi : Ex → PS → Prop} (hF : KC 315 Fi) (ks : List Fr) (n : Nat) (v_k4 : Int) (v_r340 : ((Fin 8 → S_table_Node) × Int)) (v_r365 : ((Fin 8 → S_table_Node) × Int)) (v_r663 : (Bool)) (v_t1 : (Fin 8 → S_table_Node)) (v_r619 : ((Fin 64 → S_entry_Entry)))  (o : G_ringlaw2_TableTells_C9_R) (h : G_ringlaw2_TableTells_C9 n v_k4 v_r340 v_r365 v_r663 v_t1 v_r619 = some o) (q : RunE Try.prog 315 Fi ks (G_ringlaw2_TableTells_C9_ex o) (G_ringlaw2_TableTells_C9_st v_k4 v_r340 v_r365 v_r663 v_t1 v_r619 o)) : RunE Try.prog 315 Fi (.s (cR (cL (cR (cR (cR (cR (cR (cR (cR (cR (cR (cR (cR (cR (cR (cR (cR (cR (cR (cR (cR (cR (cR (bodyOf Try.f5)))))))))))))))))))))))) :: ks) .normal (G_ringlaw2_TableTells_C9_hd v_k4 v_r340 v_r365 v_r663 v_t1 v_r619) := by
  unfold G_ringlaw2_TableTells_C9 at h
  by_cases h971 : v_r663 = true
  · rw [if_pos h971] at h
    obtain ⟨v_o743, h993, h⟩ := bind_some h
    refine pkk_sound TTok mix hF 2 (hs := [.t false]) (ts := []) (s := [0, 1, 2, 3]) (l := [3, 4, 13, 14, 15, 16, 21, 25]) (by kernel_rfl) (by kernel_rfl) (.cons (bnf h971) .nil) (G_ringlaw2_TableTells_C8_ok hF (.s (cR (cF (cR (cL (cR (cR (cR (cR (cR (cR (cR (cR (cR (cR (cR (cR (cR (cR (cR (cR (cR (cR (cR (cR (cR (bodyOf Try.f5)))))))))))))))))))))))))) :: ks) n v_k4 v_r340 v_r365 v_t1 v_r619 _ h993 ?_)
    cases v_o743 with
    | x0 v_z744 =>
      dsimp only at h
      by_cases h994 : v_z744 = true
      · rw [if_pos h994] at h
        cases h
        exact pkk_sound TTok mix hF 4 (hs := [.t true]) (ts := []) (s := []) (l := [8]) (by kernel_rfl) (by kernel_rfl) (.cons h994 .nil) q
      · rw [if_neg h994] at h
        cases h
        exact pkk_sound TTok mix hF 2 (hs := [.t false]) (ts := []) (s := [0, 1, 2]) (l := [3, 4, 15, 16, 21, 25]) (by kernel_rfl) (by kernel_rfl) (.cons (vf h994) .nil) q
  · rw [if_neg h971] at h
    obtain ⟨v_r727, h972, h⟩ := bind_some h
    by_cases h973 : v_r727 = true
    · rw [if_pos h973] at h
      by_cases h974 : v_r340.2 = 8
      · rw [if_pos h974] at h
        cases h
        exact pkk_sound TTok mix hF 5 (hs := [.t true, .c, .r (eB v_r727), .t false, .c, .t false]) (ts := []) (s := [0, 2, 3]) (l := [3, 4, 15, 16, 21, 25]) (by kernel_rfl) (by kernel_rfl) (.cons (bnt (vf h971)) (.cons (G_ringlaw2_TableTells_1_ok n v_r340.1 _ h972) (.cons (bnf h973) (.cons (nf h974) .nil)))) q
      · rw [if_neg h974] at h
        cases h
        exact pkk_sound TTok mix hF 7 (hs := [.t true, .c, .r (eB v_r727), .t false, .c, .t true]) (ts := []) (s := []) (l := [8]) (by kernel_rfl) (by kernel_rfl) (.cons (bnt (vf h971)) (.cons (G_ringlaw2_TableTells_1_ok n v_r340.1 _ h972) (.cons (bnf h973) (.cons (nt h974) .nil)))) q
    · rw [if_neg h973] at h
      cases h
      exact pkk_sound TTok mix hF 7 (hs := [.t true, .c, .r (eB v_r727), .t true, .c, .c]) (ts := []) (s := []) (l := [8]) (by kernel_rfl) (by kernel_rfl) (.cons (bnt (vf h971)) (.cons (G_ringlaw2_TableTells_1_ok n v_r340.1 _ h972) (.cons (bnt (vf h973)) .nil))) q
inductive G_ringlaw2_TableTells_C10_R where
  | x0 (v_x759 : Bool)
def G_ringlaw2_TableTells_C10_ex : G_ringlaw2_TableTells_C10_R → Ex
  | .x0 _ => .normal
def G_ringlaw2_TableTells_C10_st (v_k4 : Int) (v_r365 : ((Fin 8 → S_table_Node) × Int)) (v_t1 : (Fin 8 → S_table_Node)) (v_r619 : ((Fin 64 → S_entry_Entry))) : G_ringlaw2_TableTells_C10_R → PS
  | .x0 v_x759 => ⟨[dd, dd, dd, dd, dd, dd, dd, dd, .d (.v (.bool v_x759)), dd, dd, dd, dd, dd, dd, dd, dd, dd, dd, dd, dd, dd, dd, dd, dd, dd, dd, dd, dd, dd, dd, dd, dd, dd, dd, dd, dd, dd, dd, dd, dd, dd, dd, dd, dd, dd, dd, dd, dd, dd, dd, dd, dd, dd, dd, dd, dd, dd, dd, dd, dd, dd, dd, dd, dd, dd, dd, dd, dd, dd, dd, dd, dd, dd, dd, dd, dd, dd, dd, dd, dd, dd, dd, dd, dd, dd, dd, dd, dd, dd, dd, dd, dd, dd, dd, dd, dd, dd, dd, dd, dd, dd, dd, dd, dd, dd, dd, dd, dd, dd, dd, dd, dd, dd, dd, dd, dd, dd, dd, dd, dd, dd, dd, dd, dd, dd, dd, dd, dd, dd, dd, dd, dd, dd, dd, dd, dd, dd, dd, dd, dd, dd, dd, dd, dd, dd, dd, dd, dd, dd, dd, dd, dd, dd, dd, dd, dd, dd, dd, dd, dd, dd, dd, dd, dd, dd, dd, dd, dd, dd, dd, dd, dd, dd, dd, dd, dd, dd, dd, dd, dd, dd, dd, dd, dd, dd, dd, dd, dd, dd, dd, dd, dd, dd, dd, dd, dd, dd, dd, dd, dd, dd, dd, dd, dd, dd, dd, dd, dd, dd, dd, dd, dd, dd, dd, dd, dd, dd, dd, dd, dd, dd, dd, dd, dd, dd, dd, dd, dd, dd, dd, dd, dd, dd, dd, dd, dd, dd, dd, dd, dd, dd, dd, dd, dd, dd, dd, dd, dd, dd, dd, dd, dd, dd, dd, dd, dd, dd, dd, dd, dd, dd, dd, dd, dd, dd, dd, dd, dd, dd, dd, dd, dd, dd, dd, dd, dd, dd, dd, dd, dd, dd, dd, dd, dd, dd, dd, dd, dd, dd, dd, dd, dd, dd, dd, dd, dd, dd, dd, dd, dd, dd, dd, dd, dd, dd, dd, dd, dd, dd, dd, dd, dd, dd, dd], []⟩
def G_ringlaw2_TableTells_C10_hd (v_k4 : Int) (v_r365 : ((Fin 8 → S_table_Node) × Int)) (v_t1 : (Fin 8 → S_table_Node)) (v_r619 : ((Fin 64 → S_entry_Entry)))  : PS := ⟨[dd, dd, dd, .d (.v (.int .i64 v_k4)), .ref 0 0, dd, dd, dd, dd, dd, dd, dd, dd, dd, dd, .ref 1 0, .d (.v (.int .i64 v_r365.2)), dd, dd, dd, dd, dd, dd, dd, dd, .ref 2 0, dd, dd, dd, dd, dd, dd, dd, dd, dd, dd, dd, dd, dd, dd, dd, dd, dd, dd, dd, dd, dd, dd, dd, dd, dd, dd, dd, dd, dd, dd, dd, dd, dd, dd, dd, dd, dd, dd, dd, dd, dd, dd, dd, dd, dd, dd, dd, dd, dd, dd, dd, dd, dd, dd, dd, dd, dd, dd, dd, dd, dd, dd, dd, dd, dd, dd, dd, dd, dd, dd, dd, dd, dd, dd, dd, dd, dd, dd, dd, dd, dd, dd, dd, dd, dd, dd, dd, dd, dd, dd, dd, dd, dd, dd, dd, dd, dd, dd, dd, dd, dd, dd, dd, dd, dd, dd, dd, dd, dd, dd, dd, dd, dd, dd, dd, dd, dd, dd, dd, dd, dd, dd, dd, dd, dd, dd, dd, dd, dd, dd, dd, dd, dd, dd, dd, dd, dd, dd, dd, dd, dd, dd, dd, dd, dd, dd, dd, dd, dd, dd, dd, dd, dd, dd, dd, dd, dd, dd, dd, dd, dd, dd, dd, dd, dd, dd, dd, dd, dd, dd, dd, dd, dd, dd, dd, dd, dd, dd, dd, dd, dd, dd, dd, dd, dd, dd, dd, dd, dd, dd, dd, dd, dd, dd, dd, dd, dd, dd, dd, dd, dd, dd, dd, dd, dd, dd, dd, dd, dd, dd, dd, dd, dd, dd, dd, dd, dd, dd, dd, dd, dd, dd, dd, dd, dd, dd, dd, dd, dd, dd, dd, dd, dd, dd, dd, dd, dd, dd, dd, dd, dd, dd, dd, dd, dd, dd, dd, dd, dd, dd, dd, dd, dd, dd, dd, dd, dd, dd, dd, dd, dd, dd, dd, dd, dd, dd, dd, dd, dd, dd, dd, dd, dd, dd, dd, dd, dd, dd, dd, dd, dd, dd, dd, dd, dd, dd, dd, dd, dd], [.box ((cA_t49 v_t1).map FV.d), .box ((cA_t49 v_r365.1).map FV.d), .box ((cA_t61 v_r619).map FV.d)]⟩
def G_ringlaw2_TableTells_C10 (n : Nat) (v_k4 : Int) (v_r365 : ((Fin 8 → S_table_Node) × Int)) (v_t1 : (Fin 8 → S_table_Node)) (v_r619 : ((Fin 64 → S_entry_Entry))) : Option G_ringlaw2_TableTells_C10_R :=
  if v_r365.2 = 0 then
   (G_ringref2_Tables n v_r365.1).bind fun (v_r755 : (Int)) =>
   if v_r755 = 0 then
    (G_ringref2_TablePages n v_r365.1).bind fun (v_r756 : ((Fin 64 → S_entry_Entry))) =>
    if (eqRes .eql (eqA_ringref2_Plain v_r756 v_r619)) = true then
     if 0 ≤ v_k4 ∧ v_k4 < (8 : Int) then
      (getA v_r365.1 v_k4).bind fun (v_y757 : S_table_Node) =>
      if v_y757.fHuge = true then
       some (.x0 false)
      else
       (G_ringlaw2_others n v_t1 v_r365.1 v_k4).bind fun (v_r758 : (Bool)) =>
       some (.x0 v_r758)
     else none
    else
     some (.x0 false)
   else
    some (.x0 false)
  else
   some (.x0 false)
theorem G_ringlaw2_TableTells_C10_ok {Fi : Ex → PS → Prop} (hF : KC 315 Fi) (ks : List Fr) (n : Nat) (v_k4 : Int) (v_r365 : ((Fin 8 → S_table_Node) × Int)) (v_t1 : (Fin 8 → S_table_Node)) (v_r619 : ((Fin 64 → S_entry_Entry)))  (o : G_ringlaw2_TableTells_C10_R) (h : G_ringlaw2_TableTells_C10 n v_k4 v_r365 v_t1 v_r619 = some o) (q : RunE Try.prog 315 Fi ks (G_ringlaw2_TableTells_C10_ex o) (G_ringlaw2_TableTells_C10_st v_k4 v_r365 v_t1 v_r619 o)) : RunE Try.prog 315 Fi (.s (cL (cR (cR (cR (cR (cR (cR (cR (cR (cR (cR (cR (cR (cR (cR (cR (cR (cR (cR (cR (cR (cR (cR (cR (bodyOf Try.f5))))))))))))))))))))))))) :: ks) .normal (G_ringlaw2_TableTells_C10_hd v_k4 v_r365 v_t1 v_r619) := by
  unfold G_ringlaw2_TableTells_C10 at h
  by_cases h1013 : v_r365.2 = 0
  · rw [if_pos h1013] at h
    obtain ⟨v_r755, h1014, h⟩ := bind_some h
    by_cases h1015 : v_r755 = 0
    · rw [if_pos h1015] at h
      obtain ⟨v_r756, h1016, h⟩ := bind_some h
      by_cases h1017 : (eqRes .eql (eqA_ringref2_Plain v_r756 v_r619)) = true
      · rw [if_pos h1017] at h
        by_cases h1018 : 0 ≤ v_k4 ∧ v_k4 < (8 : Int)
        · rw [if_pos h1018] at h
          obtain ⟨v_y757, h1019, h⟩ := bind_some h
          by_cases h1020 : v_y757.fHuge = true
          · rw [if_pos h1020] at h
            cases h
            exact pkk_sound TTok mix hF 1 (hs := [.t true, .c, .c, .r ((eI .i64) v_r755), .c, .t true, .c, .c, .r ((fun x => PV.agg (cA_t61 x)) v_r756), .c, .c, .c, .q (eqA_ringref2_Plain v_r756 v_r619), .t true, .c, .c, .c, .l (.d (.v (.bool v_y757.fHuge))), .c, .t false, .c, .c, .c]) (ts := []) (s := []) (l := [8]) (by kernel_rfl) (by kernel_rfl) (.cons (bt h1013) (.cons (G_ringref2_Tables_ok n v_r365.1 _ h1014) (.cons (bt h1015) (.cons (G_ringref2_TablePages_ok n v_r365.1 _ h1016) (.cons (eqA_ringref2_Plain_ok v_r756 v_r619) (.cons h1017 (.cons h1018 (.cons (arr_cell (γ := FV) (sz := 2) (g := (fun x => [.d (.v (.bool x.fHuge)), .d (.sl (x.fEntries.map eS_entry_Entry))])) (pre := []) (post := []) (o := 0) (fun _ => rfl) h1019 rfl) (.cons (bnf h1020) .nil))))))))) q
          · rw [if_neg h1020] at h
            obtain ⟨v_r758, h1021, h⟩ := bind_some h
            cases h
            exact pkk_sound TTok mix hF 1 (hs := [.t true, .c, .c, .r ((eI .i64) v_r755), .c, .t true, .c, .c, .r ((fun x => PV.agg (cA_t61 x)) v_r756), .c, .c, .c, .q (eqA_ringref2_Plain v_r756 v_r619), .t true, .c, .c, .c, .l (.d (.v (.bool v_y757.fHuge))), .c, .t true, .c, .c, .c, .c, .c, .r (eB v_r758)]) (ts := []) (s := []) (l := [8]) (by kernel_rfl) (by kernel_rfl) (.cons (bt h1013) (.cons (G_ringref2_Tables_ok n v_r365.1 _ h1014) (.cons (bt h1015) (.cons (G_ringref2_TablePages_ok n v_r365.1 _ h1016) (.cons (eqA_ringref2_Plain_ok v_r756 v_r619) (.cons h1017 (.cons h1018 (.cons (arr_cell (γ := FV) (sz := 2) (g := (fun x => [.d (.v (.bool x.fHuge)), .d (.sl (x.fEntries.map eS_entry_Entry))])) (pre := []) (post := []) (o := 0) (fun _ => rfl) h1019 rfl) (.cons (bnt (vf h1020)) (.cons (G_ringlaw2_others_ok n v_t1 v_r365.1 v_k4 _ h1021) .nil)))))))))) q
        · rw [if_neg h1018] at h; cases h
      · rw [if_neg h1017] at h
        cases h
        exact pkk_sound TTok mix hF 1 (hs := [.t true, .c, .c, .r ((eI .i64) v_r755), .c, .t true, .c, .c, .r ((fun x => PV.agg (cA_t61 x)) v_r756), .c, .c, .c, .q (eqA_ringref2_Plain v_r756 v_r619), .t false, .c, .c, .c, .c, .c, .c, .c, .c]) (ts := []) (s := []) (l := [8]) (by kernel_rfl) (by kernel_rfl) (.cons (bt h1013) (.cons (G_ringref2_Tables_ok n v_r365.1 _ h1014) (.cons (bt h1015) (.cons (G_ringref2_TablePages_ok n v_r365.1 _ h1016) (.cons (eqA_ringref2_Plain_ok v_r756 v_r619) (.cons (vf h1017) .nil)))))) q
    · rw [if_neg h1015] at h
      cases h
      exact pkk_sound TTok mix hF 1 (hs := [.t true, .c, .c, .r ((eI .i64) v_r755), .c, .t false, .c, .c, .c, .c, .c, .c, .c, .c, .c, .c, .c, .c]) (ts := []) (s := []) (l := [8]) (by kernel_rfl) (by kernel_rfl) (.cons (bt h1013) (.cons (G_ringref2_Tables_ok n v_r365.1 _ h1014) (.cons (bf h1015) .nil))) q
  · rw [if_neg h1013] at h
    cases h
    exact pkk_sound TTok mix hF 1 (hs := [.t false, .c, .c, .c, .c, .c, .c, .c, .c, .c, .c, .c, .c, .c, .c, .c]) (ts := []) (s := []) (l := [8]) (by kernel_rfl) (by kernel_rfl) (.cons (bf h1013) .nil) q
inductive G_ringlaw2_TableTells_C11_R where
  | x0 (v_set768 : Int)
def G_ringlaw2_TableTells_C11_ex : G_ringlaw2_TableTells_C11_R → Ex
  | .x0 _ => .normal
def G_ringlaw2_TableTells_C11_st (v_p2 : Int) (v_k4 : Int) (v_r267 : (S_entry_Entry × Int)) (v_r321 : ((Fin 8 → S_table_Node) × Int)) (v_r340 : ((Fin 8 → S_table_Node) × Int)) (v_r365 : ((Fin 8 → S_table_Node) × Int)) (v_r378 : (Int × Int × Int)) (v_r461 : (Int)) (v_t1 : (Fin 8 → S_table_Node)) (v_x3 : S_entry_Entry) : G_ringlaw2_TableTells_C11_R → PS
  | .x0 v_set768 => ⟨[dd, .d (.v (.int .i64 v_p2)), dd, .d (.v (.int .i64 v_k4)), .ref 0 0, dd, .ref 1 0, dd, dd, .ref 2 0, .d (.v (.int .i64 v_r267.2)), .ref 3 0, .d (.v (.int .i64 v_r321.2)), .ref 4 0, .d (.v (.int .i64 v_r340.2)), .ref 5 0, .d (.v (.int .i64 v_r365.2)), .d (.v (.int .i64 v_r378.1)), .d (.v (.int .i64 v_r378.2.1)), .d (.v (.int .i64 v_r378.2.2)), .d (.v (.int .i64 v_r461)), .d (.clo 33 []), .d (.v (.int .i64 v_r461)), .d (.v (.int .i64 v_set768)), .d (.v (.int .i64 v_r461)), dd, dd, dd, dd, dd, dd, dd, dd, dd, dd, dd, dd, dd, dd, dd, dd, dd, dd, dd, dd, dd, dd, dd, dd, dd, dd, dd, dd, dd, dd, dd, dd, dd, dd, dd, dd, dd, dd, dd, dd, dd, dd, dd, dd, dd, dd, dd, dd, dd, dd, dd, dd, dd, dd, dd, dd, dd, dd, dd, dd, dd, dd, dd, dd, dd, dd, dd, dd, dd, dd, dd, dd, dd, dd, dd, dd, dd, dd, dd, dd, dd, dd, dd, dd, dd, dd, dd, dd, dd, dd, dd, dd, dd, dd, dd, dd, dd, dd, dd, dd, dd, dd, dd, dd, dd, dd, dd, dd, dd, dd, dd, dd, dd, dd, dd, dd, dd, dd, dd, dd, dd, dd, dd, dd, dd, dd, dd, dd, dd, dd, dd, dd, dd, dd, dd, dd, dd, dd, dd, dd, dd, dd, dd, dd, dd, dd, dd, dd, dd, dd, dd, dd, dd, dd, dd, dd, dd, dd, dd, dd, dd, dd, dd, dd, dd, dd, dd, dd, dd, dd, dd, dd, dd, dd, dd, dd, dd, dd, dd, dd, dd, dd, dd, dd, dd, dd, dd, dd, dd, dd, dd, dd, dd, dd, dd, dd, dd, dd, dd, dd, dd, dd, dd, dd, dd, dd, dd, dd, dd, dd, dd, dd, dd, dd, dd, dd, dd, dd, dd, dd, dd, dd, dd, dd, dd, dd, dd, dd, dd, dd, dd, dd, dd, dd, dd, dd, dd, dd, dd, dd, dd, dd, dd, dd, dd, dd, dd, dd, dd, dd, dd, dd, dd, dd, dd, dd, dd, dd, dd, dd, dd, dd, dd, dd, dd, dd, dd, dd, dd, dd, dd, dd, dd, dd, dd, dd, dd, dd, dd, dd, dd, dd, dd, dd, dd, dd, dd, dd, dd, dd], [.box ((cA_t49 v_t1).map FV.d), .box [.d (.v (.bool v_x3.fHere)), .d (.v (.bool v_x3.fSlot)), .d (.v (.int .i64 v_x3.fAt)), .d (.v (.int .i64 v_x3.fRights)), .d (.v (.bool v_x3.fUsed)), .d (.v (.bool v_x3.fDirty)), .d (.v (.bool v_x3.fCopy))], .box [.d (.v (.bool v_r267.1.fHere)), .d (.v (.bool v_r267.1.fSlot)), .d (.v (.int .i64 v_r267.1.fAt)), .d (.v (.int .i64 v_r267.1.fRights)), .d (.v (.bool v_r267.1.fUsed)), .d (.v (.bool v_r267.1.fDirty)), .d (.v (.bool v_r267.1.fCopy))], .box ((cA_t49 v_r321.1).map FV.d), .box ((cA_t49 v_r340.1).map FV.d), .box ((cA_t49 v_r365.1).map FV.d)]⟩
def G_ringlaw2_TableTells_C11_hd (v_p2 : Int) (v_k4 : Int) (v_r267 : (S_entry_Entry × Int)) (v_r321 : ((Fin 8 → S_table_Node) × Int)) (v_r340 : ((Fin 8 → S_table_Node) × Int)) (v_r365 : ((Fin 8 → S_table_Node) × Int)) (v_r378 : (Int × Int × Int)) (v_r461 : (Int)) (v_t1 : (Fin 8 → S_table_Node)) (v_x3 : S_entry_Entry)  : PS := ⟨[dd, .d (.v (.int .i64 v_p2)), dd, .d (.v (.int .i64 v_k4)), .ref 0 0, dd, .ref 1 0, dd, dd, .ref 2 0, .d (.v (.int .i64 v_r267.2)), .ref 3 0, .d (.v (.int .i64 v_r321.2)), .ref 4 0, .d (.v (.int .i64 v_r340.2)), .ref 5 0, .d (.v (.int .i64 v_r365.2)), .d (.v (.int .i64 v_r378.1)), .d (.v (.int .i64 v_r378.2.1)), .d (.v (.int .i64 v_r378.2.2)), .d (.v (.int .i64 v_r461)), .d (.clo 33 []), .d (.v (.int .i64 v_r461)), .d (.v (.int .i64 v_r461)), .d (.v (.int .i64 v_r461)), dd, dd, dd, dd, dd, dd, dd, dd, dd, dd, dd, dd, dd, dd, dd, dd, dd, dd, dd, dd, dd, dd, dd, dd, dd, dd, dd, dd, dd, dd, dd, dd, dd, dd, dd, dd, dd, dd, dd, dd, dd, dd, dd, dd, dd, dd, dd, dd, dd, dd, dd, dd, dd, dd, .d (.v (.bool (v_r461 == 0))), dd, dd, dd, dd, dd, dd, dd, dd, dd, dd, dd, dd, dd, dd, dd, dd, dd, dd, dd, dd, dd, dd, dd, dd, dd, dd, dd, dd, dd, dd, dd, dd, dd, dd, dd, dd, dd, dd, dd, dd, dd, dd, dd, dd, dd, dd, dd, dd, dd, dd, dd, dd, dd, dd, dd, dd, dd, dd, dd, dd, dd, dd, dd, dd, dd, dd, dd, dd, dd, dd, dd, dd, dd, dd, dd, dd, dd, dd, dd, dd, dd, dd, dd, dd, dd, dd, dd, dd, dd, dd, dd, dd, dd, dd, dd, dd, dd, dd, dd, dd, dd, dd, dd, dd, dd, dd, dd, dd, dd, dd, dd, dd, dd, dd, dd, dd, dd, dd, dd, dd, dd, dd, dd, dd, dd, dd, dd, dd, dd, dd, dd, dd, dd, dd, dd, dd, dd, dd, dd, dd, dd, dd, dd, dd, dd, dd, dd, dd, dd, dd, dd, dd, dd, dd, dd, dd, dd, dd, dd, dd, dd, dd, dd, dd, dd, dd, dd, dd, dd, dd, dd, dd, dd, dd, dd, dd, dd, dd, dd, dd, dd, dd, dd, dd, dd, dd, dd, dd, dd, dd, dd, dd, dd, dd, dd, dd, dd, dd, dd, dd, dd, dd, dd, dd, dd, dd, dd, dd, dd, dd, dd, dd, dd, dd, dd, dd, dd, dd, dd, dd, dd, dd, dd, dd, dd, dd, dd, dd, dd, dd, dd, dd, dd, dd, dd], [.box ((cA_t49 v_t1).map FV.d), .box [.d (.v (.bool v_x3.fHere)), .d (.v (.bool v_x3.fSlot)), .d (.v (.int .i64 v_x3.fAt)), .d (.v (.int .i64 v_x3.fRights)), .d (.v (.bool v_x3.fUsed)), .d (.v (.bool v_x3.fDirty)), .d (.v (.bool v_x3.fCopy))], .box [.d (.v (.bool v_r267.1.fHere)), .d (.v (.bool v_r267.1.fSlot)), .d (.v (.int .i64 v_r267.1.fAt)), .d (.v (.int .i64 v_r267.1.fRights)), .d (.v (.bool v_r267.1.fUsed)), .d (.v (.bool v_r267.1.fDirty)), .d (.v (.bool v_r267.1.fCopy))], .box ((cA_t49 v_r321.1).map FV.d), .box ((cA_t49 v_r340.1).map FV.d), .box ((cA_t49 v_r365.1).map FV.d)]⟩
def G_ringlaw2_TableTells_C11 (n : Nat) (v_p2 : Int) (v_k4 : Int) (v_r267 : (S_entry_Entry × Int)) (v_r321 : ((Fin 8 → S_table_Node) × Int)) (v_r340 : ((Fin 8 → S_table_Node) × Int)) (v_r365 : ((Fin 8 → S_table_Node) × Int)) (v_r378 : (Int × Int × Int)) (v_r461 : (Int)) (v_t1 : (Fin 8 → S_table_Node)) (v_x3 : S_entry_Entry) : Option G_ringlaw2_TableTells_C11_R :=
  if v_r461 = 0 then
   (G_ringref2_Entries n v_x3).bind fun (v_r767 : (Int)) =>
   some (.x0 v_r767)
  else
   some (.x0 v_r461)
theorem G_ringlaw2_TableTells_C11_ok {Fi : Ex → PS → Prop} (hF : KC 315 Fi) (ks : List Fr) (n : Nat) (v_p2 : Int) (v_k4 : Int) (v_r267 : (S_entry_Entry × Int)) (v_r321 : ((Fin 8 → S_table_Node) × Int)) (v_r340 : ((Fin 8 → S_table_Node) × Int)) (v_r365 : ((Fin 8 → S_table_Node) × Int)) (v_r378 : (Int × Int × Int)) (v_r461 : (Int)) (v_t1 : (Fin 8 → S_table_Node)) (v_x3 : S_entry_Entry)  (o : G_ringlaw2_TableTells_C11_R) (h : G_ringlaw2_TableTells_C11 n v_p2 v_k4 v_r267 v_r321 v_r340 v_r365 v_r378 v_r461 v_t1 v_x3 = some o) (q : RunE Try.prog 315 Fi ks (G_ringlaw2_TableTells_C11_ex o) (G_ringlaw2_TableTells_C11_st v_p2 v_k4 v_r267 v_r321 v_r340 v_r365 v_r378 v_r461 v_t1 v_x3 o)) : RunE Try.prog 315 Fi (.s (cR (cL (cR (cR (cR (cR (cR (cR (cR (cR (cR (cR (cR (bodyOf Try.f5)))))))))))))) :: ks) .normal (G_ringlaw2_TableTells_C11_hd v_p2 v_k4 v_r267 v_r321 v_r340 v_r365 v_r378 v_r461 v_t1 v_x3) := by
  unfold G_ringlaw2_TableTells_C11 at h
  by_cases h1025 : v_r461 = 0
  · rw [if_pos h1025] at h
    obtain ⟨v_r767, h1026, h⟩ := bind_some h
    cases h
    exact pkk_sound TTok mix hF 2 (hs := [.t true, .c, .r ((eI .i64) v_r767)]) (ts := []) (s := [0, 1, 2, 3, 4, 5]) (l := [1, 3, 4, 6, 9, 10, 11, 12, 13, 14, 15, 16, 17, 18, 19, 20, 21, 22, 23, 24]) (by kernel_rfl) (by kernel_rfl) (.cons (bt h1025) (.cons (G_ringref2_Entries_ok n v_x3 _ h1026) .nil)) q
  · rw [if_neg h1025] at h
    cases h
    exact pkk_sound TTok mix hF 2 (hs := [.t false]) (ts := []) (s := [0, 1, 2, 3, 4, 5]) (l := [1, 3, 4, 6, 9, 10, 11, 12, 13, 14, 15, 16, 17, 18, 19, 20, 21, 22, 23, 24]) (by kernel_rfl) (by kernel_rfl) (.cons (bf h1025) .nil) q
inductive G_ringlaw2_TableTells_C12_R where
  | x0 (v_x775 : Bool)
def G_ringlaw2_TableTells_C12_ex : G_ringlaw2_TableTells_C12_R → Ex
  | .x0 _ => .normal
def G_ringlaw2_TableTells_C12_st (v_p2 : Int) (v_k4 : Int) (v_r267 : (S_entry_Entry × Int)) (v_r321 : ((Fin 8 → S_table_Node) × Int)) (v_r340 : ((Fin 8 → S_table_Node) × Int)) (v_r365 : ((Fin 8 → S_table_Node) × Int)) (v_r378 : (Int × Int × Int)) (v_r461 : (Int)) (v_z771 : Int) (v_t1 : (Fin 8 → S_table_Node)) (v_x3 : S_entry_Entry) : G_ringlaw2_TableTells_C12_R → PS
  | .x0 v_x775 => ⟨[dd, .d (.v (.int .i64 v_p2)), dd, .d (.v (.int .i64 v_k4)), .ref 0 0, dd, .ref 1 0, dd, dd, .ref 2 0, dd, .ref 3 0, dd, .ref 4 0, .d (.v (.int .i64 v_r340.2)), .ref 5 0, .d (.v (.int .i64 v_r365.2)), .d (.v (.int .i64 v_r378.1)), .d (.v (.int .i64 v_r378.2.1)), dd, .d (.v (.int .i64 v_r461)), .d (.clo 33 []), .d (.v (.int .i64 v_r461)), .d (.v (.int .i64 v_z771)), .d (.v (.int .i64 1)), dd, dd, dd, dd, dd, dd, dd, dd, dd, dd, dd, dd, dd, dd, dd, dd, dd, dd, dd, dd, dd, dd, dd, dd, dd, dd, dd, dd, dd, dd, dd, dd, dd, dd, dd, dd, dd, dd, dd, dd, dd, dd, dd, dd, dd, dd, dd, dd, dd, dd, dd, dd, dd, dd, dd, dd, dd, dd, dd, dd, dd, dd, dd, dd, dd, dd, dd, dd, dd, dd, dd, dd, dd, dd, dd, dd, dd, dd, dd, dd, dd, dd, dd, dd, dd, dd, dd, dd, dd, dd, dd, dd, dd, dd, dd, dd, dd, dd, dd, dd, dd, dd, dd, dd, dd, .d (.v (.bool v_x775)), dd, dd, dd, dd, dd, dd, dd, dd, dd, dd, dd, dd, dd, dd, dd, dd, dd, dd, dd, dd, dd, dd, dd, dd, dd, dd, dd, dd, dd, dd, dd, dd, dd, dd, dd, dd, dd, dd, dd, dd, dd, dd, dd, dd, dd, dd, dd, dd, dd, dd, dd, dd, dd, dd, dd, dd, dd, dd, dd, dd, dd, dd, dd, dd, dd, dd, dd, dd, dd, dd, dd, dd, dd, dd, dd, dd, dd, dd, dd, dd, dd, dd, dd, dd, dd, dd, dd, dd, dd, dd, dd, dd, dd, dd, dd, dd, dd, dd, dd, dd, dd, dd, dd, dd, dd, dd, dd, dd, dd, dd, dd, dd, dd, dd, dd, dd, dd, dd, dd, dd, dd, dd, dd, dd, dd, dd, dd, dd, dd, dd, dd, dd, dd, dd, dd, dd, dd, dd, dd, dd, dd, dd, dd, dd, dd, dd, dd, dd, dd, dd, dd, dd, dd, dd, dd, dd, dd, dd, dd, dd, dd, dd, dd, dd, dd, dd, dd, dd, dd, dd, dd, dd, dd, dd, dd, dd, dd, dd, dd, dd, dd, dd, dd, dd], [.box ((cA_t49 v_t1).map FV.d), .box [.d (.v (.bool v_x3.fHere)), .d (.v (.bool v_x3.fSlot)), .d (.v (.int .i64 v_x3.fAt)), .d (.v (.int .i64 v_x3.fRights)), .d (.v (.bool v_x3.fUsed)), .d (.v (.bool v_x3.fDirty)), .d (.v (.bool v_x3.fCopy))], .box [.d (.v (.bool v_r267.1.fHere)), .d (.v (.bool v_r267.1.fSlot)), .d (.v (.int .i64 v_r267.1.fAt)), .d (.v (.int .i64 v_r267.1.fRights)), .d (.v (.bool v_r267.1.fUsed)), .d (.v (.bool v_r267.1.fDirty)), .d (.v (.bool v_r267.1.fCopy))], .box ((cA_t49 v_r321.1).map FV.d), .box ((cA_t49 v_r340.1).map FV.d), .box ((cA_t49 v_r365.1).map FV.d)]⟩
def G_ringlaw2_TableTells_C12_hd (v_p2 : Int) (v_k4 : Int) (v_r267 : (S_entry_Entry × Int)) (v_r321 : ((Fin 8 → S_table_Node) × Int)) (v_r340 : ((Fin 8 → S_table_Node) × Int)) (v_r365 : ((Fin 8 → S_table_Node) × Int)) (v_r378 : (Int × Int × Int)) (v_r461 : (Int)) (v_z771 : Int) (v_t1 : (Fin 8 → S_table_Node)) (v_x3 : S_entry_Entry)  : PS := ⟨[dd, .d (.v (.int .i64 v_p2)), dd, .d (.v (.int .i64 v_k4)), .ref 0 0, dd, .ref 1 0, dd, dd, .ref 2 0, .d (.v (.int .i64 v_r267.2)), .ref 3 0, .d (.v (.int .i64 v_r321.2)), .ref 4 0, .d (.v (.int .i64 v_r340.2)), .ref 5 0, .d (.v (.int .i64 v_r365.2)), .d (.v (.int .i64 v_r378.1)), .d (.v (.int .i64 v_r378.2.1)), .d (.v (.int .i64 v_r378.2.2)), .d (.v (.int .i64 v_r461)), .d (.clo 33 []), .d (.v (.int .i64 v_r461)), .d (.v (.int .i64 v_z771)), .d (.v (.int .i64 1)), dd, dd, dd, dd, dd, dd, dd, dd, dd, dd, dd, dd, dd, dd, dd, dd, dd, dd, dd, dd, dd, dd, dd, dd, dd, dd, dd, dd, dd, dd, dd, dd, dd, dd, dd, dd, dd, dd, dd, dd, dd, dd, dd, dd, dd, dd, dd, dd, dd, dd, dd, dd, dd, dd, dd, dd, dd, dd, dd, dd, dd, dd, dd, dd, dd, dd, dd, dd, dd, dd, dd, dd, dd, dd, dd, dd, dd, dd, dd, dd, dd, dd, dd, dd, dd, dd, dd, dd, dd, dd, dd, dd, dd, dd, dd, dd, dd, dd, dd, dd, dd, dd, dd, dd, dd, dd, dd, dd, dd, dd, dd, dd, dd, dd, dd, dd, dd, dd, dd, dd, dd, dd, dd, dd, dd, dd, dd, dd, dd, dd, dd, dd, dd, dd, dd, dd, dd, dd, dd, dd, dd, dd, dd, dd, dd, dd, dd, dd, dd, dd, dd, dd, dd, dd, dd, dd, dd, dd, dd, dd, dd, dd, dd, dd, dd, dd, dd, dd, dd, dd, dd, dd, dd, dd, dd, dd, dd, dd, dd, dd, dd, dd, dd, dd, dd, dd, dd, dd, dd, dd, dd, dd, dd, dd, dd, dd, dd, dd, dd, dd, dd, dd, dd, dd, dd, dd, dd, dd, dd, dd, dd, dd, dd, dd, dd, dd, dd, dd, dd, dd, dd, dd, dd, dd, dd, dd, dd, dd, dd, dd, dd, dd, dd, dd, dd, dd, dd, dd, dd, dd, dd, dd, dd, dd, dd, dd, dd, dd, dd, dd, dd, dd, dd, dd, dd, dd, dd, dd, dd, dd, dd, dd, dd, dd, dd, dd, dd, dd, dd, dd, dd, dd, dd, dd, dd, dd, dd, dd, dd, dd, dd, dd, dd, dd, dd, dd, dd, dd, dd, dd], [.box ((cA_t49 v_t1).map FV.d), .box [.d (.v (.bool v_x3.fHere)), .d (.v (.bool v_x3.fSlot)), .d (.v (.int .i64 v_x3.fAt)), .d (.v (.int .i64 v_x3.fRights)), .d (.v (.bool v_x3.fUsed)), .d (.v (.bool v_x3.fDirty)), .d (.v (.bool v_x3.fCopy))], .box [.d (.v (.bool v_r267.1.fHere)), .d (.v (.bool v_r267.1.fSlot)), .d (.v (.int .i64 v_r267.1.fAt)), .d (.v (.int .i64 v_r267.1.fRights)), .d (.v (.bool v_r267.1.fUsed)), .d (.v (.bool v_r267.1.fDirty)), .d (.v (.bool v_r267.1.fCopy))], .box ((cA_t49 v_r321.1).map FV.d), .box ((cA_t49 v_r340.1).map FV.d), .box ((cA_t49 v_r365.1).map FV.d)]⟩
def G_ringlaw2_TableTells_C12 (n : Nat) (v_p2 : Int) (v_k4 : Int) (v_r267 : (S_entry_Entry × Int)) (v_r321 : ((Fin 8 → S_table_Node) × Int)) (v_r340 : ((Fin 8 → S_table_Node) × Int)) (v_r365 : ((Fin 8 → S_table_Node) × Int)) (v_r378 : (Int × Int × Int)) (v_r461 : (Int)) (v_z771 : Int) (v_t1 : (Fin 8 → S_table_Node)) (v_x3 : S_entry_Entry) : Option G_ringlaw2_TableTells_C12_R :=
  if v_r267.2 = v_r461 then
   if v_r321.2 = v_z771 then
    if v_r378.2.2 = v_r461 then
     if v_r461 = 0 then
      if v_z771 = 0 then
       some (.x0 false)
      else
       (G_ringlaw2_TableTells_1 n v_r321.1).bind fun (v_r783 : (Bool)) =>
       if v_r783 = true then
        some (.x0 false)
       else
        some (.x0 true)
     else
      if (eqRes .neq (eqS_entry_Entry v_r267.1 (S_entry_Entry.mk false false 0 0 false false false))) = true then
       some (.x0 true)
      else
       if v_z771 = 0 then
        some (.x0 ((wi .i64 (v_r378.1 + v_r378.2.1)) != 0))
       else
        (G_ringlaw2_TableTells_1 n v_r321.1).bind fun (v_r779 : (Bool)) =>
        if v_r779 = true then
         some (.x0 ((wi .i64 (v_r378.1 + v_r378.2.1)) != 0))
        else
         some (.x0 true)
    else
     some (.x0 true)
   else
    some (.x0 true)
  else
   some (.x0 true)
theorem G_ringlaw2_TableTells_C12_ok {Fi : Ex → PS → Prop} (hF : KC 315 Fi) (ks : List Fr) (n : Nat) (v_p2 : Int) (v_k4 : Int) (v_r267 : (S_entry_Entry × Int)) (v_r321 : ((Fin 8 → S_table_Node) × Int)) (v_r340 : ((Fin 8 → S_table_Node) × Int)) (v_r365 : ((Fin 8 → S_table_Node) × Int)) (v_r378 : (Int × Int × Int)) (v_r461 : (Int)) (v_z771 : Int) (v_t1 : (Fin 8 → S_table_Node)) (v_x3 : S_entry_Entry)  (o : G_ringlaw2_TableTells_C12_R) (h : G_ringlaw2_TableTells_C12 n v_p2 v_k4 v_r267 v_r321 v_r340 v_r365 v_r378 v_r461 v_z771 v_t1 v_x3 = some o) (q : RunE Try.prog 315 Fi ks (G_ringlaw2_TableTells_C12_ex o) (G_ringlaw2_TableTells_C12_st v_p2 v_k4 v_r267 v_r321 v_r340 v_r365 v_r378 v_r461 v_z771 v_t1 v_x3 o)) : RunE Try.prog 315 Fi (.s (cL (cL (cR (cR (cR (cR (cR (cR (cR (cR (cR (cR (cR (cR (cR (bodyOf Try.f5)))))))))))))))) :: ks) .normal (G_ringlaw2_TableTells_C12_hd v_p2 v_k4 v_r267 v_r321 v_r340 v_r365 v_r378 v_r461 v_z771 v_t1 v_x3) := by
  unfold G_ringlaw2_TableTells_C12 at h
  by_cases h1041 : v_r267.2 = v_r461
  · rw [if_pos h1041] at h
    by_cases h1042 : v_r321.2 = v_z771
    · rw [if_pos h1042] at h
      by_cases h1043 : v_r378.2.2 = v_r461
      · rw [if_pos h1043] at h
        by_cases h1044 : v_r461 = 0
        · rw [if_pos h1044] at h
          by_cases h1049 : v_z771 = 0
          · rw [if_pos h1049] at h
            cases h
            exact pkk_sound TTok mix hF 1 (hs := [.t false, .c, .c, .t false, .c, .c, .t false, .c, .c, .t false, .c, .c, .c, .c, .c, .c, .t false, .c, .c, .c, .c, .c, .c, .c, .t false, .c, .c, .c, .c]) (ts := []) (s := [0, 1, 2, 3, 4, 5]) (l := [1, 3, 4, 6, 9, 11, 13, 14, 15, 16, 17, 18, 20, 21, 22, 23, 24, 130]) (by kernel_rfl) (by kernel_rfl) (.cons (nf h1041) (.cons (nf h1042) (.cons (nf h1043) (.cons (nf h1044) (.cons (nf h1049) (.cons (nf h1044) .nil)))))) q
          · rw [if_neg h1049] at h
            obtain ⟨v_r783, h1050, h⟩ := bind_some h
            by_cases h1051 : v_r783 = true
            · rw [if_pos h1051] at h
              cases h
              exact pkk_sound TTok mix hF 1 (hs := [.t false, .c, .c, .t false, .c, .c, .t false, .c, .c, .t false, .c, .c, .c, .c, .c, .c, .t true, .c, .c, .c, .r (eB v_r783), .c, .c, .t false, .c, .c, .t false, .c, .c, .c, .c]) (ts := []) (s := [0, 1, 2, 3, 4, 5]) (l := [1, 3, 4, 6, 9, 11, 13, 14, 15, 16, 17, 18, 20, 21, 22, 23, 24, 130]) (by kernel_rfl) (by kernel_rfl) (.cons (nf h1041) (.cons (nf h1042) (.cons (nf h1043) (.cons (nf h1044) (.cons (nt h1049) (.cons (G_ringlaw2_TableTells_1_ok n v_r321.1 _ h1050) (.cons (bnf h1051) (.cons (nf h1044) .nil)))))))) q
            · rw [if_neg h1051] at h
              cases h
              exact pkk_sound TTok mix hF 1 (hs := [.t false, .c, .c, .t false, .c, .c, .t false, .c, .c, .t false, .c, .c, .c, .c, .c, .c, .t true, .c, .c, .c, .r (eB v_r783), .c, .c, .t true, .c, .c, .c]) (ts := []) (s := [0, 1, 2, 3, 4, 5]) (l := [1, 3, 4, 6, 9, 11, 13, 14, 15, 16, 17, 18, 20, 21, 22, 23, 24, 130]) (by kernel_rfl) (by kernel_rfl) (.cons (nf h1041) (.cons (nf h1042) (.cons (nf h1043) (.cons (nf h1044) (.cons (nt h1049) (.cons (G_ringlaw2_TableTells_1_ok n v_r321.1 _ h1050) (.cons (bnt (vf h1051)) .nil))))))) q
        · rw [if_neg h1044] at h
          by_cases h1045 : (eqRes .neq (eqS_entry_Entry v_r267.1 (S_entry_Entry.mk false false 0 0 false false false))) = true
          · rw [if_pos h1045] at h
            cases h
            exact pkk_sound TTok mix hF 1 (hs := [.t false, .c, .c, .t false, .c, .c, .t false, .c, .c, .t true, .c, .c, .c, .q (eqS_entry_Entry v_r267.1 (S_entry_Entry.mk false false 0 0 false false false)), .c, .t true, .c, .c, .c, .c, .c, .c, .c]) (ts := []) (s := [0, 1, 2, 3, 4, 5]) (l := [1, 3, 4, 6, 9, 11, 13, 14, 15, 16, 17, 18, 20, 21, 22, 23, 24, 130]) (by kernel_rfl) (by kernel_rfl) (.cons (nf h1041) (.cons (nf h1042) (.cons (nf h1043) (.cons (nt h1044) (.cons (eqS_entry_Entry_ok v_r267.1 (S_entry_Entry.mk false false 0 0 false false false)) (.cons h1045 .nil)))))) q
          · rw [if_neg h1045] at h
            by_cases h1046 : v_z771 = 0
            · rw [if_pos h1046] at h
              cases h
              exact pkk_sound TTok mix hF 1 (hs := [.t false, .c, .c, .t false, .c, .c, .t false, .c, .c, .t true, .c, .c, .c, .q (eqS_entry_Entry v_r267.1 (S_entry_Entry.mk false false 0 0 false false false)), .c, .t false, .c, .c, .t false, .c, .c, .c, .c, .c, .c, .c, .t true, .c, .c, .c, .c]) (ts := []) (s := [0, 1, 2, 3, 4, 5]) (l := [1, 3, 4, 6, 9, 11, 13, 14, 15, 16, 17, 18, 20, 21, 22, 23, 24, 130]) (by kernel_rfl) (by kernel_rfl) (.cons (nf h1041) (.cons (nf h1042) (.cons (nf h1043) (.cons (nt h1044) (.cons (eqS_entry_Entry_ok v_r267.1 (S_entry_Entry.mk false false 0 0 false false false)) (.cons (vf h1045) (.cons (nf h1046) (.cons (nt h1044) .nil)))))))) q
            · rw [if_neg h1046] at h
              obtain ⟨v_r779, h1047, h⟩ := bind_some h
              by_cases h1048 : v_r779 = true
              · rw [if_pos h1048] at h
                cases h
                exact pkk_sound TTok mix hF 1 (hs := [.t false, .c, .c, .t false, .c, .c, .t false, .c, .c, .t true, .c, .c, .c, .q (eqS_entry_Entry v_r267.1 (S_entry_Entry.mk false false 0 0 false false false)), .c, .t false, .c, .c, .t true, .c, .c, .c, .r (eB v_r779), .c, .c, .t false, .c, .c, .t true, .c, .c, .c, .c]) (ts := []) (s := [0, 1, 2, 3, 4, 5]) (l := [1, 3, 4, 6, 9, 11, 13, 14, 15, 16, 17, 18, 20, 21, 22, 23, 24, 130]) (by kernel_rfl) (by kernel_rfl) (.cons (nf h1041) (.cons (nf h1042) (.cons (nf h1043) (.cons (nt h1044) (.cons (eqS_entry_Entry_ok v_r267.1 (S_entry_Entry.mk false false 0 0 false false false)) (.cons (vf h1045) (.cons (nt h1046) (.cons (G_ringlaw2_TableTells_1_ok n v_r321.1 _ h1047) (.cons (bnf h1048) (.cons (nt h1044) .nil)))))))))) q
              · rw [if_neg h1048] at h
                cases h
                exact pkk_sound TTok mix hF 1 (hs := [.t false, .c, .c, .t false, .c, .c, .t false, .c, .c, .t true, .c, .c, .c, .q (eqS_entry_Entry v_r267.1 (S_entry_Entry.mk false false 0 0 false false false)), .c, .t false, .c, .c, .t true, .c, .c, .c, .r (eB v_r779), .c, .c, .t true, .c, .c, .c]) (ts := []) (s := [0, 1, 2, 3, 4, 5]) (l := [1, 3, 4, 6, 9, 11, 13, 14, 15, 16, 17, 18, 20, 21, 22, 23, 24, 130]) (by kernel_rfl) (by kernel_rfl) (.cons (nf h1041) (.cons (nf h1042) (.cons (nf h1043) (.cons (nt h1044) (.cons (eqS_entry_Entry_ok v_r267.1 (S_entry_Entry.mk false false 0 0 false false false)) (.cons (vf h1045) (.cons (nt h1046) (.cons (G_ringlaw2_TableTells_1_ok n v_r321.1 _ h1047) (.cons (bnt (vf h1048)) .nil))))))))) q
      · rw [if_neg h1043] at h
        cases h
        exact pkk_sound TTok mix hF 1 (hs := [.t false, .c, .c, .t false, .c, .c, .t true, .c, .c, .c, .c, .c, .c, .c, .c, .c, .c, .c]) (ts := []) (s := [0, 1, 2, 3, 4, 5]) (l := [1, 3, 4, 6, 9, 11, 13, 14, 15, 16, 17, 18, 20, 21, 22, 23, 24, 130]) (by kernel_rfl) (by kernel_rfl) (.cons (nf h1041) (.cons (nf h1042) (.cons (nt h1043) .nil))) q
    · rw [if_neg h1042] at h
      cases h
      exact pkk_sound TTok mix hF 1 (hs := [.t false, .c, .c, .t true, .c, .c, .c, .c, .c, .c, .c, .c, .c, .c, .c, .c, .c, .c]) (ts := []) (s := [0, 1, 2, 3, 4, 5]) (l := [1, 3, 4, 6, 9, 11, 13, 14, 15, 16, 17, 18, 20, 21, 22, 23, 24, 130]) (by kernel_rfl) (by kernel_rfl) (.cons (nf h1041) (.cons (nt h1042) .nil)) q
  · rw [if_neg h1041] at h
    cases h
    exact pkk_sound TTok mix hF 1 (hs := [.t true, .c, .c, .c, .c, .c, .c, .c, .c, .c, .c, .c, .c, .c, .c, .c, .c, .c]) (ts := []) (s := [0, 1, 2, 3, 4, 5]) (l := [1, 3, 4, 6, 9, 11, 13, 14, 15, 16, 17, 18, 20, 21, 22, 23, 24, 130]) (by kernel_rfl) (by kernel_rfl) (.cons (nt h1041) .nil) q
inductive G_ringlaw2_TableTells_L13_R where
  | x0 (v_n805 : Int) (v_all806 : Int)
def G_ringlaw2_TableTells_L13_ex : G_ringlaw2_TableTells_L13_R → Ex
  | .x0 _ _ => .exit 0
def G_ringlaw2_TableTells_L13_st (v_p2 : Int) (v_k4 : Int) (v_r340 : ((Fin 8 → S_table_Node) × Int)) (v_r365 : ((Fin 8 → S_table_Node) × Int)) (v_r378 : (Int × Int × Int)) (v_r461 : (Int)) (v_z771 : Int) (v_t1 : (Fin 8 → S_table_Node)) (v_x3 : S_entry_Entry) (v_r267 : (S_entry_Entry × Int)) (v_r321 : ((Fin 8 → S_table_Node) × Int)) (v_r799 : ((Fin 64 → S_entry_Entry))) : G_ringlaw2_TableTells_L13_R → PS
  | .x0 v_n805 v_all806 => ⟨[dd, .d (.v (.int .i64 v_p2)), dd, .d (.v (.int .i64 v_k4)), .ref 0 0, dd, .ref 1 0, dd, dd, .ref 2 0, dd, .ref 3 0, dd, .ref 4 0, .d (.v (.int .i64 v_r340.2)), .ref 5 0, .d (.v (.int .i64 v_r365.2)), .d (.v (.int .i64 v_r378.1)), .d (.v (.int .i64 v_r378.2.1)), dd, dd, .d (.clo 33 []), .d (.v (.int .i64 v_r461)), .d (.v (.int .i64 v_z771)), .d (.v (.int .i64 1)), .ref 6 0, .d (.v (.int .i64 v_n805)), .d (.v (.int .i64 v_all806)), dd, dd, dd, dd, dd, dd, dd, dd, dd, dd, dd, dd, dd, dd, dd, dd, dd, dd, dd, dd, dd, dd, dd, dd, dd, dd, dd, dd, dd, dd, dd, dd, dd, dd, dd, dd, dd, dd, dd, dd, dd, dd, dd, dd, dd, dd, dd, dd, dd, dd, dd, dd, dd, dd, dd, dd, dd, dd, dd, dd, dd, dd, dd, dd, dd, dd, dd, dd, dd, dd, dd, dd, dd, dd, dd, dd, dd, dd, dd, dd, dd, dd, dd, dd, dd, dd, dd, dd, dd, dd, dd, dd, dd, dd, dd, dd, dd, dd, dd, dd, dd, dd, dd, dd, dd, dd, dd, dd, dd, dd, dd, dd, dd, dd, dd, dd, dd, dd, dd, dd, dd, dd, dd, dd, dd, dd, dd, dd, dd, dd, dd, dd, dd, dd, dd, dd, dd, dd, dd, dd, dd, dd, dd, dd, dd, dd, dd, dd, dd, dd, dd, dd, dd, dd, dd, dd, dd, dd, dd, dd, dd, dd, dd, dd, dd, dd, dd, dd, dd, dd, dd, dd, dd, dd, dd, dd, dd, dd, dd, dd, dd, dd, dd, dd, dd, dd, dd, dd, dd, dd, dd, dd, dd, dd, dd, dd, dd, dd, dd, dd, dd, dd, dd, dd, dd, dd, dd, dd, dd, dd, dd, dd, dd, dd, dd, dd, dd, dd, dd, dd, dd, dd, dd, dd, dd, dd, dd, dd, dd, dd, dd, dd, dd, dd, dd, dd, dd, dd, dd, dd, dd, dd, dd, dd, dd, dd, dd, dd, dd, dd, dd, dd, dd, dd, dd, dd, dd, dd, dd, dd, dd, dd, dd, dd, dd, dd, dd, dd, dd, dd, dd, dd, dd, dd, dd, dd, dd, dd, dd, dd, dd, dd, dd, dd, dd, dd, dd], [.box ((cA_t49 v_t1).map FV.d), .box [.d (.v (.bool v_x3.fHere)), .d (.v (.bool v_x3.fSlot)), .d (.v (.int .i64 v_x3.fAt)), .d (.v (.int .i64 v_x3.fRights)), .d (.v (.bool v_x3.fUsed)), .d (.v (.bool v_x3.fDirty)), .d (.v (.bool v_x3.fCopy))], .box [.d (.v (.bool v_r267.1.fHere)), .d (.v (.bool v_r267.1.fSlot)), .d (.v (.int .i64 v_r267.1.fAt)), .d (.v (.int .i64 v_r267.1.fRights)), .d (.v (.bool v_r267.1.fUsed)), .d (.v (.bool v_r267.1.fDirty)), .d (.v (.bool v_r267.1.fCopy))], .box ((cA_t49 v_r321.1).map FV.d), .box ((cA_t49 v_r340.1).map FV.d), .box ((cA_t49 v_r365.1).map FV.d), .box ((cA_t61 v_r799).map FV.d)]⟩
def G_ringlaw2_TableTells_L13_hd (v_p2 : Int) (v_k4 : Int) (v_r340 : ((Fin 8 → S_table_Node) × Int)) (v_r365 : ((Fin 8 → S_table_Node) × Int)) (v_r378 : (Int × Int × Int)) (v_r461 : (Int)) (v_z771 : Int) (v_t1 : (Fin 8 → S_table_Node)) (v_x3 : S_entry_Entry) (v_r267 : (S_entry_Entry × Int)) (v_r321 : ((Fin 8 → S_table_Node) × Int)) (v_r799 : ((Fin 64 → S_entry_Entry))) (v_n800 : Int) (v_all801 : Int) (v_x802 : Int) : PS := ⟨[dd, .d (.v (.int .i64 v_p2)), dd, .d (.v (.int .i64 v_k4)), .ref 0 0, dd, .ref 1 0, dd, dd, .ref 2 0, dd, .ref 3 0, dd, .ref 4 0, .d (.v (.int .i64 v_r340.2)), .ref 5 0, .d (.v (.int .i64 v_r365.2)), .d (.v (.int .i64 v_r378.1)), .d (.v (.int .i64 v_r378.2.1)), dd, dd, .d (.clo 33 []), .d (.v (.int .i64 v_r461)), .d (.v (.int .i64 v_z771)), .d (.v (.int .i64 1)), .ref 6 0, .d (.v (.int .i64 v_n800)), .d (.v (.int .i64 v_all801)), dd, dd, dd, dd, dd, dd, dd, dd, dd, dd, dd, dd, dd, dd, dd, dd, dd, dd, dd, dd, dd, dd, dd, dd, dd, dd, dd, dd, dd, dd, dd, dd, dd, dd, dd, dd, dd, dd, dd, dd, dd, dd, dd, dd, dd, dd, dd, dd, dd, dd, dd, dd, dd, dd, dd, dd, dd, dd, dd, dd, dd, dd, dd, dd, dd, dd, dd, dd, dd, dd, dd, dd, dd, dd, dd, dd, dd, dd, dd, dd, dd, dd, dd, dd, dd, dd, dd, dd, dd, dd, dd, dd, dd, dd, dd, dd, dd, dd, dd, dd, dd, dd, dd, dd, dd, dd, dd, dd, dd, dd, dd, dd, dd, dd, dd, dd, dd, dd, dd, dd, dd, dd, dd, dd, dd, .d (.agg (cA_t49 v_t1)), .d (.v (.int .i64 v_x802)), dd, dd, dd, dd, dd, dd, dd, dd, dd, dd, dd, dd, dd, dd, dd, dd, dd, dd, dd, dd, dd, dd, dd, dd, dd, dd, dd, dd, dd, dd, dd, dd, dd, dd, dd, dd, dd, dd, dd, dd, dd, dd, dd, dd, dd, dd, dd, dd, dd, dd, dd, dd, dd, dd, dd, dd, dd, dd, dd, dd, dd, dd, dd, dd, dd, dd, dd, dd, dd, dd, dd, dd, dd, dd, dd, dd, dd, dd, dd, dd, dd, dd, dd, dd, dd, dd, dd, dd, dd, dd, dd, dd, dd, dd, dd, dd, dd, dd, dd, dd, dd, dd, dd, dd, dd, dd, dd, dd, dd, dd, dd, dd, dd, dd, dd, dd, dd, dd, dd, dd, dd, dd, dd, dd, dd, dd, dd, dd, dd, dd, dd, dd, dd, dd, dd, dd, dd, dd, dd, dd, dd, dd, dd, dd, dd, dd, dd, dd, dd, dd, dd, dd, dd, dd, dd, dd, dd, dd, dd, dd], [.box ((cA_t49 v_t1).map FV.d), .box [.d (.v (.bool v_x3.fHere)), .d (.v (.bool v_x3.fSlot)), .d (.v (.int .i64 v_x3.fAt)), .d (.v (.int .i64 v_x3.fRights)), .d (.v (.bool v_x3.fUsed)), .d (.v (.bool v_x3.fDirty)), .d (.v (.bool v_x3.fCopy))], .box [.d (.v (.bool v_r267.1.fHere)), .d (.v (.bool v_r267.1.fSlot)), .d (.v (.int .i64 v_r267.1.fAt)), .d (.v (.int .i64 v_r267.1.fRights)), .d (.v (.bool v_r267.1.fUsed)), .d (.v (.bool v_r267.1.fDirty)), .d (.v (.bool v_r267.1.fCopy))], .box ((cA_t49 v_r321.1).map FV.d), .box ((cA_t49 v_r340.1).map FV.d), .box ((cA_t49 v_r365.1).map FV.d), .box ((cA_t61 v_r799).map FV.d)]⟩
def G_ringlaw2_TableTells_L13 (n : Nat) (v_p2 : Int) (v_k4 : Int) (v_r340 : ((Fin 8 → S_table_Node) × Int)) (v_r365 : ((Fin 8 → S_table_Node) × Int)) (v_r378 : (Int × Int × Int)) (v_r461 : (Int)) (v_z771 : Int) (v_t1 : (Fin 8 → S_table_Node)) (v_x3 : S_entry_Entry) (v_r267 : (S_entry_Entry × Int)) (v_r321 : ((Fin 8 → S_table_Node) × Int)) (v_r799 : ((Fin 64 → S_entry_Entry))) : Nat → Int → Int → Int → Option G_ringlaw2_TableTells_L13_R
  | 0, _, _, _ => none
  | k + 1, v_n800, v_all801, v_x802 =>
    if v_x802 < 8 then
     (getA v_t1 v_x802).bind fun (v_y804 : S_table_Node) =>
     if (v_y804.fEntries.length : Int) > 0 then
      G_ringlaw2_TableTells_L13 n v_p2 v_k4 v_r340 v_r365 v_r378 v_r461 v_z771 v_t1 v_x3 v_r267 v_r321 v_r799 k (wi .i64 (v_n800 + 1)) (wi .i64 (v_all801 + (v_y804.fEntries.length : Int))) (wi .i64 (v_x802 + 1))
     else
      G_ringlaw2_TableTells_L13 n v_p2 v_k4 v_r340 v_r365 v_r378 v_r461 v_z771 v_t1 v_x3 v_r267 v_r321 v_r799 k v_n800 (wi .i64 (v_all801 + (v_y804.fEntries.length : Int))) (wi .i64 (v_x802 + 1))
    else
     some (.x0 v_n800 v_all801)
theorem G_ringlaw2_TableTells_L13_ok {Fi : Ex → PS → Prop} (hF : KC 315 Fi) (ks : List Fr) (n : Nat) (v_p2 : Int) (v_k4 : Int) (v_r340 : ((Fin 8 → S_table_Node) × Int)) (v_r365 : ((Fin 8 → S_table_Node) × Int)) (v_r378 : (Int × Int × Int)) (v_r461 : (Int)) (v_z771 : Int) (v_t1 : (Fin 8 → S_table_Node)) (v_x3 : S_entry_Entry) (v_r267 : (S_entry_Entry × Int)) (v_r321 : ((Fin 8 → S_table_Node) × Int)) (v_r799 : ((Fin 64 → S_entry_Entry)))  : ∀ (k : Nat) (v_n800 : Int) (v_all801 : Int) (v_x802 : Int) (o : G_ringlaw2_TableTells_L13_R), G_ringlaw2_TableTells_L13 n v_p2 v_k4 v_r340 v_r365 v_r378 v_r461 v_z771 v_t1 v_x3 v_r267 v_r321 v_r799 k v_n800 v_all801 v_x802 = some o → RunE Try.prog 315 Fi ks (G_ringlaw2_TableTells_L13_ex o) (G_ringlaw2_TableTells_L13_st v_p2 v_k4 v_r340 v_r365 v_r378 v_r461 v_z771 v_t1 v_x3 v_r267 v_r321 v_r799 o) → RunE Try.prog 315 Fi (.l k (cP (cB (cR (cL (cR (cR (cR (cR (cR (cR (cR (cR (cR (cR (cR (cR (cR (cR (cR (cR (cR (bodyOf Try.f5)))))))))))))))))))))) :: ks) .normal (G_ringlaw2_TableTells_L13_hd v_p2 v_k4 v_r340 v_r365 v_r378 v_r461 v_z771 v_t1 v_x3 v_r267 v_r321 v_r799 v_n800 v_all801 v_x802)
  | 0, v_n800, v_all801, v_x802, o, h, q => by rw [G_ringlaw2_TableTells_L13] at h; cases h
  | k + 1, v_n800, v_all801, v_x802, o, h, q => by
    rw [G_ringlaw2_TableTells_L13] at h
    by_cases h1067 : v_x802 < 8
    · rw [if_pos h1067] at h
      obtain ⟨v_y804, h1071, h⟩ := bind_some h
      by_cases h1073 : (v_y804.fEntries.length : Int) > 0
      · rw [if_pos h1073] at h
        exact pkk_sound TTok mix hF 18 (hs := [.t true, .l (.d (.agg [.v (.bool v_y804.fHuge), .sl (v_y804.fEntries.map eS_entry_Entry)])), .c, .c, .u (.d (.v (.int .i64 (v_y804.fEntries.length : Int)))), .c, .u (.d (.v (.int .i64 (v_y804.fEntries.length : Int)))), .t true]) (ts := []) (s := [0, 1, 2, 3, 4, 5, 6]) (l := [1, 3, 4, 6, 9, 11, 13, 14, 15, 16, 17, 18, 21, 22, 23, 24, 25, 26, 27, 153, 154]) (by kernel_rfl) (by kernel_rfl) (.cons (dt h1067) (.cons (arr_idx (sz := 2) (g := (fun x => [.d (.v (.bool x.fHuge)), .d (.sl (x.fEntries.map eS_entry_Entry))])) (fun _ => rfl) h1071) (.cons (show 0 + 2 ≤ 2 by decide) (.cons (len_ob (f := eS_entry_Entry) (l := v_y804.fEntries)) (.cons (len_ob (f := eS_entry_Entry) (l := v_y804.fEntries)) (.cons (dt h1073) .nil)))))) (G_ringlaw2_TableTells_L13_ok hF ks n v_p2 v_k4 v_r340 v_r365 v_r378 v_r461 v_z771 v_t1 v_x3 v_r267 v_r321 v_r799 k (wi .i64 (v_n800 + 1)) (wi .i64 (v_all801 + (v_y804.fEntries.length : Int))) (wi .i64 (v_x802 + 1)) _ h q)
      · rw [if_neg h1073] at h
        exact pkk_sound TTok mix hF 18 (hs := [.t true, .l (.d (.agg [.v (.bool v_y804.fHuge), .sl (v_y804.fEntries.map eS_entry_Entry)])), .c, .c, .u (.d (.v (.int .i64 (v_y804.fEntries.length : Int)))), .c, .u (.d (.v (.int .i64 (v_y804.fEntries.length : Int)))), .t false]) (ts := []) (s := [0, 1, 2, 3, 4, 5, 6]) (l := [1, 3, 4, 6, 9, 11, 13, 14, 15, 16, 17, 18, 21, 22, 23, 24, 25, 26, 27, 153, 154]) (by kernel_rfl) (by kernel_rfl) (.cons (dt h1067) (.cons (arr_idx (sz := 2) (g := (fun x => [.d (.v (.bool x.fHuge)), .d (.sl (x.fEntries.map eS_entry_Entry))])) (fun _ => rfl) h1071) (.cons (show 0 + 2 ≤ 2 by decide) (.cons (len_ob (f := eS_entry_Entry) (l := v_y804.fEntries)) (.cons (len_ob (f := eS_entry_Entry) (l := v_y804.fEntries)) (.cons (df h1073) .nil)))))) (G_ringlaw2_TableTells_L13_ok hF ks n v_p2 v_k4 v_r340 v_r365 v_r378 v_r461 v_z771 v_t1 v_x3 v_r267 v_r321 v_r799 k v_n800 (wi .i64 (v_all801 + (v_y804.fEntries.length : Int))) (wi .i64 (v_x802 + 1)) _ h q)
    · rw [if_neg h1067] at h
      cases h
      exact pkk_sound TTok mix hF 8 (hs := [.t false]) (ts := []) (s := [0, 1, 2, 3, 4, 5, 6]) (l := [1, 3, 4, 6, 9, 11, 13, 14, 15, 16, 17, 18, 21, 22, 23, 24, 25, 26, 27]) (by kernel_rfl) (by kernel_rfl) (.cons (df h1067) .nil) q
inductive G_ringlaw2_TableTells_C14_R where
  | x0 (v_x812 : Bool)
def G_ringlaw2_TableTells_C14_ex : G_ringlaw2_TableTells_C14_R → Ex
  | .x0 _ => .normal
def G_ringlaw2_TableTells_C14_st (v_p2 : Int) (v_k4 : Int) (v_r340 : ((Fin 8 → S_table_Node) × Int)) (v_r365 : ((Fin 8 → S_table_Node) × Int)) (v_r378 : (Int × Int × Int)) (v_r461 : (Int)) (v_z771 : Int) (v_z808 : Int) (v_z809 : Int) (v_t1 : (Fin 8 → S_table_Node)) (v_x3 : S_entry_Entry) (v_r267 : (S_entry_Entry × Int)) (v_r321 : ((Fin 8 → S_table_Node) × Int)) (v_r799 : ((Fin 64 → S_entry_Entry))) : G_ringlaw2_TableTells_C14_R → PS
  | .x0 v_x812 => ⟨[dd, .d (.v (.int .i64 v_p2)), dd, .d (.v (.int .i64 v_k4)), .ref 0 0, dd, .ref 1 0, dd, dd, dd, dd, .ref 2 0, dd, .ref 3 0, .d (.v (.int .i64 v_r340.2)), .ref 4 0, .d (.v (.int .i64 v_r365.2)), dd, dd, dd, dd, .d (.clo 33 []), dd, .d (.v (.int .i64 v_z771)), .d (.v (.int .i64 1)), .ref 5 0, dd, dd, dd, dd, dd, dd, dd, dd, dd, dd, dd, dd, dd, dd, dd, dd, dd, dd, dd, dd, dd, dd, dd, dd, dd, dd, dd, dd, dd, dd, dd, dd, dd, dd, dd, dd, dd, dd, dd, dd, dd, dd, dd, dd, dd, dd, dd, dd, dd, dd, dd, dd, dd, dd, dd, dd, dd, dd, dd, dd, dd, dd, dd, dd, dd, dd, dd, dd, dd, dd, dd, dd, dd, dd, dd, dd, dd, dd, dd, dd, dd, dd, dd, dd, dd, dd, dd, dd, dd, dd, dd, dd, dd, dd, dd, dd, dd, dd, dd, dd, dd, dd, dd, dd, dd, dd, dd, dd, dd, dd, dd, dd, dd, dd, dd, dd, dd, dd, dd, dd, dd, dd, dd, dd, dd, dd, dd, dd, dd, dd, dd, dd, dd, dd, dd, dd, dd, dd, dd, dd, dd, dd, dd, dd, dd, dd, dd, dd, dd, dd, dd, dd, dd, dd, dd, dd, dd, dd, dd, dd, dd, .d (.v (.bool v_x812)), dd, dd, dd, dd, dd, dd, dd, dd, dd, dd, dd, dd, dd, dd, dd, dd, dd, dd, dd, dd, dd, dd, dd, dd, dd, dd, dd, dd, dd, dd, dd, dd, dd, dd, dd, dd, dd, dd, dd, dd, dd, dd, dd, dd, dd, dd, dd, dd, dd, dd, dd, dd, dd, dd, dd, dd, dd, dd, dd, dd, dd, dd, dd, dd, dd, dd, dd, dd, dd, dd, dd, dd, dd, dd, dd, dd, dd, dd, dd, dd, dd, dd, dd, dd, dd, dd, dd, dd, dd, dd, dd, dd, dd, dd, dd, dd, dd, dd, dd, dd, dd, dd, dd, dd, dd, dd, dd, dd, dd, dd, dd, dd, dd, dd, dd, dd, dd, dd, dd, dd, dd, dd, dd, dd, dd, dd, dd], [.box ((cA_t49 v_t1).map FV.d), .box [.d (.v (.bool v_x3.fHere)), .d (.v (.bool v_x3.fSlot)), .d (.v (.int .i64 v_x3.fAt)), .d (.v (.int .i64 v_x3.fRights)), .d (.v (.bool v_x3.fUsed)), .d (.v (.bool v_x3.fDirty)), .d (.v (.bool v_x3.fCopy))], .box ((cA_t49 v_r321.1).map FV.d), .box ((cA_t49 v_r340.1).map FV.d), .box ((cA_t49 v_r365.1).map FV.d), .box ((cA_t61 v_r799).map FV.d)]⟩
def G_ringlaw2_TableTells_C14_hd (v_p2 : Int) (v_k4 : Int) (v_r340 : ((Fin 8 → S_table_Node) × Int)) (v_r365 : ((Fin 8 → S_table_Node) × Int)) (v_r378 : (Int × Int × Int)) (v_r461 : (Int)) (v_z771 : Int) (v_z808 : Int) (v_z809 : Int) (v_t1 : (Fin 8 → S_table_Node)) (v_x3 : S_entry_Entry) (v_r267 : (S_entry_Entry × Int)) (v_r321 : ((Fin 8 → S_table_Node) × Int)) (v_r799 : ((Fin 64 → S_entry_Entry)))  : PS := ⟨[dd, .d (.v (.int .i64 v_p2)), dd, .d (.v (.int .i64 v_k4)), .ref 0 0, dd, .ref 1 0, dd, dd, .ref 2 0, dd, .ref 3 0, dd, .ref 4 0, .d (.v (.int .i64 v_r340.2)), .ref 5 0, .d (.v (.int .i64 v_r365.2)), .d (.v (.int .i64 v_r378.1)), .d (.v (.int .i64 v_r378.2.1)), dd, dd, .d (.clo 33 []), .d (.v (.int .i64 v_r461)), .d (.v (.int .i64 v_z771)), .d (.v (.int .i64 1)), .ref 6 0, .d (.v (.int .i64 v_z808)), .d (.v (.int .i64 v_z809)), dd, dd, dd, dd, dd, dd, dd, dd, dd, dd, dd, dd, dd, dd, dd, dd, dd, dd, dd, dd, dd, dd, dd, dd, dd, dd, dd, dd, dd, dd, dd, dd, dd, dd, dd, dd, dd, dd, dd, dd, dd, dd, dd, dd, dd, dd, dd, dd, dd, dd, dd, dd, dd, dd, dd, dd, dd, dd, dd, dd, dd, dd, dd, dd, dd, dd, dd, dd, dd, dd, dd, dd, dd, dd, dd, dd, dd, dd, dd, dd, dd, dd, dd, dd, dd, dd, dd, dd, dd, dd, dd, dd, dd, dd, dd, dd, dd, dd, dd, dd, dd, dd, dd, dd, dd, dd, dd, dd, dd, dd, dd, dd, dd, dd, dd, dd, dd, dd, dd, dd, dd, dd, dd, dd, dd, dd, dd, dd, dd, dd, dd, dd, dd, dd, dd, dd, dd, dd, dd, dd, dd, dd, dd, dd, dd, dd, dd, dd, dd, dd, dd, dd, dd, dd, dd, dd, dd, dd, dd, dd, dd, dd, dd, dd, dd, dd, dd, dd, dd, dd, dd, dd, dd, dd, dd, dd, dd, dd, dd, dd, dd, dd, dd, dd, dd, dd, dd, dd, dd, dd, dd, dd, dd, dd, dd, dd, dd, dd, dd, dd, dd, dd, dd, dd, dd, dd, dd, dd, dd, dd, dd, dd, dd, dd, dd, dd, dd, dd, dd, dd, dd, dd, dd, dd, dd, dd, dd, dd, dd, dd, dd, dd, dd, dd, dd, dd, dd, dd, dd, dd, dd, dd, dd, dd, dd, dd, dd, dd, dd, dd, dd, dd, dd, dd, dd, dd, dd, dd, dd, dd, dd, dd, dd, dd, dd, dd, dd, dd, dd, dd, dd, dd, dd, dd, dd, dd, dd, dd, dd, dd, dd, dd, dd, dd, dd, dd, dd], [.box ((cA_t49 v_t1).map FV.d), .box [.d (.v (.bool v_x3.fHere)), .d (.v (.bool v_x3.fSlot)), .d (.v (.int .i64 v_x3.fAt)), .d (.v (.int .i64 v_x3.fRights)), .d (.v (.bool v_x3.fUsed)), .d (.v (.bool v_x3.fDirty)), .d (.v (.bool v_x3.fCopy))], .box [.d (.v (.bool v_r267.1.fHere)), .d (.v (.bool v_r267.1.fSlot)), .d (.v (.int .i64 v_r267.1.fAt)), .d (.v (.int .i64 v_r267.1.fRights)), .d (.v (.bool v_r267.1.fUsed)), .d (.v (.bool v_r267.1.fDirty)), .d (.v (.bool v_r267.1.fCopy))], .box ((cA_t49 v_r321.1).map FV.d), .box ((cA_t49 v_r340.1).map FV.d), .box ((cA_t49 v_r365.1).map FV.d), .box ((cA_t61 v_r799).map FV.d)]⟩
def G_ringlaw2_TableTells_C14 (n : Nat) (v_p2 : Int) (v_k4 : Int) (v_r340 : ((Fin 8 → S_table_Node) × Int)) (v_r365 : ((Fin 8 → S_table_Node) × Int)) (v_r378 : (Int × Int × Int)) (v_r461 : (Int)) (v_z771 : Int) (v_z808 : Int) (v_z809 : Int) (v_t1 : (Fin 8 → S_table_Node)) (v_x3 : S_entry_Entry) (v_r267 : (S_entry_Entry × Int)) (v_r321 : ((Fin 8 → S_table_Node) × Int)) (v_r799 : ((Fin 64 → S_entry_Entry))) : Option G_ringlaw2_TableTells_C14_R :=
  if v_r461 = 0 then
   if 0 ≤ v_p2 ∧ v_p2 < (64 : Int) then
    (getA v_r799 v_p2).bind fun (v_y811 : S_entry_Entry) =>
    if (eqRes .neq (eqS_entry_Entry v_r267.1 v_y811)) = true then
     some (.x0 true)
    else
     if v_r378.1 = v_z808 then
      some (.x0 (v_r378.2.1 != v_z809))
     else
      some (.x0 true)
   else none
  else
   if v_r378.1 = v_z808 then
    some (.x0 (v_r378.2.1 != v_z809))
   else
    some (.x0 true)
theorem G_ringlaw2_TableTells_C14_ok {Fi : Ex → PS → Prop} (hF : KC 315 Fi) (ks : List Fr) (n : Nat) (v_p2 : Int) (v_k4 : Int) (v_r340 : ((Fin 8 → S_table_Node) × Int)) (v_r365 : ((Fin 8 → S_table_Node) × Int)) (v_r378 : (Int × Int × Int)) (v_r461 : (Int)) (v_z771 : Int) (v_z808 : Int) (v_z809 : Int) (v_t1 : (Fin 8 → S_table_Node)) (v_x3 : S_entry_Entry) (v_r267 : (S_entry_Entry × Int)) (v_r321 : ((Fin 8 → S_table_Node) × Int)) (v_r799 : ((Fin 64 → S_entry_Entry)))  (o : G_ringlaw2_TableTells_C14_R) (h : G_ringlaw2_TableTells_C14 n v_p2 v_k4 v_r340 v_r365 v_r378 v_r461 v_z771 v_z808 v_z809 v_t1 v_x3 v_r267 v_r321 v_r799 = some o) (q : RunE Try.prog 315 Fi ks (G_ringlaw2_TableTells_C14_ex o) (G_ringlaw2_TableTells_C14_st v_p2 v_k4 v_r340 v_r365 v_r378 v_r461 v_z771 v_z808 v_z809 v_t1 v_x3 v_r267 v_r321 v_r799 o)) : RunE Try.prog 315 Fi (.s (cL (cL (cR (cR (cR (cR (cR (cR (cR (cR (cR (cR (cR (cR (cR (cR (cR (cR (cR (cR (bodyOf Try.f5))))))))))))))))))))) :: ks) .normal (G_ringlaw2_TableTells_C14_hd v_p2 v_k4 v_r340 v_r365 v_r378 v_r461 v_z771 v_z808 v_z809 v_t1 v_x3 v_r267 v_r321 v_r799) := by
  unfold G_ringlaw2_TableTells_C14 at h
  by_cases h1081 : v_r461 = 0
  · rw [if_pos h1081] at h
    by_cases h1082 : 0 ≤ v_p2 ∧ v_p2 < (64 : Int)
    · rw [if_pos h1082] at h
      obtain ⟨v_y811, h1083, h⟩ := bind_some h
      by_cases h1084 : (eqRes .neq (eqS_entry_Entry v_r267.1 v_y811)) = true
      · rw [if_pos h1084] at h
        cases h
        exact pkk_sound TTok mix hF 1 (hs := [.t true, .c, .c, .c, .c, .l (.d (.agg [.v (.bool v_y811.fHere), .v (.bool v_y811.fSlot), .v (.int .i64 v_y811.fAt), .v (.int .i64 v_y811.fRights), .v (.bool v_y811.fUsed), .v (.bool v_y811.fDirty), .v (.bool v_y811.fCopy)])), .c, .q (eqS_entry_Entry v_r267.1 v_y811), .t true, .c, .c, .c, .c, .c]) (ts := []) (s := [0, 1, 3, 4, 5, 6]) (l := [1, 3, 4, 6, 11, 13, 14, 15, 16, 21, 23, 24, 25, 187]) (by kernel_rfl) (by kernel_rfl) (.cons (bt h1081) (.cons h1082 (.cons (And.intro (congrArg mkAgg (arr_take (γ := FV) (sz := 7) (g := (fun x => [.d (.v (.bool x.fHere)), .d (.v (.bool x.fSlot)), .d (.v (.int .i64 x.fAt)), .d (.v (.int .i64 x.fRights)), .d (.v (.bool x.fUsed)), .d (.v (.bool x.fDirty)), .d (.v (.bool x.fCopy))])) (pre := []) (post := []) (fun _ => rfl) h1083).1) (arr_take (γ := FV) (sz := 7) (g := (fun x => [.d (.v (.bool x.fHere)), .d (.v (.bool x.fSlot)), .d (.v (.int .i64 x.fAt)), .d (.v (.int .i64 x.fRights)), .d (.v (.bool x.fUsed)), .d (.v (.bool x.fDirty)), .d (.v (.bool x.fCopy))])) (pre := []) (post := []) (fun _ => rfl) h1083).2) (.cons (eqS_entry_Entry_ok v_r267.1 v_y811) (.cons h1084 .nil))))) q
      · rw [if_neg h1084] at h
        by_cases h1085 : v_r378.1 = v_z808
        · rw [if_pos h1085] at h
          cases h
          exact pkk_sound TTok mix hF 1 (hs := [.t true, .c, .c, .c, .c, .l (.d (.agg [.v (.bool v_y811.fHere), .v (.bool v_y811.fSlot), .v (.int .i64 v_y811.fAt), .v (.int .i64 v_y811.fRights), .v (.bool v_y811.fUsed), .v (.bool v_y811.fDirty), .v (.bool v_y811.fCopy)])), .c, .q (eqS_entry_Entry v_r267.1 v_y811), .t false, .c, .c, .t false, .c, .c]) (ts := []) (s := [0, 1, 3, 4, 5, 6]) (l := [1, 3, 4, 6, 11, 13, 14, 15, 16, 21, 23, 24, 25, 187]) (by kernel_rfl) (by kernel_rfl) (.cons (bt h1081) (.cons h1082 (.cons (And.intro (congrArg mkAgg (arr_take (γ := FV) (sz := 7) (g := (fun x => [.d (.v (.bool x.fHere)), .d (.v (.bool x.fSlot)), .d (.v (.int .i64 x.fAt)), .d (.v (.int .i64 x.fRights)), .d (.v (.bool x.fUsed)), .d (.v (.bool x.fDirty)), .d (.v (.bool x.fCopy))])) (pre := []) (post := []) (fun _ => rfl) h1083).1) (arr_take (γ := FV) (sz := 7) (g := (fun x => [.d (.v (.bool x.fHere)), .d (.v (.bool x.fSlot)), .d (.v (.int .i64 x.fAt)), .d (.v (.int .i64 x.fRights)), .d (.v (.bool x.fUsed)), .d (.v (.bool x.fDirty)), .d (.v (.bool x.fCopy))])) (pre := []) (post := []) (fun _ => rfl) h1083).2) (.cons (eqS_entry_Entry_ok v_r267.1 v_y811) (.cons (vf h1084) (.cons (nf h1085) .nil)))))) q
        · rw [if_neg h1085] at h
          cases h
          exact pkk_sound TTok mix hF 1 (hs := [.t true, .c, .c, .c, .c, .l (.d (.agg [.v (.bool v_y811.fHere), .v (.bool v_y811.fSlot), .v (.int .i64 v_y811.fAt), .v (.int .i64 v_y811.fRights), .v (.bool v_y811.fUsed), .v (.bool v_y811.fDirty), .v (.bool v_y811.fCopy)])), .c, .q (eqS_entry_Entry v_r267.1 v_y811), .t false, .c, .c, .t true, .c, .c]) (ts := []) (s := [0, 1, 3, 4, 5, 6]) (l := [1, 3, 4, 6, 11, 13, 14, 15, 16, 21, 23, 24, 25, 187]) (by kernel_rfl) (by kernel_rfl) (.cons (bt h1081) (.cons h1082 (.cons (And.intro (congrArg mkAgg (arr_take (γ := FV) (sz := 7) (g := (fun x => [.d (.v (.bool x.fHere)), .d (.v (.bool x.fSlot)), .d (.v (.int .i64 x.fAt)), .d (.v (.int .i64 x.fRights)), .d (.v (.bool x.fUsed)), .d (.v (.bool x.fDirty)), .d (.v (.bool x.fCopy))])) (pre := []) (post := []) (fun _ => rfl) h1083).1) (arr_take (γ := FV) (sz := 7) (g := (fun x => [.d (.v (.bool x.fHere)), .d (.v (.bool x.fSlot)), .d (.v (.int .i64 x.fAt)), .d (.v (.int .i64 x.fRights)), .d (.v (.bool x.fUsed)), .d (.v (.bool x.fDirty)), .d (.v (.bool x.fCopy))])) (pre := []) (post := []) (fun _ => rfl) h1083).2) (.cons (eqS_entry_Entry_ok v_r267.1 v_y811) (.cons (vf h1084) (.cons (nt h1085) .nil)))))) q
    · rw [if_neg h1082] at h; cases h
  · rw [if_neg h1081] at h
    by_cases h1086 : v_r378.1 = v_z808
    · rw [if_pos h1086] at h
      cases h
      exact pkk_sound TTok mix hF 1 (hs := [.t false, .c, .c, .c, .c, .c, .c, .c, .t false, .c, .c]) (ts := []) (s := [0, 1, 3, 4, 5, 6]) (l := [1, 3, 4, 6, 11, 13, 14, 15, 16, 21, 23, 24, 25, 187]) (by kernel_rfl) (by kernel_rfl) (.cons (bf h1081) (.cons (nf h1086) .nil)) q
    · rw [if_neg h1086] at h
      cases h
      exact pkk_sound TTok mix hF 1 (hs := [.t false, .c, .c, .c, .c, .c, .c, .c, .t true, .c, .c]) (ts := []) (s := [0, 1, 3, 4, 5, 6]) (l := [1, 3, 4, 6, 11, 13, 14, 15, 16, 21, 23, 24, 25, 187]) (by kernel_rfl) (by kernel_rfl) (.cons (bf h1081) (.cons (nt h1086) .nil)) q
inductive G_ringlaw2_TableTells_C15_R where
  | x0 (v_x840 : Bool)
def G_ringlaw2_TableTells_C15_ex : G_ringlaw2_TableTells_C15_R → Ex
  | .x0 _ => .normal
def G_ringlaw2_TableTells_C15_st (v_p2 : Int) (v_k4 : Int) (v_r340 : ((Fin 8 → S_table_Node) × Int)) (v_r365 : ((Fin 8 → S_table_Node) × Int)) (v_t1 : (Fin 8 → S_table_Node)) (v_r321 : ((Fin 8 → S_table_Node) × Int)) (v_r799 : ((Fin 64 → S_entry_Entry))) (v_x3 : S_entry_Entry) : G_ringlaw2_TableTells_C15_R → PS
  | .x0 v_x840 => ⟨[dd, dd, dd, .d (.v (.int .i64 v_k4)), .ref 0 0, dd, dd, dd, dd, dd, dd, dd, dd, .ref 1 0, .d (.v (.int .i64 v_r340.2)), .ref 2 0, .d (.v (.int .i64 v_r365.2)), dd, dd, dd, dd, .d (.clo 33 []), dd, dd, .d (.v (.int .i64 1)), .ref 3 0, dd, dd, dd, dd, dd, dd, dd, dd, dd, dd, dd, dd, dd, dd, dd, dd, dd, dd, dd, dd, dd, dd, dd, dd, dd, dd, dd, dd, dd, dd, dd, dd, dd, dd, dd, dd, dd, dd, dd, dd, dd, dd, dd, dd, dd, dd, dd, dd, dd, dd, dd, dd, dd, dd, dd, dd, dd, dd, dd, dd, dd, dd, dd, dd, dd, dd, dd, dd, dd, dd, dd, dd, dd, dd, dd, dd, dd, dd, dd, dd, dd, dd, dd, dd, dd, dd, dd, dd, dd, dd, dd, dd, dd, dd, dd, dd, dd, dd, dd, dd, dd, dd, dd, dd, dd, dd, dd, dd, dd, dd, dd, dd, dd, dd, dd, dd, dd, dd, dd, dd, dd, dd, dd, dd, dd, dd, dd, dd, dd, dd, dd, dd, dd, dd, dd, dd, dd, dd, dd, dd, dd, dd, dd, dd, dd, dd, dd, dd, dd, dd, dd, dd, dd, dd, dd, dd, dd, dd, dd, dd, dd, dd, dd, dd, dd, dd, dd, dd, dd, dd, dd, dd, dd, dd, dd, dd, dd, dd, dd, dd, dd, dd, dd, dd, dd, dd, dd, dd, dd, dd, dd, .d (.v (.bool v_x840)), dd, dd, dd, dd, dd, dd, dd, dd, dd, dd, dd, dd, dd, dd, dd, dd, dd, dd, dd, dd, dd, dd, dd, dd, dd, dd, dd, dd, dd, dd, dd, dd, dd, dd, dd, dd, dd, dd, dd, dd, dd, dd, dd, dd, dd, dd, dd, dd, dd, dd, dd, dd, dd, dd, dd, dd, dd, dd, dd, dd, dd, dd, dd, dd, dd, dd, dd, dd, dd, dd, dd, dd, dd, dd, dd, dd, dd, dd, dd, dd, dd, dd, dd, dd, dd, dd, dd, dd, dd, dd, dd, dd, dd, dd, dd, dd, dd], [.box ((cA_t49 v_t1).map FV.d), .box ((cA_t49 v_r340.1).map FV.d), .box ((cA_t49 v_r365.1).map FV.d), .box ((cA_t61 v_r799).map FV.d)]⟩
def G_ringlaw2_TableTells_C15_hd (v_p2 : Int) (v_k4 : Int) (v_r340 : ((Fin 8 → S_table_Node) × Int)) (v_r365 : ((Fin 8 → S_table_Node) × Int)) (v_t1 : (Fin 8 → S_table_Node)) (v_r321 : ((Fin 8 → S_table_Node) × Int)) (v_r799 : ((Fin 64 → S_entry_Entry))) (v_x3 : S_entry_Entry)  : PS := ⟨[dd, .d (.v (.int .i64 v_p2)), dd, .d (.v (.int .i64 v_k4)), .ref 0 0, dd, dd, dd, dd, dd, dd, .ref 1 0, dd, .ref 2 0, .d (.v (.int .i64 v_r340.2)), .ref 3 0, .d (.v (.int .i64 v_r365.2)), dd, dd, dd, dd, .d (.clo 33 []), dd, dd, .d (.v (.int .i64 1)), .ref 4 0, dd, dd, dd, dd, .ref 5 0, dd, dd, dd, dd, dd, dd, dd, dd, dd, dd, dd, dd, dd, dd, dd, dd, dd, dd, dd, dd, dd, dd, dd, dd, dd, dd, dd, dd, dd, dd, dd, dd, dd, dd, dd, dd, dd, dd, dd, dd, dd, dd, dd, dd, dd, dd, dd, dd, dd, dd, dd, dd, dd, dd, dd, dd, dd, dd, dd, dd, dd, dd, dd, dd, dd, dd, dd, dd, dd, dd, dd, dd, dd, dd, dd, dd, dd, dd, dd, dd, dd, dd, dd, dd, dd, dd, dd, dd, dd, dd, dd, dd, dd, dd, dd, dd, dd, dd, dd, dd, dd, dd, dd, dd, dd, dd, dd, dd, dd, dd, dd, dd, dd, dd, dd, dd, dd, dd, dd, dd, dd, dd, dd, dd, dd, dd, dd, dd, dd, dd, dd, dd, dd, dd, dd, dd, dd, dd, dd, dd, dd, dd, dd, dd, dd, dd, dd, dd, dd, dd, dd, dd, dd, dd, dd, dd, dd, dd, dd, dd, dd, dd, dd, dd, dd, dd, dd, dd, dd, dd, dd, dd, dd, dd, dd, dd, dd, dd, dd, dd, dd, dd, dd, dd, dd, dd, dd, dd, dd, dd, dd, dd, dd, dd, dd, dd, dd, dd, dd, dd, dd, dd, dd, dd, dd, dd, dd, dd, dd, dd, dd, dd, dd, dd, dd, dd, dd, dd, dd, dd, dd, dd, dd, dd, dd, dd, dd, dd, dd, dd, dd, dd, dd, dd, dd, dd, dd, dd, dd, dd, dd, dd, dd, dd, dd, dd, dd, dd, dd, dd, dd, dd, dd, dd, dd, dd, dd, dd, dd, dd, dd, dd, dd, dd, dd, dd, dd, dd, dd, dd, dd, dd, dd, dd, dd, dd, dd, dd, dd, dd, dd, dd, dd, dd], [.box ((cA_t49 v_t1).map FV.d), .box ((cA_t49 v_r321.1).map FV.d), .box ((cA_t49 v_r340.1).map FV.d), .box ((cA_t49 v_r365.1).map FV.d), .box ((cA_t61 v_r799).map FV.d), .box ((cA_t61 (setA v_r799 v_p2 v_x3)).map FV.d)]⟩
def G_ringlaw2_TableTells_C15 (n : Nat) (v_p2 : Int) (v_k4 : Int) (v_r340 : ((Fin 8 → S_table_Node) × Int)) (v_r365 : ((Fin 8 → S_table_Node) × Int)) (v_t1 : (Fin 8 → S_table_Node)) (v_r321 : ((Fin 8 → S_table_Node) × Int)) (v_r799 : ((Fin 64 → S_entry_Entry))) (v_x3 : S_entry_Entry) : Option G_ringlaw2_TableTells_C15_R :=
  (G_ringref2_Tables n v_r321.1).bind fun (v_r839 : (Int)) =>
  if v_r839 = 0 then
   (G_ringref2_TablePages n v_r321.1).bind fun (v_r841 : ((Fin 64 → S_entry_Entry))) =>
   if (eqRes .neq (eqA_ringref2_Plain v_r841 (setA v_r799 v_p2 v_x3))) = true then
    some (.x0 true)
   else
    if 0 ≤ (quoI .i64 v_p2 8) ∧ (quoI .i64 v_p2 8) < (8 : Int) then
     (getA v_r321.1 (quoI .i64 v_p2 8)).bind fun (v_y843 : S_table_Node) =>
     if v_y843.fHuge = true then
      some (.x0 true)
     else
      (G_ringlaw2_others n v_t1 v_r321.1 (quoI .i64 v_p2 8)).bind fun (v_r845 : (Bool)) =>
      some (.x0 (!v_r845))
    else none
  else
   some (.x0 true)
theorem G_ringlaw2_TableTells_C15_ok {Fi : Ex → PS → Prop} (hF : KC 315 Fi) (ks : List Fr) (n : Nat) (v_p2 : Int) (v_k4 : Int) (v_r340 : ((Fin 8 → S_table_Node) × Int)) (v_r365 : ((Fin 8 → S_table_Node) × Int)) (v_t1 : (Fin 8 → S_table_Node)) (v_r321 : ((Fin 8 → S_table_Node) × Int)) (v_r799 : ((Fin 64 → S_entry_Entry))) (v_x3 : S_entry_Entry)  (o : G_ringlaw2_TableTells_C15_R) (h : G_ringlaw2_TableTells_C15 n v_p2 v_k4 v_r340 v_r365 v_t1 v_r321 v_r799 v_x3 = some o) (q : RunE Try.prog 315 Fi ks (G_ringlaw2_TableTells_C15_ex o) (G_ringlaw2_TableTells_C15_st v_p2 v_k4 v_r340 v_r365 v_t1 v_r321 v_r799 v_x3 o)) : RunE Try.prog 315 Fi (.s (cL (cR (cR (cT (cR (cL (cR (cR (cR (cR (cR (cR (cR (cR (cR (cR (cR (cR (cR (cR (cR (cR (cR (cR (cR (bodyOf Try.f5)))))))))))))))))))))))))) :: ks) .normal (G_ringlaw2_TableTells_C15_hd v_p2 v_k4 v_r340 v_r365 v_t1 v_r321 v_r799 v_x3) := by
  unfold G_ringlaw2_TableTells_C15 at h
  obtain ⟨v_r839, h1127, h⟩ := bind_some h
  by_cases h1128 : v_r839 = 0
  · rw [if_pos h1128] at h
    obtain ⟨v_r841, h1129, h⟩ := bind_some h
    by_cases h1130 : (eqRes .neq (eqA_ringref2_Plain v_r841 (setA v_r799 v_p2 v_x3))) = true
    · rw [if_pos h1130] at h
      cases h
      exact pkk_sound TTok mix hF 1 (hs := [.c, .r ((eI .i64) v_r839), .t false, .c, .c, .r ((fun x => PV.agg (cA_t61 x)) v_r841), .c, .c, .c, .q (eqA_ringref2_Plain v_r841 (setA v_r799 v_p2 v_x3)), .t true, .c, .c, .c, .c, .c, .c, .c, .c, .c, .c]) (ts := []) (s := [0, 2, 3, 4]) (l := [3, 4, 13, 14, 15, 16, 21, 24, 25, 217]) (by kernel_rfl) (by kernel_rfl) (.cons (G_ringref2_Tables_ok n v_r321.1 _ h1127) (.cons (nf h1128) (.cons (G_ringref2_TablePages_ok n v_r321.1 _ h1129) (.cons (eqA_ringref2_Plain_ok v_r841 (setA v_r799 v_p2 v_x3)) (.cons h1130 .nil))))) q
    · rw [if_neg h1130] at h
      by_cases h1132 : 0 ≤ (quoI .i64 v_p2 8) ∧ (quoI .i64 v_p2 8) < (8 : Int)
      · rw [if_pos h1132] at h
        obtain ⟨v_y843, h1133, h⟩ := bind_some h
        by_cases h1134 : v_y843.fHuge = true
        · rw [if_pos h1134] at h
          cases h
          exact pkk_sound TTok mix hF 1 (hs := [.c, .r ((eI .i64) v_r839), .t false, .c, .c, .r ((fun x => PV.agg (cA_t61 x)) v_r841), .c, .c, .c, .q (eqA_ringref2_Plain v_r841 (setA v_r799 v_p2 v_x3)), .t false, .c, .c, .c, .c, .l (.d (.v (.bool v_y843.fHuge))), .t true, .c, .c, .c, .c, .c]) (ts := []) (s := [0, 2, 3, 4]) (l := [3, 4, 13, 14, 15, 16, 21, 24, 25, 217]) (by kernel_rfl) (by kernel_rfl) (.cons (G_ringref2_Tables_ok n v_r321.1 _ h1127) (.cons (nf h1128) (.cons (G_ringref2_TablePages_ok n v_r321.1 _ h1129) (.cons (eqA_ringref2_Plain_ok v_r841 (setA v_r799 v_p2 v_x3)) (.cons (vf h1130) (.cons (show (8 : Int) ≠ 0 by decide) (.cons h1132 (.cons (arr_cell (γ := FV) (sz := 2) (g := (fun x => [.d (.v (.bool x.fHuge)), .d (.sl (x.fEntries.map eS_entry_Entry))])) (pre := []) (post := []) (o := 0) (fun _ => rfl) h1133 rfl) (.cons h1134 .nil))))))))) q
        · rw [if_neg h1134] at h
          obtain ⟨v_r845, h1136, h⟩ := bind_some h
          cases h
          exact pkk_sound TTok mix hF 1 (hs := [.c, .r ((eI .i64) v_r839), .t false, .c, .c, .r ((fun x => PV.agg (cA_t61 x)) v_r841), .c, .c, .c, .q (eqA_ringref2_Plain v_r841 (setA v_r799 v_p2 v_x3)), .t false, .c, .c, .c, .c, .l (.d (.v (.bool v_y843.fHuge))), .t false, .c, .c, .c, .c, .c, .c, .r (eB v_r845), .c]) (ts := []) (s := [0, 2, 3, 4]) (l := [3, 4, 13, 14, 15, 16, 21, 24, 25, 217]) (by kernel_rfl) (by kernel_rfl) (.cons (G_ringref2_Tables_ok n v_r321.1 _ h1127) (.cons (nf h1128) (.cons (G_ringref2_TablePages_ok n v_r321.1 _ h1129) (.cons (eqA_ringref2_Plain_ok v_r841 (setA v_r799 v_p2 v_x3)) (.cons (vf h1130) (.cons (show (8 : Int) ≠ 0 by decide) (.cons h1132 (.cons (arr_cell (γ := FV) (sz := 2) (g := (fun x => [.d (.v (.bool x.fHuge)), .d (.sl (x.fEntries.map eS_entry_Entry))])) (pre := []) (post := []) (o := 0) (fun _ => rfl) h1133 rfl) (.cons (vf h1134) (.cons (show (8 : Int) ≠ 0 by decide) (.cons (G_ringlaw2_others_ok n v_t1 v_r321.1 (quoI .i64 v_p2 8) _ h1136) .nil))))))))))) q
      · rw [if_neg h1132] at h; cases h
  · rw [if_neg h1128] at h
    cases h
    exact pkk_sound TTok mix hF 1 (hs := [.c, .r ((eI .i64) v_r839), .t true, .c, .c, .c, .c, .c, .c, .c, .c, .c, .c, .c, .c, .c, .c]) (ts := []) (s := [0, 2, 3, 4]) (l := [3, 4, 13, 14, 15, 16, 21, 24, 25, 217]) (by kernel_rfl) (by kernel_rfl) (.cons (G_ringref2_Tables_ok n v_r321.1 _ h1127) (.cons (nt h1128) .nil)) q
inductive G_ringlaw2_TableTells_C16_R where
  | x0 (v_x849 : Bool)
  | x1 
def G_ringlaw2_TableTells_C16_ex : G_ringlaw2_TableTells_C16_R → Ex
  | .x0 _ => .ret
  | .x1  => .normal
def G_ringlaw2_TableTells_C16_st (v_p2 : Int) (v_k4 : Int) (v_r340 : ((Fin 8 → S_table_Node) × Int)) (v_r365 : ((Fin 8 → S_table_Node) × Int)) (v_z771 : Int) (v_t1 : (Fin 8 → S_table_Node)) (v_x3 : S_entry_Entry) (v_r321 : ((Fin 8 → S_table_Node) × Int)) (v_r799 : ((Fin 64 → S_entry_Entry))) : G_ringlaw2_TableTells_C16_R → PS
  | .x0 v_x849 => ⟨[dd, dd, dd, dd, dd, dd, dd, dd, .d (.v (.bool v_x849)), dd, dd, dd, dd, dd, dd, dd, dd, dd, dd, dd, dd, dd, dd, dd, dd, dd, dd, dd, dd, dd, dd, dd, dd, dd, dd, dd, dd, dd, dd, dd, dd, dd, dd, dd, dd, dd, dd, dd, dd, dd, dd, dd, dd, dd, dd, dd, dd, dd, dd, dd, dd, dd, dd, dd, dd, dd, dd, dd, dd, dd, dd, dd, dd, dd, dd, dd, dd, dd, dd, dd, dd, dd, dd, dd, dd, dd, dd, dd, dd, dd, dd, dd, dd, dd, dd, dd, dd, dd, dd, dd, dd, dd, dd, dd, dd, dd, dd, dd, dd, dd, dd, dd, dd, dd, dd, dd, dd, dd, dd, dd, dd, dd, dd, dd, dd, dd, dd, dd, dd, dd, dd, dd, dd, dd, dd, dd, dd, dd, dd, dd, dd, dd, dd, dd, dd, dd, dd, dd, dd, dd, dd, dd, dd, dd, dd, dd, dd, dd, dd, dd, dd, dd, dd, dd, dd, dd, dd, dd, dd, dd, dd, dd, dd, dd, dd, dd, dd, dd, dd, dd, dd, dd, dd, dd, dd, dd, dd, dd, dd, dd, dd, dd, dd, dd, dd, dd, dd, dd, dd, dd, dd, dd, dd, dd, dd, dd, dd, dd, dd, dd, dd, dd, dd, dd, dd, dd, dd, dd, dd, dd, dd, dd, dd, dd, dd, dd, dd, dd, dd, dd, dd, dd, dd, dd, dd, dd, dd, dd, dd, dd, dd, dd, dd, dd, dd, dd, dd, dd, dd, dd, dd, dd, dd, dd, dd, dd, dd, dd, dd, dd, dd, dd, dd, dd, dd, dd, dd, dd, dd, dd, dd, dd, dd, dd, dd, dd, dd, dd, dd, dd, dd, dd, dd, dd, dd, dd, dd, dd, dd, dd, dd, dd, dd, dd, dd, dd, dd, dd, dd, dd, dd, dd, dd, dd, dd, dd, dd, dd, dd, dd, dd, dd, dd, dd, dd], []⟩
  | .x1  => ⟨[dd, dd, dd, .d (.v (.int .i64 v_k4)), .ref 0 0, dd, dd, dd, dd, dd, dd, dd, dd, .ref 1 0, .d (.v (.int .i64 v_r340.2)), .ref 2 0, .d (.v (.int .i64 v_r365.2)), dd, dd, dd, dd, .d (.clo 33 []), dd, dd, .d (.v (.int .i64 1)), .ref 3 0, dd, dd, dd, dd, dd, dd, dd, dd, dd, dd, dd, dd, dd, dd, dd, dd, dd, dd, dd, dd, dd, dd, dd, dd, dd, dd, dd, dd, dd, dd, dd, dd, dd, dd, dd, dd, dd, dd, dd, dd, dd, dd, dd, dd, dd, dd, dd, dd, dd, dd, dd, dd, dd, dd, dd, dd, dd, dd, dd, dd, dd, dd, dd, dd, dd, dd, dd, dd, dd, dd, dd, dd, dd, dd, dd, dd, dd, dd, dd, dd, dd, dd, dd, dd, dd, dd, dd, dd, dd, dd, dd, dd, dd, dd, dd, dd, dd, dd, dd, dd, dd, dd, dd, dd, dd, dd, dd, dd, dd, dd, dd, dd, dd, dd, dd, dd, dd, dd, dd, dd, dd, dd, dd, dd, dd, dd, dd, dd, dd, dd, dd, dd, dd, dd, dd, dd, dd, dd, dd, dd, dd, dd, dd, dd, dd, dd, dd, dd, dd, dd, dd, dd, dd, dd, dd, dd, dd, dd, dd, dd, dd, dd, dd, dd, dd, dd, dd, dd, dd, dd, dd, dd, dd, dd, dd, dd, dd, dd, dd, dd, dd, dd, dd, dd, dd, dd, dd, dd, dd, dd, dd, dd, dd, dd, dd, dd, dd, dd, dd, dd, dd, dd, dd, dd, dd, dd, dd, dd, dd, dd, dd, dd, dd, dd, dd, dd, dd, dd, dd, dd, dd, dd, dd, dd, dd, dd, dd, dd, dd, dd, dd, dd, dd, dd, dd, dd, dd, dd, dd, dd, dd, dd, dd, dd, dd, dd, dd, dd, dd, dd, dd, dd, dd, dd, dd, dd, dd, dd, dd, dd, dd, dd, dd, dd, dd, dd, dd, dd, dd, dd, dd, dd, dd, dd, dd, dd, dd, dd, dd, dd, dd, dd, dd, dd, dd, dd, dd, dd, dd], [.box ((cA_t49 v_t1).map FV.d), .box ((cA_t49 v_r340.1).map FV.d), .box ((cA_t49 v_r365.1).map FV.d), .box ((cA_t61 v_r799).map FV.d)]⟩
def G_ringlaw2_TableTells_C16_hd (v_p2 : Int) (v_k4 : Int) (v_r340 : ((Fin 8 → S_table_Node) × Int)) (v_r365 : ((Fin 8 → S_table_Node) × Int)) (v_z771 : Int) (v_t1 : (Fin 8 → S_table_Node)) (v_x3 : S_entry_Entry) (v_r321 : ((Fin 8 → S_table_Node) × Int)) (v_r799 : ((Fin 64 → S_entry_Entry)))  : PS := ⟨[dd, .d (.v (.int .i64 v_p2)), dd, .d (.v (.int .i64 v_k4)), .ref 0 0, dd, .ref 1 0, dd, dd, dd, dd, .ref 2 0, dd, .ref 3 0, .d (.v (.int .i64 v_r340.2)), .ref 4 0, .d (.v (.int .i64 v_r365.2)), dd, dd, dd, dd, .d (.clo 33 []), dd, dd, .d (.v (.int .i64 1)), .ref 5 0, dd, dd, dd, dd, dd, dd, dd, dd, dd, dd, dd, dd, dd, dd, dd, dd, dd, dd, dd, dd, dd, dd, dd, dd, dd, dd, dd, dd, dd, dd, dd, dd, dd, dd, dd, dd, dd, dd, dd, dd, dd, dd, dd, dd, dd, dd, dd, dd, dd, dd, dd, dd, dd, dd, dd, dd, dd, dd, dd, dd, dd, dd, dd, dd, dd, dd, dd, dd, dd, dd, dd, dd, dd, dd, dd, dd, dd, dd, dd, dd, dd, dd, dd, dd, dd, dd, dd, dd, dd, dd, dd, dd, dd, dd, dd, dd, dd, dd, dd, dd, dd, dd, dd, dd, dd, dd, dd, dd, dd, dd, dd, dd, dd, dd, dd, dd, dd, dd, dd, dd, dd, dd, dd, dd, dd, dd, dd, dd, dd, dd, dd, dd, dd, dd, dd, dd, dd, dd, dd, dd, dd, dd, dd, dd, dd, dd, dd, dd, dd, dd, dd, dd, dd, dd, dd, dd, dd, dd, dd, dd, dd, dd, dd, .d (.v (.bool (v_z771 == 0))), dd, dd, dd, dd, dd, dd, dd, dd, dd, dd, dd, dd, dd, dd, dd, dd, dd, dd, dd, dd, dd, dd, dd, dd, dd, dd, dd, dd, dd, dd, dd, dd, dd, dd, dd, dd, dd, dd, dd, dd, dd, dd, dd, dd, dd, dd, dd, dd, dd, dd, dd, dd, dd, dd, dd, dd, dd, dd, dd, dd, dd, dd, dd, dd, dd, dd, dd, dd, dd, dd, dd, dd, dd, dd, dd, dd, dd, dd, dd, dd, dd, dd, dd, dd, dd, dd, dd, dd, dd, dd, dd, dd, dd, dd, dd, dd, dd, dd, dd, dd, dd, dd, dd, dd, dd, dd, dd, dd, dd, dd, dd, dd, dd, dd, dd, dd, dd, dd, dd, dd, dd, dd, dd, dd, dd], [.box ((cA_t49 v_t1).map FV.d), .box [.d (.v (.bool v_x3.fHere)), .d (.v (.bool v_x3.fSlot)), .d (.v (.int .i64 v_x3.fAt)), .d (.v (.int .i64 v_x3.fRights)), .d (.v (.bool v_x3.fUsed)), .d (.v (.bool v_x3.fDirty)), .d (.v (.bool v_x3.fCopy))], .box ((cA_t49 v_r321.1).map FV.d), .box ((cA_t49 v_r340.1).map FV.d), .box ((cA_t49 v_r365.1).map FV.d), .box ((cA_t61 v_r799).map FV.d)]⟩
def G_ringlaw2_TableTells_C16 (n : Nat) (v_p2 : Int) (v_k4 : Int) (v_r340 : ((Fin 8 → S_table_Node) × Int)) (v_r365 : ((Fin 8 → S_table_Node) × Int)) (v_z771 : Int) (v_t1 : (Fin 8 → S_table_Node)) (v_x3 : S_entry_Entry) (v_r321 : ((Fin 8 → S_table_Node) × Int)) (v_r799 : ((Fin 64 → S_entry_Entry))) : Option G_ringlaw2_TableTells_C16_R :=
  if v_z771 = 0 then
   if 0 ≤ v_p2 ∧ v_p2 < (64 : Int) then
    (getA v_r799 v_p2).bind fun (v_y834 : S_entry_Entry) =>
    (G_ringlaw2_TableTells_C15 n v_p2 v_k4 v_r340 v_r365 v_t1 v_r321 v_r799 v_x3).bind fun v_o847 => match v_o847 with
    | .x0 v_z848 =>
      if v_z848 = true then
       some (.x0 false)
      else
       some (.x1 )
   else none
  else
   some (.x1 )
theorem G_ringlaw2_TableTells_C16_ok {Fi : Ex → PS → Prop} (hF : KC 315 Fi) (ks : List Fr) (n : Nat) (v_p2 : Int) (v_k4 : Int) (v_r340 : ((Fin 8 → S_table_Node) × Int)) (v_r365 : ((Fin 8 → S_table_Node) × Int)) (v_z771 : Int) (v_t1 : (Fin 8 → S_table_Node)) (v_x3 : S_entry_Entry) (v_r321 : ((Fin 8 → S_table_Node) × Int)) (v_r799 : ((Fin 64 → S_entry_Entry)))  (o : G_ringlaw2_TableTells_C16_R) (h : G_ringlaw2_TableTells_C16 n v_p2 v_k4 v_r340 v_r365 v_z771 v_t1 v_x3 v_r321 v_r799 = some o) (q : RunE Try.prog 315 Fi ks (G_ringlaw2_TableTells_C16_ex o) (G_ringlaw2_TableTells_C16_st v_p2 v_k4 v_r340 v_r365 v_z771 v_t1 v_x3 v_r321 v_r799 o)) : RunE Try.prog 315 Fi (.s (cR (cL (cR (cR (cR (cR (cR (cR (cR (cR (cR (cR (cR (cR (cR (cR (cR (cR (cR (cR (cR (bodyOf Try.f5)))))))))))))))))))))) :: ks) .normal (G_ringlaw2_TableTells_C16_hd v_p2 v_k4 v_r340 v_r365 v_z771 v_t1 v_x3 v_r321 v_r799) := by
  unfold G_ringlaw2_TableTells_C16 at h
  by_cases h1114 : v_z771 = 0
  · rw [if_pos h1114] at h
    by_cases h1115 : 0 ≤ v_p2 ∧ v_p2 < (64 : Int)
    · rw [if_pos h1115] at h
      obtain ⟨v_y834, h1116, h⟩ := bind_some h
      obtain ⟨v_o847, h1137, h⟩ := bind_some h
      refine pkk_sound TTok mix hF 6 (hs := [.t true, .c, .c, .c, .x ((cA_t61 (setA v_r799 v_p2 v_x3)).map FV.d), .c]) (ts := []) (s := [0, 2, 3, 4, 5, 9]) (l := [1, 3, 4, 11, 13, 14, 15, 16, 21, 24, 25, 30]) (by kernel_rfl) (by kernel_rfl) (.cons (bt h1114) (.cons (show 0 + 448 ≤ 448 by decide) (.cons h1115 (.cons (arr_store (γ := FV) (sz := 7) (g := (fun x => [.d (.v (.bool x.fHere)), .d (.v (.bool x.fSlot)), .d (.v (.int .i64 x.fAt)), .d (.v (.int .i64 x.fRights)), .d (.v (.bool x.fUsed)), .d (.v (.bool x.fDirty)), .d (.v (.bool x.fCopy))])) (pre := []) (post := []) (o := 0) (y := v_x3) (zs := [.d (.v (.bool v_x3.fHere)), .d (.v (.bool v_x3.fSlot)), .d (.v (.int .i64 v_x3.fAt)), .d (.v (.int .i64 v_x3.fRights)), .d (.v (.bool v_x3.fUsed)), .d (.v (.bool v_x3.fDirty)), .d (.v (.bool v_x3.fCopy))]) (fun _ => rfl) h1116 rfl (Nat.le_of_ble_eq_true rfl)).1 (.cons (arr_store (γ := FV) (sz := 7) (g := (fun x => [.d (.v (.bool x.fHere)), .d (.v (.bool x.fSlot)), .d (.v (.int .i64 x.fAt)), .d (.v (.int .i64 x.fRights)), .d (.v (.bool x.fUsed)), .d (.v (.bool x.fDirty)), .d (.v (.bool x.fCopy))])) (pre := []) (post := []) (o := 0) (y := v_x3) (zs := [.d (.v (.bool v_x3.fHere)), .d (.v (.bool v_x3.fSlot)), .d (.v (.int .i64 v_x3.fAt)), .d (.v (.int .i64 v_x3.fRights)), .d (.v (.bool v_x3.fUsed)), .d (.v (.bool v_x3.fDirty)), .d (.v (.bool v_x3.fCopy))]) (fun _ => rfl) h1116 rfl (Nat.le_of_ble_eq_true rfl)).2 .nil))))) (G_ringlaw2_TableTells_C15_ok hF (.s (cR (cR (cR (cT (cR (cL (cR (cR (cR (cR (cR (cR (cR (cR (cR (cR (cR (cR (cR (cR (cR (cR (cR (cR (cR (bodyOf Try.f5)))))))))))))))))))))))))) :: ks) n v_p2 v_k4 v_r340 v_r365 v_t1 v_r321 v_r799 v_x3 _ h1137 ?_)
      cases v_o847 with
      | x0 v_z848 =>
        dsimp only at h
        by_cases h1138 : v_z848 = true
        · rw [if_pos h1138] at h
          cases h
          exact pkk_sound TTok mix hF 4 (hs := [.t true]) (ts := []) (s := []) (l := [8]) (by kernel_rfl) (by kernel_rfl) (.cons h1138 .nil) q
        · rw [if_neg h1138] at h
          cases h
          exact pkk_sound TTok mix hF 2 (hs := [.t false]) (ts := []) (s := [0, 1, 2, 3]) (l := [3, 4, 13, 14, 15, 16, 21, 24, 25]) (by kernel_rfl) (by kernel_rfl) (.cons (vf h1138) .nil) q
    · rw [if_neg h1115] at h; cases h
  · rw [if_neg h1114] at h
    cases h
    exact pkk_sound TTok mix hF 2 (hs := [.t false]) (ts := []) (s := [0, 3, 4, 5]) (l := [3, 4, 13, 14, 15, 16, 21, 24, 25]) (by kernel_rfl) (by kernel_rfl) (.cons (bf h1114) .nil) q
inductive G_ringlaw2_TableTells_C17_R where
  | x0 (v_x866 : Bool)
def G_ringlaw2_TableTells_C17_ex : G_ringlaw2_TableTells_C17_R → Ex
  | .x0 _ => .normal
def G_ringlaw2_TableTells_C17_st (v_r340 : ((Fin 8 → S_table_Node) × Int)) (v_r365 : ((Fin 8 → S_table_Node) × Int)) : G_ringlaw2_TableTells_C17_R → PS
  | .x0 v_x866 => ⟨[dd, dd, dd, dd, dd, dd, dd, dd, .d (.v (.bool v_x866)), dd, dd, dd, dd, dd, dd, dd, dd, dd, dd, dd, dd, dd, dd, dd, dd, dd, dd, dd, dd, dd, dd, dd, dd, dd, dd, dd, dd, dd, dd, dd, dd, dd, dd, dd, dd, dd, dd, dd, dd, dd, dd, dd, dd, dd, dd, dd, dd, dd, dd, dd, dd, dd, dd, dd, dd, dd, dd, dd, dd, dd, dd, dd, dd, dd, dd, dd, dd, dd, dd, dd, dd, dd, dd, dd, dd, dd, dd, dd, dd, dd, dd, dd, dd, dd, dd, dd, dd, dd, dd, dd, dd, dd, dd, dd, dd, dd, dd, dd, dd, dd, dd, dd, dd, dd, dd, dd, dd, dd, dd, dd, dd, dd, dd, dd, dd, dd, dd, dd, dd, dd, dd, dd, dd, dd, dd, dd, dd, dd, dd, dd, dd, dd, dd, dd, dd, dd, dd, dd, dd, dd, dd, dd, dd, dd, dd, dd, dd, dd, dd, dd, dd, dd, dd, dd, dd, dd, dd, dd, dd, dd, dd, dd, dd, dd, dd, dd, dd, dd, dd, dd, dd, dd, dd, dd, dd, dd, dd, dd, dd, dd, dd, dd, dd, dd, dd, dd, dd, dd, dd, dd, dd, dd, dd, dd, dd, dd, dd, dd, dd, dd, dd, dd, dd, dd, dd, dd, dd, dd, dd, dd, dd, dd, dd, dd, dd, dd, dd, dd, dd, dd, dd, dd, dd, dd, dd, dd, dd, dd, dd, dd, dd, dd, dd, dd, dd, dd, dd, dd, dd, dd, dd, dd, dd, dd, dd, dd, dd, dd, dd, dd, dd, dd, dd, dd, dd, dd, dd, dd, dd, dd, dd, dd, dd, dd, dd, dd, dd, dd, dd, dd, dd, dd, dd, dd, dd, dd, dd, dd, dd, dd, dd, dd, dd, dd, dd, dd, dd, dd, dd, dd, dd, dd, dd, dd, dd, dd, dd, dd, dd, dd, dd, dd, dd, dd, dd], []⟩
def G_ringlaw2_TableTells_C17_hd (v_r340 : ((Fin 8 → S_table_Node) × Int)) (v_r365 : ((Fin 8 → S_table_Node) × Int))  : PS := ⟨[dd, dd, dd, dd, dd, dd, dd, dd, dd, dd, dd, dd, dd, .ref 0 0, .d (.v (.int .i64 v_r340.2)), .ref 1 0, .d (.v (.int .i64 v_r365.2)), dd, dd, dd, dd, .d (.clo 33 []), dd, dd, .d (.v (.int .i64 1)), dd, dd, dd, dd, dd, dd, dd, dd, dd, dd, dd, dd, dd, dd, dd, dd, dd, dd, dd, dd, dd, dd, dd, dd, dd, dd, dd, dd, dd, dd, dd, dd, dd, dd, dd, dd, dd, dd, dd, dd, dd, dd, dd, dd, dd, dd, dd, dd, dd, dd, dd, dd, dd, dd, dd, dd, dd, dd, dd, dd, dd, dd, dd, dd, dd, dd, dd, dd, dd, dd, dd, dd, dd, dd, dd, dd, dd, dd, dd, dd, dd, dd, dd, dd, dd, dd, dd, dd, dd, dd, dd, dd, dd, dd, dd, dd, dd, dd, dd, dd, dd, dd, dd, dd, dd, dd, dd, dd, dd, dd, dd, dd, dd, dd, dd, dd, dd, dd, dd, dd, dd, dd, dd, dd, dd, dd, dd, dd, dd, dd, dd, dd, dd, dd, dd, dd, dd, dd, dd, dd, dd, dd, dd, dd, dd, dd, dd, dd, dd, dd, dd, dd, dd, dd, dd, dd, dd, dd, dd, dd, dd, dd, dd, dd, dd, dd, dd, dd, dd, dd, dd, dd, dd, dd, dd, dd, dd, dd, dd, dd, dd, dd, dd, dd, dd, dd, dd, dd, dd, dd, dd, dd, dd, dd, dd, dd, dd, dd, dd, dd, dd, dd, dd, dd, dd, dd, dd, dd, dd, dd, dd, dd, dd, dd, dd, dd, dd, dd, dd, dd, dd, dd, dd, dd, dd, dd, dd, dd, dd, dd, dd, dd, dd, dd, dd, dd, dd, dd, dd, dd, dd, dd, dd, dd, dd, dd, dd, dd, dd, dd, dd, dd, dd, dd, dd, dd, dd, dd, dd, dd, dd, dd, dd, dd, dd, dd, dd, dd, dd, dd, dd, dd, dd, dd, dd, dd, dd, dd, dd, dd, dd, dd, dd, dd, dd, dd, dd, dd, dd, dd], [.box ((cA_t49 v_r340.1).map FV.d), .box ((cA_t49 v_r365.1).map FV.d)]⟩
def G_ringlaw2_TableTells_C17 (n : Nat) (v_r340 : ((Fin 8 → S_table_Node) × Int)) (v_r365 : ((Fin 8 → S_table_Node) × Int)) : Option G_ringlaw2_TableTells_C17_R :=
  (G_ringlaw2_TableTells_1 n v_r340.1).bind fun (v_r864 : (Bool)) =>
  if v_r864 = true then
   if v_r340.2 = 1 then
    (G_ringlaw2_TableTells_1 n v_r365.1).bind fun (v_r865 : (Bool)) =>
    if v_r865 = true then
     some (.x0 (v_r365.2 == 1))
    else
     some (.x0 false)
   else
    some (.x0 false)
  else
   some (.x0 false)
theorem G_ringlaw2_TableTells_C17_ok {Fi : Ex → PS → Prop} (hF : KC 315 Fi) (ks : List Fr) (n : Nat) (v_r340 : ((Fin 8 → S_table_Node) × Int)) (v_r365 : ((Fin 8 → S_table_Node) × Int))  (o : G_ringlaw2_TableTells_C17_R) (h : G_ringlaw2_TableTells_C17 n v_r340 v_r365 = some o) (q : RunE Try.prog 315 Fi ks (G_ringlaw2_TableTells_C17_ex o) (G_ringlaw2_TableTells_C17_st v_r340 v_r365 o)) : RunE Try.prog 315 Fi (.s (cL (cT (cR (cL (cR (cR (cR (cR (cR (cR (cR (cR (cR (cR (cR (cR (cR (cR (cR (cR (cR (cR (cR (cR (bodyOf Try.f5))))))))))))))))))))))))) :: ks) .normal (G_ringlaw2_TableTells_C17_hd v_r340 v_r365) := by
  unfold G_ringlaw2_TableTells_C17 at h
  obtain ⟨v_r864, h1156, h⟩ := bind_some h
  by_cases h1157 : v_r864 = true
  · rw [if_pos h1157] at h
    by_cases h1158 : v_r340.2 = 1
    · rw [if_pos h1158] at h
      obtain ⟨v_r865, h1159, h⟩ := bind_some h
      by_cases h1160 : v_r865 = true
      · rw [if_pos h1160] at h
        cases h
        exact pkk_sound TTok mix hF 1 (hs := [.c, .r (eB v_r864), .t true, .c, .c, .t true, .c, .c, .c, .r (eB v_r865), .t true, .c, .c]) (ts := []) (s := []) (l := [8]) (by kernel_rfl) (by kernel_rfl) (.cons (G_ringlaw2_TableTells_1_ok n v_r340.1 _ h1156) (.cons h1157 (.cons (bt h1158) (.cons (G_ringlaw2_TableTells_1_ok n v_r365.1 _ h1159) (.cons h1160 .nil))))) q
      · rw [if_neg h1160] at h
        cases h
        exact pkk_sound TTok mix hF 1 (hs := [.c, .r (eB v_r864), .t true, .c, .c, .t true, .c, .c, .c, .r (eB v_r865), .t false, .c, .c]) (ts := []) (s := []) (l := [8]) (by kernel_rfl) (by kernel_rfl) (.cons (G_ringlaw2_TableTells_1_ok n v_r340.1 _ h1156) (.cons h1157 (.cons (bt h1158) (.cons (G_ringlaw2_TableTells_1_ok n v_r365.1 _ h1159) (.cons (vf h1160) .nil))))) q
    · rw [if_neg h1158] at h
      cases h
      exact pkk_sound TTok mix hF 1 (hs := [.c, .r (eB v_r864), .t true, .c, .c, .t false, .c, .c, .c, .c, .c]) (ts := []) (s := []) (l := [8]) (by kernel_rfl) (by kernel_rfl) (.cons (G_ringlaw2_TableTells_1_ok n v_r340.1 _ h1156) (.cons h1157 (.cons (bf h1158) .nil))) q
  · rw [if_neg h1157] at h
    cases h
    exact pkk_sound TTok mix hF 1 (hs := [.c, .r (eB v_r864), .t false, .c, .c, .c, .c, .c, .c, .c, .c]) (ts := []) (s := []) (l := [8]) (by kernel_rfl) (by kernel_rfl) (.cons (G_ringlaw2_TableTells_1_ok n v_r340.1 _ h1156) (.cons (vf h1157) .nil)) q
inductive G_ringlaw2_TableTells_C18_R where
  | x0 (v_x874 : Bool)
def G_ringlaw2_TableTells_C18_ex : G_ringlaw2_TableTells_C18_R → Ex
  | .x0 _ => .normal
def G_ringlaw2_TableTells_C18_st (v_p2 : Int) (v_k4 : Int) (v_r267 : (S_entry_Entry × Int)) (v_r321 : ((Fin 8 → S_table_Node) × Int)) (v_r340 : ((Fin 8 → S_table_Node) × Int)) (v_r365 : ((Fin 8 → S_table_Node) × Int)) (v_r378 : (Int × Int × Int)) (v_r461 : (Int)) (v_z771 : Int) (v_t1 : (Fin 8 → S_table_Node)) (v_x3 : S_entry_Entry) : G_ringlaw2_TableTells_C18_R → PS
  | .x0 v_x874 => ⟨[dd, .d (.v (.int .i64 v_p2)), dd, .d (.v (.int .i64 v_k4)), .ref 0 0, dd, .ref 1 0, dd, dd, .ref 2 0, dd, .ref 3 0, dd, .ref 4 0, .d (.v (.int .i64 v_r340.2)), .ref 5 0, .d (.v (.int .i64 v_r365.2)), .d (.v (.int .i64 v_r378.1)), .d (.v (.int .i64 v_r378.2.1)), dd, .d (.v (.int .i64 v_r461)), .d (.clo 33 []), .d (.v (.int .i64 v_r461)), .d (.v (.int .i64 v_z771)), .d (.v (.int .i64 v_r461)), dd, dd, dd, dd, dd, dd, dd, dd, dd, dd, dd, dd, dd, dd, dd, dd, dd, dd, dd, dd, dd, dd, dd, dd, dd, dd, dd, dd, dd, dd, dd, dd, dd, dd, dd, dd, dd, dd, dd, dd, dd, dd, dd, dd, dd, dd, dd, dd, dd, dd, dd, dd, dd, dd, dd, dd, dd, dd, dd, dd, dd, dd, dd, dd, dd, dd, dd, dd, dd, dd, dd, dd, dd, dd, dd, dd, dd, dd, dd, dd, dd, dd, dd, dd, dd, dd, dd, dd, dd, dd, dd, dd, dd, dd, dd, dd, dd, dd, dd, dd, dd, dd, dd, dd, dd, .d (.v (.bool v_x874)), dd, dd, dd, dd, dd, dd, dd, dd, dd, dd, dd, dd, dd, dd, dd, dd, dd, dd, dd, dd, dd, dd, dd, dd, dd, dd, dd, dd, dd, dd, dd, dd, dd, dd, dd, dd, dd, dd, dd, dd, dd, dd, dd, dd, dd, dd, dd, dd, dd, dd, dd, dd, dd, dd, dd, dd, dd, dd, dd, dd, dd, dd, dd, dd, dd, dd, dd, dd, dd, dd, dd, dd, dd, dd, dd, dd, dd, dd, dd, dd, dd, dd, dd, dd, dd, dd, dd, dd, dd, dd, dd, dd, dd, dd, dd, dd, dd, dd, dd, dd, dd, dd, dd, dd, dd, dd, dd, dd, dd, dd, dd, dd, dd, dd, dd, dd, dd, dd, dd, dd, dd, dd, dd, dd, dd, dd, dd, dd, dd, dd, dd, dd, dd, dd, dd, dd, dd, dd, dd, dd, dd, dd, dd, dd, dd, dd, dd, dd, dd, dd, dd, dd, dd, dd, dd, dd, dd, dd, dd, dd, dd, dd, dd, dd, dd, dd, dd, dd, dd, dd, dd, dd, dd, dd, dd, dd, dd, dd, dd, dd, dd, dd, dd, dd], [.box ((cA_t49 v_t1).map FV.d), .box [.d (.v (.bool v_x3.fHere)), .d (.v (.bool v_x3.fSlot)), .d (.v (.int .i64 v_x3.fAt)), .d (.v (.int .i64 v_x3.fRights)), .d (.v (.bool v_x3.fUsed)), .d (.v (.bool v_x3.fDirty)), .d (.v (.bool v_x3.fCopy))], .box [.d (.v (.bool v_r267.1.fHere)), .d (.v (.bool v_r267.1.fSlot)), .d (.v (.int .i64 v_r267.1.fAt)), .d (.v (.int .i64 v_r267.1.fRights)), .d (.v (.bool v_r267.1.fUsed)), .d (.v (.bool v_r267.1.fDirty)), .d (.v (.bool v_r267.1.fCopy))], .box ((cA_t49 v_r321.1).map FV.d), .box ((cA_t49 v_r340.1).map FV.d), .box ((cA_t49 v_r365.1).map FV.d)]⟩
def G_ringlaw2_TableTells_C18_hd (v_p2 : Int) (v_k4 : Int) (v_r267 : (S_entry_Entry × Int)) (v_r321 : ((Fin 8 → S_table_Node) × Int)) (v_r340 : ((Fin 8 → S_table_Node) × Int)) (v_r365 : ((Fin 8 → S_table_Node) × Int)) (v_r378 : (Int × Int × Int)) (v_r461 : (Int)) (v_z771 : Int) (v_t1 : (Fin 8 → S_table_Node)) (v_x3 : S_entry_Entry)  : PS := ⟨[dd, .d (.v (.int .i64 v_p2)), dd, .d (.v (.int .i64 v_k4)), .ref 0 0, dd, .ref 1 0, dd, dd, .ref 2 0, .d (.v (.int .i64 v_r267.2)), .ref 3 0, .d (.v (.int .i64 v_r321.2)), .ref 4 0, .d (.v (.int .i64 v_r340.2)), .ref 5 0, .d (.v (.int .i64 v_r365.2)), .d (.v (.int .i64 v_r378.1)), .d (.v (.int .i64 v_r378.2.1)), .d (.v (.int .i64 v_r378.2.2)), .d (.v (.int .i64 v_r461)), .d (.clo 33 []), .d (.v (.int .i64 v_r461)), .d (.v (.int .i64 v_z771)), .d (.v (.int .i64 v_r461)), dd, dd, dd, dd, dd, dd, dd, dd, dd, dd, dd, dd, dd, dd, dd, dd, dd, dd, dd, dd, dd, dd, dd, dd, dd, dd, dd, dd, dd, dd, dd, dd, dd, dd, dd, dd, dd, dd, dd, dd, dd, dd, dd, dd, dd, dd, dd, dd, dd, dd, dd, dd, dd, dd, dd, dd, dd, dd, dd, dd, dd, dd, dd, dd, dd, dd, dd, dd, dd, dd, dd, dd, dd, dd, dd, dd, dd, dd, dd, dd, dd, dd, dd, dd, dd, dd, dd, dd, dd, dd, dd, dd, dd, dd, dd, dd, dd, dd, dd, dd, dd, dd, dd, dd, dd, dd, dd, dd, dd, dd, dd, dd, dd, dd, dd, dd, dd, dd, dd, dd, dd, dd, dd, dd, dd, dd, dd, dd, dd, dd, dd, dd, dd, dd, dd, dd, dd, dd, dd, dd, dd, dd, dd, dd, dd, dd, dd, dd, dd, dd, dd, dd, dd, dd, dd, dd, dd, dd, dd, dd, dd, dd, dd, dd, dd, dd, dd, dd, dd, dd, dd, dd, dd, dd, dd, dd, dd, dd, dd, dd, dd, dd, dd, dd, dd, dd, dd, dd, dd, dd, dd, dd, dd, dd, dd, dd, dd, dd, dd, dd, dd, dd, dd, dd, dd, dd, dd, dd, dd, dd, dd, dd, dd, dd, dd, dd, dd, dd, dd, dd, dd, dd, dd, dd, dd, dd, dd, dd, dd, dd, dd, dd, dd, dd, dd, dd, dd, dd, dd, dd, dd, dd, dd, dd, dd, dd, dd, dd, dd, dd, dd, dd, dd, dd, dd, dd, dd, dd, dd, dd, dd, dd, dd, dd, dd, dd, dd, dd, dd, dd, dd, dd, dd, dd, dd, dd, dd, dd, dd, dd, dd, dd, dd, dd, dd, dd, dd, dd, dd, dd], [.box ((cA_t49 v_t1).map FV.d), .box [.d (.v (.bool v_x3.fHere)), .d (.v (.bool v_x3.fSlot)), .d (.v (.int .i64 v_x3.fAt)), .d (.v (.int .i64 v_x3.fRights)), .d (.v (.bool v_x3.fUsed)), .d (.v (.bool v_x3.fDirty)), .d (.v (.bool v_x3.fCopy))], .box [.d (.v (.bool v_r267.1.fHere)), .d (.v (.bool v_r267.1.fSlot)), .d (.v (.int .i64 v_r267.1.fAt)), .d (.v (.int .i64 v_r267.1.fRights)), .d (.v (.bool v_r267.1.fUsed)), .d (.v (.bool v_r267.1.fDirty)), .d (.v (.bool v_r267.1.fCopy))], .box ((cA_t49 v_r321.1).map FV.d), .box ((cA_t49 v_r340.1).map FV.d), .box ((cA_t49 v_r365.1).map FV.d)]⟩
def G_ringlaw2_TableTells_C18 (n : Nat) (v_p2 : Int) (v_k4 : Int) (v_r267 : (S_entry_Entry × Int)) (v_r321 : ((Fin 8 → S_table_Node) × Int)) (v_r340 : ((Fin 8 → S_table_Node) × Int)) (v_r365 : ((Fin 8 → S_table_Node) × Int)) (v_r378 : (Int × Int × Int)) (v_r461 : (Int)) (v_z771 : Int) (v_t1 : (Fin 8 → S_table_Node)) (v_x3 : S_entry_Entry) : Option G_ringlaw2_TableTells_C18_R :=
  if v_r267.2 = v_r461 then
   if v_r321.2 = v_z771 then
    if v_r378.2.2 = v_r461 then
     if v_r461 = 0 then
      if v_z771 = 0 then
       some (.x0 false)
      else
       (G_ringlaw2_TableTells_1 n v_r321.1).bind fun (v_r882 : (Bool)) =>
       if v_r882 = true then
        some (.x0 false)
       else
        some (.x0 true)
     else
      if (eqRes .neq (eqS_entry_Entry v_r267.1 (S_entry_Entry.mk false false 0 0 false false false))) = true then
       some (.x0 true)
      else
       if v_z771 = 0 then
        some (.x0 ((wi .i64 (v_r378.1 + v_r378.2.1)) != 0))
       else
        (G_ringlaw2_TableTells_1 n v_r321.1).bind fun (v_r878 : (Bool)) =>
        if v_r878 = true then
         some (.x0 ((wi .i64 (v_r378.1 + v_r378.2.1)) != 0))
        else
         some (.x0 true)
    else
     some (.x0 true)
   else
    some (.x0 true)
  else
   some (.x0 true)
theorem G_ringlaw2_TableTells_C18_ok {Fi : Ex → PS → Prop} (hF : KC 315 Fi) (ks : List Fr) (n : Nat) (v_p2 : Int) (v_k4 : Int) (v_r267 : (S_entry_Entry × Int)) (v_r321 : ((Fin 8 → S_table_Node) × Int)) (v_r340 : ((Fin 8 → S_table_Node) × Int)) (v_r365 : ((Fin 8 → S_table_Node) × Int)) (v_r378 : (Int × Int × Int)) (v_r461 : (Int)) (v_z771 : Int) (v_t1 : (Fin 8 → S_table_Node)) (v_x3 : S_entry_Entry)  (o : G_ringlaw2_TableTells_C18_R) (h : G_ringlaw2_TableTells_C18 n v_p2 v_k4 v_r267 v_r321 v_r340 v_r365 v_r378 v_r461 v_z771 v_t1 v_x3 = some o) (q : RunE Try.prog 315 Fi ks (G_ringlaw2_TableTells_C18_ex o) (G_ringlaw2_TableTells_C18_st v_p2 v_k4 v_r267 v_r321 v_r340 v_r365 v_r378 v_r461 v_z771 v_t1 v_x3 o)) : RunE Try.prog 315 Fi (.s (cL (cL (cR (cR (cR (cR (cR (cR (cR (cR (cR (cR (cR (cR (cR (bodyOf Try.f5)))))))))))))))) :: ks) .normal (G_ringlaw2_TableTells_C18_hd v_p2 v_k4 v_r267 v_r321 v_r340 v_r365 v_r378 v_r461 v_z771 v_t1 v_x3) := by
  unfold G_ringlaw2_TableTells_C18 at h
  by_cases h1173 : v_r267.2 = v_r461
  · rw [if_pos h1173] at h
    by_cases h1174 : v_r321.2 = v_z771
    · rw [if_pos h1174] at h
      by_cases h1175 : v_r378.2.2 = v_r461
      · rw [if_pos h1175] at h
        by_cases h1176 : v_r461 = 0
        · rw [if_pos h1176] at h
          by_cases h1181 : v_z771 = 0
          · rw [if_pos h1181] at h
            cases h
            exact pkk_sound TTok mix hF 1 (hs := [.t false, .c, .c, .t false, .c, .c, .t false, .c, .c, .t false, .c, .c, .c, .c, .c, .c, .t false, .c, .c, .c, .c, .c, .c, .c, .t false, .c, .c, .c, .c]) (ts := []) (s := [0, 1, 2, 3, 4, 5]) (l := [1, 3, 4, 6, 9, 11, 13, 14, 15, 16, 17, 18, 20, 21, 22, 23, 24, 130]) (by kernel_rfl) (by kernel_rfl) (.cons (nf h1173) (.cons (nf h1174) (.cons (nf h1175) (.cons (nf h1176) (.cons (nf h1181) (.cons (nf h1176) .nil)))))) q
          · rw [if_neg h1181] at h
            obtain ⟨v_r882, h1182, h⟩ := bind_some h
            by_cases h1183 : v_r882 = true
            · rw [if_pos h1183] at h
              cases h
              exact pkk_sound TTok mix hF 1 (hs := [.t false, .c, .c, .t false, .c, .c, .t false, .c, .c, .t false, .c, .c, .c, .c, .c, .c, .t true, .c, .c, .c, .r (eB v_r882), .c, .c, .t false, .c, .c, .t false, .c, .c, .c, .c]) (ts := []) (s := [0, 1, 2, 3, 4, 5]) (l := [1, 3, 4, 6, 9, 11, 13, 14, 15, 16, 17, 18, 20, 21, 22, 23, 24, 130]) (by kernel_rfl) (by kernel_rfl) (.cons (nf h1173) (.cons (nf h1174) (.cons (nf h1175) (.cons (nf h1176) (.cons (nt h1181) (.cons (G_ringlaw2_TableTells_1_ok n v_r321.1 _ h1182) (.cons (bnf h1183) (.cons (nf h1176) .nil)))))))) q
            · rw [if_neg h1183] at h
              cases h
              exact pkk_sound TTok mix hF 1 (hs := [.t false, .c, .c, .t false, .c, .c, .t false, .c, .c, .t false, .c, .c, .c, .c, .c, .c, .t true, .c, .c, .c, .r (eB v_r882), .c, .c, .t true, .c, .c, .c]) (ts := []) (s := [0, 1, 2, 3, 4, 5]) (l := [1, 3, 4, 6, 9, 11, 13, 14, 15, 16, 17, 18, 20, 21, 22, 23, 24, 130]) (by kernel_rfl) (by kernel_rfl) (.cons (nf h1173) (.cons (nf h1174) (.cons (nf h1175) (.cons (nf h1176) (.cons (nt h1181) (.cons (G_ringlaw2_TableTells_1_ok n v_r321.1 _ h1182) (.cons (bnt (vf h1183)) .nil))))))) q
        · rw [if_neg h1176] at h
          by_cases h1177 : (eqRes .neq (eqS_entry_Entry v_r267.1 (S_entry_Entry.mk false false 0 0 false false false))) = true
          · rw [if_pos h1177] at h
            cases h
            exact pkk_sound TTok mix hF 1 (hs := [.t false, .c, .c, .t false, .c, .c, .t false, .c, .c, .t true, .c, .c, .c, .q (eqS_entry_Entry v_r267.1 (S_entry_Entry.mk false false 0 0 false false false)), .c, .t true, .c, .c, .c, .c, .c, .c, .c]) (ts := []) (s := [0, 1, 2, 3, 4, 5]) (l := [1, 3, 4, 6, 9, 11, 13, 14, 15, 16, 17, 18, 20, 21, 22, 23, 24, 130]) (by kernel_rfl) (by kernel_rfl) (.cons (nf h1173) (.cons (nf h1174) (.cons (nf h1175) (.cons (nt h1176) (.cons (eqS_entry_Entry_ok v_r267.1 (S_entry_Entry.mk false false 0 0 false false false)) (.cons h1177 .nil)))))) q
          · rw [if_neg h1177] at h
            by_cases h1178 : v_z771 = 0
            · rw [if_pos h1178] at h
              cases h
              exact pkk_sound TTok mix hF 1 (hs := [.t false, .c, .c, .t false, .c, .c, .t false, .c, .c, .t true, .c, .c, .c, .q (eqS_entry_Entry v_r267.1 (S_entry_Entry.mk false false 0 0 false false false)), .c, .t false, .c, .c, .t false, .c, .c, .c, .c, .c, .c, .c, .t true, .c, .c, .c, .c]) (ts := []) (s := [0, 1, 2, 3, 4, 5]) (l := [1, 3, 4, 6, 9, 11, 13, 14, 15, 16, 17, 18, 20, 21, 22, 23, 24, 130]) (by kernel_rfl) (by kernel_rfl) (.cons (nf h1173) (.cons (nf h1174) (.cons (nf h1175) (.cons (nt h1176) (.cons (eqS_entry_Entry_ok v_r267.1 (S_entry_Entry.mk false false 0 0 false false false)) (.cons (vf h1177) (.cons (nf h1178) (.cons (nt h1176) .nil)))))))) q
            · rw [if_neg h1178] at h
              obtain ⟨v_r878, h1179, h⟩ := bind_some h
              by_cases h1180 : v_r878 = true
              · rw [if_pos h1180] at h
                cases h
                exact pkk_sound TTok mix hF 1 (hs := [.t false, .c, .c, .t false, .c, .c, .t false, .c, .c, .t true, .c, .c, .c, .q (eqS_entry_Entry v_r267.1 (S_entry_Entry.mk false false 0 0 false false false)), .c, .t false, .c, .c, .t true, .c, .c, .c, .r (eB v_r878), .c, .c, .t false, .c, .c, .t true, .c, .c, .c, .c]) (ts := []) (s := [0, 1, 2, 3, 4, 5]) (l := [1, 3, 4, 6, 9, 11, 13, 14, 15, 16, 17, 18, 20, 21, 22, 23, 24, 130]) (by kernel_rfl) (by kernel_rfl) (.cons (nf h1173) (.cons (nf h1174) (.cons (nf h1175) (.cons (nt h1176) (.cons (eqS_entry_Entry_ok v_r267.1 (S_entry_Entry.mk false false 0 0 false false false)) (.cons (vf h1177) (.cons (nt h1178) (.cons (G_ringlaw2_TableTells_1_ok n v_r321.1 _ h1179) (.cons (bnf h1180) (.cons (nt h1176) .nil)))))))))) q
              · rw [if_neg h1180] at h
                cases h
                exact pkk_sound TTok mix hF 1 (hs := [.t false, .c, .c, .t false, .c, .c, .t false, .c, .c, .t true, .c, .c, .c, .q (eqS_entry_Entry v_r267.1 (S_entry_Entry.mk false false 0 0 false false false)), .c, .t false, .c, .c, .t true, .c, .c, .c, .r (eB v_r878), .c, .c, .t true, .c, .c, .c]) (ts := []) (s := [0, 1, 2, 3, 4, 5]) (l := [1, 3, 4, 6, 9, 11, 13, 14, 15, 16, 17, 18, 20, 21, 22, 23, 24, 130]) (by kernel_rfl) (by kernel_rfl) (.cons (nf h1173) (.cons (nf h1174) (.cons (nf h1175) (.cons (nt h1176) (.cons (eqS_entry_Entry_ok v_r267.1 (S_entry_Entry.mk false false 0 0 false false false)) (.cons (vf h1177) (.cons (nt h1178) (.cons (G_ringlaw2_TableTells_1_ok n v_r321.1 _ h1179) (.cons (bnt (vf h1180)) .nil))))))))) q
      · rw [if_neg h1175] at h
        cases h
        exact pkk_sound TTok mix hF 1 (hs := [.t false, .c, .c, .t false, .c, .c, .t true, .c, .c, .c, .c, .c, .c, .c, .c, .c, .c, .c]) (ts := []) (s := [0, 1, 2, 3, 4, 5]) (l := [1, 3, 4, 6, 9, 11, 13, 14, 15, 16, 17, 18, 20, 21, 22, 23, 24, 130]) (by kernel_rfl) (by kernel_rfl) (.cons (nf h1173) (.cons (nf h1174) (.cons (nt h1175) .nil))) q
    · rw [if_neg h1174] at h
      cases h
      exact pkk_sound TTok mix hF 1 (hs := [.t false, .c, .c, .t true, .c, .c, .c, .c, .c, .c, .c, .c, .c, .c, .c, .c, .c, .c]) (ts := []) (s := [0, 1, 2, 3, 4, 5]) (l := [1, 3, 4, 6, 9, 11, 13, 14, 15, 16, 17, 18, 20, 21, 22, 23, 24, 130]) (by kernel_rfl) (by kernel_rfl) (.cons (nf h1173) (.cons (nt h1174) .nil)) q
  · rw [if_neg h1173] at h
    cases h
    exact pkk_sound TTok mix hF 1 (hs := [.t true, .c, .c, .c, .c, .c, .c, .c, .c, .c, .c, .c, .c, .c, .c, .c, .c, .c]) (ts := []) (s := [0, 1, 2, 3, 4, 5]) (l := [1, 3, 4, 6, 9, 11, 13, 14, 15, 16, 17, 18, 20, 21, 22, 23, 24, 130]) (by kernel_rfl) (by kernel_rfl) (.cons (nt h1173) .nil) q
inductive G_ringlaw2_TableTells_L19_R where
  | x0 (v_n904 : Int) (v_all905 : Int)
def G_ringlaw2_TableTells_L19_ex : G_ringlaw2_TableTells_L19_R → Ex
  | .x0 _ _ => .exit 0
def G_ringlaw2_TableTells_L19_st (v_p2 : Int) (v_k4 : Int) (v_r340 : ((Fin 8 → S_table_Node) × Int)) (v_r365 : ((Fin 8 → S_table_Node) × Int)) (v_r378 : (Int × Int × Int)) (v_r461 : (Int)) (v_z771 : Int) (v_t1 : (Fin 8 → S_table_Node)) (v_x3 : S_entry_Entry) (v_r267 : (S_entry_Entry × Int)) (v_r321 : ((Fin 8 → S_table_Node) × Int)) (v_r898 : ((Fin 64 → S_entry_Entry))) : G_ringlaw2_TableTells_L19_R → PS
  | .x0 v_n904 v_all905 => ⟨[dd, .d (.v (.int .i64 v_p2)), dd, .d (.v (.int .i64 v_k4)), .ref 0 0, dd, .ref 1 0, dd, dd, .ref 2 0, dd, .ref 3 0, dd, .ref 4 0, .d (.v (.int .i64 v_r340.2)), .ref 5 0, .d (.v (.int .i64 v_r365.2)), .d (.v (.int .i64 v_r378.1)), .d (.v (.int .i64 v_r378.2.1)), dd, dd, .d (.clo 33 []), .d (.v (.int .i64 v_r461)), .d (.v (.int .i64 v_z771)), .d (.v (.int .i64 v_r461)), .ref 6 0, .d (.v (.int .i64 v_n904)), .d (.v (.int .i64 v_all905)), dd, dd, dd, dd, dd, dd, dd, dd, dd, dd, dd, dd, dd, dd, dd, dd, dd, dd, dd, dd, dd, dd, dd, dd, dd, dd, dd, dd, dd, dd, dd, dd, dd, dd, dd, dd, dd, dd, dd, dd, dd, dd, dd, dd, dd, dd, dd, dd, dd, dd, dd, dd, dd, dd, dd, dd, dd, dd, dd, dd, dd, dd, dd, dd, dd, dd, dd, dd, dd, dd, dd, dd, dd, dd, dd, dd, dd, dd, dd, dd, dd, dd, dd, dd, dd, dd, dd, dd, dd, dd, dd, dd, dd, dd, dd, dd, dd, dd, dd, dd, dd, dd, dd, dd, dd, dd, dd, dd, dd, dd, dd, dd, dd, dd, dd, dd, dd, dd, dd, dd, dd, dd, dd, dd, dd, dd, dd, dd, dd, dd, dd, dd, dd, dd, dd, dd, dd, dd, dd, dd, dd, dd, dd, dd, dd, dd, dd, dd, dd, dd, dd, dd, dd, dd, dd, dd, dd, dd, dd, dd, dd, dd, dd, dd, dd, dd, dd, dd, dd, dd, dd, dd, dd, dd, dd, dd, dd, dd, dd, dd, dd, dd, dd, dd, dd, dd, dd, dd, dd, dd, dd, dd, dd, dd, dd, dd, dd, dd, dd, dd, dd, dd, dd, dd, dd, dd, dd, dd, dd, dd, dd, dd, dd, dd, dd, dd, dd, dd, dd, dd, dd, dd, dd, dd, dd, dd, dd, dd, dd, dd, dd, dd, dd, dd, dd, dd, dd, dd, dd, dd, dd, dd, dd, dd, dd, dd, dd, dd, dd, dd, dd, dd, dd, dd, dd, dd, dd, dd, dd, dd, dd, dd, dd, dd, dd, dd, dd, dd, dd, dd, dd, dd, dd, dd, dd, dd, dd, dd, dd, dd, dd, dd, dd, dd, dd, dd, dd], [.box ((cA_t49 v_t1).map FV.d), .box [.d (.v (.bool v_x3.fHere)), .d (.v (.bool v_x3.fSlot)), .d (.v (.int .i64 v_x3.fAt)), .d (.v (.int .i64 v_x3.fRights)), .d (.v (.bool v_x3.fUsed)), .d (.v (.bool v_x3.fDirty)), .d (.v (.bool v_x3.fCopy))], .box [.d (.v (.bool v_r267.1.fHere)), .d (.v (.bool v_r267.1.fSlot)), .d (.v (.int .i64 v_r267.1.fAt)), .d (.v (.int .i64 v_r267.1.fRights)), .d (.v (.bool v_r267.1.fUsed)), .d (.v (.bool v_r267.1.fDirty)), .d (.v (.bool v_r267.1.fCopy))], .box ((cA_t49 v_r321.1).map FV.d), .box ((cA_t49 v_r340.1).map FV.d), .box ((cA_t49 v_r365.1).map FV.d), .box ((cA_t61 v_r898).map FV.d)]⟩
def G_ringlaw2_TableTells_L19_hd (v_p2 : Int) (v_k4 : Int) (v_r340 : ((Fin 8 → S_table_Node) × Int)) (v_r365 : ((Fin 8 → S_table_Node) × Int)) (v_r378 : (Int × Int × Int)) (v_r461 : (Int)) (v_z771 : Int) (v_t1 : (Fin 8 → S_table_Node)) (v_x3 : S_entry_Entry) (v_r267 : (S_entry_Entry × Int)) (v_r321 : ((Fin 8 → S_table_Node) × Int)) (v_r898 : ((Fin 64 → S_entry_Entry))) (v_n899 : Int) (v_all900 : Int) (v_x901 : Int) : PS := ⟨[dd, .d (.v (.int .i64 v_p2)), dd, .d (.v (.int .i64 v_k4)), .ref 0 0, dd, .ref 1 0, dd, dd, .ref 2 0, dd, .ref 3 0, dd, .ref 4 0, .d (.v (.int .i64 v_r340.2)), .ref 5 0, .d (.v (.int .i64 v_r365.2)), .d (.v (.int .i64 v_r378.1)), .d (.v (.int .i64 v_r378.2.1)), dd, dd, .d (.clo 33 []), .d (.v (.int .i64 v_r461)), .d (.v (.int .i64 v_z771)), .d (.v (.int .i64 v_r461)), .ref 6 0, .d (.v (.int .i64 v_n899)), .d (.v (.int .i64 v_all900)), dd, dd, dd, dd, dd, dd, dd, dd, dd, dd, dd, dd, dd, dd, dd, dd, dd, dd, dd, dd, dd, dd, dd, dd, dd, dd, dd, dd, dd, dd, dd, dd, dd, dd, dd, dd, dd, dd, dd, dd, dd, dd, dd, dd, dd, dd, dd, dd, dd, dd, dd, dd, dd, dd, dd, dd, dd, dd, dd, dd, dd, dd, dd, dd, dd, dd, dd, dd, dd, dd, dd, dd, dd, dd, dd, dd, dd, dd, dd, dd, dd, dd, dd, dd, dd, dd, dd, dd, dd, dd, dd, dd, dd, dd, dd, dd, dd, dd, dd, dd, dd, dd, dd, dd, dd, dd, dd, dd, dd, dd, dd, dd, dd, dd, dd, dd, dd, dd, dd, dd, dd, dd, dd, dd, dd, .d (.agg (cA_t49 v_t1)), .d (.v (.int .i64 v_x901)), dd, dd, dd, dd, dd, dd, dd, dd, dd, dd, dd, dd, dd, dd, dd, dd, dd, dd, dd, dd, dd, dd, dd, dd, dd, dd, dd, dd, dd, dd, dd, dd, dd, dd, dd, dd, dd, dd, dd, dd, dd, dd, dd, dd, dd, dd, dd, dd, dd, dd, dd, dd, dd, dd, dd, dd, dd, dd, dd, dd, dd, dd, dd, dd, dd, dd, dd, dd, dd, dd, dd, dd, dd, dd, dd, dd, dd, dd, dd, dd, dd, dd, dd, dd, dd, dd, dd, dd, dd, dd, dd, dd, dd, dd, dd, dd, dd, dd, dd, dd, dd, dd, dd, dd, dd, dd, dd, dd, dd, dd, dd, dd, dd, dd, dd, dd, dd, dd, dd, dd, dd, dd, dd, dd, dd, dd, dd, dd, dd, dd, dd, dd, dd, dd, dd, dd, dd, dd, dd, dd, dd, dd, dd, dd, dd, dd, dd, dd, dd, dd, dd, dd, dd, dd, dd, dd, dd, dd, dd, dd], [.box ((cA_t49 v_t1).map FV.d), .box [.d (.v (.bool v_x3.fHere)), .d (.v (.bool v_x3.fSlot)), .d (.v (.int .i64 v_x3.fAt)), .d (.v (.int .i64 v_x3.fRights)), .d (.v (.bool v_x3.fUsed)), .d (.v (.bool v_x3.fDirty)), .d (.v (.bool v_x3.fCopy))], .box [.d (.v (.bool v_r267.1.fHere)), .d (.v (.bool v_r267.1.fSlot)), .d (.v (.int .i64 v_r267.1.fAt)), .d (.v (.int .i64 v_r267.1.fRights)), .d (.v (.bool v_r267.1.fUsed)), .d (.v (.bool v_r267.1.fDirty)), .d (.v (.bool v_r267.1.fCopy))], .box ((cA_t49 v_r321.1).map FV.d), .box ((cA_t49 v_r340.1).map FV.d), .box ((cA_t49 v_r365.1).map FV.d), .box ((cA_t61 v_r898).map FV.d)]⟩
def G_ringlaw2_TableTells_L19 (n : Nat) (v_p2 : Int) (v_k4 : Int) (v_r340 : ((Fin 8 → S_table_Node) × Int)) (v_r365 : ((Fin 8 → S_table_Node) × Int)) (v_r378 : (Int × Int × Int)) (v_r461 : (Int)) (v_z771 : Int) (v_t1 : (Fin 8 → S_table_Node)) (v_x3 : S_entry_Entry) (v_r267 : (S_entry_Entry × Int)) (v_r321 : ((Fin 8 → S_table_Node) × Int)) (v_r898 : ((Fin 64 → S_entry_Entry))) : Nat → Int → Int → Int → Option G_ringlaw2_TableTells_L19_R
  | 0, _, _, _ => none
  | k + 1, v_n899, v_all900, v_x901 =>
    if v_x901 < 8 then
     (getA v_t1 v_x901).bind fun (v_y903 : S_table_Node) =>
     if (v_y903.fEntries.length : Int) > 0 then
      G_ringlaw2_TableTells_L19 n v_p2 v_k4 v_r340 v_r365 v_r378 v_r461 v_z771 v_t1 v_x3 v_r267 v_r321 v_r898 k (wi .i64 (v_n899 + 1)) (wi .i64 (v_all900 + (v_y903.fEntries.length : Int))) (wi .i64 (v_x901 + 1))
     else
      G_ringlaw2_TableTells_L19 n v_p2 v_k4 v_r340 v_r365 v_r378 v_r461 v_z771 v_t1 v_x3 v_r267 v_r321 v_r898 k v_n899 (wi .i64 (v_all900 + (v_y903.fEntries.length : Int))) (wi .i64 (v_x901 + 1))
    else
     some (.x0 v_n899 v_all900)
theorem G_ringlaw2_TableTells_L19_ok {Fi : Ex → PS → Prop} (hF : KC 315 Fi) (ks : List Fr) (n : Nat) (v_p2 : Int) (v_k4 : Int) (v_r340 : ((Fin 8 → S_table_Node) × Int)) (v_r365 : ((Fin 8 → S_table_Node) × Int)) (v_r378 : (Int × Int × Int)) (v_r461 : (Int)) (v_z771 : Int) (v_t1 : (Fin 8 → S_table_Node)) (v_x3 : S_entry_Entry) (v_r267 : (S_entry_Entry × Int)) (v_r321 : ((Fin 8 → S_table_Node) × Int)) (v_r898 : ((Fin 64 → S_entry_Entry)))  : ∀ (k : Nat) (v_n899 : Int) (v_all900 : Int) (v_x901 : Int) (o : G_ringlaw2_TableTells_L19_R), G_ringlaw2_TableTells_L19 n v_p2 v_k4 v_r340 v_r365 v_r378 v_r461 v_z771 v_t1 v_x3 v_r267 v_r321 v_r898 k v_n899 v_all900 v_x901 = some o → RunE Try.prog 315 Fi ks (G_ringlaw2_TableTells_L19_ex o) (G_ringlaw2_TableTells_L19_st v_p2 v_k4 v_r340 v_r365 v_r378 v_r461 v_z771 v_t1 v_x3 v_r267 v_r321 v_r898 o) → RunE Try.prog 315 Fi (.l k (cP (cB (cR (cL (cR (cR (cR (cR (cR (cR (cR (cR (cR (cR (cR (cR (cR (cR (cR (cR (cR (bodyOf Try.f5)))))))))))))))))))))) :: ks) .normal (G_ringlaw2_TableTells_L19_hd v_p2 v_k4 v_r340 v_r365 v_r378 v_r461 v_z771 v_t1 v_x3 v_r267 v_r321 v_r898 v_n899 v_all900 v_x901)
  | 0, v_n899, v_all900, v_x901, o, h, q => by rw [G_ringlaw2_TableTells_L19] at h; cases h
  | k + 1, v_n899, v_all900, v_x901, o, h, q => by
    rw [G_ringlaw2_TableTells_L19] at h
    by_cases h1199 : v_x901 < 8
    · rw [if_pos h1199] at h
      obtain ⟨v_y903, h1203, h⟩ := bind_some h
      by_cases h1205 : (v_y903.fEntries.length : Int) > 0
      · rw [if_pos h1205] at h
        exact pkk_sound TTok mix hF 18 (hs := [.t true, .l (.d (.agg [.v (.bool v_y903.fHuge), .sl (v_y903.fEntries.map eS_entry_Entry)])), .c, .c, .u (.d (.v (.int .i64 (v_y903.fEntries.length : Int)))), .c, .u (.d (.v (.int .i64 (v_y903.fEntries.length : Int)))), .t true]) (ts := []) (s := [0, 1, 2, 3, 4, 5, 6]) (l := [1, 3, 4, 6, 9, 11, 13, 14, 15, 16, 17, 18, 21, 22, 23, 24, 25, 26, 27, 153, 154]) (by kernel_rfl) (by kernel_rfl) (.cons (dt h1199) (.cons (arr_idx (sz := 2) (g := (fun x => [.d (.v (.bool x.fHuge)), .d (.sl (x.fEntries.map eS_entry_Entry))])) (fun _ => rfl) h1203) (.cons (show 0 + 2 ≤ 2 by decide) (.cons (len_ob (f := eS_entry_Entry) (l := v_y903.fEntries)) (.cons (len_ob (f := eS_entry_Entry) (l := v_y903.fEntries)) (.cons (dt h1205) .nil)))))) (G_ringlaw2_TableTells_L19_ok hF ks n v_p2 v_k4 v_r340 v_r365 v_r378 v_r461 v_z771 v_t1 v_x3 v_r267 v_r321 v_r898 k (wi .i64 (v_n899 + 1)) (wi .i64 (v_all900 + (v_y903.fEntries.length : Int))) (wi .i64 (v_x901 + 1)) _ h q)
      · rw [if_neg h1205] at h
        exact pkk_sound TTok mix hF 18 (hs := [.t true, .l (.d (.agg [.v (.bool v_y903.fHuge), .sl (v_y903.fEntries.map eS_entry_Entry)])), .c, .c, .u (.d (.v (.int .i64 (v_y903.fEntries.length : Int)))), .c, .u (.d (.v (.int .i64 (v_y903.fEntries.length : Int)))), .t false]) (ts := []) (s := [0, 1, 2, 3, 4, 5, 6]) (l := [1, 3, 4, 6, 9, 11, 13, 14, 15, 16, 17, 18, 21, 22, 23, 24, 25, 26, 27, 153, 154]) (by kernel_rfl) (by kernel_rfl) (.cons (dt h1199) (.cons (arr_idx (sz := 2) (g := (fun x => [.d (.v (.bool x.fHuge)), .d (.sl (x.fEntries.map eS_entry_Entry))])) (fun _ => rfl) h1203) (.cons (show 0 + 2 ≤ 2 by decide) (.cons (len_ob (f := eS_entry_Entry) (l := v_y903.fEntries)) (.cons (len_ob (f := eS_entry_Entry) (l := v_y903.fEntries)) (.cons (df h1205) .nil)))))) (G_ringlaw2_TableTells_L19_ok hF ks n v_p2 v_k4 v_r340 v_r365 v_r378 v_r461 v_z771 v_t1 v_x3 v_r267 v_r321 v_r898 k v_n899 (wi .i64 (v_all900 + (v_y903.fEntries.length : Int))) (wi .i64 (v_x901 + 1)) _ h q)
    · rw [if_neg h1199] at h
      cases h
      exact pkk_sound TTok mix hF 8 (hs := [.t false]) (ts := []) (s := [0, 1, 2, 3, 4, 5, 6]) (l := [1, 3, 4, 6, 9, 11, 13, 14, 15, 16, 17, 18, 21, 22, 23, 24, 25, 26, 27]) (by kernel_rfl) (by kernel_rfl) (.cons (df h1199) .nil) q
inductive G_ringlaw2_TableTells_C20_R where
  | x0 (v_x911 : Bool)
def G_ringlaw2_TableTells_C20_ex : G_ringlaw2_TableTells_C20_R → Ex
  | .x0 _ => .normal
def G_ringlaw2_TableTells_C20_st (v_p2 : Int) (v_k4 : Int) (v_r340 : ((Fin 8 → S_table_Node) × Int)) (v_r365 : ((Fin 8 → S_table_Node) × Int)) (v_r378 : (Int × Int × Int)) (v_r461 : (Int)) (v_z771 : Int) (v_z907 : Int) (v_z908 : Int) (v_t1 : (Fin 8 → S_table_Node)) (v_x3 : S_entry_Entry) (v_r267 : (S_entry_Entry × Int)) (v_r321 : ((Fin 8 → S_table_Node) × Int)) (v_r898 : ((Fin 64 → S_entry_Entry))) : G_ringlaw2_TableTells_C20_R → PS
  | .x0 v_x911 => ⟨[dd, .d (.v (.int .i64 v_p2)), dd, .d (.v (.int .i64 v_k4)), .ref 0 0, dd, .ref 1 0, dd, dd, dd, dd, .ref 2 0, dd, .ref 3 0, .d (.v (.int .i64 v_r340.2)), .ref 4 0, .d (.v (.int .i64 v_r365.2)), dd, dd, dd, dd, .d (.clo 33 []), dd, .d (.v (.int .i64 v_z771)), .d (.v (.int .i64 v_r461)), .ref 5 0, dd, dd, dd, dd, dd, dd, dd, dd, dd, dd, dd, dd, dd, dd, dd, dd, dd, dd, dd, dd, dd, dd, dd, dd, dd, dd, dd, dd, dd, dd, dd, dd, dd, dd, dd, dd, dd, dd, dd, dd, dd, dd, dd, dd, dd, dd, dd, dd, dd, dd, dd, dd, dd, dd, dd, dd, dd, dd, dd, dd, dd, dd, dd, dd, dd, dd, dd, dd, dd, dd, dd, dd, dd, dd, dd, dd, dd, dd, dd, dd, dd, dd, dd, dd, dd, dd, dd, dd, dd, dd, dd, dd, dd, dd, dd, dd, dd, dd, dd, dd, dd, dd, dd, dd, dd, dd, dd, dd, dd, dd, dd, dd, dd, dd, dd, dd, dd, dd, dd, dd, dd, dd, dd, dd, dd, dd, dd, dd, dd, dd, dd, dd, dd, dd, dd, dd, dd, dd, dd, dd, dd, dd, dd, dd, dd, dd, dd, dd, dd, dd, dd, dd, dd, dd, dd, dd, dd, dd, dd, dd, dd, .d (.v (.bool v_x911)), dd, dd, dd, dd, dd, dd, dd, dd, dd, dd, dd, dd, dd, dd, dd, dd, dd, dd, dd, dd, dd, dd, dd, dd, dd, dd, dd, dd, dd, dd, dd, dd, dd, dd, dd, dd, dd, dd, dd, dd, dd, dd, dd, dd, dd, dd, dd, dd, dd, dd, dd, dd, dd, dd, dd, dd, dd, dd, dd, dd, dd, dd, dd, dd, dd, dd, dd, dd, dd, dd, dd, dd, dd, dd, dd, dd, dd, dd, dd, dd, dd, dd, dd, dd, dd, dd, dd, dd, dd, dd, dd, dd, dd, dd, dd, dd, dd, dd, dd, dd, dd, dd, dd, dd, dd, dd, dd, dd, dd, dd, dd, dd, dd, dd, dd, dd, dd, dd, dd, dd, dd, dd, dd, dd, dd, dd, dd], [.box ((cA_t49 v_t1).map FV.d), .box [.d (.v (.bool v_x3.fHere)), .d (.v (.bool v_x3.fSlot)), .d (.v (.int .i64 v_x3.fAt)), .d (.v (.int .i64 v_x3.fRights)), .d (.v (.bool v_x3.fUsed)), .d (.v (.bool v_x3.fDirty)), .d (.v (.bool v_x3.fCopy))], .box ((cA_t49 v_r321.1).map FV.d), .box ((cA_t49 v_r340.1).map FV.d), .box ((cA_t49 v_r365.1).map FV.d), .box ((cA_t61 v_r898).map FV.d)]⟩
def G_ringlaw2_TableTells_C20_hd (v_p2 : Int) (v_k4 : Int) (v_r340 : ((Fin 8 → S_table_Node) × Int)) (v_r365 : ((Fin 8 → S_table_Node) × Int)) (v_r378 : (Int × Int × Int)) (v_r461 : (Int)) (v_z771 : Int) (v_z907 : Int) (v_z908 : Int) (v_t1 : (Fin 8 → S_table_Node)) (v_x3 : S_entry_Entry) (v_r267 : (S_entry_Entry × Int)) (v_r321 : ((Fin 8 → S_table_Node) × Int)) (v_r898 : ((Fin 64 → S_entry_Entry)))  : PS := ⟨[dd, .d (.v (.int .i64 v_p2)), dd, .d (.v (.int .i64 v_k4)), .ref 0 0, dd, .ref 1 0, dd, dd, .ref 2 0, dd, .ref 3 0, dd, .ref 4 0, .d (.v (.int .i64 v_r340.2)), .ref 5 0, .d (.v (.int .i64 v_r365.2)), .d (.v (.int .i64 v_r378.1)), .d (.v (.int .i64 v_r378.2.1)), dd, dd, .d (.clo 33 []), .d (.v (.int .i64 v_r461)), .d (.v (.int .i64 v_z771)), .d (.v (.int .i64 v_r461)), .ref 6 0, .d (.v (.int .i64 v_z907)), .d (.v (.int .i64 v_z908)), dd, dd, dd, dd, dd, dd, dd, dd, dd, dd, dd, dd, dd, dd, dd, dd, dd, dd, dd, dd, dd, dd, dd, dd, dd, dd, dd, dd, dd, dd, dd, dd, dd, dd, dd, dd, dd, dd, dd, dd, dd, dd, dd, dd, dd, dd, dd, dd, dd, dd, dd, dd, dd, dd, dd, dd, dd, dd, dd, dd, dd, dd, dd, dd, dd, dd, dd, dd, dd, dd, dd, dd, dd, dd, dd, dd, dd, dd, dd, dd, dd, dd, dd, dd, dd, dd, dd, dd, dd, dd, dd, dd, dd, dd, dd, dd, dd, dd, dd, dd, dd, dd, dd, dd, dd, dd, dd, dd, dd, dd, dd, dd, dd, dd, dd, dd, dd, dd, dd, dd, dd, dd, dd, dd, dd, dd, dd, dd, dd, dd, dd, dd, dd, dd, dd, dd, dd, dd, dd, dd, dd, dd, dd, dd, dd, dd, dd, dd, dd, dd, dd, dd, dd, dd, dd, dd, dd, dd, dd, dd, dd, dd, dd, dd, dd, dd, dd, dd, dd, dd, dd, dd, dd, dd, dd, dd, dd, dd, dd, dd, dd, dd, dd, dd, dd, dd, dd, dd, dd, dd, dd, dd, dd, dd, dd, dd, dd, dd, dd, dd, dd, dd, dd, dd, dd, dd, dd, dd, dd, dd, dd, dd, dd, dd, dd, dd, dd, dd, dd, dd, dd, dd, dd, dd, dd, dd, dd, dd, dd, dd, dd, dd, dd, dd, dd, dd, dd, dd, dd, dd, dd, dd, dd, dd, dd, dd, dd, dd, dd, dd, dd, dd, dd, dd, dd, dd, dd, dd, dd, dd, dd, dd, dd, dd, dd, dd, dd, dd, dd, dd, dd, dd, dd, dd, dd, dd, dd, dd, dd, dd, dd, dd, dd, dd, dd, dd, dd], [.box ((cA_t49 v_t1).map FV.d), .box [.d (.v (.bool v_x3.fHere)), .d (.v (.bool v_x3.fSlot)), .d (.v (.int .i64 v_x3.fAt)), .d (.v (.int .i64 v_x3.fRights)), .d (.v (.bool v_x3.fUsed)), .d (.v (.bool v_x3.fDirty)), .d (.v (.bool v_x3.fCopy))], .box [.d (.v (.bool v_r267.1.fHere)), .d (.v (.bool v_r267.1.fSlot)), .d (.v (.int .i64 v_r267.1.fAt)), .d (.v (.int .i64 v_r267.1.fRights)), .d (.v (.bool v_r267.1.fUsed)), .d (.v (.bool v_r267.1.fDirty)), .d (.v (.bool v_r267.1.fCopy))], .box ((cA_t49 v_r321.1).map FV.d), .box ((cA_t49 v_r340.1).map FV.d), .box ((cA_t49 v_r365.1).map FV.d), .box ((cA_t61 v_r898).map FV.d)]⟩
def G_ringlaw2_TableTells_C20 (n : Nat) (v_p2 : Int) (v_k4 : Int) (v_r340 : ((Fin 8 → S_table_Node) × Int)) (v_r365 : ((Fin 8 → S_table_Node) × Int)) (v_r378 : (Int × Int × Int)) (v_r461 : (Int)) (v_z771 : Int) (v_z907 : Int) (v_z908 : Int) (v_t1 : (Fin 8 → S_table_Node)) (v_x3 : S_entry_Entry) (v_r267 : (S_entry_Entry × Int)) (v_r321 : ((Fin 8 → S_table_Node) × Int)) (v_r898 : ((Fin 64 → S_entry_Entry))) : Option G_ringlaw2_TableTells_C20_R :=
  if v_r461 = 0 then
   if 0 ≤ v_p2 ∧ v_p2 < (64 : Int) then
    (getA v_r898 v_p2).bind fun (v_y910 : S_entry_Entry) =>
    if (eqRes .neq (eqS_entry_Entry v_r267.1 v_y910)) = true then
     some (.x0 true)
    else
     if v_r378.1 = v_z907 then
      some (.x0 (v_r378.2.1 != v_z908))
     else
      some (.x0 true)
   else none
  else
   if v_r378.1 = v_z907 then
    some (.x0 (v_r378.2.1 != v_z908))
   else
    some (.x0 true)
theorem G_ringlaw2_TableTells_C20_ok {Fi : Ex → PS → Prop} (hF : KC 315 Fi) (ks : List Fr) (n : Nat) (v_p2 : Int) (v_k4 : Int) (v_r340 : ((Fin 8 → S_table_Node) × Int)) (v_r365 : ((Fin 8 → S_table_Node) × Int)) (v_r378 : (Int × Int × Int)) (v_r461 : (Int)) (v_z771 : Int) (v_z907 : Int) (v_z908 : Int) (v_t1 : (Fin 8 → S_table_Node)) (v_x3 : S_entry_Entry) (v_r267 : (S_entry_Entry × Int)) (v_r321 : ((Fin 8 → S_table_Node) × Int)) (v_r898 : ((Fin 64 → S_entry_Entry)))  (o : G_ringlaw2_TableTells_C20_R) (h : G_ringlaw2_TableTells_C20 n v_p2 v_k4 v_r340 v_r365 v_r378 v_r461 v_z771 v_z907 v_z908 v_t1 v_x3 v_r267 v_r321 v_r898 = some o) (q : RunE Try.prog 315 Fi ks (G_ringlaw2_TableTells_C20_ex o) (G_ringlaw2_TableTells_C20_st v_p2 v_k4 v_r340 v_r365 v_r378 v_r461 v_z771 v_z907 v_z908 v_t1 v_x3 v_r267 v_r321 v_r898 o)) : RunE Try.prog 315 Fi (.s (cL (cL (cR (cR (cR (cR (cR (cR (cR (cR (cR (cR (cR (cR (cR (cR (cR (cR (cR (cR (bodyOf Try.f5))))))))))))))))))))) :: ks) .normal (G_ringlaw2_TableTells_C20_hd v_p2 v_k4 v_r340 v_r365 v_r378 v_r461 v_z771 v_z907 v_z908 v_t1 v_x3 v_r267 v_r321 v_r898) := by
  unfold G_ringlaw2_TableTells_C20 at h
  by_cases h1213 : v_r461 = 0
  · rw [if_pos h1213] at h
    by_cases h1214 : 0 ≤ v_p2 ∧ v_p2 < (64 : Int)
    · rw [if_pos h1214] at h
      obtain ⟨v_y910, h1215, h⟩ := bind_some h
      by_cases h1216 : (eqRes .neq (eqS_entry_Entry v_r267.1 v_y910)) = true
      · rw [if_pos h1216] at h
        cases h
        exact pkk_sound TTok mix hF 1 (hs := [.t true, .c, .c, .c, .c, .l (.d (.agg [.v (.bool v_y910.fHere), .v (.bool v_y910.fSlot), .v (.int .i64 v_y910.fAt), .v (.int .i64 v_y910.fRights), .v (.bool v_y910.fUsed), .v (.bool v_y910.fDirty), .v (.bool v_y910.fCopy)])), .c, .q (eqS_entry_Entry v_r267.1 v_y910), .t true, .c, .c, .c, .c, .c]) (ts := []) (s := [0, 1, 3, 4, 5, 6]) (l := [1, 3, 4, 6, 11, 13, 14, 15, 16, 21, 23, 24, 25, 187]) (by kernel_rfl) (by kernel_rfl) (.cons (bt h1213) (.cons h1214 (.cons (And.intro (congrArg mkAgg (arr_take (γ := FV) (sz := 7) (g := (fun x => [.d (.v (.bool x.fHere)), .d (.v (.bool x.fSlot)), .d (.v (.int .i64 x.fAt)), .d (.v (.int .i64 x.fRights)), .d (.v (.bool x.fUsed)), .d (.v (.bool x.fDirty)), .d (.v (.bool x.fCopy))])) (pre := []) (post := []) (fun _ => rfl) h1215).1) (arr_take (γ := FV) (sz := 7) (g := (fun x => [.d (.v (.bool x.fHere)), .d (.v (.bool x.fSlot)), .d (.v (.int .i64 x.fAt)), .d (.v (.int .i64 x.fRights)), .d (.v (.bool x.fUsed)), .d (.v (.bool x.fDirty)), .d (.v (.bool x.fCopy))])) (pre := []) (post := []) (fun _ => rfl) h1215).2) (.cons (eqS_entry_Entry_ok v_r267.1 v_y910) (.cons h1216 .nil))))) q
      · rw [if_neg h1216] at h
        by_cases h1217 : v_r378.1 = v_z907
        · rw [if_pos h1217] at h
          cases h
          exact pkk_sound TTok mix hF 1 (hs := [.t true, .c, .c, .c, .c, .l (.d (.agg [.v (.bool v_y910.fHere), .v (.bool v_y910.fSlot), .v (.int .i64 v_y910.fAt), .v (.int .i64 v_y910.fRights), .v (.bool v_y910.fUsed), .v (.bool v_y910.fDirty), .v (.bool v_y910.fCopy)])), .c, .q (eqS_entry_Entry v_r267.1 v_y910), .t false, .c, .c, .t false, .c, .c]) (ts := []) (s := [0, 1, 3, 4, 5, 6]) (l := [1, 3, 4, 6, 11, 13, 14, 15, 16, 21, 23, 24, 25, 187]) (by kernel_rfl) (by kernel_rfl) (.cons (bt h1213) (.cons h1214 (.cons (And.intro (congrArg mkAgg (arr_take (γ := FV) (sz := 7) (g := (fun x => [.d (.v (.bool x.fHere)), .d (.v (.bool x.fSlot)), .d (.v (.int .i64 x.fAt)), .d (.v (.int .i64 x.fRights)), .d (.v (.bool x.fUsed)), .d (.v (.bool x.fDirty)), .d (.v (.bool x.fCopy))])) (pre := []) (post := []) (fun _ => rfl) h1215).1) (arr_take (γ := FV) (sz := 7) (g := (fun x => [.d (.v (.bool x.fHere)), .d (.v (.bool x.fSlot)), .d (.v (.int .i64 x.fAt)), .d (.v (.int .i64 x.fRights)), .d (.v (.bool x.fUsed)), .d (.v (.bool x.fDirty)), .d (.v (.bool x.fCopy))])) (pre := []) (post := []) (fun _ => rfl) h1215).2) (.cons (eqS_entry_Entry_ok v_r267.1 v_y910) (.cons (vf h1216) (.cons (nf h1217) .nil)))))) q
        · rw [if_neg h1217] at h
          cases h
          exact pkk_sound TTok mix hF 1 (hs := [.t true, .c, .c, .c, .c, .l (.d (.agg [.v (.bool v_y910.fHere), .v (.bool v_y910.fSlot), .v (.int .i64 v_y910.fAt), .v (.int .i64 v_y910.fRights), .v (.bool v_y910.fUsed), .v (.bool v_y910.fDirty), .v (.bool v_y910.fCopy)])), .c, .q (eqS_entry_Entry v_r267.1 v_y910), .t false, .c, .c, .t true, .c, .c]) (ts := []) (s := [0, 1, 3, 4, 5, 6]) (l := [1, 3, 4, 6, 11, 13, 14, 15, 16, 21, 23, 24, 25, 187]) (by kernel_rfl) (by kernel_rfl) (.cons (bt h1213) (.cons h1214 (.cons (And.intro (congrArg mkAgg (arr_take (γ := FV) (sz := 7) (g := (fun x => [.d (.v (.bool x.fHere)), .d (.v (.bool x.fSlot)), .d (.v (.int .i64 x.fAt)), .d (.v (.int .i64 x.fRights)), .d (.v (.bool x.fUsed)), .d (.v (.bool x.fDirty)), .d (.v (.bool x.fCopy))])) (pre := []) (post := []) (fun _ => rfl) h1215).1) (arr_take (γ := FV) (sz := 7) (g := (fun x => [.d (.v (.bool x.fHere)), .d (.v (.bool x.fSlot)), .d (.v (.int .i64 x.fAt)), .d (.v (.int .i64 x.fRights)), .d (.v (.bool x.fUsed)), .d (.v (.bool x.fDirty)), .d (.v (.bool x.fCopy))])) (pre := []) (post := []) (fun _ => rfl) h1215).2) (.cons (eqS_entry_Entry_ok v_r267.1 v_y910) (.cons (vf h1216) (.cons (nt h1217) .nil)))))) q
    · rw [if_neg h1214] at h; cases h
  · rw [if_neg h1213] at h
    by_cases h1218 : v_r378.1 = v_z907
    · rw [if_pos h1218] at h
      cases h
      exact pkk_sound TTok mix hF 1 (hs := [.t false, .c, .c, .c, .c, .c, .c, .c, .t false, .c, .c]) (ts := []) (s := [0, 1, 3, 4, 5, 6]) (l := [1, 3, 4, 6, 11, 13, 14, 15, 16, 21, 23, 24, 25, 187]) (by kernel_rfl) (by kernel_rfl) (.cons (bf h1213) (.cons (nf h1218) .nil)) q
    · rw [if_neg h1218] at h
      cases h
      exact pkk_sound TTok mix hF 1 (hs := [.t false, .c, .c, .c, .c, .c, .c, .c, .t true, .c, .c]) (ts := []) (s := [0, 1, 3, 4, 5, 6]) (l := [1, 3, 4, 6, 11, 13, 14, 15, 16, 21, 23, 24, 25, 187]) (by kernel_rfl) (by kernel_rfl) (.cons (bf h1213) (.cons (nt h1218) .nil)) q
inductive G_ringlaw2_TableTells_C21_R where
  | x0 (v_x939 : Bool)
def G_ringlaw2_TableTells_C21_ex : G_ringlaw2_TableTells_C21_R → Ex
  | .x0 _ => .normal
def G_ringlaw2_TableTells_C21_st (v_p2 : Int) (v_k4 : Int) (v_r340 : ((Fin 8 → S_table_Node) × Int)) (v_r365 : ((Fin 8 → S_table_Node) × Int)) (v_r461 : (Int)) (v_t1 : (Fin 8 → S_table_Node)) (v_r321 : ((Fin 8 → S_table_Node) × Int)) (v_r898 : ((Fin 64 → S_entry_Entry))) (v_x3 : S_entry_Entry) : G_ringlaw2_TableTells_C21_R → PS
  | .x0 v_x939 => ⟨[dd, dd, dd, .d (.v (.int .i64 v_k4)), .ref 0 0, dd, dd, dd, dd, dd, dd, dd, dd, .ref 1 0, .d (.v (.int .i64 v_r340.2)), .ref 2 0, .d (.v (.int .i64 v_r365.2)), dd, dd, dd, dd, .d (.clo 33 []), dd, dd, .d (.v (.int .i64 v_r461)), .ref 3 0, dd, dd, dd, dd, dd, dd, dd, dd, dd, dd, dd, dd, dd, dd, dd, dd, dd, dd, dd, dd, dd, dd, dd, dd, dd, dd, dd, dd, dd, dd, dd, dd, dd, dd, dd, dd, dd, dd, dd, dd, dd, dd, dd, dd, dd, dd, dd, dd, dd, dd, dd, dd, dd, dd, dd, dd, dd, dd, dd, dd, dd, dd, dd, dd, dd, dd, dd, dd, dd, dd, dd, dd, dd, dd, dd, dd, dd, dd, dd, dd, dd, dd, dd, dd, dd, dd, dd, dd, dd, dd, dd, dd, dd, dd, dd, dd, dd, dd, dd, dd, dd, dd, dd, dd, dd, dd, dd, dd, dd, dd, dd, dd, dd, dd, dd, dd, dd, dd, dd, dd, dd, dd, dd, dd, dd, dd, dd, dd, dd, dd, dd, dd, dd, dd, dd, dd, dd, dd, dd, dd, dd, dd, dd, dd, dd, dd, dd, dd, dd, dd, dd, dd, dd, dd, dd, dd, dd, dd, dd, dd, dd, dd, dd, dd, dd, dd, dd, dd, dd, dd, dd, dd, dd, dd, dd, dd, dd, dd, dd, dd, dd, dd, dd, dd, dd, dd, dd, dd, dd, dd, dd, .d (.v (.bool v_x939)), dd, dd, dd, dd, dd, dd, dd, dd, dd, dd, dd, dd, dd, dd, dd, dd, dd, dd, dd, dd, dd, dd, dd, dd, dd, dd, dd, dd, dd, dd, dd, dd, dd, dd, dd, dd, dd, dd, dd, dd, dd, dd, dd, dd, dd, dd, dd, dd, dd, dd, dd, dd, dd, dd, dd, dd, dd, dd, dd, dd, dd, dd, dd, dd, dd, dd, dd, dd, dd, dd, dd, dd, dd, dd, dd, dd, dd, dd, dd, dd, dd, dd, dd, dd, dd, dd, dd, dd, dd, dd, dd, dd, dd, dd, dd, dd, dd], [.box ((cA_t49 v_t1).map FV.d), .box ((cA_t49 v_r340.1).map FV.d), .box ((cA_t49 v_r365.1).map FV.d), .box ((cA_t61 v_r898).map FV.d)]⟩
def G_ringlaw2_TableTells_C21_hd (v_p2 : Int) (v_k4 : Int) (v_r340 : ((Fin 8 → S_table_Node) × Int)) (v_r365 : ((Fin 8 → S_table_Node) × Int)) (v_r461 : (Int)) (v_t1 : (Fin 8 → S_table_Node)) (v_r321 : ((Fin 8 → S_table_Node) × Int)) (v_r898 : ((Fin 64 → S_entry_Entry))) (v_x3 : S_entry_Entry)  : PS := ⟨[dd, .d (.v (.int .i64 v_p2)), dd, .d (.v (.int .i64 v_k4)), .ref 0 0, dd, dd, dd, dd, dd, dd, .ref 1 0, dd, .ref 2 0, .d (.v (.int .i64 v_r340.2)), .ref 3 0, .d (.v (.int .i64 v_r365.2)), dd, dd, dd, dd, .d (.clo 33 []), dd, dd, .d (.v (.int .i64 v_r461)), .ref 4 0, dd, dd, dd, dd, .ref 5 0, dd, dd, dd, dd, dd, dd, dd, dd, dd, dd, dd, dd, dd, dd, dd, dd, dd, dd, dd, dd, dd, dd, dd, dd, dd, dd, dd, dd, dd, dd, dd, dd, dd, dd, dd, dd, dd, dd, dd, dd, dd, dd, dd, dd, dd, dd, dd, dd, dd, dd, dd, dd, dd, dd, dd, dd, dd, dd, dd, dd, dd, dd, dd, dd, dd, dd, dd, dd, dd, dd, dd, dd, dd, dd, dd, dd, dd, dd, dd, dd, dd, dd, dd, dd, dd, dd, dd, dd, dd, dd, dd, dd, dd, dd, dd, dd, dd, dd, dd, dd, dd, dd, dd, dd, dd, dd, dd, dd, dd, dd, dd, dd, dd, dd, dd, dd, dd, dd, dd, dd, dd, dd, dd, dd, dd, dd, dd, dd, dd, dd, dd, dd, dd, dd, dd, dd, dd, dd, dd, dd, dd, dd, dd, dd, dd, dd, dd, dd, dd, dd, dd, dd, dd, dd, dd, dd, dd, dd, dd, dd, dd, dd, dd, dd, dd, dd, dd, dd, dd, dd, dd, dd, dd, dd, dd, dd, dd, dd, dd, dd, dd, dd, dd, dd, dd, dd, dd, dd, dd, dd, dd, dd, dd, dd, dd, dd, dd, dd, dd, dd, dd, dd, dd, dd, dd, dd, dd, dd, dd, dd, dd, dd, dd, dd, dd, dd, dd, dd, dd, dd, dd, dd, dd, dd, dd, dd, dd, dd, dd, dd, dd, dd, dd, dd, dd, dd, dd, dd, dd, dd, dd, dd, dd, dd, dd, dd, dd, dd, dd, dd, dd, dd, dd, dd, dd, dd, dd, dd, dd, dd, dd, dd, dd, dd, dd, dd, dd, dd, dd, dd, dd, dd, dd, dd, dd, dd, dd, dd, dd, dd, dd, dd, dd, dd], [.box ((cA_t49 v_t1).map FV.d), .box ((cA_t49 v_r321.1).map FV.d), .box ((cA_t49 v_r340.1).map FV.d), .box ((cA_t49 v_r365.1).map FV.d), .box ((cA_t61 v_r898).map FV.d), .box ((cA_t61 (setA v_r898 v_p2 v_x3)).map FV.d)]⟩
def G_ringlaw2_TableTells_C21 (n : Nat) (v_p2 : Int) (v_k4 : Int) (v_r340 : ((Fin 8 → S_table_Node) × Int)) (v_r365 : ((Fin 8 → S_table_Node) × Int)) (v_r461 : (Int)) (v_t1 : (Fin 8 → S_table_Node)) (v_r321 : ((Fin 8 → S_table_Node) × Int)) (v_r898 : ((Fin 64 → S_entry_Entry))) (v_x3 : S_entry_Entry) : Option G_ringlaw2_TableTells_C21_R :=
  (G_ringref2_Tables n v_r321.1).bind fun (v_r938 : (Int)) =>
  if v_r938 = 0 then
   (G_ringref2_TablePages n v_r321.1).bind fun (v_r940 : ((Fin 64 → S_entry_Entry))) =>
   if (eqRes .neq (eqA_ringref2_Plain v_r940 (setA v_r898 v_p2 v_x3))) = true then
    some (.x0 true)
   else
    if 0 ≤ (quoI .i64 v_p2 8) ∧ (quoI .i64 v_p2 8) < (8 : Int) then
     (getA v_r321.1 (quoI .i64 v_p2 8)).bind fun (v_y942 : S_table_Node) =>
     if v_y942.fHuge = true then
      some (.x0 true)
     else
      (G_ringlaw2_others n v_t1 v_r321.1 (quoI .i64 v_p2 8)).bind fun (v_r944 : (Bool)) =>
      some (.x0 (!v_r944))
    else none
  else
   some (.x0 true)
theorem G_ringlaw2_TableTells_C21_ok {Fi : Ex → PS → Prop} (hF : KC 315 Fi) (ks : List Fr) (n : Nat) (v_p2 : Int) (v_k4 : Int) (v_r340 : ((Fin 8 → S_table_Node) × Int)) (v_r365 : ((Fin 8 → S_table_Node) × Int)) (v_r461 : (Int)) (v_t1 : (Fin 8 → S_table_Node)) (v_r321 : ((Fin 8 → S_table_Node) × Int)) (v_r898 : ((Fin 64 → S_entry_Entry))) (v_x3 : S_entry_Entry)  (o : G_ringlaw2_TableTells_C21_R) (h : G_ringlaw2_TableTells_C21 n v_p2 v_k4 v_r340 v_r365 v_r461 v_t1 v_r321 v_r898 v_x3 = some o) (q : RunE Try.prog 315 Fi ks (G_ringlaw2_TableTells_C21_ex o) (G_ringlaw2_TableTells_C21_st v_p2 v_k4 v_r340 v_r365 v_r461 v_t1 v_r321 v_r898 v_x3 o)) : RunE Try.prog 315 Fi (.s (cL (cR (cR (cT (cR (cL (cR (cR (cR (cR (cR (cR (cR (cR (cR (cR (cR (cR (cR (cR (cR (cR (cR (cR (cR (bodyOf Try.f5)))))))))))))))))))))))))) :: ks) .normal (G_ringlaw2_TableTells_C21_hd v_p2 v_k4 v_r340 v_r365 v_r461 v_t1 v_r321 v_r898 v_x3) := by
  unfold G_ringlaw2_TableTells_C21 at h
  obtain ⟨v_r938, h1259, h⟩ := bind_some h
  by_cases h1260 : v_r938 = 0
  · rw [if_pos h1260] at h
    obtain ⟨v_r940, h1261, h⟩ := bind_some h
    by_cases h1262 : (eqRes .neq (eqA_ringref2_Plain v_r940 (setA v_r898 v_p2 v_x3))) = true
    · rw [if_pos h1262] at h
      cases h
      exact pkk_sound TTok mix hF 1 (hs := [.c, .r ((eI .i64) v_r938), .t false, .c, .c, .r ((fun x => PV.agg (cA_t61 x)) v_r940), .c, .c, .c, .q (eqA_ringref2_Plain v_r940 (setA v_r898 v_p2 v_x3)), .t true, .c, .c, .c, .c, .c, .c, .c, .c, .c, .c]) (ts := []) (s := [0, 2, 3, 4]) (l := [3, 4, 13, 14, 15, 16, 21, 24, 25, 217]) (by kernel_rfl) (by kernel_rfl) (.cons (G_ringref2_Tables_ok n v_r321.1 _ h1259) (.cons (nf h1260) (.cons (G_ringref2_TablePages_ok n v_r321.1 _ h1261) (.cons (eqA_ringref2_Plain_ok v_r940 (setA v_r898 v_p2 v_x3)) (.cons h1262 .nil))))) q
    · rw [if_neg h1262] at h
      by_cases h1264 : 0 ≤ (quoI .i64 v_p2 8) ∧ (quoI .i64 v_p2 8) < (8 : Int)
      · rw [if_pos h1264] at h
        obtain ⟨v_y942, h1265, h⟩ := bind_some h
        by_cases h1266 : v_y942.fHuge = true
        · rw [if_pos h1266] at h
          cases h
          exact pkk_sound TTok mix hF 1 (hs := [.c, .r ((eI .i64) v_r938), .t false, .c, .c, .r ((fun x => PV.agg (cA_t61 x)) v_r940), .c, .c, .c, .q (eqA_ringref2_Plain v_r940 (setA v_r898 v_p2 v_x3)), .t false, .c, .c, .c, .c, .l (.d (.v (.bool v_y942.fHuge))), .t true, .c, .c, .c, .c, .c]) (ts := []) (s := [0, 2, 3, 4]) (l := [3, 4, 13, 14, 15, 16, 21, 24, 25, 217]) (by kernel_rfl) (by kernel_rfl) (.cons (G_ringref2_Tables_ok n v_r321.1 _ h1259) (.cons (nf h1260) (.cons (G_ringref2_TablePages_ok n v_r321.1 _ h1261) (.cons (eqA_ringref2_Plain_ok v_r940 (setA v_r898 v_p2 v_x3)) (.cons (vf h1262) (.cons (show (8 : Int) ≠ 0 by decide) (.cons h1264 (.cons (arr_cell (γ := FV) (sz := 2) (g := (fun x => [.d (.v (.bool x.fHuge)), .d (.sl (x.fEntries.map eS_entry_Entry))])) (pre := []) (post := []) (o := 0) (fun _ => rfl) h1265 rfl) (.cons h1266 .nil))))))))) q
        · rw [if_neg h1266] at h
          obtain ⟨v_r944, h1268, h⟩ := bind_some h
          cases h
          exact pkk_sound TTok mix hF 1 (hs := [.c, .r ((eI .i64) v_r938), .t false, .c, .c, .r ((fun x => PV.agg (cA_t61 x)) v_r940), .c, .c, .c, .q (eqA_ringref2_Plain v_r940 (setA v_r898 v_p2 v_x3)), .t false, .c, .c, .c, .c, .l (.d (.v (.bool v_y942.fHuge))), .t false, .c, .c, .c, .c, .c, .c, .r (eB v_r944), .c]) (ts := []) (s := [0, 2, 3, 4]) (l := [3, 4, 13, 14, 15, 16, 21, 24, 25, 217]) (by kernel_rfl) (by kernel_rfl) (.cons (G_ringref2_Tables_ok n v_r321.1 _ h1259) (.cons (nf h1260) (.cons (G_ringref2_TablePages_ok n v_r321.1 _ h1261) (.cons (eqA_ringref2_Plain_ok v_r940 (setA v_r898 v_p2 v_x3)) (.cons (vf h1262) (.cons (show (8 : Int) ≠ 0 by decide) (.cons h1264 (.cons (arr_cell (γ := FV) (sz := 2) (g := (fun x => [.d (.v (.bool x.fHuge)), .d (.sl (x.fEntries.map eS_entry_Entry))])) (pre := []) (post := []) (o := 0) (fun _ => rfl) h1265 rfl) (.cons (vf h1266) (.cons (show (8 : Int) ≠ 0 by decide) (.cons (G_ringlaw2_others_ok n v_t1 v_r321.1 (quoI .i64 v_p2 8) _ h1268) .nil))))))))))) q
      · rw [if_neg h1264] at h; cases h
  · rw [if_neg h1260] at h
    cases h
    exact pkk_sound TTok mix hF 1 (hs := [.c, .r ((eI .i64) v_r938), .t true, .c, .c, .c, .c, .c, .c, .c, .c, .c, .c, .c, .c, .c, .c]) (ts := []) (s := [0, 2, 3, 4]) (l := [3, 4, 13, 14, 15, 16, 21, 24, 25, 217]) (by kernel_rfl) (by kernel_rfl) (.cons (G_ringref2_Tables_ok n v_r321.1 _ h1259) (.cons (nt h1260) .nil)) q
inductive G_ringlaw2_TableTells_C22_R where
  | x0 (v_x948 : Bool)
  | x1 
def G_ringlaw2_TableTells_C22_ex : G_ringlaw2_TableTells_C22_R → Ex
  | .x0 _ => .ret
  | .x1  => .normal
def G_ringlaw2_TableTells_C22_st (v_p2 : Int) (v_k4 : Int) (v_r340 : ((Fin 8 → S_table_Node) × Int)) (v_r365 : ((Fin 8 → S_table_Node) × Int)) (v_r461 : (Int)) (v_z771 : Int) (v_t1 : (Fin 8 → S_table_Node)) (v_x3 : S_entry_Entry) (v_r321 : ((Fin 8 → S_table_Node) × Int)) (v_r898 : ((Fin 64 → S_entry_Entry))) : G_ringlaw2_TableTells_C22_R → PS
  | .x0 v_x948 => ⟨[dd, dd, dd, dd, dd, dd, dd, dd, .d (.v (.bool v_x948)), dd, dd, dd, dd, dd, dd, dd, dd, dd, dd, dd, dd, dd, dd, dd, dd, dd, dd, dd, dd, dd, dd, dd, dd, dd, dd, dd, dd, dd, dd, dd, dd, dd, dd, dd, dd, dd, dd, dd, dd, dd, dd, dd, dd, dd, dd, dd, dd, dd, dd, dd, dd, dd, dd, dd, dd, dd, dd, dd, dd, dd, dd, dd, dd, dd, dd, dd, dd, dd, dd, dd, dd, dd, dd, dd, dd, dd, dd, dd, dd, dd, dd, dd, dd, dd, dd, dd, dd, dd, dd, dd, dd, dd, dd, dd, dd, dd, dd, dd, dd, dd, dd, dd, dd, dd, dd, dd, dd, dd, dd, dd, dd, dd, dd, dd, dd, dd, dd, dd, dd, dd, dd, dd, dd, dd, dd, dd, dd, dd, dd, dd, dd, dd, dd, dd, dd, dd, dd, dd, dd, dd, dd, dd, dd, dd, dd, dd, dd, dd, dd, dd, dd, dd, dd, dd, dd, dd, dd, dd, dd, dd, dd, dd, dd, dd, dd, dd, dd, dd, dd, dd, dd, dd, dd, dd, dd, dd, dd, dd, dd, dd, dd, dd, dd, dd, dd, dd, dd, dd, dd, dd, dd, dd, dd, dd, dd, dd, dd, dd, dd, dd, dd, dd, dd, dd, dd, dd, dd, dd, dd, dd, dd, dd, dd, dd, dd, dd, dd, dd, dd, dd, dd, dd, dd, dd, dd, dd, dd, dd, dd, dd, dd, dd, dd, dd, dd, dd, dd, dd, dd, dd, dd, dd, dd, dd, dd, dd, dd, dd, dd, dd, dd, dd, dd, dd, dd, dd, dd, dd, dd, dd, dd, dd, dd, dd, dd, dd, dd, dd, dd, dd, dd, dd, dd, dd, dd, dd, dd, dd, dd, dd, dd, dd, dd, dd, dd, dd, dd, dd, dd, dd, dd, dd, dd, dd, dd, dd, dd, dd, dd, dd, dd, dd, dd, dd, dd], []⟩
  | .x1  => ⟨[dd, dd, dd, .d (.v (.int .i64 v_k4)), .ref 0 0, dd, dd, dd, dd, dd, dd, dd, dd, .ref 1 0, .d (.v (.int .i64 v_r340.2)), .ref 2 0, .d (.v (.int .i64 v_r365.2)), dd, dd, dd, dd, .d (.clo 33 []), dd, dd, .d (.v (.int .i64 v_r461)), .ref 3 0, dd, dd, dd, dd, dd, dd, dd, dd, dd, dd, dd, dd, dd, dd, dd, dd, dd, dd, dd, dd, dd, dd, dd, dd, dd, dd, dd, dd, dd, dd, dd, dd, dd, dd, dd, dd, dd, dd, dd, dd, dd, dd, dd, dd, dd, dd, dd, dd, dd, dd, dd, dd, dd, dd, dd, dd, dd, dd, dd, dd, dd, dd, dd, dd, dd, dd, dd, dd, dd, dd, dd, dd, dd, dd, dd, dd, dd, dd, dd, dd, dd, dd, dd, dd, dd, dd, dd, dd, dd, dd, dd, dd, dd, dd, dd, dd, dd, dd, dd, dd, dd, dd, dd, dd, dd, dd, dd, dd, dd, dd, dd, dd, dd, dd, dd, dd, dd, dd, dd, dd, dd, dd, dd, dd, dd, dd, dd, dd, dd, dd, dd, dd, dd, dd, dd, dd, dd, dd, dd, dd, dd, dd, dd, dd, dd, dd, dd, dd, dd, dd, dd, dd, dd, dd, dd, dd, dd, dd, dd, dd, dd, dd, dd, dd, dd, dd, dd, dd, dd, dd, dd, dd, dd, dd, dd, dd, dd, dd, dd, dd, dd, dd, dd, dd, dd, dd, dd, dd, dd, dd, dd, dd, dd, dd, dd, dd, dd, dd, dd, dd, dd, dd, dd, dd, dd, dd, dd, dd, dd, dd, dd, dd, dd, dd, dd, dd, dd, dd, dd, dd, dd, dd, dd, dd, dd, dd, dd, dd, dd, dd, dd, dd, dd, dd, dd, dd, dd, dd, dd, dd, dd, dd, dd, dd, dd, dd, dd, dd, dd, dd, dd, dd, dd, dd, dd, dd, dd, dd, dd, dd, dd, dd, dd, dd, dd, dd, dd, dd, dd, dd, dd, dd, dd, dd, dd, dd, dd, dd, dd, dd, dd, dd, dd, dd, dd, dd, dd, dd, dd], [.box ((cA_t49 v_t1).map FV.d), .box ((cA_t49 v_r340.1).map FV.d), .box ((cA_t49 v_r365.1).map FV.d), .box ((cA_t61 v_r898).map FV.d)]⟩
def G_ringlaw2_TableTells_C22_hd (v_p2 : Int) (v_k4 : Int) (v_r340 : ((Fin 8 → S_table_Node) × Int)) (v_r365 : ((Fin 8 → S_table_Node) × Int)) (v_r461 : (Int)) (v_z771 : Int) (v_t1 : (Fin 8 → S_table_Node)) (v_x3 : S_entry_Entry) (v_r321 : ((Fin 8 → S_table_Node) × Int)) (v_r898 : ((Fin 64 → S_entry_Entry)))  : PS := ⟨[dd, .d (.v (.int .i64 v_p2)), dd, .d (.v (.int .i64 v_k4)), .ref 0 0, dd, .ref 1 0, dd, dd, dd, dd, .ref 2 0, dd, .ref 3 0, .d (.v (.int .i64 v_r340.2)), .ref 4 0, .d (.v (.int .i64 v_r365.2)), dd, dd, dd, dd, .d (.clo 33 []), dd, dd, .d (.v (.int .i64 v_r461)), .ref 5 0, dd, dd, dd, dd, dd, dd, dd, dd, dd, dd, dd, dd, dd, dd, dd, dd, dd, dd, dd, dd, dd, dd, dd, dd, dd, dd, dd, dd, dd, dd, dd, dd, dd, dd, dd, dd, dd, dd, dd, dd, dd, dd, dd, dd, dd, dd, dd, dd, dd, dd, dd, dd, dd, dd, dd, dd, dd, dd, dd, dd, dd, dd, dd, dd, dd, dd, dd, dd, dd, dd, dd, dd, dd, dd, dd, dd, dd, dd, dd, dd, dd, dd, dd, dd, dd, dd, dd, dd, dd, dd, dd, dd, dd, dd, dd, dd, dd, dd, dd, dd, dd, dd, dd, dd, dd, dd, dd, dd, dd, dd, dd, dd, dd, dd, dd, dd, dd, dd, dd, dd, dd, dd, dd, dd, dd, dd, dd, dd, dd, dd, dd, dd, dd, dd, dd, dd, dd, dd, dd, dd, dd, dd, dd, dd, dd, dd, dd, dd, dd, dd, dd, dd, dd, dd, dd, dd, dd, dd, dd, dd, dd, dd, dd, .d (.v (.bool (v_z771 == 0))), dd, dd, dd, dd, dd, dd, dd, dd, dd, dd, dd, dd, dd, dd, dd, dd, dd, dd, dd, dd, dd, dd, dd, dd, dd, dd, dd, dd, dd, dd, dd, dd, dd, dd, dd, dd, dd, dd, dd, dd, dd, dd, dd, dd, dd, dd, dd, dd, dd, dd, dd, dd, dd, dd, dd, dd, dd, dd, dd, dd, dd, dd, dd, dd, dd, dd, dd, dd, dd, dd, dd, dd, dd, dd, dd, dd, dd, dd, dd, dd, dd, dd, dd, dd, dd, dd, dd, dd, dd, dd, dd, dd, dd, dd, dd, dd, dd, dd, dd, dd, dd, dd, dd, dd, dd, dd, dd, dd, dd, dd, dd, dd, dd, dd, dd, dd, dd, dd, dd, dd, dd, dd, dd, dd, dd], [.box ((cA_t49 v_t1).map FV.d), .box [.d (.v (.bool v_x3.fHere)), .d (.v (.bool v_x3.fSlot)), .d (.v (.int .i64 v_x3.fAt)), .d (.v (.int .i64 v_x3.fRights)), .d (.v (.bool v_x3.fUsed)), .d (.v (.bool v_x3.fDirty)), .d (.v (.bool v_x3.fCopy))], .box ((cA_t49 v_r321.1).map FV.d), .box ((cA_t49 v_r340.1).map FV.d), .box ((cA_t49 v_r365.1).map FV.d), .box ((cA_t61 v_r898).map FV.d)]⟩
def G_ringlaw2_TableTells_C22 (n : Nat) (v_p2 : Int) (v_k4 : Int) (v_r340 : ((Fin 8 → S_table_Node) × Int)) (v_r365 : ((Fin 8 → S_table_Node) × Int)) (v_r461 : (Int)) (v_z771 : Int) (v_t1 : (Fin 8 → S_table_Node)) (v_x3 : S_entry_Entry) (v_r321 : ((Fin 8 → S_table_Node) × Int)) (v_r898 : ((Fin 64 → S_entry_Entry))) : Option G_ringlaw2_TableTells_C22_R :=
  if v_z771 = 0 then
   if 0 ≤ v_p2 ∧ v_p2 < (64 : Int) then
    (getA v_r898 v_p2).bind fun (v_y933 : S_entry_Entry) =>
    (G_ringlaw2_TableTells_C21 n v_p2 v_k4 v_r340 v_r365 v_r461 v_t1 v_r321 v_r898 v_x3).bind fun v_o946 => match v_o946 with
    | .x0 v_z947 =>
      if v_z947 = true then
       some (.x0 false)
      else
       some (.x1 )
   else none
  else
   some (.x1 )
theorem G_ringlaw2_TableTells_C22_ok {Fi : Ex → PS → Prop} (hF : KC 315 Fi) (ks : List Fr) (n : Nat) (v_p2 : Int) (v_k4 : Int) (v_r340 : ((Fin 8 → S_table_Node) × Int)) (v_r365 : ((Fin 8 → S_table_Node) × Int)) (v_r461 : (Int)) (v_z771 : Int) (v_t1 : (Fin 8 → S_table_Node)) (v_x3 : S_entry_Entry) (v_r321 : ((Fin 8 → S_table_Node) × Int)) (v_r898 : ((Fin 64 → S_entry_Entry)))  (o : G_ringlaw2_TableTells_C22_R) (h : G_ringlaw2_TableTells_C22 n v_p2 v_k4 v_r340 v_r365 v_r461 v_z771 v_t1 v_x3 v_r321 v_r898 = some o) (q : RunE Try.prog 315 Fi ks (G_ringlaw2_TableTells_C22_ex o) (G_ringlaw2_TableTells_C22_st v_p2 v_k4 v_r340 v_r365 v_r461 v_z771 v_t1 v_x3 v_r321 v_r898 o)) : RunE Try.prog 315 Fi (.s (cR (cL (cR (cR (cR (cR (cR (cR (cR (cR (cR (cR (cR (cR (cR (cR (cR (cR (cR (cR (cR (bodyOf Try.f5)))))))))))))))))))))) :: ks) .normal (G_ringlaw2_TableTells_C22_hd v_p2 v_k4 v_r340 v_r365 v_r461 v_z771 v_t1 v_x3 v_r321 v_r898) := by
  unfold G_ringlaw2_TableTells_C22 at h
  by_cases h1246 : v_z771 = 0
  · rw [if_pos h1246] at h
    by_cases h1247 : 0 ≤ v_p2 ∧ v_p2 < (64 : Int)
    · rw [if_pos h1247] at h
      obtain ⟨v_y933, h1248, h⟩ := bind_some h
      obtain ⟨v_o946, h1269, h⟩ := bind_some h
      refine pkk_sound TTok mix hF 6 (hs := [.t true, .c, .c, .c, .x ((cA_t61 (setA v_r898 v_p2 v_x3)).map FV.d), .c]) (ts := []) (s := [0, 2, 3, 4, 5, 9]) (l := [1, 3, 4, 11, 13, 14, 15, 16, 21, 24, 25, 30]) (by kernel_rfl) (by kernel_rfl) (.cons (bt h1246) (.cons (show 0 + 448 ≤ 448 by decide) (.cons h1247 (.cons (arr_store (γ := FV) (sz := 7) (g := (fun x => [.d (.v (.bool x.fHere)), .d (.v (.bool x.fSlot)), .d (.v (.int .i64 x.fAt)), .d (.v (.int .i64 x.fRights)), .d (.v (.bool x.fUsed)), .d (.v (.bool x.fDirty)), .d (.v (.bool x.fCopy))])) (pre := []) (post := []) (o := 0) (y := v_x3) (zs := [.d (.v (.bool v_x3.fHere)), .d (.v (.bool v_x3.fSlot)), .d (.v (.int .i64 v_x3.fAt)), .d (.v (.int .i64 v_x3.fRights)), .d (.v (.bool v_x3.fUsed)), .d (.v (.bool v_x3.fDirty)), .d (.v (.bool v_x3.fCopy))]) (fun _ => rfl) h1248 rfl (Nat.le_of_ble_eq_true rfl)).1 (.cons (arr_store (γ := FV) (sz := 7) (g := (fun x => [.d (.v (.bool x.fHere)), .d (.v (.bool x.fSlot)), .d (.v (.int .i64 x.fAt)), .d (.v (.int .i64 x.fRights)), .d (.v (.bool x.fUsed)), .d (.v (.bool x.fDirty)), .d (.v (.bool x.fCopy))])) (pre := []) (post := []) (o := 0) (y := v_x3) (zs := [.d (.v (.bool v_x3.fHere)), .d (.v (.bool v_x3.fSlot)), .d (.v (.int .i64 v_x3.fAt)), .d (.v (.int .i64 v_x3.fRights)), .d (.v (.bool v_x3.fUsed)), .d (.v (.bool v_x3.fDirty)), .d (.v (.bool v_x3.fCopy))]) (fun _ => rfl) h1248 rfl (Nat.le_of_ble_eq_true rfl)).2 .nil))))) (G_ringlaw2_TableTells_C21_ok hF (.s (cR (cR (cR (cT (cR (cL (cR (cR (cR (cR (cR (cR (cR (cR (cR (cR (cR (cR (cR (cR (cR (cR (cR (cR (cR (bodyOf Try.f5)))))))))))))))))))))))))) :: ks) n v_p2 v_k4 v_r340 v_r365 v_r461 v_t1 v_r321 v_r898 v_x3 _ h1269 ?_)
      cases v_o946 with
      | x0 v_z947 =>
        dsimp only at h
        by_cases h1270 : v_z947 = true
        · rw [if_pos h1270] at h
          cases h
          exact pkk_sound TTok mix hF 4 (hs := [.t true]) (ts := []) (s := []) (l := [8]) (by kernel_rfl) (by kernel_rfl) (.cons h1270 .nil) q
        · rw [if_neg h1270] at h
          cases h
          exact pkk_sound TTok mix hF 2 (hs := [.t false]) (ts := []) (s := [0, 1, 2, 3]) (l := [3, 4, 13, 14, 15, 16, 21, 24, 25]) (by kernel_rfl) (by kernel_rfl) (.cons (vf h1270) .nil) q
    · rw [if_neg h1247] at h; cases h
  · rw [if_neg h1246] at h
    cases h
    exact pkk_sound TTok mix hF 2 (hs := [.t false]) (ts := []) (s := [0, 3, 4, 5]) (l := [3, 4, 13, 14, 15, 16, 21, 24, 25]) (by kernel_rfl) (by kernel_rfl) (.cons (bf h1246) .nil) q
inductive G_ringlaw2_TableTells_C23_R where
  | x0 (v_x985 : Bool)
def G_ringlaw2_TableTells_C23_ex : G_ringlaw2_TableTells_C23_R → Ex
  | .x0 _ => .normal
def G_ringlaw2_TableTells_C23_st (v_k4 : Int) (v_r340 : ((Fin 8 → S_table_Node) × Int)) (v_r365 : ((Fin 8 → S_table_Node) × Int)) (v_t1 : (Fin 8 → S_table_Node)) (v_r898 : ((Fin 64 → S_entry_Entry))) : G_ringlaw2_TableTells_C23_R → PS
  | .x0 v_x985 => ⟨[dd, dd, dd, .d (.v (.int .i64 v_k4)), .ref 0 0, dd, dd, dd, dd, dd, dd, dd, dd, dd, dd, .ref 1 0, .d (.v (.int .i64 v_r365.2)), dd, dd, dd, dd, .d (.clo 33 []), dd, dd, dd, .ref 2 0, dd, dd, dd, dd, dd, dd, dd, dd, dd, dd, dd, dd, dd, dd, dd, dd, dd, dd, dd, dd, dd, dd, dd, dd, dd, dd, dd, dd, dd, dd, dd, dd, dd, dd, dd, dd, dd, dd, dd, dd, dd, dd, dd, dd, dd, dd, dd, dd, dd, dd, dd, dd, dd, dd, dd, dd, dd, dd, dd, dd, dd, dd, dd, dd, dd, dd, dd, dd, dd, dd, dd, dd, dd, dd, dd, dd, dd, dd, dd, dd, dd, dd, dd, dd, dd, dd, dd, dd, dd, dd, dd, dd, dd, dd, dd, dd, dd, dd, dd, dd, dd, dd, dd, dd, dd, dd, dd, dd, dd, dd, dd, dd, dd, dd, dd, dd, dd, dd, dd, dd, dd, dd, dd, dd, dd, dd, dd, dd, dd, dd, dd, dd, dd, dd, dd, dd, dd, dd, dd, dd, dd, dd, dd, dd, dd, dd, dd, dd, dd, dd, dd, dd, dd, dd, dd, dd, dd, dd, dd, dd, dd, dd, dd, dd, dd, dd, dd, dd, dd, dd, dd, dd, dd, dd, dd, dd, dd, dd, dd, dd, dd, dd, dd, dd, dd, dd, dd, dd, dd, dd, dd, dd, dd, dd, dd, dd, dd, dd, dd, dd, dd, dd, dd, dd, dd, dd, dd, dd, dd, dd, dd, dd, dd, dd, dd, dd, dd, dd, dd, dd, dd, dd, dd, dd, dd, dd, dd, dd, dd, dd, dd, dd, dd, dd, dd, dd, dd, dd, dd, dd, dd, dd, dd, dd, dd, dd, dd, dd, dd, dd, .d (.v (.bool v_x985)), dd, dd, dd, dd, dd, dd, dd, dd, dd, dd, dd, dd, dd, dd, dd, dd, dd, dd, dd, dd, dd, dd, dd, dd, dd, dd, dd, dd, dd, dd, dd, dd, dd, dd, dd, dd, dd, dd], [.box ((cA_t49 v_t1).map FV.d), .box ((cA_t49 v_r365.1).map FV.d), .box ((cA_t61 v_r898).map FV.d)]⟩
def G_ringlaw2_TableTells_C23_hd (v_k4 : Int) (v_r340 : ((Fin 8 → S_table_Node) × Int)) (v_r365 : ((Fin 8 → S_table_Node) × Int)) (v_t1 : (Fin 8 → S_table_Node)) (v_r898 : ((Fin 64 → S_entry_Entry)))  : PS := ⟨[dd, dd, dd, .d (.v (.int .i64 v_k4)), .ref 0 0, dd, dd, dd, dd, dd, dd, dd, dd, .ref 1 0, .d (.v (.int .i64 v_r340.2)), .ref 2 0, .d (.v (.int .i64 v_r365.2)), dd, dd, dd, dd, .d (.clo 33 []), dd, dd, dd, .ref 3 0, dd, dd, dd, dd, dd, dd, dd, dd, dd, dd, dd, dd, dd, dd, dd, dd, dd, dd, dd, dd, dd, dd, dd, dd, dd, dd, dd, dd, dd, dd, dd, dd, dd, dd, dd, dd, dd, dd, dd, dd, dd, dd, dd, dd, dd, dd, dd, dd, dd, dd, dd, dd, dd, dd, dd, dd, dd, dd, dd, dd, dd, dd, dd, dd, dd, dd, dd, dd, dd, dd, dd, dd, dd, dd, dd, dd, dd, dd, dd, dd, dd, dd, dd, dd, dd, dd, dd, dd, dd, dd, dd, dd, dd, dd, dd, dd, dd, dd, dd, dd, dd, dd, dd, dd, dd, dd, dd, dd, dd, dd, dd, dd, dd, dd, dd, dd, dd, dd, dd, dd, dd, dd, dd, dd, dd, dd, dd, dd, dd, dd, dd, dd, dd, dd, dd, dd, dd, dd, dd, dd, dd, dd, dd, dd, dd, dd, dd, dd, dd, dd, dd, dd, dd, dd, dd, dd, dd, dd, dd, dd, dd, dd, dd, dd, dd, dd, dd, dd, dd, dd, dd, dd, dd, dd, dd, dd, dd, dd, dd, dd, dd, dd, dd, dd, dd, dd, dd, dd, dd, dd, dd, dd, dd, dd, dd, dd, dd, dd, dd, dd, dd, dd, dd, dd, dd, dd, dd, dd, dd, dd, dd, dd, dd, dd, dd, dd, dd, dd, dd, dd, dd, dd, dd, dd, dd, dd, dd, dd, dd, dd, dd, dd, dd, dd, dd, dd, dd, dd, dd, dd, dd, dd, dd, dd, dd, dd, dd, dd, dd, dd, dd, dd, dd, dd, dd, dd, dd, dd, dd, dd, dd, dd, dd, dd, dd, dd, dd, dd, dd, dd, dd, dd, dd, dd, dd, dd, dd, dd, dd, dd, dd, dd, dd, dd, dd, dd, dd, dd, dd], [.box ((cA_t49 v_t1).map FV.d), .box ((cA_t49 v_r340.1).map FV.d), .box ((cA_t49 v_r365.1).map FV.d), .box ((cA_t61 v_r898).map FV.d)]⟩
def G_ringlaw2_TableTells_C23 (n : Nat) (v_k4 : Int) (v_r340 : ((Fin 8 → S_table_Node) × Int)) (v_r365 : ((Fin 8 → S_table_Node) × Int)) (v_t1 : (Fin 8 → S_table_Node)) (v_r898 : ((Fin 64 → S_entry_Entry))) : Option G_ringlaw2_TableTells_C23_R :=
  if v_r340.2 = 0 then
   (G_ringref2_Tables n v_r340.1).bind fun (v_r986 : (Int)) =>
   if v_r986 = 0 then
    (G_ringref2_TablePages n v_r340.1).bind fun (v_r988 : ((Fin 64 → S_entry_Entry))) =>
    if (eqRes .neq (eqA_ringref2_Plain v_r988 v_r898)) = true then
     some (.x0 true)
    else
     if 0 ≤ v_k4 ∧ v_k4 < (8 : Int) then
      (getA v_r340.1 v_k4).bind fun (v_y990 : S_table_Node) =>
      if v_y990.fHuge = true then
       (G_ringlaw2_others n v_t1 v_r340.1 v_k4).bind fun (v_r992 : (Bool)) =>
       some (.x0 (!v_r992))
      else
       some (.x0 true)
     else none
   else
    some (.x0 true)
  else
   some (.x0 true)
theorem G_ringlaw2_TableTells_C23_ok {Fi : Ex → PS → Prop} (hF : KC 315 Fi) (ks : List Fr) (n : Nat) (v_k4 : Int) (v_r340 : ((Fin 8 → S_table_Node) × Int)) (v_r365 : ((Fin 8 → S_table_Node) × Int)) (v_t1 : (Fin 8 → S_table_Node)) (v_r898 : ((Fin 64 → S_entry_Entry)))  (o : G_ringlaw2_TableTells_C23_R) (h : G_ringlaw2_TableTells_C23 n v_k4 v_r340 v_r365 v_t1 v_r898 = some o) (q : RunE Try.prog 315 Fi ks (G_ringlaw2_TableTells_C23_ex o) (G_ringlaw2_TableTells_C23_st v_k4 v_r340 v_r365 v_t1 v_r898 o)) : RunE Try.prog 315 Fi (.s (cL (cF (cR (cL (cR (cR (cR (cR (cR (cR (cR (cR (cR (cR (cR (cR (cR (cR (cR (cR (cR (cR (cR (cR (cR (bodyOf Try.f5)))))))))))))))))))))))))) :: ks) .normal (G_ringlaw2_TableTells_C23_hd v_k4 v_r340 v_r365 v_t1 v_r898) := by
  unfold G_ringlaw2_TableTells_C23 at h
  by_cases h1322 : v_r340.2 = 0
  · rw [if_pos h1322] at h
    obtain ⟨v_r986, h1323, h⟩ := bind_some h
    by_cases h1324 : v_r986 = 0
    · rw [if_pos h1324] at h
      obtain ⟨v_r988, h1325, h⟩ := bind_some h
      by_cases h1326 : (eqRes .neq (eqA_ringref2_Plain v_r988 v_r898)) = true
      · rw [if_pos h1326] at h
        cases h
        exact pkk_sound TTok mix hF 1 (hs := [.t false, .c, .c, .r ((eI .i64) v_r986), .c, .t false, .c, .c, .r ((fun x => PV.agg (cA_t61 x)) v_r988), .c, .c, .c, .q (eqA_ringref2_Plain v_r988 v_r898), .t true, .c, .c, .c, .c, .c, .c, .c, .c, .c]) (ts := []) (s := [0, 2, 3]) (l := [3, 4, 15, 16, 21, 25, 276]) (by kernel_rfl) (by kernel_rfl) (.cons (nf h1322) (.cons (G_ringref2_Tables_ok n v_r340.1 _ h1323) (.cons (nf h1324) (.cons (G_ringref2_TablePages_ok n v_r340.1 _ h1325) (.cons (eqA_ringref2_Plain_ok v_r988 v_r898) (.cons h1326 .nil)))))) q
      · rw [if_neg h1326] at h
        by_cases h1327 : 0 ≤ v_k4 ∧ v_k4 < (8 : Int)
        · rw [if_pos h1327] at h
          obtain ⟨v_y990, h1328, h⟩ := bind_some h
          by_cases h1329 : v_y990.fHuge = true
          · rw [if_pos h1329] at h
            obtain ⟨v_r992, h1330, h⟩ := bind_some h
            cases h
            exact pkk_sound TTok mix hF 1 (hs := [.t false, .c, .c, .r ((eI .i64) v_r986), .c, .t false, .c, .c, .r ((fun x => PV.agg (cA_t61 x)) v_r988), .c, .c, .c, .q (eqA_ringref2_Plain v_r988 v_r898), .t false, .c, .c, .c, .l (.d (.v (.bool v_y990.fHuge))), .c, .t false, .c, .c, .c, .c, .c, .r (eB v_r992), .c]) (ts := []) (s := [0, 2, 3]) (l := [3, 4, 15, 16, 21, 25, 276]) (by kernel_rfl) (by kernel_rfl) (.cons (nf h1322) (.cons (G_ringref2_Tables_ok n v_r340.1 _ h1323) (.cons (nf h1324) (.cons (G_ringref2_TablePages_ok n v_r340.1 _ h1325) (.cons (eqA_ringref2_Plain_ok v_r988 v_r898) (.cons (vf h1326) (.cons h1327 (.cons (arr_cell (γ := FV) (sz := 2) (g := (fun x => [.d (.v (.bool x.fHuge)), .d (.sl (x.fEntries.map eS_entry_Entry))])) (pre := []) (post := []) (o := 0) (fun _ => rfl) h1328 rfl) (.cons (bnf h1329) (.cons (G_ringlaw2_others_ok n v_t1 v_r340.1 v_k4 _ h1330) .nil)))))))))) q
          · rw [if_neg h1329] at h
            cases h
            exact pkk_sound TTok mix hF 1 (hs := [.t false, .c, .c, .r ((eI .i64) v_r986), .c, .t false, .c, .c, .r ((fun x => PV.agg (cA_t61 x)) v_r988), .c, .c, .c, .q (eqA_ringref2_Plain v_r988 v_r898), .t false, .c, .c, .c, .l (.d (.v (.bool v_y990.fHuge))), .c, .t true, .c, .c, .c, .c]) (ts := []) (s := [0, 2, 3]) (l := [3, 4, 15, 16, 21, 25, 276]) (by kernel_rfl) (by kernel_rfl) (.cons (nf h1322) (.cons (G_ringref2_Tables_ok n v_r340.1 _ h1323) (.cons (nf h1324) (.cons (G_ringref2_TablePages_ok n v_r340.1 _ h1325) (.cons (eqA_ringref2_Plain_ok v_r988 v_r898) (.cons (vf h1326) (.cons h1327 (.cons (arr_cell (γ := FV) (sz := 2) (g := (fun x => [.d (.v (.bool x.fHuge)), .d (.sl (x.fEntries.map eS_entry_Entry))])) (pre := []) (post := []) (o := 0) (fun _ => rfl) h1328 rfl) (.cons (bnt (vf h1329)) .nil))))))))) q
        · rw [if_neg h1327] at h; cases h
    · rw [if_neg h1324] at h
      cases h
      exact pkk_sound TTok mix hF 1 (hs := [.t false, .c, .c, .r ((eI .i64) v_r986), .c, .t true, .c, .c, .c, .c, .c, .c, .c, .c, .c, .c, .c, .c, .c]) (ts := []) (s := [0, 2, 3]) (l := [3, 4, 15, 16, 21, 25, 276]) (by kernel_rfl) (by kernel_rfl) (.cons (nf h1322) (.cons (G_ringref2_Tables_ok n v_r340.1 _ h1323) (.cons (nt h1324) .nil))) q
  · rw [if_neg h1322] at h
    cases h
    exact pkk_sound TTok mix hF 1 (hs := [.t true, .c, .c, .c, .c, .c, .c, .c, .c, .c, .c, .c, .c, .c, .c, .c, .c]) (ts := []) (s := [0, 2, 3]) (l := [3, 4, 15, 16, 21, 25, 276]) (by kernel_rfl) (by kernel_rfl) (.cons (nt h1322) .nil) q
inductive G_ringlaw2_TableTells_C24_R where
  | x0 (v_x979 : Bool)
  | x1 
def G_ringlaw2_TableTells_C24_ex : G_ringlaw2_TableTells_C24_R → Ex
  | .x0 _ => .ret
  | .x1  => .normal
def G_ringlaw2_TableTells_C24_st (v_k4 : Int) (v_r340 : ((Fin 8 → S_table_Node) × Int)) (v_r365 : ((Fin 8 → S_table_Node) × Int)) (v_r961 : (Bool)) (v_t1 : (Fin 8 → S_table_Node)) (v_r898 : ((Fin 64 → S_entry_Entry))) : G_ringlaw2_TableTells_C24_R → PS
  | .x0 v_x979 => ⟨[dd, dd, dd, dd, dd, dd, dd, dd, .d (.v (.bool v_x979)), dd, dd, dd, dd, dd, dd, dd, dd, dd, dd, dd, dd, dd, dd, dd, dd, dd, dd, dd, dd, dd, dd, dd, dd, dd, dd, dd, dd, dd, dd, dd, dd, dd, dd, dd, dd, dd, dd, dd, dd, dd, dd, dd, dd, dd, dd, dd, dd, dd, dd, dd, dd, dd, dd, dd, dd, dd, dd, dd, dd, dd, dd, dd, dd, dd, dd, dd, dd, dd, dd, dd, dd, dd, dd, dd, dd, dd, dd, dd, dd, dd, dd, dd, dd, dd, dd, dd, dd, dd, dd, dd, dd, dd, dd, dd, dd, dd, dd, dd, dd, dd, dd, dd, dd, dd, dd, dd, dd, dd, dd, dd, dd, dd, dd, dd, dd, dd, dd, dd, dd, dd, dd, dd, dd, dd, dd, dd, dd, dd, dd, dd, dd, dd, dd, dd, dd, dd, dd, dd, dd, dd, dd, dd, dd, dd, dd, dd, dd, dd, dd, dd, dd, dd, dd, dd, dd, dd, dd, dd, dd, dd, dd, dd, dd, dd, dd, dd, dd, dd, dd, dd, dd, dd, dd, dd, dd, dd, dd, dd, dd, dd, dd, dd, dd, dd, dd, dd, dd, dd, dd, dd, dd, dd, dd, dd, dd, dd, dd, dd, dd, dd, dd, dd, dd, dd, dd, dd, dd, dd, dd, dd, dd, dd, dd, dd, dd, dd, dd, dd, dd, dd, dd, dd, dd, dd, dd, dd, dd, dd, dd, dd, dd, dd, dd, dd, dd, dd, dd, dd, dd, dd, dd, dd, dd, dd, dd, dd, dd, dd, dd, dd, dd, dd, dd, dd, dd, dd, dd, dd, dd, dd, dd, dd, dd, dd, dd, dd, dd, dd, dd, dd, dd, dd, dd, dd, dd, dd, dd, dd, dd, dd, dd, dd, dd, dd, dd, dd, dd, dd, dd, dd, dd, dd, dd, dd, dd, dd, dd, dd, dd, dd, dd, dd, dd, dd, dd], []⟩
  | .x1  => ⟨[dd, dd, dd, .d (.v (.int .i64 v_k4)), .ref 0 0, dd, dd, dd, dd, dd, dd, dd, dd, dd, dd, .ref 1 0, .d (.v (.int .i64 v_r365.2)), dd, dd, dd, dd, .d (.clo 33 []), dd, dd, dd, .ref 2 0, dd, dd, dd, dd, dd, dd, dd, dd, dd, dd, dd, dd, dd, dd, dd, dd, dd, dd, dd, dd, dd, dd, dd, dd, dd, dd, dd, dd, dd, dd, dd, dd, dd, dd, dd, dd, dd, dd, dd, dd, dd, dd, dd, dd, dd, dd, dd, dd, dd, dd, dd, dd, dd, dd, dd, dd, dd, dd, dd, dd, dd, dd, dd, dd, dd, dd, dd, dd, dd, dd, dd, dd, dd, dd, dd, dd, dd, dd, dd, dd, dd, dd, dd, dd, dd, dd, dd, dd, dd, dd, dd, dd, dd, dd, dd, dd, dd, dd, dd, dd, dd, dd, dd, dd, dd, dd, dd, dd, dd, dd, dd, dd, dd, dd, dd, dd, dd, dd, dd, dd, dd, dd, dd, dd, dd, dd, dd, dd, dd, dd, dd, dd, dd, dd, dd, dd, dd, dd, dd, dd, dd, dd, dd, dd, dd, dd, dd, dd, dd, dd, dd, dd, dd, dd, dd, dd, dd, dd, dd, dd, dd, dd, dd, dd, dd, dd, dd, dd, dd, dd, dd, dd, dd, dd, dd, dd, dd, dd, dd, dd, dd, dd, dd, dd, dd, dd, dd, dd, dd, dd, dd, dd, dd, dd, dd, dd, dd, dd, dd, dd, dd, dd, dd, dd, dd, dd, dd, dd, dd, dd, dd, dd, dd, dd, dd, dd, dd, dd, dd, dd, dd, dd, dd, dd, dd, dd, dd, dd, dd, dd, dd, dd, dd, dd, dd, dd, dd, dd, dd, dd, dd, dd, dd, dd, dd, dd, dd, dd, dd, dd, dd, dd, dd, dd, dd, dd, dd, dd, dd, dd, dd, dd, dd, dd, dd, dd, dd, dd, dd, dd, dd, dd, dd, dd, dd, dd, dd, dd, dd, dd, dd, dd, dd, dd, dd, dd, dd, dd, dd], [.box ((cA_t49 v_t1).map FV.d), .box ((cA_t49 v_r365.1).map FV.d), .box ((cA_t61 v_r898).map FV.d)]⟩
def G_ringlaw2_TableTells_C24_hd (v_k4 : Int) (v_r340 : ((Fin 8 → S_table_Node) × Int)) (v_r365 : ((Fin 8 → S_table_Node) × Int)) (v_r961 : (Bool)) (v_t1 : (Fin 8 → S_table_Node)) (v_r898 : ((Fin 64 → S_entry_Entry)))  : PS := ⟨[dd, dd, dd, .d (.v (.int .i64 v_k4)), .ref 0 0, dd, dd, dd, dd, dd, dd, dd, dd, .ref 1 0, .d (.v (.int .i64 v_r340.2)), .ref 2 0, .d (.v (.int .i64 v_r365.2)), dd, dd, dd, dd, .d (.clo 33 []), dd, dd, dd, .ref 3 0, dd, dd, dd, dd, dd, dd, dd, dd, dd, dd, dd, dd, dd, dd, dd, dd, dd, dd, dd, dd, dd, dd, dd, dd, dd, dd, dd, dd, dd, dd, dd, dd, dd, dd, dd, dd, dd, dd, dd, dd, dd, dd, dd, dd, dd, dd, dd, dd, dd, dd, dd, dd, dd, dd, dd, dd, dd, dd, dd, dd, dd, dd, dd, dd, dd, dd, dd, dd, dd, dd, dd, dd, dd, dd, dd, dd, dd, dd, dd, dd, dd, dd, dd, dd, dd, dd, dd, dd, dd, dd, dd, dd, dd, dd, dd, dd, dd, dd, dd, dd, dd, dd, dd, dd, dd, dd, dd, dd, dd, dd, dd, dd, dd, dd, dd, dd, dd, dd, dd, dd, dd, dd, dd, dd, dd, dd, dd, dd, dd, dd, dd, dd, dd, dd, dd, dd, dd, dd, dd, dd, dd, dd, dd, dd, dd, dd, dd, dd, dd, dd, dd, dd, dd, dd, dd, dd, dd, dd, dd, dd, dd, dd, dd, dd, dd, dd, dd, dd, dd, dd, dd, dd, dd, dd, dd, dd, dd, dd, dd, dd, dd, dd, dd, dd, dd, dd, dd, dd, dd, dd, dd, dd, dd, dd, dd, dd, dd, dd, dd, dd, dd, dd, dd, dd, dd, dd, dd, dd, dd, dd, dd, dd, dd, dd, dd, .d (.v (.bool (!v_r961))), dd, dd, dd, dd, dd, dd, dd, dd, dd, dd, dd, dd, dd, dd, dd, dd, dd, dd, dd, dd, dd, dd, dd, dd, dd, dd, dd, dd, dd, dd, dd, dd, dd, dd, dd, dd, dd, dd, dd, dd, dd, dd, dd, dd, dd, dd, dd, dd, dd, dd, dd, dd, dd, dd, dd, dd, dd, dd, dd, dd, dd, dd, dd, dd, dd, dd, dd, dd, dd, dd, dd, dd, dd], [.box ((cA_t49 v_t1).map FV.d), .box ((cA_t49 v_r340.1).map FV.d), .box ((cA_t49 v_r365.1).map FV.d), .box ((cA_t61 v_r898).map FV.d)]⟩
def G_ringlaw2_TableTells_C24 (n : Nat) (v_k4 : Int) (v_r340 : ((Fin 8 → S_table_Node) × Int)) (v_r365 : ((Fin 8 → S_table_Node) × Int)) (v_r961 : (Bool)) (v_t1 : (Fin 8 → S_table_Node)) (v_r898 : ((Fin 64 → S_entry_Entry))) : Option G_ringlaw2_TableTells_C24_R :=
  if v_r961 = true then
   (G_ringlaw2_TableTells_C23 n v_k4 v_r340 v_r365 v_t1 v_r898).bind fun v_o994 => match v_o994 with
   | .x0 v_z995 =>
     if v_z995 = true then
      some (.x0 false)
     else
      some (.x1 )
  else
   (G_ringlaw2_TableTells_1 n v_r340.1).bind fun (v_r978 : (Bool)) =>
   if v_r978 = true then
    if v_r340.2 = 8 then
     some (.x1 )
    else
     some (.x0 false)
   else
    some (.x0 false)
theorem G_ringlaw2_TableTells_C24_ok {Fi : Ex → PS → Prop} (hF : KC 315 Fi) (ks : List Fr) (n : Nat) (v_k4 : Int) (v_r340 : ((Fin 8 → S_table_Node) × Int)) (v_r365 : ((Fin 8 → S_table_Node) × Int)) (v_r961 : (Bool)) (v_t1 : (Fin 8 → S_table_Node)) (v_r898 : ((Fin 64 → S_entry_Entry)))  (o : G_ringlaw2_TableTells_C24_R) (h : G_ringlaw2_TableTells_C24 n v_k4 v_r340 v_r365 v_r961 v_t1 v_r898 = some o) (q : RunE Try.prog 315 Fi ks (G_ringlaw2_TableTells_C24_ex o) (G_ringlaw2_TableTells_C24_st v_k4 v_r340 v_r365 v_r961 v_t1 v_r898 o)) : RunE Try.prog 315 Fi (.s (cR (cL (cR (cR (cR (cR (cR (cR (cR (cR (cR (cR (cR (cR (cR (cR (cR (cR (cR (cR (cR (cR (cR (bodyOf Try.f5)))))))))))))))))))))))) :: ks) .normal (G_ringlaw2_TableTells_C24_hd v_k4 v_r340 v_r365 v_r961 v_t1 v_r898) := by
  unfold G_ringlaw2_TableTells_C24 at h
  by_cases h1309 : v_r961 = true
  · rw [if_pos h1309] at h
    obtain ⟨v_o994, h1331, h⟩ := bind_some h
    refine pkk_sound TTok mix hF 2 (hs := [.t false]) (ts := []) (s := [0, 1, 2, 3]) (l := [3, 4, 13, 14, 15, 16, 21, 25]) (by kernel_rfl) (by kernel_rfl) (.cons (bnf h1309) .nil) (G_ringlaw2_TableTells_C23_ok hF (.s (cR (cF (cR (cL (cR (cR (cR (cR (cR (cR (cR (cR (cR (cR (cR (cR (cR (cR (cR (cR (cR (cR (cR (cR (cR (bodyOf Try.f5)))))))))))))))))))))))))) :: ks) n v_k4 v_r340 v_r365 v_t1 v_r898 _ h1331 ?_)
    cases v_o994 with
    | x0 v_z995 =>
      dsimp only at h
      by_cases h1332 : v_z995 = true
      · rw [if_pos h1332] at h
        cases h
        exact pkk_sound TTok mix hF 4 (hs := [.t true]) (ts := []) (s := []) (l := [8]) (by kernel_rfl) (by kernel_rfl) (.cons h1332 .nil) q
      · rw [if_neg h1332] at h
        cases h
        exact pkk_sound TTok mix hF 2 (hs := [.t false]) (ts := []) (s := [0, 1, 2]) (l := [3, 4, 15, 16, 21, 25]) (by kernel_rfl) (by kernel_rfl) (.cons (vf h1332) .nil) q
  · rw [if_neg h1309] at h
    obtain ⟨v_r978, h1310, h⟩ := bind_some h
    by_cases h1311 : v_r978 = true
    · rw [if_pos h1311] at h
      by_cases h1312 : v_r340.2 = 8
      · rw [if_pos h1312] at h
        cases h
        exact pkk_sound TTok mix hF 5 (hs := [.t true, .c, .r (eB v_r978), .t false, .c, .t false]) (ts := []) (s := [0, 2, 3]) (l := [3, 4, 15, 16, 21, 25]) (by kernel_rfl) (by kernel_rfl) (.cons (bnt (vf h1309)) (.cons (G_ringlaw2_TableTells_1_ok n v_r340.1 _ h1310) (.cons (bnf h1311) (.cons (nf h1312) .nil)))) q
      · rw [if_neg h1312] at h
        cases h
        exact pkk_sound TTok mix hF 7 (hs := [.t true, .c, .r (eB v_r978), .t false, .c, .t true]) (ts := []) (s := []) (l := [8]) (by kernel_rfl) (by kernel_rfl) (.cons (bnt (vf h1309)) (.cons (G_ringlaw2_TableTells_1_ok n v_r340.1 _ h1310) (.cons (bnf h1311) (.cons (nt h1312) .nil)))) q
    · rw [if_neg h1311] at h
      cases h
      exact pkk_sound TTok mix hF 7 (hs := [.t true, .c, .r (eB v_r978), .t true, .c, .c]) (ts := []) (s := []) (l := [8]) (by kernel_rfl) (by kernel_rfl) (.cons (bnt (vf h1309)) (.cons (G_ringlaw2_TableTells_1_ok n v_r340.1 _ h1310) (.cons (bnt (vf h1311)) .nil))) q
inductive G_ringlaw2_TableTells_C25_R where
  | x0 (v_x1010 : Bool)
def G_ringlaw2_TableTells_C25_ex : G_ringlaw2_TableTells_C25_R → Ex
  | .x0 _ => .normal
def G_ringlaw2_TableTells_C25_st (v_k4 : Int) (v_r365 : ((Fin 8 → S_table_Node) × Int)) (v_t1 : (Fin 8 → S_table_Node)) (v_r898 : ((Fin 64 → S_entry_Entry))) : G_ringlaw2_TableTells_C25_R → PS
  | .x0 v_x1010 => ⟨[dd, dd, dd, dd, dd, dd, dd, dd, .d (.v (.bool v_x1010)), dd, dd, dd, dd, dd, dd, dd, dd, dd, dd, dd, dd, dd, dd, dd, dd, dd, dd, dd, dd, dd, dd, dd, dd, dd, dd, dd, dd, dd, dd, dd, dd, dd, dd, dd, dd, dd, dd, dd, dd, dd, dd, dd, dd, dd, dd, dd, dd, dd, dd, dd, dd, dd, dd, dd, dd, dd, dd, dd, dd, dd, dd, dd, dd, dd, dd, dd, dd, dd, dd, dd, dd, dd, dd, dd, dd, dd, dd, dd, dd, dd, dd, dd, dd, dd, dd, dd, dd, dd, dd, dd, dd, dd, dd, dd, dd, dd, dd, dd, dd, dd, dd, dd, dd, dd, dd, dd, dd, dd, dd, dd, dd, dd, dd, dd, dd, dd, dd, dd, dd, dd, dd, dd, dd, dd, dd, dd, dd, dd, dd, dd, dd, dd, dd, dd, dd, dd, dd, dd, dd, dd, dd, dd, dd, dd, dd, dd, dd, dd, dd, dd, dd, dd, dd, dd, dd, dd, dd, dd, dd, dd, dd, dd, dd, dd, dd, dd, dd, dd, dd, dd, dd, dd, dd, dd, dd, dd, dd, dd, dd, dd, dd, dd, dd, dd, dd, dd, dd, dd, dd, dd, dd, dd, dd, dd, dd, dd, dd, dd, dd, dd, dd, dd, dd, dd, dd, dd, dd, dd, dd, dd, dd, dd, dd, dd, dd, dd, dd, dd, dd, dd, dd, dd, dd, dd, dd, dd, dd, dd, dd, dd, dd, dd, dd, dd, dd, dd, dd, dd, dd, dd, dd, dd, dd, dd, dd, dd, dd, dd, dd, dd, dd, dd, dd, dd, dd, dd, dd, dd, dd, dd, dd, dd, dd, dd, dd, dd, dd, dd, dd, dd, dd, dd, dd, dd, dd, dd, dd, dd, dd, dd, dd, dd, dd, dd, dd, dd, dd, dd, dd, dd, dd, dd, dd, dd, dd, dd, dd, dd, dd, dd, dd, dd, dd, dd, dd], []⟩
def G_ringlaw2_TableTells_C25_hd (v_k4 : Int) (v_r365 : ((Fin 8 → S_table_Node) × Int)) (v_t1 : (Fin 8 → S_table_Node)) (v_r898 : ((Fin 64 → S_entry_Entry)))  : PS := ⟨[dd, dd, dd, .d (.v (.int .i64 v_k4)), .ref 0 0, dd, dd, dd, dd, dd, dd, dd, dd, dd, dd, .ref 1 0, .d (.v (.int .i64 v_r365.2)), dd, dd, dd, dd, dd, dd, dd, dd, .ref 2 0, dd, dd, dd, dd, dd, dd, dd, dd, dd, dd, dd, dd, dd, dd, dd, dd, dd, dd, dd, dd, dd, dd, dd, dd, dd, dd, dd, dd, dd, dd, dd, dd, dd, dd, dd, dd, dd, dd, dd, dd, dd, dd, dd, dd, dd, dd, dd, dd, dd, dd, dd, dd, dd, dd, dd, dd, dd, dd, dd, dd, dd, dd, dd, dd, dd, dd, dd, dd, dd, dd, dd, dd, dd, dd, dd, dd, dd, dd, dd, dd, dd, dd, dd, dd, dd, dd, dd, dd, dd, dd, dd, dd, dd, dd, dd, dd, dd, dd, dd, dd, dd, dd, dd, dd, dd, dd, dd, dd, dd, dd, dd, dd, dd, dd, dd, dd, dd, dd, dd, dd, dd, dd, dd, dd, dd, dd, dd, dd, dd, dd, dd, dd, dd, dd, dd, dd, dd, dd, dd, dd, dd, dd, dd, dd, dd, dd, dd, dd, dd, dd, dd, dd, dd, dd, dd, dd, dd, dd, dd, dd, dd, dd, dd, dd, dd, dd, dd, dd, dd, dd, dd, dd, dd, dd, dd, dd, dd, dd, dd, dd, dd, dd, dd, dd, dd, dd, dd, dd, dd, dd, dd, dd, dd, dd, dd, dd, dd, dd, dd, dd, dd, dd, dd, dd, dd, dd, dd, dd, dd, dd, dd, dd, dd, dd, dd, dd, dd, dd, dd, dd, dd, dd, dd, dd, dd, dd, dd, dd, dd, dd, dd, dd, dd, dd, dd, dd, dd, dd, dd, dd, dd, dd, dd, dd, dd, dd, dd, dd, dd, dd, dd, dd, dd, dd, dd, dd, dd, dd, dd, dd, dd, dd, dd, dd, dd, dd, dd, dd, dd, dd, dd, dd, dd, dd, dd, dd, dd, dd, dd, dd, dd, dd, dd, dd, dd, dd, dd, dd, dd], [.box ((cA_t49 v_t1).map FV.d), .box ((cA_t49 v_r365.1).map FV.d), .box ((cA_t61 v_r898).map FV.d)]⟩
def G_ringlaw2_TableTells_C25 (n : Nat) (v_k4 : Int) (v_r365 : ((Fin 8 → S_table_Node) × Int)) (v_t1 : (Fin 8 → S_table_Node)) (v_r898 : ((Fin 64 → S_entry_Entry))) : Option G_ringlaw2_TableTells_C25_R :=
  if v_r365.2 = 0 then
   (G_ringref2_Tables n v_r365.1).bind fun (v_r1006 : (Int)) =>
   if v_r1006 = 0 then
    (G_ringref2_TablePages n v_r365.1).bind fun (v_r1007 : ((Fin 64 → S_entry_Entry))) =>
    if (eqRes .eql (eqA_ringref2_Plain v_r1007 v_r898)) = true then
     if 0 ≤ v_k4 ∧ v_k4 < (8 : Int) then
      (getA v_r365.1 v_k4).bind fun (v_y1008 : S_table_Node) =>
      if v_y1008.fHuge = true then
       some (.x0 false)
      else
       (G_ringlaw2_others n v_t1 v_r365.1 v_k4).bind fun (v_r1009 : (Bool)) =>
       some (.x0 v_r1009)
     else none
    else
     some (.x0 false)
   else
    some (.x0 false)
  else
   some (.x0 false)
theorem G_ringlaw2_TableTells_C25_ok {Fi : Ex → PS → Prop} (hF : KC 315 Fi) (ks : List Fr) (n : Nat) (v_k4 : Int) (v_r365 : ((Fin 8 → S_table_Node) × Int)) (v_t1 : (Fin 8 → S_table_Node)) (v_r898 : ((Fin 64 → S_entry_Entry)))  (o : G_ringlaw2_TableTells_C25_R) (h : G_ringlaw2_TableTells_C25 n v_k4 v_r365 v_t1 v_r898 = some o) (q : RunE Try.prog 315 Fi ks (G_ringlaw2_TableTells_C25_ex o) (G_ringlaw2_TableTells_C25_st v_k4 v_r365 v_t1 v_r898 o)) : RunE Try.prog 315 Fi (.s (cL (cR (cR (cR (cR (cR (cR (cR (cR (cR (cR (cR (cR (cR (cR (cR (cR (cR (cR (cR (cR (cR (cR (cR (bodyOf Try.f5))))))))))))))))))))))))) :: ks) .normal (G_ringlaw2_TableTells_C25_hd v_k4 v_r365 v_t1 v_r898) := by
  unfold G_ringlaw2_TableTells_C25 at h
  by_cases h1351 : v_r365.2 = 0
  · rw [if_pos h1351] at h
    obtain ⟨v_r1006, h1352, h⟩ := bind_some h
    by_cases h1353 : v_r1006 = 0
    · rw [if_pos h1353] at h
      obtain ⟨v_r1007, h1354, h⟩ := bind_some h
      by_cases h1355 : (eqRes .eql (eqA_ringref2_Plain v_r1007 v_r898)) = true
      · rw [if_pos h1355] at h
        by_cases h1356 : 0 ≤ v_k4 ∧ v_k4 < (8 : Int)
        · rw [if_pos h1356] at h
          obtain ⟨v_y1008, h1357, h⟩ := bind_some h
          by_cases h1358 : v_y1008.fHuge = true
          · rw [if_pos h1358] at h
            cases h
            exact pkk_sound TTok mix hF 1 (hs := [.t true, .c, .c, .r ((eI .i64) v_r1006), .c, .t true, .c, .c, .r ((fun x => PV.agg (cA_t61 x)) v_r1007), .c, .c, .c, .q (eqA_ringref2_Plain v_r1007 v_r898), .t true, .c, .c, .c, .l (.d (.v (.bool v_y1008.fHuge))), .c, .t false, .c, .c, .c]) (ts := []) (s := []) (l := [8]) (by kernel_rfl) (by kernel_rfl) (.cons (bt h1351) (.cons (G_ringref2_Tables_ok n v_r365.1 _ h1352) (.cons (bt h1353) (.cons (G_ringref2_TablePages_ok n v_r365.1 _ h1354) (.cons (eqA_ringref2_Plain_ok v_r1007 v_r898) (.cons h1355 (.cons h1356 (.cons (arr_cell (γ := FV) (sz := 2) (g := (fun x => [.d (.v (.bool x.fHuge)), .d (.sl (x.fEntries.map eS_entry_Entry))])) (pre := []) (post := []) (o := 0) (fun _ => rfl) h1357 rfl) (.cons (bnf h1358) .nil))))))))) q
          · rw [if_neg h1358] at h
            obtain ⟨v_r1009, h1359, h⟩ := bind_some h
            cases h
            exact pkk_sound TTok mix hF 1 (hs := [.t true, .c, .c, .r ((eI .i64) v_r1006), .c, .t true, .c, .c, .r ((fun x => PV.agg (cA_t61 x)) v_r1007), .c, .c, .c, .q (eqA_ringref2_Plain v_r1007 v_r898), .t true, .c, .c, .c, .l (.d (.v (.bool v_y1008.fHuge))), .c, .t true, .c, .c, .c, .c, .c, .r (eB v_r1009)]) (ts := []) (s := []) (l := [8]) (by kernel_rfl) (by kernel_rfl) (.cons (bt h1351) (.cons (G_ringref2_Tables_ok n v_r365.1 _ h1352) (.cons (bt h1353) (.cons (G_ringref2_TablePages_ok n v_r365.1 _ h1354) (.cons (eqA_ringref2_Plain_ok v_r1007 v_r898) (.cons h1355 (.cons h1356 (.cons (arr_cell (γ := FV) (sz := 2) (g := (fun x => [.d (.v (.bool x.fHuge)), .d (.sl (x.fEntries.map eS_entry_Entry))])) (pre := []) (post := []) (o := 0) (fun _ => rfl) h1357 rfl) (.cons (bnt (vf h1358)) (.cons (G_ringlaw2_others_ok n v_t1 v_r365.1 v_k4 _ h1359) .nil)))))))))) q
        · rw [if_neg h1356] at h; cases h
      · rw [if_neg h1355] at h
        cases h
        exact pkk_sound TTok mix hF 1 (hs := [.t true, .c, .c, .r ((eI .i64) v_r1006), .c, .t true, .c, .c, .r ((fun x => PV.agg (cA_t61 x)) v_r1007), .c, .c, .c, .q (eqA_ringref2_Plain v_r1007 v_r898), .t false, .c, .c, .c, .c, .c, .c, .c, .c]) (ts := []) (s := []) (l := [8]) (by kernel_rfl) (by kernel_rfl) (.cons (bt h1351) (.cons (G_ringref2_Tables_ok n v_r365.1 _ h1352) (.cons (bt h1353) (.cons (G_ringref2_TablePages_ok n v_r365.1 _ h1354) (.cons (eqA_ringref2_Plain_ok v_r1007 v_r898) (.cons (vf h1355) .nil)))))) q
    · rw [if_neg h1353] at h
      cases h
      exact pkk_sound TTok mix hF 1 (hs := [.t true, .c, .c, .r ((eI .i64) v_r1006), .c, .t false, .c, .c, .c, .c, .c, .c, .c, .c, .c, .c, .c, .c]) (ts := []) (s := []) (l := [8]) (by kernel_rfl) (by kernel_rfl) (.cons (bt h1351) (.cons (G_ringref2_Tables_ok n v_r365.1 _ h1352) (.cons (bf h1353) .nil))) q
  · rw [if_neg h1351] at h
    cases h
    exact pkk_sound TTok mix hF 1 (hs := [.t false, .c, .c, .c, .c, .c, .c, .c, .c, .c, .c, .c, .c, .c, .c, .c]) (ts := []) (s := []) (l := [8]) (by kernel_rfl) (by kernel_rfl) (.cons (bf h1351) .nil) q
inductive G_ringlaw2_TableTells_C26_R where
  | x0 (v_set1019 : Int)
def G_ringlaw2_TableTells_C26_ex : G_ringlaw2_TableTells_C26_R → Ex
  | .x0 _ => .normal
def G_ringlaw2_TableTells_C26_st (v_p2 : Int) (v_k4 : Int) (v_r267 : (S_entry_Entry × Int)) (v_r321 : ((Fin 8 → S_table_Node) × Int)) (v_r340 : ((Fin 8 → S_table_Node) × Int)) (v_r365 : ((Fin 8 → S_table_Node) × Int)) (v_r378 : (Int × Int × Int)) (v_r461 : (Int)) (v_t1 : (Fin 8 → S_table_Node)) (v_x3 : S_entry_Entry) : G_ringlaw2_TableTells_C26_R → PS
  | .x0 v_set1019 => ⟨[dd, .d (.v (.int .i64 v_p2)), dd, .d (.v (.int .i64 v_k4)), .ref 0 0, dd, .ref 1 0, dd, dd, .ref 2 0, .d (.v (.int .i64 v_r267.2)), .ref 3 0, .d (.v (.int .i64 v_r321.2)), .ref 4 0, .d (.v (.int .i64 v_r340.2)), .ref 5 0, .d (.v (.int .i64 v_r365.2)), .d (.v (.int .i64 v_r378.1)), .d (.v (.int .i64 v_r378.2.1)), .d (.v (.int .i64 v_r378.2.2)), .d (.v (.int .i64 v_r461)), .d (.clo 33 []), .d (.v (.int .i64 v_r461)), .d (.v (.int .i64 v_set1019)), .d (.v (.int .i64 v_r461)), dd, dd, dd, dd, dd, dd, dd, dd, dd, dd, dd, dd, dd, dd, dd, dd, dd, dd, dd, dd, dd, dd, dd, dd, dd, dd, dd, dd, dd, dd, dd, dd, dd, dd, dd, dd, dd, dd, dd, dd, dd, dd, dd, dd, dd, dd, dd, dd, dd, dd, dd, dd, dd, dd, dd, dd, dd, dd, dd, dd, dd, dd, dd, dd, dd, dd, dd, dd, dd, dd, dd, dd, dd, dd, dd, dd, dd, dd, dd, dd, dd, dd, dd, dd, dd, dd, dd, dd, dd, dd, dd, dd, dd, dd, dd, dd, dd, dd, dd, dd, dd, dd, dd, dd, dd, dd, dd, dd, dd, dd, dd, dd, dd, dd, dd, dd, dd, dd, dd, dd, dd, dd, dd, dd, dd, dd, dd, dd, dd, dd, dd, dd, dd, dd, dd, dd, dd, dd, dd, dd, dd, dd, dd, dd, dd, dd, dd, dd, dd, dd, dd, dd, dd, dd, dd, dd, dd, dd, dd, dd, dd, dd, dd, dd, dd, dd, dd, dd, dd, dd, dd, dd, dd, dd, dd, dd, dd, dd, dd, dd, dd, dd, dd, dd, dd, dd, dd, dd, dd, dd, dd, dd, dd, dd, dd, dd, dd, dd, dd, dd, dd, dd, dd, dd, dd, dd, dd, dd, dd, dd, dd, dd, dd, dd, dd, dd, dd, dd, dd, dd, dd, dd, dd, dd, dd, dd, dd, dd, dd, dd, dd, dd, dd, dd, dd, dd, dd, dd, dd, dd, dd, dd, dd, dd, dd, dd, dd, dd, dd, dd, dd, dd, dd, dd, dd, dd, dd, dd, dd, dd, dd, dd, dd, dd, dd, dd, dd, dd, dd, dd, dd, dd, dd, dd, dd, dd, dd, dd, dd, dd, dd, dd, dd, dd, dd, dd, dd, dd, dd, dd], [.box ((cA_t49 v_t1).map FV.d), .box [.d (.v (.bool v_x3.fHere)), .d (.v (.bool v_x3.fSlot)), .d (.v (.int .i64 v_x3.fAt)), .d (.v (.int .i64 v_x3.fRights)), .d (.v (.bool v_x3.fUsed)), .d (.v (.bool v_x3.fDirty)), .d (.v (.bool v_x3.fCopy))], .box [.d (.v (.bool v_r267.1.fHere)), .d (.v (.bool v_r267.1.fSlot)), .d (.v (.int .i64 v_r267.1.fAt)), .d (.v (.int .i64 v_r267.1.fRights)), .d (.v (.bool v_r267.1.fUsed)), .d (.v (.bool v_r267.1.fDirty)), .d (.v (.bool v_r267.1.fCopy))], .box ((cA_t49 v_r321.1).map FV.d), .box ((cA_t49 v_r340.1).map FV.d), .box ((cA_t49 v_r365.1).map FV.d)]⟩
def G_ringlaw2_TableTells_C26_hd (v_p2 : Int) (v_k4 : Int) (v_r267 : (S_entry_Entry × Int)) (v_r321 : ((Fin 8 → S_table_Node) × Int)) (v_r340 : ((Fin 8 → S_table_Node) × Int)) (v_r365 : ((Fin 8 → S_table_Node) × Int)) (v_r378 : (Int × Int × Int)) (v_r461 : (Int)) (v_t1 : (Fin 8 → S_table_Node)) (v_x3 : S_entry_Entry)  : PS := ⟨[dd, .d (.v (.int .i64 v_p2)), dd, .d (.v (.int .i64 v_k4)), .ref 0 0, dd, .ref 1 0, dd, dd, .ref 2 0, .d (.v (.int .i64 v_r267.2)), .ref 3 0, .d (.v (.int .i64 v_r321.2)), .ref 4 0, .d (.v (.int .i64 v_r340.2)), .ref 5 0, .d (.v (.int .i64 v_r365.2)), .d (.v (.int .i64 v_r378.1)), .d (.v (.int .i64 v_r378.2.1)), .d (.v (.int .i64 v_r378.2.2)), .d (.v (.int .i64 v_r461)), .d (.clo 33 []), .d (.v (.int .i64 v_r461)), .d (.v (.int .i64 v_r461)), .d (.v (.int .i64 v_r461)), dd, dd, dd, dd, dd, dd, dd, dd, dd, dd, dd, dd, dd, dd, dd, dd, dd, dd, dd, dd, dd, dd, dd, dd, dd, dd, dd, dd, dd, dd, dd, dd, dd, dd, dd, dd, dd, dd, dd, dd, dd, dd, dd, dd, dd, dd, dd, dd, dd, dd, dd, dd, dd, dd, .d (.v (.bool (v_r461 == 0))), dd, dd, dd, dd, dd, dd, dd, dd, dd, dd, dd, dd, dd, dd, dd, dd, dd, dd, dd, dd, dd, dd, dd, dd, dd, dd, dd, dd, dd, dd, dd, dd, dd, dd, dd, dd, dd, dd, dd, dd, dd, dd, dd, dd, dd, dd, dd, dd, dd, dd, dd, dd, dd, dd, dd, dd, dd, dd, dd, dd, dd, dd, dd, dd, dd, dd, dd, dd, dd, dd, dd, dd, dd, dd, dd, dd, dd, dd, dd, dd, dd, dd, dd, dd, dd, dd, dd, dd, dd, dd, dd, dd, dd, dd, dd, dd, dd, dd, dd, dd, dd, dd, dd, dd, dd, dd, dd, dd, dd, dd, dd, dd, dd, dd, dd, dd, dd, dd, dd, dd, dd, dd, dd, dd, dd, dd, dd, dd, dd, dd, dd, dd, dd, dd, dd, dd, dd, dd, dd, dd, dd, dd, dd, dd, dd, dd, dd, dd, dd, dd, dd, dd, dd, dd, dd, dd, dd, dd, dd, dd, dd, dd, dd, dd, dd, dd, dd, dd, dd, dd, dd, dd, dd, dd, dd, dd, dd, dd, dd, dd, dd, dd, dd, dd, dd, dd, dd, dd, dd, dd, dd, dd, dd, dd, dd, dd, dd, dd, dd, dd, dd, dd, dd, dd, dd, dd, dd, dd, dd, dd, dd, dd, dd, dd, dd, dd, dd, dd, dd, dd, dd, dd, dd, dd, dd, dd, dd, dd, dd, dd, dd, dd, dd, dd, dd], [.box ((cA_t49 v_t1).map FV.d), .box [.d (.v (.bool v_x3.fHere)), .d (.v (.bool v_x3.fSlot)), .d (.v (.int .i64 v_x3.fAt)), .d (.v (.int .i64 v_x3.fRights)), .d (.v (.bool v_x3.fUsed)), .d (.v (.bool v_x3.fDirty)), .d (.v (.bool v_x3.fCopy))], .box [.d (.v (.bool v_r267.1.fHere)), .d (.v (.bool v_r267.1.fSlot)), .d (.v (.int .i64 v_r267.1.fAt)), .d (.v (.int .i64 v_r267.1.fRights)), .d (.v (.bool v_r267.1.fUsed)), .d (.v (.bool v_r267.1.fDirty)), .d (.v (.bool v_r267.1.fCopy))], .box ((cA_t49 v_r321.1).map FV.d), .box ((cA_t49 v_r340.1).map FV.d), .box ((cA_t49 v_r365.1).map FV.d)]⟩
def G_ringlaw2_TableTells_C26 (n : Nat) (v_p2 : Int) (v_k4 : Int) (v_r267 : (S_entry_Entry × Int)) (v_r321 : ((Fin 8 → S_table_Node) × Int)) (v_r340 : ((Fin 8 → S_table_Node) × Int)) (v_r365 : ((Fin 8 → S_table_Node) × Int)) (v_r378 : (Int × Int × Int)) (v_r461 : (Int)) (v_t1 : (Fin 8 → S_table_Node)) (v_x3 : S_entry_Entry) : Option G_ringlaw2_TableTells_C26_R :=
  if v_r461 = 0 then
   (G_ringref2_Entries n v_x3).bind fun (v_r1018 : (Int)) =>
   some (.x0 v_r1018)
  else
   some (.x0 v_r461)
theorem G_ringlaw2_TableTells_C26_ok {Fi : Ex → PS → Prop} (hF : KC 315 Fi) (ks : List Fr) (n : Nat) (v_p2 : Int) (v_k4 : Int) (v_r267 : (S_entry_Entry × Int)) (v_r321 : ((Fin 8 → S_table_Node) × Int)) (v_r340 : ((Fin 8 → S_table_Node) × Int)) (v_r365 : ((Fin 8 → S_table_Node) × Int)) (v_r378 : (Int × Int × Int)) (v_r461 : (Int)) (v_t1 : (Fin 8 → S_table_Node)) (v_x3 : S_entry_Entry)  (o : G_ringlaw2_TableTells_C26_R) (h : G_ringlaw2_TableTells_C26 n v_p2 v_k4 v_r267 v_r321 v_r340 v_r365 v_r378 v_r461 v_t1 v_x3 = some o) (q : RunE Try.prog 315 Fi ks (G_ringlaw2_TableTells_C26_ex o) (G_ringlaw2_TableTells_C26_st v_p2 v_k4 v_r267 v_r321 v_r340 v_r365 v_r378 v_r461 v_t1 v_x3 o)) : RunE Try.prog 315 Fi (.s (cR (cL (cR (cR (cR (cR (cR (cR (cR (cR (cR (cR (cR (bodyOf Try.f5)))))))))))))) :: ks) .normal (G_ringlaw2_TableTells_C26_hd v_p2 v_k4 v_r267 v_r321 v_r340 v_r365 v_r378 v_r461 v_t1 v_x3) := by
  unfold G_ringlaw2_TableTells_C26 at h
  by_cases h1363 : v_r461 = 0
  · rw [if_pos h1363] at h
    obtain ⟨v_r1018, h1364, h⟩ := bind_some h
    cases h
    exact pkk_sound TTok mix hF 2 (hs := [.t true, .c, .r ((eI .i64) v_r1018)]) (ts := []) (s := [0, 1, 2, 3, 4, 5]) (l := [1, 3, 4, 6, 9, 10, 11, 12, 13, 14, 15, 16, 17, 18, 19, 20, 21, 22, 23, 24]) (by kernel_rfl) (by kernel_rfl) (.cons (bt h1363) (.cons (G_ringref2_Entries_ok n v_x3 _ h1364) .nil)) q
  · rw [if_neg h1363] at h
    cases h
    exact pkk_sound TTok mix hF 2 (hs := [.t false]) (ts := []) (s := [0, 1, 2, 3, 4, 5]) (l := [1, 3, 4, 6, 9, 10, 11, 12, 13, 14, 15, 16, 17, 18, 19, 20, 21, 22, 23, 24]) (by kernel_rfl) (by kernel_rfl) (.cons (bf h1363) .nil) q
inductive G_ringlaw2_TableTells_C27_R where
  | x0 (v_x1025 : Bool)
def G_ringlaw2_TableTells_C27_ex : G_ringlaw2_TableTells_C27_R → Ex
  | .x0 _ => .normal
def G_ringlaw2_TableTells_C27_st (v_p2 : Int) (v_k4 : Int) (v_r267 : (S_entry_Entry × Int)) (v_r321 : ((Fin 8 → S_table_Node) × Int)) (v_r340 : ((Fin 8 → S_table_Node) × Int)) (v_r365 : ((Fin 8 → S_table_Node) × Int)) (v_r378 : (Int × Int × Int)) (v_r461 : (Int)) (v_z1022 : Int) (v_t1 : (Fin 8 → S_table_Node)) (v_x3 : S_entry_Entry) : G_ringlaw2_TableTells_C27_R → PS
  | .x0 v_x1025 => ⟨[dd, .d (.v (.int .i64 v_p2)), dd, .d (.v (.int .i64 v_k4)), .ref 0 0, dd, .ref 1 0, dd, dd, .ref 2 0, dd, .ref 3 0, dd, .ref 4 0, .d (.v (.int .i64 v_r340.2)), .ref 5 0, .d (.v (.int .i64 v_r365.2)), .d (.v (.int .i64 v_r378.1)), .d (.v (.int .i64 v_r378.2.1)), dd, .d (.v (.int .i64 v_r461)), .d (.clo 33 []), .d (.v (.int .i64 v_r461)), .d (.v (.int .i64 v_z1022)), .d (.v (.int .i64 v_r461)), dd, dd, dd, dd, dd, dd, dd, dd, dd, dd, dd, dd, dd, dd, dd, dd, dd, dd, dd, dd, dd, dd, dd, dd, dd, dd, dd, dd, dd, dd, dd, dd, dd, dd, dd, dd, dd, dd, dd, dd, dd, dd, dd, dd, dd, dd, dd, dd, dd, dd, dd, dd, dd, dd, dd, dd, dd, dd, dd, dd, dd, dd, dd, dd, dd, dd, dd, dd, dd, dd, dd, dd, dd, dd, dd, dd, dd, dd, dd, dd, dd, dd, dd, dd, dd, dd, dd, dd, dd, dd, dd, dd, dd, dd, dd, dd, dd, dd, dd, dd, dd, dd, dd, dd, dd, .d (.v (.bool v_x1025)), dd, dd, dd, dd, dd, dd, dd, dd, dd, dd, dd, dd, dd, dd, dd, dd, dd, dd, dd, dd, dd, dd, dd, dd, dd, dd, dd, dd, dd, dd, dd, dd, dd, dd, dd, dd, dd, dd, dd, dd, dd, dd, dd, dd, dd, dd, dd, dd, dd, dd, dd, dd, dd, dd, dd, dd, dd, dd, dd, dd, dd, dd, dd, dd, dd, dd, dd, dd, dd, dd, dd, dd, dd, dd, dd, dd, dd, dd, dd, dd, dd, dd, dd, dd, dd, dd, dd, dd, dd, dd, dd, dd, dd, dd, dd, dd, dd, dd, dd, dd, dd, dd, dd, dd, dd, dd, dd, dd, dd, dd, dd, dd, dd, dd, dd, dd, dd, dd, dd, dd, dd, dd, dd, dd, dd, dd, dd, dd, dd, dd, dd, dd, dd, dd, dd, dd, dd, dd, dd, dd, dd, dd, dd, dd, dd, dd, dd, dd, dd, dd, dd, dd, dd, dd, dd, dd, dd, dd, dd, dd, dd, dd, dd, dd, dd, dd, dd, dd, dd, dd, dd, dd, dd, dd, dd, dd, dd, dd, dd, dd, dd, dd, dd, dd], [.box ((cA_t49 v_t1).map FV.d), .box [.d (.v (.bool v_x3.fHere)), .d (.v (.bool v_x3.fSlot)), .d (.v (.int .i64 v_x3.fAt)), .d (.v (.int .i64 v_x3.fRights)), .d (.v (.bool v_x3.fUsed)), .d (.v (.bool v_x3.fDirty)), .d (.v (.bool v_x3.fCopy))], .box [.d (.v (.bool v_r267.1.fHere)), .d (.v (.bool v_r267.1.fSlot)), .d (.v (.int .i64 v_r267.1.fAt)), .d (.v (.int .i64 v_r267.1.fRights)), .d (.v (.bool v_r267.1.fUsed)), .d (.v (.bool v_r267.1.fDirty)), .d (.v (.bool v_r267.1.fCopy))], .box ((cA_t49 v_r321.1).map FV.d), .box ((cA_t49 v_r340.1).map FV.d), .box ((cA_t49 v_r365.1).map FV.d)]⟩
def G_ringlaw2_TableTells_C27_hd (v_p2 : Int) (v_k4 : Int) (v_r267 : (S_entry_Entry × Int)) (v_r321 : ((Fin 8 → S_table_Node) × Int)) (v_r340 : ((Fin 8 → S_table_Node) × Int)) (v_r365 : ((Fin 8 → S_table_Node) × Int)) (v_r378 : (Int × Int × Int)) (v_r461 : (Int)) (v_z1022 : Int) (v_t1 : (Fin 8 → S_table_Node)) (v_x3 : S_entry_Entry)  : PS := ⟨[dd, .d (.v (.int .i64 v_p2)), dd, .d (.v (.int .i64 v_k4)), .ref 0 0, dd, .ref 1 0, dd, dd, .ref 2 0, .d (.v (.int .i64 v_r267.2)), .ref 3 0, .d (.v (.int .i64 v_r321.2)), .ref 4 0, .d (.v (.int .i64 v_r340.2)), .ref 5 0, .d (.v (.int .i64 v_r365.2)), .d (.v (.int .i64 v_r378.1)), .d (.v (.int .i64 v_r378.2.1)), .d (.v (.int .i64 v_r378.2.2)), .d (.v (.int .i64 v_r461)), .d (.clo 33 []), .d (.v (.int .i64 v_r461)), .d (.v (.int .i64 v_z1022)), .d (.v (.int .i64 v_r461)), dd, dd, dd, dd, dd, dd, dd, dd, dd, dd, dd, dd, dd, dd, dd, dd, dd, dd, dd, dd, dd, dd, dd, dd, dd, dd, dd, dd, dd, dd, dd, dd, dd, dd, dd, dd, dd, dd, dd, dd, dd, dd, dd, dd, dd, dd, dd, dd, dd, dd, dd, dd, dd, dd, dd, dd, dd, dd, dd, dd, dd, dd, dd, dd, dd, dd, dd, dd, dd, dd, dd, dd, dd, dd, dd, dd, dd, dd, dd, dd, dd, dd, dd, dd, dd, dd, dd, dd, dd, dd, dd, dd, dd, dd, dd, dd, dd, dd, dd, dd, dd, dd, dd, dd, dd, dd, dd, dd, dd, dd, dd, dd, dd, dd, dd, dd, dd, dd, dd, dd, dd, dd, dd, dd, dd, dd, dd, dd, dd, dd, dd, dd, dd, dd, dd, dd, dd, dd, dd, dd, dd, dd, dd, dd, dd, dd, dd, dd, dd, dd, dd, dd, dd, dd, dd, dd, dd, dd, dd, dd, dd, dd, dd, dd, dd, dd, dd, dd, dd, dd, dd, dd, dd, dd, dd, dd, dd, dd, dd, dd, dd, dd, dd, dd, dd, dd, dd, dd, dd, dd, dd, dd, dd, dd, dd, dd, dd, dd, dd, dd, dd, dd, dd, dd, dd, dd, dd, dd, dd, dd, dd, dd, dd, dd, dd, dd, dd, dd, dd, dd, dd, dd, dd, dd, dd, dd, dd, dd, dd, dd, dd, dd, dd, dd, dd, dd, dd, dd, dd, dd, dd, dd, dd, dd, dd, dd, dd, dd, dd, dd, dd, dd, dd, dd, dd, dd, dd, dd, dd, dd, dd, dd, dd, dd, dd, dd, dd, dd, dd, dd, dd, dd, dd, dd, dd, dd, dd, dd, dd, dd, dd, dd, dd, dd, dd, dd, dd, dd, dd, dd], [.box ((cA_t49 v_t1).map FV.d), .box [.d (.v (.bool v_x3.fHere)), .d (.v (.bool v_x3.fSlot)), .d (.v (.int .i64 v_x3.fAt)), .d (.v (.int .i64 v_x3.fRights)), .d (.v (.bool v_x3.fUsed)), .d (.v (.bool v_x3.fDirty)), .d (.v (.bool v_x3.fCopy))], .box [.d (.v (.bool v_r267.1.fHere)), .d (.v (.bool v_r267.1.fSlot)), .d (.v (.int .i64 v_r267.1.fAt)), .d (.v (.int .i64 v_r267.1.fRights)), .d (.v (.bool v_r267.1.fUsed)), .d (.v (.bool v_r267.1.fDirty)), .d (.v (.bool v_r267.1.fCopy))], .box ((cA_t49 v_r321.1).map FV.d), .box ((cA_t49 v_r340.1).map FV.d), .box ((cA_t49 v_r365.1).map FV.d)]⟩
def G_ringlaw2_TableTells_C27 (n : Nat) (v_p2 : Int) (v_k4 : Int) (v_r267 : (S_entry_Entry × Int)) (v_r321 : ((Fin 8 → S_table_Node) × Int)) (v_r340 : ((Fin 8 → S_table_Node) × Int)) (v_r365 : ((Fin 8 → S_table_Node) × Int)) (v_r378 : (Int × Int × Int)) (v_r461 : (Int)) (v_z1022 : Int) (v_t1 : (Fin 8 → S_table_Node)) (v_x3 : S_entry_Entry) : Option G_ringlaw2_TableTells_C27_R :=
  if v_r267.2 = v_r461 then
   if v_r321.2 = v_z1022 then
    if v_r378.2.2 = v_r461 then
     if v_r461 = 0 then
      if v_z1022 = 0 then
       some (.x0 false)
      else
       (G_ringlaw2_TableTells_1 n v_r321.1).bind fun (v_r1033 : (Bool)) =>
       if v_r1033 = true then
        some (.x0 false)
       else
        some (.x0 true)
     else
      if (eqRes .neq (eqS_entry_Entry v_r267.1 (S_entry_Entry.mk false false 0 0 false false false))) = true then
       some (.x0 true)
      else
       if v_z1022 = 0 then
        some (.x0 ((wi .i64 (v_r378.1 + v_r378.2.1)) != 0))
       else
        (G_ringlaw2_TableTells_1 n v_r321.1).bind fun (v_r1029 : (Bool)) =>
        if v_r1029 = true then
         some (.x0 ((wi .i64 (v_r378.1 + v_r378.2.1)) != 0))
        else
         some (.x0 true)
    else
     some (.x0 true)
   else
    some (.x0 true)
  else
   some (.x0 true)
theorem G_ringlaw2_TableTells_C27_ok {Fi : Ex → PS → Prop} (hF : KC 315 Fi) (ks : List Fr) (n : Nat) (v_p2 : Int) (v_k4 : Int) (v_r267 : (S_entry_Entry × Int)) (v_r321 : ((Fin 8 → S_table_Node) × Int)) (v_r340 : ((Fin 8 → S_table_Node) × Int)) (v_r365 : ((Fin 8 → S_table_Node) × Int)) (v_r378 : (Int × Int × Int)) (v_r461 : (Int)) (v_z1022 : Int) (v_t1 : (Fin 8 → S_table_Node)) (v_x3 : S_entry_Entry)  (o : G_ringlaw2_TableTells_C27_R) (h : G_ringlaw2_TableTells_C27 n v_p2 v_k4 v_r267 v_r321 v_r340 v_r365 v_r378 v_r461 v_z1022 v_t1 v_x3 = some o) (q : RunE Try.prog 315 Fi ks (G_ringlaw2_TableTells_C27_ex o) (G_ringlaw2_TableTells_C27_st v_p2 v_k4 v_r267 v_r321 v_r340 v_r365 v_r378 v_r461 v_z1022 v_t1 v_x3 o)) : RunE Try.prog 315 Fi (.s (cL (cL (cR (cR (cR (cR (cR (cR (cR (cR (cR (cR (cR (cR (cR (bodyOf Try.f5)))))))))))))))) :: ks) .normal (G_ringlaw2_TableTells_C27_hd v_p2 v_k4 v_r267 v_r321 v_r340 v_r365 v_r378 v_r461 v_z1022 v_t1 v_x3) := by
  unfold G_ringlaw2_TableTells_C27 at h
  by_cases h1377 : v_r267.2 = v_r461
  · rw [if_pos h1377] at h
    by_cases h1378 : v_r321.2 = v_z1022
    · rw [if_pos h1378] at h
      by_cases h1379 : v_r378.2.2 = v_r461
      · rw [if_pos h1379] at h
        by_cases h1380 : v_r461 = 0
        · rw [if_pos h1380] at h
          by_cases h1385 : v_z1022 = 0
          · rw [if_pos h1385] at h
            cases h
            exact pkk_sound TTok mix hF 1 (hs := [.t false, .c, .c, .t false, .c, .c, .t false, .c, .c, .t false, .c, .c, .c, .c, .c, .c, .t false, .c, .c, .c, .c, .c, .c, .c, .t false, .c, .c, .c, .c]) (ts := []) (s := [0, 1, 2, 3, 4, 5]) (l := [1, 3, 4, 6, 9, 11, 13, 14, 15, 16, 17, 18, 20, 21, 22, 23, 24, 130]) (by kernel_rfl) (by kernel_rfl) (.cons (nf h1377) (.cons (nf h1378) (.cons (nf h1379) (.cons (nf h1380) (.cons (nf h1385) (.cons (nf h1380) .nil)))))) q
          · rw [if_neg h1385] at h
            obtain ⟨v_r1033, h1386, h⟩ := bind_some h
            by_cases h1387 : v_r1033 = true
            · rw [if_pos h1387] at h
              cases h
              exact pkk_sound TTok mix hF 1 (hs := [.t false, .c, .c, .t false, .c, .c, .t false, .c, .c, .t false, .c, .c, .c, .c, .c, .c, .t true, .c, .c, .c, .r (eB v_r1033), .c, .c, .t false, .c, .c, .t false, .c, .c, .c, .c]) (ts := []) (s := [0, 1, 2, 3, 4, 5]) (l := [1, 3, 4, 6, 9, 11, 13, 14, 15, 16, 17, 18, 20, 21, 22, 23, 24, 130]) (by kernel_rfl) (by kernel_rfl) (.cons (nf h1377) (.cons (nf h1378) (.cons (nf h1379) (.cons (nf h1380) (.cons (nt h1385) (.cons (G_ringlaw2_TableTells_1_ok n v_r321.1 _ h1386) (.cons (bnf h1387) (.cons (nf h1380) .nil)))))))) q
            · rw [if_neg h1387] at h
              cases h
              exact pkk_sound TTok mix hF 1 (hs := [.t false, .c, .c, .t false, .c, .c, .t false, .c, .c, .t false, .c, .c, .c, .c, .c, .c, .t true, .c, .c, .c, .r (eB v_r1033), .c, .c, .t true, .c, .c, .c]) (ts := []) (s := [0, 1, 2, 3, 4, 5]) (l := [1, 3, 4, 6, 9, 11, 13, 14, 15, 16, 17, 18, 20, 21, 22, 23, 24, 130]) (by kernel_rfl) (by kernel_rfl) (.cons (nf h1377) (.cons (nf h1378) (.cons (nf h1379) (.cons (nf h1380) (.cons (nt h1385) (.cons (G_ringlaw2_TableTells_1_ok n v_r321.1 _ h1386) (.cons (bnt (vf h1387)) .nil))))))) q
        · rw [if_neg h1380] at h
          by_cases h1381 : (eqRes .neq (eqS_entry_Entry v_r267.1 (S_entry_Entry.mk false false 0 0 false false false))) = true
          · rw [if_pos h1381] at h
            cases h
            exact pkk_sound TTok mix hF 1 (hs := [.t false, .c, .c, .t false, .c, .c, .t false, .c, .c, .t true, .c, .c, .c, .q (eqS_entry_Entry v_r267.1 (S_entry_Entry.mk false false 0 0 false false false)), .c, .t true, .c, .c, .c, .c, .c, .c, .c]) (ts := []) (s := [0, 1, 2, 3, 4, 5]) (l := [1, 3, 4, 6, 9, 11, 13, 14, 15, 16, 17, 18, 20, 21, 22, 23, 24, 130]) (by kernel_rfl) (by kernel_rfl) (.cons (nf h1377) (.cons (nf h1378) (.cons (nf h1379) (.cons (nt h1380) (.cons (eqS_entry_Entry_ok v_r267.1 (S_entry_Entry.mk false false 0 0 false false false)) (.cons h1381 .nil)))))) q
          · rw [if_neg h1381] at h
            by_cases h1382 : v_z1022 = 0
            · rw [if_pos h1382] at h
              cases h
              exact pkk_sound TTok mix hF 1 (hs := [.t false, .c, .c, .t false, .c, .c, .t false, .c, .c, .t true, .c, .c, .c, .q (eqS_entry_Entry v_r267.1 (S_entry_Entry.mk false false 0 0 false false false)), .c, .t false, .c, .c, .t false, .c, .c, .c, .c, .c, .c, .c, .t true, .c, .c, .c, .c]) (ts := []) (s := [0, 1, 2, 3, 4, 5]) (l := [1, 3, 4, 6, 9, 11, 13, 14, 15, 16, 17, 18, 20, 21, 22, 23, 24, 130]) (by kernel_rfl) (by kernel_rfl) (.cons (nf h1377) (.cons (nf h1378) (.cons (nf h1379) (.cons (nt h1380) (.cons (eqS_entry_Entry_ok v_r267.1 (S_entry_Entry.mk false false 0 0 false false false)) (.cons (vf h1381) (.cons (nf h1382) (.cons (nt h1380) .nil)))))))) q
            · rw [if_neg h1382] at h
              obtain ⟨v_r1029, h1383, h⟩ := bind_some h
              by_cases h1384 : v_r1029 = true
              · rw [if_pos h1384] at h
                cases h
                exact pkk_sound TTok mix hF 1 (hs := [.t false, .c, .c, .t false, .c, .c, .t false, .c, .c, .t true, .c, .c, .c, .q (eqS_entry_Entry v_r267.1 (S_entry_Entry.mk false false 0 0 false false false)), .c, .t false, .c, .c, .t true, .c, .c, .c, .r (eB v_r1029), .c, .c, .t false, .c, .c, .t true, .c, .c, .c, .c]) (ts := []) (s := [0, 1, 2, 3, 4, 5]) (l := [1, 3, 4, 6, 9, 11, 13, 14, 15, 16, 17, 18, 20, 21, 22, 23, 24, 130]) (by kernel_rfl) (by kernel_rfl) (.cons (nf h1377) (.cons (nf h1378) (.cons (nf h1379) (.cons (nt h1380) (.cons (eqS_entry_Entry_ok v_r267.1 (S_entry_Entry.mk false false 0 0 false false false)) (.cons (vf h1381) (.cons (nt h1382) (.cons (G_ringlaw2_TableTells_1_ok n v_r321.1 _ h1383) (.cons (bnf h1384) (.cons (nt h1380) .nil)))))))))) q
              · rw [if_neg h1384] at h
                cases h
                exact pkk_sound TTok mix hF 1 (hs := [.t false, .c, .c, .t false, .c, .c, .t false, .c, .c, .t true, .c, .c, .c, .q (eqS_entry_Entry v_r267.1 (S_entry_Entry.mk false false 0 0 false false false)), .c, .t false, .c, .c, .t true, .c, .c, .c, .r (eB v_r1029), .c, .c, .t true, .c, .c, .c]) (ts := []) (s := [0, 1, 2, 3, 4, 5]) (l := [1, 3, 4, 6, 9, 11, 13, 14, 15, 16, 17, 18, 20, 21, 22, 23, 24, 130]) (by kernel_rfl) (by kernel_rfl) (.cons (nf h1377) (.cons (nf h1378) (.cons (nf h1379) (.cons (nt h1380) (.cons (eqS_entry_Entry_ok v_r267.1 (S_entry_Entry.mk false false 0 0 false false false)) (.cons (vf h1381) (.cons (nt h1382) (.cons (G_ringlaw2_TableTells_1_ok n v_r321.1 _ h1383) (.cons (bnt (vf h1384)) .nil))))))))) q
      · rw [if_neg h1379] at h
        cases h
        exact pkk_sound TTok mix hF 1 (hs := [.t false, .c, .c, .t false, .c, .c, .t true, .c, .c, .c, .c, .c, .c, .c, .c, .c, .c, .c]) (ts := []) (s := [0, 1, 2, 3, 4, 5]) (l := [1, 3, 4, 6, 9, 11, 13, 14, 15, 16, 17, 18, 20, 21, 22, 23, 24, 130]) (by kernel_rfl) (by kernel_rfl) (.cons (nf h1377) (.cons (nf h1378) (.cons (nt h1379) .nil))) q
    · rw [if_neg h1378] at h
      cases h
      exact pkk_sound TTok mix hF 1 (hs := [.t false, .c, .c, .t true, .c, .c, .c, .c, .c, .c, .c, .c, .c, .c, .c, .c, .c, .c]) (ts := []) (s := [0, 1, 2, 3, 4, 5]) (l := [1, 3, 4, 6, 9, 11, 13, 14, 15, 16, 17, 18, 20, 21, 22, 23, 24, 130]) (by kernel_rfl) (by kernel_rfl) (.cons (nf h1377) (.cons (nt h1378) .nil)) q
  · rw [if_neg h1377] at h
    cases h
    exact pkk_sound TTok mix hF 1 (hs := [.t true, .c, .c, .c, .c, .c, .c, .c, .c, .c, .c, .c, .c, .c, .c, .c, .c, .c]) (ts := []) (s := [0, 1, 2, 3, 4, 5]) (l := [1, 3, 4, 6, 9, 11, 13, 14, 15, 16, 17, 18, 20, 21, 22, 23, 24, 130]) (by kernel_rfl) (by kernel_rfl) (.cons (nt h1377) .nil) q
inductive G_ringlaw2_TableTells_C28_R where
  | x0 (v_x1053 : Bool)
def G_ringlaw2_TableTells_C28_ex : G_ringlaw2_TableTells_C28_R → Ex
  | .x0 _ => .normal
def G_ringlaw2_TableTells_C28_st (v_r340 : ((Fin 8 → S_table_Node) × Int)) (v_r365 : ((Fin 8 → S_table_Node) × Int)) (v_r461 : (Int)) : G_ringlaw2_TableTells_C28_R → PS
  | .x0 v_x1053 => ⟨[dd, dd, dd, dd, dd, dd, dd, dd, .d (.v (.bool v_x1053)), dd, dd, dd, dd, dd, dd, dd, dd, dd, dd, dd, dd, dd, dd, dd, dd, dd, dd, dd, dd, dd, dd, dd, dd, dd, dd, dd, dd, dd, dd, dd, dd, dd, dd, dd, dd, dd, dd, dd, dd, dd, dd, dd, dd, dd, dd, dd, dd, dd, dd, dd, dd, dd, dd, dd, dd, dd, dd, dd, dd, dd, dd, dd, dd, dd, dd, dd, dd, dd, dd, dd, dd, dd, dd, dd, dd, dd, dd, dd, dd, dd, dd, dd, dd, dd, dd, dd, dd, dd, dd, dd, dd, dd, dd, dd, dd, dd, dd, dd, dd, dd, dd, dd, dd, dd, dd, dd, dd, dd, dd, dd, dd, dd, dd, dd, dd, dd, dd, dd, dd, dd, dd, dd, dd, dd, dd, dd, dd, dd, dd, dd, dd, dd, dd, dd, dd, dd, dd, dd, dd, dd, dd, dd, dd, dd, dd, dd, dd, dd, dd, dd, dd, dd, dd, dd, dd, dd, dd, dd, dd, dd, dd, dd, dd, dd, dd, dd, dd, dd, dd, dd, dd, dd, dd, dd, dd, dd, dd, dd, dd, dd, dd, dd, dd, dd, dd, dd, dd, dd, dd, dd, dd, dd, dd, dd, dd, dd, dd, dd, dd, dd, dd, dd, dd, dd, dd, dd, dd, dd, dd, dd, dd, dd, dd, dd, dd, dd, dd, dd, dd, dd, dd, dd, dd, dd, dd, dd, dd, dd, dd, dd, dd, dd, dd, dd, dd, dd, dd, dd, dd, dd, dd, dd, dd, dd, dd, dd, dd, dd, dd, dd, dd, dd, dd, dd, dd, dd, dd, dd, dd, dd, dd, dd, dd, dd, dd, dd, dd, dd, dd, dd, dd, dd, dd, dd, dd, dd, dd, dd, dd, dd, dd, dd, dd, dd, dd, dd, dd, dd, dd, dd, dd, dd, dd, dd, dd, dd, dd, dd, dd, dd, dd, dd, dd, dd, dd], []⟩
def G_ringlaw2_TableTells_C28_hd (v_r340 : ((Fin 8 → S_table_Node) × Int)) (v_r365 : ((Fin 8 → S_table_Node) × Int)) (v_r461 : (Int))  : PS := ⟨[dd, dd, dd, dd, dd, dd, dd, dd, dd, dd, dd, dd, dd, .ref 0 0, .d (.v (.int .i64 v_r340.2)), .ref 1 0, .d (.v (.int .i64 v_r365.2)), dd, dd, dd, .d (.v (.int .i64 v_r461)), .d (.clo 33 []), dd, dd, dd, dd, dd, dd, dd, dd, dd, dd, dd, dd, dd, dd, dd, dd, dd, dd, dd, dd, dd, dd, dd, dd, dd, dd, dd, dd, dd, dd, dd, dd, dd, dd, dd, dd, dd, dd, dd, dd, dd, dd, dd, dd, dd, dd, dd, dd, dd, dd, dd, dd, dd, dd, dd, dd, dd, dd, dd, dd, dd, dd, dd, dd, dd, dd, dd, dd, dd, dd, dd, dd, dd, dd, dd, dd, dd, dd, dd, dd, dd, dd, dd, dd, dd, dd, dd, dd, dd, dd, dd, dd, dd, dd, dd, dd, dd, dd, dd, dd, dd, dd, dd, dd, dd, dd, dd, dd, dd, dd, dd, dd, dd, dd, dd, dd, dd, dd, dd, dd, dd, dd, dd, dd, dd, dd, dd, dd, dd, dd, dd, dd, dd, dd, dd, dd, dd, dd, dd, dd, dd, dd, dd, dd, dd, dd, dd, dd, dd, dd, dd, dd, dd, dd, dd, dd, dd, dd, dd, dd, dd, dd, dd, dd, dd, dd, dd, dd, dd, dd, dd, dd, dd, dd, dd, dd, dd, dd, dd, dd, dd, dd, dd, dd, dd, dd, dd, dd, dd, dd, dd, dd, dd, dd, dd, dd, dd, dd, dd, dd, dd, dd, dd, dd, dd, dd, dd, dd, dd, dd, dd, dd, dd, dd, dd, dd, dd, dd, dd, dd, dd, dd, dd, dd, dd, dd, dd, dd, dd, dd, dd, dd, dd, dd, dd, dd, dd, dd, dd, dd, dd, dd, dd, dd, dd, dd, dd, dd, dd, dd, dd, dd, dd, dd, dd, dd, dd, dd, dd, dd, dd, dd, dd, dd, dd, dd, dd, dd, dd, dd, dd, dd, dd, dd, dd, dd, dd, dd, dd, dd, dd, dd, dd, dd, dd, dd, dd, dd, dd, dd, dd, dd, dd], [.box ((cA_t49 v_r340.1).map FV.d), .box ((cA_t49 v_r365.1).map FV.d)]⟩

end Go.Proofs.Ytnmpnljjaoddhaa.pv
