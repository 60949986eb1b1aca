/- What the functions compute, as partial functions over plain data, with their contracts: written by gen.py. -/
import Derived.Test.YtiajagahghgclaaProg
import Derived.Test.YtiajagahghgclaaQr
set_option maxRecDepth 100000
set_option linter.all false
namespace Go.Proofs.Ytiajagahghgclaa.pv
open Go.RowKit
def TT : List TI := [
⟨1, 0, .oth, []⟩,
⟨1, 8, .oth, [.nf]⟩,
⟨1, 8, .int .i64, [.i .i64]⟩,
⟨1, 8, .int .i64, [.i .i64]⟩,
⟨1, 1, .bool, [.b]⟩,
⟨1, 1, .int .u8, [.i .u8]⟩,
⟨1, 1, .int .u8, [.i .u8]⟩,
⟨4, 24, .st [(0, 2), (1, 3), (2, 4), (3, 6)], [.i .i64, .i .i64, .b, .i .u8]⟩,
⟨4, 24, .st [(0, 2), (1, 3), (2, 4), (3, 6)], [.i .i64, .i .i64, .b, .i .u8]⟩,
⟨1, 16, .str, [.s]⟩,
⟨1, 16, .str, [.s]⟩,
⟨1, 16, .str, [.s]⟩,
⟨1, 8, .int .u64, [.i .u64]⟩,
⟨2, 24, .st [(0, 9), (1, 12)], [.s, .i .u64]⟩,
⟨2, 24, .st [(0, 9), (1, 12)], [.s, .i .u64]⟩,
⟨1, 8, .oth, [.np]⟩,
⟨1, 8, .oth, [.np]⟩,
⟨1, 8, .oth, [.np]⟩,
⟨1, 8, .st [(0, 17)], [.np]⟩,
⟨1, 8, .st [(0, 17)], [.np]⟩,
⟨1, 16, .oth, [.ni]⟩,
⟨1, 4, .int .i32, [.i .i32]⟩,
⟨2, 16, .st [(0, 3), (1, 3)], [.i .i64, .i .i64]⟩,
⟨2, 16, .st [(0, 3), (1, 3)], [.i .i64, .i .i64]⟩,
⟨1, 8, .int .i64, [.i .i64]⟩,
⟨1, 0, .oth, []⟩,
⟨1, 8, .oth, [.nf]⟩,
⟨1, 0, .oth, []⟩,
⟨1, 8, .oth, [.nf]⟩,
⟨1, 24, .sl 23, [.sl]⟩,
⟨1, 8, .oth, [.nf]⟩,
⟨1, 8, .oth, [.nf]⟩,
⟨1, 8, .oth, [.nf]⟩,
⟨7, 32, .st [(0, 4), (1, 4), (2, 3), (3, 3), (4, 4), (5, 4), (6, 4)], [.b, .b, .i .i64, .i .i64, .b, .b, .b]⟩,
⟨7, 32, .st [(0, 4), (1, 4), (2, 3), (3, 3), (4, 4), (5, 4), (6, 4)], [.b, .b, .i .i64, .i .i64, .b, .b, .b]⟩,
⟨1, 4, .int .u32, [.i .u32]⟩,
⟨1, 0, .oth, []⟩,
⟨1, 8, .oth, [.nf]⟩,
⟨1, 0, .oth, []⟩,
⟨1, 8, .oth, [.nf]⟩,
⟨1, 8, .oth, [.nf]⟩,
⟨1, 8, .oth, [.nf]⟩,
⟨1, 8, .oth, [.nf]⟩,
⟨1, 8, .oth, [.nf]⟩,
⟨1, 0, .oth, []⟩,
⟨1, 8, .oth, [.nf]⟩,
⟨1, 8, .oth, [.nf]⟩,
⟨1, 8, .oth, [.nf]⟩,
⟨1, 8, .oth, [.nf]⟩,
⟨32, 32, .arr 32 5, List.replicate 32 (.i .u8)⟩,
⟨32, 32, .arr 32 5, List.replicate 32 (.i .u8)⟩,
⟨256, 256, .arr 256 4, []⟩,
⟨1, 8, .oth, [.nf]⟩,
⟨1, 8, .oth, [.nf]⟩,
⟨1, 8, .oth, [.nf]⟩,
⟨1, 24, .sl 3, [.sl]⟩,
⟨1, 8, .oth, [.nf]⟩,
⟨1, 0, .oth, []⟩,
⟨1, 8, .oth, [.nf]⟩,
⟨1, 8, .oth, [.nf]⟩,
⟨1, 8, .oth, [.nf]⟩,
⟨1, 8, .oth, [.nf]⟩,
⟨1, 8, .oth, [.nf]⟩,
⟨1, 8, .oth, [.nf]⟩,
⟨1, 24, .sl 74, [.sl]⟩,
⟨1, 8, .oth, [.nf]⟩,
⟨1, 0, .oth, []⟩,
⟨1, 8, .oth, [.nf]⟩,
⟨1, 24, .sl 71, [.sl]⟩,
⟨1, 8, .oth, [.nf]⟩,
⟨1, 8, .oth, [.nf]⟩,
⟨3, 24, .arr 3 3, [.i .i64, .i .i64, .i .i64]⟩,
⟨1, 8, .oth, [.nf]⟩,
⟨3, 24, .st [(0, 3), (1, 3), (2, 3)], [.i .i64, .i .i64, .i .i64]⟩,
⟨3, 24, .st [(0, 3), (1, 3), (2, 3)], [.i .i64, .i .i64, .i .i64]⟩,
⟨1, 8, .oth, [.nf]⟩,
⟨1, 8, .oth, [.nf]⟩,
⟨1, 8, .int .u64, [.i .u64]⟩,
⟨2, 8, .st [(0, 4), (1, 35)], [.b, .i .u32]⟩,
⟨10, 40, .arr 5 78, [.b, .i .u32, .b, .i .u32, .b, .i .u32, .b, .i .u32, .b, .i .u32]⟩,
⟨1, 8, .oth, [.nf]⟩,
⟨1, 8, .oth, [.nf]⟩,
⟨5, 5, .arr 5 4, [.b, .b, .b, .b, .b]⟩,
⟨1, 8, .oth, [.nf]⟩,
⟨1, 8, .oth, [.nf]⟩,
⟨1, 8, .oth, [.nf]⟩,
⟨100, 100, .arr 100 4, []⟩,
⟨1, 8, .oth, [.nf]⟩,
⟨4, 40, .st [(0, 17), (1, 17), (2, 17), (3, 9)], [.np, .np, .np, .s]⟩,
⟨4, 40, .st [(0, 17), (1, 17), (2, 17), (3, 9)], [.np, .np, .np, .s]⟩,
⟨0, 0, .arr 0 16, []⟩,
⟨0, 0, .st [(0, 90)], []⟩,
⟨0, 0, .st [(0, 90)], []⟩,
⟨1, 1, .int .u8, [.i .u8]⟩,
⟨1, 1, .int .u8, [.i .u8]⟩,
⟨1, 8, .oth, [.nf]⟩,
⟨1, 8, .oth, [.np]⟩,
⟨1, 4, .int .i32, [.i .i32]⟩,
⟨1, 4, .int .i32, [.i .i32]⟩,
⟨11, 48, .st [(0, 12), (1, 12), (2, 35), (3, 93), (4, 5), (5, 5), (6, 94), (7, 95), (8, 96), (9, 97), (10, 98)], [.i .u64, .i .u64, .i .u32, .i .u8, .i .u8, .i .u8, .i .u8, .nf, .np, .i .i32, .i .i32]⟩,
⟨11, 48, .st [(0, 12), (1, 12), (2, 35), (3, 93), (4, 5), (5, 5), (6, 94), (7, 95), (8, 96), (9, 97), (10, 98)], [.i .u64, .i .u64, .i .u32, .i .u8, .i .u8, .i .u8, .i .u8, .nf, .np, .i .i32, .i .i32]⟩,
⟨1, 8, .oth, [.np]⟩]
theorem TTok : TOk Try.prog TT := by unfold TOk; kernel_rfl
theorem mix : Try.prog.follows .mixedOrders = true := by kernel_rfl
structure S_entry_Entry where
  fHere : Bool
  fSlot : Bool
  fAt : Int
  fRights : Int
  fUsed : Bool
  fDirty : Bool
  fCopy : Bool
def eS_entry_Entry (x : S_entry_Entry) : PV := .agg [.v (.bool x.fHere), .v (.bool x.fSlot), .v (.int .i64 x.fAt), .v (.int .i64 x.fRights), .v (.bool x.fUsed), .v (.bool x.fDirty), .v (.bool x.fCopy)]
structure S_t78 where
  fis : Bool
  fbit : Int
def eS_t78 (x : S_t78) : PV := .agg [.v (.bool x.fis), .v (.int .u32 x.fbit)]
def eqS_entry_Entry (x y : S_entry_Entry) : Bool := ((x.fHere == y.fHere) && ((x.fSlot == y.fSlot) && ((x.fAt == y.fAt) && ((x.fRights == y.fRights) && ((x.fUsed == y.fUsed) && ((x.fDirty == y.fDirty) && ((x.fCopy == y.fCopy) && true)))))))
theorem eqS_entry_Entry_ok (x y : S_entry_Entry) : EqA Try.prog 34 [((.bool x.fHere)), ((.bool x.fSlot)), ((.int .i64 x.fAt)), ((.int .i64 x.fRights)), ((.bool x.fUsed)), ((.bool x.fDirty)), ((.bool x.fCopy))] [((.bool y.fHere)), ((.bool y.fSlot)), ((.int .i64 y.fAt)), ((.int .i64 y.fRights)), ((.bool y.fUsed)), ((.bool y.fDirty)), ((.bool y.fCopy))] (eqS_entry_Entry x y) := eqA_of TTok (by kernel_rfl) (by kernel_rfl) (by kernel_rfl)
/- ringhall/entry.None -/
def G_entry_None (n : Nat) (v_e12 : S_entry_Entry) : Option (Bool) :=
  if v_e12.fHere = true then
   some false
  else
   some (!v_e12.fSlot)
theorem G_entry_None_ok (n : Nat) (v_e12 : S_entry_Entry) (r : Bool) (h : G_entry_None n v_e12 = some r) : Ret Try.prog 17 [eS_entry_Entry v_e12] (eB r) := by
  refine ret_run (n := 11) (fn := Try.f17) (c := bodyOf Try.f17) (by kernel_rfl) (by kernel_rfl) (by kernel_rfl) (by kernel_rfl) ?_
  have hF : KC 11 (FinR Try.prog Try.f17 (eB r)) := FinR.kc' (by kernel_rfl)
  unfold G_entry_None at h
  by_cases h14 : v_e12.fHere = true
  · rw [if_pos h14] at h
    obtain rfl := Option.some.inj h
    exact pend_sound TTok mix 5 (hs := [.c, .t false, .c, .c]) (by kernel_rfl) (by kernel_rfl) (by kernel_rfl) (.cons (bnf h14) .nil)
  · rw [if_neg h14] at h
    obtain rfl := Option.some.inj h
    exact pend_sound TTok mix 5 (hs := [.c, .t true, .c, .c, .c]) (by kernel_rfl) (by kernel_rfl) (by kernel_rfl) (.cons (bnt (vf h14)) .nil)
inductive G_entry_Check_C1_R where
  | x0 (v_x95 : Bool)
def G_entry_Check_C1_ex : G_entry_Check_C1_R → Ex
  | .x0 _ => .normal
def G_entry_Check_C1_st (v_e5 : S_entry_Entry) : G_entry_Check_C1_R → PS
  | .x0 v_x95 => ⟨[dd, .ref 0 0, dd, .d (.v (.bool v_x95)), dd, dd, dd, dd, dd, dd, dd, dd, dd, dd, dd, dd, dd, dd, dd, dd, dd, dd, dd, dd, dd, dd, dd, dd, dd, dd, dd, dd, dd, dd, dd, dd, dd, dd, dd, dd, dd, dd, dd, dd, dd, dd, dd, dd, dd, dd], [.box [.d (.v (.bool v_e5.fHere)), .d (.v (.bool v_e5.fSlot)), .d (.v (.int .i64 v_e5.fAt)), .d (.v (.int .i64 v_e5.fRights)), .d (.v (.bool v_e5.fUsed)), .d (.v (.bool v_e5.fDirty)), .d (.v (.bool v_e5.fCopy))]]⟩
def G_entry_Check_C1_hd (v_e5 : S_entry_Entry)  : PS := ⟨[dd, .ref 0 0, dd, dd, dd, dd, dd, dd, dd, dd, dd, dd, dd, dd, dd, dd, dd, dd, dd, dd, dd, dd, dd, dd, dd, dd, dd, dd, dd, dd, dd, dd, dd, dd, dd, dd, dd, dd, dd, dd, dd, dd, dd, dd, dd, dd, dd, dd, dd, dd], [.box [.d (.v (.bool v_e5.fHere)), .d (.v (.bool v_e5.fSlot)), .d (.v (.int .i64 v_e5.fAt)), .d (.v (.int .i64 v_e5.fRights)), .d (.v (.bool v_e5.fUsed)), .d (.v (.bool v_e5.fDirty)), .d (.v (.bool v_e5.fCopy))]]⟩
def G_entry_Check_C1 (n : Nat) (v_e5 : S_entry_Entry) : Option G_entry_Check_C1_R :=
  if v_e5.fRights < 0 then
   some (.x0 true)
  else
   if v_e5.fRights > 7 then
    some (.x0 true)
   else
    if v_e5.fAt < 0 then
     some (.x0 true)
    else
     some (.x0 (decide (v_e5.fAt ≥ 64)))
theorem G_entry_Check_C1_ok {Fi : Ex → PS → Prop} (hF : KC 50 Fi) (ks : List Fr) (n : Nat) (v_e5 : S_entry_Entry)  (o : G_entry_Check_C1_R) (h : G_entry_Check_C1 n v_e5 = some o) (q : RunE Try.prog 50 Fi ks (G_entry_Check_C1_ex o) (G_entry_Check_C1_st v_e5 o)) : RunE Try.prog 50 Fi (.s (cL (cB (cL (cR (bodyOf Try.f16))))) :: ks) .normal (G_entry_Check_C1_hd v_e5) := by
  unfold G_entry_Check_C1 at h
  by_cases h132 : v_e5.fRights < 0
  · rw [if_pos h132] at h
    cases h
    exact pkk_sound TTok mix hF 1 (hs := [.c, .t true, .c, .c, .c, .c, .c, .c, .c, .c]) (ts := []) (s := [0]) (l := [1, 3]) (by kernel_rfl) (by kernel_rfl) (.cons (dt h132) .nil) q
  · rw [if_neg h132] at h
    by_cases h133 : v_e5.fRights > 7
    · rw [if_pos h133] at h
      cases h
      exact pkk_sound TTok mix hF 1 (hs := [.c, .t false, .c, .c, .c, .t true, .c, .c, .c, .c, .c]) (ts := []) (s := [0]) (l := [1, 3]) (by kernel_rfl) (by kernel_rfl) (.cons (df h132) (.cons (dt h133) .nil)) q
    · rw [if_neg h133] at h
      by_cases h134 : v_e5.fAt < 0
      · rw [if_pos h134] at h
        cases h
        exact pkk_sound TTok mix hF 1 (hs := [.c, .t false, .c, .c, .c, .t false, .c, .c, .c, .t true, .c, .c]) (ts := []) (s := [0]) (l := [1, 3]) (by kernel_rfl) (by kernel_rfl) (.cons (df h132) (.cons (df h133) (.cons (dt h134) .nil))) q
      · rw [if_neg h134] at h
        cases h
        exact pkk_sound TTok mix hF 1 (hs := [.c, .t false, .c, .c, .c, .t false, .c, .c, .c, .t false, .c, .c, .c]) (ts := []) (s := [0]) (l := [1, 3]) (by kernel_rfl) (by kernel_rfl) (.cons (df h132) (.cons (df h133) (.cons (df h134) .nil))) q
inductive G_entry_Check_C2_R where
  | x0 (v_x146 : Bool)
def G_entry_Check_C2_ex : G_entry_Check_C2_R → Ex
  | .x0 _ => .normal
def G_entry_Check_C2_st (v_e5 : S_entry_Entry) : G_entry_Check_C2_R → PS
  | .x0 v_x146 => ⟨[dd, dd, dd, dd, dd, dd, dd, dd, dd, dd, dd, dd, dd, dd, dd, dd, dd, dd, dd, dd, dd, dd, .d (.v (.bool v_x146)), dd, dd, dd, dd, dd, dd, dd, dd, dd, dd, dd, dd, dd, dd, dd, dd, dd, dd, dd, dd, dd, dd, dd, dd, dd, dd, dd], []⟩
def G_entry_Check_C2_hd (v_e5 : S_entry_Entry)  : PS := ⟨[dd, .ref 0 0, dd, dd, dd, dd, dd, dd, dd, dd, dd, dd, dd, dd, dd, dd, dd, dd, dd, dd, dd, dd, .d (.v (.bool v_e5.fSlot)), dd, dd, dd, dd, dd, dd, dd, dd, dd, dd, dd, dd, dd, dd, dd, dd, dd, dd, dd, dd, dd, dd, dd, dd, dd, dd, dd], [.box [.d (.v (.bool v_e5.fHere)), .d (.v (.bool v_e5.fSlot)), .d (.v (.int .i64 v_e5.fAt)), .d (.v (.int .i64 v_e5.fRights)), .d (.v (.bool v_e5.fUsed)), .d (.v (.bool v_e5.fDirty)), .d (.v (.bool v_e5.fCopy))]]⟩
def G_entry_Check_C2 (n : Nat) (v_e5 : S_entry_Entry) : Option G_entry_Check_C2_R :=
  if v_e5.fSlot = true then
   some (.x0 true)
  else
   if v_e5.fDirty = true then
    if v_e5.fHere = true then
     if v_e5.fUsed = true then
      (G_entry_None n v_e5).bind fun (v_r148 : (Bool)) =>
      if v_r148 = true then
       some (.x0 (eqRes .neq (eqS_entry_Entry v_e5 (S_entry_Entry.mk false false 0 0 false false false))))
      else
       some (.x0 false)
     else
      (G_entry_None n v_e5).bind fun (v_r151 : (Bool)) =>
      if v_r151 = true then
       some (.x0 (eqRes .neq (eqS_entry_Entry v_e5 (S_entry_Entry.mk false false 0 0 false false false))))
      else
       some (.x0 false)
    else
     some (.x0 true)
   else
    if v_e5.fUsed = true then
     if v_e5.fHere = true then
      (G_entry_None n v_e5).bind fun (v_r155 : (Bool)) =>
      if v_r155 = true then
       some (.x0 (eqRes .neq (eqS_entry_Entry v_e5 (S_entry_Entry.mk false false 0 0 false false false))))
      else
       some (.x0 false)
     else
      some (.x0 true)
    else
     (G_entry_None n v_e5).bind fun (v_r158 : (Bool)) =>
     if v_r158 = true then
      some (.x0 (eqRes .neq (eqS_entry_Entry v_e5 (S_entry_Entry.mk false false 0 0 false false false))))
     else
      some (.x0 false)
theorem G_entry_Check_C2_ok {Fi : Ex → PS → Prop} (hF : KC 50 Fi) (ks : List Fr) (n : Nat) (v_e5 : S_entry_Entry)  (o : G_entry_Check_C2_R) (h : G_entry_Check_C2 n v_e5 = some o) (q : RunE Try.prog 50 Fi ks (G_entry_Check_C2_ex o) (G_entry_Check_C2_st v_e5 o)) : RunE Try.prog 50 Fi (.s (cR (cL (cF (cR (cB (cL (cR (bodyOf Try.f16)))))))) :: ks) .normal (G_entry_Check_C2_hd v_e5) := by
  unfold G_entry_Check_C2 at h
  by_cases h212 : v_e5.fSlot = true
  · rw [if_pos h212] at h
    cases h
    exact pkk_sound TTok mix hF 2 (hs := [.t true]) (ts := []) (s := []) (l := [22]) (by kernel_rfl) (by kernel_rfl) (.cons h212 .nil) q
  · rw [if_neg h212] at h
    by_cases h213 : v_e5.fDirty = true
    · rw [if_pos h213] at h
      by_cases h214 : v_e5.fHere = true
      · rw [if_pos h214] at h
        by_cases h215 : v_e5.fUsed = true
        · rw [if_pos h215] at h
          obtain ⟨v_r148, h216, h⟩ := bind_some h
          by_cases h217 : v_r148 = true
          · rw [if_pos h217] at h
            cases h
            exact pkk_sound TTok mix hF 8 (hs := [.t false, .c, .t true, .c, .c, .c, .t false, .c, .t true, .c, .c, .c, .t false, .c, .r (eB v_r148), .t true, .c, .c, .c, .q (eqS_entry_Entry v_e5 (S_entry_Entry.mk false false 0 0 false false false))]) (ts := []) (s := []) (l := [22]) (by kernel_rfl) (by kernel_rfl) (.cons (vf h212) (.cons h213 (.cons (bnf h214) (.cons h215 (.cons (bnf h214) (.cons (G_entry_None_ok n v_e5 _ h216) (.cons h217 (.cons (eqS_entry_Entry_ok v_e5 (S_entry_Entry.mk false false 0 0 false false false)) .nil)))))))) q
          · rw [if_neg h217] at h
            cases h
            exact pkk_sound TTok mix hF 8 (hs := [.t false, .c, .t true, .c, .c, .c, .t false, .c, .t true, .c, .c, .c, .t false, .c, .r (eB v_r148), .t false, .c, .c]) (ts := []) (s := []) (l := [22]) (by kernel_rfl) (by kernel_rfl) (.cons (vf h212) (.cons h213 (.cons (bnf h214) (.cons h215 (.cons (bnf h214) (.cons (G_entry_None_ok n v_e5 _ h216) (.cons (vf h217) .nil))))))) q
        · rw [if_neg h215] at h
          obtain ⟨v_r151, h218, h⟩ := bind_some h
          by_cases h219 : v_r151 = true
          · rw [if_pos h219] at h
            cases h
            exact pkk_sound TTok mix hF 8 (hs := [.t false, .c, .t true, .c, .c, .c, .t false, .c, .t false, .c, .c, .c, .c, .r (eB v_r151), .t true, .c, .c, .c, .q (eqS_entry_Entry v_e5 (S_entry_Entry.mk false false 0 0 false false false))]) (ts := []) (s := []) (l := [22]) (by kernel_rfl) (by kernel_rfl) (.cons (vf h212) (.cons h213 (.cons (bnf h214) (.cons (vf h215) (.cons (G_entry_None_ok n v_e5 _ h218) (.cons h219 (.cons (eqS_entry_Entry_ok v_e5 (S_entry_Entry.mk false false 0 0 false false false)) .nil))))))) q
          · rw [if_neg h219] at h
            cases h
            exact pkk_sound TTok mix hF 8 (hs := [.t false, .c, .t true, .c, .c, .c, .t false, .c, .t false, .c, .c, .c, .c, .r (eB v_r151), .t false, .c, .c]) (ts := []) (s := []) (l := [22]) (by kernel_rfl) (by kernel_rfl) (.cons (vf h212) (.cons h213 (.cons (bnf h214) (.cons (vf h215) (.cons (G_entry_None_ok n v_e5 _ h218) (.cons (vf h219) .nil)))))) q
      · rw [if_neg h214] at h
        cases h
        exact pkk_sound TTok mix hF 5 (hs := [.t false, .c, .t true, .c, .c, .c, .t true]) (ts := []) (s := []) (l := [22]) (by kernel_rfl) (by kernel_rfl) (.cons (vf h212) (.cons h213 (.cons (bnt (vf h214)) .nil))) q
    · rw [if_neg h213] at h
      by_cases h220 : v_e5.fUsed = true
      · rw [if_pos h220] at h
        by_cases h221 : v_e5.fHere = true
        · rw [if_pos h221] at h
          obtain ⟨v_r155, h222, h⟩ := bind_some h
          by_cases h223 : v_r155 = true
          · rw [if_pos h223] at h
            cases h
            exact pkk_sound TTok mix hF 8 (hs := [.t false, .c, .t false, .c, .c, .c, .c, .t true, .c, .c, .c, .t false, .c, .r (eB v_r155), .t true, .c, .c, .c, .q (eqS_entry_Entry v_e5 (S_entry_Entry.mk false false 0 0 false false false))]) (ts := []) (s := []) (l := [22]) (by kernel_rfl) (by kernel_rfl) (.cons (vf h212) (.cons (vf h213) (.cons h220 (.cons (bnf h221) (.cons (G_entry_None_ok n v_e5 _ h222) (.cons h223 (.cons (eqS_entry_Entry_ok v_e5 (S_entry_Entry.mk false false 0 0 false false false)) .nil))))))) q
          · rw [if_neg h223] at h
            cases h
            exact pkk_sound TTok mix hF 8 (hs := [.t false, .c, .t false, .c, .c, .c, .c, .t true, .c, .c, .c, .t false, .c, .r (eB v_r155), .t false, .c, .c]) (ts := []) (s := []) (l := [22]) (by kernel_rfl) (by kernel_rfl) (.cons (vf h212) (.cons (vf h213) (.cons h220 (.cons (bnf h221) (.cons (G_entry_None_ok n v_e5 _ h222) (.cons (vf h223) .nil)))))) q
        · rw [if_neg h221] at h
          cases h
          exact pkk_sound TTok mix hF 8 (hs := [.t false, .c, .t false, .c, .c, .c, .c, .t true, .c, .c, .c, .t true]) (ts := []) (s := []) (l := [22]) (by kernel_rfl) (by kernel_rfl) (.cons (vf h212) (.cons (vf h213) (.cons h220 (.cons (bnt (vf h221)) .nil)))) q
      · rw [if_neg h220] at h
        obtain ⟨v_r158, h224, h⟩ := bind_some h
        by_cases h225 : v_r158 = true
        · rw [if_pos h225] at h
          cases h
          exact pkk_sound TTok mix hF 8 (hs := [.t false, .c, .t false, .c, .c, .c, .c, .t false, .c, .c, .c, .c, .r (eB v_r158), .t true, .c, .c, .c, .q (eqS_entry_Entry v_e5 (S_entry_Entry.mk false false 0 0 false false false))]) (ts := []) (s := []) (l := [22]) (by kernel_rfl) (by kernel_rfl) (.cons (vf h212) (.cons (vf h213) (.cons (vf h220) (.cons (G_entry_None_ok n v_e5 _ h224) (.cons h225 (.cons (eqS_entry_Entry_ok v_e5 (S_entry_Entry.mk false false 0 0 false false false)) .nil)))))) q
        · rw [if_neg h225] at h
          cases h
          exact pkk_sound TTok mix hF 8 (hs := [.t false, .c, .t false, .c, .c, .c, .c, .t false, .c, .c, .c, .c, .r (eB v_r158), .t false, .c, .c]) (ts := []) (s := []) (l := [22]) (by kernel_rfl) (by kernel_rfl) (.cons (vf h212) (.cons (vf h213) (.cons (vf h220) (.cons (G_entry_None_ok n v_e5 _ h224) (.cons (vf h225) .nil))))) q
inductive G_entry_Check_C3_R where
  | x0 (v_x167 : Bool)
def G_entry_Check_C3_ex : G_entry_Check_C3_R → Ex
  | .x0 _ => .normal
def G_entry_Check_C3_st (v_e5 : S_entry_Entry) : G_entry_Check_C3_R → PS
  | .x0 v_x167 => ⟨[dd, dd, dd, dd, dd, dd, dd, dd, dd, dd, dd, dd, dd, dd, dd, dd, dd, dd, dd, dd, dd, dd, .d (.v (.bool v_x167)), dd, dd, dd, dd, dd, dd, dd, dd, dd, dd, dd, dd, dd, dd, dd, dd, dd, dd, dd, dd, dd, dd, dd, dd, dd, dd, dd], []⟩
def G_entry_Check_C3_hd (v_e5 : S_entry_Entry)  : PS := ⟨[dd, .ref 0 0, dd, dd, dd, dd, dd, dd, dd, dd, dd, dd, dd, dd, dd, dd, dd, dd, dd, dd, dd, dd, .d (.v (.bool false)), dd, dd, dd, dd, dd, dd, dd, dd, dd, dd, dd, dd, dd, dd, dd, dd, dd, dd, dd, dd, dd, dd, dd, dd, dd, dd, dd], [.box [.d (.v (.bool v_e5.fHere)), .d (.v (.bool v_e5.fSlot)), .d (.v (.int .i64 v_e5.fAt)), .d (.v (.int .i64 v_e5.fRights)), .d (.v (.bool v_e5.fUsed)), .d (.v (.bool v_e5.fDirty)), .d (.v (.bool v_e5.fCopy))]]⟩
def G_entry_Check_C3 (n : Nat) (v_e5 : S_entry_Entry) : Option G_entry_Check_C3_R :=
  if v_e5.fDirty = true then
   if v_e5.fHere = true then
    if v_e5.fUsed = true then
     (G_entry_None n v_e5).bind fun (v_r168 : (Bool)) =>
     if v_r168 = true then
      some (.x0 (eqRes .neq (eqS_entry_Entry v_e5 (S_entry_Entry.mk false false 0 0 false false false))))
     else
      some (.x0 false)
    else
     (G_entry_None n v_e5).bind fun (v_r171 : (Bool)) =>
     if v_r171 = true then
      some (.x0 (eqRes .neq (eqS_entry_Entry v_e5 (S_entry_Entry.mk false false 0 0 false false false))))
     else
      some (.x0 false)
   else
    some (.x0 true)
  else
   if v_e5.fUsed = true then
    if v_e5.fHere = true then
     (G_entry_None n v_e5).bind fun (v_r175 : (Bool)) =>
     if v_r175 = true then
      some (.x0 (eqRes .neq (eqS_entry_Entry v_e5 (S_entry_Entry.mk false false 0 0 false false false))))
     else
      some (.x0 false)
    else
     some (.x0 true)
   else
    (G_entry_None n v_e5).bind fun (v_r178 : (Bool)) =>
    if v_r178 = true then
     some (.x0 (eqRes .neq (eqS_entry_Entry v_e5 (S_entry_Entry.mk false false 0 0 false false false))))
    else
     some (.x0 false)
theorem G_entry_Check_C3_ok {Fi : Ex → PS → Prop} (hF : KC 50 Fi) (ks : List Fr) (n : Nat) (v_e5 : S_entry_Entry)  (o : G_entry_Check_C3_R) (h : G_entry_Check_C3 n v_e5 = some o) (q : RunE Try.prog 50 Fi ks (G_entry_Check_C3_ex o) (G_entry_Check_C3_st v_e5 o)) : RunE Try.prog 50 Fi (.s (cR (cL (cF (cR (cB (cL (cR (bodyOf Try.f16)))))))) :: ks) .normal (G_entry_Check_C3_hd v_e5) := by
  unfold G_entry_Check_C3 at h
  by_cases h241 : v_e5.fDirty = true
  · rw [if_pos h241] at h
    by_cases h242 : v_e5.fHere = true
    · rw [if_pos h242] at h
      by_cases h243 : v_e5.fUsed = true
      · rw [if_pos h243] at h
        obtain ⟨v_r168, h244, h⟩ := bind_some h
        by_cases h245 : v_r168 = true
        · rw [if_pos h245] at h
          cases h
          exact pkk_sound TTok mix hF 8 (hs := [.c, .c, .t true, .c, .c, .c, .t false, .c, .t true, .c, .c, .c, .t false, .c, .r (eB v_r168), .t true, .c, .c, .c, .q (eqS_entry_Entry v_e5 (S_entry_Entry.mk false false 0 0 false false false))]) (ts := []) (s := []) (l := [22]) (by kernel_rfl) (by kernel_rfl) (.cons h241 (.cons (bnf h242) (.cons h243 (.cons (bnf h242) (.cons (G_entry_None_ok n v_e5 _ h244) (.cons h245 (.cons (eqS_entry_Entry_ok v_e5 (S_entry_Entry.mk false false 0 0 false false false)) .nil))))))) q
        · rw [if_neg h245] at h
          cases h
          exact pkk_sound TTok mix hF 8 (hs := [.c, .c, .t true, .c, .c, .c, .t false, .c, .t true, .c, .c, .c, .t false, .c, .r (eB v_r168), .t false, .c, .c]) (ts := []) (s := []) (l := [22]) (by kernel_rfl) (by kernel_rfl) (.cons h241 (.cons (bnf h242) (.cons h243 (.cons (bnf h242) (.cons (G_entry_None_ok n v_e5 _ h244) (.cons (vf h245) .nil)))))) q
      · rw [if_neg h243] at h
        obtain ⟨v_r171, h246, h⟩ := bind_some h
        by_cases h247 : v_r171 = true
        · rw [if_pos h247] at h
          cases h
          exact pkk_sound TTok mix hF 8 (hs := [.c, .c, .t true, .c, .c, .c, .t false, .c, .t false, .c, .c, .c, .c, .r (eB v_r171), .t true, .c, .c, .c, .q (eqS_entry_Entry v_e5 (S_entry_Entry.mk false false 0 0 false false false))]) (ts := []) (s := []) (l := [22]) (by kernel_rfl) (by kernel_rfl) (.cons h241 (.cons (bnf h242) (.cons (vf h243) (.cons (G_entry_None_ok n v_e5 _ h246) (.cons h247 (.cons (eqS_entry_Entry_ok v_e5 (S_entry_Entry.mk false false 0 0 false false false)) .nil)))))) q
        · rw [if_neg h247] at h
          cases h
          exact pkk_sound TTok mix hF 8 (hs := [.c, .c, .t true, .c, .c, .c, .t false, .c, .t false, .c, .c, .c, .c, .r (eB v_r171), .t false, .c, .c]) (ts := []) (s := []) (l := [22]) (by kernel_rfl) (by kernel_rfl) (.cons h241 (.cons (bnf h242) (.cons (vf h243) (.cons (G_entry_None_ok n v_e5 _ h246) (.cons (vf h247) .nil))))) q
    · rw [if_neg h242] at h
      cases h
      exact pkk_sound TTok mix hF 5 (hs := [.c, .c, .t true, .c, .c, .c, .t true]) (ts := []) (s := []) (l := [22]) (by kernel_rfl) (by kernel_rfl) (.cons h241 (.cons (bnt (vf h242)) .nil)) q
  · rw [if_neg h241] at h
    by_cases h248 : v_e5.fUsed = true
    · rw [if_pos h248] at h
      by_cases h249 : v_e5.fHere = true
      · rw [if_pos h249] at h
        obtain ⟨v_r175, h250, h⟩ := bind_some h
        by_cases h251 : v_r175 = true
        · rw [if_pos h251] at h
          cases h
          exact pkk_sound TTok mix hF 8 (hs := [.c, .c, .t false, .c, .c, .c, .c, .t true, .c, .c, .c, .t false, .c, .r (eB v_r175), .t true, .c, .c, .c, .q (eqS_entry_Entry v_e5 (S_entry_Entry.mk false false 0 0 false false false))]) (ts := []) (s := []) (l := [22]) (by kernel_rfl) (by kernel_rfl) (.cons (vf h241) (.cons h248 (.cons (bnf h249) (.cons (G_entry_None_ok n v_e5 _ h250) (.cons h251 (.cons (eqS_entry_Entry_ok v_e5 (S_entry_Entry.mk false false 0 0 false false false)) .nil)))))) q
        · rw [if_neg h251] at h
          cases h
          exact pkk_sound TTok mix hF 8 (hs := [.c, .c, .t false, .c, .c, .c, .c, .t true, .c, .c, .c, .t false, .c, .r (eB v_r175), .t false, .c, .c]) (ts := []) (s := []) (l := [22]) (by kernel_rfl) (by kernel_rfl) (.cons (vf h241) (.cons h248 (.cons (bnf h249) (.cons (G_entry_None_ok n v_e5 _ h250) (.cons (vf h251) .nil))))) q
      · rw [if_neg h249] at h
        cases h
        exact pkk_sound TTok mix hF 8 (hs := [.c, .c, .t false, .c, .c, .c, .c, .t true, .c, .c, .c, .t true]) (ts := []) (s := []) (l := [22]) (by kernel_rfl) (by kernel_rfl) (.cons (vf h241) (.cons h248 (.cons (bnt (vf h249)) .nil))) q
    · rw [if_neg h248] at h
      obtain ⟨v_r178, h252, h⟩ := bind_some h
      by_cases h253 : v_r178 = true
      · rw [if_pos h253] at h
        cases h
        exact pkk_sound TTok mix hF 8 (hs := [.c, .c, .t false, .c, .c, .c, .c, .t false, .c, .c, .c, .c, .r (eB v_r178), .t true, .c, .c, .c, .q (eqS_entry_Entry v_e5 (S_entry_Entry.mk false false 0 0 false false false))]) (ts := []) (s := []) (l := [22]) (by kernel_rfl) (by kernel_rfl) (.cons (vf h241) (.cons (vf h248) (.cons (G_entry_None_ok n v_e5 _ h252) (.cons h253 (.cons (eqS_entry_Entry_ok v_e5 (S_entry_Entry.mk false false 0 0 false false false)) .nil))))) q
      · rw [if_neg h253] at h
        cases h
        exact pkk_sound TTok mix hF 8 (hs := [.c, .c, .t false, .c, .c, .c, .c, .t false, .c, .c, .c, .c, .r (eB v_r178), .t false, .c, .c]) (ts := []) (s := []) (l := [22]) (by kernel_rfl) (by kernel_rfl) (.cons (vf h241) (.cons (vf h248) (.cons (G_entry_None_ok n v_e5 _ h252) (.cons (vf h253) .nil)))) q
/- ringhall/entry.Check -/
def G_entry_Check (n : Nat) (v_e5 : S_entry_Entry) : Option (Int) :=
  (G_entry_Check_C1 n v_e5).bind fun v_o99 => match v_o99 with
  | .x0 v_z100 =>
    if v_z100 = true then
     some 1
    else
     if v_e5.fHere = true then
      (G_entry_Check_C2 n v_e5).bind fun v_o161 => match v_o161 with
      | .x0 v_z162 =>
        if v_z162 = true then
         some 3
        else
         some 0
     else
      (G_entry_Check_C3 n v_e5).bind fun v_o181 => match v_o181 with
      | .x0 v_z182 =>
        if v_z182 = true then
         some 3
        else
         some 0
theorem G_entry_Check_ok (n : Nat) (v_e5 : S_entry_Entry) (r : Int) (h : G_entry_Check n v_e5 = some r) : Ret Try.prog 16 [eS_entry_Entry v_e5] ((eI .i64) r) := by
  refine ret_run (n := 50) (fn := Try.f16) (c := bodyOf Try.f16) (by kernel_rfl) (by kernel_rfl) (by kernel_rfl) (by kernel_rfl) ?_
  have hF : KC 50 (FinR Try.prog Try.f16 ((eI .i64) r)) := FinR.kc' (by kernel_rfl)
  unfold G_entry_Check at h
  obtain ⟨v_o99, h135, h⟩ := bind_some h
  refine pkk_sound TTok mix hF 5 (hs := []) (ts := []) (s := [0]) (l := [1]) (by kernel_rfl) (by kernel_rfl) .nil (G_entry_Check_C1_ok hF (.s (cR (cB (cL (cR (bodyOf Try.f16))))) :: .b 0 :: .s (cR (cR (bodyOf Try.f16))) :: []) n v_e5 _ h135 ?_)
  cases v_o99 with
  | x0 v_z100 =>
    dsimp only at h
    by_cases h196 : v_z100 = true
    · rw [if_pos h196] at h
      obtain rfl := Option.some.inj h
      exact pend_sound TTok mix 6 (hs := [.t true]) (by kernel_rfl) (by kernel_rfl) (by kernel_rfl) (.cons h196 .nil)
    · rw [if_neg h196] at h
      by_cases h197 : v_e5.fHere = true
      · rw [if_pos h197] at h
        obtain ⟨v_o161, h226, h⟩ := bind_some h
        refine pkk_sound TTok mix hF 4 (hs := [.t false, .c, .t true, .c, .c]) (ts := []) (s := [0]) (l := [1, 22]) (by kernel_rfl) (by kernel_rfl) (.cons (vf h196) (.cons h197 .nil)) (G_entry_Check_C2_ok hF (.s (cR (cF (cR (cB (cL (cR (bodyOf Try.f16))))))) :: .b 0 :: .s (cR (cR (bodyOf Try.f16))) :: []) n v_e5 _ h226 ?_)
        cases v_o161 with
        | x0 v_z162 =>
          dsimp only at h
          by_cases h227 : v_z162 = true
          · rw [if_pos h227] at h
            obtain rfl := Option.some.inj h
            exact pend_sound TTok mix 6 (hs := [.t true]) (by kernel_rfl) (by kernel_rfl) (by kernel_rfl) (.cons h227 .nil)
          · rw [if_neg h227] at h
            obtain rfl := Option.some.inj h
            exact pend_sound TTok mix 6 (hs := [.t false]) (by kernel_rfl) (by kernel_rfl) (by kernel_rfl) (.cons (vf h227) .nil)
      · rw [if_neg h197] at h
        obtain ⟨v_o181, h254, h⟩ := bind_some h
        refine pkk_sound TTok mix hF 4 (hs := [.t false, .c, .t false, .c]) (ts := []) (s := [0]) (l := [1, 22]) (by kernel_rfl) (by kernel_rfl) (.cons (vf h196) (.cons (vf h197) .nil)) (G_entry_Check_C3_ok hF (.s (cR (cF (cR (cB (cL (cR (bodyOf Try.f16))))))) :: .b 0 :: .s (cR (cR (bodyOf Try.f16))) :: []) n v_e5 _ h254 ?_)
        cases v_o181 with
        | x0 v_z182 =>
          dsimp only at h
          by_cases h255 : v_z182 = true
          · rw [if_pos h255] at h
            obtain rfl := Option.some.inj h
            exact pend_sound TTok mix 6 (hs := [.t true]) (by kernel_rfl) (by kernel_rfl) (by kernel_rfl) (.cons h255 .nil)
          · rw [if_neg h255] at h
            obtain rfl := Option.some.inj h
            exact pend_sound TTok mix 6 (hs := [.t false]) (by kernel_rfl) (by kernel_rfl) (by kernel_rfl) (.cons (vf h255) .nil)
inductive G_entry_Word_L1_R where
  | x0 (v_w188 : Int)
def G_entry_Word_L1_ex : G_entry_Word_L1_R → Ex
  | .x0 _ => .exit 0
def G_entry_Word_L1_st (v_e4 : S_entry_Entry) : G_entry_Word_L1_R → PS
  | .x0 v_w188 => ⟨[dd, dd, dd, dd, dd, .d (.v (.int .u32 v_w188)), dd, dd, dd, dd, dd, dd, dd, dd, dd, dd, dd, dd, dd, dd, dd, dd, dd, dd, dd, dd, dd, dd, dd, dd, dd, dd, dd, dd, dd, dd, dd, dd, dd, dd, dd, dd, dd, dd, dd, dd, dd, dd, dd], []⟩
def G_entry_Word_L1_hd (v_e4 : S_entry_Entry) (v_w184 : Int) (v_x185 : Int) : PS := ⟨[dd, dd, dd, dd, dd, .d (.v (.int .u32 v_w184)), dd, dd, dd, dd, dd, dd, dd, dd, dd, dd, dd, dd, dd, dd, dd, dd, dd, dd, dd, dd, dd, dd, dd, dd, dd, dd, dd, dd, dd, dd, dd, .d (.agg [.v (.bool v_e4.fHere), .v (.int .u32 1), .v (.bool v_e4.fSlot), .v (.int .u32 2), .v (.bool v_e4.fUsed), .v (.int .u32 4), .v (.bool v_e4.fDirty), .v (.int .u32 8), .v (.bool v_e4.fCopy), .v (.int .u32 16)]), .d (.v (.int .i64 v_x185)), dd, dd, dd, dd, dd, dd, dd, dd, dd, dd], []⟩
def G_entry_Word_L1 (n : Nat) (v_e4 : S_entry_Entry) : Nat → Int → Int → Option G_entry_Word_L1_R
  | 0, _, _ => none
  | k + 1, v_w184, v_x185 =>
    if v_x185 < 5 then
     (getA (fun i : Fin 5 => [(S_t78.mk v_e4.fHere 1), (S_t78.mk v_e4.fSlot 2), (S_t78.mk v_e4.fUsed 4), (S_t78.mk v_e4.fDirty 8), (S_t78.mk v_e4.fCopy 16)].get i) v_x185).bind fun (v_y187 : S_t78) =>
     if v_y187.fis = true then
      G_entry_Word_L1 n v_e4 k (bits .or .u32 v_w184 v_y187.fbit) (wi .i64 (v_x185 + 1))
     else
      G_entry_Word_L1 n v_e4 k v_w184 (wi .i64 (v_x185 + 1))
    else
     some (.x0 v_w184)
theorem G_entry_Word_L1_ok {Fi : Ex → PS → Prop} (hF : KC 49 Fi) (ks : List Fr) (n : Nat) (v_e4 : S_entry_Entry)  : ∀ (k : Nat) (v_w184 : Int) (v_x185 : Int) (o : G_entry_Word_L1_R), G_entry_Word_L1 n v_e4 k v_w184 v_x185 = some o → RunE Try.prog 49 Fi ks (G_entry_Word_L1_ex o) (G_entry_Word_L1_st v_e4 o) → RunE Try.prog 49 Fi (.l k (cP (cB (cR (cL (cR (cR (cR (bodyOf Try.f12)))))))) :: ks) .normal (G_entry_Word_L1_hd v_e4 v_w184 v_x185)
  | 0, v_w184, v_x185, o, h, q => by rw [G_entry_Word_L1] at h; cases h
  | k + 1, v_w184, v_x185, o, h, q => by
    rw [G_entry_Word_L1] at h
    by_cases h261 : v_x185 < 5
    · rw [if_pos h261] at h
      obtain ⟨v_y187, h265, h⟩ := bind_some h
      by_cases h267 : v_y187.fis = true
      · rw [if_pos h267] at h
        exact pkk_sound TTok mix hF 16 (hs := [.t true, .l (.d (.agg [.v (.bool v_y187.fis), .v (.int .u32 v_y187.fbit)])), .c, .c, .t true, .c]) (ts := []) (s := []) (l := [5, 37, 38]) (by kernel_rfl) (by kernel_rfl) (.cons (dt h261) (.cons (arr_idx (sz := 2) (g := (fun x => [.d (.v (.bool x.fis)), .d (.v (.int .u32 x.fbit))])) (fun _ => rfl) h265) (.cons (show 0 + 2 ≤ 2 by decide) (.cons h267 .nil)))) (G_entry_Word_L1_ok hF ks n v_e4 k (bits .or .u32 v_w184 v_y187.fbit) (wi .i64 (v_x185 + 1)) _ h q)
      · rw [if_neg h267] at h
        exact pkk_sound TTok mix hF 16 (hs := [.t true, .l (.d (.agg [.v (.bool v_y187.fis), .v (.int .u32 v_y187.fbit)])), .c, .c, .t false]) (ts := []) (s := []) (l := [5, 37, 38]) (by kernel_rfl) (by kernel_rfl) (.cons (dt h261) (.cons (arr_idx (sz := 2) (g := (fun x => [.d (.v (.bool x.fis)), .d (.v (.int .u32 x.fbit))])) (fun _ => rfl) h265) (.cons (show 0 + 2 ≤ 2 by decide) (.cons (vf h267) .nil)))) (G_entry_Word_L1_ok hF ks n v_e4 k v_w184 (wi .i64 (v_x185 + 1)) _ h q)
    · rw [if_neg h261] at h
      cases h
      exact pkk_sound TTok mix hF 8 (hs := [.t false]) (ts := []) (s := []) (l := [5]) (by kernel_rfl) (by kernel_rfl) (.cons (df h261) .nil) q
/- ringhall/entry.Word -/
def G_entry_Word (n : Nat) (v_e4 : S_entry_Entry) : Option (Int × Int) :=
  (G_entry_Check n v_e4).bind fun (v_r183 : (Int)) =>
  if v_r183 = 0 then
   (G_entry_Word_L1 n v_e4 n (bits .or .u32 (shlI .u32 (wi .u32 v_e4.fRights) 5) (shlI .u32 (wi .u32 v_e4.fAt) 8)) 0).bind fun v_o189 => match v_o189 with
   | .x0 v_z190 =>
     some (v_z190, 0)
  else
   some (0, v_r183)
theorem G_entry_Word_ok (n : Nat) (v_e4 : S_entry_Entry) (r : Int × Int) (h : G_entry_Word n v_e4 = some r) : Ret Try.prog 12 [eS_entry_Entry v_e4] (.tup [(eI .u32) r.1, (eI .i64) r.2]) := by
  refine ret_run (n := 49) (fn := Try.f12) (c := bodyOf Try.f12) (by kernel_rfl) (by kernel_rfl) (by kernel_rfl) (by kernel_rfl) ?_
  have hF : KC 49 (FinR Try.prog Try.f12 (.tup [(eI .u32) r.1, (eI .i64) r.2])) := FinR.kc' (by kernel_rfl)
  unfold G_entry_Word at h
  obtain ⟨v_r183, h256, h⟩ := bind_some h
  by_cases h258 : v_r183 = 0
  · rw [if_pos h258] at h
    obtain ⟨v_o189, h268, h⟩ := bind_some h
    refine pkk_sound TTok mix hF 16 (hs := [.c, .r ((eI .i64) v_r183), .t false, .c, .c, .c, .c, .c, .c, .c, .n n]) (ts := []) (s := []) (l := [5, 37, 38]) (by kernel_rfl) (by kernel_rfl) (.cons (G_entry_Check_ok n v_e4 _ h256) (.cons (nf h258) (.cons (show (0 : Int) ≤ 5 by decide) (.cons (show (0 : Int) ≤ 8 by decide) .nil)))) (G_entry_Word_L1_ok hF (.b 0 :: .s (cR (cR (cR (cR (bodyOf Try.f12))))) :: []) n v_e4 n (bits .or .u32 (shlI .u32 (wi .u32 v_e4.fRights) 5) (shlI .u32 (wi .u32 v_e4.fAt) 8)) 0 _ h268 ?_)
    cases v_o189 with
    | x0 v_z190 =>
      dsimp only at h
      obtain rfl := Option.some.inj h
      exact pend_sound TTok mix 4 (hs := []) (by kernel_rfl) (by kernel_rfl) (by kernel_rfl) .nil
  · rw [if_neg h258] at h
    obtain rfl := Option.some.inj h
    exact pend_sound TTok mix 12 (hs := [.c, .r ((eI .i64) v_r183), .t true]) (by kernel_rfl) (by kernel_rfl) (by kernel_rfl) (.cons (G_entry_Check_ok n v_e4 _ h256) (.cons (nt h258) .nil))
/- ringhall/entry.Read -/
def G_entry_Read (n : Nat) (v_w192 : Int) : Option (S_entry_Entry × Int) :=
  (G_entry_Check n (S_entry_Entry.mk ((bits .and .u32 v_w192 1) != 0) ((bits .and .u32 v_w192 2) != 0) (wi .i64 (shrI .u32 v_w192 8)) (wi .i64 (bits .and .u32 (shrI .u32 v_w192 5) 7)) ((bits .and .u32 v_w192 4) != 0) ((bits .and .u32 v_w192 8) != 0) ((bits .and .u32 v_w192 16) != 0))).bind fun (v_r193 : (Int)) =>
  if v_r193 = 0 then
   some ((S_entry_Entry.mk ((bits .and .u32 v_w192 1) != 0) ((bits .and .u32 v_w192 2) != 0) (wi .i64 (shrI .u32 v_w192 8)) (wi .i64 (bits .and .u32 (shrI .u32 v_w192 5) 7)) ((bits .and .u32 v_w192 4) != 0) ((bits .and .u32 v_w192 8) != 0) ((bits .and .u32 v_w192 16) != 0)), 0)
  else
   some ((S_entry_Entry.mk false false 0 0 false false false), 3)
theorem G_entry_Read_ok (n : Nat) (v_w192 : Int) (r : S_entry_Entry × Int) (h : G_entry_Read n v_w192 = some r) : Ret Try.prog 13 [(eI .u32) v_w192] (.tup [eS_entry_Entry r.1, (eI .i64) r.2]) := by
  refine ret_run (n := 33) (fn := Try.f13) (c := bodyOf Try.f13) (by kernel_rfl) (by kernel_rfl) (by kernel_rfl) (by kernel_rfl) ?_
  have hF : KC 33 (FinR Try.prog Try.f13 (.tup [eS_entry_Entry r.1, (eI .i64) r.2])) := FinR.kc' (by kernel_rfl)
  unfold G_entry_Read at h
  obtain ⟨v_r193, h272, h⟩ := bind_some h
  by_cases h274 : v_r193 = 0
  · rw [if_pos h274] at h
    obtain rfl := Option.some.inj h
    exact pend_sound TTok mix 12 (hs := [.c, .c, .r ((eI .i64) v_r193), .t false, .c, .c]) (by kernel_rfl) (by kernel_rfl) (by kernel_rfl) (.cons (show (0 : Int) ≤ 8 by decide) (.cons (show (0 : Int) ≤ 5 by decide) (.cons (show 0 + 7 ≤ 7 by decide) (.cons (G_entry_Check_ok n (S_entry_Entry.mk ((bits .and .u32 v_w192 1) != 0) ((bits .and .u32 v_w192 2) != 0) (wi .i64 (shrI .u32 v_w192 8)) (wi .i64 (bits .and .u32 (shrI .u32 v_w192 5) 7)) ((bits .and .u32 v_w192 4) != 0) ((bits .and .u32 v_w192 8) != 0) ((bits .and .u32 v_w192 16) != 0)) _ h272) (.cons (nf h274) (.cons (show 0 + 7 ≤ 7 by decide) .nil))))))
  · rw [if_neg h274] at h
    obtain rfl := Option.some.inj h
    exact pend_sound TTok mix 12 (hs := [.c, .c, .r ((eI .i64) v_r193), .t true, .c]) (by kernel_rfl) (by kernel_rfl) (by kernel_rfl) (.cons (show (0 : Int) ≤ 8 by decide) (.cons (show (0 : Int) ≤ 5 by decide) (.cons (show 0 + 7 ≤ 7 by decide) (.cons (G_entry_Check_ok n (S_entry_Entry.mk ((bits .and .u32 v_w192 1) != 0) ((bits .and .u32 v_w192 2) != 0) (wi .i64 (shrI .u32 v_w192 8)) (wi .i64 (bits .and .u32 (shrI .u32 v_w192 5) 7)) ((bits .and .u32 v_w192 4) != 0) ((bits .and .u32 v_w192 8) != 0) ((bits .and .u32 v_w192 16) != 0)) _ h272) (.cons (nt h274) (.cons (show 0 + 7 ≤ 7 by decide) .nil))))))
inductive G_entry_May_C1_R where
  | x0 (v_x202 : Bool)
def G_entry_May_C1_ex : G_entry_May_C1_R → Ex
  | .x0 _ => .normal
def G_entry_May_C1_st (v_want199 : Int) (v_e198 : S_entry_Entry) : G_entry_May_C1_R → PS
  | .x0 v_x202 => ⟨[dd, dd, dd, dd, .d (.v (.bool v_x202)), dd, dd, dd, dd, dd, dd, dd, dd, dd, dd, dd, dd, dd, dd, dd, dd, dd, dd, dd, dd, dd, dd, dd, dd, dd, dd, dd, dd, dd, dd, dd, dd, dd], []⟩
def G_entry_May_C1_hd (v_want199 : Int) (v_e198 : S_entry_Entry)  : PS := ⟨[dd, .d (.v (.int .i64 v_want199)), .ref 0 0, dd, dd, dd, dd, dd, dd, dd, dd, dd, dd, dd, dd, dd, dd, dd, dd, dd, dd, dd, dd, dd, dd, dd, dd, dd, dd, dd, dd, dd, dd, dd, dd, dd, dd, dd], [.box [.d (.v (.bool v_e198.fHere)), .d (.v (.bool v_e198.fSlot)), .d (.v (.int .i64 v_e198.fAt)), .d (.v (.int .i64 v_e198.fRights)), .d (.v (.bool v_e198.fUsed)), .d (.v (.bool v_e198.fDirty)), .d (.v (.bool v_e198.fCopy))]]⟩
def G_entry_May_C1 (n : Nat) (v_want199 : Int) (v_e198 : S_entry_Entry) : Option G_entry_May_C1_R :=
  if v_want199 ≥ 1 then
   if v_want199 ≤ 7 then
    (G_entry_Check n v_e198).bind fun (v_r201 : (Int)) =>
    if v_r201 = 0 then
     if v_e198.fHere = true then
      if (bits .and .i64 v_e198.fRights v_want199) = v_want199 then
       if (bits .and .i64 v_want199 2) = 0 then
        some (.x0 true)
       else
        some (.x0 (!v_e198.fCopy))
      else
       some (.x0 false)
     else
      some (.x0 false)
    else
     some (.x0 false)
   else
    some (.x0 false)
  else
   some (.x0 false)
theorem G_entry_May_C1_ok {Fi : Ex → PS → Prop} (hF : KC 38 Fi) (ks : List Fr) (n : Nat) (v_want199 : Int) (v_e198 : S_entry_Entry)  (o : G_entry_May_C1_R) (h : G_entry_May_C1 n v_want199 v_e198 = some o) (q : RunE Try.prog 38 Fi ks (G_entry_May_C1_ex o) (G_entry_May_C1_st v_want199 v_e198 o)) : RunE Try.prog 38 Fi (.s (cL (cR (bodyOf Try.f18))) :: ks) .normal (G_entry_May_C1_hd v_want199 v_e198) := by
  unfold G_entry_May_C1 at h
  by_cases h286 : v_want199 ≥ 1
  · rw [if_pos h286] at h
    by_cases h287 : v_want199 ≤ 7
    · rw [if_pos h287] at h
      obtain ⟨v_r201, h288, h⟩ := bind_some h
      by_cases h289 : v_r201 = 0
      · rw [if_pos h289] at h
        by_cases h290 : v_e198.fHere = true
        · rw [if_pos h290] at h
          by_cases h291 : (bits .and .i64 v_e198.fRights v_want199) = v_want199
          · rw [if_pos h291] at h
            by_cases h292 : (bits .and .i64 v_want199 2) = 0
            · rw [if_pos h292] at h
              cases h
              exact pkk_sound TTok mix hF 1 (hs := [.t true, .c, .t true, .c, .c, .r ((eI .i64) v_r201), .c, .t true, .c, .c, .t true, .c, .c, .c, .c, .c, .c, .t true, .c, .c, .c, .t true, .c, .c, .c]) (ts := []) (s := []) (l := [4]) (by kernel_rfl) (by kernel_rfl) (.cons (dt h286) (.cons (dt h287) (.cons (G_entry_Check_ok n v_e198 _ h288) (.cons (bt h289) (.cons h290 (.cons (bt h291) (.cons (bt h292) .nil))))))) q
            · rw [if_neg h292] at h
              cases h
              exact pkk_sound TTok mix hF 1 (hs := [.t true, .c, .t true, .c, .c, .r ((eI .i64) v_r201), .c, .t true, .c, .c, .t true, .c, .c, .c, .c, .c, .c, .t true, .c, .c, .c, .t false, .c, .c, .c, .c]) (ts := []) (s := []) (l := [4]) (by kernel_rfl) (by kernel_rfl) (.cons (dt h286) (.cons (dt h287) (.cons (G_entry_Check_ok n v_e198 _ h288) (.cons (bt h289) (.cons h290 (.cons (bt h291) (.cons (bf h292) .nil))))))) q
          · rw [if_neg h291] at h
            cases h
            exact pkk_sound TTok mix hF 1 (hs := [.t true, .c, .t true, .c, .c, .r ((eI .i64) v_r201), .c, .t true, .c, .c, .t true, .c, .c, .c, .c, .c, .c, .t false, .c, .c, .c, .c]) (ts := []) (s := []) (l := [4]) (by kernel_rfl) (by kernel_rfl) (.cons (dt h286) (.cons (dt h287) (.cons (G_entry_Check_ok n v_e198 _ h288) (.cons (bt h289) (.cons h290 (.cons (bf h291) .nil)))))) q
        · rw [if_neg h290] at h
          cases h
          exact pkk_sound TTok mix hF 1 (hs := [.t true, .c, .t true, .c, .c, .r ((eI .i64) v_r201), .c, .t true, .c, .c, .t false, .c, .c, .c, .c, .c, .c, .c, .c, .c, .c]) (ts := []) (s := []) (l := [4]) (by kernel_rfl) (by kernel_rfl) (.cons (dt h286) (.cons (dt h287) (.cons (G_entry_Check_ok n v_e198 _ h288) (.cons (bt h289) (.cons (vf h290) .nil))))) q
      · rw [if_neg h289] at h
        cases h
        exact pkk_sound TTok mix hF 1 (hs := [.t true, .c, .t true, .c, .c, .r ((eI .i64) v_r201), .c, .t false, .c, .c, .c, .c, .c, .c, .c, .c, .c, .c, .c, .c]) (ts := []) (s := []) (l := [4]) (by kernel_rfl) (by kernel_rfl) (.cons (dt h286) (.cons (dt h287) (.cons (G_entry_Check_ok n v_e198 _ h288) (.cons (bf h289) .nil)))) q
    · rw [if_neg h287] at h
      cases h
      exact pkk_sound TTok mix hF 1 (hs := [.t true, .c, .t false, .c, .c, .c, .c, .c, .c, .c, .c, .c, .c, .c, .c, .c, .c, .c]) (ts := []) (s := []) (l := [4]) (by kernel_rfl) (by kernel_rfl) (.cons (dt h286) (.cons (df h287) .nil)) q
  · rw [if_neg h286] at h
    cases h
    exact pkk_sound TTok mix hF 1 (hs := [.t false, .c, .c, .c, .c, .c, .c, .c, .c, .c, .c, .c, .c, .c, .c, .c, .c, .c]) (ts := []) (s := []) (l := [4]) (by kernel_rfl) (by kernel_rfl) (.cons (df h286) .nil) q
/- ringhall/entry.May -/
def G_entry_May (n : Nat) (v_e198 : S_entry_Entry) (v_want199 : Int) : Option (Bool) :=
  (G_entry_May_C1 n v_want199 v_e198).bind fun v_o209 => match v_o209 with
  | .x0 v_z210 =>
    some v_z210
theorem G_entry_May_ok (n : Nat) (v_e198 : S_entry_Entry) (v_want199 : Int) (r : Bool) (h : G_entry_May n v_e198 v_want199 = some r) : Ret Try.prog 18 [eS_entry_Entry v_e198, (eI .i64) v_want199] (eB r) := by
  refine ret_run (n := 38) (fn := Try.f18) (c := bodyOf Try.f18) (by kernel_rfl) (by kernel_rfl) (by kernel_rfl) (by kernel_rfl) ?_
  have hF : KC 38 (FinR Try.prog Try.f18 (eB r)) := FinR.kc' (by kernel_rfl)
  unfold G_entry_May at h
  obtain ⟨v_o209, h293, h⟩ := bind_some h
  refine pkk_sound TTok mix hF 3 (hs := []) (ts := []) (s := [0]) (l := [1, 2]) (by kernel_rfl) (by kernel_rfl) .nil (G_entry_May_C1_ok hF (.s (cR (cR (bodyOf Try.f18))) :: []) n v_want199 v_e198 _ h293 ?_)
  cases v_o209 with
  | x0 v_z210 =>
    dsimp only at h
    obtain rfl := Option.some.inj h
    exact pend_sound TTok mix 1 (hs := []) (by kernel_rfl) (by kernel_rfl) (by kernel_rfl) .nil
/- ringhall/entry.Touch -/
def G_entry_Touch (n : Nat) (v_e195 : S_entry_Entry) (v_want196 : Int) : Option (S_entry_Entry × Int) :=
  (G_entry_Check n v_e195).bind fun (v_r197 : (Int)) =>
  if v_r197 = 0 then
   (G_entry_May n v_e195 v_want196).bind fun (v_r211 : (Bool)) =>
   if v_r211 = true then
    if v_e195.fDirty = true then
     some ((S_entry_Entry.mk v_e195.fHere v_e195.fSlot v_e195.fAt v_e195.fRights true true v_e195.fCopy), 0)
    else
     some ((S_entry_Entry.mk v_e195.fHere v_e195.fSlot v_e195.fAt v_e195.fRights true ((bits .and .i64 v_want196 2) != 0) v_e195.fCopy), 0)
   else
    some ((S_entry_Entry.mk false false 0 0 false false false), 11)
  else
   some ((S_entry_Entry.mk false false 0 0 false false false), v_r197)
theorem G_entry_Touch_ok (n : Nat) (v_e195 : S_entry_Entry) (v_want196 : Int) (r : S_entry_Entry × Int) (h : G_entry_Touch n v_e195 v_want196 = some r) : Ret Try.prog 14 [eS_entry_Entry v_e195, (eI .i64) v_want196] (.tup [eS_entry_Entry r.1, (eI .i64) r.2]) := by
  refine ret_run (n := 28) (fn := Try.f14) (c := bodyOf Try.f14) (by kernel_rfl) (by kernel_rfl) (by kernel_rfl) (by kernel_rfl) ?_
  have hF : KC 28 (FinR Try.prog Try.f14 (.tup [eS_entry_Entry r.1, (eI .i64) r.2])) := FinR.kc' (by kernel_rfl)
  unfold G_entry_Touch at h
  obtain ⟨v_r197, h276, h⟩ := bind_some h
  by_cases h278 : v_r197 = 0
  · rw [if_pos h278] at h
    obtain ⟨v_r211, h294, h⟩ := bind_some h
    by_cases h296 : v_r211 = true
    · rw [if_pos h296] at h
      by_cases h297 : v_e195.fDirty = true
      · rw [if_pos h297] at h
        obtain rfl := Option.some.inj h
        exact pend_sound TTok mix 21 (hs := [.c, .r ((eI .i64) v_r197), .t false, .c, .r (eB v_r211), .t false, .c, .c, .t true, .c, .c, .c, .c, .c]) (by kernel_rfl) (by kernel_rfl) (by kernel_rfl) (.cons (G_entry_Check_ok n v_e195 _ h276) (.cons (nf h278) (.cons (G_entry_May_ok n v_e195 v_want196 _ h294) (.cons (bnf h296) (.cons (show 4 + 1 ≤ 7 by decide) (.cons h297 (.cons (show 5 + 1 ≤ 7 by decide) (.cons (show 0 + 7 ≤ 7 by decide) .nil))))))))
      · rw [if_neg h297] at h
        obtain rfl := Option.some.inj h
        exact pend_sound TTok mix 21 (hs := [.c, .r ((eI .i64) v_r197), .t false, .c, .r (eB v_r211), .t false, .c, .c, .t false, .c, .c, .c, .c, .c]) (by kernel_rfl) (by kernel_rfl) (by kernel_rfl) (.cons (G_entry_Check_ok n v_e195 _ h276) (.cons (nf h278) (.cons (G_entry_May_ok n v_e195 v_want196 _ h294) (.cons (bnf h296) (.cons (show 4 + 1 ≤ 7 by decide) (.cons (vf h297) (.cons (show 5 + 1 ≤ 7 by decide) (.cons (show 0 + 7 ≤ 7 by decide) .nil))))))))
    · rw [if_neg h296] at h
      obtain rfl := Option.some.inj h
      exact pend_sound TTok mix 17 (hs := [.c, .r ((eI .i64) v_r197), .t false, .c, .r (eB v_r211), .t true, .c]) (by kernel_rfl) (by kernel_rfl) (by kernel_rfl) (.cons (G_entry_Check_ok n v_e195 _ h276) (.cons (nf h278) (.cons (G_entry_May_ok n v_e195 v_want196 _ h294) (.cons (bnt (vf h296)) (.cons (show 0 + 7 ≤ 7 by decide) .nil)))))
  · rw [if_neg h278] at h
    obtain rfl := Option.some.inj h
    exact pend_sound TTok mix 12 (hs := [.c, .r ((eI .i64) v_r197), .t true, .c]) (by kernel_rfl) (by kernel_rfl) (by kernel_rfl) (.cons (G_entry_Check_ok n v_e195 _ h276) (.cons (nt h278) (.cons (show 0 + 7 ≤ 7 by decide) .nil)))
/- ringhall/ringref2.In -/
def G_ringref2_In (n : Nat) (v_n214 : Int) (v_least215 : Int) (v_most216 : Int) : Option (Bool) :=
  if v_n214 ≥ v_least215 then
   some (decide (v_n214 ≤ v_most216))
  else
   some false
theorem G_ringref2_In_ok (n : Nat) (v_n214 : Int) (v_least215 : Int) (v_most216 : Int) (r : Bool) (h : G_ringref2_In n v_n214 v_least215 v_most216 = some r) : Ret Try.prog 41 [(eI .i64) v_n214, (eI .i64) v_least215, (eI .i64) v_most216] (eB r) := by
  refine ret_run (n := 15) (fn := Try.f41) (c := bodyOf Try.f41) (by kernel_rfl) (by kernel_rfl) (by kernel_rfl) (by kernel_rfl) ?_
  have hF : KC 15 (FinR Try.prog Try.f41 (eB r)) := FinR.kc' (by kernel_rfl)
  unfold G_ringref2_In at h
  by_cases h299 : v_n214 ≥ v_least215
  · rw [if_pos h299] at h
    obtain rfl := Option.some.inj h
    exact pend_sound TTok mix 5 (hs := [.t true, .c, .c]) (by kernel_rfl) (by kernel_rfl) (by kernel_rfl) (.cons (dt h299) .nil)
  · rw [if_neg h299] at h
    obtain rfl := Option.some.inj h
    exact pend_sound TTok mix 5 (hs := [.t false, .c, .c]) (by kernel_rfl) (by kernel_rfl) (by kernel_rfl) (.cons (df h299) .nil)
inductive G_ringref2_Entries_C1_R where
  | x0 (v_x220 : Bool)
def G_ringref2_Entries_C1_ex : G_ringref2_Entries_C1_R → Ex
  | .x0 _ => .normal
def G_ringref2_Entries_C1_st (v_e213 : S_entry_Entry) : G_ringref2_Entries_C1_R → PS
  | .x0 v_x220 => ⟨[dd, .ref 0 0, dd, dd, dd, dd, dd, dd, dd, dd, dd, dd, dd, .d (.v (.bool v_x220)), dd, dd, dd, dd, dd, dd, dd, dd, dd, dd, dd, dd, dd, dd, dd, dd, dd, dd, dd, dd, dd, dd, dd, dd, dd, dd, dd, dd, dd, dd, dd, dd, dd, dd, dd, dd, dd, dd, dd, dd, dd, dd, dd, dd], [.box [.d (.v (.bool v_e213.fHere)), .d (.v (.bool v_e213.fSlot)), .d (.v (.int .i64 v_e213.fAt)), .d (.v (.int .i64 v_e213.fRights)), .d (.v (.bool v_e213.fUsed)), .d (.v (.bool v_e213.fDirty)), .d (.v (.bool v_e213.fCopy))]]⟩
def G_ringref2_Entries_C1_hd (v_e213 : S_entry_Entry)  : PS := ⟨[dd, .ref 0 0, dd, dd, dd, dd, dd, dd, dd, dd, dd, dd, dd, dd, dd, dd, dd, dd, dd, dd, dd, dd, dd, dd, dd, dd, dd, dd, dd, dd, dd, dd, dd, dd, dd, dd, dd, dd, dd, dd, dd, dd, dd, dd, dd, dd, dd, dd, dd, dd, dd, dd, dd, dd, dd, dd, dd, dd], [.box [.d (.v (.bool v_e213.fHere)), .d (.v (.bool v_e213.fSlot)), .d (.v (.int .i64 v_e213.fAt)), .d (.v (.int .i64 v_e213.fRights)), .d (.v (.bool v_e213.fUsed)), .d (.v (.bool v_e213.fDirty)), .d (.v (.bool v_e213.fCopy))]]⟩
def G_ringref2_Entries_C1 (n : Nat) (v_e213 : S_entry_Entry) : Option G_ringref2_Entries_C1_R :=
  (G_ringref2_In n v_e213.fRights 0 7).bind fun (v_r219 : (Bool)) =>
  if v_r219 = true then
   (G_ringref2_In n v_e213.fAt 0 63).bind fun (v_r221 : (Bool)) =>
   some (.x0 (!v_r221))
  else
   some (.x0 true)
theorem G_ringref2_Entries_C1_ok {Fi : Ex → PS → Prop} (hF : KC 58 Fi) (ks : List Fr) (n : Nat) (v_e213 : S_entry_Entry)  (o : G_ringref2_Entries_C1_R) (h : G_ringref2_Entries_C1 n v_e213 = some o) (q : RunE Try.prog 58 Fi ks (G_ringref2_Entries_C1_ex o) (G_ringref2_Entries_C1_st v_e213 o)) : RunE Try.prog 58 Fi (.s (cL (cL (cR (bodyOf Try.f15)))) :: ks) .normal (G_ringref2_Entries_C1_hd v_e213) := by
  unfold G_ringref2_Entries_C1 at h
  obtain ⟨v_r219, h303, h⟩ := bind_some h
  by_cases h304 : v_r219 = true
  · rw [if_pos h304] at h
    obtain ⟨v_r221, h305, h⟩ := bind_some h
    cases h
    exact pkk_sound TTok mix hF 1 (hs := [.c, .r (eB v_r219), .t false, .c, .c, .c, .r (eB v_r221), .c]) (ts := []) (s := [0]) (l := [1, 13]) (by kernel_rfl) (by kernel_rfl) (.cons (G_ringref2_In_ok n v_e213.fRights 0 7 _ h303) (.cons (bnf h304) (.cons (G_ringref2_In_ok n v_e213.fAt 0 63 _ h305) .nil))) q
  · rw [if_neg h304] at h
    cases h
    exact pkk_sound TTok mix hF 1 (hs := [.c, .r (eB v_r219), .t true, .c, .c, .c]) (ts := []) (s := [0]) (l := [1, 13]) (by kernel_rfl) (by kernel_rfl) (.cons (G_ringref2_In_ok n v_e213.fRights 0 7 _ h303) (.cons (bnt (vf h304)) .nil)) q
inductive G_ringref2_Entries_C2_R where
  | x0 (v_x225 : Bool)
def G_ringref2_Entries_C2_ex : G_ringref2_Entries_C2_R → Ex
  | .x0 _ => .normal
def G_ringref2_Entries_C2_st (v_e213 : S_entry_Entry) : G_ringref2_Entries_C2_R → PS
  | .x0 v_x225 => ⟨[dd, dd, dd, dd, dd, dd, dd, dd, dd, dd, dd, dd, dd, dd, dd, dd, dd, dd, dd, dd, dd, dd, dd, dd, dd, dd, dd, dd, dd, dd, dd, dd, dd, dd, dd, dd, dd, dd, dd, dd, dd, dd, dd, dd, dd, dd, dd, dd, dd, dd, dd, dd, dd, dd, dd, dd, dd, .d (.v (.bool v_x225))], []⟩
def G_ringref2_Entries_C2_hd (v_e213 : S_entry_Entry)  : PS := ⟨[dd, .ref 0 0, dd, .d (.v (.bool (!v_e213.fSlot))), dd, dd, dd, dd, dd, dd, dd, dd, dd, dd, dd, dd, dd, dd, dd, dd, dd, dd, dd, dd, dd, dd, dd, dd, dd, dd, dd, dd, dd, dd, dd, dd, dd, dd, dd, dd, dd, dd, dd, dd, dd, dd, dd, dd, dd, dd, dd, dd, dd, dd, dd, dd, dd, dd], [.box [.d (.v (.bool v_e213.fHere)), .d (.v (.bool v_e213.fSlot)), .d (.v (.int .i64 v_e213.fAt)), .d (.v (.int .i64 v_e213.fRights)), .d (.v (.bool v_e213.fUsed)), .d (.v (.bool v_e213.fDirty)), .d (.v (.bool v_e213.fCopy))]]⟩
def G_ringref2_Entries_C2 (n : Nat) (v_e213 : S_entry_Entry) : Option G_ringref2_Entries_C2_R :=
  if v_e213.fHere = true then
   if v_e213.fSlot = true then
    some (.x0 true)
   else
    if v_e213.fCopy = true then
     some (.x0 true)
    else
     if v_e213.fAt > 0 then
      some (.x0 true)
     else
      some (.x0 (decide (v_e213.fRights > 0)))
  else
   if v_e213.fUsed = true then
    some (.x0 true)
   else
    if v_e213.fDirty = true then
     some (.x0 true)
    else
     if v_e213.fSlot = true then
      some (.x0 false)
     else
      if v_e213.fCopy = true then
       some (.x0 true)
      else
       if v_e213.fAt > 0 then
        some (.x0 true)
       else
        some (.x0 (decide (v_e213.fRights > 0)))
theorem G_ringref2_Entries_C2_ok {Fi : Ex → PS → Prop} (hF : KC 58 Fi) (ks : List Fr) (n : Nat) (v_e213 : S_entry_Entry)  (o : G_ringref2_Entries_C2_R) (h : G_ringref2_Entries_C2 n v_e213 = some o) (q : RunE Try.prog 58 Fi ks (G_ringref2_Entries_C2_ex o) (G_ringref2_Entries_C2_st v_e213 o)) : RunE Try.prog 58 Fi (.s (cL (cL (cR (cR (cR (bodyOf Try.f15)))))) :: ks) .normal (G_ringref2_Entries_C2_hd v_e213) := by
  unfold G_ringref2_Entries_C2 at h
  by_cases h318 : v_e213.fHere = true
  · rw [if_pos h318] at h
    by_cases h319 : v_e213.fSlot = true
    · rw [if_pos h319] at h
      cases h
      exact pkk_sound TTok mix hF 1 (hs := [.c, .t true, .c, .c, .t true, .c, .c, .c, .c, .c, .c, .c]) (ts := []) (s := []) (l := [57]) (by kernel_rfl) (by kernel_rfl) (.cons h318 (.cons h319 .nil)) q
    · rw [if_neg h319] at h
      by_cases h320 : v_e213.fCopy = true
      · rw [if_pos h320] at h
        cases h
        exact pkk_sound TTok mix hF 1 (hs := [.c, .t true, .c, .c, .t false, .c, .c, .c, .c, .t false, .c, .c, .c, .c, .c, .c, .t true, .c, .c, .c, .t true, .c, .c, .c, .c, .c, .c, .c, .c, .c]) (ts := []) (s := []) (l := [57]) (by kernel_rfl) (by kernel_rfl) (.cons h318 (.cons (vf h319) (.cons (bnf h318) (.cons (bnt (vf h319)) (.cons h320 .nil))))) q
      · rw [if_neg h320] at h
        by_cases h321 : v_e213.fAt > 0
        · rw [if_pos h321] at h
          cases h
          exact pkk_sound TTok mix hF 1 (hs := [.c, .t true, .c, .c, .t false, .c, .c, .c, .c, .t false, .c, .c, .c, .c, .c, .c, .t true, .c, .c, .c, .t false, .c, .c, .c, .c, .c, .t true, .c, .c, .c, .c]) (ts := []) (s := []) (l := [57]) (by kernel_rfl) (by kernel_rfl) (.cons h318 (.cons (vf h319) (.cons (bnf h318) (.cons (bnt (vf h319)) (.cons (vf h320) (.cons (dt h321) .nil)))))) q
        · rw [if_neg h321] at h
          cases h
          exact pkk_sound TTok mix hF 1 (hs := [.c, .t true, .c, .c, .t false, .c, .c, .c, .c, .t false, .c, .c, .c, .c, .c, .c, .t true, .c, .c, .c, .t false, .c, .c, .c, .c, .c, .t false, .c, .c, .c, .c, .c]) (ts := []) (s := []) (l := [57]) (by kernel_rfl) (by kernel_rfl) (.cons h318 (.cons (vf h319) (.cons (bnf h318) (.cons (bnt (vf h319)) (.cons (vf h320) (.cons (df h321) .nil)))))) q
  · rw [if_neg h318] at h
    by_cases h322 : v_e213.fUsed = true
    · rw [if_pos h322] at h
      cases h
      exact pkk_sound TTok mix hF 1 (hs := [.c, .t false, .c, .c, .c, .c, .c, .c, .t true, .c, .c, .c, .t true, .c, .c, .c, .c, .c, .c]) (ts := []) (s := []) (l := [57]) (by kernel_rfl) (by kernel_rfl) (.cons (vf h318) (.cons (bnt (vf h318)) (.cons h322 .nil))) q
    · rw [if_neg h322] at h
      by_cases h323 : v_e213.fDirty = true
      · rw [if_pos h323] at h
        cases h
        exact pkk_sound TTok mix hF 1 (hs := [.c, .t false, .c, .c, .c, .c, .c, .c, .t true, .c, .c, .c, .t false, .c, .c, .c, .c, .t true, .c, .c]) (ts := []) (s := []) (l := [57]) (by kernel_rfl) (by kernel_rfl) (.cons (vf h318) (.cons (bnt (vf h318)) (.cons (vf h322) (.cons h323 .nil)))) q
      · rw [if_neg h323] at h
        by_cases h324 : v_e213.fSlot = true
        · rw [if_pos h324] at h
          cases h
          exact pkk_sound TTok mix hF 1 (hs := [.c, .t false, .c, .c, .c, .c, .c, .c, .t true, .c, .c, .c, .t false, .c, .c, .c, .c, .t false, .c, .t false, .c, .c, .c, .c, .c, .c]) (ts := []) (s := []) (l := [57]) (by kernel_rfl) (by kernel_rfl) (.cons (vf h318) (.cons (bnt (vf h318)) (.cons (vf h322) (.cons (vf h323) (.cons (bnf h324) .nil))))) q
        · rw [if_neg h324] at h
          by_cases h325 : v_e213.fCopy = true
          · rw [if_pos h325] at h
            cases h
            exact pkk_sound TTok mix hF 1 (hs := [.c, .t false, .c, .c, .c, .c, .c, .c, .t true, .c, .c, .c, .t false, .c, .c, .c, .c, .t false, .c, .t true, .c, .c, .c, .t true, .c, .c, .c, .c, .c, .c, .c, .c, .c]) (ts := []) (s := []) (l := [57]) (by kernel_rfl) (by kernel_rfl) (.cons (vf h318) (.cons (bnt (vf h318)) (.cons (vf h322) (.cons (vf h323) (.cons (bnt (vf h324)) (.cons h325 .nil)))))) q
          · rw [if_neg h325] at h
            by_cases h326 : v_e213.fAt > 0
            · rw [if_pos h326] at h
              cases h
              exact pkk_sound TTok mix hF 1 (hs := [.c, .t false, .c, .c, .c, .c, .c, .c, .t true, .c, .c, .c, .t false, .c, .c, .c, .c, .t false, .c, .t true, .c, .c, .c, .t false, .c, .c, .c, .c, .c, .t true, .c, .c, .c, .c]) (ts := []) (s := []) (l := [57]) (by kernel_rfl) (by kernel_rfl) (.cons (vf h318) (.cons (bnt (vf h318)) (.cons (vf h322) (.cons (vf h323) (.cons (bnt (vf h324)) (.cons (vf h325) (.cons (dt h326) .nil))))))) q
            · rw [if_neg h326] at h
              cases h
              exact pkk_sound TTok mix hF 1 (hs := [.c, .t false, .c, .c, .c, .c, .c, .c, .t true, .c, .c, .c, .t false, .c, .c, .c, .c, .t false, .c, .t true, .c, .c, .c, .t false, .c, .c, .c, .c, .c, .t false, .c, .c, .c, .c, .c]) (ts := []) (s := []) (l := [57]) (by kernel_rfl) (by kernel_rfl) (.cons (vf h318) (.cons (bnt (vf h318)) (.cons (vf h322) (.cons (vf h323) (.cons (bnt (vf h324)) (.cons (vf h325) (.cons (df h326) .nil))))))) q
inductive G_ringref2_Entries_C3_R where
  | x0 (v_x237 : Bool)
def G_ringref2_Entries_C3_ex : G_ringref2_Entries_C3_R → Ex
  | .x0 _ => .normal
def G_ringref2_Entries_C3_st (v_e213 : S_entry_Entry) : G_ringref2_Entries_C3_R → PS
  | .x0 v_x237 => ⟨[dd, dd, dd, dd, dd, dd, dd, dd, dd, dd, dd, dd, dd, dd, dd, dd, dd, dd, dd, dd, dd, dd, dd, dd, dd, dd, dd, dd, dd, dd, dd, dd, dd, dd, dd, dd, dd, dd, dd, dd, dd, dd, dd, dd, dd, dd, dd, dd, dd, dd, dd, dd, dd, dd, dd, dd, dd, .d (.v (.bool v_x237))], []⟩
def G_ringref2_Entries_C3_hd (v_e213 : S_entry_Entry)  : PS := ⟨[dd, .ref 0 0, dd, .d (.v (.bool false)), dd, dd, dd, dd, dd, dd, dd, dd, dd, dd, dd, dd, dd, dd, dd, dd, dd, dd, dd, dd, dd, dd, dd, dd, dd, dd, dd, dd, dd, dd, dd, dd, dd, dd, dd, dd, dd, dd, dd, dd, dd, dd, dd, dd, dd, dd, dd, dd, dd, dd, dd, dd, dd, dd], [.box [.d (.v (.bool v_e213.fHere)), .d (.v (.bool v_e213.fSlot)), .d (.v (.int .i64 v_e213.fAt)), .d (.v (.int .i64 v_e213.fRights)), .d (.v (.bool v_e213.fUsed)), .d (.v (.bool v_e213.fDirty)), .d (.v (.bool v_e213.fCopy))]]⟩
def G_ringref2_Entries_C3 (n : Nat) (v_e213 : S_entry_Entry) : Option G_ringref2_Entries_C3_R :=
  if v_e213.fHere = true then
   if v_e213.fSlot = true then
    some (.x0 true)
   else
    some (.x0 false)
  else
   if v_e213.fUsed = true then
    some (.x0 true)
   else
    if v_e213.fDirty = true then
     some (.x0 true)
    else
     some (.x0 false)
theorem G_ringref2_Entries_C3_ok {Fi : Ex → PS → Prop} (hF : KC 58 Fi) (ks : List Fr) (n : Nat) (v_e213 : S_entry_Entry)  (o : G_ringref2_Entries_C3_R) (h : G_ringref2_Entries_C3 n v_e213 = some o) (q : RunE Try.prog 58 Fi ks (G_ringref2_Entries_C3_ex o) (G_ringref2_Entries_C3_st v_e213 o)) : RunE Try.prog 58 Fi (.s (cL (cL (cR (cR (cR (bodyOf Try.f15)))))) :: ks) .normal (G_ringref2_Entries_C3_hd v_e213) := by
  unfold G_ringref2_Entries_C3 at h
  by_cases h333 : v_e213.fHere = true
  · rw [if_pos h333] at h
    by_cases h334 : v_e213.fSlot = true
    · rw [if_pos h334] at h
      cases h
      exact pkk_sound TTok mix hF 1 (hs := [.c, .t true, .c, .c, .t true, .c, .c, .c, .c, .c, .c, .c]) (ts := []) (s := []) (l := [57]) (by kernel_rfl) (by kernel_rfl) (.cons h333 (.cons h334 .nil)) q
    · rw [if_neg h334] at h
      cases h
      exact pkk_sound TTok mix hF 1 (hs := [.c, .t true, .c, .c, .t false, .c, .c, .c, .c, .t false, .c, .c, .c, .c, .c, .c, .c, .c, .c, .c, .c, .c, .c]) (ts := []) (s := []) (l := [57]) (by kernel_rfl) (by kernel_rfl) (.cons h333 (.cons (vf h334) (.cons (bnf h333) .nil))) q
  · rw [if_neg h333] at h
    by_cases h335 : v_e213.fUsed = true
    · rw [if_pos h335] at h
      cases h
      exact pkk_sound TTok mix hF 1 (hs := [.c, .t false, .c, .c, .c, .c, .c, .c, .t true, .c, .c, .c, .t true, .c, .c, .c, .c, .c, .c]) (ts := []) (s := []) (l := [57]) (by kernel_rfl) (by kernel_rfl) (.cons (vf h333) (.cons (bnt (vf h333)) (.cons h335 .nil))) q
    · rw [if_neg h335] at h
      by_cases h336 : v_e213.fDirty = true
      · rw [if_pos h336] at h
        cases h
        exact pkk_sound TTok mix hF 1 (hs := [.c, .t false, .c, .c, .c, .c, .c, .c, .t true, .c, .c, .c, .t false, .c, .c, .c, .c, .t true, .c, .c]) (ts := []) (s := []) (l := [57]) (by kernel_rfl) (by kernel_rfl) (.cons (vf h333) (.cons (bnt (vf h333)) (.cons (vf h335) (.cons h336 .nil)))) q
      · rw [if_neg h336] at h
        cases h
        exact pkk_sound TTok mix hF 1 (hs := [.c, .t false, .c, .c, .c, .c, .c, .c, .t true, .c, .c, .c, .t false, .c, .c, .c, .c, .t false, .c, .c, .c, .c, .c, .c, .c, .c]) (ts := []) (s := []) (l := [57]) (by kernel_rfl) (by kernel_rfl) (.cons (vf h333) (.cons (bnt (vf h333)) (.cons (vf h335) (.cons (vf h336) .nil)))) q
/- ringhall/ringref2.Entries -/
def G_ringref2_Entries (n : Nat) (v_e213 : S_entry_Entry) : Option (Int) :=
  (G_ringref2_Entries_C1 n v_e213).bind fun v_o223 => match v_o223 with
  | .x0 v_z224 =>
    if v_z224 = true then
     some 1
    else
     if v_e213.fHere = true then
      (G_ringref2_Entries_C3 n v_e213).bind fun v_o242 => match v_o242 with
      | .x0 v_z243 =>
        if v_z243 = true then
         some 3
        else
         some 0
     else
      (G_ringref2_Entries_C2 n v_e213).bind fun v_o235 => match v_o235 with
      | .x0 v_z236 =>
        if v_z236 = true then
         some 3
        else
         some 0
theorem G_ringref2_Entries_ok (n : Nat) (v_e213 : S_entry_Entry) (r : Int) (h : G_ringref2_Entries n v_e213 = some r) : Ret Try.prog 15 [eS_entry_Entry v_e213] ((eI .i64) r) := by
  refine ret_run (n := 58) (fn := Try.f15) (c := bodyOf Try.f15) (by kernel_rfl) (by kernel_rfl) (by kernel_rfl) (by kernel_rfl) ?_
  have hF : KC 58 (FinR Try.prog Try.f15 ((eI .i64) r)) := FinR.kc' (by kernel_rfl)
  unfold G_ringref2_Entries at h
  obtain ⟨v_o223, h306, h⟩ := bind_some h
  refine pkk_sound TTok mix hF 4 (hs := []) (ts := []) (s := [0]) (l := [1]) (by kernel_rfl) (by kernel_rfl) .nil (G_ringref2_Entries_C1_ok hF (.s (cR (cL (cR (bodyOf Try.f15)))) :: .s (cR (cR (bodyOf Try.f15))) :: []) n v_e213 _ h306 ?_)
  cases v_o223 with
  | x0 v_z224 =>
    dsimp only at h
    by_cases h307 : v_z224 = true
    · rw [if_pos h307] at h
      obtain rfl := Option.some.inj h
      exact pend_sound TTok mix 5 (hs := [.t true]) (by kernel_rfl) (by kernel_rfl) (by kernel_rfl) (.cons h307 .nil)
    · rw [if_neg h307] at h
      by_cases h308 : v_e213.fHere = true
      · rw [if_pos h308] at h
        obtain ⟨v_o242, h337, h⟩ := bind_some h
        refine pkk_sound TTok mix hF 6 (hs := [.t false, .c, .t false, .c, .c]) (ts := []) (s := [0]) (l := [1, 3]) (by kernel_rfl) (by kernel_rfl) (.cons (vf h307) (.cons (bnf h308) .nil)) (G_ringref2_Entries_C3_ok hF (.s (cR (cL (cR (cR (cR (bodyOf Try.f15)))))) :: .s (cR (cR (cR (cR (bodyOf Try.f15))))) :: []) n v_e213 _ h337 ?_)
        cases v_o242 with
        | x0 v_z243 =>
          dsimp only at h
          by_cases h338 : v_z243 = true
          · rw [if_pos h338] at h
            obtain rfl := Option.some.inj h
            exact pend_sound TTok mix 5 (hs := [.t true]) (by kernel_rfl) (by kernel_rfl) (by kernel_rfl) (.cons h338 .nil)
          · rw [if_neg h338] at h
            obtain rfl := Option.some.inj h
            exact pend_sound TTok mix 5 (hs := [.t false]) (by kernel_rfl) (by kernel_rfl) (by kernel_rfl) (.cons (vf h338) .nil)
      · rw [if_neg h308] at h
        obtain ⟨v_o235, h327, h⟩ := bind_some h
        refine pkk_sound TTok mix hF 6 (hs := [.t false, .c, .t true, .c, .c, .c]) (ts := []) (s := [0]) (l := [1, 3]) (by kernel_rfl) (by kernel_rfl) (.cons (vf h307) (.cons (bnt (vf h308)) .nil)) (G_ringref2_Entries_C2_ok hF (.s (cR (cL (cR (cR (cR (bodyOf Try.f15)))))) :: .s (cR (cR (cR (cR (bodyOf Try.f15))))) :: []) n v_e213 _ h327 ?_)
        cases v_o235 with
        | x0 v_z236 =>
          dsimp only at h
          by_cases h328 : v_z236 = true
          · rw [if_pos h328] at h
            obtain rfl := Option.some.inj h
            exact pend_sound TTok mix 5 (hs := [.t true]) (by kernel_rfl) (by kernel_rfl) (by kernel_rfl) (.cons h328 .nil)
          · rw [if_neg h328] at h
            obtain rfl := Option.some.inj h
            exact pend_sound TTok mix 5 (hs := [.t false]) (by kernel_rfl) (by kernel_rfl) (by kernel_rfl) (.cons (vf h328) .nil)
inductive G_ringref2_Has_L1_R where
  | x0 (v_x257 : Bool)
  | x1 
def G_ringref2_Has_L1_ex : G_ringref2_Has_L1_R → Ex
  | .x0 _ => .ret
  | .x1  => .exit 0
def G_ringref2_Has_L1_st (v_rights252 : Int) (v_want253 : Int) : G_ringref2_Has_L1_R → PS
  | .x0 v_x257 => ⟨[dd, dd, dd, dd, .d (.v (.bool v_x257)), dd, dd, dd, dd, dd, dd, dd, dd, dd, dd, dd, dd, dd, dd, dd, dd, dd, dd, dd], []⟩
  | .x1  => ⟨[dd, dd, dd, dd, dd, dd, dd, dd, dd, dd, dd, dd, dd, dd, dd, dd, dd, dd, dd, dd, dd, dd, dd, dd], []⟩
def G_ringref2_Has_L1_hd (v_rights252 : Int) (v_want253 : Int) (v_x254 : Int) : PS := ⟨[.d (.v (.int .i64 v_rights252)), .d (.v (.int .i64 v_want253)), dd, dd, dd, dd, dd, .d (.agg [.v (.int .i64 1), .v (.int .i64 2), .v (.int .i64 4)]), .d (.v (.int .i64 v_x254)), dd, dd, dd, dd, dd, dd, dd, dd, dd, dd, dd, dd, dd, dd, dd], []⟩
def G_ringref2_Has_L1 (n : Nat) (v_rights252 : Int) (v_want253 : Int) : Nat → Int → Option G_ringref2_Has_L1_R
  | 0, _ => none
  | k + 1, v_x254 =>
    if v_x254 < 3 then
     (getA (fun i : Fin 3 => [1, 2, 4].get i) v_x254).bind fun (v_y256 : Int) =>
     if v_y256 ≠ 0 then
      if (remI (quoI .i64 v_want253 v_y256) 2) = 1 then
       if v_y256 ≠ 0 then
        if (remI (quoI .i64 v_rights252 v_y256) 2) = 0 then
         some (.x0 false)
        else
         G_ringref2_Has_L1 n v_rights252 v_want253 k (wi .i64 (v_x254 + 1))
       else none
      else
       G_ringref2_Has_L1 n v_rights252 v_want253 k (wi .i64 (v_x254 + 1))
     else none
    else
     some (.x1 )
theorem G_ringref2_Has_L1_ok {Fi : Ex → PS → Prop} (hF : KC 24 Fi) (ks : List Fr) (n : Nat) (v_rights252 : Int) (v_want253 : Int)  : ∀ (k : Nat) (v_x254 : Int) (o : G_ringref2_Has_L1_R), G_ringref2_Has_L1 n v_rights252 v_want253 k v_x254 = some o → RunE Try.prog 24 Fi ks (G_ringref2_Has_L1_ex o) (G_ringref2_Has_L1_st v_rights252 v_want253 o) → RunE Try.prog 24 Fi (.l k (cP (cB (cR (cL (cR (bodyOf Try.f22)))))) :: ks) .normal (G_ringref2_Has_L1_hd v_rights252 v_want253 v_x254)
  | 0, v_x254, o, h, q => by rw [G_ringref2_Has_L1] at h; cases h
  | k + 1, v_x254, o, h, q => by
    rw [G_ringref2_Has_L1] at h
    by_cases h351 : v_x254 < 3
    · rw [if_pos h351] at h
      obtain ⟨v_y256, h364, h⟩ := bind_some h
      by_cases h370 : v_y256 ≠ 0
      · rw [if_pos h370] at h
        by_cases h372 : (remI (quoI .i64 v_want253 v_y256) 2) = 1
        · rw [if_pos h372] at h
          by_cases h373 : v_y256 ≠ 0
          · rw [if_pos h373] at h
            by_cases h375 : (remI (quoI .i64 v_rights252 v_y256) 2) = 0
            · rw [if_pos h375] at h
              cases h
              exact pkk_sound TTok mix hF 19 (hs := [.t true, .l (.d (.v (.int .i64 v_y256))), .t true, .c, .c, .c, .c, .t true]) (ts := []) (s := []) (l := [4]) (by kernel_rfl) (by kernel_rfl) (.cons (dt h351) (.cons (getA_ob0 (fun x => FV.d ((eI .i64) x)) h364) (.cons h370 (.cons (show (2 : Int) ≠ 0 by decide) (.cons (bt h372) (.cons h373 (.cons (show (2 : Int) ≠ 0 by decide) (.cons (bt h375) .nil)))))))) q
            · rw [if_neg h375] at h
              exact pkk_sound TTok mix hF 16 (hs := [.t true, .l (.d (.v (.int .i64 v_y256))), .t true, .c, .c, .c, .c, .t false]) (ts := []) (s := []) (l := [0, 1, 7, 8]) (by kernel_rfl) (by kernel_rfl) (.cons (dt h351) (.cons (getA_ob0 (fun x => FV.d ((eI .i64) x)) h364) (.cons h370 (.cons (show (2 : Int) ≠ 0 by decide) (.cons (bt h372) (.cons h373 (.cons (show (2 : Int) ≠ 0 by decide) (.cons (bf h375) .nil)))))))) (G_ringref2_Has_L1_ok hF ks n v_rights252 v_want253 k (wi .i64 (v_x254 + 1)) _ h q)
          · rw [if_neg h373] at h; cases h
        · rw [if_neg h372] at h
          exact pkk_sound TTok mix hF 16 (hs := [.t true, .l (.d (.v (.int .i64 v_y256))), .t false, .c, .c, .c, .c, .c]) (ts := []) (s := []) (l := [0, 1, 7, 8]) (by kernel_rfl) (by kernel_rfl) (.cons (dt h351) (.cons (getA_ob0 (fun x => FV.d ((eI .i64) x)) h364) (.cons h370 (.cons (show (2 : Int) ≠ 0 by decide) (.cons (bf h372) .nil))))) (G_ringref2_Has_L1_ok hF ks n v_rights252 v_want253 k (wi .i64 (v_x254 + 1)) _ h q)
      · rw [if_neg h370] at h; cases h
    · rw [if_neg h351] at h
      cases h
      exact pkk_sound TTok mix hF 8 (hs := [.t false]) (ts := []) (s := []) (l := []) (by kernel_rfl) (by kernel_rfl) (.cons (df h351) .nil) q
/- ringhall/ringref2.Has -/
def G_ringref2_Has (n : Nat) (v_rights252 : Int) (v_want253 : Int) : Option (Bool) :=
  (G_ringref2_Has_L1 n v_rights252 v_want253 n 0).bind fun v_o258 => match v_o258 with
  | .x0 v_z259 =>
    some v_z259
  | .x1  =>
    some true
theorem G_ringref2_Has_ok (n : Nat) (v_rights252 : Int) (v_want253 : Int) (r : Bool) (h : G_ringref2_Has n v_rights252 v_want253 = some r) : Ret Try.prog 22 [(eI .i64) v_rights252, (eI .i64) v_want253] (eB r) := by
  refine ret_run (n := 24) (fn := Try.f22) (c := bodyOf Try.f22) (by kernel_rfl) (by kernel_rfl) (by kernel_rfl) (by kernel_rfl) ?_
  have hF : KC 24 (FinR Try.prog Try.f22 (eB r)) := FinR.kc' (by kernel_rfl)
  unfold G_ringref2_Has at h
  obtain ⟨v_o258, h376, h⟩ := bind_some h
  refine pkk_sound TTok mix hF 7 (hs := [.n n]) (ts := []) (s := []) (l := [0, 1, 7, 8]) (by kernel_rfl) (by kernel_rfl) .nil (G_ringref2_Has_L1_ok hF (.b 0 :: .s (cR (cR (bodyOf Try.f22))) :: []) n v_rights252 v_want253 n 0 _ h376 ?_)
  cases v_o258 with
  | x0 v_z259 =>
    dsimp only at h
    obtain rfl := Option.some.inj h
    exact pend_sound TTok mix 2 (hs := []) (by kernel_rfl) (by kernel_rfl) (by kernel_rfl) .nil
  | x1  =>
    dsimp only at h
    obtain rfl := Option.some.inj h
    exact pend_sound TTok mix 4 (hs := []) (by kernel_rfl) (by kernel_rfl) (by kernel_rfl) .nil
inductive G_ringref2_EntryMay_C1_R where
  | x0 (v_x264 : Bool)
def G_ringref2_EntryMay_C1_ex : G_ringref2_EntryMay_C1_R → Ex
  | .x0 _ => .normal
def G_ringref2_EntryMay_C1_st (v_want249 : Int) (v_e248 : S_entry_Entry) : G_ringref2_EntryMay_C1_R → PS
  | .x0 v_x264 => ⟨[dd, dd, dd, dd, .d (.v (.bool v_x264)), dd, dd, dd, dd, dd, dd, dd, dd, dd, dd, dd, dd, dd, dd, dd, dd, dd, dd, dd, dd, dd, dd, dd, dd, dd, dd, dd, dd], []⟩
def G_ringref2_EntryMay_C1_hd (v_want249 : Int) (v_e248 : S_entry_Entry)  : PS := ⟨[dd, .d (.v (.int .i64 v_want249)), .ref 0 0, dd, dd, dd, dd, dd, dd, dd, dd, dd, dd, dd, dd, dd, dd, dd, dd, dd, dd, dd, dd, dd, dd, dd, dd, dd, dd, dd, dd, dd, dd], [.box [.d (.v (.bool v_e248.fHere)), .d (.v (.bool v_e248.fSlot)), .d (.v (.int .i64 v_e248.fAt)), .d (.v (.int .i64 v_e248.fRights)), .d (.v (.bool v_e248.fUsed)), .d (.v (.bool v_e248.fDirty)), .d (.v (.bool v_e248.fCopy))]]⟩
def G_ringref2_EntryMay_C1 (n : Nat) (v_want249 : Int) (v_e248 : S_entry_Entry) : Option G_ringref2_EntryMay_C1_R :=
  (G_ringref2_In n v_want249 1 7).bind fun (v_r261 : (Bool)) =>
  if v_r261 = true then
   (G_ringref2_Entries n v_e248).bind fun (v_r262 : (Int)) =>
   if v_r262 = 0 then
    if v_e248.fHere = true then
     (G_ringref2_Has n v_e248.fRights v_want249).bind fun (v_r263 : (Bool)) =>
     if v_r263 = true then
      if v_e248.fCopy = true then
       some (.x0 (!((remI (quoI .i64 v_want249 2) 2) == 1)))
      else
       some (.x0 true)
     else
      some (.x0 false)
    else
     some (.x0 false)
   else
    some (.x0 false)
  else
   some (.x0 false)
theorem G_ringref2_EntryMay_C1_ok {Fi : Ex → PS → Prop} (hF : KC 33 Fi) (ks : List Fr) (n : Nat) (v_want249 : Int) (v_e248 : S_entry_Entry)  (o : G_ringref2_EntryMay_C1_R) (h : G_ringref2_EntryMay_C1 n v_want249 v_e248 = some o) (q : RunE Try.prog 33 Fi ks (G_ringref2_EntryMay_C1_ex o) (G_ringref2_EntryMay_C1_st v_want249 v_e248 o)) : RunE Try.prog 33 Fi (.s (cL (cR (bodyOf Try.f19))) :: ks) .normal (G_ringref2_EntryMay_C1_hd v_want249 v_e248) := by
  unfold G_ringref2_EntryMay_C1 at h
  obtain ⟨v_r261, h382, h⟩ := bind_some h
  by_cases h383 : v_r261 = true
  · rw [if_pos h383] at h
    obtain ⟨v_r262, h384, h⟩ := bind_some h
    by_cases h385 : v_r262 = 0
    · rw [if_pos h385] at h
      by_cases h386 : v_e248.fHere = true
      · rw [if_pos h386] at h
        obtain ⟨v_r263, h387, h⟩ := bind_some h
        by_cases h388 : v_r263 = true
        · rw [if_pos h388] at h
          by_cases h389 : v_e248.fCopy = true
          · rw [if_pos h389] at h
            cases h
            exact pkk_sound TTok mix hF 1 (hs := [.r (eB v_r261), .t true, .c, .c, .r ((eI .i64) v_r262), .c, .t true, .c, .c, .t true, .c, .c, .c, .c, .r (eB v_r263), .t true, .c, .c, .c, .t true, .c, .c, .c, .c, .c]) (ts := []) (s := []) (l := [4]) (by kernel_rfl) (by kernel_rfl) (.cons (G_ringref2_In_ok n v_want249 1 7 _ h382) (.cons h383 (.cons (G_ringref2_Entries_ok n v_e248 _ h384) (.cons (bt h385) (.cons h386 (.cons (G_ringref2_Has_ok n v_e248.fRights v_want249 _ h387) (.cons h388 (.cons h389 (.cons (show (2 : Int) ≠ 0 by decide) (.cons (show (2 : Int) ≠ 0 by decide) .nil)))))))))) q
          · rw [if_neg h389] at h
            cases h
            exact pkk_sound TTok mix hF 1 (hs := [.r (eB v_r261), .t true, .c, .c, .r ((eI .i64) v_r262), .c, .t true, .c, .c, .t true, .c, .c, .c, .c, .r (eB v_r263), .t true, .c, .c, .c, .t false, .c, .c, .c, .c, .c]) (ts := []) (s := []) (l := [4]) (by kernel_rfl) (by kernel_rfl) (.cons (G_ringref2_In_ok n v_want249 1 7 _ h382) (.cons h383 (.cons (G_ringref2_Entries_ok n v_e248 _ h384) (.cons (bt h385) (.cons h386 (.cons (G_ringref2_Has_ok n v_e248.fRights v_want249 _ h387) (.cons h388 (.cons (vf h389) .nil)))))))) q
        · rw [if_neg h388] at h
          cases h
          exact pkk_sound TTok mix hF 1 (hs := [.r (eB v_r261), .t true, .c, .c, .r ((eI .i64) v_r262), .c, .t true, .c, .c, .t true, .c, .c, .c, .c, .r (eB v_r263), .t false, .c, .c, .c, .c]) (ts := []) (s := []) (l := [4]) (by kernel_rfl) (by kernel_rfl) (.cons (G_ringref2_In_ok n v_want249 1 7 _ h382) (.cons h383 (.cons (G_ringref2_Entries_ok n v_e248 _ h384) (.cons (bt h385) (.cons h386 (.cons (G_ringref2_Has_ok n v_e248.fRights v_want249 _ h387) (.cons (vf h388) .nil))))))) q
      · rw [if_neg h386] at h
        cases h
        exact pkk_sound TTok mix hF 1 (hs := [.r (eB v_r261), .t true, .c, .c, .r ((eI .i64) v_r262), .c, .t true, .c, .c, .t false, .c, .c, .c, .c, .c, .c, .c, .c]) (ts := []) (s := []) (l := [4]) (by kernel_rfl) (by kernel_rfl) (.cons (G_ringref2_In_ok n v_want249 1 7 _ h382) (.cons h383 (.cons (G_ringref2_Entries_ok n v_e248 _ h384) (.cons (bt h385) (.cons (vf h386) .nil))))) q
    · rw [if_neg h385] at h
      cases h
      exact pkk_sound TTok mix hF 1 (hs := [.r (eB v_r261), .t true, .c, .c, .r ((eI .i64) v_r262), .c, .t false, .c, .c, .c, .c, .c, .c, .c, .c, .c, .c]) (ts := []) (s := []) (l := [4]) (by kernel_rfl) (by kernel_rfl) (.cons (G_ringref2_In_ok n v_want249 1 7 _ h382) (.cons h383 (.cons (G_ringref2_Entries_ok n v_e248 _ h384) (.cons (bf h385) .nil)))) q
  · rw [if_neg h383] at h
    cases h
    exact pkk_sound TTok mix hF 1 (hs := [.r (eB v_r261), .t false, .c, .c, .c, .c, .c, .c, .c, .c, .c, .c, .c, .c, .c]) (ts := []) (s := []) (l := [4]) (by kernel_rfl) (by kernel_rfl) (.cons (G_ringref2_In_ok n v_want249 1 7 _ h382) (.cons (vf h383) .nil)) q
/- ringhall/ringref2.EntryMay -/
def G_ringref2_EntryMay (n : Nat) (v_e248 : S_entry_Entry) (v_want249 : Int) : Option (Bool) :=
  (G_ringref2_EntryMay_C1 n v_want249 v_e248).bind fun v_o270 => match v_o270 with
  | .x0 v_z271 =>
    some v_z271
theorem G_ringref2_EntryMay_ok (n : Nat) (v_e248 : S_entry_Entry) (v_want249 : Int) (r : Bool) (h : G_ringref2_EntryMay n v_e248 v_want249 = some r) : Ret Try.prog 19 [eS_entry_Entry v_e248, (eI .i64) v_want249] (eB r) := by
  refine ret_run (n := 33) (fn := Try.f19) (c := bodyOf Try.f19) (by kernel_rfl) (by kernel_rfl) (by kernel_rfl) (by kernel_rfl) ?_
  have hF : KC 33 (FinR Try.prog Try.f19 (eB r)) := FinR.kc' (by kernel_rfl)
  unfold G_ringref2_EntryMay at h
  obtain ⟨v_o270, h392, h⟩ := bind_some h
  refine pkk_sound TTok mix hF 3 (hs := []) (ts := []) (s := [0]) (l := [1, 2]) (by kernel_rfl) (by kernel_rfl) .nil (G_ringref2_EntryMay_C1_ok hF (.s (cR (cR (bodyOf Try.f19))) :: []) n v_want249 v_e248 _ h392 ?_)
  cases v_o270 with
  | x0 v_z271 =>
    dsimp only at h
    obtain rfl := Option.some.inj h
    exact pend_sound TTok mix 1 (hs := []) (by kernel_rfl) (by kernel_rfl) (by kernel_rfl) .nil
inductive G_ringref2_Power_L1_R where
  | x0 (v_n294 : Int)
def G_ringref2_Power_L1_ex : G_ringref2_Power_L1_R → Ex
  | .x0 _ => .exit 0
def G_ringref2_Power_L1_st (v_k291 : Int) : G_ringref2_Power_L1_R → PS
  | .x0 v_n294 => ⟨[dd, dd, dd, .d (.v (.int .i64 v_n294)), dd, dd, dd, dd, dd, dd, dd], []⟩
def G_ringref2_Power_L1_hd (v_k291 : Int) (v_n292 : Int) (v_x293 : Int) : PS := ⟨[dd, dd, dd, .d (.v (.int .i64 v_n292)), .d (.v (.int .i64 v_k291)), .d (.v (.int .i64 v_x293)), dd, dd, dd, dd, dd], []⟩
def G_ringref2_Power_L1 (n : Nat) (v_k291 : Int) : Nat → Int → Int → Option G_ringref2_Power_L1_R
  | 0, _, _ => none
  | k + 1, v_n292, v_x293 =>
    if v_x293 < v_k291 then
     G_ringref2_Power_L1 n v_k291 k (wi .i64 (v_n292 * 2)) (wi .i64 (v_x293 + 1))
    else
     some (.x0 v_n292)
theorem G_ringref2_Power_L1_ok {Fi : Ex → PS → Prop} (hF : KC 11 Fi) (ks : List Fr) (n : Nat) (v_k291 : Int)  : ∀ (k : Nat) (v_n292 : Int) (v_x293 : Int) (o : G_ringref2_Power_L1_R), G_ringref2_Power_L1 n v_k291 k v_n292 v_x293 = some o → RunE Try.prog 11 Fi ks (G_ringref2_Power_L1_ex o) (G_ringref2_Power_L1_st v_k291 o) → RunE Try.prog 11 Fi (.l k (cP (cB (cR (cL (cR (cR (bodyOf Try.f43))))))) :: ks) .normal (G_ringref2_Power_L1_hd v_k291 v_n292 v_x293)
  | 0, v_n292, v_x293, o, h, q => by rw [G_ringref2_Power_L1] at h; cases h
  | k + 1, v_n292, v_x293, o, h, q => by
    rw [G_ringref2_Power_L1] at h
    by_cases h411 : v_x293 < v_k291
    · rw [if_pos h411] at h
      exact pkk_sound TTok mix hF 11 (hs := [.t true]) (ts := []) (s := []) (l := [3, 4, 5]) (by kernel_rfl) (by kernel_rfl) (.cons (dt h411) .nil) (G_ringref2_Power_L1_ok hF ks n v_k291 k (wi .i64 (v_n292 * 2)) (wi .i64 (v_x293 + 1)) _ h q)
    · rw [if_neg h411] at h
      cases h
      exact pkk_sound TTok mix hF 8 (hs := [.t false]) (ts := []) (s := []) (l := [3]) (by kernel_rfl) (by kernel_rfl) (.cons (df h411) .nil) q
/- ringhall/ringref2.Power -/
def G_ringref2_Power (n : Nat) (v_k291 : Int) : Option (Int) :=
  (G_ringref2_Power_L1 n v_k291 n 1 0).bind fun v_o295 => match v_o295 with
  | .x0 v_z296 =>
    some v_z296
theorem G_ringref2_Power_ok (n : Nat) (v_k291 : Int) (r : Int) (h : G_ringref2_Power n v_k291 = some r) : Ret Try.prog 43 [(eI .i64) v_k291] ((eI .i64) r) := by
  refine ret_run (n := 11) (fn := Try.f43) (c := bodyOf Try.f43) (by kernel_rfl) (by kernel_rfl) (by kernel_rfl) (by kernel_rfl) ?_
  have hF : KC 11 (FinR Try.prog Try.f43 ((eI .i64) r)) := FinR.kc' (by kernel_rfl)
  unfold G_ringref2_Power at h
  obtain ⟨v_o295, h412, h⟩ := bind_some h
  refine pkk_sound TTok mix hF 9 (hs := [.n n]) (ts := []) (s := []) (l := [3, 4, 5]) (by kernel_rfl) (by kernel_rfl) .nil (G_ringref2_Power_L1_ok hF (.b 0 :: .s (cR (cR (cR (bodyOf Try.f43)))) :: []) n v_k291 n 1 0 _ h412 ?_)
  cases v_o295 with
  | x0 v_z296 =>
    dsimp only at h
    obtain rfl := Option.some.inj h
    exact pend_sound TTok mix 4 (hs := []) (by kernel_rfl) (by kernel_rfl) (by kernel_rfl) .nil
/- ringhall/ringref2.EntryRead$1 -/
def G_ringref2_EntryRead_1 (n : Nat) (v_k289 : Int) (v_c290 : Int) : Option (Bool) :=
  (G_ringref2_Power n v_k289).bind fun (v_r297 : (Int)) =>
  if v_r297 ≠ 0 then
   some ((remI (quoI .i64 (wi .i64 v_c290) v_r297) 2) == 1)
  else none
theorem G_ringref2_EntryRead_1_ok (n : Nat) (v_k289 : Int) (v_c290 : Int) (r : Bool) (h : G_ringref2_EntryRead_1 n v_k289 v_c290 = some r) : Ret Try.prog 42 [(eI .i64) v_k289, .iptr [.v (.int .u32 v_c290)] 0] (eB r) := by
  refine ret_run (n := 11) (fn := Try.f42) (c := bodyOf Try.f42) (by kernel_rfl) (by kernel_rfl) (by kernel_rfl) (by kernel_rfl) ?_
  have hF : KC 11 (FinR Try.prog Try.f42 (eB r)) := FinR.kc' (by kernel_rfl)
  unfold G_ringref2_EntryRead_1 at h
  obtain ⟨v_r297, h413, h⟩ := bind_some h
  by_cases h414 : v_r297 ≠ 0
  · rw [if_pos h414] at h
    obtain rfl := Option.some.inj h
    exact pend_sound TTok mix 5 (hs := [.c, .r ((eI .i64) v_r297)]) (by kernel_rfl) (by kernel_rfl) (by kernel_rfl) (.cons (G_ringref2_Power_ok n v_k289 _ h413) (.cons h414 (.cons (show (2 : Int) ≠ 0 by decide) .nil)))
  · rw [if_neg h414] at h; cases h
/- ringhall/ringref2.EntryRead -/
def G_ringref2_EntryRead (n : Nat) (v_w288 : Int) : Option (S_entry_Entry × Bool) :=
  if v_w288 > 16383 then
   some ((S_entry_Entry.mk false false 0 0 false false false), false)
  else
   (G_ringref2_EntryRead_1 n 0 v_w288).bind fun (v_r298 : (Bool)) =>
   (G_ringref2_EntryRead_1 n 1 v_w288).bind fun (v_r299 : (Bool)) =>
   (G_ringref2_EntryRead_1 n 2 v_w288).bind fun (v_r300 : (Bool)) =>
   (G_ringref2_EntryRead_1 n 3 v_w288).bind fun (v_r301 : (Bool)) =>
   (G_ringref2_EntryRead_1 n 4 v_w288).bind fun (v_r302 : (Bool)) =>
   (G_ringref2_Entries n (S_entry_Entry.mk v_r298 v_r299 (quoI .i64 (wi .i64 v_w288) 256) (remI (quoI .i64 (wi .i64 v_w288) 32) 8) v_r300 v_r301 v_r302)).bind fun (v_r303 : (Int)) =>
   if v_r303 = 0 then
    some ((S_entry_Entry.mk v_r298 v_r299 (quoI .i64 (wi .i64 v_w288) 256) (remI (quoI .i64 (wi .i64 v_w288) 32) 8) v_r300 v_r301 v_r302), true)
   else
    some ((S_entry_Entry.mk false false 0 0 false false false), false)
theorem G_ringref2_EntryRead_ok (n : Nat) (v_w288 : Int) (r : S_entry_Entry × Bool) (h : G_ringref2_EntryRead n v_w288 = some r) : Ret Try.prog 20 [(eI .u32) v_w288] (.tup [eS_entry_Entry r.1, eB r.2]) := by
  refine ret_run (n := 33) (fn := Try.f20) (c := bodyOf Try.f20) (by kernel_rfl) (by kernel_rfl) (by kernel_rfl) (by kernel_rfl) ?_
  have hF : KC 33 (FinR Try.prog Try.f20 (.tup [eS_entry_Entry r.1, eB r.2])) := FinR.kc' (by kernel_rfl)
  unfold G_ringref2_EntryRead at h
  by_cases h410 : v_w288 > 16383
  · rw [if_pos h410] at h
    obtain rfl := Option.some.inj h
    exact pend_sound TTok mix 10 (hs := [.c, .t true, .c]) (by kernel_rfl) (by kernel_rfl) (by kernel_rfl) (.cons (dt h410) (.cons (show 0 + 7 ≤ 7 by decide) .nil))
  · rw [if_neg h410] at h
    obtain ⟨v_r298, h416, h⟩ := bind_some h
    obtain ⟨v_r299, h417, h⟩ := bind_some h
    obtain ⟨v_r300, h418, h⟩ := bind_some h
    obtain ⟨v_r301, h419, h⟩ := bind_some h
    obtain ⟨v_r302, h420, h⟩ := bind_some h
    obtain ⟨v_r303, h424, h⟩ := bind_some h
    by_cases h426 : v_r303 = 0
    · rw [if_pos h426] at h
      obtain rfl := Option.some.inj h
      exact pend_sound TTok mix 19 (hs := [.c, .t false, .c, .r (eB v_r298), .c, .r (eB v_r299), .c, .r (eB v_r300), .c, .r (eB v_r301), .c, .r (eB v_r302), .c, .c, .c, .c, .r ((eI .i64) v_r303), .t false, .c, .c]) (by kernel_rfl) (by kernel_rfl) (by kernel_rfl) (.cons (df h410) (.cons (G_ringref2_EntryRead_1_ok n 0 v_w288 _ h416) (.cons (G_ringref2_EntryRead_1_ok n 1 v_w288 _ h417) (.cons (G_ringref2_EntryRead_1_ok n 2 v_w288 _ h418) (.cons (G_ringref2_EntryRead_1_ok n 3 v_w288 _ h419) (.cons (G_ringref2_EntryRead_1_ok n 4 v_w288 _ h420) (.cons (show (32 : Int) ≠ 0 by decide) (.cons (show (8 : Int) ≠ 0 by decide) (.cons (show (256 : Int) ≠ 0 by decide) (.cons (show 0 + 7 ≤ 7 by decide) (.cons (G_ringref2_Entries_ok n (S_entry_Entry.mk v_r298 v_r299 (quoI .i64 (wi .i64 v_w288) 256) (remI (quoI .i64 (wi .i64 v_w288) 32) 8) v_r300 v_r301 v_r302) _ h424) (.cons (nf h426) (.cons (show 0 + 7 ≤ 7 by decide) .nil)))))))))))))
    · rw [if_neg h426] at h
      obtain rfl := Option.some.inj h
      exact pend_sound TTok mix 19 (hs := [.c, .t false, .c, .r (eB v_r298), .c, .r (eB v_r299), .c, .r (eB v_r300), .c, .r (eB v_r301), .c, .r (eB v_r302), .c, .c, .c, .c, .r ((eI .i64) v_r303), .t true, .c]) (by kernel_rfl) (by kernel_rfl) (by kernel_rfl) (.cons (df h410) (.cons (G_ringref2_EntryRead_1_ok n 0 v_w288 _ h416) (.cons (G_ringref2_EntryRead_1_ok n 1 v_w288 _ h417) (.cons (G_ringref2_EntryRead_1_ok n 2 v_w288 _ h418) (.cons (G_ringref2_EntryRead_1_ok n 3 v_w288 _ h419) (.cons (G_ringref2_EntryRead_1_ok n 4 v_w288 _ h420) (.cons (show (32 : Int) ≠ 0 by decide) (.cons (show (8 : Int) ≠ 0 by decide) (.cons (show (256 : Int) ≠ 0 by decide) (.cons (show 0 + 7 ≤ 7 by decide) (.cons (G_ringref2_Entries_ok n (S_entry_Entry.mk v_r298 v_r299 (quoI .i64 (wi .i64 v_w288) 256) (remI (quoI .i64 (wi .i64 v_w288) 32) 8) v_r300 v_r301 v_r302) _ h424) (.cons (nt h426) (.cons (show 0 + 7 ≤ 7 by decide) .nil)))))))))))))
inductive G_ringref2_EntryWord_L1_R where
  | x0 (v_w332 : Int)
def G_ringref2_EntryWord_L1_ex : G_ringref2_EntryWord_L1_R → Ex
  | .x0 _ => .exit 0
def G_ringref2_EntryWord_L1_st (v_e323 : S_entry_Entry) : G_ringref2_EntryWord_L1_R → PS
  | .x0 v_w332 => ⟨[dd, dd, dd, .d (.v (.int .u32 v_w332)), dd, dd, dd, dd, dd, dd, dd, dd, dd, dd, dd, dd, dd, dd, dd, dd, dd, dd, dd, dd, dd, dd, dd, dd, dd, dd, dd, dd, dd, dd, dd, dd, dd], []⟩
def G_ringref2_EntryWord_L1_hd (v_e323 : S_entry_Entry) (v_w324 : Int) (v_x325 : Int) : PS := ⟨[dd, dd, dd, .d (.v (.int .u32 v_w324)), dd, dd, dd, dd, dd, dd, dd, dd, dd, dd, dd, dd, dd, dd, dd, dd, dd, dd, dd, dd, .d (.agg [.v (.bool v_e323.fHere), .v (.bool v_e323.fSlot), .v (.bool v_e323.fUsed), .v (.bool v_e323.fDirty), .v (.bool v_e323.fCopy)]), .d (.v (.int .i64 v_x325)), dd, dd, dd, dd, dd, dd, dd, dd, dd, dd, dd], []⟩
def G_ringref2_EntryWord_L1 (n : Nat) (v_e323 : S_entry_Entry) : Nat → Int → Int → Option G_ringref2_EntryWord_L1_R
  | 0, _, _ => none
  | k + 1, v_w324, v_x325 =>
    if v_x325 < 5 then
     (getA (fun i : Fin 5 => [v_e323.fHere, v_e323.fSlot, v_e323.fUsed, v_e323.fDirty, v_e323.fCopy].get i) v_x325).bind fun (v_y329 : Bool) =>
     if v_y329 = true then
      (G_ringref2_Power n v_x325).bind fun (v_r331 : (Int)) =>
      G_ringref2_EntryWord_L1 n v_e323 k (wi .u32 (v_w324 + (wi .u32 v_r331))) (wi .i64 (v_x325 + 1))
     else
      G_ringref2_EntryWord_L1 n v_e323 k v_w324 (wi .i64 (v_x325 + 1))
    else
     some (.x0 v_w324)
theorem G_ringref2_EntryWord_L1_ok {Fi : Ex → PS → Prop} (hF : KC 37 Fi) (ks : List Fr) (n : Nat) (v_e323 : S_entry_Entry)  : ∀ (k : Nat) (v_w324 : Int) (v_x325 : Int) (o : G_ringref2_EntryWord_L1_R), G_ringref2_EntryWord_L1 n v_e323 k v_w324 v_x325 = some o → RunE Try.prog 37 Fi ks (G_ringref2_EntryWord_L1_ex o) (G_ringref2_EntryWord_L1_st v_e323 o) → RunE Try.prog 37 Fi (.l k (cP (cB (cR (cL (cR (cR (bodyOf Try.f21))))))) :: ks) .normal (G_ringref2_EntryWord_L1_hd v_e323 v_w324 v_x325)
  | 0, v_w324, v_x325, o, h, q => by rw [G_ringref2_EntryWord_L1] at h; cases h
  | k + 1, v_w324, v_x325, o, h, q => by
    rw [G_ringref2_EntryWord_L1] at h
    by_cases h452 : v_x325 < 5
    · rw [if_pos h452] at h
      obtain ⟨v_y329, h458, h⟩ := bind_some h
      by_cases h461 : v_y329 = true
      · rw [if_pos h461] at h
        obtain ⟨v_r331, h462, h⟩ := bind_some h
        exact pkk_sound TTok mix hF 16 (hs := [.t true, .l (.d (.v (.bool v_y329))), .t true, .r ((eI .i64) v_r331)]) (ts := []) (s := []) (l := [3, 24, 25]) (by kernel_rfl) (by kernel_rfl) (.cons (dt h452) (.cons (getA_ob0 (fun x => FV.d (eB x)) h458) (.cons h461 (.cons (G_ringref2_Power_ok n v_x325 _ h462) .nil)))) (G_ringref2_EntryWord_L1_ok hF ks n v_e323 k (wi .u32 (v_w324 + (wi .u32 v_r331))) (wi .i64 (v_x325 + 1)) _ h q)
      · rw [if_neg h461] at h
        exact pkk_sound TTok mix hF 16 (hs := [.t true, .l (.d (.v (.bool v_y329))), .t false]) (ts := []) (s := []) (l := [3, 24, 25]) (by kernel_rfl) (by kernel_rfl) (.cons (dt h452) (.cons (getA_ob0 (fun x => FV.d (eB x)) h458) (.cons (vf h461) .nil))) (G_ringref2_EntryWord_L1_ok hF ks n v_e323 k v_w324 (wi .i64 (v_x325 + 1)) _ h q)
    · rw [if_neg h452] at h
      cases h
      exact pkk_sound TTok mix hF 8 (hs := [.t false]) (ts := []) (s := []) (l := [3]) (by kernel_rfl) (by kernel_rfl) (.cons (df h452) .nil) q
/- ringhall/ringref2.EntryWord -/
def G_ringref2_EntryWord (n : Nat) (v_e323 : S_entry_Entry) : Option (Int) :=
  (G_ringref2_EntryWord_L1 n v_e323 n (wi .u32 (wi .i64 ((wi .i64 (32 * v_e323.fRights)) + (wi .i64 (256 * v_e323.fAt))))) 0).bind fun v_o333 => match v_o333 with
  | .x0 v_z334 =>
    some v_z334
theorem G_ringref2_EntryWord_ok (n : Nat) (v_e323 : S_entry_Entry) (r : Int) (h : G_ringref2_EntryWord n v_e323 = some r) : Ret Try.prog 21 [eS_entry_Entry v_e323] ((eI .u32) r) := by
  refine ret_run (n := 37) (fn := Try.f21) (c := bodyOf Try.f21) (by kernel_rfl) (by kernel_rfl) (by kernel_rfl) (by kernel_rfl) ?_
  have hF : KC 37 (FinR Try.prog Try.f21 ((eI .u32) r)) := FinR.kc' (by kernel_rfl)
  unfold G_ringref2_EntryWord at h
  obtain ⟨v_o333, h463, h⟩ := bind_some h
  refine pkk_sound TTok mix hF 9 (hs := [.c, .c, .c, .c, .c, .c, .c, .n n]) (ts := []) (s := []) (l := [3, 24, 25]) (by kernel_rfl) (by kernel_rfl) .nil (G_ringref2_EntryWord_L1_ok hF (.b 0 :: .s (cR (cR (cR (bodyOf Try.f21)))) :: []) n v_e323 n (wi .u32 (wi .i64 ((wi .i64 (32 * v_e323.fRights)) + (wi .i64 (256 * v_e323.fAt))))) 0 _ h463 ?_)
  cases v_o333 with
  | x0 v_z334 =>
    dsimp only at h
    obtain rfl := Option.some.inj h
    exact pend_sound TTok mix 4 (hs := []) (by kernel_rfl) (by kernel_rfl) (by kernel_rfl) .nil
inductive G_ringlaw2_EntryTells_C1_R where
  | x0 (v_t276 : Bool)
def G_ringlaw2_EntryTells_C1_ex : G_ringlaw2_EntryTells_C1_R → Ex
  | .x0 _ => .normal
def G_ringlaw2_EntryTells_C1_st (v_t2 : Int) (v_t3 : Int) (v_r191 : (Int × Int)) (v_r194 : (S_entry_Entry × Int)) (v_r212 : (S_entry_Entry × Int)) (v_r244 : (Int)) (v_t1 : S_entry_Entry) : G_ringlaw2_EntryTells_C1_R → PS
  | .x0 v_t276 => ⟨[dd, .d (.v (.int .u32 v_t2)), .d (.v (.int .i64 v_t3)), .ref 0 0, dd, dd, dd, .d (.v (.int .u32 v_r191.1)), .d (.v (.int .i64 v_r191.2)), .ref 1 0, .d (.v (.int .i64 v_r194.2)), .ref 2 0, .d (.v (.int .i64 v_r212.2)), .d (.v (.int .i64 v_r244)), dd, dd, dd, dd, dd, dd, dd, dd, dd, dd, dd, dd, dd, dd, dd, dd, dd, dd, dd, dd, dd, dd, dd, dd, dd, dd, dd, dd, dd, dd, dd, dd, dd, dd, dd, dd, dd, dd, dd, dd, dd, dd, dd, dd, dd, dd, .d (.v (.bool v_t276)), dd, dd, dd, dd, dd, dd, dd, dd, dd, dd, dd, dd, dd, dd, dd, dd, dd, dd, dd, dd, dd, dd, dd, dd, dd, dd, dd, dd, dd, dd, dd, dd, dd, dd, dd, dd, dd, dd, dd, dd, dd, dd, dd, dd, dd, dd, dd, dd, dd, dd, dd, dd, dd, dd, dd, dd, dd, dd, dd, dd, dd, dd, dd, dd, dd, dd, dd, dd, dd, dd, dd, dd, dd, dd, dd, dd, dd, dd], [.box [.d (.v (.bool v_t1.fHere)), .d (.v (.bool v_t1.fSlot)), .d (.v (.int .i64 v_t1.fAt)), .d (.v (.int .i64 v_t1.fRights)), .d (.v (.bool v_t1.fUsed)), .d (.v (.bool v_t1.fDirty)), .d (.v (.bool v_t1.fCopy))], .box [.d (.v (.bool v_r194.1.fHere)), .d (.v (.bool v_r194.1.fSlot)), .d (.v (.int .i64 v_r194.1.fAt)), .d (.v (.int .i64 v_r194.1.fRights)), .d (.v (.bool v_r194.1.fUsed)), .d (.v (.bool v_r194.1.fDirty)), .d (.v (.bool v_r194.1.fCopy))], .box [.d (.v (.bool v_r212.1.fHere)), .d (.v (.bool v_r212.1.fSlot)), .d (.v (.int .i64 v_r212.1.fAt)), .d (.v (.int .i64 v_r212.1.fRights)), .d (.v (.bool v_r212.1.fUsed)), .d (.v (.bool v_r212.1.fDirty)), .d (.v (.bool v_r212.1.fCopy))]]⟩
def G_ringlaw2_EntryTells_C1_hd (v_t2 : Int) (v_t3 : Int) (v_r191 : (Int × Int)) (v_r194 : (S_entry_Entry × Int)) (v_r212 : (S_entry_Entry × Int)) (v_r244 : (Int)) (v_t1 : S_entry_Entry)  : PS := ⟨[dd, .d (.v (.int .u32 v_t2)), .d (.v (.int .i64 v_t3)), .ref 0 0, dd, dd, dd, .d (.v (.int .u32 v_r191.1)), .d (.v (.int .i64 v_r191.2)), .ref 1 0, .d (.v (.int .i64 v_r194.2)), .ref 2 0, .d (.v (.int .i64 v_r212.2)), .d (.v (.int .i64 v_r244)), dd, dd, dd, dd, dd, dd, dd, dd, dd, dd, dd, dd, dd, dd, dd, dd, dd, dd, dd, dd, dd, dd, dd, dd, dd, dd, dd, dd, dd, dd, dd, dd, dd, dd, dd, dd, dd, dd, dd, dd, dd, dd, dd, dd, dd, dd, dd, dd, dd, dd, dd, dd, dd, dd, dd, dd, dd, dd, dd, dd, dd, dd, dd, dd, dd, dd, dd, dd, dd, dd, dd, dd, dd, dd, dd, dd, dd, dd, dd, dd, dd, dd, dd, dd, dd, dd, dd, dd, dd, dd, dd, dd, dd, dd, dd, dd, dd, dd, dd, dd, dd, dd, dd, dd, dd, dd, dd, dd, dd, dd, dd, dd, dd, dd, dd, dd, dd, dd, dd, dd, dd, dd, dd, dd, dd], [.box [.d (.v (.bool v_t1.fHere)), .d (.v (.bool v_t1.fSlot)), .d (.v (.int .i64 v_t1.fAt)), .d (.v (.int .i64 v_t1.fRights)), .d (.v (.bool v_t1.fUsed)), .d (.v (.bool v_t1.fDirty)), .d (.v (.bool v_t1.fCopy))], .box [.d (.v (.bool v_r194.1.fHere)), .d (.v (.bool v_r194.1.fSlot)), .d (.v (.int .i64 v_r194.1.fAt)), .d (.v (.int .i64 v_r194.1.fRights)), .d (.v (.bool v_r194.1.fUsed)), .d (.v (.bool v_r194.1.fDirty)), .d (.v (.bool v_r194.1.fCopy))], .box [.d (.v (.bool v_r212.1.fHere)), .d (.v (.bool v_r212.1.fSlot)), .d (.v (.int .i64 v_r212.1.fAt)), .d (.v (.int .i64 v_r212.1.fRights)), .d (.v (.bool v_r212.1.fUsed)), .d (.v (.bool v_r212.1.fDirty)), .d (.v (.bool v_r212.1.fCopy))]]⟩
def G_ringlaw2_EntryTells_C1 (n : Nat) (v_t2 : Int) (v_t3 : Int) (v_r191 : (Int × Int)) (v_r194 : (S_entry_Entry × Int)) (v_r212 : (S_entry_Entry × Int)) (v_r244 : (Int)) (v_t1 : S_entry_Entry) : Option G_ringlaw2_EntryTells_C1_R :=
  (G_entry_Check n v_t1).bind fun (v_r275 : (Int)) =>
  if v_r275 = v_r244 then
   (G_entry_None n v_t1).bind fun (v_r277 : (Bool)) =>
   if v_t1.fHere = true then
    if (eqRes .neq (v_r277 == false)) = true then
     some (.x0 true)
    else
     (G_entry_May n v_t1 v_t3).bind fun (v_r283 : (Bool)) =>
     (G_ringref2_EntryMay n v_t1 v_t3).bind fun (v_r284 : (Bool)) =>
     some (.x0 (eqRes .neq (v_r283 == v_r284)))
   else
    if (eqRes .neq (v_r277 == (!v_t1.fSlot))) = true then
     some (.x0 true)
    else
     (G_entry_May n v_t1 v_t3).bind fun (v_r279 : (Bool)) =>
     (G_ringref2_EntryMay n v_t1 v_t3).bind fun (v_r280 : (Bool)) =>
     some (.x0 (eqRes .neq (v_r279 == v_r280)))
  else
   some (.x0 true)
theorem G_ringlaw2_EntryTells_C1_ok {Fi : Ex → PS → Prop} (hF : KC 139 Fi) (ks : List Fr) (n : Nat) (v_t2 : Int) (v_t3 : Int) (v_r191 : (Int × Int)) (v_r194 : (S_entry_Entry × Int)) (v_r212 : (S_entry_Entry × Int)) (v_r244 : (Int)) (v_t1 : S_entry_Entry)  (o : G_ringlaw2_EntryTells_C1_R) (h : G_ringlaw2_EntryTells_C1 n v_t2 v_t3 v_r191 v_r194 v_r212 v_r244 v_t1 = some o) (q : RunE Try.prog 139 Fi ks (G_ringlaw2_EntryTells_C1_ex o) (G_ringlaw2_EntryTells_C1_st v_t2 v_t3 v_r191 v_r194 v_r212 v_r244 v_t1 o)) : RunE Try.prog 139 Fi (.s (cL (cL (cR (cR (cR (cR (cR (bodyOf Try.f4)))))))) :: ks) .normal (G_ringlaw2_EntryTells_C1_hd v_t2 v_t3 v_r191 v_r194 v_r212 v_r244 v_t1) := by
  unfold G_ringlaw2_EntryTells_C1 at h
  obtain ⟨v_r275, h397, h⟩ := bind_some h
  by_cases h398 : v_r275 = v_r244
  · rw [if_pos h398] at h
    obtain ⟨v_r277, h399, h⟩ := bind_some h
    by_cases h400 : v_t1.fHere = true
    · rw [if_pos h400] at h
      by_cases h404 : (eqRes .neq (v_r277 == false)) = true
      · rw [if_pos h404] at h
        cases h
        exact pkk_sound TTok mix hF 1 (hs := [.c, .r ((eI .i64) v_r275), .t false, .c, .c, .r (eB v_r277), .c, .c, .c, .c, .c, .t false, .c, .c, .c, .c, .t true, .c, .c, .c, .c, .c, .c]) (ts := []) (s := [0, 1, 2]) (l := [1, 2, 3, 7, 8, 9, 10, 11, 12, 13, 60]) (by kernel_rfl) (by kernel_rfl) (.cons (G_entry_Check_ok n v_t1 _ h397) (.cons (nf h398) (.cons (G_entry_None_ok n v_t1 _ h399) (.cons (bnf h400) (.cons h404 .nil))))) q
      · rw [if_neg h404] at h
        obtain ⟨v_r283, h405, h⟩ := bind_some h
        obtain ⟨v_r284, h406, h⟩ := bind_some h
        cases h
        exact pkk_sound TTok mix hF 1 (hs := [.c, .r ((eI .i64) v_r275), .t false, .c, .c, .r (eB v_r277), .c, .c, .c, .c, .c, .t false, .c, .c, .c, .c, .t false, .c, .c, .c, .r (eB v_r283), .c, .c, .c, .c, .r (eB v_r284), .c]) (ts := []) (s := [0, 1, 2]) (l := [1, 2, 3, 7, 8, 9, 10, 11, 12, 13, 60]) (by kernel_rfl) (by kernel_rfl) (.cons (G_entry_Check_ok n v_t1 _ h397) (.cons (nf h398) (.cons (G_entry_None_ok n v_t1 _ h399) (.cons (bnf h400) (.cons (vf h404) (.cons (G_entry_May_ok n v_t1 v_t3 _ h405) (.cons (G_ringref2_EntryMay_ok n v_t1 v_t3 _ h406) .nil))))))) q
    · rw [if_neg h400] at h
      by_cases h401 : (eqRes .neq (v_r277 == (!v_t1.fSlot))) = true
      · rw [if_pos h401] at h
        cases h
        exact pkk_sound TTok mix hF 1 (hs := [.c, .r ((eI .i64) v_r275), .t false, .c, .c, .r (eB v_r277), .c, .c, .c, .c, .c, .t true, .c, .c, .c, .c, .c, .t true, .c, .c, .c, .c, .c, .c]) (ts := []) (s := [0, 1, 2]) (l := [1, 2, 3, 7, 8, 9, 10, 11, 12, 13, 60]) (by kernel_rfl) (by kernel_rfl) (.cons (G_entry_Check_ok n v_t1 _ h397) (.cons (nf h398) (.cons (G_entry_None_ok n v_t1 _ h399) (.cons (bnt (vf h400)) (.cons h401 .nil))))) q
      · rw [if_neg h401] at h
        obtain ⟨v_r279, h402, h⟩ := bind_some h
        obtain ⟨v_r280, h403, h⟩ := bind_some h
        cases h
        exact pkk_sound TTok mix hF 1 (hs := [.c, .r ((eI .i64) v_r275), .t false, .c, .c, .r (eB v_r277), .c, .c, .c, .c, .c, .t true, .c, .c, .c, .c, .c, .t false, .c, .c, .c, .r (eB v_r279), .c, .c, .c, .c, .r (eB v_r280), .c]) (ts := []) (s := [0, 1, 2]) (l := [1, 2, 3, 7, 8, 9, 10, 11, 12, 13, 60]) (by kernel_rfl) (by kernel_rfl) (.cons (G_entry_Check_ok n v_t1 _ h397) (.cons (nf h398) (.cons (G_entry_None_ok n v_t1 _ h399) (.cons (bnt (vf h400)) (.cons (vf h401) (.cons (G_entry_May_ok n v_t1 v_t3 _ h402) (.cons (G_ringref2_EntryMay_ok n v_t1 v_t3 _ h403) .nil))))))) q
  · rw [if_neg h398] at h
    cases h
    exact pkk_sound TTok mix hF 1 (hs := [.c, .r ((eI .i64) v_r275), .t true, .c, .c, .c, .c, .c, .c, .c, .c, .c, .c, .c, .c, .c, .c]) (ts := []) (s := [0, 1, 2]) (l := [1, 2, 3, 7, 8, 9, 10, 11, 12, 13, 60]) (by kernel_rfl) (by kernel_rfl) (.cons (G_entry_Check_ok n v_t1 _ h397) (.cons (nt h398) .nil)) q
inductive G_ringlaw2_EntryTells_C2_R where
  | x0 (v_t305 : Bool)
def G_ringlaw2_EntryTells_C2_ex : G_ringlaw2_EntryTells_C2_R → Ex
  | .x0 _ => .normal
def G_ringlaw2_EntryTells_C2_st (v_t3 : Int) (v_r191 : (Int × Int)) (v_r194 : (S_entry_Entry × Int)) (v_r212 : (S_entry_Entry × Int)) (v_r244 : (Int)) (v_r304 : (S_entry_Entry × Bool)) (v_t1 : S_entry_Entry) : G_ringlaw2_EntryTells_C2_R → PS
  | .x0 v_t305 => ⟨[dd, dd, .d (.v (.int .i64 v_t3)), .ref 0 0, dd, dd, dd, .d (.v (.int .u32 v_r191.1)), .d (.v (.int .i64 v_r191.2)), dd, dd, .ref 1 0, .d (.v (.int .i64 v_r212.2)), .d (.v (.int .i64 v_r244)), dd, dd, dd, dd, dd, dd, dd, dd, dd, dd, dd, dd, dd, dd, dd, dd, dd, dd, dd, dd, dd, dd, dd, dd, dd, dd, dd, dd, dd, dd, dd, dd, dd, dd, dd, dd, dd, dd, dd, dd, dd, dd, dd, dd, dd, dd, dd, dd, dd, dd, dd, dd, dd, dd, dd, dd, dd, dd, dd, dd, dd, dd, dd, dd, dd, dd, dd, dd, dd, .d (.v (.bool v_t305)), dd, dd, dd, dd, dd, dd, dd, dd, dd, dd, dd, dd, dd, dd, dd, dd, dd, dd, dd, dd, dd, dd, dd, dd, dd, dd, dd, dd, dd, dd, dd, dd, dd, dd, dd, dd, dd, dd, dd, dd, dd, dd, dd, dd, dd, dd, dd, dd, dd, dd, dd, dd, dd, dd, dd], [.box [.d (.v (.bool v_t1.fHere)), .d (.v (.bool v_t1.fSlot)), .d (.v (.int .i64 v_t1.fAt)), .d (.v (.int .i64 v_t1.fRights)), .d (.v (.bool v_t1.fUsed)), .d (.v (.bool v_t1.fDirty)), .d (.v (.bool v_t1.fCopy))], .box [.d (.v (.bool v_r212.1.fHere)), .d (.v (.bool v_r212.1.fSlot)), .d (.v (.int .i64 v_r212.1.fAt)), .d (.v (.int .i64 v_r212.1.fRights)), .d (.v (.bool v_r212.1.fUsed)), .d (.v (.bool v_r212.1.fDirty)), .d (.v (.bool v_r212.1.fCopy))]]⟩
def G_ringlaw2_EntryTells_C2_hd (v_t3 : Int) (v_r191 : (Int × Int)) (v_r194 : (S_entry_Entry × Int)) (v_r212 : (S_entry_Entry × Int)) (v_r244 : (Int)) (v_r304 : (S_entry_Entry × Bool)) (v_t1 : S_entry_Entry)  : PS := ⟨[dd, dd, .d (.v (.int .i64 v_t3)), .ref 0 0, dd, dd, dd, .d (.v (.int .u32 v_r191.1)), .d (.v (.int .i64 v_r191.2)), .ref 1 0, .d (.v (.int .i64 v_r194.2)), .ref 2 0, .d (.v (.int .i64 v_r212.2)), .d (.v (.int .i64 v_r244)), .ref 3 0, .d (.v (.bool v_r304.2)), dd, dd, dd, dd, dd, dd, dd, dd, dd, dd, dd, dd, dd, dd, dd, dd, dd, dd, dd, dd, dd, dd, dd, dd, dd, dd, dd, dd, dd, dd, dd, dd, dd, dd, dd, dd, dd, dd, dd, dd, dd, dd, dd, dd, dd, dd, dd, dd, dd, dd, dd, dd, dd, dd, dd, dd, dd, dd, dd, dd, dd, dd, dd, dd, dd, dd, dd, dd, dd, dd, dd, dd, dd, dd, dd, dd, dd, dd, dd, dd, dd, dd, dd, dd, dd, dd, dd, dd, dd, dd, dd, dd, dd, dd, dd, dd, dd, dd, dd, dd, dd, dd, dd, dd, dd, dd, dd, dd, dd, dd, dd, dd, dd, dd, dd, dd, dd, dd, dd, dd, dd, dd, dd], [.box [.d (.v (.bool v_t1.fHere)), .d (.v (.bool v_t1.fSlot)), .d (.v (.int .i64 v_t1.fAt)), .d (.v (.int .i64 v_t1.fRights)), .d (.v (.bool v_t1.fUsed)), .d (.v (.bool v_t1.fDirty)), .d (.v (.bool v_t1.fCopy))], .box [.d (.v (.bool v_r194.1.fHere)), .d (.v (.bool v_r194.1.fSlot)), .d (.v (.int .i64 v_r194.1.fAt)), .d (.v (.int .i64 v_r194.1.fRights)), .d (.v (.bool v_r194.1.fUsed)), .d (.v (.bool v_r194.1.fDirty)), .d (.v (.bool v_r194.1.fCopy))], .box [.d (.v (.bool v_r212.1.fHere)), .d (.v (.bool v_r212.1.fSlot)), .d (.v (.int .i64 v_r212.1.fAt)), .d (.v (.int .i64 v_r212.1.fRights)), .d (.v (.bool v_r212.1.fUsed)), .d (.v (.bool v_r212.1.fDirty)), .d (.v (.bool v_r212.1.fCopy))], .box [.d (.v (.bool v_r304.1.fHere)), .d (.v (.bool v_r304.1.fSlot)), .d (.v (.int .i64 v_r304.1.fAt)), .d (.v (.int .i64 v_r304.1.fRights)), .d (.v (.bool v_r304.1.fUsed)), .d (.v (.bool v_r304.1.fDirty)), .d (.v (.bool v_r304.1.fCopy))]]⟩
def G_ringlaw2_EntryTells_C2 (n : Nat) (v_t3 : Int) (v_r191 : (Int × Int)) (v_r194 : (S_entry_Entry × Int)) (v_r212 : (S_entry_Entry × Int)) (v_r244 : (Int)) (v_r304 : (S_entry_Entry × Bool)) (v_t1 : S_entry_Entry) : Option G_ringlaw2_EntryTells_C2_R :=
  if (eqRes .neq (eqS_entry_Entry v_r194.1 v_r304.1)) = true then
   some (.x0 true)
  else
   if v_r304.2 = true then
    if v_r194.2 = 0 then
     some (.x0 false)
    else
     some (.x0 true)
   else
    some (.x0 (v_r194.2 != 3))
theorem G_ringlaw2_EntryTells_C2_ok {Fi : Ex → PS → Prop} (hF : KC 139 Fi) (ks : List Fr) (n : Nat) (v_t3 : Int) (v_r191 : (Int × Int)) (v_r194 : (S_entry_Entry × Int)) (v_r212 : (S_entry_Entry × Int)) (v_r244 : (Int)) (v_r304 : (S_entry_Entry × Bool)) (v_t1 : S_entry_Entry)  (o : G_ringlaw2_EntryTells_C2_R) (h : G_ringlaw2_EntryTells_C2 n v_t3 v_r191 v_r194 v_r212 v_r244 v_r304 v_t1 = some o) (q : RunE Try.prog 139 Fi ks (G_ringlaw2_EntryTells_C2_ex o) (G_ringlaw2_EntryTells_C2_st v_t3 v_r191 v_r194 v_r212 v_r244 v_r304 v_t1 o)) : RunE Try.prog 139 Fi (.s (cL (cR (cL (cR (cR (cR (cR (cR (cR (bodyOf Try.f4)))))))))) :: ks) .normal (G_ringlaw2_EntryTells_C2_hd v_t3 v_r191 v_r194 v_r212 v_r244 v_r304 v_t1) := by
  unfold G_ringlaw2_EntryTells_C2 at h
  by_cases h431 : (eqRes .neq (eqS_entry_Entry v_r194.1 v_r304.1)) = true
  · rw [if_pos h431] at h
    cases h
    exact pkk_sound TTok mix hF 1 (hs := [.c, .c, .q (eqS_entry_Entry v_r194.1 v_r304.1), .t true, .c, .c, .c, .c, .c, .c]) (ts := []) (s := [0, 2]) (l := [2, 3, 7, 8, 11, 12, 13, 83]) (by kernel_rfl) (by kernel_rfl) (.cons (eqS_entry_Entry_ok v_r194.1 v_r304.1) (.cons h431 .nil)) q
  · rw [if_neg h431] at h
    by_cases h432 : v_r304.2 = true
    · rw [if_pos h432] at h
      by_cases h433 : v_r194.2 = 0
      · rw [if_pos h433] at h
        cases h
        exact pkk_sound TTok mix hF 1 (hs := [.c, .c, .q (eqS_entry_Entry v_r194.1 v_r304.1), .t false, .c, .t true, .c, .c, .t false, .c, .c, .t false, .c, .c]) (ts := []) (s := [0, 2]) (l := [2, 3, 7, 8, 11, 12, 13, 83]) (by kernel_rfl) (by kernel_rfl) (.cons (eqS_entry_Entry_ok v_r194.1 v_r304.1) (.cons (vf h431) (.cons h432 (.cons (nf h433) (.cons (bnf h432) .nil))))) q
      · rw [if_neg h433] at h
        cases h
        exact pkk_sound TTok mix hF 1 (hs := [.c, .c, .q (eqS_entry_Entry v_r194.1 v_r304.1), .t false, .c, .t true, .c, .c, .t true, .c, .c, .c]) (ts := []) (s := [0, 2]) (l := [2, 3, 7, 8, 11, 12, 13, 83]) (by kernel_rfl) (by kernel_rfl) (.cons (eqS_entry_Entry_ok v_r194.1 v_r304.1) (.cons (vf h431) (.cons h432 (.cons (nt h433) .nil)))) q
    · rw [if_neg h432] at h
      cases h
      exact pkk_sound TTok mix hF 1 (hs := [.c, .c, .q (eqS_entry_Entry v_r194.1 v_r304.1), .t false, .c, .t false, .c, .c, .c, .c, .c, .t true, .c, .c]) (ts := []) (s := [0, 2]) (l := [2, 3, 7, 8, 11, 12, 13, 83]) (by kernel_rfl) (by kernel_rfl) (.cons (eqS_entry_Entry_ok v_r194.1 v_r304.1) (.cons (vf h431) (.cons (vf h432) (.cons (bnt (vf h432)) .nil)))) q
inductive G_ringlaw2_EntryTells_C3_R where
  | x0 (v_t317 : Bool)
def G_ringlaw2_EntryTells_C3_ex : G_ringlaw2_EntryTells_C3_R → Ex
  | .x0 _ => .normal
def G_ringlaw2_EntryTells_C3_st (v_r191 : (Int × Int)) (v_r212 : (S_entry_Entry × Int)) (v_r244 : (Int)) : G_ringlaw2_EntryTells_C3_R → PS
  | .x0 v_t317 => ⟨[dd, dd, dd, dd, dd, dd, .d (.v (.bool v_t317)), dd, dd, dd, dd, dd, dd, dd, dd, dd, dd, dd, dd, dd, dd, dd, dd, dd, dd, dd, dd, dd, dd, dd, dd, dd, dd, dd, dd, dd, dd, dd, dd, dd, dd, dd, dd, dd, dd, dd, dd, dd, dd, dd, dd, dd, dd, dd, dd, dd, dd, dd, dd, dd, dd, dd, dd, dd, dd, dd, dd, dd, dd, dd, dd, dd, dd, dd, dd, dd, dd, dd, dd, dd, dd, dd, dd, dd, dd, dd, dd, dd, dd, dd, dd, dd, dd, dd, dd, dd, dd, dd, dd, dd, dd, dd, dd, dd, dd, dd, dd, dd, dd, dd, dd, dd, dd, dd, dd, dd, dd, dd, dd, dd, dd, dd, dd, dd, dd, dd, dd, dd, dd, dd, dd, dd, dd, dd, dd, dd, dd, dd, dd], []⟩
def G_ringlaw2_EntryTells_C3_hd (v_r191 : (Int × Int)) (v_r212 : (S_entry_Entry × Int)) (v_r244 : (Int))  : PS := ⟨[dd, dd, dd, dd, dd, dd, dd, .d (.v (.int .u32 v_r191.1)), .d (.v (.int .i64 v_r191.2)), dd, dd, .ref 0 0, .d (.v (.int .i64 v_r212.2)), .d (.v (.int .i64 v_r244)), dd, dd, dd, dd, dd, dd, dd, dd, dd, dd, dd, dd, dd, dd, dd, dd, dd, dd, dd, dd, dd, dd, dd, dd, dd, dd, dd, dd, dd, dd, dd, dd, dd, dd, dd, dd, dd, dd, dd, dd, dd, dd, dd, dd, dd, dd, dd, dd, dd, dd, dd, dd, dd, dd, dd, dd, dd, dd, dd, dd, dd, dd, dd, dd, dd, dd, dd, dd, dd, dd, dd, dd, dd, dd, dd, dd, dd, dd, dd, dd, dd, dd, dd, dd, dd, dd, dd, dd, dd, dd, dd, dd, dd, dd, dd, dd, dd, dd, dd, dd, dd, dd, dd, dd, dd, dd, dd, dd, dd, dd, dd, dd, dd, dd, dd, dd, dd, dd, dd, dd, dd, dd, dd, dd, dd], [.box [.d (.v (.bool v_r212.1.fHere)), .d (.v (.bool v_r212.1.fSlot)), .d (.v (.int .i64 v_r212.1.fAt)), .d (.v (.int .i64 v_r212.1.fRights)), .d (.v (.bool v_r212.1.fUsed)), .d (.v (.bool v_r212.1.fDirty)), .d (.v (.bool v_r212.1.fCopy))]]⟩
def G_ringlaw2_EntryTells_C3 (n : Nat) (v_r191 : (Int × Int)) (v_r212 : (S_entry_Entry × Int)) (v_r244 : (Int)) : Option G_ringlaw2_EntryTells_C3_R :=
  if v_r191.1 = 0 then
   if v_r191.2 = v_r244 then
    if (eqRes .eql (eqS_entry_Entry v_r212.1 (S_entry_Entry.mk false false 0 0 false false false))) = true then
     some (.x0 (v_r212.2 == v_r244))
    else
     some (.x0 false)
   else
    some (.x0 false)
  else
   some (.x0 false)
theorem G_ringlaw2_EntryTells_C3_ok {Fi : Ex → PS → Prop} (hF : KC 139 Fi) (ks : List Fr) (n : Nat) (v_r191 : (Int × Int)) (v_r212 : (S_entry_Entry × Int)) (v_r244 : (Int))  (o : G_ringlaw2_EntryTells_C3_R) (h : G_ringlaw2_EntryTells_C3 n v_r191 v_r212 v_r244 = some o) (q : RunE Try.prog 139 Fi ks (G_ringlaw2_EntryTells_C3_ex o) (G_ringlaw2_EntryTells_C3_st v_r191 v_r212 v_r244 o)) : RunE Try.prog 139 Fi (.s (cL (cT (cR (cL (cR (cR (cR (cR (cR (cR (cR (bodyOf Try.f4)))))))))))) :: ks) .normal (G_ringlaw2_EntryTells_C3_hd v_r191 v_r212 v_r244) := by
  unfold G_ringlaw2_EntryTells_C3 at h
  by_cases h448 : v_r191.1 = 0
  · rw [if_pos h448] at h
    by_cases h449 : v_r191.2 = v_r244
    · rw [if_pos h449] at h
      by_cases h450 : (eqRes .eql (eqS_entry_Entry v_r212.1 (S_entry_Entry.mk false false 0 0 false false false))) = true
      · rw [if_pos h450] at h
        cases h
        exact pkk_sound TTok mix hF 1 (hs := [.t true, .c, .c, .t true, .c, .c, .c, .q (eqS_entry_Entry v_r212.1 (S_entry_Entry.mk false false 0 0 false false false)), .t true, .c, .c]) (ts := []) (s := []) (l := [6]) (by kernel_rfl) (by kernel_rfl) (.cons (bt h448) (.cons (bt h449) (.cons (eqS_entry_Entry_ok v_r212.1 (S_entry_Entry.mk false false 0 0 false false false)) (.cons h450 .nil)))) q
      · rw [if_neg h450] at h
        cases h
        exact pkk_sound TTok mix hF 1 (hs := [.t true, .c, .c, .t true, .c, .c, .c, .q (eqS_entry_Entry v_r212.1 (S_entry_Entry.mk false false 0 0 false false false)), .t false, .c, .c]) (ts := []) (s := []) (l := [6]) (by kernel_rfl) (by kernel_rfl) (.cons (bt h448) (.cons (bt h449) (.cons (eqS_entry_Entry_ok v_r212.1 (S_entry_Entry.mk false false 0 0 false false false)) (.cons (vf h450) .nil)))) q
    · rw [if_neg h449] at h
      cases h
      exact pkk_sound TTok mix hF 1 (hs := [.t true, .c, .c, .t false, .c, .c, .c, .c, .c]) (ts := []) (s := []) (l := [6]) (by kernel_rfl) (by kernel_rfl) (.cons (bt h448) (.cons (bf h449) .nil)) q
  · rw [if_neg h448] at h
    cases h
    exact pkk_sound TTok mix hF 1 (hs := [.t false, .c, .c, .c, .c, .c, .c, .c, .c]) (ts := []) (s := []) (l := [6]) (by kernel_rfl) (by kernel_rfl) (.cons (bf h448) .nil) q
/- ringhall/ringlaw2.EntryTells -/
def G_ringlaw2_EntryTells (n : Nat) (v_t1 : S_entry_Entry) (v_t2 : Int) (v_t3 : Int) : Option (Bool) :=
  (G_entry_Word n v_t1).bind fun (v_r191 : (Int × Int)) =>
  (G_entry_Read n v_t2).bind fun (v_r194 : (S_entry_Entry × Int)) =>
  (G_entry_Touch n v_t1 v_t3).bind fun (v_r212 : (S_entry_Entry × Int)) =>
  (G_ringref2_Entries n v_t1).bind fun (v_r244 : (Int)) =>
  (G_ringlaw2_EntryTells_C1 n v_t2 v_t3 v_r191 v_r194 v_r212 v_r244 v_t1).bind fun v_o286 => match v_o286 with
  | .x0 v_z287 =>
    if v_z287 = true then
     some false
    else
     (G_ringref2_EntryRead n v_t2).bind fun (v_r304 : (S_entry_Entry × Bool)) =>
     (G_ringlaw2_EntryTells_C2 n v_t3 v_r191 v_r194 v_r212 v_r244 v_r304 v_t1).bind fun v_o309 => match v_o309 with
     | .x0 v_z310 =>
       if v_z310 = true then
        some false
       else
        if v_r244 = 0 then
         (G_ringref2_EntryWord n v_t1).bind fun (v_r335 : (Int)) =>
         if v_r191.1 = v_r335 then
          if v_r191.2 = 0 then
           (G_ringref2_EntryMay n v_t1 v_t3).bind fun (v_r336 : (Bool)) =>
           if v_r336 = true then
            if v_t1.fDirty = true then
             if (eqRes .eql (eqS_entry_Entry v_r212.1 (S_entry_Entry.mk v_t1.fHere v_t1.fSlot v_t1.fAt v_t1.fRights true true v_t1.fCopy))) = true then
              some (v_r212.2 == 0)
             else
              some false
            else
             (G_ringref2_Has n 5 v_t3).bind fun (v_r337 : (Bool)) =>
             if (eqRes .eql (eqS_entry_Entry v_r212.1 (S_entry_Entry.mk v_t1.fHere v_t1.fSlot v_t1.fAt v_t1.fRights true (!v_r337) v_t1.fCopy))) = true then
              some (v_r212.2 == 0)
             else
              some false
           else
            if (eqRes .eql (eqS_entry_Entry v_r212.1 (S_entry_Entry.mk false false 0 0 false false false))) = true then
             some (v_r212.2 == 11)
            else
             some false
          else
           some false
         else
          some false
        else
         (G_ringlaw2_EntryTells_C3 n v_r191 v_r212 v_r244).bind fun v_o321 => match v_o321 with
         | .x0 v_z322 =>
           some v_z322
theorem G_ringlaw2_EntryTells_ok (n : Nat) (v_t1 : S_entry_Entry) (v_t2 : Int) (v_t3 : Int) (r : Bool) (h : G_ringlaw2_EntryTells n v_t1 v_t2 v_t3 = some r) : Ret Try.prog 4 [eS_entry_Entry v_t1, (eI .u32) v_t2, (eI .i64) v_t3] (eB r) := by
  refine ret_run (n := 139) (fn := Try.f4) (c := bodyOf Try.f4) (by kernel_rfl) (by kernel_rfl) (by kernel_rfl) (by kernel_rfl) ?_
  have hF : KC 139 (FinR Try.prog Try.f4 (eB r)) := FinR.kc' (by kernel_rfl)
  unfold G_ringlaw2_EntryTells at h
  obtain ⟨v_r191, h269, h⟩ := bind_some h
  obtain ⟨v_r194, h275, h⟩ := bind_some h
  obtain ⟨v_r212, h298, h⟩ := bind_some h
  obtain ⟨v_r244, h339, h⟩ := bind_some h
  obtain ⟨v_o286, h407, h⟩ := bind_some h
  refine pkk_sound TTok mix hF 12 (hs := [.c, .r (.tup [(eI .u32) v_r191.1, (eI .i64) v_r191.2]), .r (.tup [eS_entry_Entry v_r194.1, (eI .i64) v_r194.2]), .c, .c, .r (.tup [eS_entry_Entry v_r212.1, (eI .i64) v_r212.2]), .c, .c, .r ((eI .i64) v_r244)]) (ts := []) (s := [0, 14, 23]) (l := [1, 2, 3, 7, 8, 9, 10, 11, 12, 13]) (by kernel_rfl) (by kernel_rfl) (.cons (G_entry_Word_ok n v_t1 _ h269) (.cons (G_entry_Read_ok n v_t2 _ h275) (.cons (show 0 + 7 ≤ 7 by decide) (.cons (G_entry_Touch_ok n v_t1 v_t3 _ h298) (.cons (show 0 + 7 ≤ 7 by decide) (.cons (G_ringref2_Entries_ok n v_t1 _ h339) .nil)))))) (G_ringlaw2_EntryTells_C1_ok hF (.s (cR (cL (cR (cR (cR (cR (cR (bodyOf Try.f4)))))))) :: .s (cR (cR (cR (cR (cR (cR (bodyOf Try.f4))))))) :: []) n v_t2 v_t3 v_r191 v_r194 v_r212 v_r244 v_t1 _ h407 ?_)
  cases v_o286 with
  | x0 v_z287 =>
    dsimp only at h
    by_cases h408 : v_z287 = true
    · rw [if_pos h408] at h
      obtain rfl := Option.some.inj h
      exact pend_sound TTok mix 5 (hs := [.t true]) (by kernel_rfl) (by kernel_rfl) (by kernel_rfl) (.cons h408 .nil)
    · rw [if_neg h408] at h
      obtain ⟨v_r304, h427, h⟩ := bind_some h
      obtain ⟨v_o309, h434, h⟩ := bind_some h
      refine pkk_sound TTok mix hF 6 (hs := [.t false, .r (.tup [eS_entry_Entry v_r304.1, eB v_r304.2]), .c]) (ts := []) (s := [0, 1, 2, 8]) (l := [2, 3, 7, 8, 9, 10, 11, 12, 13, 14, 15]) (by kernel_rfl) (by kernel_rfl) (.cons (vf h408) (.cons (G_ringref2_EntryRead_ok n v_t2 _ h427) (.cons (show 0 + 7 ≤ 7 by decide) .nil))) (G_ringlaw2_EntryTells_C2_ok hF (.s (cR (cR (cL (cR (cR (cR (cR (cR (cR (bodyOf Try.f4)))))))))) :: .s (cR (cR (cR (cR (cR (cR (cR (bodyOf Try.f4)))))))) :: []) n v_t3 v_r191 v_r194 v_r212 v_r244 v_r304 v_t1 _ h434 ?_)
      cases v_o309 with
      | x0 v_z310 =>
        dsimp only at h
        by_cases h435 : v_z310 = true
        · rw [if_pos h435] at h
          obtain rfl := Option.some.inj h
          exact pend_sound TTok mix 5 (hs := [.t true]) (by kernel_rfl) (by kernel_rfl) (by kernel_rfl) (.cons h435 .nil)
        · rw [if_neg h435] at h
          by_cases h444 : v_r244 = 0
          · rw [if_pos h444] at h
            obtain ⟨v_r335, h464, h⟩ := bind_some h
            by_cases h465 : v_r191.1 = v_r335
            · rw [if_pos h465] at h
              by_cases h466 : v_r191.2 = 0
              · rw [if_pos h466] at h
                obtain ⟨v_r336, h467, h⟩ := bind_some h
                by_cases h470 : v_r336 = true
                · rw [if_pos h470] at h
                  by_cases h472 : v_t1.fDirty = true
                  · rw [if_pos h472] at h
                    by_cases h473 : (eqRes .eql (eqS_entry_Entry v_r212.1 (S_entry_Entry.mk v_t1.fHere v_t1.fSlot v_t1.fAt v_t1.fRights true true v_t1.fCopy))) = true
                    · rw [if_pos h473] at h
                      obtain rfl := Option.some.inj h
                      exact pend_sound TTok mix 26 (hs := [.t false, .t false, .c, .r ((eI .u32) v_r335), .t false, .c, .t false, .c, .r (eB v_r336), .t false, .c, .c, .c, .c, .t true, .c, .c, .c, .c, .c, .q (eqS_entry_Entry v_r212.1 (S_entry_Entry.mk v_t1.fHere v_t1.fSlot v_t1.fAt v_t1.fRights true true v_t1.fCopy)), .t true, .c]) (by kernel_rfl) (by kernel_rfl) (by kernel_rfl) (.cons (vf h435) (.cons (nf h444) (.cons (G_ringref2_EntryWord_ok n v_t1 _ h464) (.cons (nf h465) (.cons (nf h466) (.cons (G_ringref2_EntryMay_ok n v_t1 v_t3 _ h467) (.cons (bnf h470) (.cons (show 0 + 7 ≤ 7 by decide) (.cons (show 4 + 1 ≤ 7 by decide) (.cons h472 (.cons (show 5 + 1 ≤ 7 by decide) (.cons (eqS_entry_Entry_ok v_r212.1 (S_entry_Entry.mk v_t1.fHere v_t1.fSlot v_t1.fAt v_t1.fRights true true v_t1.fCopy)) (.cons h473 .nil)))))))))))))
                    · rw [if_neg h473] at h
                      obtain rfl := Option.some.inj h
                      exact pend_sound TTok mix 26 (hs := [.t false, .t false, .c, .r ((eI .u32) v_r335), .t false, .c, .t false, .c, .r (eB v_r336), .t false, .c, .c, .c, .c, .t true, .c, .c, .c, .c, .c, .q (eqS_entry_Entry v_r212.1 (S_entry_Entry.mk v_t1.fHere v_t1.fSlot v_t1.fAt v_t1.fRights true true v_t1.fCopy)), .t false, .c]) (by kernel_rfl) (by kernel_rfl) (by kernel_rfl) (.cons (vf h435) (.cons (nf h444) (.cons (G_ringref2_EntryWord_ok n v_t1 _ h464) (.cons (nf h465) (.cons (nf h466) (.cons (G_ringref2_EntryMay_ok n v_t1 v_t3 _ h467) (.cons (bnf h470) (.cons (show 0 + 7 ≤ 7 by decide) (.cons (show 4 + 1 ≤ 7 by decide) (.cons h472 (.cons (show 5 + 1 ≤ 7 by decide) (.cons (eqS_entry_Entry_ok v_r212.1 (S_entry_Entry.mk v_t1.fHere v_t1.fSlot v_t1.fAt v_t1.fRights true true v_t1.fCopy)) (.cons (vf h473) .nil)))))))))))))
                  · rw [if_neg h472] at h
                    obtain ⟨v_r337, h474, h⟩ := bind_some h
                    by_cases h475 : (eqRes .eql (eqS_entry_Entry v_r212.1 (S_entry_Entry.mk v_t1.fHere v_t1.fSlot v_t1.fAt v_t1.fRights true (!v_r337) v_t1.fCopy))) = true
                    · rw [if_pos h475] at h
                      obtain rfl := Option.some.inj h
                      exact pend_sound TTok mix 26 (hs := [.t false, .t false, .c, .r ((eI .u32) v_r335), .t false, .c, .t false, .c, .r (eB v_r336), .t false, .c, .c, .c, .c, .t false, .c, .r (eB v_r337), .c, .c, .c, .c, .q (eqS_entry_Entry v_r212.1 (S_entry_Entry.mk v_t1.fHere v_t1.fSlot v_t1.fAt v_t1.fRights true (!v_r337) v_t1.fCopy)), .t true, .c]) (by kernel_rfl) (by kernel_rfl) (by kernel_rfl) (.cons (vf h435) (.cons (nf h444) (.cons (G_ringref2_EntryWord_ok n v_t1 _ h464) (.cons (nf h465) (.cons (nf h466) (.cons (G_ringref2_EntryMay_ok n v_t1 v_t3 _ h467) (.cons (bnf h470) (.cons (show 0 + 7 ≤ 7 by decide) (.cons (show 4 + 1 ≤ 7 by decide) (.cons (vf h472) (.cons (G_ringref2_Has_ok n 5 v_t3 _ h474) (.cons (show 5 + 1 ≤ 7 by decide) (.cons (eqS_entry_Entry_ok v_r212.1 (S_entry_Entry.mk v_t1.fHere v_t1.fSlot v_t1.fAt v_t1.fRights true (!v_r337) v_t1.fCopy)) (.cons h475 .nil))))))))))))))
                    · rw [if_neg h475] at h
                      obtain rfl := Option.some.inj h
                      exact pend_sound TTok mix 26 (hs := [.t false, .t false, .c, .r ((eI .u32) v_r335), .t false, .c, .t false, .c, .r (eB v_r336), .t false, .c, .c, .c, .c, .t false, .c, .r (eB v_r337), .c, .c, .c, .c, .q (eqS_entry_Entry v_r212.1 (S_entry_Entry.mk v_t1.fHere v_t1.fSlot v_t1.fAt v_t1.fRights true (!v_r337) v_t1.fCopy)), .t false, .c]) (by kernel_rfl) (by kernel_rfl) (by kernel_rfl) (.cons (vf h435) (.cons (nf h444) (.cons (G_ringref2_EntryWord_ok n v_t1 _ h464) (.cons (nf h465) (.cons (nf h466) (.cons (G_ringref2_EntryMay_ok n v_t1 v_t3 _ h467) (.cons (bnf h470) (.cons (show 0 + 7 ≤ 7 by decide) (.cons (show 4 + 1 ≤ 7 by decide) (.cons (vf h472) (.cons (G_ringref2_Has_ok n 5 v_t3 _ h474) (.cons (show 5 + 1 ≤ 7 by decide) (.cons (eqS_entry_Entry_ok v_r212.1 (S_entry_Entry.mk v_t1.fHere v_t1.fSlot v_t1.fAt v_t1.fRights true (!v_r337) v_t1.fCopy)) (.cons (vf h475) .nil))))))))))))))
                · rw [if_neg h470] at h
                  by_cases h471 : (eqRes .eql (eqS_entry_Entry v_r212.1 (S_entry_Entry.mk false false 0 0 false false false))) = true
                  · rw [if_pos h471] at h
                    obtain rfl := Option.some.inj h
                    exact pend_sound TTok mix 20 (hs := [.t false, .t false, .c, .r ((eI .u32) v_r335), .t false, .c, .t false, .c, .r (eB v_r336), .t true, .c, .q (eqS_entry_Entry v_r212.1 (S_entry_Entry.mk false false 0 0 false false false)), .t true, .c]) (by kernel_rfl) (by kernel_rfl) (by kernel_rfl) (.cons (vf h435) (.cons (nf h444) (.cons (G_ringref2_EntryWord_ok n v_t1 _ h464) (.cons (nf h465) (.cons (nf h466) (.cons (G_ringref2_EntryMay_ok n v_t1 v_t3 _ h467) (.cons (bnt (vf h470)) (.cons (eqS_entry_Entry_ok v_r212.1 (S_entry_Entry.mk false false 0 0 false false false)) (.cons h471 .nil)))))))))
                  · rw [if_neg h471] at h
                    obtain rfl := Option.some.inj h
                    exact pend_sound TTok mix 20 (hs := [.t false, .t false, .c, .r ((eI .u32) v_r335), .t false, .c, .t false, .c, .r (eB v_r336), .t true, .c, .q (eqS_entry_Entry v_r212.1 (S_entry_Entry.mk false false 0 0 false false false)), .t false, .c]) (by kernel_rfl) (by kernel_rfl) (by kernel_rfl) (.cons (vf h435) (.cons (nf h444) (.cons (G_ringref2_EntryWord_ok n v_t1 _ h464) (.cons (nf h465) (.cons (nf h466) (.cons (G_ringref2_EntryMay_ok n v_t1 v_t3 _ h467) (.cons (bnt (vf h470)) (.cons (eqS_entry_Entry_ok v_r212.1 (S_entry_Entry.mk false false 0 0 false false false)) (.cons (vf h471) .nil)))))))))
              · rw [if_neg h466] at h
                obtain rfl := Option.some.inj h
                exact pend_sound TTok mix 15 (hs := [.t false, .t false, .c, .r ((eI .u32) v_r335), .t false, .c, .t true]) (by kernel_rfl) (by kernel_rfl) (by kernel_rfl) (.cons (vf h435) (.cons (nf h444) (.cons (G_ringref2_EntryWord_ok n v_t1 _ h464) (.cons (nf h465) (.cons (nt h466) .nil)))))
            · rw [if_neg h465] at h
              obtain rfl := Option.some.inj h
              exact pend_sound TTok mix 15 (hs := [.t false, .t false, .c, .r ((eI .u32) v_r335), .t true, .c, .c]) (by kernel_rfl) (by kernel_rfl) (by kernel_rfl) (.cons (vf h435) (.cons (nf h444) (.cons (G_ringref2_EntryWord_ok n v_t1 _ h464) (.cons (nt h465) .nil))))
          · rw [if_neg h444] at h
            obtain ⟨v_o321, h451, h⟩ := bind_some h
            refine pkk_sound TTok mix hF 7 (hs := [.t false, .t true]) (ts := []) (s := [1]) (l := [7, 8, 11, 12, 13]) (by kernel_rfl) (by kernel_rfl) (.cons (vf h435) (.cons (nt h444) .nil)) (G_ringlaw2_EntryTells_C3_ok hF (.s (cR (cT (cR (cL (cR (cR (cR (cR (cR (cR (cR (bodyOf Try.f4)))))))))))) :: .s (cR (cR (cR (cR (cR (cR (cR (cR (bodyOf Try.f4))))))))) :: []) n v_r191 v_r212 v_r244 _ h451 ?_)
            cases v_o321 with
            | x0 v_z322 =>
              dsimp only at h
              obtain rfl := Option.some.inj h
              exact pend_sound TTok mix 2 (hs := []) (by kernel_rfl) (by kernel_rfl) (by kernel_rfl) .nil
def okS_entry_Entry (x : S_entry_Entry) : Prop := (fun _ => True) x.fHere ∧ (fun _ => True) x.fSlot ∧ (fun a => (Lit.int .i64 a).wf = true) x.fAt ∧ (fun a => (Lit.int .i64 a).wf = true) x.fRights ∧ (fun _ => True) x.fUsed ∧ (fun _ => True) x.fDirty ∧ (fun _ => True) x.fCopy ∧ True
theorem brS_entry_Entry : Br (.pair .bool (.pair .bool (.pair (.int .i64) (.pair (.int .i64) (.pair .bool (.pair .bool (.pair .bool .unit))))))) (fun x : S_entry_Entry => [.v (.bool x.fHere), .v (.bool x.fSlot), .v (.int .i64 x.fAt), .v (.int .i64 x.fRights), .v (.bool x.fUsed), .v (.bool x.fDirty), .v (.bool x.fCopy)]) okS_entry_Entry := br_map (br_pair br_bool (br_pair br_bool (br_pair (br_int .i64) (br_pair (br_int .i64) (br_pair br_bool (br_pair br_bool (br_pair br_bool br_unit))))))) (fun p => S_entry_Entry.mk p.1 p.2.1 p.2.2.1 p.2.2.2.1 p.2.2.2.2.1 p.2.2.2.2.2.1 p.2.2.2.2.2.2.1) (fun p h => ⟨rfl, h⟩)
theorem EntryTells_walk (H : ∀ (a0 : S_entry_Entry) (a1 : Int) (a2 : Int), okS_entry_Entry a0 → (fun a => (Lit.int .u32 a).wf = true) a1 → (fun a => (Lit.int .i64 a).wf = true) a2 → ∃ n, G_ringlaw2_EntryTells n a0 a1 a2 = some true) (w : World) (v0 : Value) (v1 : Value) (v2 : Value) (h0 : rep.Arg w (.pair .bool (.pair .bool (.pair (.int .i64) (.pair (.int .i64) (.pair .bool (.pair .bool (.pair .bool .unit))))))) v0) (h1 : rep.Arg w (.int .u32) v1) (h2 : rep.Arg w (.int .i64) v2) : Calls Try.prog 4 #[v0, v1, v2] w (help.Ret (.bool true) w) := by
  obtain ⟨a0, o0, r0⟩ := arg_agg brS_entry_Entry (by rfl) h0
  obtain ⟨a1, o1, r1⟩ := arg_one (br_int .u32) (by rfl) h1
  obtain ⟨a2, o2, r2⟩ := arg_one (br_int .i64) (by rfl) h2
  obtain ⟨n, hn⟩ := H a0 a1 a2 o0 o1 o2
  exact walk_of (G_ringlaw2_EntryTells_ok n a0 a1 a2 true hn) (RT_cons r0 (RT_cons r1 (RT_cons r2 RT_nil)))
/- FRAME EntryTells; ringhall/ringlaw2.EntryTells; (.pair .bool (.pair .bool (.pair (.int .i64) (.pair (.int .i64) (.pair .bool (.pair .bool (.pair .bool .unit))))))) | (.int .u32) | (.int .i64); .agg #[.bool false, .bool false, .int .i64 0, .int .i64 0, .bool false, .bool false, .bool false] | .int .u32 0 | .int .i64 0 -/
end Go.Proofs.Ytiajagahghgclaa.pv
