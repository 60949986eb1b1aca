/- What the functions compute, as functions over plain data, with their contracts: written by gen.py. -/
import Derived.Test.YtccmjndnjpjohaaRProg
import Derived.Test.YtccmjndnjpjohaaRQr
set_option maxRecDepth 100000
set_option linter.all false
namespace Go.Proofs.YtccmjndnjpjohaaR.pv
open Go.RowKit
def TT : List TI := [
⟨1, 0, .oth, []⟩,
⟨1, 8, .oth, [.nf]⟩,
⟨1, 8, .int .i64, [.i .i64]⟩,
⟨1, 8, .int .i64, [.i .i64]⟩,
⟨1, 1, .bool, [.b]⟩,
⟨1, 1, .int .u8, [.i .u8]⟩,
⟨1, 1, .int .u8, [.i .u8]⟩,
⟨4, 24, .st [(0, 2), (1, 3), (2, 4), (3, 6)], [.i .i64, .i .i64, .b, .i .u8]⟩,
⟨4, 24, .st [(0, 2), (1, 3), (2, 4), (3, 6)], [.i .i64, .i .i64, .b, .i .u8]⟩,
⟨1, 16, .str, [.s]⟩,
⟨1, 16, .str, [.s]⟩,
⟨1, 16, .str, [.s]⟩,
⟨1, 8, .int .u64, [.i .u64]⟩,
⟨2, 24, .st [(0, 9), (1, 12)], [.s, .i .u64]⟩,
⟨2, 24, .st [(0, 9), (1, 12)], [.s, .i .u64]⟩,
⟨1, 8, .oth, [.np]⟩,
⟨1, 8, .oth, [.np]⟩,
⟨1, 8, .oth, [.np]⟩,
⟨1, 8, .st [(0, 17)], [.np]⟩,
⟨1, 8, .st [(0, 17)], [.np]⟩,
⟨1, 16, .oth, [.ni]⟩,
⟨1, 4, .int .i32, [.i .i32]⟩,
⟨4, 32, .st [(0, 3), (1, 3), (2, 3), (3, 3)], [.i .i64, .i .i64, .i .i64, .i .i64]⟩,
⟨4, 32, .st [(0, 3), (1, 3), (2, 3), (3, 3)], [.i .i64, .i .i64, .i .i64, .i .i64]⟩,
⟨1, 8, .int .i64, [.i .i64]⟩,
⟨1, 0, .oth, []⟩,
⟨1, 8, .oth, [.nf]⟩,
⟨1, 0, .oth, []⟩,
⟨1, 8, .oth, [.nf]⟩,
⟨1, 0, .oth, []⟩,
⟨1, 8, .oth, [.nf]⟩,
⟨1, 8, .oth, [.nf]⟩,
⟨1, 8, .oth, [.nf]⟩,
⟨4, 4, .st [(0, 4), (1, 4), (2, 4), (3, 4)], [.b, .b, .b, .b]⟩,
⟨4, 4, .st [(0, 4), (1, 4), (2, 4), (3, 4)], [.b, .b, .b, .b]⟩,
⟨32, 32, .arr 8 34, List.replicate 32 (.b)⟩,
⟨1, 8, .oth, [.nf]⟩,
⟨1, 8, .oth, [.nf]⟩,
⟨1, 24, .sl 34, [.sl]⟩,
⟨1, 8, .oth, [.nf]⟩,
⟨1, 8, .oth, [.nf]⟩,
⟨1, 8, .oth, [.nf]⟩,
⟨1, 24, .sl 3, [.sl]⟩,
⟨1, 8, .oth, [.nf]⟩,
⟨1, 8, .oth, [.nf]⟩,
⟨1, 8, .oth, [.nf]⟩,
⟨1, 8, .oth, [.nf]⟩,
⟨1, 8, .oth, [.nf]⟩,
⟨1, 24, .sl 64, [.sl]⟩,
⟨16, 16, .arr 16 5, List.replicate 16 (.i .u8)⟩,
⟨1, 0, .oth, []⟩,
⟨1, 8, .oth, [.nf]⟩,
⟨1, 0, .oth, []⟩,
⟨1, 8, .oth, [.nf]⟩,
⟨1, 0, .oth, []⟩,
⟨1, 8, .oth, [.nf]⟩,
⟨1, 0, .oth, []⟩,
⟨1, 8, .oth, [.nf]⟩,
⟨1, 0, .oth, []⟩,
⟨1, 8, .oth, [.nf]⟩,
⟨1, 8, .oth, [.nf]⟩,
⟨1, 8, .oth, [.nf]⟩,
⟨1, 8, .oth, [.nf]⟩,
⟨17, 24, .st [(0, 3), (1, 49)], List.replicate 1 (.i .i64) ++ List.replicate 16 (.i .u8)⟩,
⟨17, 24, .st [(0, 3), (1, 49)], List.replicate 1 (.i .i64) ++ List.replicate 16 (.i .u8)⟩,
⟨1, 8, .oth, [.nf]⟩,
⟨1, 8, .oth, [.nf]⟩,
⟨1, 24, .sl 79, [.sl]⟩,
⟨1, 24, .sl 70, [.sl]⟩,
⟨1, 24, .sl 71, [.sl]⟩,
⟨1, 24, .sl 73, [.sl]⟩,
⟨1, 24, .sl 74, [.sl]⟩,
⟨3, 24, .st [(0, 3), (1, 3), (2, 3)], [.i .i64, .i .i64, .i .i64]⟩,
⟨3, 24, .st [(0, 3), (1, 3), (2, 3)], [.i .i64, .i .i64, .i .i64]⟩,
⟨3, 24, .st [(0, 3), (1, 3), (2, 3)], [.i .i64, .i .i64, .i .i64]⟩,
⟨1, 0, .oth, []⟩,
⟨1, 8, .oth, [.nf]⟩,
⟨1, 8, .oth, [.nf]⟩,
⟨1, 8, .oth, [.nf]⟩,
⟨1, 4, .int .u32, [.i .u32]⟩,
⟨1, 8, .oth, [.nf]⟩,
⟨1, 24, .sl 91, [.sl]⟩,
⟨1, 0, .oth, []⟩,
⟨1, 8, .oth, [.nf]⟩,
⟨1, 8, .oth, [.nf]⟩,
⟨1, 0, .oth, []⟩,
⟨1, 8, .oth, [.nf]⟩,
⟨1, 0, .oth, []⟩,
⟨1, 8, .oth, [.nf]⟩,
⟨1, 8, .oth, [.nf]⟩,
⟨3, 24, .st [(0, 3), (1, 3), (2, 3)], [.i .i64, .i .i64, .i .i64]⟩,
⟨3, 24, .st [(0, 3), (1, 3), (2, 3)], [.i .i64, .i .i64, .i .i64]⟩,
⟨1, 8, .oth, [.nf]⟩,
⟨1, 8, .oth, [.nf]⟩,
⟨1, 8, .oth, [.nf]⟩,
⟨1, 8, .oth, [.nf]⟩,
⟨7, 32, .st [(0, 4), (1, 4), (2, 3), (3, 3), (4, 4), (5, 4), (6, 4)], [.b, .b, .i .i64, .i .i64, .b, .b, .b]⟩,
⟨7, 32, .st [(0, 4), (1, 4), (2, 3), (3, 3), (4, 4), (5, 4), (6, 4)], [.b, .b, .i .i64, .i .i64, .b, .b, .b]⟩,
⟨10, 56, .st [(0, 3), (1, 97), (8, 3), (9, 3)], [.i .i64, .b, .b, .i .i64, .i .i64, .b, .b, .b, .i .i64, .i .i64]⟩,
⟨10, 56, .st [(0, 3), (1, 97), (8, 3), (9, 3)], [.i .i64, .b, .b, .i .i64, .i .i64, .b, .b, .b, .i .i64, .i .i64]⟩,
⟨1, 8, .oth, [.nf]⟩,
⟨1, 0, .oth, []⟩,
⟨1, 8, .oth, [.nf]⟩,
⟨1, 0, .oth, []⟩,
⟨1, 8, .oth, [.nf]⟩,
⟨1, 8, .oth, [.nf]⟩,
⟨1, 8, .oth, [.nf]⟩,
⟨1, 8, .oth, [.nf]⟩,
⟨1, 8, .oth, [.nf]⟩,
⟨1, 8, .oth, [.nf]⟩,
⟨1, 8, .oth, [.nf]⟩,
⟨1, 8, .oth, [.nf]⟩,
⟨1, 8, .oth, [.nf]⟩,
⟨1, 8, .oth, [.nf]⟩,
⟨1, 8, .oth, [.nf]⟩,
⟨1, 8, .oth, [.nf]⟩,
⟨1, 24, .sl 122, [.sl]⟩,
⟨1, 0, .oth, []⟩,
⟨1, 8, .oth, [.nf]⟩,
⟨1, 8, .oth, [.nf]⟩,
⟨1, 24, .sl 123, [.sl]⟩,
⟨3, 24, .st [(0, 3), (1, 3), (2, 3)], [.i .i64, .i .i64, .i .i64]⟩,
⟨3, 24, .st [(0, 3), (1, 3), (2, 3)], [.i .i64, .i .i64, .i .i64]⟩,
⟨3, 24, .arr 3 3, [.i .i64, .i .i64, .i .i64]⟩,
⟨1, 8, .oth, [.nf]⟩,
⟨1, 8, .oth, [.nf]⟩,
⟨1, 8, .oth, [.nf]⟩,
⟨1, 8, .oth, [.nf]⟩,
⟨1, 8, .oth, [.nf]⟩,
⟨1, 8, .oth, [.nf]⟩,
⟨1, 8, .oth, [.nf]⟩,
⟨6, 48, .st [(0, 3), (1, 3), (2, 3), (3, 3), (4, 3), (5, 3)], [.i .i64, .i .i64, .i .i64, .i .i64, .i .i64, .i .i64]⟩,
⟨6, 48, .st [(0, 3), (1, 3), (2, 3), (3, 3), (4, 3), (5, 3)], [.i .i64, .i .i64, .i .i64, .i .i64, .i .i64, .i .i64]⟩,
⟨1, 24, .sl 140, [.sl]⟩,
⟨6, 64, .st [(0, 3), (1, 3), (2, 42), (3, 3), (4, 3), (5, 3)], [.i .i64, .i .i64, .sl, .i .i64, .i .i64, .i .i64]⟩,
⟨6, 64, .st [(0, 3), (1, 3), (2, 42), (3, 3), (4, 3), (5, 3)], [.i .i64, .i .i64, .sl, .i .i64, .i .i64, .i .i64]⟩,
⟨1, 0, .oth, []⟩,
⟨1, 8, .oth, [.nf]⟩,
⟨1, 8, .oth, [.nf]⟩,
⟨3, 24, .st [(0, 4), (1, 3), (2, 3)], [.b, .i .i64, .i .i64]⟩,
⟨3, 24, .st [(0, 4), (1, 3), (2, 3)], [.b, .i .i64, .i .i64]⟩,
⟨1, 8, .oth, [.nf]⟩,
⟨1, 8, .oth, [.nf]⟩,
⟨1, 8, .oth, [.nf]⟩,
⟨1, 24, .sl 4, [.sl]⟩,
⟨1, 8, .oth, [.nf]⟩,
⟨1, 8, .oth, [.nf]⟩,
⟨1, 0, .oth, []⟩,
⟨1, 8, .oth, [.nf]⟩,
⟨1, 8, .oth, [.nf]⟩,
⟨1, 8, .oth, [.nf]⟩,
⟨1, 8, .oth, [.nf]⟩,
⟨1, 8, .oth, [.nf]⟩,
⟨1, 8, .oth, [.nf]⟩,
⟨1, 8, .oth, [.nf]⟩,
⟨1, 8, .oth, [.nf]⟩,
⟨1, 8, .oth, [.nf]⟩,
⟨1, 8, .oth, [.nf]⟩,
⟨1, 8, .oth, [.nf]⟩,
⟨1, 8, .oth, [.nf]⟩,
⟨1, 8, .oth, [.nf]⟩,
⟨1, 8, .oth, [.nf]⟩,
⟨1, 8, .oth, [.np]⟩,
⟨1, 8, .oth, [.nf]⟩,
⟨1, 8, .oth, [.nf]⟩,
⟨1, 8, .oth, [.nf]⟩,
⟨1, 8, .oth, [.nf]⟩,
⟨1, 8, .oth, [.nf]⟩,
⟨1, 8, .oth, [.np]⟩,
⟨1, 8, .oth, [.nf]⟩,
⟨1, 8, .oth, [.nf]⟩,
⟨7, 7, .arr 7 4, [.b, .b, .b, .b, .b, .b, .b]⟩,
⟨1, 8, .oth, [.nf]⟩,
⟨1, 8, .oth, [.nf]⟩,
⟨4, 32, .arr 4 3, [.i .i64, .i .i64, .i .i64, .i .i64]⟩,
⟨1, 8, .oth, [.nf]⟩,
⟨1, 8, .oth, [.nf]⟩,
⟨1, 8, .oth, [.nf]⟩,
⟨1, 8, .oth, [.nf]⟩,
⟨1, 8, .oth, [.nf]⟩,
⟨1, 8, .oth, [.nf]⟩,
⟨1, 8, .oth, [.nf]⟩,
⟨1, 24, .sl 42, [.sl]⟩,
⟨1, 8, .oth, [.nf]⟩,
⟨1, 8, .oth, [.nf]⟩,
⟨1, 8, .oth, [.nf]⟩,
⟨1, 8, .oth, [.nf]⟩,
⟨1, 8, .oth, [.nm]⟩,
⟨1, 8, .oth, [.nf]⟩,
⟨1, 8, .int .u64, [.i .u64]⟩,
⟨1, 8, .oth, [.nf]⟩,
⟨4, 40, .st [(0, 17), (1, 17), (2, 17), (3, 9)], [.np, .np, .np, .s]⟩,
⟨4, 40, .st [(0, 17), (1, 17), (2, 17), (3, 9)], [.np, .np, .np, .s]⟩,
⟨0, 0, .arr 0 16, []⟩,
⟨0, 0, .st [(0, 193)], []⟩,
⟨0, 0, .st [(0, 193)], []⟩,
⟨1, 8, .oth, [.nf]⟩,
⟨1, 1, .int .u8, [.i .u8]⟩,
⟨1, 1, .int .u8, [.i .u8]⟩,
⟨1, 8, .oth, [.nf]⟩,
⟨1, 8, .oth, [.np]⟩,
⟨1, 4, .int .i32, [.i .i32]⟩,
⟨1, 4, .int .i32, [.i .i32]⟩,
⟨11, 48, .st [(0, 12), (1, 12), (2, 79), (3, 197), (4, 5), (5, 5), (6, 198), (7, 199), (8, 200), (9, 201), (10, 202)], [.i .u64, .i .u64, .i .u32, .i .u8, .i .u8, .i .u8, .i .u8, .nf, .np, .i .i32, .i .i32]⟩,
⟨11, 48, .st [(0, 12), (1, 12), (2, 79), (3, 197), (4, 5), (5, 5), (6, 198), (7, 199), (8, 200), (9, 201), (10, 202)], [.i .u64, .i .u64, .i .u32, .i .u8, .i .u8, .i .u8, .i .u8, .nf, .np, .i .i32, .i .i32]⟩,
⟨1, 8, .oth, [.np]⟩]
theorem TTok : TOk Try.prog TT := by unfold TOk; kernel_rfl
theorem mix : Try.prog.follows .mixedOrders = true := by kernel_rfl
structure S_entry_Entry where
  fHere : Bool
  fSlot : Bool
  fAt : Int
  fRights : Int
  fUsed : Bool
  fDirty : Bool
  fCopy : Bool
def eS_entry_Entry (x : S_entry_Entry) : PV := .agg [.v (.bool x.fHere), .v (.bool x.fSlot), .v (.int .i64 x.fAt), .v (.int .i64 x.fRights), .v (.bool x.fUsed), .v (.bool x.fDirty), .v (.bool x.fCopy)]
structure S_fault_Case where
  fArea : Int
  fEntry : S_entry_Entry
  fMany : Int
  fWant : Int
def eS_fault_Case (x : S_fault_Case) : PV := .agg [.v (.int .i64 x.fArea), .v (.bool x.fEntry.fHere), .v (.bool x.fEntry.fSlot), .v (.int .i64 x.fEntry.fAt), .v (.int .i64 x.fEntry.fRights), .v (.bool x.fEntry.fUsed), .v (.bool x.fEntry.fDirty), .v (.bool x.fEntry.fCopy), .v (.int .i64 x.fMany), .v (.int .i64 x.fWant)]
def eqS_entry_Entry (x y : S_entry_Entry) : Bool := ((x.fHere == y.fHere) && ((x.fSlot == y.fSlot) && ((x.fAt == y.fAt) && ((x.fRights == y.fRights) && ((x.fUsed == y.fUsed) && ((x.fDirty == y.fDirty) && ((x.fCopy == y.fCopy) && true)))))))
theorem eqS_entry_Entry_ok (x y : S_entry_Entry) : EqA Try.prog 97 [((.bool x.fHere)), ((.bool x.fSlot)), ((.int .i64 x.fAt)), ((.int .i64 x.fRights)), ((.bool x.fUsed)), ((.bool x.fDirty)), ((.bool x.fCopy))] [((.bool y.fHere)), ((.bool y.fSlot)), ((.int .i64 y.fAt)), ((.int .i64 y.fRights)), ((.bool y.fUsed)), ((.bool y.fDirty)), ((.bool y.fCopy))] (eqS_entry_Entry x y) := eqA_of TTok (by kernel_rfl) (by kernel_rfl) (by kernel_rfl)
def eqS_fault_Case (x y : S_fault_Case) : Bool := ((x.fArea == y.fArea) && (((x.fEntry.fHere == y.fEntry.fHere) && ((x.fEntry.fSlot == y.fEntry.fSlot) && ((x.fEntry.fAt == y.fEntry.fAt) && ((x.fEntry.fRights == y.fEntry.fRights) && ((x.fEntry.fUsed == y.fEntry.fUsed) && ((x.fEntry.fDirty == y.fEntry.fDirty) && ((x.fEntry.fCopy == y.fEntry.fCopy) && true))))))) && ((x.fMany == y.fMany) && ((x.fWant == y.fWant) && true))))
theorem eqS_fault_Case_ok (x y : S_fault_Case) : EqA Try.prog 99 [((.int .i64 x.fArea)), ((.bool x.fEntry.fHere)), ((.bool x.fEntry.fSlot)), ((.int .i64 x.fEntry.fAt)), ((.int .i64 x.fEntry.fRights)), ((.bool x.fEntry.fUsed)), ((.bool x.fEntry.fDirty)), ((.bool x.fEntry.fCopy)), ((.int .i64 x.fMany)), ((.int .i64 x.fWant))] [((.int .i64 y.fArea)), ((.bool y.fEntry.fHere)), ((.bool y.fEntry.fSlot)), ((.int .i64 y.fEntry.fAt)), ((.int .i64 y.fEntry.fRights)), ((.bool y.fEntry.fUsed)), ((.bool y.fEntry.fDirty)), ((.bool y.fEntry.fCopy)), ((.int .i64 y.fMany)), ((.int .i64 y.fWant))] (eqS_fault_Case x y) := eqA_of TTok (by kernel_rfl) (by kernel_rfl) (by kernel_rfl)
/- ringhall/entry.None -/
def G_entry_None (n : Nat) (v_e24 : S_entry_Entry) : Option (Bool) :=
  if v_e24.fHere = true then
   some false
  else
   some (!v_e24.fSlot)
theorem G_entry_None_ok (n : Nat) (v_e24 : S_entry_Entry) (r : Bool) (h : G_entry_None n v_e24 = some r) : Ret Try.prog 109 [eS_entry_Entry v_e24] (eB r) := by
  refine ret_run (n := 11) (fn := Try.f109) (c := bodyOf Try.f109) (by kernel_rfl) (by kernel_rfl) (by kernel_rfl) (by kernel_rfl) ?_
  have hF : KC 11 (FinR Try.prog Try.f109 (eB r)) := FinR.kc' (by kernel_rfl)
  unfold G_entry_None at h
  by_cases h30 : v_e24.fHere = true
  · rw [if_pos h30] at h
    obtain rfl := Option.some.inj h
    exact pend_sound TTok mix 5 (hs := [.c, .t false, .c, .c]) (by kernel_rfl) (by kernel_rfl) (by kernel_rfl) (.cons (bnf h30) .nil)
  · rw [if_neg h30] at h
    obtain rfl := Option.some.inj h
    exact pend_sound TTok mix 5 (hs := [.c, .t true, .c, .c, .c]) (by kernel_rfl) (by kernel_rfl) (by kernel_rfl) (.cons (bnt (vf h30)) .nil)
inductive G_entry_Check_C1_R where
  | x0 (v_x107 : Bool)
def G_entry_Check_C1_ex : G_entry_Check_C1_R → Ex
  | .x0 _ => .normal
def G_entry_Check_C1_st (v_e17 : S_entry_Entry) : G_entry_Check_C1_R → PS
  | .x0 v_x107 => ⟨[dd, .ref 0 0, dd, .d (.v (.bool v_x107)), dd, dd, dd, dd, dd, dd, dd, dd, dd, dd, dd, dd, dd, dd, dd, dd, dd, dd, dd, dd, dd, dd, dd, dd, dd, dd, dd, dd, dd, dd, dd, dd, dd, dd, dd, dd, dd, dd, dd, dd, dd, dd, dd, dd, dd, dd], [.box [.d (.v (.bool v_e17.fHere)), .d (.v (.bool v_e17.fSlot)), .d (.v (.int .i64 v_e17.fAt)), .d (.v (.int .i64 v_e17.fRights)), .d (.v (.bool v_e17.fUsed)), .d (.v (.bool v_e17.fDirty)), .d (.v (.bool v_e17.fCopy))]]⟩
def G_entry_Check_C1_hd (v_e17 : S_entry_Entry)  : PS := ⟨[dd, .ref 0 0, dd, dd, dd, dd, dd, dd, dd, dd, dd, dd, dd, dd, dd, dd, dd, dd, dd, dd, dd, dd, dd, dd, dd, dd, dd, dd, dd, dd, dd, dd, dd, dd, dd, dd, dd, dd, dd, dd, dd, dd, dd, dd, dd, dd, dd, dd, dd, dd], [.box [.d (.v (.bool v_e17.fHere)), .d (.v (.bool v_e17.fSlot)), .d (.v (.int .i64 v_e17.fAt)), .d (.v (.int .i64 v_e17.fRights)), .d (.v (.bool v_e17.fUsed)), .d (.v (.bool v_e17.fDirty)), .d (.v (.bool v_e17.fCopy))]]⟩
def G_entry_Check_C1 (n : Nat) (v_e17 : S_entry_Entry) : Option G_entry_Check_C1_R :=
  if v_e17.fRights < 0 then
   some (.x0 true)
  else
   if v_e17.fRights > 7 then
    some (.x0 true)
   else
    if v_e17.fAt < 0 then
     some (.x0 true)
    else
     some (.x0 (decide (v_e17.fAt ≥ 64)))
theorem G_entry_Check_C1_ok {Fi : Ex → PS → Prop} (hF : KC 50 Fi) (ks : List Fr) (n : Nat) (v_e17 : S_entry_Entry)  (o : G_entry_Check_C1_R) (h : G_entry_Check_C1 n v_e17 = some o) (q : RunE Try.prog 50 Fi ks (G_entry_Check_C1_ex o) (G_entry_Check_C1_st v_e17 o)) : RunE Try.prog 50 Fi (.s (cL (cB (cL (cR (bodyOf Try.f111))))) :: ks) .normal (G_entry_Check_C1_hd v_e17) := by
  unfold G_entry_Check_C1 at h
  by_cases h148 : v_e17.fRights < 0
  · rw [if_pos h148] at h
    cases h
    exact pkk_sound TTok mix hF 1 (hs := [.c, .t true, .c, .c, .c, .c, .c, .c, .c, .c]) (ts := []) (s := [0]) (l := [1, 3]) (by kernel_rfl) (by kernel_rfl) (.cons (dt h148) .nil) q
  · rw [if_neg h148] at h
    by_cases h149 : v_e17.fRights > 7
    · rw [if_pos h149] at h
      cases h
      exact pkk_sound TTok mix hF 1 (hs := [.c, .t false, .c, .c, .c, .t true, .c, .c, .c, .c, .c]) (ts := []) (s := [0]) (l := [1, 3]) (by kernel_rfl) (by kernel_rfl) (.cons (df h148) (.cons (dt h149) .nil)) q
    · rw [if_neg h149] at h
      by_cases h150 : v_e17.fAt < 0
      · rw [if_pos h150] at h
        cases h
        exact pkk_sound TTok mix hF 1 (hs := [.c, .t false, .c, .c, .c, .t false, .c, .c, .c, .t true, .c, .c]) (ts := []) (s := [0]) (l := [1, 3]) (by kernel_rfl) (by kernel_rfl) (.cons (df h148) (.cons (df h149) (.cons (dt h150) .nil))) q
      · rw [if_neg h150] at h
        cases h
        exact pkk_sound TTok mix hF 1 (hs := [.c, .t false, .c, .c, .c, .t false, .c, .c, .c, .t false, .c, .c, .c]) (ts := []) (s := [0]) (l := [1, 3]) (by kernel_rfl) (by kernel_rfl) (.cons (df h148) (.cons (df h149) (.cons (df h150) .nil))) q
inductive G_entry_Check_C2_R where
  | x0 (v_x158 : Bool)
def G_entry_Check_C2_ex : G_entry_Check_C2_R → Ex
  | .x0 _ => .normal
def G_entry_Check_C2_st (v_e17 : S_entry_Entry) : G_entry_Check_C2_R → PS
  | .x0 v_x158 => ⟨[dd, dd, dd, dd, dd, dd, dd, dd, dd, dd, dd, dd, dd, dd, dd, dd, dd, dd, dd, dd, dd, dd, .d (.v (.bool v_x158)), dd, dd, dd, dd, dd, dd, dd, dd, dd, dd, dd, dd, dd, dd, dd, dd, dd, dd, dd, dd, dd, dd, dd, dd, dd, dd, dd], []⟩
def G_entry_Check_C2_hd (v_e17 : S_entry_Entry)  : PS := ⟨[dd, .ref 0 0, dd, dd, dd, dd, dd, dd, dd, dd, dd, dd, dd, dd, dd, dd, dd, dd, dd, dd, dd, dd, .d (.v (.bool v_e17.fSlot)), dd, dd, dd, dd, dd, dd, dd, dd, dd, dd, dd, dd, dd, dd, dd, dd, dd, dd, dd, dd, dd, dd, dd, dd, dd, dd, dd], [.box [.d (.v (.bool v_e17.fHere)), .d (.v (.bool v_e17.fSlot)), .d (.v (.int .i64 v_e17.fAt)), .d (.v (.int .i64 v_e17.fRights)), .d (.v (.bool v_e17.fUsed)), .d (.v (.bool v_e17.fDirty)), .d (.v (.bool v_e17.fCopy))]]⟩
def G_entry_Check_C2 (n : Nat) (v_e17 : S_entry_Entry) : Option G_entry_Check_C2_R :=
  if v_e17.fSlot = true then
   some (.x0 true)
  else
   if v_e17.fDirty = true then
    if v_e17.fHere = true then
     if v_e17.fUsed = true then
      (G_entry_None n v_e17).bind fun (v_r160 : (Bool)) =>
      if v_r160 = true then
       some (.x0 (eqRes .neq (eqS_entry_Entry v_e17 (S_entry_Entry.mk false false 0 0 false false false))))
      else
       some (.x0 false)
     else
      (G_entry_None n v_e17).bind fun (v_r163 : (Bool)) =>
      if v_r163 = true then
       some (.x0 (eqRes .neq (eqS_entry_Entry v_e17 (S_entry_Entry.mk false false 0 0 false false false))))
      else
       some (.x0 false)
    else
     some (.x0 true)
   else
    if v_e17.fUsed = true then
     if v_e17.fHere = true then
      (G_entry_None n v_e17).bind fun (v_r167 : (Bool)) =>
      if v_r167 = true then
       some (.x0 (eqRes .neq (eqS_entry_Entry v_e17 (S_entry_Entry.mk false false 0 0 false false false))))
      else
       some (.x0 false)
     else
      some (.x0 true)
    else
     (G_entry_None n v_e17).bind fun (v_r170 : (Bool)) =>
     if v_r170 = true then
      some (.x0 (eqRes .neq (eqS_entry_Entry v_e17 (S_entry_Entry.mk false false 0 0 false false false))))
     else
      some (.x0 false)
theorem G_entry_Check_C2_ok {Fi : Ex → PS → Prop} (hF : KC 50 Fi) (ks : List Fr) (n : Nat) (v_e17 : S_entry_Entry)  (o : G_entry_Check_C2_R) (h : G_entry_Check_C2 n v_e17 = some o) (q : RunE Try.prog 50 Fi ks (G_entry_Check_C2_ex o) (G_entry_Check_C2_st v_e17 o)) : RunE Try.prog 50 Fi (.s (cR (cL (cF (cR (cB (cL (cR (bodyOf Try.f111)))))))) :: ks) .normal (G_entry_Check_C2_hd v_e17) := by
  unfold G_entry_Check_C2 at h
  by_cases h228 : v_e17.fSlot = true
  · rw [if_pos h228] at h
    cases h
    exact pkk_sound TTok mix hF 2 (hs := [.t true]) (ts := []) (s := []) (l := [22]) (by kernel_rfl) (by kernel_rfl) (.cons h228 .nil) q
  · rw [if_neg h228] at h
    by_cases h229 : v_e17.fDirty = true
    · rw [if_pos h229] at h
      by_cases h230 : v_e17.fHere = true
      · rw [if_pos h230] at h
        by_cases h231 : v_e17.fUsed = true
        · rw [if_pos h231] at h
          obtain ⟨v_r160, h232, h⟩ := bind_some h
          by_cases h233 : v_r160 = true
          · rw [if_pos h233] at h
            cases h
            exact pkk_sound TTok mix hF 8 (hs := [.t false, .c, .t true, .c, .c, .c, .t false, .c, .t true, .c, .c, .c, .t false, .c, .r (eB v_r160), .t true, .c, .c, .c, .q (eqS_entry_Entry v_e17 (S_entry_Entry.mk false false 0 0 false false false))]) (ts := []) (s := []) (l := [22]) (by kernel_rfl) (by kernel_rfl) (.cons (vf h228) (.cons h229 (.cons (bnf h230) (.cons h231 (.cons (bnf h230) (.cons (G_entry_None_ok n v_e17 _ h232) (.cons h233 (.cons (eqS_entry_Entry_ok v_e17 (S_entry_Entry.mk false false 0 0 false false false)) .nil)))))))) q
          · rw [if_neg h233] at h
            cases h
            exact pkk_sound TTok mix hF 8 (hs := [.t false, .c, .t true, .c, .c, .c, .t false, .c, .t true, .c, .c, .c, .t false, .c, .r (eB v_r160), .t false, .c, .c]) (ts := []) (s := []) (l := [22]) (by kernel_rfl) (by kernel_rfl) (.cons (vf h228) (.cons h229 (.cons (bnf h230) (.cons h231 (.cons (bnf h230) (.cons (G_entry_None_ok n v_e17 _ h232) (.cons (vf h233) .nil))))))) q
        · rw [if_neg h231] at h
          obtain ⟨v_r163, h234, h⟩ := bind_some h
          by_cases h235 : v_r163 = true
          · rw [if_pos h235] at h
            cases h
            exact pkk_sound TTok mix hF 8 (hs := [.t false, .c, .t true, .c, .c, .c, .t false, .c, .t false, .c, .c, .c, .c, .r (eB v_r163), .t true, .c, .c, .c, .q (eqS_entry_Entry v_e17 (S_entry_Entry.mk false false 0 0 false false false))]) (ts := []) (s := []) (l := [22]) (by kernel_rfl) (by kernel_rfl) (.cons (vf h228) (.cons h229 (.cons (bnf h230) (.cons (vf h231) (.cons (G_entry_None_ok n v_e17 _ h234) (.cons h235 (.cons (eqS_entry_Entry_ok v_e17 (S_entry_Entry.mk false false 0 0 false false false)) .nil))))))) q
          · rw [if_neg h235] at h
            cases h
            exact pkk_sound TTok mix hF 8 (hs := [.t false, .c, .t true, .c, .c, .c, .t false, .c, .t false, .c, .c, .c, .c, .r (eB v_r163), .t false, .c, .c]) (ts := []) (s := []) (l := [22]) (by kernel_rfl) (by kernel_rfl) (.cons (vf h228) (.cons h229 (.cons (bnf h230) (.cons (vf h231) (.cons (G_entry_None_ok n v_e17 _ h234) (.cons (vf h235) .nil)))))) q
      · rw [if_neg h230] at h
        cases h
        exact pkk_sound TTok mix hF 5 (hs := [.t false, .c, .t true, .c, .c, .c, .t true]) (ts := []) (s := []) (l := [22]) (by kernel_rfl) (by kernel_rfl) (.cons (vf h228) (.cons h229 (.cons (bnt (vf h230)) .nil))) q
    · rw [if_neg h229] at h
      by_cases h236 : v_e17.fUsed = true
      · rw [if_pos h236] at h
        by_cases h237 : v_e17.fHere = true
        · rw [if_pos h237] at h
          obtain ⟨v_r167, h238, h⟩ := bind_some h
          by_cases h239 : v_r167 = true
          · rw [if_pos h239] at h
            cases h
            exact pkk_sound TTok mix hF 8 (hs := [.t false, .c, .t false, .c, .c, .c, .c, .t true, .c, .c, .c, .t false, .c, .r (eB v_r167), .t true, .c, .c, .c, .q (eqS_entry_Entry v_e17 (S_entry_Entry.mk false false 0 0 false false false))]) (ts := []) (s := []) (l := [22]) (by kernel_rfl) (by kernel_rfl) (.cons (vf h228) (.cons (vf h229) (.cons h236 (.cons (bnf h237) (.cons (G_entry_None_ok n v_e17 _ h238) (.cons h239 (.cons (eqS_entry_Entry_ok v_e17 (S_entry_Entry.mk false false 0 0 false false false)) .nil))))))) q
          · rw [if_neg h239] at h
            cases h
            exact pkk_sound TTok mix hF 8 (hs := [.t false, .c, .t false, .c, .c, .c, .c, .t true, .c, .c, .c, .t false, .c, .r (eB v_r167), .t false, .c, .c]) (ts := []) (s := []) (l := [22]) (by kernel_rfl) (by kernel_rfl) (.cons (vf h228) (.cons (vf h229) (.cons h236 (.cons (bnf h237) (.cons (G_entry_None_ok n v_e17 _ h238) (.cons (vf h239) .nil)))))) q
        · rw [if_neg h237] at h
          cases h
          exact pkk_sound TTok mix hF 8 (hs := [.t false, .c, .t false, .c, .c, .c, .c, .t true, .c, .c, .c, .t true]) (ts := []) (s := []) (l := [22]) (by kernel_rfl) (by kernel_rfl) (.cons (vf h228) (.cons (vf h229) (.cons h236 (.cons (bnt (vf h237)) .nil)))) q
      · rw [if_neg h236] at h
        obtain ⟨v_r170, h240, h⟩ := bind_some h
        by_cases h241 : v_r170 = true
        · rw [if_pos h241] at h
          cases h
          exact pkk_sound TTok mix hF 8 (hs := [.t false, .c, .t false, .c, .c, .c, .c, .t false, .c, .c, .c, .c, .r (eB v_r170), .t true, .c, .c, .c, .q (eqS_entry_Entry v_e17 (S_entry_Entry.mk false false 0 0 false false false))]) (ts := []) (s := []) (l := [22]) (by kernel_rfl) (by kernel_rfl) (.cons (vf h228) (.cons (vf h229) (.cons (vf h236) (.cons (G_entry_None_ok n v_e17 _ h240) (.cons h241 (.cons (eqS_entry_Entry_ok v_e17 (S_entry_Entry.mk false false 0 0 false false false)) .nil)))))) q
        · rw [if_neg h241] at h
          cases h
          exact pkk_sound TTok mix hF 8 (hs := [.t false, .c, .t false, .c, .c, .c, .c, .t false, .c, .c, .c, .c, .r (eB v_r170), .t false, .c, .c]) (ts := []) (s := []) (l := [22]) (by kernel_rfl) (by kernel_rfl) (.cons (vf h228) (.cons (vf h229) (.cons (vf h236) (.cons (G_entry_None_ok n v_e17 _ h240) (.cons (vf h241) .nil))))) q
inductive G_entry_Check_C3_R where
  | x0 (v_x179 : Bool)
def G_entry_Check_C3_ex : G_entry_Check_C3_R → Ex
  | .x0 _ => .normal
def G_entry_Check_C3_st (v_e17 : S_entry_Entry) : G_entry_Check_C3_R → PS
  | .x0 v_x179 => ⟨[dd, dd, dd, dd, dd, dd, dd, dd, dd, dd, dd, dd, dd, dd, dd, dd, dd, dd, dd, dd, dd, dd, .d (.v (.bool v_x179)), dd, dd, dd, dd, dd, dd, dd, dd, dd, dd, dd, dd, dd, dd, dd, dd, dd, dd, dd, dd, dd, dd, dd, dd, dd, dd, dd], []⟩
def G_entry_Check_C3_hd (v_e17 : S_entry_Entry)  : PS := ⟨[dd, .ref 0 0, dd, dd, dd, dd, dd, dd, dd, dd, dd, dd, dd, dd, dd, dd, dd, dd, dd, dd, dd, dd, .d (.v (.bool false)), dd, dd, dd, dd, dd, dd, dd, dd, dd, dd, dd, dd, dd, dd, dd, dd, dd, dd, dd, dd, dd, dd, dd, dd, dd, dd, dd], [.box [.d (.v (.bool v_e17.fHere)), .d (.v (.bool v_e17.fSlot)), .d (.v (.int .i64 v_e17.fAt)), .d (.v (.int .i64 v_e17.fRights)), .d (.v (.bool v_e17.fUsed)), .d (.v (.bool v_e17.fDirty)), .d (.v (.bool v_e17.fCopy))]]⟩
def G_entry_Check_C3 (n : Nat) (v_e17 : S_entry_Entry) : Option G_entry_Check_C3_R :=
  if v_e17.fDirty = true then
   if v_e17.fHere = true then
    if v_e17.fUsed = true then
     (G_entry_None n v_e17).bind fun (v_r180 : (Bool)) =>
     if v_r180 = true then
      some (.x0 (eqRes .neq (eqS_entry_Entry v_e17 (S_entry_Entry.mk false false 0 0 false false false))))
     else
      some (.x0 false)
    else
     (G_entry_None n v_e17).bind fun (v_r183 : (Bool)) =>
     if v_r183 = true then
      some (.x0 (eqRes .neq (eqS_entry_Entry v_e17 (S_entry_Entry.mk false false 0 0 false false false))))
     else
      some (.x0 false)
   else
    some (.x0 true)
  else
   if v_e17.fUsed = true then
    if v_e17.fHere = true then
     (G_entry_None n v_e17).bind fun (v_r187 : (Bool)) =>
     if v_r187 = true then
      some (.x0 (eqRes .neq (eqS_entry_Entry v_e17 (S_entry_Entry.mk false false 0 0 false false false))))
     else
      some (.x0 false)
    else
     some (.x0 true)
   else
    (G_entry_None n v_e17).bind fun (v_r190 : (Bool)) =>
    if v_r190 = true then
     some (.x0 (eqRes .neq (eqS_entry_Entry v_e17 (S_entry_Entry.mk false false 0 0 false false false))))
    else
     some (.x0 false)
theorem G_entry_Check_C3_ok {Fi : Ex → PS → Prop} (hF : KC 50 Fi) (ks : List Fr) (n : Nat) (v_e17 : S_entry_Entry)  (o : G_entry_Check_C3_R) (h : G_entry_Check_C3 n v_e17 = some o) (q : RunE Try.prog 50 Fi ks (G_entry_Check_C3_ex o) (G_entry_Check_C3_st v_e17 o)) : RunE Try.prog 50 Fi (.s (cR (cL (cF (cR (cB (cL (cR (bodyOf Try.f111)))))))) :: ks) .normal (G_entry_Check_C3_hd v_e17) := by
  unfold G_entry_Check_C3 at h
  by_cases h257 : v_e17.fDirty = true
  · rw [if_pos h257] at h
    by_cases h258 : v_e17.fHere = true
    · rw [if_pos h258] at h
      by_cases h259 : v_e17.fUsed = true
      · rw [if_pos h259] at h
        obtain ⟨v_r180, h260, h⟩ := bind_some h
        by_cases h261 : v_r180 = true
        · rw [if_pos h261] at h
          cases h
          exact pkk_sound TTok mix hF 8 (hs := [.c, .c, .t true, .c, .c, .c, .t false, .c, .t true, .c, .c, .c, .t false, .c, .r (eB v_r180), .t true, .c, .c, .c, .q (eqS_entry_Entry v_e17 (S_entry_Entry.mk false false 0 0 false false false))]) (ts := []) (s := []) (l := [22]) (by kernel_rfl) (by kernel_rfl) (.cons h257 (.cons (bnf h258) (.cons h259 (.cons (bnf h258) (.cons (G_entry_None_ok n v_e17 _ h260) (.cons h261 (.cons (eqS_entry_Entry_ok v_e17 (S_entry_Entry.mk false false 0 0 false false false)) .nil))))))) q
        · rw [if_neg h261] at h
          cases h
          exact pkk_sound TTok mix hF 8 (hs := [.c, .c, .t true, .c, .c, .c, .t false, .c, .t true, .c, .c, .c, .t false, .c, .r (eB v_r180), .t false, .c, .c]) (ts := []) (s := []) (l := [22]) (by kernel_rfl) (by kernel_rfl) (.cons h257 (.cons (bnf h258) (.cons h259 (.cons (bnf h258) (.cons (G_entry_None_ok n v_e17 _ h260) (.cons (vf h261) .nil)))))) q
      · rw [if_neg h259] at h
        obtain ⟨v_r183, h262, h⟩ := bind_some h
        by_cases h263 : v_r183 = true
        · rw [if_pos h263] at h
          cases h
          exact pkk_sound TTok mix hF 8 (hs := [.c, .c, .t true, .c, .c, .c, .t false, .c, .t false, .c, .c, .c, .c, .r (eB v_r183), .t true, .c, .c, .c, .q (eqS_entry_Entry v_e17 (S_entry_Entry.mk false false 0 0 false false false))]) (ts := []) (s := []) (l := [22]) (by kernel_rfl) (by kernel_rfl) (.cons h257 (.cons (bnf h258) (.cons (vf h259) (.cons (G_entry_None_ok n v_e17 _ h262) (.cons h263 (.cons (eqS_entry_Entry_ok v_e17 (S_entry_Entry.mk false false 0 0 false false false)) .nil)))))) q
        · rw [if_neg h263] at h
          cases h
          exact pkk_sound TTok mix hF 8 (hs := [.c, .c, .t true, .c, .c, .c, .t false, .c, .t false, .c, .c, .c, .c, .r (eB v_r183), .t false, .c, .c]) (ts := []) (s := []) (l := [22]) (by kernel_rfl) (by kernel_rfl) (.cons h257 (.cons (bnf h258) (.cons (vf h259) (.cons (G_entry_None_ok n v_e17 _ h262) (.cons (vf h263) .nil))))) q
    · rw [if_neg h258] at h
      cases h
      exact pkk_sound TTok mix hF 5 (hs := [.c, .c, .t true, .c, .c, .c, .t true]) (ts := []) (s := []) (l := [22]) (by kernel_rfl) (by kernel_rfl) (.cons h257 (.cons (bnt (vf h258)) .nil)) q
  · rw [if_neg h257] at h
    by_cases h264 : v_e17.fUsed = true
    · rw [if_pos h264] at h
      by_cases h265 : v_e17.fHere = true
      · rw [if_pos h265] at h
        obtain ⟨v_r187, h266, h⟩ := bind_some h
        by_cases h267 : v_r187 = true
        · rw [if_pos h267] at h
          cases h
          exact pkk_sound TTok mix hF 8 (hs := [.c, .c, .t false, .c, .c, .c, .c, .t true, .c, .c, .c, .t false, .c, .r (eB v_r187), .t true, .c, .c, .c, .q (eqS_entry_Entry v_e17 (S_entry_Entry.mk false false 0 0 false false false))]) (ts := []) (s := []) (l := [22]) (by kernel_rfl) (by kernel_rfl) (.cons (vf h257) (.cons h264 (.cons (bnf h265) (.cons (G_entry_None_ok n v_e17 _ h266) (.cons h267 (.cons (eqS_entry_Entry_ok v_e17 (S_entry_Entry.mk false false 0 0 false false false)) .nil)))))) q
        · rw [if_neg h267] at h
          cases h
          exact pkk_sound TTok mix hF 8 (hs := [.c, .c, .t false, .c, .c, .c, .c, .t true, .c, .c, .c, .t false, .c, .r (eB v_r187), .t false, .c, .c]) (ts := []) (s := []) (l := [22]) (by kernel_rfl) (by kernel_rfl) (.cons (vf h257) (.cons h264 (.cons (bnf h265) (.cons (G_entry_None_ok n v_e17 _ h266) (.cons (vf h267) .nil))))) q
      · rw [if_neg h265] at h
        cases h
        exact pkk_sound TTok mix hF 8 (hs := [.c, .c, .t false, .c, .c, .c, .c, .t true, .c, .c, .c, .t true]) (ts := []) (s := []) (l := [22]) (by kernel_rfl) (by kernel_rfl) (.cons (vf h257) (.cons h264 (.cons (bnt (vf h265)) .nil))) q
    · rw [if_neg h264] at h
      obtain ⟨v_r190, h268, h⟩ := bind_some h
      by_cases h269 : v_r190 = true
      · rw [if_pos h269] at h
        cases h
        exact pkk_sound TTok mix hF 8 (hs := [.c, .c, .t false, .c, .c, .c, .c, .t false, .c, .c, .c, .c, .r (eB v_r190), .t true, .c, .c, .c, .q (eqS_entry_Entry v_e17 (S_entry_Entry.mk false false 0 0 false false false))]) (ts := []) (s := []) (l := [22]) (by kernel_rfl) (by kernel_rfl) (.cons (vf h257) (.cons (vf h264) (.cons (G_entry_None_ok n v_e17 _ h268) (.cons h269 (.cons (eqS_entry_Entry_ok v_e17 (S_entry_Entry.mk false false 0 0 false false false)) .nil))))) q
      · rw [if_neg h269] at h
        cases h
        exact pkk_sound TTok mix hF 8 (hs := [.c, .c, .t false, .c, .c, .c, .c, .t false, .c, .c, .c, .c, .r (eB v_r190), .t false, .c, .c]) (ts := []) (s := []) (l := [22]) (by kernel_rfl) (by kernel_rfl) (.cons (vf h257) (.cons (vf h264) (.cons (G_entry_None_ok n v_e17 _ h268) (.cons (vf h269) .nil)))) q
/- ringhall/entry.Check -/
def G_entry_Check (n : Nat) (v_e17 : S_entry_Entry) : Option (Int) :=
  (G_entry_Check_C1 n v_e17).bind fun v_o111 => match v_o111 with
  | .x0 v_z112 =>
    if v_z112 = true then
     some 1
    else
     if v_e17.fHere = true then
      (G_entry_Check_C2 n v_e17).bind fun v_o173 => match v_o173 with
      | .x0 v_z174 =>
        if v_z174 = true then
         some 3
        else
         some 0
     else
      (G_entry_Check_C3 n v_e17).bind fun v_o193 => match v_o193 with
      | .x0 v_z194 =>
        if v_z194 = true then
         some 3
        else
         some 0
theorem G_entry_Check_ok (n : Nat) (v_e17 : S_entry_Entry) (r : Int) (h : G_entry_Check n v_e17 = some r) : Ret Try.prog 111 [eS_entry_Entry v_e17] ((eI .i64) r) := by
  refine ret_run (n := 50) (fn := Try.f111) (c := bodyOf Try.f111) (by kernel_rfl) (by kernel_rfl) (by kernel_rfl) (by kernel_rfl) ?_
  have hF : KC 50 (FinR Try.prog Try.f111 ((eI .i64) r)) := FinR.kc' (by kernel_rfl)
  unfold G_entry_Check at h
  obtain ⟨v_o111, h151, h⟩ := bind_some h
  refine pkk_sound TTok mix hF 5 (hs := []) (ts := []) (s := [0]) (l := [1]) (by kernel_rfl) (by kernel_rfl) .nil (G_entry_Check_C1_ok hF (.s (cR (cB (cL (cR (bodyOf Try.f111))))) :: .b 0 :: .s (cR (cR (bodyOf Try.f111))) :: []) n v_e17 _ h151 ?_)
  cases v_o111 with
  | x0 v_z112 =>
    dsimp only at h
    by_cases h212 : v_z112 = true
    · rw [if_pos h212] at h
      obtain rfl := Option.some.inj h
      exact pend_sound TTok mix 6 (hs := [.t true]) (by kernel_rfl) (by kernel_rfl) (by kernel_rfl) (.cons h212 .nil)
    · rw [if_neg h212] at h
      by_cases h213 : v_e17.fHere = true
      · rw [if_pos h213] at h
        obtain ⟨v_o173, h242, h⟩ := bind_some h
        refine pkk_sound TTok mix hF 4 (hs := [.t false, .c, .t true, .c, .c]) (ts := []) (s := [0]) (l := [1, 22]) (by kernel_rfl) (by kernel_rfl) (.cons (vf h212) (.cons h213 .nil)) (G_entry_Check_C2_ok hF (.s (cR (cF (cR (cB (cL (cR (bodyOf Try.f111))))))) :: .b 0 :: .s (cR (cR (bodyOf Try.f111))) :: []) n v_e17 _ h242 ?_)
        cases v_o173 with
        | x0 v_z174 =>
          dsimp only at h
          by_cases h243 : v_z174 = true
          · rw [if_pos h243] at h
            obtain rfl := Option.some.inj h
            exact pend_sound TTok mix 6 (hs := [.t true]) (by kernel_rfl) (by kernel_rfl) (by kernel_rfl) (.cons h243 .nil)
          · rw [if_neg h243] at h
            obtain rfl := Option.some.inj h
            exact pend_sound TTok mix 6 (hs := [.t false]) (by kernel_rfl) (by kernel_rfl) (by kernel_rfl) (.cons (vf h243) .nil)
      · rw [if_neg h213] at h
        obtain ⟨v_o193, h270, h⟩ := bind_some h
        refine pkk_sound TTok mix hF 4 (hs := [.t false, .c, .t false, .c]) (ts := []) (s := [0]) (l := [1, 22]) (by kernel_rfl) (by kernel_rfl) (.cons (vf h212) (.cons (vf h213) .nil)) (G_entry_Check_C3_ok hF (.s (cR (cF (cR (cB (cL (cR (bodyOf Try.f111))))))) :: .b 0 :: .s (cR (cR (bodyOf Try.f111))) :: []) n v_e17 _ h270 ?_)
        cases v_o193 with
        | x0 v_z194 =>
          dsimp only at h
          by_cases h271 : v_z194 = true
          · rw [if_pos h271] at h
            obtain rfl := Option.some.inj h
            exact pend_sound TTok mix 6 (hs := [.t true]) (by kernel_rfl) (by kernel_rfl) (by kernel_rfl) (.cons h271 .nil)
          · rw [if_neg h271] at h
            obtain rfl := Option.some.inj h
            exact pend_sound TTok mix 6 (hs := [.t false]) (by kernel_rfl) (by kernel_rfl) (by kernel_rfl) (.cons (vf h271) .nil)
inductive G_fault_Check_C1_R where
  | x0 (v_x11 : Bool)
def G_fault_Check_C1_ex : G_fault_Check_C1_R → Ex
  | .x0 _ => .normal
def G_fault_Check_C1_st (v_c4 : S_fault_Case) : G_fault_Check_C1_R → PS
  | .x0 v_x11 => ⟨[dd, .ref 0 0, dd, dd, dd, .d (.v (.bool v_x11)), dd, dd, dd, dd, dd, dd, dd, dd, dd, dd, dd, dd, dd, dd, dd, dd, dd, dd, dd, dd, dd, dd, dd, dd, dd, dd, dd, dd, dd, dd, dd, dd, dd, dd, dd, dd, dd, dd, dd, dd, dd, dd, dd, dd, dd, dd], [.box [.d (.v (.int .i64 v_c4.fArea)), .d (.v (.bool v_c4.fEntry.fHere)), .d (.v (.bool v_c4.fEntry.fSlot)), .d (.v (.int .i64 v_c4.fEntry.fAt)), .d (.v (.int .i64 v_c4.fEntry.fRights)), .d (.v (.bool v_c4.fEntry.fUsed)), .d (.v (.bool v_c4.fEntry.fDirty)), .d (.v (.bool v_c4.fEntry.fCopy)), .d (.v (.int .i64 v_c4.fMany)), .d (.v (.int .i64 v_c4.fWant))]]⟩
def G_fault_Check_C1_hd (v_c4 : S_fault_Case)  : PS := ⟨[dd, .ref 0 0, dd, dd, dd, dd, dd, dd, dd, dd, dd, dd, dd, dd, dd, dd, dd, dd, dd, dd, dd, dd, dd, dd, dd, dd, dd, dd, dd, dd, dd, dd, dd, dd, dd, dd, dd, dd, dd, dd, dd, dd, dd, dd, dd, dd, dd, dd, dd, dd, dd, dd], [.box [.d (.v (.int .i64 v_c4.fArea)), .d (.v (.bool v_c4.fEntry.fHere)), .d (.v (.bool v_c4.fEntry.fSlot)), .d (.v (.int .i64 v_c4.fEntry.fAt)), .d (.v (.int .i64 v_c4.fEntry.fRights)), .d (.v (.bool v_c4.fEntry.fUsed)), .d (.v (.bool v_c4.fEntry.fDirty)), .d (.v (.bool v_c4.fEntry.fCopy)), .d (.v (.int .i64 v_c4.fMany)), .d (.v (.int .i64 v_c4.fWant))]]⟩
def G_fault_Check_C1 (n : Nat) (v_c4 : S_fault_Case) : Option G_fault_Check_C1_R :=
  if v_c4.fArea < (-1) then
   some (.x0 true)
  else
   if v_c4.fArea > 7 then
    some (.x0 true)
   else
    if v_c4.fWant < 1 then
     some (.x0 true)
    else
     some (.x0 (decide (v_c4.fWant > 7)))
theorem G_fault_Check_C1_ok {Fi : Ex → PS → Prop} (hF : KC 52 Fi) (ks : List Fr) (n : Nat) (v_c4 : S_fault_Case)  (o : G_fault_Check_C1_R) (h : G_fault_Check_C1 n v_c4 = some o) (q : RunE Try.prog 52 Fi ks (G_fault_Check_C1_ex o) (G_fault_Check_C1_st v_c4 o)) : RunE Try.prog 52 Fi (.s (cL (cB (cL (cR (bodyOf Try.f55))))) :: ks) .normal (G_fault_Check_C1_hd v_c4) := by
  unfold G_fault_Check_C1 at h
  by_cases h12 : v_c4.fArea < (-1)
  · rw [if_pos h12] at h
    cases h
    exact pkk_sound TTok mix hF 1 (hs := [.c, .t true, .c, .c, .c, .c, .c, .c, .c, .c]) (ts := []) (s := [0]) (l := [1, 5]) (by kernel_rfl) (by kernel_rfl) (.cons (dt h12) .nil) q
  · rw [if_neg h12] at h
    by_cases h13 : v_c4.fArea > 7
    · rw [if_pos h13] at h
      cases h
      exact pkk_sound TTok mix hF 1 (hs := [.c, .t false, .c, .c, .c, .t true, .c, .c, .c, .c, .c]) (ts := []) (s := [0]) (l := [1, 5]) (by kernel_rfl) (by kernel_rfl) (.cons (df h12) (.cons (dt h13) .nil)) q
    · rw [if_neg h13] at h
      by_cases h14 : v_c4.fWant < 1
      · rw [if_pos h14] at h
        cases h
        exact pkk_sound TTok mix hF 1 (hs := [.c, .t false, .c, .c, .c, .t false, .c, .c, .c, .t true, .c, .c]) (ts := []) (s := [0]) (l := [1, 5]) (by kernel_rfl) (by kernel_rfl) (.cons (df h12) (.cons (df h13) (.cons (dt h14) .nil))) q
      · rw [if_neg h14] at h
        cases h
        exact pkk_sound TTok mix hF 1 (hs := [.c, .t false, .c, .c, .c, .t false, .c, .c, .c, .t false, .c, .c, .c]) (ts := []) (s := [0]) (l := [1, 5]) (by kernel_rfl) (by kernel_rfl) (.cons (df h12) (.cons (df h13) (.cons (df h14) .nil))) q
inductive G_fault_Check_C2_R where
  | x0 (v_x197 : Bool)
def G_fault_Check_C2_ex : G_fault_Check_C2_R → Ex
  | .x0 _ => .normal
def G_fault_Check_C2_st (v_r196 : (Bool)) (v_c4 : S_fault_Case) : G_fault_Check_C2_R → PS
  | .x0 v_x197 => ⟨[dd, dd, dd, dd, dd, dd, dd, dd, dd, dd, dd, dd, dd, dd, dd, dd, dd, dd, dd, dd, dd, dd, dd, dd, dd, dd, dd, dd, dd, dd, dd, dd, dd, dd, dd, dd, dd, dd, dd, dd, dd, dd, dd, dd, dd, dd, dd, dd, dd, dd, dd, .d (.v (.bool v_x197))], []⟩
def G_fault_Check_C2_hd (v_r196 : (Bool)) (v_c4 : S_fault_Case)  : PS := ⟨[dd, .ref 0 0, dd, dd, .d (.v (.bool v_r196)), dd, dd, dd, dd, dd, dd, dd, dd, dd, dd, dd, dd, dd, dd, dd, dd, dd, dd, dd, dd, dd, dd, dd, dd, dd, dd, dd, dd, dd, dd, dd, dd, dd, dd, dd, dd, dd, dd, dd, dd, dd, dd, dd, dd, dd, dd, dd], [.box [.d (.v (.int .i64 v_c4.fArea)), .d (.v (.bool v_c4.fEntry.fHere)), .d (.v (.bool v_c4.fEntry.fSlot)), .d (.v (.int .i64 v_c4.fEntry.fAt)), .d (.v (.int .i64 v_c4.fEntry.fRights)), .d (.v (.bool v_c4.fEntry.fUsed)), .d (.v (.bool v_c4.fEntry.fDirty)), .d (.v (.bool v_c4.fEntry.fCopy)), .d (.v (.int .i64 v_c4.fMany)), .d (.v (.int .i64 v_c4.fWant))]]⟩
def G_fault_Check_C2 (n : Nat) (v_r196 : (Bool)) (v_c4 : S_fault_Case) : Option G_fault_Check_C2_R :=
  if v_c4.fMany < 0 then
   some (.x0 true)
  else
   if (eqRes .neq (v_r196 == (v_c4.fMany == 0))) = true then
    some (.x0 true)
   else
    if v_c4.fArea < 0 then
     some (.x0 (!v_r196))
    else
     some (.x0 false)
theorem G_fault_Check_C2_ok {Fi : Ex → PS → Prop} (hF : KC 52 Fi) (ks : List Fr) (n : Nat) (v_r196 : (Bool)) (v_c4 : S_fault_Case)  (o : G_fault_Check_C2_R) (h : G_fault_Check_C2 n v_r196 v_c4 = some o) (q : RunE Try.prog 52 Fi ks (G_fault_Check_C2_ex o) (G_fault_Check_C2_st v_r196 v_c4 o)) : RunE Try.prog 52 Fi (.s (cL (cR (cL (cR (cR (cR (bodyOf Try.f55))))))) :: ks) .normal (G_fault_Check_C2_hd v_r196 v_c4) := by
  unfold G_fault_Check_C2 at h
  by_cases h278 : v_c4.fMany < 0
  · rw [if_pos h278] at h
    cases h
    exact pkk_sound TTok mix hF 1 (hs := [.c, .t true, .c, .c, .c, .c, .c, .c, .c, .c, .c]) (ts := []) (s := []) (l := [51]) (by kernel_rfl) (by kernel_rfl) (.cons (dt h278) .nil) q
  · rw [if_neg h278] at h
    by_cases h279 : (eqRes .neq (v_r196 == (v_c4.fMany == 0))) = true
    · rw [if_pos h279] at h
      cases h
      exact pkk_sound TTok mix hF 1 (hs := [.c, .t false, .c, .c, .c, .c, .c, .t true, .c, .c, .c, .c]) (ts := []) (s := []) (l := [51]) (by kernel_rfl) (by kernel_rfl) (.cons (df h278) (.cons h279 .nil)) q
    · rw [if_neg h279] at h
      by_cases h280 : v_c4.fArea < 0
      · rw [if_pos h280] at h
        cases h
        exact pkk_sound TTok mix hF 1 (hs := [.c, .t false, .c, .c, .c, .c, .c, .t false, .c, .c, .c, .c, .t true, .c, .c]) (ts := []) (s := []) (l := [51]) (by kernel_rfl) (by kernel_rfl) (.cons (df h278) (.cons (vf h279) (.cons (dt h280) .nil))) q
      · rw [if_neg h280] at h
        cases h
        exact pkk_sound TTok mix hF 1 (hs := [.c, .t false, .c, .c, .c, .c, .c, .t false, .c, .c, .c, .c, .t false, .c, .c]) (ts := []) (s := []) (l := [51]) (by kernel_rfl) (by kernel_rfl) (.cons (df h278) (.cons (vf h279) (.cons (df h280) .nil))) q
/- ringhall/fault.Check -/
def G_fault_Check (n : Nat) (v_c4 : S_fault_Case) : Option (Int) :=
  (G_fault_Check_C1 n v_c4).bind fun v_o15 => match v_o15 with
  | .x0 v_z16 =>
    if v_z16 = true then
     some 1
    else
     (G_entry_Check n v_c4.fEntry).bind fun (v_r195 : (Int)) =>
     if v_r195 = 0 then
      (G_entry_None n v_c4.fEntry).bind fun (v_r196 : (Bool)) =>
      (G_fault_Check_C2 n v_r196 v_c4).bind fun v_o201 => match v_o201 with
      | .x0 v_z202 =>
        if v_z202 = true then
         some 3
        else
         some 0
     else
      some v_r195
theorem G_fault_Check_ok (n : Nat) (v_c4 : S_fault_Case) (r : Int) (h : G_fault_Check n v_c4 = some r) : Ret Try.prog 55 [eS_fault_Case v_c4] ((eI .i64) r) := by
  refine ret_run (n := 52) (fn := Try.f55) (c := bodyOf Try.f55) (by kernel_rfl) (by kernel_rfl) (by kernel_rfl) (by kernel_rfl) ?_
  have hF : KC 52 (FinR Try.prog Try.f55 ((eI .i64) r)) := FinR.kc' (by kernel_rfl)
  unfold G_fault_Check at h
  obtain ⟨v_o15, h15, h⟩ := bind_some h
  refine pkk_sound TTok mix hF 5 (hs := []) (ts := []) (s := [0]) (l := [1]) (by kernel_rfl) (by kernel_rfl) .nil (G_fault_Check_C1_ok hF (.s (cR (cB (cL (cR (bodyOf Try.f55))))) :: .b 0 :: .s (cR (cR (bodyOf Try.f55))) :: []) n v_c4 _ h15 ?_)
  cases v_o15 with
  | x0 v_z16 =>
    dsimp only at h
    by_cases h16 : v_z16 = true
    · rw [if_pos h16] at h
      obtain rfl := Option.some.inj h
      exact pend_sound TTok mix 6 (hs := [.t true]) (by kernel_rfl) (by kernel_rfl) (by kernel_rfl) (.cons h16 .nil)
    · rw [if_neg h16] at h
      obtain ⟨v_r195, h272, h⟩ := bind_some h
      by_cases h273 : v_r195 = 0
      · rw [if_pos h273] at h
        obtain ⟨v_r196, h274, h⟩ := bind_some h
        obtain ⟨v_o201, h281, h⟩ := bind_some h
        refine pkk_sound TTok mix hF 14 (hs := [.t false, .c, .r ((eI .i64) v_r195), .t false, .c, .r (eB v_r196)]) (ts := []) (s := [0]) (l := [1, 4]) (by kernel_rfl) (by kernel_rfl) (.cons (vf h16) (.cons (G_entry_Check_ok n v_c4.fEntry _ h272) (.cons (nf h273) (.cons (G_entry_None_ok n v_c4.fEntry _ h274) .nil)))) (G_fault_Check_C2_ok hF (.s (cR (cR (cL (cR (cR (cR (bodyOf Try.f55))))))) :: .s (cR (cR (cR (cR (bodyOf Try.f55))))) :: []) n v_r196 v_c4 _ h281 ?_)
        cases v_o201 with
        | x0 v_z202 =>
          dsimp only at h
          by_cases h282 : v_z202 = true
          · rw [if_pos h282] at h
            obtain rfl := Option.some.inj h
            exact pend_sound TTok mix 5 (hs := [.t true]) (by kernel_rfl) (by kernel_rfl) (by kernel_rfl) (.cons h282 .nil)
          · rw [if_neg h282] at h
            obtain rfl := Option.some.inj h
            exact pend_sound TTok mix 5 (hs := [.t false]) (by kernel_rfl) (by kernel_rfl) (by kernel_rfl) (.cons (vf h282) .nil)
      · rw [if_neg h273] at h
        obtain rfl := Option.some.inj h
        exact pend_sound TTok mix 13 (hs := [.t false, .c, .r ((eI .i64) v_r195), .t true]) (by kernel_rfl) (by kernel_rfl) (by kernel_rfl) (.cons (vf h16) (.cons (G_entry_Check_ok n v_c4.fEntry _ h272) (.cons (nt h273) .nil)))
inductive G_fault_Do_C1_R where
  | x0 (v_x235 : Bool)
def G_fault_Do_C1_ex : G_fault_Do_C1_R → Ex
  | .x0 _ => .normal
def G_fault_Do_C1_st (v_c3 : S_fault_Case) : G_fault_Do_C1_R → PS
  | .x0 v_x235 => ⟨[dd, .ref 0 0, dd, dd, dd, .d (.v (.bool ((bits .and .i64 v_c3.fWant 2) != 0))), dd, dd, dd, dd, dd, dd, dd, dd, dd, .d (.v (.bool v_x235)), dd, dd, dd, dd, dd, dd, dd, dd, dd, dd, dd, dd, dd, dd, dd, dd, dd, dd, dd, dd, dd, dd, dd, dd, dd, dd, dd, dd, dd, dd, dd, dd, dd, dd, dd, dd, dd, dd, dd, dd, dd, dd, dd, dd, dd, dd, dd], [.box [.d (.v (.int .i64 v_c3.fArea)), .d (.v (.bool v_c3.fEntry.fHere)), .d (.v (.bool v_c3.fEntry.fSlot)), .d (.v (.int .i64 v_c3.fEntry.fAt)), .d (.v (.int .i64 v_c3.fEntry.fRights)), .d (.v (.bool v_c3.fEntry.fUsed)), .d (.v (.bool v_c3.fEntry.fDirty)), .d (.v (.bool v_c3.fEntry.fCopy)), .d (.v (.int .i64 v_c3.fMany)), .d (.v (.int .i64 v_c3.fWant))]]⟩
def G_fault_Do_C1_hd (v_c3 : S_fault_Case)  : PS := ⟨[dd, .ref 0 0, dd, dd, dd, .d (.v (.bool ((bits .and .i64 v_c3.fWant 2) != 0))), dd, dd, dd, dd, dd, dd, dd, dd, dd, dd, dd, dd, dd, dd, dd, dd, dd, dd, dd, dd, dd, dd, dd, dd, dd, dd, dd, dd, dd, dd, dd, dd, dd, dd, dd, dd, dd, dd, dd, dd, dd, dd, dd, dd, dd, dd, dd, dd, dd, dd, dd, dd, dd, dd, dd, dd, dd], [.box [.d (.v (.int .i64 v_c3.fArea)), .d (.v (.bool v_c3.fEntry.fHere)), .d (.v (.bool v_c3.fEntry.fSlot)), .d (.v (.int .i64 v_c3.fEntry.fAt)), .d (.v (.int .i64 v_c3.fEntry.fRights)), .d (.v (.bool v_c3.fEntry.fUsed)), .d (.v (.bool v_c3.fEntry.fDirty)), .d (.v (.bool v_c3.fEntry.fCopy)), .d (.v (.int .i64 v_c3.fMany)), .d (.v (.int .i64 v_c3.fWant))]]⟩
def G_fault_Do_C1 (n : Nat) (v_c3 : S_fault_Case) : Option G_fault_Do_C1_R :=
  if v_c3.fArea < 0 then
   some (.x0 true)
  else
   some (.x0 ((bits .and .i64 v_c3.fArea v_c3.fWant) != v_c3.fWant))
theorem G_fault_Do_C1_ok {Fi : Ex → PS → Prop} (hF : KC 63 Fi) (ks : List Fr) (n : Nat) (v_c3 : S_fault_Case)  (o : G_fault_Do_C1_R) (h : G_fault_Do_C1 n v_c3 = some o) (q : RunE Try.prog 63 Fi ks (G_fault_Do_C1_ex o) (G_fault_Do_C1_st v_c3 o)) : RunE Try.prog 63 Fi (.s (cL (cB (cL (cR (cR (cR (bodyOf Try.f51))))))) :: ks) .normal (G_fault_Do_C1_hd v_c3) := by
  unfold G_fault_Do_C1 at h
  by_cases h349 : v_c3.fArea < 0
  · rw [if_pos h349] at h
    cases h
    exact pkk_sound TTok mix hF 1 (hs := [.c, .t true, .c, .c, .c, .c, .c, .c, .c]) (ts := []) (s := [0]) (l := [1, 5, 15]) (by kernel_rfl) (by kernel_rfl) (.cons (dt h349) .nil) q
  · rw [if_neg h349] at h
    cases h
    exact pkk_sound TTok mix hF 1 (hs := [.c, .t false, .c, .c, .c, .c, .c, .c, .c, .c, .c, .c]) (ts := []) (s := [0]) (l := [1, 5, 15]) (by kernel_rfl) (by kernel_rfl) (.cons (df h349) .nil) q
inductive G_fault_Do_C2_R where
  | x0 (v_x261 : Bool)
def G_fault_Do_C2_ex : G_fault_Do_C2_R → Ex
  | .x0 _ => .normal
def G_fault_Do_C2_st (v_c3 : S_fault_Case) : G_fault_Do_C2_R → PS
  | .x0 v_x261 => ⟨[dd, .ref 0 0, dd, dd, dd, .d (.v (.bool ((bits .and .i64 v_c3.fWant 2) != 0))), dd, dd, dd, dd, dd, dd, dd, dd, dd, dd, dd, dd, dd, dd, dd, dd, dd, dd, dd, dd, dd, dd, dd, dd, dd, dd, dd, dd, dd, dd, dd, dd, dd, dd, dd, dd, dd, dd, .d (.v (.bool v_x261)), dd, dd, dd, dd, dd, dd, dd, dd, dd, dd, dd, dd, dd, dd, dd, dd, dd, dd], [.box [.d (.v (.int .i64 v_c3.fArea)), .d (.v (.bool v_c3.fEntry.fHere)), .d (.v (.bool v_c3.fEntry.fSlot)), .d (.v (.int .i64 v_c3.fEntry.fAt)), .d (.v (.int .i64 v_c3.fEntry.fRights)), .d (.v (.bool v_c3.fEntry.fUsed)), .d (.v (.bool v_c3.fEntry.fDirty)), .d (.v (.bool v_c3.fEntry.fCopy)), .d (.v (.int .i64 v_c3.fMany)), .d (.v (.int .i64 v_c3.fWant))]]⟩
def G_fault_Do_C2_hd (v_c3 : S_fault_Case)  : PS := ⟨[dd, .ref 0 0, dd, dd, dd, .d (.v (.bool ((bits .and .i64 v_c3.fWant 2) != 0))), dd, dd, dd, dd, dd, dd, dd, dd, dd, dd, dd, dd, dd, dd, dd, dd, dd, dd, dd, dd, dd, dd, dd, dd, dd, dd, dd, dd, dd, dd, dd, dd, dd, dd, dd, dd, dd, dd, dd, dd, dd, dd, dd, dd, dd, dd, dd, dd, dd, dd, dd, dd, dd, dd, dd, dd, dd], [.box [.d (.v (.int .i64 v_c3.fArea)), .d (.v (.bool v_c3.fEntry.fHere)), .d (.v (.bool v_c3.fEntry.fSlot)), .d (.v (.int .i64 v_c3.fEntry.fAt)), .d (.v (.int .i64 v_c3.fEntry.fRights)), .d (.v (.bool v_c3.fEntry.fUsed)), .d (.v (.bool v_c3.fEntry.fDirty)), .d (.v (.bool v_c3.fEntry.fCopy)), .d (.v (.int .i64 v_c3.fMany)), .d (.v (.int .i64 v_c3.fWant))]]⟩
def G_fault_Do_C2 (n : Nat) (v_c3 : S_fault_Case) : Option G_fault_Do_C2_R :=
  if (bits .and .i64 v_c3.fWant 2) = 0 then
   some (.x0 false)
  else
   if v_c3.fEntry.fCopy = true then
    some (.x0 (decide (v_c3.fMany > 1)))
   else
    some (.x0 false)
theorem G_fault_Do_C2_ok {Fi : Ex → PS → Prop} (hF : KC 63 Fi) (ks : List Fr) (n : Nat) (v_c3 : S_fault_Case)  (o : G_fault_Do_C2_R) (h : G_fault_Do_C2 n v_c3 = some o) (q : RunE Try.prog 63 Fi ks (G_fault_Do_C2_ex o) (G_fault_Do_C2_st v_c3 o)) : RunE Try.prog 63 Fi (.s (cL (cF (cR (cF (cR (cF (cR (cF (cR (cB (cL (cR (cR (cR (bodyOf Try.f51))))))))))))))) :: ks) .normal (G_fault_Do_C2_hd v_c3) := by
  unfold G_fault_Do_C2 at h
  by_cases h401 : (bits .and .i64 v_c3.fWant 2) = 0
  · rw [if_pos h401] at h
    cases h
    exact pkk_sound TTok mix hF 1 (hs := [.t false, .c, .c, .c, .c, .c]) (ts := []) (s := [0]) (l := [1, 5, 44]) (by kernel_rfl) (by kernel_rfl) (.cons (nf h401) .nil) q
  · rw [if_neg h401] at h
    by_cases h402 : v_c3.fEntry.fCopy = true
    · rw [if_pos h402] at h
      cases h
      exact pkk_sound TTok mix hF 1 (hs := [.t true, .c, .c, .c, .t true, .c, .c, .c]) (ts := []) (s := [0]) (l := [1, 5, 44]) (by kernel_rfl) (by kernel_rfl) (.cons (nt h401) (.cons h402 .nil)) q
    · rw [if_neg h402] at h
      cases h
      exact pkk_sound TTok mix hF 1 (hs := [.t true, .c, .c, .c, .t false, .c, .c]) (ts := []) (s := [0]) (l := [1, 5, 44]) (by kernel_rfl) (by kernel_rfl) (.cons (nt h401) (.cons (vf h402) .nil)) q
/- ringhall/fault.Do -/
def G_fault_Do (n : Nat) (v_c3 : S_fault_Case) : Option (Int × Int) :=
  (G_fault_Check n v_c3).bind fun (v_r203 : (Int)) =>
  if v_r203 = 0 then
   (G_fault_Do_C1 n v_c3).bind fun v_o237 => match v_o237 with
   | .x0 v_z238 =>
     if v_z238 = true then
      some (1, 0)
     else
      (G_entry_None n v_c3.fEntry).bind fun (v_r245 : (Bool)) =>
      if v_r245 = true then
       some (2, 0)
      else
       if v_c3.fEntry.fSlot = true then
        some (3, 0)
       else
        if v_c3.fEntry.fRights = v_c3.fArea then
         (G_fault_Do_C2 n v_c3).bind fun v_o264 => match v_o264 with
         | .x0 v_z265 =>
           if v_z265 = true then
            some (4, 0)
           else
            if (bits .and .i64 v_c3.fWant 2) = 0 then
             some (0, 0)
            else
             if v_c3.fEntry.fCopy = true then
              some (5, 0)
             else
              some (0, 0)
        else
         some (6, 0)
  else
   some (0, v_r203)
theorem G_fault_Do_ok (n : Nat) (v_c3 : S_fault_Case) (r : Int × Int) (h : G_fault_Do n v_c3 = some r) : Ret Try.prog 51 [eS_fault_Case v_c3] (.tup [(eI .i64) r.1, (eI .i64) r.2]) := by
  refine ret_run (n := 63) (fn := Try.f51) (c := bodyOf Try.f51) (by kernel_rfl) (by kernel_rfl) (by kernel_rfl) (by kernel_rfl) ?_
  have hF : KC 63 (FinR Try.prog Try.f51 (.tup [(eI .i64) r.1, (eI .i64) r.2])) := FinR.kc' (by kernel_rfl)
  unfold G_fault_Do at h
  obtain ⟨v_r203, h283, h⟩ := bind_some h
  by_cases h285 : v_r203 = 0
  · rw [if_pos h285] at h
    obtain ⟨v_o237, h350, h⟩ := bind_some h
    refine pkk_sound TTok mix hF 14 (hs := [.c, .r ((eI .i64) v_r203), .t false, .c]) (ts := []) (s := [0]) (l := [1, 5]) (by kernel_rfl) (by kernel_rfl) (.cons (G_fault_Check_ok n v_c3 _ h283) (.cons (nf h285) .nil)) (G_fault_Do_C1_ok hF (.s (cR (cB (cL (cR (cR (cR (bodyOf Try.f51))))))) :: .b 0 :: .s (cR (cR (cR (cR (bodyOf Try.f51))))) :: []) n v_c3 _ h350 ?_)
    cases v_o237 with
    | x0 v_z238 =>
      dsimp only at h
      by_cases h364 : v_z238 = true
      · rw [if_pos h364] at h
        obtain rfl := Option.some.inj h
        exact pend_sound TTok mix 6 (hs := [.t true]) (by kernel_rfl) (by kernel_rfl) (by kernel_rfl) (.cons h364 .nil)
      · rw [if_neg h364] at h
        obtain ⟨v_r245, h365, h⟩ := bind_some h
        by_cases h377 : v_r245 = true
        · rw [if_pos h377] at h
          obtain rfl := Option.some.inj h
          exact pend_sound TTok mix 9 (hs := [.t false, .c, .r (eB v_r245), .t true]) (by kernel_rfl) (by kernel_rfl) (by kernel_rfl) (.cons (vf h364) (.cons (G_entry_None_ok n v_c3.fEntry _ h365) (.cons h377 .nil)))
        · rw [if_neg h377] at h
          by_cases h388 : v_c3.fEntry.fSlot = true
          · rw [if_pos h388] at h
            obtain rfl := Option.some.inj h
            exact pend_sound TTok mix 12 (hs := [.t false, .c, .r (eB v_r245), .t false, .c, .t true]) (by kernel_rfl) (by kernel_rfl) (by kernel_rfl) (.cons (vf h364) (.cons (G_entry_None_ok n v_c3.fEntry _ h365) (.cons (vf h377) (.cons h388 .nil))))
          · rw [if_neg h388] at h
            by_cases h398 : v_c3.fEntry.fRights = v_c3.fArea
            · rw [if_pos h398] at h
              obtain ⟨v_o264, h403, h⟩ := bind_some h
              refine pkk_sound TTok mix hF 11 (hs := [.t false, .c, .r (eB v_r245), .t false, .c, .t false, .c, .c, .t false]) (ts := []) (s := [0]) (l := [1, 5]) (by kernel_rfl) (by kernel_rfl) (.cons (vf h364) (.cons (G_entry_None_ok n v_c3.fEntry _ h365) (.cons (vf h377) (.cons (vf h388) (.cons (nf h398) .nil))))) (G_fault_Do_C2_ok hF (.s (cR (cF (cR (cF (cR (cF (cR (cF (cR (cB (cL (cR (cR (cR (bodyOf Try.f51))))))))))))))) :: .b 0 :: .s (cR (cR (cR (cR (bodyOf Try.f51))))) :: []) n v_c3 _ h403 ?_)
              cases v_o264 with
              | x0 v_z265 =>
                dsimp only at h
                by_cases h407 : v_z265 = true
                · rw [if_pos h407] at h
                  obtain rfl := Option.some.inj h
                  exact pend_sound TTok mix 6 (hs := [.t true]) (by kernel_rfl) (by kernel_rfl) (by kernel_rfl) (.cons h407 .nil)
                · rw [if_neg h407] at h
                  by_cases h408 : (bits .and .i64 v_c3.fWant 2) = 0
                  · rw [if_pos h408] at h
                    obtain rfl := Option.some.inj h
                    exact pend_sound TTok mix 9 (hs := [.t false, .t false, .c, .c, .c]) (by kernel_rfl) (by kernel_rfl) (by kernel_rfl) (.cons (vf h407) (.cons (nf h408) .nil))
                  · rw [if_neg h408] at h
                    by_cases h409 : v_c3.fEntry.fCopy = true
                    · rw [if_pos h409] at h
                      obtain rfl := Option.some.inj h
                      exact pend_sound TTok mix 9 (hs := [.t false, .t true, .c, .c, .c, .t true]) (by kernel_rfl) (by kernel_rfl) (by kernel_rfl) (.cons (vf h407) (.cons (nt h408) (.cons h409 .nil)))
                    · rw [if_neg h409] at h
                      obtain rfl := Option.some.inj h
                      exact pend_sound TTok mix 9 (hs := [.t false, .t true, .c, .c, .c, .t false]) (by kernel_rfl) (by kernel_rfl) (by kernel_rfl) (.cons (vf h407) (.cons (nt h408) (.cons (vf h409) .nil)))
            · rw [if_neg h398] at h
              obtain rfl := Option.some.inj h
              exact pend_sound TTok mix 15 (hs := [.t false, .c, .r (eB v_r245), .t false, .c, .t false, .c, .c, .t true]) (by kernel_rfl) (by kernel_rfl) (by kernel_rfl) (.cons (vf h364) (.cons (G_entry_None_ok n v_c3.fEntry _ h365) (.cons (vf h377) (.cons (vf h388) (.cons (nt h398) .nil)))))
  · rw [if_neg h285] at h
    obtain rfl := Option.some.inj h
    exact pend_sound TTok mix 12 (hs := [.c, .r ((eI .i64) v_r203), .t true]) (by kernel_rfl) (by kernel_rfl) (by kernel_rfl) (.cons (G_fault_Check_ok n v_c3 _ h283) (.cons (nt h285) .nil))
inductive G_fault_After_C1_R where
  | x0 
  | x1 
  | x2 
  | x3 
  | x4 
  | x5 
def G_fault_After_C1_ex : G_fault_After_C1_R → Ex
  | .x0  => .normal
  | .x1  => .normal
  | .x2  => .normal
  | .x3  => .normal
  | .x4  => .normal
  | .x5  => .normal
def G_fault_After_C1_st (v_t268 : Int) (v_r269 : (Int × Int)) (v_t267 : S_fault_Case) : G_fault_After_C1_R → PS
  | .x0  => ⟨[dd, dd, .ref 0 0, dd, .ref 1 0, dd, dd, dd, dd, dd, dd, dd, dd, dd, dd, dd, dd, dd, dd, dd, dd, dd, dd, dd, dd, dd, dd, dd, dd, dd, dd, dd, dd, dd, dd, dd, dd, dd, dd, dd, dd, dd, dd, dd, dd, dd, dd, dd, dd, dd, dd, dd, dd, dd, dd, dd, dd, dd, dd, dd, dd, dd, dd, dd, dd, dd, dd, dd, dd, dd, dd, dd, dd, dd, dd, dd, dd, dd, dd, dd], [.box [.d (.v (.int .i64 v_t267.fArea)), .d (.v (.bool true)), .d (.v (.bool false)), .d (.v (.int .i64 v_t268)), .d (.v (.int .i64 v_t267.fArea)), .d (.v (.bool false)), .d (.v (.bool false)), .d (.v (.bool false)), .d (.v (.int .i64 1)), .d (.v (.int .i64 v_t267.fWant))], .box [.d (.v (.int .i64 0)), .d (.v (.bool false)), .d (.v (.bool false)), .d (.v (.int .i64 0)), .d (.v (.int .i64 0)), .d (.v (.bool false)), .d (.v (.bool false)), .d (.v (.bool false)), .d (.v (.int .i64 0)), .d (.v (.int .i64 0))]]⟩
  | .x1  => ⟨[dd, dd, .ref 0 0, dd, .ref 1 0, dd, dd, dd, dd, dd, dd, dd, dd, dd, dd, dd, dd, dd, dd, dd, dd, dd, dd, dd, dd, dd, dd, dd, dd, dd, dd, dd, dd, dd, dd, dd, dd, dd, dd, dd, dd, dd, dd, dd, dd, dd, dd, dd, dd, dd, dd, dd, dd, dd, dd, dd, dd, dd, dd, dd, dd, dd, dd, dd, dd, dd, dd, dd, dd, dd, dd, dd, dd, dd, dd, dd, dd, dd, dd, dd], [.box [.d (.v (.int .i64 v_t267.fArea)), .d (.v (.bool true)), .d (.v (.bool false)), .d (.v (.int .i64 v_t268)), .d (.v (.int .i64 v_t267.fEntry.fRights)), .d (.v (.bool v_t267.fEntry.fUsed)), .d (.v (.bool v_t267.fEntry.fDirty)), .d (.v (.bool v_t267.fEntry.fCopy)), .d (.v (.int .i64 v_t267.fMany)), .d (.v (.int .i64 v_t267.fWant))], .box [.d (.v (.int .i64 0)), .d (.v (.bool false)), .d (.v (.bool false)), .d (.v (.int .i64 0)), .d (.v (.int .i64 0)), .d (.v (.bool false)), .d (.v (.bool false)), .d (.v (.bool false)), .d (.v (.int .i64 0)), .d (.v (.int .i64 0))]]⟩
  | .x2  => ⟨[dd, dd, .ref 0 0, dd, .ref 1 0, dd, dd, dd, dd, dd, dd, dd, dd, dd, dd, dd, dd, dd, dd, dd, dd, dd, dd, dd, dd, dd, dd, dd, dd, dd, dd, dd, dd, dd, dd, dd, dd, dd, dd, dd, dd, dd, dd, dd, dd, dd, dd, dd, dd, dd, dd, dd, dd, dd, dd, dd, dd, dd, dd, dd, dd, dd, dd, dd, dd, dd, dd, dd, dd, dd, dd, dd, dd, dd, dd, dd, dd, dd, dd, dd], [.box [.d (.v (.int .i64 v_t267.fArea)), .d (.v (.bool v_t267.fEntry.fHere)), .d (.v (.bool v_t267.fEntry.fSlot)), .d (.v (.int .i64 v_t268)), .d (.v (.int .i64 v_t267.fEntry.fRights)), .d (.v (.bool v_t267.fEntry.fUsed)), .d (.v (.bool true)), .d (.v (.bool false)), .d (.v (.int .i64 1)), .d (.v (.int .i64 v_t267.fWant))], .box [.d (.v (.int .i64 0)), .d (.v (.bool false)), .d (.v (.bool false)), .d (.v (.int .i64 0)), .d (.v (.int .i64 0)), .d (.v (.bool false)), .d (.v (.bool false)), .d (.v (.bool false)), .d (.v (.int .i64 0)), .d (.v (.int .i64 0))]]⟩
  | .x3  => ⟨[dd, dd, .ref 0 0, dd, .ref 1 0, dd, dd, dd, dd, dd, dd, dd, dd, dd, dd, dd, dd, dd, dd, dd, dd, dd, dd, dd, dd, dd, dd, dd, dd, dd, dd, dd, dd, dd, dd, dd, dd, dd, dd, dd, dd, dd, dd, dd, dd, dd, dd, dd, dd, dd, dd, dd, dd, dd, dd, dd, dd, dd, dd, dd, dd, dd, dd, dd, dd, dd, dd, dd, dd, dd, dd, dd, dd, dd, dd, dd, dd, dd, dd, dd], [.box [.d (.v (.int .i64 v_t267.fArea)), .d (.v (.bool v_t267.fEntry.fHere)), .d (.v (.bool v_t267.fEntry.fSlot)), .d (.v (.int .i64 v_t267.fEntry.fAt)), .d (.v (.int .i64 v_t267.fEntry.fRights)), .d (.v (.bool v_t267.fEntry.fUsed)), .d (.v (.bool v_t267.fEntry.fDirty)), .d (.v (.bool false)), .d (.v (.int .i64 v_t267.fMany)), .d (.v (.int .i64 v_t267.fWant))], .box [.d (.v (.int .i64 0)), .d (.v (.bool false)), .d (.v (.bool false)), .d (.v (.int .i64 0)), .d (.v (.int .i64 0)), .d (.v (.bool false)), .d (.v (.bool false)), .d (.v (.bool false)), .d (.v (.int .i64 0)), .d (.v (.int .i64 0))]]⟩
  | .x4  => ⟨[dd, dd, .ref 0 0, dd, .ref 1 0, dd, dd, dd, dd, dd, dd, dd, dd, dd, dd, dd, dd, dd, dd, dd, dd, dd, dd, dd, dd, dd, dd, dd, dd, dd, dd, dd, dd, dd, dd, dd, dd, dd, dd, dd, dd, dd, dd, dd, dd, dd, dd, dd, dd, dd, dd, dd, dd, dd, dd, dd, dd, dd, dd, dd, dd, dd, dd, dd, dd, dd, dd, dd, dd, dd, dd, dd, dd, dd, dd, dd, dd, dd, dd, dd], [.box [.d (.v (.int .i64 v_t267.fArea)), .d (.v (.bool v_t267.fEntry.fHere)), .d (.v (.bool v_t267.fEntry.fSlot)), .d (.v (.int .i64 v_t267.fEntry.fAt)), .d (.v (.int .i64 v_t267.fArea)), .d (.v (.bool v_t267.fEntry.fUsed)), .d (.v (.bool v_t267.fEntry.fDirty)), .d (.v (.bool v_t267.fEntry.fCopy)), .d (.v (.int .i64 v_t267.fMany)), .d (.v (.int .i64 v_t267.fWant))], .box [.d (.v (.int .i64 0)), .d (.v (.bool false)), .d (.v (.bool false)), .d (.v (.int .i64 0)), .d (.v (.int .i64 0)), .d (.v (.bool false)), .d (.v (.bool false)), .d (.v (.bool false)), .d (.v (.int .i64 0)), .d (.v (.int .i64 0))]]⟩
  | .x5  => ⟨[dd, dd, .ref 0 0, dd, .ref 1 0, dd, dd, dd, dd, dd, dd, dd, dd, dd, dd, dd, dd, dd, dd, dd, dd, dd, dd, dd, dd, dd, dd, dd, dd, dd, dd, dd, dd, dd, dd, dd, dd, dd, dd, dd, dd, dd, dd, dd, dd, dd, dd, dd, dd, dd, dd, dd, dd, dd, dd, dd, dd, dd, dd, dd, dd, dd, dd, dd, dd, dd, dd, dd, dd, dd, dd, dd, dd, dd, dd, dd, dd, dd, dd, dd], [.box [.d (.v (.int .i64 v_t267.fArea)), .d (.v (.bool v_t267.fEntry.fHere)), .d (.v (.bool v_t267.fEntry.fSlot)), .d (.v (.int .i64 v_t267.fEntry.fAt)), .d (.v (.int .i64 v_t267.fEntry.fRights)), .d (.v (.bool v_t267.fEntry.fUsed)), .d (.v (.bool v_t267.fEntry.fDirty)), .d (.v (.bool v_t267.fEntry.fCopy)), .d (.v (.int .i64 v_t267.fMany)), .d (.v (.int .i64 v_t267.fWant))], .box [.d (.v (.int .i64 0)), .d (.v (.bool false)), .d (.v (.bool false)), .d (.v (.int .i64 0)), .d (.v (.int .i64 0)), .d (.v (.bool false)), .d (.v (.bool false)), .d (.v (.bool false)), .d (.v (.int .i64 0)), .d (.v (.int .i64 0))]]⟩
def G_fault_After_C1_hd (v_t268 : Int) (v_r269 : (Int × Int)) (v_t267 : S_fault_Case)  : PS := ⟨[dd, .d (.v (.int .i64 v_t268)), .ref 0 0, dd, .ref 1 0, dd, dd, dd, .ref 0 1, dd, dd, dd, dd, dd, dd, dd, dd, dd, dd, dd, dd, dd, dd, dd, dd, dd, dd, dd, dd, dd, dd, dd, .d (.v (.int .i64 v_r269.1)), .d (.v (.bool (v_r269.1 == 2))), dd, dd, dd, dd, dd, dd, dd, dd, dd, dd, dd, dd, dd, dd, dd, dd, dd, dd, dd, dd, dd, dd, dd, dd, dd, dd, dd, dd, dd, dd, dd, dd, dd, dd, dd, dd, dd, dd, dd, dd, dd, dd, dd, dd, dd, dd], [.box [.d (.v (.int .i64 v_t267.fArea)), .d (.v (.bool v_t267.fEntry.fHere)), .d (.v (.bool v_t267.fEntry.fSlot)), .d (.v (.int .i64 v_t267.fEntry.fAt)), .d (.v (.int .i64 v_t267.fEntry.fRights)), .d (.v (.bool v_t267.fEntry.fUsed)), .d (.v (.bool v_t267.fEntry.fDirty)), .d (.v (.bool v_t267.fEntry.fCopy)), .d (.v (.int .i64 v_t267.fMany)), .d (.v (.int .i64 v_t267.fWant))], .box [.d (.v (.int .i64 0)), .d (.v (.bool false)), .d (.v (.bool false)), .d (.v (.int .i64 0)), .d (.v (.int .i64 0)), .d (.v (.bool false)), .d (.v (.bool false)), .d (.v (.bool false)), .d (.v (.int .i64 0)), .d (.v (.int .i64 0))]]⟩
def G_fault_After_C1 (n : Nat) (v_t268 : Int) (v_r269 : (Int × Int)) (v_t267 : S_fault_Case) : Option G_fault_After_C1_R :=
  if v_r269.1 = 2 then
   some (.x0 )
  else
   if v_r269.1 = 3 then
    some (.x1 )
   else
    if v_r269.1 = 4 then
     some (.x2 )
    else
     if v_r269.1 = 5 then
      some (.x3 )
     else
      if v_r269.1 = 6 then
       some (.x4 )
      else
       some (.x5 )
theorem G_fault_After_C1_ok {Fi : Ex → PS → Prop} (hF : KC 80 Fi) (ks : List Fr) (n : Nat) (v_t268 : Int) (v_r269 : (Int × Int)) (v_t267 : S_fault_Case)  (o : G_fault_After_C1_R) (h : G_fault_After_C1 n v_t268 v_r269 v_t267 = some o) (q : RunE Try.prog 80 Fi ks (G_fault_After_C1_ex o) (G_fault_After_C1_st v_t268 v_r269 v_t267 o)) : RunE Try.prog 80 Fi (.s (cR (cB (cR (cL (cR (cR (cR (cR (bodyOf Try.f52))))))))) :: ks) .normal (G_fault_After_C1_hd v_t268 v_r269 v_t267) := by
  unfold G_fault_After_C1 at h
  by_cases h450 : v_r269.1 = 2
  · rw [if_pos h450] at h
    cases h
    exact pkk_sound TTok mix hF 4 (hs := [.t true, .c, .c, .c]) (ts := []) (s := [0, 1]) (l := [2, 4]) (by kernel_rfl) (by kernel_rfl) (.cons (bt h450) (.cons (show 1 + 7 ≤ 10 by decide) (.cons (show 8 + 1 ≤ 10 by decide) .nil))) q
  · rw [if_neg h450] at h
    by_cases h451 : v_r269.1 = 3
    · rw [if_pos h451] at h
      cases h
      exact pkk_sound TTok mix hF 5 (hs := [.t false, .t true, .c, .c, .c]) (ts := []) (s := [0, 1]) (l := [2, 4]) (by kernel_rfl) (by kernel_rfl) (.cons (bf h450) (.cons (bt h451) (.cons (show 2 + 1 ≤ 10 by decide) (.cons (show 1 + 1 ≤ 10 by decide) (.cons (show 3 + 1 ≤ 10 by decide) .nil))))) q
    · rw [if_neg h451] at h
      by_cases h452 : v_r269.1 = 4
      · rw [if_pos h452] at h
        cases h
        exact pkk_sound TTok mix hF 10 (hs := [.t false, .t false, .t true, .c, .c, .c, .c]) (ts := []) (s := [0, 1]) (l := [2, 4]) (by kernel_rfl) (by kernel_rfl) (.cons (bf h450) (.cons (bf h451) (.cons (bt h452) (.cons (show 3 + 1 ≤ 10 by decide) (.cons (show 7 + 1 ≤ 10 by decide) (.cons (show 6 + 1 ≤ 10 by decide) (.cons (show 8 + 1 ≤ 10 by decide) .nil))))))) q
      · rw [if_neg h452] at h
        by_cases h453 : v_r269.1 = 5
        · rw [if_pos h453] at h
          cases h
          exact pkk_sound TTok mix hF 11 (hs := [.t false, .t false, .t false, .t true, .c]) (ts := []) (s := [0, 1]) (l := [2, 4]) (by kernel_rfl) (by kernel_rfl) (.cons (bf h450) (.cons (bf h451) (.cons (bf h452) (.cons (bt h453) (.cons (show 7 + 1 ≤ 10 by decide) .nil))))) q
        · rw [if_neg h453] at h
          by_cases h454 : v_r269.1 = 6
          · rw [if_pos h454] at h
            cases h
            exact pkk_sound TTok mix hF 14 (hs := [.t false, .t false, .t false, .t false, .t true, .c, .c]) (ts := []) (s := [0, 1]) (l := [2, 4]) (by kernel_rfl) (by kernel_rfl) (.cons (bf h450) (.cons (bf h451) (.cons (bf h452) (.cons (bf h453) (.cons (bt h454) (.cons (show 4 + 1 ≤ 10 by decide) .nil)))))) q
          · rw [if_neg h454] at h
            cases h
            exact pkk_sound TTok mix hF 14 (hs := [.t false, .t false, .t false, .t false, .t false]) (ts := []) (s := [0, 1]) (l := [2, 4]) (by kernel_rfl) (by kernel_rfl) (.cons (bf h450) (.cons (bf h451) (.cons (bf h452) (.cons (bf h453) (.cons (bf h454) .nil))))) q
inductive G_fault_After_C2_R where
  | x0 
  | x1 
  | x2 
  | x3 
  | x4 
  | x5 
def G_fault_After_C2_ex : G_fault_After_C2_R → Ex
  | .x0  => .normal
  | .x1  => .normal
  | .x2  => .normal
  | .x3  => .normal
  | .x4  => .normal
  | .x5  => .normal
def G_fault_After_C2_st (v_t268 : Int) (v_r269 : (Int × Int)) (v_t267 : S_fault_Case) : G_fault_After_C2_R → PS
  | .x0  => ⟨[dd, dd, .ref 0 0, dd, .ref 1 0, dd, dd, dd, dd, dd, dd, dd, dd, dd, dd, dd, dd, dd, dd, dd, dd, dd, dd, dd, dd, dd, dd, dd, dd, dd, dd, dd, dd, dd, dd, dd, dd, dd, dd, dd, dd, dd, dd, dd, dd, dd, dd, dd, dd, dd, dd, dd, dd, dd, dd, dd, dd, dd, dd, dd, dd, dd, dd, dd, dd, dd, dd, dd, dd, dd, dd, dd, dd, dd, dd, dd, dd, dd, dd, dd], [.box [.d (.v (.int .i64 v_t267.fArea)), .d (.v (.bool true)), .d (.v (.bool false)), .d (.v (.int .i64 v_t268)), .d (.v (.int .i64 v_t267.fArea)), .d (.v (.bool false)), .d (.v (.bool false)), .d (.v (.bool false)), .d (.v (.int .i64 1)), .d (.v (.int .i64 v_t267.fWant))], .box [.d (.v (.int .i64 0)), .d (.v (.bool false)), .d (.v (.bool false)), .d (.v (.int .i64 0)), .d (.v (.int .i64 0)), .d (.v (.bool false)), .d (.v (.bool false)), .d (.v (.bool false)), .d (.v (.int .i64 0)), .d (.v (.int .i64 0))]]⟩
  | .x1  => ⟨[dd, dd, .ref 0 0, dd, .ref 1 0, dd, dd, dd, dd, dd, dd, dd, dd, dd, dd, dd, dd, dd, dd, dd, dd, dd, dd, dd, dd, dd, dd, dd, dd, dd, dd, dd, dd, dd, dd, dd, dd, dd, dd, dd, dd, dd, dd, dd, dd, dd, dd, dd, dd, dd, dd, dd, dd, dd, dd, dd, dd, dd, dd, dd, dd, dd, dd, dd, dd, dd, dd, dd, dd, dd, dd, dd, dd, dd, dd, dd, dd, dd, dd, dd], [.box [.d (.v (.int .i64 v_t267.fArea)), .d (.v (.bool true)), .d (.v (.bool false)), .d (.v (.int .i64 v_t268)), .d (.v (.int .i64 v_t267.fEntry.fRights)), .d (.v (.bool v_t267.fEntry.fUsed)), .d (.v (.bool v_t267.fEntry.fDirty)), .d (.v (.bool v_t267.fEntry.fCopy)), .d (.v (.int .i64 v_t267.fMany)), .d (.v (.int .i64 v_t267.fWant))], .box [.d (.v (.int .i64 0)), .d (.v (.bool false)), .d (.v (.bool false)), .d (.v (.int .i64 0)), .d (.v (.int .i64 0)), .d (.v (.bool false)), .d (.v (.bool false)), .d (.v (.bool false)), .d (.v (.int .i64 0)), .d (.v (.int .i64 0))]]⟩
  | .x2  => ⟨[dd, dd, .ref 0 0, dd, .ref 1 0, dd, dd, dd, dd, dd, dd, dd, dd, dd, dd, dd, dd, dd, dd, dd, dd, dd, dd, dd, dd, dd, dd, dd, dd, dd, dd, dd, dd, dd, dd, dd, dd, dd, dd, dd, dd, dd, dd, dd, dd, dd, dd, dd, dd, dd, dd, dd, dd, dd, dd, dd, dd, dd, dd, dd, dd, dd, dd, dd, dd, dd, dd, dd, dd, dd, dd, dd, dd, dd, dd, dd, dd, dd, dd, dd], [.box [.d (.v (.int .i64 v_t267.fArea)), .d (.v (.bool v_t267.fEntry.fHere)), .d (.v (.bool v_t267.fEntry.fSlot)), .d (.v (.int .i64 v_t268)), .d (.v (.int .i64 v_t267.fEntry.fRights)), .d (.v (.bool v_t267.fEntry.fUsed)), .d (.v (.bool true)), .d (.v (.bool false)), .d (.v (.int .i64 1)), .d (.v (.int .i64 v_t267.fWant))], .box [.d (.v (.int .i64 0)), .d (.v (.bool false)), .d (.v (.bool false)), .d (.v (.int .i64 0)), .d (.v (.int .i64 0)), .d (.v (.bool false)), .d (.v (.bool false)), .d (.v (.bool false)), .d (.v (.int .i64 0)), .d (.v (.int .i64 0))]]⟩
  | .x3  => ⟨[dd, dd, .ref 0 0, dd, .ref 1 0, dd, dd, dd, dd, dd, dd, dd, dd, dd, dd, dd, dd, dd, dd, dd, dd, dd, dd, dd, dd, dd, dd, dd, dd, dd, dd, dd, dd, dd, dd, dd, dd, dd, dd, dd, dd, dd, dd, dd, dd, dd, dd, dd, dd, dd, dd, dd, dd, dd, dd, dd, dd, dd, dd, dd, dd, dd, dd, dd, dd, dd, dd, dd, dd, dd, dd, dd, dd, dd, dd, dd, dd, dd, dd, dd], [.box [.d (.v (.int .i64 v_t267.fArea)), .d (.v (.bool v_t267.fEntry.fHere)), .d (.v (.bool v_t267.fEntry.fSlot)), .d (.v (.int .i64 v_t267.fEntry.fAt)), .d (.v (.int .i64 v_t267.fEntry.fRights)), .d (.v (.bool v_t267.fEntry.fUsed)), .d (.v (.bool v_t267.fEntry.fDirty)), .d (.v (.bool false)), .d (.v (.int .i64 v_t267.fMany)), .d (.v (.int .i64 v_t267.fWant))], .box [.d (.v (.int .i64 0)), .d (.v (.bool false)), .d (.v (.bool false)), .d (.v (.int .i64 0)), .d (.v (.int .i64 0)), .d (.v (.bool false)), .d (.v (.bool false)), .d (.v (.bool false)), .d (.v (.int .i64 0)), .d (.v (.int .i64 0))]]⟩
  | .x4  => ⟨[dd, dd, .ref 0 0, dd, .ref 1 0, dd, dd, dd, dd, dd, dd, dd, dd, dd, dd, dd, dd, dd, dd, dd, dd, dd, dd, dd, dd, dd, dd, dd, dd, dd, dd, dd, dd, dd, dd, dd, dd, dd, dd, dd, dd, dd, dd, dd, dd, dd, dd, dd, dd, dd, dd, dd, dd, dd, dd, dd, dd, dd, dd, dd, dd, dd, dd, dd, dd, dd, dd, dd, dd, dd, dd, dd, dd, dd, dd, dd, dd, dd, dd, dd], [.box [.d (.v (.int .i64 v_t267.fArea)), .d (.v (.bool v_t267.fEntry.fHere)), .d (.v (.bool v_t267.fEntry.fSlot)), .d (.v (.int .i64 v_t267.fEntry.fAt)), .d (.v (.int .i64 v_t267.fArea)), .d (.v (.bool v_t267.fEntry.fUsed)), .d (.v (.bool v_t267.fEntry.fDirty)), .d (.v (.bool v_t267.fEntry.fCopy)), .d (.v (.int .i64 v_t267.fMany)), .d (.v (.int .i64 v_t267.fWant))], .box [.d (.v (.int .i64 0)), .d (.v (.bool false)), .d (.v (.bool false)), .d (.v (.int .i64 0)), .d (.v (.int .i64 0)), .d (.v (.bool false)), .d (.v (.bool false)), .d (.v (.bool false)), .d (.v (.int .i64 0)), .d (.v (.int .i64 0))]]⟩
  | .x5  => ⟨[dd, dd, .ref 0 0, dd, .ref 1 0, dd, dd, dd, dd, dd, dd, dd, dd, dd, dd, dd, dd, dd, dd, dd, dd, dd, dd, dd, dd, dd, dd, dd, dd, dd, dd, dd, dd, dd, dd, dd, dd, dd, dd, dd, dd, dd, dd, dd, dd, dd, dd, dd, dd, dd, dd, dd, dd, dd, dd, dd, dd, dd, dd, dd, dd, dd, dd, dd, dd, dd, dd, dd, dd, dd, dd, dd, dd, dd, dd, dd, dd, dd, dd, dd], [.box [.d (.v (.int .i64 v_t267.fArea)), .d (.v (.bool v_t267.fEntry.fHere)), .d (.v (.bool v_t267.fEntry.fSlot)), .d (.v (.int .i64 v_t267.fEntry.fAt)), .d (.v (.int .i64 v_t267.fEntry.fRights)), .d (.v (.bool v_t267.fEntry.fUsed)), .d (.v (.bool v_t267.fEntry.fDirty)), .d (.v (.bool v_t267.fEntry.fCopy)), .d (.v (.int .i64 v_t267.fMany)), .d (.v (.int .i64 v_t267.fWant))], .box [.d (.v (.int .i64 0)), .d (.v (.bool false)), .d (.v (.bool false)), .d (.v (.int .i64 0)), .d (.v (.int .i64 0)), .d (.v (.bool false)), .d (.v (.bool false)), .d (.v (.bool false)), .d (.v (.int .i64 0)), .d (.v (.int .i64 0))]]⟩
def G_fault_After_C2_hd (v_t268 : Int) (v_r269 : (Int × Int)) (v_t267 : S_fault_Case)  : PS := ⟨[dd, .d (.v (.int .i64 v_t268)), .ref 0 0, dd, .ref 1 0, dd, dd, dd, .ref 0 1, dd, dd, dd, dd, dd, dd, dd, dd, dd, dd, dd, dd, dd, dd, dd, dd, dd, dd, dd, dd, dd, dd, dd, .d (.v (.int .i64 v_r269.1)), dd, dd, dd, dd, dd, dd, dd, dd, dd, dd, dd, dd, dd, dd, dd, dd, dd, dd, dd, dd, dd, dd, dd, dd, dd, dd, dd, dd, dd, dd, dd, dd, dd, dd, dd, dd, dd, dd, dd, dd, dd, dd, dd, dd, dd, dd, dd], [.box [.d (.v (.int .i64 v_t267.fArea)), .d (.v (.bool v_t267.fEntry.fHere)), .d (.v (.bool v_t267.fEntry.fSlot)), .d (.v (.int .i64 v_t267.fEntry.fAt)), .d (.v (.int .i64 v_t267.fEntry.fRights)), .d (.v (.bool v_t267.fEntry.fUsed)), .d (.v (.bool v_t267.fEntry.fDirty)), .d (.v (.bool v_t267.fEntry.fCopy)), .d (.v (.int .i64 v_t267.fMany)), .d (.v (.int .i64 v_t267.fWant))], .box [.d (.v (.int .i64 0)), .d (.v (.bool false)), .d (.v (.bool false)), .d (.v (.int .i64 0)), .d (.v (.int .i64 0)), .d (.v (.bool false)), .d (.v (.bool false)), .d (.v (.bool false)), .d (.v (.int .i64 0)), .d (.v (.int .i64 0))]]⟩
def G_fault_After_C2 (n : Nat) (v_t268 : Int) (v_r269 : (Int × Int)) (v_t267 : S_fault_Case) : Option G_fault_After_C2_R :=
  (G_fault_After_C1 n v_t268 v_r269 v_t267).bind fun v_o271 => match v_o271 with
  | .x0  =>
    some (.x0 )
  | .x1  =>
    some (.x1 )
  | .x2  =>
    some (.x2 )
  | .x3  =>
    some (.x3 )
  | .x4  =>
    some (.x4 )
  | .x5  =>
    some (.x5 )
theorem G_fault_After_C2_ok {Fi : Ex → PS → Prop} (hF : KC 80 Fi) (ks : List Fr) (n : Nat) (v_t268 : Int) (v_r269 : (Int × Int)) (v_t267 : S_fault_Case)  (o : G_fault_After_C2_R) (h : G_fault_After_C2 n v_t268 v_r269 v_t267 = some o) (q : RunE Try.prog 80 Fi ks (G_fault_After_C2_ex o) (G_fault_After_C2_st v_t268 v_r269 v_t267 o)) : RunE Try.prog 80 Fi (.s (cR (cL (cR (cR (cR (cR (bodyOf Try.f52))))))) :: ks) .normal (G_fault_After_C2_hd v_t268 v_r269 v_t267) := by
  unfold G_fault_After_C2 at h
  obtain ⟨v_o271, h455, h⟩ := bind_some h
  refine pkk_sound TTok mix hF 3 (hs := []) (ts := []) (s := [0, 1]) (l := [1, 2, 4, 8, 32, 33]) (by kernel_rfl) (by kernel_rfl) .nil (G_fault_After_C1_ok hF (.b 1 :: ks) n v_t268 v_r269 v_t267 _ h455 ?_)
  cases v_o271 with
  | x0  =>
    dsimp only at h
    cases h
    exact pkk_sound TTok mix hF 1 (hs := []) (ts := []) (s := [0, 1]) (l := [2, 4]) (by kernel_rfl) (by kernel_rfl) .nil q
  | x1  =>
    dsimp only at h
    cases h
    exact pkk_sound TTok mix hF 1 (hs := []) (ts := []) (s := [0, 1]) (l := [2, 4]) (by kernel_rfl) (by kernel_rfl) .nil q
  | x2  =>
    dsimp only at h
    cases h
    exact pkk_sound TTok mix hF 1 (hs := []) (ts := []) (s := [0, 1]) (l := [2, 4]) (by kernel_rfl) (by kernel_rfl) .nil q
  | x3  =>
    dsimp only at h
    cases h
    exact pkk_sound TTok mix hF 1 (hs := []) (ts := []) (s := [0, 1]) (l := [2, 4]) (by kernel_rfl) (by kernel_rfl) .nil q
  | x4  =>
    dsimp only at h
    cases h
    exact pkk_sound TTok mix hF 1 (hs := []) (ts := []) (s := [0, 1]) (l := [2, 4]) (by kernel_rfl) (by kernel_rfl) .nil q
  | x5  =>
    dsimp only at h
    cases h
    exact pkk_sound TTok mix hF 1 (hs := []) (ts := []) (s := [0, 1]) (l := [2, 4]) (by kernel_rfl) (by kernel_rfl) .nil q
/- ringhall/fault.After -/
def G_fault_After (n : Nat) (v_t267 : S_fault_Case) (v_t268 : Int) : Option (S_fault_Case × Int) :=
  (G_fault_Do n v_t267).bind fun (v_r269 : (Int × Int)) =>
  if v_r269.2 = 0 then
   if v_t268 < 0 then
    some ((S_fault_Case.mk 0 (S_entry_Entry.mk false false 0 0 false false false) 0 0), 1)
   else
    if v_t268 ≥ 64 then
     some ((S_fault_Case.mk 0 (S_entry_Entry.mk false false 0 0 false false false) 0 0), 1)
    else
     if v_r269.1 = 1 then
      some ((S_fault_Case.mk 0 (S_entry_Entry.mk false false 0 0 false false false) 0 0), 11)
     else
      (G_fault_After_C2 n v_t268 v_r269 v_t267).bind fun v_o272 => match v_o272 with
      | .x0  =>
        some ((S_fault_Case.mk v_t267.fArea (S_entry_Entry.mk true false v_t268 v_t267.fArea false false false) 1 v_t267.fWant), 0)
      | .x1  =>
        some ((S_fault_Case.mk v_t267.fArea (S_entry_Entry.mk true false v_t268 v_t267.fEntry.fRights v_t267.fEntry.fUsed v_t267.fEntry.fDirty v_t267.fEntry.fCopy) v_t267.fMany v_t267.fWant), 0)
      | .x2  =>
        some ((S_fault_Case.mk v_t267.fArea (S_entry_Entry.mk v_t267.fEntry.fHere v_t267.fEntry.fSlot v_t268 v_t267.fEntry.fRights v_t267.fEntry.fUsed true false) 1 v_t267.fWant), 0)
      | .x3  =>
        some ((S_fault_Case.mk v_t267.fArea (S_entry_Entry.mk v_t267.fEntry.fHere v_t267.fEntry.fSlot v_t267.fEntry.fAt v_t267.fEntry.fRights v_t267.fEntry.fUsed v_t267.fEntry.fDirty false) v_t267.fMany v_t267.fWant), 0)
      | .x4  =>
        some ((S_fault_Case.mk v_t267.fArea (S_entry_Entry.mk v_t267.fEntry.fHere v_t267.fEntry.fSlot v_t267.fEntry.fAt v_t267.fArea v_t267.fEntry.fUsed v_t267.fEntry.fDirty v_t267.fEntry.fCopy) v_t267.fMany v_t267.fWant), 0)
      | .x5  =>
        some (v_t267, 0)
  else
   some ((S_fault_Case.mk 0 (S_entry_Entry.mk false false 0 0 false false false) 0 0), v_r269.2)
theorem G_fault_After_ok (n : Nat) (v_t267 : S_fault_Case) (v_t268 : Int) (r : S_fault_Case × Int) (h : G_fault_After n v_t267 v_t268 = some r) : Ret Try.prog 52 [eS_fault_Case v_t267, (eI .i64) v_t268] (.tup [eS_fault_Case r.1, (eI .i64) r.2]) := by
  refine ret_run (n := 80) (fn := Try.f52) (c := bodyOf Try.f52) (by kernel_rfl) (by kernel_rfl) (by kernel_rfl) (by kernel_rfl) ?_
  have hF : KC 80 (FinR Try.prog Try.f52 (.tup [eS_fault_Case r.1, (eI .i64) r.2])) := FinR.kc' (by kernel_rfl)
  unfold G_fault_After at h
  obtain ⟨v_r269, h411, h⟩ := bind_some h
  by_cases h427 : v_r269.2 = 0
  · rw [if_pos h427] at h
    by_cases h428 : v_t268 < 0
    · rw [if_pos h428] at h
      obtain rfl := Option.some.inj h
      exact pend_sound TTok mix 17 (hs := [.c, .r (.tup [(eI .i64) v_r269.1, (eI .i64) v_r269.2]), .t false, .t true, .c, .c, .c]) (by kernel_rfl) (by kernel_rfl) (by kernel_rfl) (.cons (G_fault_Do_ok n v_t267 _ h411) (.cons (nf h427) (.cons (dt h428) (.cons (show 0 + 10 ≤ 10 by decide) .nil))))
    · rw [if_neg h428] at h
      by_cases h431 : v_t268 ≥ 64
      · rw [if_pos h431] at h
        obtain rfl := Option.some.inj h
        exact pend_sound TTok mix 17 (hs := [.c, .r (.tup [(eI .i64) v_r269.1, (eI .i64) v_r269.2]), .t false, .t false, .c, .t true, .c]) (by kernel_rfl) (by kernel_rfl) (by kernel_rfl) (.cons (G_fault_Do_ok n v_t267 _ h411) (.cons (nf h427) (.cons (df h428) (.cons (dt h431) (.cons (show 0 + 10 ≤ 10 by decide) .nil)))))
      · rw [if_neg h431] at h
        by_cases h433 : v_r269.1 = 1
        · rw [if_pos h433] at h
          obtain rfl := Option.some.inj h
          exact pend_sound TTok mix 20 (hs := [.c, .r (.tup [(eI .i64) v_r269.1, (eI .i64) v_r269.2]), .t false, .t false, .c, .t false, .t true, .c]) (by kernel_rfl) (by kernel_rfl) (by kernel_rfl) (.cons (G_fault_Do_ok n v_t267 _ h411) (.cons (nf h427) (.cons (df h428) (.cons (df h431) (.cons (bt h433) (.cons (show 0 + 10 ≤ 10 by decide) .nil))))))
        · rw [if_neg h433] at h
          obtain ⟨v_o272, h456, h⟩ := bind_some h
          refine pkk_sound TTok mix hF 22 (hs := [.c, .r (.tup [(eI .i64) v_r269.1, (eI .i64) v_r269.2]), .t false, .t false, .c, .t false, .t false]) (ts := []) (s := [0, 1]) (l := [1, 2, 4, 8, 32]) (by kernel_rfl) (by kernel_rfl) (.cons (G_fault_Do_ok n v_t267 _ h411) (.cons (nf h427) (.cons (df h428) (.cons (df h431) (.cons (bf h433) .nil))))) (G_fault_After_C2_ok hF (.s (cR (cR (cR (cR (cR (bodyOf Try.f52)))))) :: []) n v_t268 v_r269 v_t267 _ h456 ?_)
          cases v_o272 with
          | x0  =>
            dsimp only at h
            obtain rfl := Option.some.inj h
            exact pend_sound TTok mix 3 (hs := [.c, .c]) (by kernel_rfl) (by kernel_rfl) (by kernel_rfl) (.cons (show 0 + 10 ≤ 10 by decide) .nil)
          | x1  =>
            dsimp only at h
            obtain rfl := Option.some.inj h
            exact pend_sound TTok mix 3 (hs := [.c, .c]) (by kernel_rfl) (by kernel_rfl) (by kernel_rfl) (.cons (show 0 + 10 ≤ 10 by decide) .nil)
          | x2  =>
            dsimp only at h
            obtain rfl := Option.some.inj h
            exact pend_sound TTok mix 3 (hs := [.c, .c]) (by kernel_rfl) (by kernel_rfl) (by kernel_rfl) (.cons (show 0 + 10 ≤ 10 by decide) .nil)
          | x3  =>
            dsimp only at h
            obtain rfl := Option.some.inj h
            exact pend_sound TTok mix 3 (hs := [.c, .c]) (by kernel_rfl) (by kernel_rfl) (by kernel_rfl) (.cons (show 0 + 10 ≤ 10 by decide) .nil)
          | x4  =>
            dsimp only at h
            obtain rfl := Option.some.inj h
            exact pend_sound TTok mix 3 (hs := [.c, .c]) (by kernel_rfl) (by kernel_rfl) (by kernel_rfl) (.cons (show 0 + 10 ≤ 10 by decide) .nil)
          | x5  =>
            dsimp only at h
            obtain rfl := Option.some.inj h
            exact pend_sound TTok mix 3 (hs := [.c, .c]) (by kernel_rfl) (by kernel_rfl) (by kernel_rfl) (.cons (show 0 + 10 ≤ 10 by decide) .nil)
  · rw [if_neg h427] at h
    obtain rfl := Option.some.inj h
    exact pend_sound TTok mix 14 (hs := [.c, .r (.tup [(eI .i64) v_r269.1, (eI .i64) v_r269.2]), .t true, .c]) (by kernel_rfl) (by kernel_rfl) (by kernel_rfl) (.cons (G_fault_Do_ok n v_t267 _ h411) (.cons (nt h427) (.cons (show 0 + 10 ≤ 10 by decide) .nil)))
inductive G_fault_Steps_L1_R where
  | x0 (v_x295 : Int) (v_w296 : (List Int)) (v_b297 : S_fault_Case)
def G_fault_Steps_L1_ex : G_fault_Steps_L1_R → Ex
  | .x0 _ _ _ => .ret
def G_fault_Steps_L1_st (v_frame275 : Int) : G_fault_Steps_L1_R → PS
  | .x0 v_x295 v_w296 v_b297 => ⟨[dd, dd, dd, dd, .srf 0, .ref 1 0, .d (.v (.int .i64 v_x295)), dd, dd, dd, dd, dd, dd, dd, dd, dd, dd, dd, dd, dd, dd, dd, dd, dd, dd, dd, dd, dd, dd, dd, dd, dd, dd, dd, dd, dd, dd, dd, dd, dd, dd, dd, dd, dd, dd, dd, dd], [.row 3 1 (v_w296.map (eI .i64)), .box [.d (.v (.int .i64 v_b297.fArea)), .d (.v (.bool v_b297.fEntry.fHere)), .d (.v (.bool v_b297.fEntry.fSlot)), .d (.v (.int .i64 v_b297.fEntry.fAt)), .d (.v (.int .i64 v_b297.fEntry.fRights)), .d (.v (.bool v_b297.fEntry.fUsed)), .d (.v (.bool v_b297.fEntry.fDirty)), .d (.v (.bool v_b297.fEntry.fCopy)), .d (.v (.int .i64 v_b297.fMany)), .d (.v (.int .i64 v_b297.fWant))]]⟩
def G_fault_Steps_L1_hd (v_frame275 : Int) (v_b288 : S_fault_Case) (v_w289 : (List Int)) : PS := ⟨[dd, .d (.v (.int .i64 v_frame275)), .ref 0 0, dd, dd, .ref 1 0, dd, dd, .srf 2, dd, dd, dd, dd, dd, dd, dd, dd, dd, dd, dd, dd, dd, dd, dd, dd, dd, dd, dd, dd, dd, dd, dd, dd, dd, dd, dd, dd, dd, dd, dd, dd, dd, dd, dd, dd, dd, dd], [.box [.d (.v (.int .i64 v_b288.fArea)), .d (.v (.bool v_b288.fEntry.fHere)), .d (.v (.bool v_b288.fEntry.fSlot)), .d (.v (.int .i64 v_b288.fEntry.fAt)), .d (.v (.int .i64 v_b288.fEntry.fRights)), .d (.v (.bool v_b288.fEntry.fUsed)), .d (.v (.bool v_b288.fEntry.fDirty)), .d (.v (.bool v_b288.fEntry.fCopy)), .d (.v (.int .i64 v_b288.fMany)), .d (.v (.int .i64 v_b288.fWant))], .box [.d (.v (.int .i64 0)), .d (.v (.bool false)), .d (.v (.bool false)), .d (.v (.int .i64 0)), .d (.v (.int .i64 0)), .d (.v (.bool false)), .d (.v (.bool false)), .d (.v (.bool false)), .d (.v (.int .i64 0)), .d (.v (.int .i64 0))], .row 3 1 (v_w289.map (eI .i64))]⟩
def G_fault_Steps_L1 (n : Nat) (v_frame275 : Int) : Nat → S_fault_Case → (List Int) → Option G_fault_Steps_L1_R
  | 0, _, _ => none
  | k + 1, v_b288, v_w289 =>
    (G_fault_Do n v_b288).bind fun (v_r293 : (Int × Int)) =>
    (app 8 v_w289 ([v_r293.1])).bind fun (v_a294 : (List Int)) =>
    if v_r293.1 = 0 then
     some (.x0 0 v_a294 v_b288)
    else
     if v_r293.1 = 1 then
      some (.x0 0 v_a294 v_b288)
     else
      (G_fault_After n v_b288 v_frame275).bind fun (v_r301 : (S_fault_Case × Int)) =>
      G_fault_Steps_L1 n v_frame275 k v_r301.1 v_a294
theorem G_fault_Steps_L1_ok {Fi : Ex → PS → Prop} (hF : KC 47 Fi) (ks : List Fr) (n : Nat) (v_frame275 : Int)  : ∀ (k : Nat) (v_b288 : S_fault_Case) (v_w289 : (List Int)) (o : G_fault_Steps_L1_R), G_fault_Steps_L1 n v_frame275 k v_b288 v_w289 = some o → RunE Try.prog 47 Fi ks (G_fault_Steps_L1_ex o) (G_fault_Steps_L1_st v_frame275 o) → RunE Try.prog 47 Fi (.l k (cP (cB (cR (cR (cR (cR (bodyOf Try.f53))))))) :: ks) .normal (G_fault_Steps_L1_hd v_frame275 v_b288 v_w289)
  | 0, v_b288, v_w289, o, h, q => by rw [G_fault_Steps_L1] at h; cases h
  | k + 1, v_b288, v_w289, o, h, q => by
    rw [G_fault_Steps_L1] at h
    obtain ⟨v_r293, h482, h⟩ := bind_some h
    obtain ⟨v_a294, h483, h⟩ := bind_some h
    by_cases h484 : v_r293.1 = 0
    · rw [if_pos h484] at h
      cases h
      exact pkk_sound TTok mix hF 16 (hs := [.c, .r (.tup [(eI .i64) v_r293.1, (eI .i64) v_r293.2]), .w ([v_r293.1].map (eI .i64)), .w (v_a294.map (eI .i64)), .t true, .c, .c, .c, .c]) (ts := []) (s := [13, 1]) (l := [4, 5, 6]) (by kernel_rfl) (by kernel_rfl) (.cons (G_fault_Do_ok n v_b288 _ h482) (.cons (Eq.refl ([v_r293.1].map (eI .i64))) (.cons (app_ob (f := (eI .i64)) (s := 1) h483 (fun _ => rfl)).1 (.cons (app_ob (f := (eI .i64)) (s := 1) h483 (fun _ => rfl)).2.1 (.cons (app_ob (f := (eI .i64)) (s := 1) h483 (fun _ => rfl)).2.2.1 (.cons (app_ob (f := (eI .i64)) (s := 1) h483 (fun _ => rfl)).2.2.2 (.cons (bt h484) (.cons (show 0 + 10 ≤ 10 by decide) .nil)))))))) q
    · rw [if_neg h484] at h
      by_cases h486 : v_r293.1 = 1
      · rw [if_pos h486] at h
        cases h
        exact pkk_sound TTok mix hF 16 (hs := [.c, .r (.tup [(eI .i64) v_r293.1, (eI .i64) v_r293.2]), .w ([v_r293.1].map (eI .i64)), .w (v_a294.map (eI .i64)), .t false, .c, .t true, .c, .c]) (ts := []) (s := [13, 1]) (l := [4, 5, 6]) (by kernel_rfl) (by kernel_rfl) (.cons (G_fault_Do_ok n v_b288 _ h482) (.cons (Eq.refl ([v_r293.1].map (eI .i64))) (.cons (app_ob (f := (eI .i64)) (s := 1) h483 (fun _ => rfl)).1 (.cons (app_ob (f := (eI .i64)) (s := 1) h483 (fun _ => rfl)).2.1 (.cons (app_ob (f := (eI .i64)) (s := 1) h483 (fun _ => rfl)).2.2.1 (.cons (app_ob (f := (eI .i64)) (s := 1) h483 (fun _ => rfl)).2.2.2 (.cons (bf h484) (.cons (bt h486) (.cons (show 0 + 10 ≤ 10 by decide) .nil))))))))) q
      · rw [if_neg h486] at h
        obtain ⟨v_r301, h487, h⟩ := bind_some h
        exact pkk_sound TTok mix hF 13 (hs := [.c, .r (.tup [(eI .i64) v_r293.1, (eI .i64) v_r293.2]), .w ([v_r293.1].map (eI .i64)), .w (v_a294.map (eI .i64)), .t false, .c, .t false, .c, .r (.tup [eS_fault_Case v_r301.1, (eI .i64) v_r301.2]), .c]) (ts := []) (s := [0, 1, 13]) (l := [1, 2, 5, 8]) (by kernel_rfl) (by kernel_rfl) (.cons (G_fault_Do_ok n v_b288 _ h482) (.cons (Eq.refl ([v_r293.1].map (eI .i64))) (.cons (app_ob (f := (eI .i64)) (s := 1) h483 (fun _ => rfl)).1 (.cons (app_ob (f := (eI .i64)) (s := 1) h483 (fun _ => rfl)).2.1 (.cons (app_ob (f := (eI .i64)) (s := 1) h483 (fun _ => rfl)).2.2.1 (.cons (app_ob (f := (eI .i64)) (s := 1) h483 (fun _ => rfl)).2.2.2 (.cons (bf h484) (.cons (bf h486) (.cons (G_fault_After_ok n v_b288 v_frame275 _ h487) (.cons (show 0 + 10 ≤ 10 by decide) .nil)))))))))) (G_fault_Steps_L1_ok hF ks n v_frame275 k v_r301.1 v_a294 _ h q)
/- ringhall/fault.Steps -/
def G_fault_Steps (n : Nat) (v_c274 : S_fault_Case) (v_frame275 : Int) : Option ((List Int) × S_fault_Case × Int) :=
  (G_fault_Check n v_c274).bind fun (v_r276 : (Int)) =>
  if v_r276 = 0 then
   if v_frame275 < 0 then
    some (([] : (List Int)), (S_fault_Case.mk 0 (S_entry_Entry.mk false false 0 0 false false false) 0 0), 1)
   else
    if v_frame275 ≥ 64 then
     some (([] : (List Int)), (S_fault_Case.mk 0 (S_entry_Entry.mk false false 0 0 false false false) 0 0), 1)
    else
     (G_fault_Steps_L1 n v_frame275 n v_c274 ([] : List Int)).bind fun v_o302 => match v_o302 with
     | .x0 v_z303 v_z304 v_z305 =>
       some (v_z304, v_z305, v_z303)
  else
   some (([] : (List Int)), (S_fault_Case.mk 0 (S_entry_Entry.mk false false 0 0 false false false) 0 0), v_r276)
theorem G_fault_Steps_ok (n : Nat) (v_c274 : S_fault_Case) (v_frame275 : Int) (r : (List Int) × S_fault_Case × Int) (h : G_fault_Steps n v_c274 v_frame275 = some r) : Ret Try.prog 53 [eS_fault_Case v_c274, (eI .i64) v_frame275] (.tup [(eL (eI .i64)) r.1, eS_fault_Case r.2.1, (eI .i64) r.2.2]) := by
  refine ret_run (n := 47) (fn := Try.f53) (c := bodyOf Try.f53) (by kernel_rfl) (by kernel_rfl) (by kernel_rfl) (by kernel_rfl) ?_
  have hF : KC 47 (FinR Try.prog Try.f53 (.tup [(eL (eI .i64)) r.1, eS_fault_Case r.2.1, (eI .i64) r.2.2])) := FinR.kc' (by kernel_rfl)
  unfold G_fault_Steps at h
  obtain ⟨v_r276, h458, h⟩ := bind_some h
  by_cases h460 : v_r276 = 0
  · rw [if_pos h460] at h
    by_cases h461 : v_frame275 < 0
    · rw [if_pos h461] at h
      obtain rfl := Option.some.inj h
      exact pend_sound TTok mix 17 (hs := [.c, .r ((eI .i64) v_r276), .t false, .t true, .c, .c, .c]) (by kernel_rfl) (by kernel_rfl) (by kernel_rfl) (.cons (G_fault_Check_ok n v_c274 _ h458) (.cons (nf h460) (.cons (dt h461) (.cons (show 0 + 10 ≤ 10 by decide) .nil))))
    · rw [if_neg h461] at h
      by_cases h463 : v_frame275 ≥ 64
      · rw [if_pos h463] at h
        obtain rfl := Option.some.inj h
        exact pend_sound TTok mix 17 (hs := [.c, .r ((eI .i64) v_r276), .t false, .t false, .c, .t true, .c]) (by kernel_rfl) (by kernel_rfl) (by kernel_rfl) (.cons (G_fault_Check_ok n v_c274 _ h458) (.cons (nf h460) (.cons (df h461) (.cons (dt h463) (.cons (show 0 + 10 ≤ 10 by decide) .nil)))))
      · rw [if_neg h463] at h
        obtain ⟨v_o302, h488, h⟩ := bind_some h
        refine pkk_sound TTok mix hF 18 (hs := [.c, .r ((eI .i64) v_r276), .t false, .t false, .c, .t false, .n n]) (ts := [(8, 3, 1)]) (s := [0, 2, 16]) (l := [1, 2, 5, 8]) (by kernel_rfl) (by kernel_rfl) (.cons (G_fault_Check_ok n v_c274 _ h458) (.cons (nf h460) (.cons (df h461) (.cons (df h463) .nil)))) (G_fault_Steps_L1_ok hF (.b 0 :: []) n v_frame275 n v_c274 ([] : List Int) _ h488 ?_)
        cases v_o302 with
        | x0 v_z303 v_z304 v_z305 =>
          dsimp only at h
          obtain rfl := Option.some.inj h
          exact pend_sound TTok mix 1 (hs := []) (by kernel_rfl) (by kernel_rfl) (by kernel_rfl) .nil
  · rw [if_neg h460] at h
    obtain rfl := Option.some.inj h
    exact pend_sound TTok mix 12 (hs := [.c, .r ((eI .i64) v_r276), .t true, .c]) (by kernel_rfl) (by kernel_rfl) (by kernel_rfl) (.cons (G_fault_Check_ok n v_c274 _ h458) (.cons (nt h460) (.cons (show 0 + 10 ≤ 10 by decide) .nil)))
/- ringhall/ringref2.In -/
def G_ringref2_In (n : Nat) (v_n308 : Int) (v_least309 : Int) (v_most310 : Int) : Option (Bool) :=
  if v_n308 ≥ v_least309 then
   some (decide (v_n308 ≤ v_most310))
  else
   some false
theorem G_ringref2_In_ok (n : Nat) (v_n308 : Int) (v_least309 : Int) (v_most310 : Int) (r : Bool) (h : G_ringref2_In n v_n308 v_least309 v_most310 = some r) : Ret Try.prog 33 [(eI .i64) v_n308, (eI .i64) v_least309, (eI .i64) v_most310] (eB r) := by
  refine ret_run (n := 15) (fn := Try.f33) (c := bodyOf Try.f33) (by kernel_rfl) (by kernel_rfl) (by kernel_rfl) (by kernel_rfl) ?_
  have hF : KC 15 (FinR Try.prog Try.f33 (eB r)) := FinR.kc' (by kernel_rfl)
  unfold G_ringref2_In at h
  by_cases h490 : v_n308 ≥ v_least309
  · rw [if_pos h490] at h
    obtain rfl := Option.some.inj h
    exact pend_sound TTok mix 5 (hs := [.t true, .c, .c]) (by kernel_rfl) (by kernel_rfl) (by kernel_rfl) (.cons (dt h490) .nil)
  · rw [if_neg h490] at h
    obtain rfl := Option.some.inj h
    exact pend_sound TTok mix 5 (hs := [.t false, .c, .c]) (by kernel_rfl) (by kernel_rfl) (by kernel_rfl) (.cons (df h490) .nil)
inductive G_ringref2_Entries_C1_R where
  | x0 (v_x323 : Bool)
def G_ringref2_Entries_C1_ex : G_ringref2_Entries_C1_R → Ex
  | .x0 _ => .normal
def G_ringref2_Entries_C1_st (v_e319 : S_entry_Entry) : G_ringref2_Entries_C1_R → PS
  | .x0 v_x323 => ⟨[dd, .ref 0 0, dd, dd, dd, dd, dd, dd, dd, dd, dd, dd, dd, .d (.v (.bool v_x323)), dd, dd, dd, dd, dd, dd, dd, dd, dd, dd, dd, dd, dd, dd, dd, dd, dd, dd, dd, dd, dd, dd, dd, dd, dd, dd, dd, dd, dd, dd, dd, dd, dd, dd, dd, dd, dd, dd, dd, dd, dd, dd, dd, dd], [.box [.d (.v (.bool v_e319.fHere)), .d (.v (.bool v_e319.fSlot)), .d (.v (.int .i64 v_e319.fAt)), .d (.v (.int .i64 v_e319.fRights)), .d (.v (.bool v_e319.fUsed)), .d (.v (.bool v_e319.fDirty)), .d (.v (.bool v_e319.fCopy))]]⟩
def G_ringref2_Entries_C1_hd (v_e319 : S_entry_Entry)  : PS := ⟨[dd, .ref 0 0, dd, dd, dd, dd, dd, dd, dd, dd, dd, dd, dd, dd, dd, dd, dd, dd, dd, dd, dd, dd, dd, dd, dd, dd, dd, dd, dd, dd, dd, dd, dd, dd, dd, dd, dd, dd, dd, dd, dd, dd, dd, dd, dd, dd, dd, dd, dd, dd, dd, dd, dd, dd, dd, dd, dd, dd], [.box [.d (.v (.bool v_e319.fHere)), .d (.v (.bool v_e319.fSlot)), .d (.v (.int .i64 v_e319.fAt)), .d (.v (.int .i64 v_e319.fRights)), .d (.v (.bool v_e319.fUsed)), .d (.v (.bool v_e319.fDirty)), .d (.v (.bool v_e319.fCopy))]]⟩
def G_ringref2_Entries_C1 (n : Nat) (v_e319 : S_entry_Entry) : Option G_ringref2_Entries_C1_R :=
  (G_ringref2_In n v_e319.fRights 0 7).bind fun (v_r322 : (Bool)) =>
  if v_r322 = true then
   (G_ringref2_In n v_e319.fAt 0 63).bind fun (v_r324 : (Bool)) =>
   some (.x0 (!v_r324))
  else
   some (.x0 true)
theorem G_ringref2_Entries_C1_ok {Fi : Ex → PS → Prop} (hF : KC 58 Fi) (ks : List Fr) (n : Nat) (v_e319 : S_entry_Entry)  (o : G_ringref2_Entries_C1_R) (h : G_ringref2_Entries_C1 n v_e319 = some o) (q : RunE Try.prog 58 Fi ks (G_ringref2_Entries_C1_ex o) (G_ringref2_Entries_C1_st v_e319 o)) : RunE Try.prog 58 Fi (.s (cL (cL (cR (bodyOf Try.f110)))) :: ks) .normal (G_ringref2_Entries_C1_hd v_e319) := by
  unfold G_ringref2_Entries_C1 at h
  obtain ⟨v_r322, h502, h⟩ := bind_some h
  by_cases h503 : v_r322 = true
  · rw [if_pos h503] at h
    obtain ⟨v_r324, h504, h⟩ := bind_some h
    cases h
    exact pkk_sound TTok mix hF 1 (hs := [.c, .r (eB v_r322), .t false, .c, .c, .c, .r (eB v_r324), .c]) (ts := []) (s := [0]) (l := [1, 13]) (by kernel_rfl) (by kernel_rfl) (.cons (G_ringref2_In_ok n v_e319.fRights 0 7 _ h502) (.cons (bnf h503) (.cons (G_ringref2_In_ok n v_e319.fAt 0 63 _ h504) .nil))) q
  · rw [if_neg h503] at h
    cases h
    exact pkk_sound TTok mix hF 1 (hs := [.c, .r (eB v_r322), .t true, .c, .c, .c]) (ts := []) (s := [0]) (l := [1, 13]) (by kernel_rfl) (by kernel_rfl) (.cons (G_ringref2_In_ok n v_e319.fRights 0 7 _ h502) (.cons (bnt (vf h503)) .nil)) q
inductive G_ringref2_Entries_C2_R where
  | x0 (v_x328 : Bool)
def G_ringref2_Entries_C2_ex : G_ringref2_Entries_C2_R → Ex
  | .x0 _ => .normal
def G_ringref2_Entries_C2_st (v_e319 : S_entry_Entry) : G_ringref2_Entries_C2_R → PS
  | .x0 v_x328 => ⟨[dd, dd, dd, dd, dd, dd, dd, dd, dd, dd, dd, dd, dd, dd, dd, dd, dd, dd, dd, dd, dd, dd, dd, dd, dd, dd, dd, dd, dd, dd, dd, dd, dd, dd, dd, dd, dd, dd, dd, dd, dd, dd, dd, dd, dd, dd, dd, dd, dd, dd, dd, dd, dd, dd, dd, dd, dd, .d (.v (.bool v_x328))], []⟩
def G_ringref2_Entries_C2_hd (v_e319 : S_entry_Entry)  : PS := ⟨[dd, .ref 0 0, dd, .d (.v (.bool (!v_e319.fSlot))), dd, dd, dd, dd, dd, dd, dd, dd, dd, dd, dd, dd, dd, dd, dd, dd, dd, dd, dd, dd, dd, dd, dd, dd, dd, dd, dd, dd, dd, dd, dd, dd, dd, dd, dd, dd, dd, dd, dd, dd, dd, dd, dd, dd, dd, dd, dd, dd, dd, dd, dd, dd, dd, dd], [.box [.d (.v (.bool v_e319.fHere)), .d (.v (.bool v_e319.fSlot)), .d (.v (.int .i64 v_e319.fAt)), .d (.v (.int .i64 v_e319.fRights)), .d (.v (.bool v_e319.fUsed)), .d (.v (.bool v_e319.fDirty)), .d (.v (.bool v_e319.fCopy))]]⟩
def G_ringref2_Entries_C2 (n : Nat) (v_e319 : S_entry_Entry) : Option G_ringref2_Entries_C2_R :=
  if v_e319.fHere = true then
   if v_e319.fSlot = true then
    some (.x0 true)
   else
    if v_e319.fCopy = true then
     some (.x0 true)
    else
     if v_e319.fAt > 0 then
      some (.x0 true)
     else
      some (.x0 (decide (v_e319.fRights > 0)))
  else
   if v_e319.fUsed = true then
    some (.x0 true)
   else
    if v_e319.fDirty = true then
     some (.x0 true)
    else
     if v_e319.fSlot = true then
      some (.x0 false)
     else
      if v_e319.fCopy = true then
       some (.x0 true)
      else
       if v_e319.fAt > 0 then
        some (.x0 true)
       else
        some (.x0 (decide (v_e319.fRights > 0)))
theorem G_ringref2_Entries_C2_ok {Fi : Ex → PS → Prop} (hF : KC 58 Fi) (ks : List Fr) (n : Nat) (v_e319 : S_entry_Entry)  (o : G_ringref2_Entries_C2_R) (h : G_ringref2_Entries_C2 n v_e319 = some o) (q : RunE Try.prog 58 Fi ks (G_ringref2_Entries_C2_ex o) (G_ringref2_Entries_C2_st v_e319 o)) : RunE Try.prog 58 Fi (.s (cL (cL (cR (cR (cR (bodyOf Try.f110)))))) :: ks) .normal (G_ringref2_Entries_C2_hd v_e319) := by
  unfold G_ringref2_Entries_C2 at h
  by_cases h517 : v_e319.fHere = true
  · rw [if_pos h517] at h
    by_cases h518 : v_e319.fSlot = true
    · rw [if_pos h518] at h
      cases h
      exact pkk_sound TTok mix hF 1 (hs := [.c, .t true, .c, .c, .t true, .c, .c, .c, .c, .c, .c, .c]) (ts := []) (s := []) (l := [57]) (by kernel_rfl) (by kernel_rfl) (.cons h517 (.cons h518 .nil)) q
    · rw [if_neg h518] at h
      by_cases h519 : v_e319.fCopy = true
      · rw [if_pos h519] at h
        cases h
        exact pkk_sound TTok mix hF 1 (hs := [.c, .t true, .c, .c, .t false, .c, .c, .c, .c, .t false, .c, .c, .c, .c, .c, .c, .t true, .c, .c, .c, .t true, .c, .c, .c, .c, .c, .c, .c, .c, .c]) (ts := []) (s := []) (l := [57]) (by kernel_rfl) (by kernel_rfl) (.cons h517 (.cons (vf h518) (.cons (bnf h517) (.cons (bnt (vf h518)) (.cons h519 .nil))))) q
      · rw [if_neg h519] at h
        by_cases h520 : v_e319.fAt > 0
        · rw [if_pos h520] at h
          cases h
          exact pkk_sound TTok mix hF 1 (hs := [.c, .t true, .c, .c, .t false, .c, .c, .c, .c, .t false, .c, .c, .c, .c, .c, .c, .t true, .c, .c, .c, .t false, .c, .c, .c, .c, .c, .t true, .c, .c, .c, .c]) (ts := []) (s := []) (l := [57]) (by kernel_rfl) (by kernel_rfl) (.cons h517 (.cons (vf h518) (.cons (bnf h517) (.cons (bnt (vf h518)) (.cons (vf h519) (.cons (dt h520) .nil)))))) q
        · rw [if_neg h520] at h
          cases h
          exact pkk_sound TTok mix hF 1 (hs := [.c, .t true, .c, .c, .t false, .c, .c, .c, .c, .t false, .c, .c, .c, .c, .c, .c, .t true, .c, .c, .c, .t false, .c, .c, .c, .c, .c, .t false, .c, .c, .c, .c, .c]) (ts := []) (s := []) (l := [57]) (by kernel_rfl) (by kernel_rfl) (.cons h517 (.cons (vf h518) (.cons (bnf h517) (.cons (bnt (vf h518)) (.cons (vf h519) (.cons (df h520) .nil)))))) q
  · rw [if_neg h517] at h
    by_cases h521 : v_e319.fUsed = true
    · rw [if_pos h521] at h
      cases h
      exact pkk_sound TTok mix hF 1 (hs := [.c, .t false, .c, .c, .c, .c, .c, .c, .t true, .c, .c, .c, .t true, .c, .c, .c, .c, .c, .c]) (ts := []) (s := []) (l := [57]) (by kernel_rfl) (by kernel_rfl) (.cons (vf h517) (.cons (bnt (vf h517)) (.cons h521 .nil))) q
    · rw [if_neg h521] at h
      by_cases h522 : v_e319.fDirty = true
      · rw [if_pos h522] at h
        cases h
        exact pkk_sound TTok mix hF 1 (hs := [.c, .t false, .c, .c, .c, .c, .c, .c, .t true, .c, .c, .c, .t false, .c, .c, .c, .c, .t true, .c, .c]) (ts := []) (s := []) (l := [57]) (by kernel_rfl) (by kernel_rfl) (.cons (vf h517) (.cons (bnt (vf h517)) (.cons (vf h521) (.cons h522 .nil)))) q
      · rw [if_neg h522] at h
        by_cases h523 : v_e319.fSlot = true
        · rw [if_pos h523] at h
          cases h
          exact pkk_sound TTok mix hF 1 (hs := [.c, .t false, .c, .c, .c, .c, .c, .c, .t true, .c, .c, .c, .t false, .c, .c, .c, .c, .t false, .c, .t false, .c, .c, .c, .c, .c, .c]) (ts := []) (s := []) (l := [57]) (by kernel_rfl) (by kernel_rfl) (.cons (vf h517) (.cons (bnt (vf h517)) (.cons (vf h521) (.cons (vf h522) (.cons (bnf h523) .nil))))) q
        · rw [if_neg h523] at h
          by_cases h524 : v_e319.fCopy = true
          · rw [if_pos h524] at h
            cases h
            exact pkk_sound TTok mix hF 1 (hs := [.c, .t false, .c, .c, .c, .c, .c, .c, .t true, .c, .c, .c, .t false, .c, .c, .c, .c, .t false, .c, .t true, .c, .c, .c, .t true, .c, .c, .c, .c, .c, .c, .c, .c, .c]) (ts := []) (s := []) (l := [57]) (by kernel_rfl) (by kernel_rfl) (.cons (vf h517) (.cons (bnt (vf h517)) (.cons (vf h521) (.cons (vf h522) (.cons (bnt (vf h523)) (.cons h524 .nil)))))) q
          · rw [if_neg h524] at h
            by_cases h525 : v_e319.fAt > 0
            · rw [if_pos h525] at h
              cases h
              exact pkk_sound TTok mix hF 1 (hs := [.c, .t false, .c, .c, .c, .c, .c, .c, .t true, .c, .c, .c, .t false, .c, .c, .c, .c, .t false, .c, .t true, .c, .c, .c, .t false, .c, .c, .c, .c, .c, .t true, .c, .c, .c, .c]) (ts := []) (s := []) (l := [57]) (by kernel_rfl) (by kernel_rfl) (.cons (vf h517) (.cons (bnt (vf h517)) (.cons (vf h521) (.cons (vf h522) (.cons (bnt (vf h523)) (.cons (vf h524) (.cons (dt h525) .nil))))))) q
            · rw [if_neg h525] at h
              cases h
              exact pkk_sound TTok mix hF 1 (hs := [.c, .t false, .c, .c, .c, .c, .c, .c, .t true, .c, .c, .c, .t false, .c, .c, .c, .c, .t false, .c, .t true, .c, .c, .c, .t false, .c, .c, .c, .c, .c, .t false, .c, .c, .c, .c, .c]) (ts := []) (s := []) (l := [57]) (by kernel_rfl) (by kernel_rfl) (.cons (vf h517) (.cons (bnt (vf h517)) (.cons (vf h521) (.cons (vf h522) (.cons (bnt (vf h523)) (.cons (vf h524) (.cons (df h525) .nil))))))) q
inductive G_ringref2_Entries_C3_R where
  | x0 (v_x340 : Bool)
def G_ringref2_Entries_C3_ex : G_ringref2_Entries_C3_R → Ex
  | .x0 _ => .normal
def G_ringref2_Entries_C3_st (v_e319 : S_entry_Entry) : G_ringref2_Entries_C3_R → PS
  | .x0 v_x340 => ⟨[dd, dd, dd, dd, dd, dd, dd, dd, dd, dd, dd, dd, dd, dd, dd, dd, dd, dd, dd, dd, dd, dd, dd, dd, dd, dd, dd, dd, dd, dd, dd, dd, dd, dd, dd, dd, dd, dd, dd, dd, dd, dd, dd, dd, dd, dd, dd, dd, dd, dd, dd, dd, dd, dd, dd, dd, dd, .d (.v (.bool v_x340))], []⟩
def G_ringref2_Entries_C3_hd (v_e319 : S_entry_Entry)  : PS := ⟨[dd, .ref 0 0, dd, .d (.v (.bool false)), dd, dd, dd, dd, dd, dd, dd, dd, dd, dd, dd, dd, dd, dd, dd, dd, dd, dd, dd, dd, dd, dd, dd, dd, dd, dd, dd, dd, dd, dd, dd, dd, dd, dd, dd, dd, dd, dd, dd, dd, dd, dd, dd, dd, dd, dd, dd, dd, dd, dd, dd, dd, dd, dd], [.box [.d (.v (.bool v_e319.fHere)), .d (.v (.bool v_e319.fSlot)), .d (.v (.int .i64 v_e319.fAt)), .d (.v (.int .i64 v_e319.fRights)), .d (.v (.bool v_e319.fUsed)), .d (.v (.bool v_e319.fDirty)), .d (.v (.bool v_e319.fCopy))]]⟩
def G_ringref2_Entries_C3 (n : Nat) (v_e319 : S_entry_Entry) : Option G_ringref2_Entries_C3_R :=
  if v_e319.fHere = true then
   if v_e319.fSlot = true then
    some (.x0 true)
   else
    some (.x0 false)
  else
   if v_e319.fUsed = true then
    some (.x0 true)
   else
    if v_e319.fDirty = true then
     some (.x0 true)
    else
     some (.x0 false)
theorem G_ringref2_Entries_C3_ok {Fi : Ex → PS → Prop} (hF : KC 58 Fi) (ks : List Fr) (n : Nat) (v_e319 : S_entry_Entry)  (o : G_ringref2_Entries_C3_R) (h : G_ringref2_Entries_C3 n v_e319 = some o) (q : RunE Try.prog 58 Fi ks (G_ringref2_Entries_C3_ex o) (G_ringref2_Entries_C3_st v_e319 o)) : RunE Try.prog 58 Fi (.s (cL (cL (cR (cR (cR (bodyOf Try.f110)))))) :: ks) .normal (G_ringref2_Entries_C3_hd v_e319) := by
  unfold G_ringref2_Entries_C3 at h
  by_cases h532 : v_e319.fHere = true
  · rw [if_pos h532] at h
    by_cases h533 : v_e319.fSlot = true
    · rw [if_pos h533] at h
      cases h
      exact pkk_sound TTok mix hF 1 (hs := [.c, .t true, .c, .c, .t true, .c, .c, .c, .c, .c, .c, .c]) (ts := []) (s := []) (l := [57]) (by kernel_rfl) (by kernel_rfl) (.cons h532 (.cons h533 .nil)) q
    · rw [if_neg h533] at h
      cases h
      exact pkk_sound TTok mix hF 1 (hs := [.c, .t true, .c, .c, .t false, .c, .c, .c, .c, .t false, .c, .c, .c, .c, .c, .c, .c, .c, .c, .c, .c, .c, .c]) (ts := []) (s := []) (l := [57]) (by kernel_rfl) (by kernel_rfl) (.cons h532 (.cons (vf h533) (.cons (bnf h532) .nil))) q
  · rw [if_neg h532] at h
    by_cases h534 : v_e319.fUsed = true
    · rw [if_pos h534] at h
      cases h
      exact pkk_sound TTok mix hF 1 (hs := [.c, .t false, .c, .c, .c, .c, .c, .c, .t true, .c, .c, .c, .t true, .c, .c, .c, .c, .c, .c]) (ts := []) (s := []) (l := [57]) (by kernel_rfl) (by kernel_rfl) (.cons (vf h532) (.cons (bnt (vf h532)) (.cons h534 .nil))) q
    · rw [if_neg h534] at h
      by_cases h535 : v_e319.fDirty = true
      · rw [if_pos h535] at h
        cases h
        exact pkk_sound TTok mix hF 1 (hs := [.c, .t false, .c, .c, .c, .c, .c, .c, .t true, .c, .c, .c, .t false, .c, .c, .c, .c, .t true, .c, .c]) (ts := []) (s := []) (l := [57]) (by kernel_rfl) (by kernel_rfl) (.cons (vf h532) (.cons (bnt (vf h532)) (.cons (vf h534) (.cons h535 .nil)))) q
      · rw [if_neg h535] at h
        cases h
        exact pkk_sound TTok mix hF 1 (hs := [.c, .t false, .c, .c, .c, .c, .c, .c, .t true, .c, .c, .c, .t false, .c, .c, .c, .c, .t false, .c, .c, .c, .c, .c, .c, .c, .c]) (ts := []) (s := []) (l := [57]) (by kernel_rfl) (by kernel_rfl) (.cons (vf h532) (.cons (bnt (vf h532)) (.cons (vf h534) (.cons (vf h535) .nil)))) q
/- ringhall/ringref2.Entries -/
def G_ringref2_Entries (n : Nat) (v_e319 : S_entry_Entry) : Option (Int) :=
  (G_ringref2_Entries_C1 n v_e319).bind fun v_o326 => match v_o326 with
  | .x0 v_z327 =>
    if v_z327 = true then
     some 1
    else
     if v_e319.fHere = true then
      (G_ringref2_Entries_C3 n v_e319).bind fun v_o345 => match v_o345 with
      | .x0 v_z346 =>
        if v_z346 = true then
         some 3
        else
         some 0
     else
      (G_ringref2_Entries_C2 n v_e319).bind fun v_o338 => match v_o338 with
      | .x0 v_z339 =>
        if v_z339 = true then
         some 3
        else
         some 0
theorem G_ringref2_Entries_ok (n : Nat) (v_e319 : S_entry_Entry) (r : Int) (h : G_ringref2_Entries n v_e319 = some r) : Ret Try.prog 110 [eS_entry_Entry v_e319] ((eI .i64) r) := by
  refine ret_run (n := 58) (fn := Try.f110) (c := bodyOf Try.f110) (by kernel_rfl) (by kernel_rfl) (by kernel_rfl) (by kernel_rfl) ?_
  have hF : KC 58 (FinR Try.prog Try.f110 ((eI .i64) r)) := FinR.kc' (by kernel_rfl)
  unfold G_ringref2_Entries at h
  obtain ⟨v_o326, h505, h⟩ := bind_some h
  refine pkk_sound TTok mix hF 4 (hs := []) (ts := []) (s := [0]) (l := [1]) (by kernel_rfl) (by kernel_rfl) .nil (G_ringref2_Entries_C1_ok hF (.s (cR (cL (cR (bodyOf Try.f110)))) :: .s (cR (cR (bodyOf Try.f110))) :: []) n v_e319 _ h505 ?_)
  cases v_o326 with
  | x0 v_z327 =>
    dsimp only at h
    by_cases h506 : v_z327 = true
    · rw [if_pos h506] at h
      obtain rfl := Option.some.inj h
      exact pend_sound TTok mix 5 (hs := [.t true]) (by kernel_rfl) (by kernel_rfl) (by kernel_rfl) (.cons h506 .nil)
    · rw [if_neg h506] at h
      by_cases h507 : v_e319.fHere = true
      · rw [if_pos h507] at h
        obtain ⟨v_o345, h536, h⟩ := bind_some h
        refine pkk_sound TTok mix hF 6 (hs := [.t false, .c, .t false, .c, .c]) (ts := []) (s := [0]) (l := [1, 3]) (by kernel_rfl) (by kernel_rfl) (.cons (vf h506) (.cons (bnf h507) .nil)) (G_ringref2_Entries_C3_ok hF (.s (cR (cL (cR (cR (cR (bodyOf Try.f110)))))) :: .s (cR (cR (cR (cR (bodyOf Try.f110))))) :: []) n v_e319 _ h536 ?_)
        cases v_o345 with
        | x0 v_z346 =>
          dsimp only at h
          by_cases h537 : v_z346 = true
          · rw [if_pos h537] at h
            obtain rfl := Option.some.inj h
            exact pend_sound TTok mix 5 (hs := [.t true]) (by kernel_rfl) (by kernel_rfl) (by kernel_rfl) (.cons h537 .nil)
          · rw [if_neg h537] at h
            obtain rfl := Option.some.inj h
            exact pend_sound TTok mix 5 (hs := [.t false]) (by kernel_rfl) (by kernel_rfl) (by kernel_rfl) (.cons (vf h537) .nil)
      · rw [if_neg h507] at h
        obtain ⟨v_o338, h526, h⟩ := bind_some h
        refine pkk_sound TTok mix hF 6 (hs := [.t false, .c, .t true, .c, .c, .c]) (ts := []) (s := [0]) (l := [1, 3]) (by kernel_rfl) (by kernel_rfl) (.cons (vf h506) (.cons (bnt (vf h507)) .nil)) (G_ringref2_Entries_C2_ok hF (.s (cR (cL (cR (cR (cR (bodyOf Try.f110)))))) :: .s (cR (cR (cR (cR (bodyOf Try.f110))))) :: []) n v_e319 _ h526 ?_)
        cases v_o338 with
        | x0 v_z339 =>
          dsimp only at h
          by_cases h527 : v_z339 = true
          · rw [if_pos h527] at h
            obtain rfl := Option.some.inj h
            exact pend_sound TTok mix 5 (hs := [.t true]) (by kernel_rfl) (by kernel_rfl) (by kernel_rfl) (.cons h527 .nil)
          · rw [if_neg h527] at h
            obtain rfl := Option.some.inj h
            exact pend_sound TTok mix 5 (hs := [.t false]) (by kernel_rfl) (by kernel_rfl) (by kernel_rfl) (.cons (vf h527) .nil)
inductive G_ringref2_Faults_C1_R where
  | x0 (v_x314 : Bool)
def G_ringref2_Faults_C1_ex : G_ringref2_Faults_C1_R → Ex
  | .x0 _ => .normal
def G_ringref2_Faults_C1_st (v_c307 : S_fault_Case) : G_ringref2_Faults_C1_R → PS
  | .x0 v_x314 => ⟨[dd, .ref 0 0, dd, dd, dd, dd, dd, dd, dd, dd, dd, dd, dd, dd, .d (.v (.bool v_x314)), dd, dd, dd, dd, dd, dd, dd, dd, dd, dd, dd, dd, dd, dd, dd, dd, dd, dd, dd, dd, dd, dd, dd, dd, dd, dd, dd, dd, dd, dd, dd, dd, dd, dd, dd, dd, dd, dd, dd, dd, dd, dd, dd, dd, dd], [.box [.d (.v (.int .i64 v_c307.fArea)), .d (.v (.bool v_c307.fEntry.fHere)), .d (.v (.bool v_c307.fEntry.fSlot)), .d (.v (.int .i64 v_c307.fEntry.fAt)), .d (.v (.int .i64 v_c307.fEntry.fRights)), .d (.v (.bool v_c307.fEntry.fUsed)), .d (.v (.bool v_c307.fEntry.fDirty)), .d (.v (.bool v_c307.fEntry.fCopy)), .d (.v (.int .i64 v_c307.fMany)), .d (.v (.int .i64 v_c307.fWant))]]⟩
def G_ringref2_Faults_C1_hd (v_c307 : S_fault_Case)  : PS := ⟨[dd, .ref 0 0, dd, dd, dd, dd, dd, dd, dd, dd, dd, dd, dd, dd, dd, dd, dd, dd, dd, dd, dd, dd, dd, dd, dd, dd, dd, dd, dd, dd, dd, dd, dd, dd, dd, dd, dd, dd, dd, dd, dd, dd, dd, dd, dd, dd, dd, dd, dd, dd, dd, dd, dd, dd, dd, dd, dd, dd, dd, dd], [.box [.d (.v (.int .i64 v_c307.fArea)), .d (.v (.bool v_c307.fEntry.fHere)), .d (.v (.bool v_c307.fEntry.fSlot)), .d (.v (.int .i64 v_c307.fEntry.fAt)), .d (.v (.int .i64 v_c307.fEntry.fRights)), .d (.v (.bool v_c307.fEntry.fUsed)), .d (.v (.bool v_c307.fEntry.fDirty)), .d (.v (.bool v_c307.fEntry.fCopy)), .d (.v (.int .i64 v_c307.fMany)), .d (.v (.int .i64 v_c307.fWant))]]⟩
def G_ringref2_Faults_C1 (n : Nat) (v_c307 : S_fault_Case) : Option G_ringref2_Faults_C1_R :=
  (G_ringref2_In n v_c307.fArea (-1) 7).bind fun (v_r313 : (Bool)) =>
  if v_r313 = true then
   (G_ringref2_In n v_c307.fWant 1 7).bind fun (v_r315 : (Bool)) =>
   some (.x0 (!v_r315))
  else
   some (.x0 true)
theorem G_ringref2_Faults_C1_ok {Fi : Ex → PS → Prop} (hF : KC 60 Fi) (ks : List Fr) (n : Nat) (v_c307 : S_fault_Case)  (o : G_ringref2_Faults_C1_R) (h : G_ringref2_Faults_C1 n v_c307 = some o) (q : RunE Try.prog 60 Fi ks (G_ringref2_Faults_C1_ex o) (G_ringref2_Faults_C1_st v_c307 o)) : RunE Try.prog 60 Fi (.s (cL (cL (cR (bodyOf Try.f54)))) :: ks) .normal (G_ringref2_Faults_C1_hd v_c307) := by
  unfold G_ringref2_Faults_C1 at h
  obtain ⟨v_r313, h494, h⟩ := bind_some h
  by_cases h495 : v_r313 = true
  · rw [if_pos h495] at h
    obtain ⟨v_r315, h496, h⟩ := bind_some h
    cases h
    exact pkk_sound TTok mix hF 1 (hs := [.c, .r (eB v_r313), .t false, .c, .c, .c, .r (eB v_r315), .c]) (ts := []) (s := [0]) (l := [1, 14]) (by kernel_rfl) (by kernel_rfl) (.cons (G_ringref2_In_ok n v_c307.fArea (-1) 7 _ h494) (.cons (bnf h495) (.cons (G_ringref2_In_ok n v_c307.fWant 1 7 _ h496) .nil))) q
  · rw [if_neg h495] at h
    cases h
    exact pkk_sound TTok mix hF 1 (hs := [.c, .r (eB v_r313), .t true, .c, .c, .c]) (ts := []) (s := [0]) (l := [1, 14]) (by kernel_rfl) (by kernel_rfl) (.cons (G_ringref2_In_ok n v_c307.fArea (-1) 7 _ h494) (.cons (bnt (vf h495)) .nil)) q
inductive G_ringref2_Faults_C2_R where
  | x0 (v_none348 : Bool)
def G_ringref2_Faults_C2_ex : G_ringref2_Faults_C2_R → Ex
  | .x0 _ => .normal
def G_ringref2_Faults_C2_st (v_c307 : S_fault_Case) : G_ringref2_Faults_C2_R → PS
  | .x0 v_none348 => ⟨[dd, .ref 0 0, dd, dd, .d (.v (.bool v_none348)), dd, dd, dd, dd, dd, dd, dd, dd, dd, dd, dd, dd, dd, dd, dd, dd, dd, dd, dd, dd, dd, dd, dd, dd, dd, dd, dd, dd, dd, dd, dd, dd, dd, dd, dd, dd, dd, dd, dd, dd, dd, dd, dd, dd, dd, dd, dd, dd, dd, dd, dd, dd, dd, dd, dd], [.box [.d (.v (.int .i64 v_c307.fArea)), .d (.v (.bool v_c307.fEntry.fHere)), .d (.v (.bool v_c307.fEntry.fSlot)), .d (.v (.int .i64 v_c307.fEntry.fAt)), .d (.v (.int .i64 v_c307.fEntry.fRights)), .d (.v (.bool v_c307.fEntry.fUsed)), .d (.v (.bool v_c307.fEntry.fDirty)), .d (.v (.bool v_c307.fEntry.fCopy)), .d (.v (.int .i64 v_c307.fMany)), .d (.v (.int .i64 v_c307.fWant))]]⟩
def G_ringref2_Faults_C2_hd (v_c307 : S_fault_Case)  : PS := ⟨[dd, .ref 0 0, dd, dd, dd, dd, dd, dd, dd, dd, dd, dd, dd, dd, dd, dd, dd, dd, dd, dd, dd, dd, dd, dd, dd, dd, dd, dd, dd, dd, dd, dd, dd, dd, dd, dd, dd, dd, dd, dd, dd, dd, dd, dd, dd, dd, dd, dd, dd, dd, dd, dd, dd, dd, dd, dd, dd, dd, dd, dd], [.box [.d (.v (.int .i64 v_c307.fArea)), .d (.v (.bool v_c307.fEntry.fHere)), .d (.v (.bool v_c307.fEntry.fSlot)), .d (.v (.int .i64 v_c307.fEntry.fAt)), .d (.v (.int .i64 v_c307.fEntry.fRights)), .d (.v (.bool v_c307.fEntry.fUsed)), .d (.v (.bool v_c307.fEntry.fDirty)), .d (.v (.bool v_c307.fEntry.fCopy)), .d (.v (.int .i64 v_c307.fMany)), .d (.v (.int .i64 v_c307.fWant))]]⟩
def G_ringref2_Faults_C2 (n : Nat) (v_c307 : S_fault_Case) : Option G_ringref2_Faults_C2_R :=
  if v_c307.fEntry.fHere = true then
   some (.x0 false)
  else
   some (.x0 (!v_c307.fEntry.fSlot))
theorem G_ringref2_Faults_C2_ok {Fi : Ex → PS → Prop} (hF : KC 60 Fi) (ks : List Fr) (n : Nat) (v_c307 : S_fault_Case)  (o : G_ringref2_Faults_C2_R) (h : G_ringref2_Faults_C2 n v_c307 = some o) (q : RunE Try.prog 60 Fi ks (G_ringref2_Faults_C2_ex o) (G_ringref2_Faults_C2_st v_c307 o)) : RunE Try.prog 60 Fi (.s (cL (cR (cR (cR (bodyOf Try.f54))))) :: ks) .normal (G_ringref2_Faults_C2_hd v_c307) := by
  unfold G_ringref2_Faults_C2 at h
  by_cases h541 : v_c307.fEntry.fHere = true
  · rw [if_pos h541] at h
    cases h
    exact pkk_sound TTok mix hF 1 (hs := [.c, .t false, .c, .c, .c]) (ts := []) (s := [0]) (l := [1, 4]) (by kernel_rfl) (by kernel_rfl) (.cons (bnf h541) .nil) q
  · rw [if_neg h541] at h
    cases h
    exact pkk_sound TTok mix hF 1 (hs := [.c, .t true, .c, .c, .c, .c]) (ts := []) (s := [0]) (l := [1, 4]) (by kernel_rfl) (by kernel_rfl) (.cons (bnt (vf h541)) .nil) q
inductive G_ringref2_Faults_C3_R where
  | x0 (v_x352 : Bool)
def G_ringref2_Faults_C3_ex : G_ringref2_Faults_C3_R → Ex
  | .x0 _ => .normal
def G_ringref2_Faults_C3_st (v_z351 : Bool) (v_c307 : S_fault_Case) : G_ringref2_Faults_C3_R → PS
  | .x0 v_x352 => ⟨[dd, dd, dd, dd, dd, dd, dd, dd, dd, dd, dd, dd, dd, dd, dd, dd, dd, dd, dd, dd, dd, dd, dd, dd, dd, dd, dd, dd, dd, dd, dd, dd, dd, dd, dd, dd, dd, dd, dd, dd, dd, dd, dd, dd, dd, dd, dd, dd, dd, dd, dd, dd, dd, dd, dd, dd, dd, dd, dd, .d (.v (.bool v_x352))], []⟩
def G_ringref2_Faults_C3_hd (v_z351 : Bool) (v_c307 : S_fault_Case)  : PS := ⟨[dd, .ref 0 0, dd, dd, .d (.v (.bool v_z351)), dd, dd, dd, dd, dd, dd, dd, dd, dd, dd, dd, dd, dd, dd, dd, dd, dd, dd, dd, dd, dd, dd, dd, dd, dd, dd, dd, dd, dd, dd, dd, dd, dd, dd, dd, dd, dd, dd, dd, dd, dd, dd, dd, dd, dd, dd, dd, dd, dd, dd, dd, dd, dd, dd, dd], [.box [.d (.v (.int .i64 v_c307.fArea)), .d (.v (.bool v_c307.fEntry.fHere)), .d (.v (.bool v_c307.fEntry.fSlot)), .d (.v (.int .i64 v_c307.fEntry.fAt)), .d (.v (.int .i64 v_c307.fEntry.fRights)), .d (.v (.bool v_c307.fEntry.fUsed)), .d (.v (.bool v_c307.fEntry.fDirty)), .d (.v (.bool v_c307.fEntry.fCopy)), .d (.v (.int .i64 v_c307.fMany)), .d (.v (.int .i64 v_c307.fWant))]]⟩
def G_ringref2_Faults_C3 (n : Nat) (v_z351 : Bool) (v_c307 : S_fault_Case) : Option G_ringref2_Faults_C3_R :=
  if v_c307.fMany < 0 then
   some (.x0 true)
  else
   if v_z351 = true then
    if v_c307.fMany = 0 then
     if v_c307.fArea = (-1) then
      some (.x0 (!v_z351))
     else
      some (.x0 false)
    else
     some (.x0 true)
   else
    if v_c307.fMany = 0 then
     some (.x0 true)
    else
     if v_c307.fArea = (-1) then
      some (.x0 (!v_z351))
     else
      some (.x0 false)
theorem G_ringref2_Faults_C3_ok {Fi : Ex → PS → Prop} (hF : KC 60 Fi) (ks : List Fr) (n : Nat) (v_z351 : Bool) (v_c307 : S_fault_Case)  (o : G_ringref2_Faults_C3_R) (h : G_ringref2_Faults_C3 n v_z351 v_c307 = some o) (q : RunE Try.prog 60 Fi ks (G_ringref2_Faults_C3_ex o) (G_ringref2_Faults_C3_st v_z351 v_c307 o)) : RunE Try.prog 60 Fi (.s (cL (cL (cR (cR (cR (cR (bodyOf Try.f54))))))) :: ks) .normal (G_ringref2_Faults_C3_hd v_z351 v_c307) := by
  unfold G_ringref2_Faults_C3 at h
  by_cases h549 : v_c307.fMany < 0
  · rw [if_pos h549] at h
    cases h
    exact pkk_sound TTok mix hF 1 (hs := [.c, .t true, .c, .c, .c, .c, .c, .c, .c, .c, .c, .c, .c]) (ts := []) (s := []) (l := [59]) (by kernel_rfl) (by kernel_rfl) (.cons (dt h549) .nil) q
  · rw [if_neg h549] at h
    by_cases h550 : v_z351 = true
    · rw [if_pos h550] at h
      by_cases h551 : v_c307.fMany = 0
      · rw [if_pos h551] at h
        by_cases h552 : v_c307.fArea = (-1)
        · rw [if_pos h552] at h
          cases h
          exact pkk_sound TTok mix hF 1 (hs := [.c, .t false, .c, .t true, .c, .c, .c, .c, .t false, .c, .c, .t false, .c, .c, .c, .c, .c, .c, .c, .c, .t true, .c, .c]) (ts := []) (s := []) (l := [59]) (by kernel_rfl) (by kernel_rfl) (.cons (df h549) (.cons h550 (.cons (nf h551) (.cons (bnf h550) (.cons (bt h552) .nil))))) q
        · rw [if_neg h552] at h
          cases h
          exact pkk_sound TTok mix hF 1 (hs := [.c, .t false, .c, .t true, .c, .c, .c, .c, .t false, .c, .c, .t false, .c, .c, .c, .c, .c, .c, .c, .c, .t false, .c, .c]) (ts := []) (s := []) (l := [59]) (by kernel_rfl) (by kernel_rfl) (.cons (df h549) (.cons h550 (.cons (nf h551) (.cons (bnf h550) (.cons (bf h552) .nil))))) q
      · rw [if_neg h551] at h
        cases h
        exact pkk_sound TTok mix hF 1 (hs := [.c, .t false, .c, .t true, .c, .c, .c, .c, .t true, .c, .c, .c, .c, .c, .c, .c, .c]) (ts := []) (s := []) (l := [59]) (by kernel_rfl) (by kernel_rfl) (.cons (df h549) (.cons h550 (.cons (nt h551) .nil))) q
    · rw [if_neg h550] at h
      by_cases h553 : v_c307.fMany = 0
      · rw [if_pos h553] at h
        cases h
        exact pkk_sound TTok mix hF 1 (hs := [.c, .t false, .c, .t false, .c, .c, .c, .c, .c, .c, .t true, .c, .c, .c, .c, .t true, .c, .c, .c, .c]) (ts := []) (s := []) (l := [59]) (by kernel_rfl) (by kernel_rfl) (.cons (df h549) (.cons (vf h550) (.cons (bnt (vf h550)) (.cons (bt h553) .nil)))) q
      · rw [if_neg h553] at h
        by_cases h554 : v_c307.fArea = (-1)
        · rw [if_pos h554] at h
          cases h
          exact pkk_sound TTok mix hF 1 (hs := [.c, .t false, .c, .t false, .c, .c, .c, .c, .c, .c, .t true, .c, .c, .c, .c, .t false, .c, .c, .c, .c, .t true, .c, .c]) (ts := []) (s := []) (l := [59]) (by kernel_rfl) (by kernel_rfl) (.cons (df h549) (.cons (vf h550) (.cons (bnt (vf h550)) (.cons (bf h553) (.cons (bt h554) .nil))))) q
        · rw [if_neg h554] at h
          cases h
          exact pkk_sound TTok mix hF 1 (hs := [.c, .t false, .c, .t false, .c, .c, .c, .c, .c, .c, .t true, .c, .c, .c, .c, .t false, .c, .c, .c, .c, .t false, .c, .c]) (ts := []) (s := []) (l := [59]) (by kernel_rfl) (by kernel_rfl) (.cons (df h549) (.cons (vf h550) (.cons (bnt (vf h550)) (.cons (bf h553) (.cons (bf h554) .nil))))) q
/- ringhall/ringref2.Faults -/
def G_ringref2_Faults (n : Nat) (v_c307 : S_fault_Case) : Option (Int) :=
  (G_ringref2_Faults_C1 n v_c307).bind fun v_o317 => match v_o317 with
  | .x0 v_z318 =>
    if v_z318 = true then
     some 1
    else
     (G_ringref2_Entries n v_c307.fEntry).bind fun (v_r347 : (Int)) =>
     if v_r347 = 0 then
      (G_ringref2_Faults_C2 n v_c307).bind fun v_o350 => match v_o350 with
      | .x0 v_z351 =>
        (G_ringref2_Faults_C3 n v_z351 v_c307).bind fun v_o359 => match v_o359 with
        | .x0 v_z360 =>
          if v_z360 = true then
           some 3
          else
           some 0
     else
      some v_r347
theorem G_ringref2_Faults_ok (n : Nat) (v_c307 : S_fault_Case) (r : Int) (h : G_ringref2_Faults n v_c307 = some r) : Ret Try.prog 54 [eS_fault_Case v_c307] ((eI .i64) r) := by
  refine ret_run (n := 60) (fn := Try.f54) (c := bodyOf Try.f54) (by kernel_rfl) (by kernel_rfl) (by kernel_rfl) (by kernel_rfl) ?_
  have hF : KC 60 (FinR Try.prog Try.f54 ((eI .i64) r)) := FinR.kc' (by kernel_rfl)
  unfold G_ringref2_Faults at h
  obtain ⟨v_o317, h497, h⟩ := bind_some h
  refine pkk_sound TTok mix hF 4 (hs := []) (ts := []) (s := [0]) (l := [1]) (by kernel_rfl) (by kernel_rfl) .nil (G_ringref2_Faults_C1_ok hF (.s (cR (cL (cR (bodyOf Try.f54)))) :: .s (cR (cR (bodyOf Try.f54))) :: []) n v_c307 _ h497 ?_)
  cases v_o317 with
  | x0 v_z318 =>
    dsimp only at h
    by_cases h498 : v_z318 = true
    · rw [if_pos h498] at h
      obtain rfl := Option.some.inj h
      exact pend_sound TTok mix 5 (hs := [.t true]) (by kernel_rfl) (by kernel_rfl) (by kernel_rfl) (.cons h498 .nil)
    · rw [if_neg h498] at h
      obtain ⟨v_r347, h538, h⟩ := bind_some h
      by_cases h539 : v_r347 = 0
      · rw [if_pos h539] at h
        obtain ⟨v_o350, h542, h⟩ := bind_some h
        refine pkk_sound TTok mix hF 10 (hs := [.t false, .c, .r ((eI .i64) v_r347), .t false]) (ts := []) (s := [0]) (l := [1]) (by kernel_rfl) (by kernel_rfl) (.cons (vf h498) (.cons (G_ringref2_Entries_ok n v_c307.fEntry _ h538) (.cons (nf h539) .nil))) (G_ringref2_Faults_C2_ok hF (.s (cR (cR (cR (cR (bodyOf Try.f54))))) :: []) n v_c307 _ h542 ?_)
        cases v_o350 with
        | x0 v_z351 =>
          dsimp only at h
          obtain ⟨v_o359, h555, h⟩ := bind_some h
          refine pkk_sound TTok mix hF 2 (hs := []) (ts := []) (s := [0]) (l := [1, 4]) (by kernel_rfl) (by kernel_rfl) .nil (G_ringref2_Faults_C3_ok hF (.s (cR (cL (cR (cR (cR (cR (bodyOf Try.f54))))))) :: .s (cR (cR (cR (cR (cR (bodyOf Try.f54)))))) :: []) n v_z351 v_c307 _ h555 ?_)
          cases v_o359 with
          | x0 v_z360 =>
            dsimp only at h
            by_cases h556 : v_z360 = true
            · rw [if_pos h556] at h
              obtain rfl := Option.some.inj h
              exact pend_sound TTok mix 5 (hs := [.t true]) (by kernel_rfl) (by kernel_rfl) (by kernel_rfl) (.cons h556 .nil)
            · rw [if_neg h556] at h
              obtain rfl := Option.some.inj h
              exact pend_sound TTok mix 5 (hs := [.t false]) (by kernel_rfl) (by kernel_rfl) (by kernel_rfl) (.cons (vf h556) .nil)
      · rw [if_neg h539] at h
        obtain rfl := Option.some.inj h
        exact pend_sound TTok mix 12 (hs := [.t false, .c, .r ((eI .i64) v_r347), .t true]) (by kernel_rfl) (by kernel_rfl) (by kernel_rfl) (.cons (vf h498) (.cons (G_ringref2_Entries_ok n v_c307.fEntry _ h538) (.cons (nt h539) .nil)))
inductive G_ringref2_Has_L1_R where
  | x0 (v_x392 : Bool)
  | x1 
def G_ringref2_Has_L1_ex : G_ringref2_Has_L1_R → Ex
  | .x0 _ => .ret
  | .x1  => .exit 0
def G_ringref2_Has_L1_st (v_rights387 : Int) (v_want388 : Int) : G_ringref2_Has_L1_R → PS
  | .x0 v_x392 => ⟨[dd, dd, dd, dd, .d (.v (.bool v_x392)), dd, dd, dd, dd, dd, dd, dd, dd, dd, dd, dd, dd, dd, dd, dd, dd, dd, dd, dd], []⟩
  | .x1  => ⟨[dd, dd, dd, dd, dd, dd, dd, dd, dd, dd, dd, dd, dd, dd, dd, dd, dd, dd, dd, dd, dd, dd, dd, dd], []⟩
def G_ringref2_Has_L1_hd (v_rights387 : Int) (v_want388 : Int) (v_x389 : Int) : PS := ⟨[.d (.v (.int .i64 v_rights387)), .d (.v (.int .i64 v_want388)), dd, dd, dd, dd, dd, .d (.agg [.v (.int .i64 1), .v (.int .i64 2), .v (.int .i64 4)]), .d (.v (.int .i64 v_x389)), dd, dd, dd, dd, dd, dd, dd, dd, dd, dd, dd, dd, dd, dd, dd], []⟩
def G_ringref2_Has_L1 (n : Nat) (v_rights387 : Int) (v_want388 : Int) : Nat → Int → Option G_ringref2_Has_L1_R
  | 0, _ => none
  | k + 1, v_x389 =>
    if v_x389 < 3 then
     (getA (fun i : Fin 3 => [1, 2, 4].get i) v_x389).bind fun (v_y391 : Int) =>
     if v_y391 ≠ 0 then
      if (remI (quoI .i64 v_want388 v_y391) 2) = 1 then
       if v_y391 ≠ 0 then
        if (remI (quoI .i64 v_rights387 v_y391) 2) = 0 then
         some (.x0 false)
        else
         G_ringref2_Has_L1 n v_rights387 v_want388 k (wi .i64 (v_x389 + 1))
       else none
      else
       G_ringref2_Has_L1 n v_rights387 v_want388 k (wi .i64 (v_x389 + 1))
     else none
    else
     some (.x1 )
theorem G_ringref2_Has_L1_ok {Fi : Ex → PS → Prop} (hF : KC 24 Fi) (ks : List Fr) (n : Nat) (v_rights387 : Int) (v_want388 : Int)  : ∀ (k : Nat) (v_x389 : Int) (o : G_ringref2_Has_L1_R), G_ringref2_Has_L1 n v_rights387 v_want388 k v_x389 = some o → RunE Try.prog 24 Fi ks (G_ringref2_Has_L1_ex o) (G_ringref2_Has_L1_st v_rights387 v_want388 o) → RunE Try.prog 24 Fi (.l k (cP (cB (cR (cL (cR (bodyOf Try.f112)))))) :: ks) .normal (G_ringref2_Has_L1_hd v_rights387 v_want388 v_x389)
  | 0, v_x389, o, h, q => by rw [G_ringref2_Has_L1] at h; cases h
  | k + 1, v_x389, o, h, q => by
    rw [G_ringref2_Has_L1] at h
    by_cases h594 : v_x389 < 3
    · rw [if_pos h594] at h
      obtain ⟨v_y391, h607, h⟩ := bind_some h
      by_cases h613 : v_y391 ≠ 0
      · rw [if_pos h613] at h
        by_cases h615 : (remI (quoI .i64 v_want388 v_y391) 2) = 1
        · rw [if_pos h615] at h
          by_cases h616 : v_y391 ≠ 0
          · rw [if_pos h616] at h
            by_cases h618 : (remI (quoI .i64 v_rights387 v_y391) 2) = 0
            · rw [if_pos h618] at h
              cases h
              exact pkk_sound TTok mix hF 19 (hs := [.t true, .l (.d (.v (.int .i64 v_y391))), .t true, .c, .c, .c, .c, .t true]) (ts := []) (s := []) (l := [4]) (by kernel_rfl) (by kernel_rfl) (.cons (dt h594) (.cons (getA_ob0 (fun x => FV.d ((eI .i64) x)) h607) (.cons h613 (.cons (show (2 : Int) ≠ 0 by decide) (.cons (bt h615) (.cons h616 (.cons (show (2 : Int) ≠ 0 by decide) (.cons (bt h618) .nil)))))))) q
            · rw [if_neg h618] at h
              exact pkk_sound TTok mix hF 16 (hs := [.t true, .l (.d (.v (.int .i64 v_y391))), .t true, .c, .c, .c, .c, .t false]) (ts := []) (s := []) (l := [0, 1, 7, 8]) (by kernel_rfl) (by kernel_rfl) (.cons (dt h594) (.cons (getA_ob0 (fun x => FV.d ((eI .i64) x)) h607) (.cons h613 (.cons (show (2 : Int) ≠ 0 by decide) (.cons (bt h615) (.cons h616 (.cons (show (2 : Int) ≠ 0 by decide) (.cons (bf h618) .nil)))))))) (G_ringref2_Has_L1_ok hF ks n v_rights387 v_want388 k (wi .i64 (v_x389 + 1)) _ h q)
          · rw [if_neg h616] at h; cases h
        · rw [if_neg h615] at h
          exact pkk_sound TTok mix hF 16 (hs := [.t true, .l (.d (.v (.int .i64 v_y391))), .t false, .c, .c, .c, .c, .c]) (ts := []) (s := []) (l := [0, 1, 7, 8]) (by kernel_rfl) (by kernel_rfl) (.cons (dt h594) (.cons (getA_ob0 (fun x => FV.d ((eI .i64) x)) h607) (.cons h613 (.cons (show (2 : Int) ≠ 0 by decide) (.cons (bf h615) .nil))))) (G_ringref2_Has_L1_ok hF ks n v_rights387 v_want388 k (wi .i64 (v_x389 + 1)) _ h q)
      · rw [if_neg h613] at h; cases h
    · rw [if_neg h594] at h
      cases h
      exact pkk_sound TTok mix hF 8 (hs := [.t false]) (ts := []) (s := []) (l := []) (by kernel_rfl) (by kernel_rfl) (.cons (df h594) .nil) q
/- ringhall/ringref2.Has -/
def G_ringref2_Has (n : Nat) (v_rights387 : Int) (v_want388 : Int) : Option (Bool) :=
  (G_ringref2_Has_L1 n v_rights387 v_want388 n 0).bind fun v_o393 => match v_o393 with
  | .x0 v_z394 =>
    some v_z394
  | .x1  =>
    some true
theorem G_ringref2_Has_ok (n : Nat) (v_rights387 : Int) (v_want388 : Int) (r : Bool) (h : G_ringref2_Has n v_rights387 v_want388 = some r) : Ret Try.prog 112 [(eI .i64) v_rights387, (eI .i64) v_want388] (eB r) := by
  refine ret_run (n := 24) (fn := Try.f112) (c := bodyOf Try.f112) (by kernel_rfl) (by kernel_rfl) (by kernel_rfl) (by kernel_rfl) ?_
  have hF : KC 24 (FinR Try.prog Try.f112 (eB r)) := FinR.kc' (by kernel_rfl)
  unfold G_ringref2_Has at h
  obtain ⟨v_o393, h619, h⟩ := bind_some h
  refine pkk_sound TTok mix hF 7 (hs := [.n n]) (ts := []) (s := []) (l := [0, 1, 7, 8]) (by kernel_rfl) (by kernel_rfl) .nil (G_ringref2_Has_L1_ok hF (.b 0 :: .s (cR (cR (bodyOf Try.f112))) :: []) n v_rights387 v_want388 n 0 _ h619 ?_)
  cases v_o393 with
  | x0 v_z394 =>
    dsimp only at h
    obtain rfl := Option.some.inj h
    exact pend_sound TTok mix 2 (hs := []) (by kernel_rfl) (by kernel_rfl) (by kernel_rfl) .nil
  | x1  =>
    dsimp only at h
    obtain rfl := Option.some.inj h
    exact pend_sound TTok mix 4 (hs := []) (by kernel_rfl) (by kernel_rfl) (by kernel_rfl) .nil
inductive G_ringref2_FaultDo_C1_R where
  | x0 (v_t382 : Bool)
def G_ringref2_FaultDo_C1_ex : G_ringref2_FaultDo_C1_R → Ex
  | .x0 _ => .normal
def G_ringref2_FaultDo_C1_st (v_t381 : S_fault_Case) : G_ringref2_FaultDo_C1_R → PS
  | .x0 v_t382 => ⟨[dd, .ref 0 0, dd, .ref 1 0, .d (.v (.bool v_t382)), dd, dd, dd, dd, dd, dd, dd, dd, dd, dd, dd, dd, dd, dd, dd, dd, dd, dd, dd, dd, dd, dd, dd, dd, dd, dd, dd, dd, dd, dd, dd, dd, dd, dd, dd, dd, dd, dd, dd, dd, dd, dd, dd, dd, dd, dd, dd, dd, dd, dd, dd, dd, dd, dd, dd, dd, dd, dd, dd, dd, dd, dd, dd, dd, dd, dd, dd, dd, dd, dd, dd, dd, dd, dd, dd, dd, dd, dd, dd, dd, dd, dd, dd, dd, dd, dd, dd, dd, dd, dd, dd, dd, dd, dd, dd, dd, dd, dd, dd, dd, dd, dd, dd, dd, dd, dd, dd, dd, dd, dd, dd, dd, dd, dd], [.box [.d (.v (.int .i64 v_t381.fArea)), .d (.v (.bool v_t381.fEntry.fHere)), .d (.v (.bool v_t381.fEntry.fSlot)), .d (.v (.int .i64 v_t381.fEntry.fAt)), .d (.v (.int .i64 v_t381.fEntry.fRights)), .d (.v (.bool v_t381.fEntry.fUsed)), .d (.v (.bool v_t381.fEntry.fDirty)), .d (.v (.bool v_t381.fEntry.fCopy)), .d (.v (.int .i64 v_t381.fMany)), .d (.v (.int .i64 v_t381.fWant))], .box [.d (.v (.bool v_t381.fEntry.fHere)), .d (.v (.bool v_t381.fEntry.fSlot)), .d (.v (.int .i64 v_t381.fEntry.fAt)), .d (.v (.int .i64 v_t381.fEntry.fRights)), .d (.v (.bool v_t381.fEntry.fUsed)), .d (.v (.bool v_t381.fEntry.fDirty)), .d (.v (.bool v_t381.fEntry.fCopy))]]⟩
def G_ringref2_FaultDo_C1_hd (v_t381 : S_fault_Case)  : PS := ⟨[dd, .ref 0 0, dd, .ref 1 0, dd, dd, dd, dd, dd, dd, dd, dd, dd, dd, dd, dd, dd, dd, dd, dd, dd, dd, dd, dd, dd, dd, dd, dd, dd, dd, dd, dd, dd, dd, dd, dd, dd, dd, dd, dd, dd, dd, dd, dd, dd, dd, dd, dd, dd, dd, dd, dd, dd, dd, dd, dd, dd, dd, dd, dd, dd, dd, dd, dd, dd, dd, dd, dd, dd, dd, dd, dd, dd, dd, dd, dd, dd, dd, dd, dd, dd, dd, dd, dd, dd, dd, dd, dd, dd, dd, dd, dd, dd, dd, dd, dd, dd, dd, dd, dd, dd, dd, dd, dd, dd, dd, dd, dd, dd, dd, dd, dd, dd, dd, dd, dd, dd, dd, dd], [.box [.d (.v (.int .i64 v_t381.fArea)), .d (.v (.bool v_t381.fEntry.fHere)), .d (.v (.bool v_t381.fEntry.fSlot)), .d (.v (.int .i64 v_t381.fEntry.fAt)), .d (.v (.int .i64 v_t381.fEntry.fRights)), .d (.v (.bool v_t381.fEntry.fUsed)), .d (.v (.bool v_t381.fEntry.fDirty)), .d (.v (.bool v_t381.fEntry.fCopy)), .d (.v (.int .i64 v_t381.fMany)), .d (.v (.int .i64 v_t381.fWant))], .box [.d (.v (.bool v_t381.fEntry.fHere)), .d (.v (.bool v_t381.fEntry.fSlot)), .d (.v (.int .i64 v_t381.fEntry.fAt)), .d (.v (.int .i64 v_t381.fEntry.fRights)), .d (.v (.bool v_t381.fEntry.fUsed)), .d (.v (.bool v_t381.fEntry.fDirty)), .d (.v (.bool v_t381.fEntry.fCopy))]]⟩
def G_ringref2_FaultDo_C1 (n : Nat) (v_t381 : S_fault_Case) : Option G_ringref2_FaultDo_C1_R :=
  if v_t381.fWant = 2 then
   some (.x0 true)
  else
   if v_t381.fWant = 3 then
    some (.x0 true)
   else
    some (.x0 (decide (v_t381.fWant > 5)))
theorem G_ringref2_FaultDo_C1_ok {Fi : Ex → PS → Prop} (hF : KC 119 Fi) (ks : List Fr) (n : Nat) (v_t381 : S_fault_Case)  (o : G_ringref2_FaultDo_C1_R) (h : G_ringref2_FaultDo_C1 n v_t381 = some o) (q : RunE Try.prog 119 Fi ks (G_ringref2_FaultDo_C1_ex o) (G_ringref2_FaultDo_C1_st v_t381 o)) : RunE Try.prog 119 Fi (.s (cL (cR (cR (bodyOf Try.f56)))) :: ks) .normal (G_ringref2_FaultDo_C1_hd v_t381) := by
  unfold G_ringref2_FaultDo_C1 at h
  by_cases h590 : v_t381.fWant = 2
  · rw [if_pos h590] at h
    cases h
    exact pkk_sound TTok mix hF 1 (hs := [.c, .t true, .c, .c, .c, .c, .c]) (ts := []) (s := [0, 1]) (l := [1, 3, 4]) (by kernel_rfl) (by kernel_rfl) (.cons (bt h590) .nil) q
  · rw [if_neg h590] at h
    by_cases h591 : v_t381.fWant = 3
    · rw [if_pos h591] at h
      cases h
      exact pkk_sound TTok mix hF 1 (hs := [.c, .t false, .c, .c, .c, .t true, .c, .c]) (ts := []) (s := [0, 1]) (l := [1, 3, 4]) (by kernel_rfl) (by kernel_rfl) (.cons (bf h590) (.cons (bt h591) .nil)) q
    · rw [if_neg h591] at h
      cases h
      exact pkk_sound TTok mix hF 1 (hs := [.c, .t false, .c, .c, .c, .t false, .c, .c, .c]) (ts := []) (s := [0, 1]) (l := [1, 3, 4]) (by kernel_rfl) (by kernel_rfl) (.cons (bf h590) (.cons (bf h591) .nil)) q
inductive G_ringref2_FaultDo_C2_R where
  | x0 (v_t397 : Bool)
def G_ringref2_FaultDo_C2_ex : G_ringref2_FaultDo_C2_R → Ex
  | .x0 _ => .normal
def G_ringref2_FaultDo_C2_st (v_z386 : Bool) (v_t381 : S_fault_Case) : G_ringref2_FaultDo_C2_R → PS
  | .x0 v_t397 => ⟨[dd, .ref 0 0, dd, .ref 1 0, .d (.v (.bool v_z386)), .d (.v (.bool v_t397)), dd, dd, dd, dd, dd, dd, dd, dd, dd, dd, dd, dd, dd, dd, dd, dd, dd, dd, dd, dd, dd, dd, dd, dd, dd, dd, dd, dd, dd, dd, dd, dd, dd, dd, dd, dd, dd, dd, dd, dd, dd, dd, dd, dd, dd, dd, dd, dd, dd, dd, dd, dd, dd, dd, dd, dd, dd, dd, dd, dd, dd, dd, dd, dd, dd, dd, dd, dd, dd, dd, dd, dd, dd, dd, dd, dd, dd, dd, dd, dd, dd, dd, dd, dd, dd, dd, dd, dd, dd, dd, dd, dd, dd, dd, dd, dd, dd, dd, dd, dd, dd, dd, dd, dd, dd, dd, dd, dd, dd, dd, dd, dd, dd], [.box [.d (.v (.int .i64 v_t381.fArea)), .d (.v (.bool v_t381.fEntry.fHere)), .d (.v (.bool v_t381.fEntry.fSlot)), .d (.v (.int .i64 v_t381.fEntry.fAt)), .d (.v (.int .i64 v_t381.fEntry.fRights)), .d (.v (.bool v_t381.fEntry.fUsed)), .d (.v (.bool v_t381.fEntry.fDirty)), .d (.v (.bool v_t381.fEntry.fCopy)), .d (.v (.int .i64 v_t381.fMany)), .d (.v (.int .i64 v_t381.fWant))], .box [.d (.v (.bool v_t381.fEntry.fHere)), .d (.v (.bool v_t381.fEntry.fSlot)), .d (.v (.int .i64 v_t381.fEntry.fAt)), .d (.v (.int .i64 v_t381.fEntry.fRights)), .d (.v (.bool v_t381.fEntry.fUsed)), .d (.v (.bool v_t381.fEntry.fDirty)), .d (.v (.bool v_t381.fEntry.fCopy))]]⟩
def G_ringref2_FaultDo_C2_hd (v_z386 : Bool) (v_t381 : S_fault_Case)  : PS := ⟨[dd, .ref 0 0, dd, .ref 1 0, .d (.v (.bool v_z386)), dd, dd, dd, dd, dd, dd, dd, dd, dd, dd, dd, dd, dd, dd, dd, dd, dd, dd, dd, dd, dd, dd, dd, dd, dd, dd, dd, dd, dd, dd, dd, dd, dd, dd, dd, dd, dd, dd, dd, dd, dd, dd, dd, dd, dd, dd, dd, dd, dd, dd, dd, dd, dd, dd, dd, dd, dd, dd, dd, dd, dd, dd, dd, dd, dd, dd, dd, dd, dd, dd, dd, dd, dd, dd, dd, dd, dd, dd, dd, dd, dd, dd, dd, dd, dd, dd, dd, dd, dd, dd, dd, dd, dd, dd, dd, dd, dd, dd, dd, dd, dd, dd, dd, dd, dd, dd, dd, dd, dd, dd, dd, dd, dd, dd], [.box [.d (.v (.int .i64 v_t381.fArea)), .d (.v (.bool v_t381.fEntry.fHere)), .d (.v (.bool v_t381.fEntry.fSlot)), .d (.v (.int .i64 v_t381.fEntry.fAt)), .d (.v (.int .i64 v_t381.fEntry.fRights)), .d (.v (.bool v_t381.fEntry.fUsed)), .d (.v (.bool v_t381.fEntry.fDirty)), .d (.v (.bool v_t381.fEntry.fCopy)), .d (.v (.int .i64 v_t381.fMany)), .d (.v (.int .i64 v_t381.fWant))], .box [.d (.v (.bool v_t381.fEntry.fHere)), .d (.v (.bool v_t381.fEntry.fSlot)), .d (.v (.int .i64 v_t381.fEntry.fAt)), .d (.v (.int .i64 v_t381.fEntry.fRights)), .d (.v (.bool v_t381.fEntry.fUsed)), .d (.v (.bool v_t381.fEntry.fDirty)), .d (.v (.bool v_t381.fEntry.fCopy))]]⟩
def G_ringref2_FaultDo_C2 (n : Nat) (v_z386 : Bool) (v_t381 : S_fault_Case) : Option G_ringref2_FaultDo_C2_R :=
  if v_t381.fArea ≥ 0 then
   (G_ringref2_Has n v_t381.fArea v_t381.fWant).bind fun (v_r396 : (Bool)) =>
   some (.x0 v_r396)
  else
   some (.x0 false)
theorem G_ringref2_FaultDo_C2_ok {Fi : Ex → PS → Prop} (hF : KC 119 Fi) (ks : List Fr) (n : Nat) (v_z386 : Bool) (v_t381 : S_fault_Case)  (o : G_ringref2_FaultDo_C2_R) (h : G_ringref2_FaultDo_C2 n v_z386 v_t381 = some o) (q : RunE Try.prog 119 Fi ks (G_ringref2_FaultDo_C2_ex o) (G_ringref2_FaultDo_C2_st v_z386 v_t381 o)) : RunE Try.prog 119 Fi (.s (cL (cR (cR (cR (bodyOf Try.f56))))) :: ks) .normal (G_ringref2_FaultDo_C2_hd v_z386 v_t381) := by
  unfold G_ringref2_FaultDo_C2 at h
  by_cases h621 : v_t381.fArea ≥ 0
  · rw [if_pos h621] at h
    obtain ⟨v_r396, h622, h⟩ := bind_some h
    cases h
    exact pkk_sound TTok mix hF 1 (hs := [.c, .t true, .c, .c, .c, .c, .c, .c, .r (eB v_r396)]) (ts := []) (s := [0, 1]) (l := [1, 3, 4, 5]) (by kernel_rfl) (by kernel_rfl) (.cons (dt h621) (.cons (G_ringref2_Has_ok n v_t381.fArea v_t381.fWant _ h622) .nil)) q
  · rw [if_neg h621] at h
    cases h
    exact pkk_sound TTok mix hF 1 (hs := [.c, .t false, .c, .c, .c, .c]) (ts := []) (s := [0, 1]) (l := [1, 3, 4, 5]) (by kernel_rfl) (by kernel_rfl) (.cons (df h621) .nil) q
inductive G_ringref2_FaultDo_C3_R where
  | x0 (v_t401 : (Fin 7 → Bool)) (v_t402 : Int)
def G_ringref2_FaultDo_C3_ex : G_ringref2_FaultDo_C3_R → Ex
  | .x0 _ _ => .normal
def G_ringref2_FaultDo_C3_st (v_z386 : Bool) (v_z400 : Bool) (v_t381 : S_fault_Case) : G_ringref2_FaultDo_C3_R → PS
  | .x0 v_t401 v_t402 => ⟨[dd, dd, dd, dd, dd, dd, dd, dd, dd, dd, dd, dd, dd, dd, dd, dd, dd, dd, dd, dd, dd, dd, dd, dd, dd, dd, dd, dd, dd, dd, dd, dd, dd, dd, dd, dd, dd, dd, dd, dd, dd, dd, dd, dd, dd, dd, dd, dd, dd, dd, dd, dd, dd, dd, dd, dd, dd, dd, dd, dd, dd, dd, dd, dd, dd, dd, dd, dd, dd, dd, dd, dd, dd, dd, dd, dd, dd, dd, dd, dd, dd, dd, dd, dd, dd, dd, dd, dd, dd, dd, dd, dd, dd, dd, dd, dd, dd, dd, dd, dd, dd, dd, dd, dd, dd, dd, dd, dd, dd, dd, dd, .d (.agg [.v (.bool (v_t401 0)), .v (.bool (v_t401 1)), .v (.bool (v_t401 2)), .v (.bool (v_t401 3)), .v (.bool (v_t401 4)), .v (.bool (v_t401 5)), .v (.bool (v_t401 6))]), .d (.v (.int .i64 v_t402)), dd, dd, dd, dd, dd, dd], []⟩
def G_ringref2_FaultDo_C3_hd (v_z386 : Bool) (v_z400 : Bool) (v_t381 : S_fault_Case)  : PS := ⟨[dd, .ref 0 0, dd, .ref 1 0, .d (.v (.bool v_z386)), .d (.v (.bool v_z400)), dd, dd, dd, dd, dd, dd, dd, dd, dd, dd, dd, dd, dd, dd, dd, dd, dd, dd, dd, dd, dd, dd, dd, dd, dd, dd, dd, dd, dd, dd, dd, dd, dd, dd, dd, dd, dd, dd, dd, dd, dd, dd, dd, dd, dd, dd, dd, dd, dd, dd, dd, dd, dd, dd, dd, dd, dd, dd, dd, dd, dd, dd, dd, dd, dd, dd, dd, dd, dd, dd, dd, dd, dd, dd, dd, dd, dd, dd, dd, dd, dd, dd, dd, dd, dd, dd, dd, dd, dd, dd, dd, dd, dd, dd, dd, dd, dd, dd, dd, dd, dd, dd, dd, dd, dd, dd, dd, dd, dd, dd, dd, dd, dd], [.box [.d (.v (.int .i64 v_t381.fArea)), .d (.v (.bool v_t381.fEntry.fHere)), .d (.v (.bool v_t381.fEntry.fSlot)), .d (.v (.int .i64 v_t381.fEntry.fAt)), .d (.v (.int .i64 v_t381.fEntry.fRights)), .d (.v (.bool v_t381.fEntry.fUsed)), .d (.v (.bool v_t381.fEntry.fDirty)), .d (.v (.bool v_t381.fEntry.fCopy)), .d (.v (.int .i64 v_t381.fMany)), .d (.v (.int .i64 v_t381.fWant))], .box [.d (.v (.bool v_t381.fEntry.fHere)), .d (.v (.bool v_t381.fEntry.fSlot)), .d (.v (.int .i64 v_t381.fEntry.fAt)), .d (.v (.int .i64 v_t381.fEntry.fRights)), .d (.v (.bool v_t381.fEntry.fUsed)), .d (.v (.bool v_t381.fEntry.fDirty)), .d (.v (.bool v_t381.fEntry.fCopy))]]⟩
def G_ringref2_FaultDo_C3 (n : Nat) (v_z386 : Bool) (v_z400 : Bool) (v_t381 : S_fault_Case) : Option G_ringref2_FaultDo_C3_R :=
  if v_z400 = true then
   if v_t381.fEntry.fHere = true then
    if v_t381.fEntry.fRights = v_t381.fArea then
     if v_z386 = true then
      if v_t381.fEntry.fCopy = true then
       some (.x0 (fun i : Fin 7 => [false, (!v_z400), false, v_t381.fEntry.fSlot, (decide (v_t381.fMany > 1)), (v_t381.fMany == 1), (v_t381.fEntry.fRights != v_t381.fArea)].get i) 0)
      else
       some (.x0 (fun i : Fin 7 => [false, (!v_z400), false, v_t381.fEntry.fSlot, false, false, (v_t381.fEntry.fRights != v_t381.fArea)].get i) 0)
     else
      some (.x0 (fun i : Fin 7 => [false, (!v_z400), false, v_t381.fEntry.fSlot, false, false, (v_t381.fEntry.fRights != v_t381.fArea)].get i) 0)
    else
     some (.x0 (fun i : Fin 7 => [false, (!v_z400), false, v_t381.fEntry.fSlot, false, false, (v_t381.fEntry.fRights != v_t381.fArea)].get i) 0)
   else
    some (.x0 (fun i : Fin 7 => [false, (!v_z400), (!v_t381.fEntry.fSlot), v_t381.fEntry.fSlot, false, false, false].get i) 0)
  else
   some (.x0 (fun i : Fin 7 => [false, (!v_z400), false, false, false, false, false].get i) 0)
theorem G_ringref2_FaultDo_C3_ok {Fi : Ex → PS → Prop} (hF : KC 119 Fi) (ks : List Fr) (n : Nat) (v_z386 : Bool) (v_z400 : Bool) (v_t381 : S_fault_Case)  (o : G_ringref2_FaultDo_C3_R) (h : G_ringref2_FaultDo_C3 n v_z386 v_z400 v_t381 = some o) (q : RunE Try.prog 119 Fi ks (G_ringref2_FaultDo_C3_ex o) (G_ringref2_FaultDo_C3_st v_z386 v_z400 v_t381 o)) : RunE Try.prog 119 Fi (.s (cL (cL (cR (cR (cR (cR (bodyOf Try.f56))))))) :: ks) .normal (G_ringref2_FaultDo_C3_hd v_z386 v_z400 v_t381) := by
  unfold G_ringref2_FaultDo_C3 at h
  by_cases h629 : v_z400 = true
  · rw [if_pos h629] at h
    by_cases h630 : v_t381.fEntry.fHere = true
    · rw [if_pos h630] at h
      by_cases h631 : v_t381.fEntry.fRights = v_t381.fArea
      · rw [if_pos h631] at h
        by_cases h632 : v_z386 = true
        · rw [if_pos h632] at h
          by_cases h633 : v_t381.fEntry.fCopy = true
          · rw [if_pos h633] at h
            cases h
            exact pkk_sound TTok mix hF 1 (hs := [.t true, .c, .c, .c, .t false, .c, .c, .t true, .c, .c, .t true, .c, .c, .t true, .c, .c, .c, .c, .c, .c, .t true, .c, .c, .t true, .c, .c, .c, .c, .c, .c, .t true, .t true, .c, .c, .t true, .c, .c, .c, .t true, .c, .c, .t true, .c, .c, .c, .c, .c, .c, .t true, .t true, .c, .c, .t true, .c, .c, .c]) (ts := []) (s := []) (l := [111, 112]) (by kernel_rfl) (by kernel_rfl) (.cons h629 (.cons (bnf h630) (.cons h629 (.cons h629 (.cons h630 (.cons h629 (.cons h630 (.cons (bt h631) (.cons h632 (.cons h633 (.cons h629 (.cons h630 (.cons (bt h631) (.cons h632 (.cons h633 .nil))))))))))))))) q
          · rw [if_neg h633] at h
            cases h
            exact pkk_sound TTok mix hF 1 (hs := [.t true, .c, .c, .c, .t false, .c, .c, .t true, .c, .c, .t true, .c, .c, .t true, .c, .c, .c, .c, .c, .c, .t true, .c, .c, .t true, .c, .c, .c, .c, .c, .c, .t true, .t true, .c, .c, .t false, .c, .c, .t true, .c, .c, .t true, .c, .c, .c, .c, .c, .c, .t true, .t true, .c, .c, .t false, .c, .c]) (ts := []) (s := []) (l := [111, 112]) (by kernel_rfl) (by kernel_rfl) (.cons h629 (.cons (bnf h630) (.cons h629 (.cons h629 (.cons h630 (.cons h629 (.cons h630 (.cons (bt h631) (.cons h632 (.cons (vf h633) (.cons h629 (.cons h630 (.cons (bt h631) (.cons h632 (.cons (vf h633) .nil))))))))))))))) q
        · rw [if_neg h632] at h
          cases h
          exact pkk_sound TTok mix hF 1 (hs := [.t true, .c, .c, .c, .t false, .c, .c, .t true, .c, .c, .t true, .c, .c, .t true, .c, .c, .c, .c, .c, .c, .t true, .c, .c, .t true, .c, .c, .c, .c, .c, .c, .t true, .t false, .c, .c, .c, .c, .t true, .c, .c, .t true, .c, .c, .c, .c, .c, .c, .t true, .t false, .c, .c, .c, .c]) (ts := []) (s := []) (l := [111, 112]) (by kernel_rfl) (by kernel_rfl) (.cons h629 (.cons (bnf h630) (.cons h629 (.cons h629 (.cons h630 (.cons h629 (.cons h630 (.cons (bt h631) (.cons (vf h632) (.cons h629 (.cons h630 (.cons (bt h631) (.cons (vf h632) .nil))))))))))))) q
      · rw [if_neg h631] at h
        cases h
        exact pkk_sound TTok mix hF 1 (hs := [.t true, .c, .c, .c, .t false, .c, .c, .t true, .c, .c, .t true, .c, .c, .t true, .c, .c, .c, .c, .c, .c, .t true, .c, .c, .t true, .c, .c, .c, .c, .c, .c, .t false, .c, .c, .c, .c, .c, .t true, .c, .c, .t true, .c, .c, .c, .c, .c, .c, .t false, .c, .c, .c, .c, .c]) (ts := []) (s := []) (l := [111, 112]) (by kernel_rfl) (by kernel_rfl) (.cons h629 (.cons (bnf h630) (.cons h629 (.cons h629 (.cons h630 (.cons h629 (.cons h630 (.cons (bf h631) (.cons h629 (.cons h630 (.cons (bf h631) .nil))))))))))) q
    · rw [if_neg h630] at h
      cases h
      exact pkk_sound TTok mix hF 1 (hs := [.t true, .c, .c, .c, .t true, .c, .c, .c, .t true, .c, .c, .t true, .c, .c, .t false, .c, .c, .c, .c, .t true, .c, .c, .t false, .c, .c, .c, .c, .c, .c, .c, .c, .c, .c, .t true, .c, .c, .t false, .c, .c, .c, .c, .c, .c, .c, .c, .c, .c]) (ts := []) (s := []) (l := [111, 112]) (by kernel_rfl) (by kernel_rfl) (.cons h629 (.cons (bnt (vf h630)) (.cons h629 (.cons h629 (.cons (vf h630) (.cons h629 (.cons (vf h630) (.cons h629 (.cons (vf h630) .nil))))))))) q
  · rw [if_neg h629] at h
    cases h
    exact pkk_sound TTok mix hF 1 (hs := [.t false, .c, .c, .c, .c, .c, .t false, .c, .t false, .c, .c, .c, .c, .c, .c, .t false, .c, .c, .c, .c, .c, .c, .c, .c, .c, .c, .c, .c, .t false, .c, .c, .c, .c, .c, .c, .c, .c, .c, .c, .c, .c]) (ts := []) (s := []) (l := [111, 112]) (by kernel_rfl) (by kernel_rfl) (.cons (vf h629) (.cons (vf h629) (.cons (vf h629) (.cons (vf h629) (.cons (vf h629) .nil))))) q
inductive G_ringref2_FaultDo_L4_R where
  | x0 (v_t419 : Int)
  | x1 
def G_ringref2_FaultDo_L4_ex : G_ringref2_FaultDo_L4_R → Ex
  | .x0 _ => .ret
  | .x1  => .exit 0
def G_ringref2_FaultDo_L4_st (v_z414 : (Fin 7 → Bool)) : G_ringref2_FaultDo_L4_R → PS
  | .x0 v_t419 => ⟨[dd, dd, .d (.v (.int .i64 v_t419)), dd, dd, dd, dd, dd, dd, dd, dd, dd, dd, dd, dd, dd, dd, dd, dd, dd, dd, dd, dd, dd, dd, dd, dd, dd, dd, dd, dd, dd, dd, dd, dd, dd, dd, dd, dd, dd, dd, dd, dd, dd, dd, dd, dd, dd, dd, dd, dd, dd, dd, dd, dd, dd, dd, dd, dd, dd, dd, dd, dd, dd, dd, dd, dd, dd, dd, dd, dd, dd, dd, dd, dd, dd, dd, dd, dd, dd, dd, dd, dd, dd, dd, dd, dd, dd, dd, dd, dd, dd, dd, dd, dd, dd, dd, dd, dd, dd, dd, dd, dd, dd, dd, dd, dd, dd, dd, dd, dd, dd, dd, dd, dd, dd, dd, dd, dd], []⟩
  | .x1  => ⟨[dd, dd, dd, dd, dd, dd, dd, dd, dd, dd, dd, dd, dd, dd, dd, dd, dd, dd, dd, dd, dd, dd, dd, dd, dd, dd, dd, dd, dd, dd, dd, dd, dd, dd, dd, dd, dd, dd, dd, dd, dd, dd, dd, dd, dd, dd, dd, dd, dd, dd, dd, dd, dd, dd, dd, dd, dd, dd, dd, dd, dd, dd, dd, dd, dd, dd, dd, dd, dd, dd, dd, dd, dd, dd, dd, dd, dd, dd, dd, dd, dd, dd, dd, dd, dd, dd, dd, dd, dd, dd, dd, dd, dd, dd, dd, dd, dd, dd, dd, dd, dd, dd, dd, dd, dd, dd, dd, dd, dd, dd, dd, dd, dd, dd, dd, dd, dd, dd, dd], []⟩
def G_ringref2_FaultDo_L4_hd (v_z414 : (Fin 7 → Bool)) (v_t416 : Int) : PS := ⟨[dd, dd, dd, dd, dd, dd, dd, dd, dd, dd, dd, dd, dd, dd, dd, dd, dd, dd, dd, dd, dd, dd, dd, dd, dd, dd, dd, dd, dd, dd, dd, dd, dd, dd, dd, dd, dd, dd, dd, dd, dd, dd, dd, dd, dd, dd, dd, dd, dd, dd, dd, dd, dd, dd, dd, dd, dd, dd, dd, dd, dd, dd, dd, dd, dd, dd, dd, dd, dd, dd, dd, dd, dd, dd, dd, dd, dd, dd, dd, dd, dd, dd, dd, dd, dd, dd, dd, dd, dd, dd, dd, dd, dd, dd, dd, dd, dd, dd, dd, dd, dd, dd, dd, dd, dd, dd, dd, dd, dd, dd, dd, .d (.agg [.v (.bool (v_z414 0)), .v (.bool (v_z414 1)), .v (.bool (v_z414 2)), .v (.bool (v_z414 3)), .v (.bool (v_z414 4)), .v (.bool (v_z414 5)), .v (.bool (v_z414 6))]), .d (.v (.int .i64 v_t416)), dd, dd, dd, dd, dd, dd], []⟩
def G_ringref2_FaultDo_L4 (n : Nat) (v_z414 : (Fin 7 → Bool)) : Nat → Int → Option G_ringref2_FaultDo_L4_R
  | 0, _ => none
  | k + 1, v_t416 =>
    if v_t416 < 7 then
     (getA v_z414 v_t416).bind fun (v_y418 : Bool) =>
     if v_y418 = true then
      some (.x0 v_t416)
     else
      G_ringref2_FaultDo_L4 n v_z414 k (wi .i64 (v_t416 + 1))
    else
     some (.x1 )
theorem G_ringref2_FaultDo_L4_ok {Fi : Ex → PS → Prop} (hF : KC 119 Fi) (ks : List Fr) (n : Nat) (v_z414 : (Fin 7 → Bool))  : ∀ (k : Nat) (v_t416 : Int) (o : G_ringref2_FaultDo_L4_R), G_ringref2_FaultDo_L4 n v_z414 k v_t416 = some o → RunE Try.prog 119 Fi ks (G_ringref2_FaultDo_L4_ex o) (G_ringref2_FaultDo_L4_st v_z414 o) → RunE Try.prog 119 Fi (.l k (cP (cB (cR (cL (cR (cR (cR (cR (bodyOf Try.f56))))))))) :: ks) .normal (G_ringref2_FaultDo_L4_hd v_z414 v_t416)
  | 0, v_t416, o, h, q => by rw [G_ringref2_FaultDo_L4] at h; cases h
  | k + 1, v_t416, o, h, q => by
    rw [G_ringref2_FaultDo_L4] at h
    by_cases h635 : v_t416 < 7
    · rw [if_pos h635] at h
      obtain ⟨v_y418, h638, h⟩ := bind_some h
      by_cases h639 : v_y418 = true
      · rw [if_pos h639] at h
        cases h
        exact pkk_sound TTok mix hF 19 (hs := [.t true, .l (.d (.v (.bool v_y418))), .t true]) (ts := []) (s := []) (l := [2]) (by kernel_rfl) (by kernel_rfl) (.cons (dt h635) (.cons (getA_ob0 (fun x => FV.d (eB x)) h638) (.cons h639 .nil))) q
      · rw [if_neg h639] at h
        exact pkk_sound TTok mix hF 16 (hs := [.t true, .l (.d (.v (.bool v_y418))), .t false]) (ts := []) (s := []) (l := [111, 112]) (by kernel_rfl) (by kernel_rfl) (.cons (dt h635) (.cons (getA_ob0 (fun x => FV.d (eB x)) h638) (.cons (vf h639) .nil))) (G_ringref2_FaultDo_L4_ok hF ks n v_z414 k (wi .i64 (v_t416 + 1)) _ h q)
    · rw [if_neg h635] at h
      cases h
      exact pkk_sound TTok mix hF 8 (hs := [.t false]) (ts := []) (s := []) (l := []) (by kernel_rfl) (by kernel_rfl) (.cons (df h635) .nil) q
/- ringhall/ringref2.FaultDo -/
def G_ringref2_FaultDo (n : Nat) (v_t381 : S_fault_Case) : Option (Int) :=
  (G_ringref2_FaultDo_C1 n v_t381).bind fun v_o385 => match v_o385 with
  | .x0 v_z386 =>
    (G_ringref2_FaultDo_C2 n v_z386 v_t381).bind fun v_o399 => match v_o399 with
    | .x0 v_z400 =>
      (G_ringref2_FaultDo_C3 n v_z386 v_z400 v_t381).bind fun v_o413 => match v_o413 with
      | .x0 v_z414 v_z415 =>
        (G_ringref2_FaultDo_L4 n v_z414 n v_z415).bind fun v_o420 => match v_o420 with
        | .x0 v_z421 =>
          some v_z421
        | .x1  =>
          some 0
theorem G_ringref2_FaultDo_ok (n : Nat) (v_t381 : S_fault_Case) (r : Int) (h : G_ringref2_FaultDo n v_t381 = some r) : Ret Try.prog 56 [eS_fault_Case v_t381] ((eI .i64) r) := by
  refine ret_run (n := 119) (fn := Try.f56) (c := bodyOf Try.f56) (by kernel_rfl) (by kernel_rfl) (by kernel_rfl) (by kernel_rfl) ?_
  have hF : KC 119 (FinR Try.prog Try.f56 ((eI .i64) r)) := FinR.kc' (by kernel_rfl)
  unfold G_ringref2_FaultDo at h
  obtain ⟨v_o385, h592, h⟩ := bind_some h
  refine pkk_sound TTok mix hF 5 (hs := [.c, .c]) (ts := []) (s := [0, 4]) (l := [1, 3]) (by kernel_rfl) (by kernel_rfl) (.cons (show 0 + 7 ≤ 7 by decide) .nil) (G_ringref2_FaultDo_C1_ok hF (.s (cR (cR (cR (bodyOf Try.f56)))) :: []) n v_t381 _ h592 ?_)
  cases v_o385 with
  | x0 v_z386 =>
    dsimp only at h
    obtain ⟨v_o399, h623, h⟩ := bind_some h
    refine pkk_sound TTok mix hF 1 (hs := []) (ts := []) (s := [0, 1]) (l := [1, 3, 4]) (by kernel_rfl) (by kernel_rfl) .nil (G_ringref2_FaultDo_C2_ok hF (.s (cR (cR (cR (cR (bodyOf Try.f56))))) :: []) n v_z386 v_t381 _ h623 ?_)
    cases v_o399 with
    | x0 v_z400 =>
      dsimp only at h
      obtain ⟨v_o413, h634, h⟩ := bind_some h
      refine pkk_sound TTok mix hF 2 (hs := []) (ts := []) (s := [0, 1]) (l := [1, 3, 4, 5]) (by kernel_rfl) (by kernel_rfl) .nil (G_ringref2_FaultDo_C3_ok hF (.s (cR (cL (cR (cR (cR (cR (bodyOf Try.f56))))))) :: .s (cR (cR (cR (cR (cR (bodyOf Try.f56)))))) :: []) n v_z386 v_z400 v_t381 _ h634 ?_)
      cases v_o413 with
      | x0 v_z414 v_z415 =>
        dsimp only at h
        obtain ⟨v_o420, h640, h⟩ := bind_some h
        refine pkk_sound TTok mix hF 2 (hs := [.n n]) (ts := []) (s := []) (l := [111, 112]) (by kernel_rfl) (by kernel_rfl) .nil (G_ringref2_FaultDo_L4_ok hF (.b 0 :: .s (cR (cR (cR (cR (cR (bodyOf Try.f56)))))) :: []) n v_z414 n v_z415 _ h640 ?_)
        cases v_o420 with
        | x0 v_z421 =>
          dsimp only at h
          obtain rfl := Option.some.inj h
          exact pend_sound TTok mix 2 (hs := []) (by kernel_rfl) (by kernel_rfl) (by kernel_rfl) .nil
        | x1  =>
          dsimp only at h
          obtain rfl := Option.some.inj h
          exact pend_sound TTok mix 4 (hs := []) (by kernel_rfl) (by kernel_rfl) (by kernel_rfl) .nil
inductive G_ringref2_FaultAfter_C1_R where
  | x0 
  | x1 
  | x2 
  | x3 
  | x4 
  | x5 
def G_ringref2_FaultAfter_C1_ex : G_ringref2_FaultAfter_C1_R → Ex
  | .x0  => .ret
  | .x1  => .normal
  | .x2  => .normal
  | .x3  => .normal
  | .x4  => .normal
  | .x5  => .normal
def G_ringref2_FaultAfter_C1_st (v_frame440 : Int) (v_r441 : (Int)) (v_c439 : S_fault_Case) : G_ringref2_FaultAfter_C1_R → PS
  | .x0  => ⟨[dd, dd, dd, dd, .ref 0 0, dd, dd, dd, dd, dd, dd, dd, dd, dd, dd, dd, dd, dd, dd, dd, dd, dd, dd, dd, dd, dd, dd, dd, dd, dd, dd, dd, dd, dd, dd, dd, dd, dd, dd, dd, dd, dd, dd, dd, dd, dd, dd, dd, dd], [.box [.d (.v (.int .i64 v_c439.fArea)), .d (.v (.bool true)), .d (.v (.bool false)), .d (.v (.int .i64 v_frame440)), .d (.v (.int .i64 v_c439.fArea)), .d (.v (.bool false)), .d (.v (.bool false)), .d (.v (.bool false)), .d (.v (.int .i64 1)), .d (.v (.int .i64 v_c439.fWant))]]⟩
  | .x1  => ⟨[dd, dd, .ref 0 0, dd, .ref 1 0, .ref 2 0, dd, dd, dd, dd, dd, dd, dd, dd, dd, dd, dd, dd, dd, dd, dd, dd, dd, dd, dd, dd, dd, dd, dd, dd, dd, dd, dd, dd, dd, dd, dd, dd, dd, dd, dd, dd, dd, dd, dd, dd, dd, dd, dd], [.box [.d (.v (.int .i64 v_c439.fArea)), .d (.v (.bool v_c439.fEntry.fHere)), .d (.v (.bool v_c439.fEntry.fSlot)), .d (.v (.int .i64 v_c439.fEntry.fAt)), .d (.v (.int .i64 v_c439.fEntry.fRights)), .d (.v (.bool v_c439.fEntry.fUsed)), .d (.v (.bool v_c439.fEntry.fDirty)), .d (.v (.bool v_c439.fEntry.fCopy)), .d (.v (.int .i64 v_c439.fMany)), .d (.v (.int .i64 v_c439.fWant))], .box [.d (.v (.int .i64 0)), .d (.v (.bool false)), .d (.v (.bool false)), .d (.v (.int .i64 0)), .d (.v (.int .i64 0)), .d (.v (.bool false)), .d (.v (.bool false)), .d (.v (.bool false)), .d (.v (.int .i64 0)), .d (.v (.int .i64 0))], .box [.d (.v (.bool true)), .d (.v (.bool false)), .d (.v (.int .i64 v_frame440)), .d (.v (.int .i64 v_c439.fEntry.fRights)), .d (.v (.bool false)), .d (.v (.bool false)), .d (.v (.bool v_c439.fEntry.fCopy))]]⟩
  | .x2  => ⟨[dd, dd, .ref 0 0, dd, .ref 1 0, .ref 2 0, dd, dd, dd, dd, dd, dd, dd, dd, dd, dd, dd, dd, dd, dd, dd, dd, dd, dd, dd, dd, dd, dd, dd, dd, dd, dd, dd, dd, dd, dd, dd, dd, dd, dd, dd, dd, dd, dd, dd, dd, dd, dd, dd], [.box [.d (.v (.int .i64 v_c439.fArea)), .d (.v (.bool v_c439.fEntry.fHere)), .d (.v (.bool v_c439.fEntry.fSlot)), .d (.v (.int .i64 v_c439.fEntry.fAt)), .d (.v (.int .i64 v_c439.fEntry.fRights)), .d (.v (.bool v_c439.fEntry.fUsed)), .d (.v (.bool v_c439.fEntry.fDirty)), .d (.v (.bool v_c439.fEntry.fCopy)), .d (.v (.int .i64 v_c439.fMany)), .d (.v (.int .i64 v_c439.fWant))], .box [.d (.v (.int .i64 0)), .d (.v (.bool false)), .d (.v (.bool false)), .d (.v (.int .i64 0)), .d (.v (.int .i64 0)), .d (.v (.bool false)), .d (.v (.bool false)), .d (.v (.bool false)), .d (.v (.int .i64 0)), .d (.v (.int .i64 0))], .box [.d (.v (.bool v_c439.fEntry.fHere)), .d (.v (.bool v_c439.fEntry.fSlot)), .d (.v (.int .i64 v_c439.fEntry.fAt)), .d (.v (.int .i64 v_c439.fArea)), .d (.v (.bool v_c439.fEntry.fUsed)), .d (.v (.bool v_c439.fEntry.fDirty)), .d (.v (.bool v_c439.fEntry.fCopy))]]⟩
  | .x3  => ⟨[dd, dd, .ref 0 0, dd, .ref 1 0, .ref 2 0, dd, dd, dd, dd, dd, dd, dd, dd, dd, dd, dd, dd, dd, dd, dd, dd, dd, dd, dd, dd, dd, dd, dd, dd, dd, dd, dd, dd, dd, dd, dd, dd, dd, dd, dd, dd, dd, dd, dd, dd, dd, dd, dd], [.box [.d (.v (.int .i64 v_c439.fArea)), .d (.v (.bool v_c439.fEntry.fHere)), .d (.v (.bool v_c439.fEntry.fSlot)), .d (.v (.int .i64 v_c439.fEntry.fAt)), .d (.v (.int .i64 v_c439.fEntry.fRights)), .d (.v (.bool v_c439.fEntry.fUsed)), .d (.v (.bool v_c439.fEntry.fDirty)), .d (.v (.bool v_c439.fEntry.fCopy)), .d (.v (.int .i64 1)), .d (.v (.int .i64 v_c439.fWant))], .box [.d (.v (.int .i64 0)), .d (.v (.bool false)), .d (.v (.bool false)), .d (.v (.int .i64 0)), .d (.v (.int .i64 0)), .d (.v (.bool false)), .d (.v (.bool false)), .d (.v (.bool false)), .d (.v (.int .i64 0)), .d (.v (.int .i64 0))], .box [.d (.v (.bool true)), .d (.v (.bool false)), .d (.v (.int .i64 v_frame440)), .d (.v (.int .i64 v_c439.fEntry.fRights)), .d (.v (.bool v_c439.fEntry.fUsed)), .d (.v (.bool true)), .d (.v (.bool false))]]⟩
  | .x4  => ⟨[dd, dd, .ref 0 0, dd, .ref 1 0, .ref 2 0, dd, dd, dd, dd, dd, dd, dd, dd, dd, dd, dd, dd, dd, dd, dd, dd, dd, dd, dd, dd, dd, dd, dd, dd, dd, dd, dd, dd, dd, dd, dd, dd, dd, dd, dd, dd, dd, dd, dd, dd, dd, dd, dd], [.box [.d (.v (.int .i64 v_c439.fArea)), .d (.v (.bool v_c439.fEntry.fHere)), .d (.v (.bool v_c439.fEntry.fSlot)), .d (.v (.int .i64 v_c439.fEntry.fAt)), .d (.v (.int .i64 v_c439.fEntry.fRights)), .d (.v (.bool v_c439.fEntry.fUsed)), .d (.v (.bool v_c439.fEntry.fDirty)), .d (.v (.bool v_c439.fEntry.fCopy)), .d (.v (.int .i64 v_c439.fMany)), .d (.v (.int .i64 v_c439.fWant))], .box [.d (.v (.int .i64 0)), .d (.v (.bool false)), .d (.v (.bool false)), .d (.v (.int .i64 0)), .d (.v (.int .i64 0)), .d (.v (.bool false)), .d (.v (.bool false)), .d (.v (.bool false)), .d (.v (.int .i64 0)), .d (.v (.int .i64 0))], .box [.d (.v (.bool v_c439.fEntry.fHere)), .d (.v (.bool v_c439.fEntry.fSlot)), .d (.v (.int .i64 v_c439.fEntry.fAt)), .d (.v (.int .i64 v_c439.fEntry.fRights)), .d (.v (.bool v_c439.fEntry.fUsed)), .d (.v (.bool v_c439.fEntry.fDirty)), .d (.v (.bool false))]]⟩
  | .x5  => ⟨[dd, dd, .ref 0 0, dd, .ref 1 0, .ref 2 0, dd, dd, dd, dd, dd, dd, dd, dd, dd, dd, dd, dd, dd, dd, dd, dd, dd, dd, dd, dd, dd, dd, dd, dd, dd, dd, dd, dd, dd, dd, dd, dd, dd, dd, dd, dd, dd, dd, dd, dd, dd, dd, dd], [.box [.d (.v (.int .i64 v_c439.fArea)), .d (.v (.bool v_c439.fEntry.fHere)), .d (.v (.bool v_c439.fEntry.fSlot)), .d (.v (.int .i64 v_c439.fEntry.fAt)), .d (.v (.int .i64 v_c439.fEntry.fRights)), .d (.v (.bool v_c439.fEntry.fUsed)), .d (.v (.bool v_c439.fEntry.fDirty)), .d (.v (.bool v_c439.fEntry.fCopy)), .d (.v (.int .i64 v_c439.fMany)), .d (.v (.int .i64 v_c439.fWant))], .box [.d (.v (.int .i64 0)), .d (.v (.bool false)), .d (.v (.bool false)), .d (.v (.int .i64 0)), .d (.v (.int .i64 0)), .d (.v (.bool false)), .d (.v (.bool false)), .d (.v (.bool false)), .d (.v (.int .i64 0)), .d (.v (.int .i64 0))], .box [.d (.v (.bool v_c439.fEntry.fHere)), .d (.v (.bool v_c439.fEntry.fSlot)), .d (.v (.int .i64 v_c439.fEntry.fAt)), .d (.v (.int .i64 v_c439.fEntry.fRights)), .d (.v (.bool v_c439.fEntry.fUsed)), .d (.v (.bool v_c439.fEntry.fDirty)), .d (.v (.bool v_c439.fEntry.fCopy))]]⟩
def G_ringref2_FaultAfter_C1_hd (v_frame440 : Int) (v_r441 : (Int)) (v_c439 : S_fault_Case)  : PS := ⟨[dd, .d (.v (.int .i64 v_frame440)), .ref 0 0, dd, .ref 1 0, .ref 2 0, dd, dd, dd, .d (.v (.int .i64 v_r441)), .d (.v (.bool (v_r441 == 2))), dd, dd, dd, dd, dd, dd, dd, dd, dd, dd, dd, dd, dd, dd, dd, dd, dd, dd, dd, dd, dd, dd, dd, dd, dd, dd, dd, dd, dd, dd, dd, dd, dd, dd, dd, dd, dd, dd], [.box [.d (.v (.int .i64 v_c439.fArea)), .d (.v (.bool v_c439.fEntry.fHere)), .d (.v (.bool v_c439.fEntry.fSlot)), .d (.v (.int .i64 v_c439.fEntry.fAt)), .d (.v (.int .i64 v_c439.fEntry.fRights)), .d (.v (.bool v_c439.fEntry.fUsed)), .d (.v (.bool v_c439.fEntry.fDirty)), .d (.v (.bool v_c439.fEntry.fCopy)), .d (.v (.int .i64 v_c439.fMany)), .d (.v (.int .i64 v_c439.fWant))], .box [.d (.v (.int .i64 0)), .d (.v (.bool false)), .d (.v (.bool false)), .d (.v (.int .i64 0)), .d (.v (.int .i64 0)), .d (.v (.bool false)), .d (.v (.bool false)), .d (.v (.bool false)), .d (.v (.int .i64 0)), .d (.v (.int .i64 0))], .box [.d (.v (.bool v_c439.fEntry.fHere)), .d (.v (.bool v_c439.fEntry.fSlot)), .d (.v (.int .i64 v_c439.fEntry.fAt)), .d (.v (.int .i64 v_c439.fEntry.fRights)), .d (.v (.bool v_c439.fEntry.fUsed)), .d (.v (.bool v_c439.fEntry.fDirty)), .d (.v (.bool v_c439.fEntry.fCopy))]]⟩
def G_ringref2_FaultAfter_C1 (n : Nat) (v_frame440 : Int) (v_r441 : (Int)) (v_c439 : S_fault_Case) : Option G_ringref2_FaultAfter_C1_R :=
  if v_r441 = 2 then
   some (.x0 )
  else
   if v_r441 = 3 then
    some (.x1 )
   else
    if v_r441 = 6 then
     some (.x2 )
    else
     if v_r441 = 4 then
      some (.x3 )
     else
      if v_r441 = 5 then
       some (.x4 )
      else
       some (.x5 )
theorem G_ringref2_FaultAfter_C1_ok {Fi : Ex → PS → Prop} (hF : KC 49 Fi) (ks : List Fr) (n : Nat) (v_frame440 : Int) (v_r441 : (Int)) (v_c439 : S_fault_Case)  (o : G_ringref2_FaultAfter_C1_R) (h : G_ringref2_FaultAfter_C1 n v_frame440 v_r441 v_c439 = some o) (q : RunE Try.prog 49 Fi ks (G_ringref2_FaultAfter_C1_ex o) (G_ringref2_FaultAfter_C1_st v_frame440 v_r441 v_c439 o)) : RunE Try.prog 49 Fi (.s (cR (cB (cR (cL (cR (cR (bodyOf Try.f57))))))) :: ks) .normal (G_ringref2_FaultAfter_C1_hd v_frame440 v_r441 v_c439) := by
  unfold G_ringref2_FaultAfter_C1 at h
  by_cases h686 : v_r441 = 2
  · rw [if_pos h686] at h
    cases h
    exact pkk_sound TTok mix hF 4 (hs := [.t true, .c, .c, .c, .c]) (ts := []) (s := [1]) (l := [4]) (by kernel_rfl) (by kernel_rfl) (.cons (bt h686) (.cons (show 0 + 10 ≤ 10 by decide) .nil)) q
  · rw [if_neg h686] at h
    by_cases h687 : v_r441 = 3
    · rw [if_pos h687] at h
      cases h
      exact pkk_sound TTok mix hF 5 (hs := [.t false, .t true, .c, .c, .c]) (ts := []) (s := [0, 1, 2]) (l := [2, 4, 5]) (by kernel_rfl) (by kernel_rfl) (.cons (bf h686) (.cons (bt h687) (.cons (show 0 + 7 ≤ 7 by decide) .nil))) q
    · rw [if_neg h687] at h
      by_cases h688 : v_r441 = 6
      · rw [if_pos h688] at h
        cases h
        exact pkk_sound TTok mix hF 8 (hs := [.t false, .t false, .t true, .c, .c]) (ts := []) (s := [0, 1, 2]) (l := [2, 4, 5]) (by kernel_rfl) (by kernel_rfl) (.cons (bf h686) (.cons (bf h687) (.cons (bt h688) (.cons (show 3 + 1 ≤ 7 by decide) .nil)))) q
      · rw [if_neg h688] at h
        by_cases h689 : v_r441 = 4
        · rw [if_pos h689] at h
          cases h
          exact pkk_sound TTok mix hF 13 (hs := [.t false, .t false, .t false, .t true, .c, .c, .c, .c]) (ts := []) (s := [0, 1, 2]) (l := [2, 4, 5]) (by kernel_rfl) (by kernel_rfl) (.cons (bf h686) (.cons (bf h687) (.cons (bf h688) (.cons (bt h689) (.cons (show 0 + 7 ≤ 7 by decide) (.cons (show 8 + 1 ≤ 10 by decide) .nil)))))) q
        · rw [if_neg h689] at h
          by_cases h690 : v_r441 = 5
          · rw [if_pos h690] at h
            cases h
            exact pkk_sound TTok mix hF 14 (hs := [.t false, .t false, .t false, .t false, .t true, .c]) (ts := []) (s := [0, 1, 2]) (l := [2, 4, 5]) (by kernel_rfl) (by kernel_rfl) (.cons (bf h686) (.cons (bf h687) (.cons (bf h688) (.cons (bf h689) (.cons (bt h690) (.cons (show 6 + 1 ≤ 7 by decide) .nil)))))) q
          · rw [if_neg h690] at h
            cases h
            exact pkk_sound TTok mix hF 14 (hs := [.t false, .t false, .t false, .t false, .t false]) (ts := []) (s := [0, 1, 2]) (l := [2, 4, 5]) (by kernel_rfl) (by kernel_rfl) (.cons (bf h686) (.cons (bf h687) (.cons (bf h688) (.cons (bf h689) (.cons (bf h690) .nil))))) q
inductive G_ringref2_FaultAfter_C2_R where
  | x0 
  | x1 
  | x2 
  | x3 
  | x4 
  | x5 
def G_ringref2_FaultAfter_C2_ex : G_ringref2_FaultAfter_C2_R → Ex
  | .x0  => .ret
  | .x1  => .normal
  | .x2  => .normal
  | .x3  => .normal
  | .x4  => .normal
  | .x5  => .normal
def G_ringref2_FaultAfter_C2_st (v_frame440 : Int) (v_r441 : (Int)) (v_c439 : S_fault_Case) : G_ringref2_FaultAfter_C2_R → PS
  | .x0  => ⟨[dd, dd, dd, dd, .ref 0 0, dd, dd, dd, dd, dd, dd, dd, dd, dd, dd, dd, dd, dd, dd, dd, dd, dd, dd, dd, dd, dd, dd, dd, dd, dd, dd, dd, dd, dd, dd, dd, dd, dd, dd, dd, dd, dd, dd, dd, dd, dd, dd, dd, dd], [.box [.d (.v (.int .i64 v_c439.fArea)), .d (.v (.bool true)), .d (.v (.bool false)), .d (.v (.int .i64 v_frame440)), .d (.v (.int .i64 v_c439.fArea)), .d (.v (.bool false)), .d (.v (.bool false)), .d (.v (.bool false)), .d (.v (.int .i64 1)), .d (.v (.int .i64 v_c439.fWant))]]⟩
  | .x1  => ⟨[dd, dd, .ref 0 0, dd, .ref 1 0, .ref 2 0, dd, dd, dd, dd, dd, dd, dd, dd, dd, dd, dd, dd, dd, dd, dd, dd, dd, dd, dd, dd, dd, dd, dd, dd, dd, dd, dd, dd, dd, dd, dd, dd, dd, dd, dd, dd, dd, dd, dd, dd, dd, dd, dd], [.box [.d (.v (.int .i64 v_c439.fArea)), .d (.v (.bool v_c439.fEntry.fHere)), .d (.v (.bool v_c439.fEntry.fSlot)), .d (.v (.int .i64 v_c439.fEntry.fAt)), .d (.v (.int .i64 v_c439.fEntry.fRights)), .d (.v (.bool v_c439.fEntry.fUsed)), .d (.v (.bool v_c439.fEntry.fDirty)), .d (.v (.bool v_c439.fEntry.fCopy)), .d (.v (.int .i64 v_c439.fMany)), .d (.v (.int .i64 v_c439.fWant))], .box [.d (.v (.int .i64 0)), .d (.v (.bool false)), .d (.v (.bool false)), .d (.v (.int .i64 0)), .d (.v (.int .i64 0)), .d (.v (.bool false)), .d (.v (.bool false)), .d (.v (.bool false)), .d (.v (.int .i64 0)), .d (.v (.int .i64 0))], .box [.d (.v (.bool true)), .d (.v (.bool false)), .d (.v (.int .i64 v_frame440)), .d (.v (.int .i64 v_c439.fEntry.fRights)), .d (.v (.bool false)), .d (.v (.bool false)), .d (.v (.bool v_c439.fEntry.fCopy))]]⟩
  | .x2  => ⟨[dd, dd, .ref 0 0, dd, .ref 1 0, .ref 2 0, dd, dd, dd, dd, dd, dd, dd, dd, dd, dd, dd, dd, dd, dd, dd, dd, dd, dd, dd, dd, dd, dd, dd, dd, dd, dd, dd, dd, dd, dd, dd, dd, dd, dd, dd, dd, dd, dd, dd, dd, dd, dd, dd], [.box [.d (.v (.int .i64 v_c439.fArea)), .d (.v (.bool v_c439.fEntry.fHere)), .d (.v (.bool v_c439.fEntry.fSlot)), .d (.v (.int .i64 v_c439.fEntry.fAt)), .d (.v (.int .i64 v_c439.fEntry.fRights)), .d (.v (.bool v_c439.fEntry.fUsed)), .d (.v (.bool v_c439.fEntry.fDirty)), .d (.v (.bool v_c439.fEntry.fCopy)), .d (.v (.int .i64 v_c439.fMany)), .d (.v (.int .i64 v_c439.fWant))], .box [.d (.v (.int .i64 0)), .d (.v (.bool false)), .d (.v (.bool false)), .d (.v (.int .i64 0)), .d (.v (.int .i64 0)), .d (.v (.bool false)), .d (.v (.bool false)), .d (.v (.bool false)), .d (.v (.int .i64 0)), .d (.v (.int .i64 0))], .box [.d (.v (.bool v_c439.fEntry.fHere)), .d (.v (.bool v_c439.fEntry.fSlot)), .d (.v (.int .i64 v_c439.fEntry.fAt)), .d (.v (.int .i64 v_c439.fArea)), .d (.v (.bool v_c439.fEntry.fUsed)), .d (.v (.bool v_c439.fEntry.fDirty)), .d (.v (.bool v_c439.fEntry.fCopy))]]⟩
  | .x3  => ⟨[dd, dd, .ref 0 0, dd, .ref 1 0, .ref 2 0, dd, dd, dd, dd, dd, dd, dd, dd, dd, dd, dd, dd, dd, dd, dd, dd, dd, dd, dd, dd, dd, dd, dd, dd, dd, dd, dd, dd, dd, dd, dd, dd, dd, dd, dd, dd, dd, dd, dd, dd, dd, dd, dd], [.box [.d (.v (.int .i64 v_c439.fArea)), .d (.v (.bool v_c439.fEntry.fHere)), .d (.v (.bool v_c439.fEntry.fSlot)), .d (.v (.int .i64 v_c439.fEntry.fAt)), .d (.v (.int .i64 v_c439.fEntry.fRights)), .d (.v (.bool v_c439.fEntry.fUsed)), .d (.v (.bool v_c439.fEntry.fDirty)), .d (.v (.bool v_c439.fEntry.fCopy)), .d (.v (.int .i64 1)), .d (.v (.int .i64 v_c439.fWant))], .box [.d (.v (.int .i64 0)), .d (.v (.bool false)), .d (.v (.bool false)), .d (.v (.int .i64 0)), .d (.v (.int .i64 0)), .d (.v (.bool false)), .d (.v (.bool false)), .d (.v (.bool false)), .d (.v (.int .i64 0)), .d (.v (.int .i64 0))], .box [.d (.v (.bool true)), .d (.v (.bool false)), .d (.v (.int .i64 v_frame440)), .d (.v (.int .i64 v_c439.fEntry.fRights)), .d (.v (.bool v_c439.fEntry.fUsed)), .d (.v (.bool true)), .d (.v (.bool false))]]⟩
  | .x4  => ⟨[dd, dd, .ref 0 0, dd, .ref 1 0, .ref 2 0, dd, dd, dd, dd, dd, dd, dd, dd, dd, dd, dd, dd, dd, dd, dd, dd, dd, dd, dd, dd, dd, dd, dd, dd, dd, dd, dd, dd, dd, dd, dd, dd, dd, dd, dd, dd, dd, dd, dd, dd, dd, dd, dd], [.box [.d (.v (.int .i64 v_c439.fArea)), .d (.v (.bool v_c439.fEntry.fHere)), .d (.v (.bool v_c439.fEntry.fSlot)), .d (.v (.int .i64 v_c439.fEntry.fAt)), .d (.v (.int .i64 v_c439.fEntry.fRights)), .d (.v (.bool v_c439.fEntry.fUsed)), .d (.v (.bool v_c439.fEntry.fDirty)), .d (.v (.bool v_c439.fEntry.fCopy)), .d (.v (.int .i64 v_c439.fMany)), .d (.v (.int .i64 v_c439.fWant))], .box [.d (.v (.int .i64 0)), .d (.v (.bool false)), .d (.v (.bool false)), .d (.v (.int .i64 0)), .d (.v (.int .i64 0)), .d (.v (.bool false)), .d (.v (.bool false)), .d (.v (.bool false)), .d (.v (.int .i64 0)), .d (.v (.int .i64 0))], .box [.d (.v (.bool v_c439.fEntry.fHere)), .d (.v (.bool v_c439.fEntry.fSlot)), .d (.v (.int .i64 v_c439.fEntry.fAt)), .d (.v (.int .i64 v_c439.fEntry.fRights)), .d (.v (.bool v_c439.fEntry.fUsed)), .d (.v (.bool v_c439.fEntry.fDirty)), .d (.v (.bool false))]]⟩
  | .x5  => ⟨[dd, dd, .ref 0 0, dd, .ref 1 0, .ref 2 0, dd, dd, dd, dd, dd, dd, dd, dd, dd, dd, dd, dd, dd, dd, dd, dd, dd, dd, dd, dd, dd, dd, dd, dd, dd, dd, dd, dd, dd, dd, dd, dd, dd, dd, dd, dd, dd, dd, dd, dd, dd, dd, dd], [.box [.d (.v (.int .i64 v_c439.fArea)), .d (.v (.bool v_c439.fEntry.fHere)), .d (.v (.bool v_c439.fEntry.fSlot)), .d (.v (.int .i64 v_c439.fEntry.fAt)), .d (.v (.int .i64 v_c439.fEntry.fRights)), .d (.v (.bool v_c439.fEntry.fUsed)), .d (.v (.bool v_c439.fEntry.fDirty)), .d (.v (.bool v_c439.fEntry.fCopy)), .d (.v (.int .i64 v_c439.fMany)), .d (.v (.int .i64 v_c439.fWant))], .box [.d (.v (.int .i64 0)), .d (.v (.bool false)), .d (.v (.bool false)), .d (.v (.int .i64 0)), .d (.v (.int .i64 0)), .d (.v (.bool false)), .d (.v (.bool false)), .d (.v (.bool false)), .d (.v (.int .i64 0)), .d (.v (.int .i64 0))], .box [.d (.v (.bool v_c439.fEntry.fHere)), .d (.v (.bool v_c439.fEntry.fSlot)), .d (.v (.int .i64 v_c439.fEntry.fAt)), .d (.v (.int .i64 v_c439.fEntry.fRights)), .d (.v (.bool v_c439.fEntry.fUsed)), .d (.v (.bool v_c439.fEntry.fDirty)), .d (.v (.bool v_c439.fEntry.fCopy))]]⟩
def G_ringref2_FaultAfter_C2_hd (v_frame440 : Int) (v_r441 : (Int)) (v_c439 : S_fault_Case)  : PS := ⟨[dd, .d (.v (.int .i64 v_frame440)), .ref 0 0, dd, .ref 1 0, .ref 2 0, dd, dd, dd, .d (.v (.int .i64 v_r441)), dd, dd, dd, dd, dd, dd, dd, dd, dd, dd, dd, dd, dd, dd, dd, dd, dd, dd, dd, dd, dd, dd, dd, dd, dd, dd, dd, dd, dd, dd, dd, dd, dd, dd, dd, dd, dd, dd, dd], [.box [.d (.v (.int .i64 v_c439.fArea)), .d (.v (.bool v_c439.fEntry.fHere)), .d (.v (.bool v_c439.fEntry.fSlot)), .d (.v (.int .i64 v_c439.fEntry.fAt)), .d (.v (.int .i64 v_c439.fEntry.fRights)), .d (.v (.bool v_c439.fEntry.fUsed)), .d (.v (.bool v_c439.fEntry.fDirty)), .d (.v (.bool v_c439.fEntry.fCopy)), .d (.v (.int .i64 v_c439.fMany)), .d (.v (.int .i64 v_c439.fWant))], .box [.d (.v (.int .i64 0)), .d (.v (.bool false)), .d (.v (.bool false)), .d (.v (.int .i64 0)), .d (.v (.int .i64 0)), .d (.v (.bool false)), .d (.v (.bool false)), .d (.v (.bool false)), .d (.v (.int .i64 0)), .d (.v (.int .i64 0))], .box [.d (.v (.bool v_c439.fEntry.fHere)), .d (.v (.bool v_c439.fEntry.fSlot)), .d (.v (.int .i64 v_c439.fEntry.fAt)), .d (.v (.int .i64 v_c439.fEntry.fRights)), .d (.v (.bool v_c439.fEntry.fUsed)), .d (.v (.bool v_c439.fEntry.fDirty)), .d (.v (.bool v_c439.fEntry.fCopy))]]⟩
def G_ringref2_FaultAfter_C2 (n : Nat) (v_frame440 : Int) (v_r441 : (Int)) (v_c439 : S_fault_Case) : Option G_ringref2_FaultAfter_C2_R :=
  (G_ringref2_FaultAfter_C1 n v_frame440 v_r441 v_c439).bind fun v_o443 => match v_o443 with
  | .x0  =>
    some (.x0 )
  | .x1  =>
    some (.x1 )
  | .x2  =>
    some (.x2 )
  | .x3  =>
    some (.x3 )
  | .x4  =>
    some (.x4 )
  | .x5  =>
    some (.x5 )
theorem G_ringref2_FaultAfter_C2_ok {Fi : Ex → PS → Prop} (hF : KC 49 Fi) (ks : List Fr) (n : Nat) (v_frame440 : Int) (v_r441 : (Int)) (v_c439 : S_fault_Case)  (o : G_ringref2_FaultAfter_C2_R) (h : G_ringref2_FaultAfter_C2 n v_frame440 v_r441 v_c439 = some o) (q : RunE Try.prog 49 Fi ks (G_ringref2_FaultAfter_C2_ex o) (G_ringref2_FaultAfter_C2_st v_frame440 v_r441 v_c439 o)) : RunE Try.prog 49 Fi (.s (cR (cL (cR (cR (bodyOf Try.f57))))) :: ks) .normal (G_ringref2_FaultAfter_C2_hd v_frame440 v_r441 v_c439) := by
  unfold G_ringref2_FaultAfter_C2 at h
  obtain ⟨v_o443, h691, h⟩ := bind_some h
  refine pkk_sound TTok mix hF 3 (hs := []) (ts := []) (s := [0, 1, 2]) (l := [1, 2, 4, 5, 9, 10]) (by kernel_rfl) (by kernel_rfl) .nil (G_ringref2_FaultAfter_C1_ok hF (.b 0 :: ks) n v_frame440 v_r441 v_c439 _ h691 ?_)
  cases v_o443 with
  | x0  =>
    dsimp only at h
    cases h
    exact pkk_sound TTok mix hF 1 (hs := []) (ts := []) (s := [0]) (l := [4]) (by kernel_rfl) (by kernel_rfl) .nil q
  | x1  =>
    dsimp only at h
    cases h
    exact pkk_sound TTok mix hF 1 (hs := []) (ts := []) (s := [0, 1, 2]) (l := [2, 4, 5]) (by kernel_rfl) (by kernel_rfl) .nil q
  | x2  =>
    dsimp only at h
    cases h
    exact pkk_sound TTok mix hF 1 (hs := []) (ts := []) (s := [0, 1, 2]) (l := [2, 4, 5]) (by kernel_rfl) (by kernel_rfl) .nil q
  | x3  =>
    dsimp only at h
    cases h
    exact pkk_sound TTok mix hF 1 (hs := []) (ts := []) (s := [0, 1, 2]) (l := [2, 4, 5]) (by kernel_rfl) (by kernel_rfl) .nil q
  | x4  =>
    dsimp only at h
    cases h
    exact pkk_sound TTok mix hF 1 (hs := []) (ts := []) (s := [0, 1, 2]) (l := [2, 4, 5]) (by kernel_rfl) (by kernel_rfl) .nil q
  | x5  =>
    dsimp only at h
    cases h
    exact pkk_sound TTok mix hF 1 (hs := []) (ts := []) (s := [0, 1, 2]) (l := [2, 4, 5]) (by kernel_rfl) (by kernel_rfl) .nil q
/- ringhall/ringref2.FaultAfter -/
def G_ringref2_FaultAfter (n : Nat) (v_c439 : S_fault_Case) (v_frame440 : Int) : Option (S_fault_Case) :=
  (G_ringref2_FaultDo n v_c439).bind fun (v_r441 : (Int)) =>
  (G_ringref2_FaultAfter_C2 n v_frame440 v_r441 v_c439).bind fun v_o444 => match v_o444 with
  | .x0  =>
    some (S_fault_Case.mk v_c439.fArea (S_entry_Entry.mk true false v_frame440 v_c439.fArea false false false) 1 v_c439.fWant)
  | .x1  =>
    some (S_fault_Case.mk v_c439.fArea (S_entry_Entry.mk true false v_frame440 v_c439.fEntry.fRights false false v_c439.fEntry.fCopy) v_c439.fMany v_c439.fWant)
  | .x2  =>
    some (S_fault_Case.mk v_c439.fArea (S_entry_Entry.mk v_c439.fEntry.fHere v_c439.fEntry.fSlot v_c439.fEntry.fAt v_c439.fArea v_c439.fEntry.fUsed v_c439.fEntry.fDirty v_c439.fEntry.fCopy) v_c439.fMany v_c439.fWant)
  | .x3  =>
    some (S_fault_Case.mk v_c439.fArea (S_entry_Entry.mk true false v_frame440 v_c439.fEntry.fRights v_c439.fEntry.fUsed true false) 1 v_c439.fWant)
  | .x4  =>
    some (S_fault_Case.mk v_c439.fArea (S_entry_Entry.mk v_c439.fEntry.fHere v_c439.fEntry.fSlot v_c439.fEntry.fAt v_c439.fEntry.fRights v_c439.fEntry.fUsed v_c439.fEntry.fDirty false) v_c439.fMany v_c439.fWant)
  | .x5  =>
    some v_c439
theorem G_ringref2_FaultAfter_ok (n : Nat) (v_c439 : S_fault_Case) (v_frame440 : Int) (r : S_fault_Case) (h : G_ringref2_FaultAfter n v_c439 v_frame440 = some r) : Ret Try.prog 57 [eS_fault_Case v_c439, (eI .i64) v_frame440] (eS_fault_Case r) := by
  refine ret_run (n := 49) (fn := Try.f57) (c := bodyOf Try.f57) (by kernel_rfl) (by kernel_rfl) (by kernel_rfl) (by kernel_rfl) ?_
  have hF : KC 49 (FinR Try.prog Try.f57 (eS_fault_Case r)) := FinR.kc' (by kernel_rfl)
  unfold G_ringref2_FaultAfter at h
  obtain ⟨v_r441, h669, h⟩ := bind_some h
  obtain ⟨v_o444, h692, h⟩ := bind_some h
  refine pkk_sound TTok mix hF 7 (hs := [.c, .c, .c, .r ((eI .i64) v_r441)]) (ts := []) (s := [0, 1, 4]) (l := [1, 2, 4, 5, 9]) (by kernel_rfl) (by kernel_rfl) (.cons (show 0 + 7 ≤ 7 by decide) (.cons (G_ringref2_FaultDo_ok n v_c439 _ h669) .nil)) (G_ringref2_FaultAfter_C2_ok hF (.s (cR (cR (cR (bodyOf Try.f57)))) :: []) n v_frame440 v_r441 v_c439 _ h692 ?_)
  cases v_o444 with
  | x0  =>
    dsimp only at h
    obtain rfl := Option.some.inj h
    exact pend_sound TTok mix 1 (hs := []) (by kernel_rfl) (by kernel_rfl) (by kernel_rfl) .nil
  | x1  =>
    dsimp only at h
    obtain rfl := Option.some.inj h
    exact pend_sound TTok mix 5 (hs := [.c, .c, .c, .c]) (by kernel_rfl) (by kernel_rfl) (by kernel_rfl) (.cons (show 1 + 7 ≤ 10 by decide) (.cons (show 0 + 10 ≤ 10 by decide) .nil))
  | x2  =>
    dsimp only at h
    obtain rfl := Option.some.inj h
    exact pend_sound TTok mix 5 (hs := [.c, .c, .c, .c]) (by kernel_rfl) (by kernel_rfl) (by kernel_rfl) (.cons (show 1 + 7 ≤ 10 by decide) (.cons (show 0 + 10 ≤ 10 by decide) .nil))
  | x3  =>
    dsimp only at h
    obtain rfl := Option.some.inj h
    exact pend_sound TTok mix 5 (hs := [.c, .c, .c, .c]) (by kernel_rfl) (by kernel_rfl) (by kernel_rfl) (.cons (show 1 + 7 ≤ 10 by decide) (.cons (show 0 + 10 ≤ 10 by decide) .nil))
  | x4  =>
    dsimp only at h
    obtain rfl := Option.some.inj h
    exact pend_sound TTok mix 5 (hs := [.c, .c, .c, .c]) (by kernel_rfl) (by kernel_rfl) (by kernel_rfl) (.cons (show 1 + 7 ≤ 10 by decide) (.cons (show 0 + 10 ≤ 10 by decide) .nil))
  | x5  =>
    dsimp only at h
    obtain rfl := Option.some.inj h
    exact pend_sound TTok mix 5 (hs := [.c, .c, .c, .c]) (by kernel_rfl) (by kernel_rfl) (by kernel_rfl) (.cons (show 1 + 7 ≤ 10 by decide) (.cons (show 0 + 10 ≤ 10 by decide) .nil))
inductive G_slices_Equal_int_int_L1_R where
  | x0 (v_x488 : Bool)
  | x1 
def G_slices_Equal_int_int_L1_ex : G_slices_Equal_int_int_L1_R → Ex
  | .x0 _ => .ret
  | .x1  => .exit 0
def G_slices_Equal_int_int_L1_st (v_s481 : (List Int)) (v_s482 : (List Int)) : G_slices_Equal_int_int_L1_R → PS
  | .x0 v_x488 => ⟨[dd, dd, dd, dd, .d (.v (.bool v_x488)), dd, dd, dd, dd, dd, dd, dd, dd, dd, dd, dd, dd, dd, dd, dd, dd, dd, dd, dd, dd, dd], []⟩
  | .x1  => ⟨[dd, dd, dd, dd, dd, dd, dd, dd, dd, dd, dd, dd, dd, dd, dd, dd, dd, dd, dd, dd, dd, dd, dd, dd, dd, dd], []⟩
def G_slices_Equal_int_int_L1_hd (v_s481 : (List Int)) (v_s482 : (List Int)) (v_x483 : Int) : PS := ⟨[.d (.sl (v_s481.map (eI .i64))), .d (.sl (v_s482.map (eI .i64))), dd, dd, dd, dd, dd, dd, dd, dd, dd, dd, .d (.v (.int .i64 (v_s481.length : Int))), .d (.v (.int .i64 v_x483)), dd, dd, dd, dd, dd, dd, dd, dd, dd, dd, dd, dd], []⟩
def G_slices_Equal_int_int_L1 (n : Nat) (v_s481 : (List Int)) (v_s482 : (List Int)) : Nat → Int → Option G_slices_Equal_int_int_L1_R
  | 0, _ => none
  | k + 1, v_x483 =>
    if v_x483 < (v_s481.length : Int) then
     (getI v_s481 v_x483).bind fun (v_y486 : Int) =>
     (getI v_s482 v_x483).bind fun (v_y487 : Int) =>
     if v_y486 = v_y487 then
      G_slices_Equal_int_int_L1 n v_s481 v_s482 k (wi .i64 (v_x483 + 1))
     else
      some (.x0 false)
    else
     some (.x1 )
theorem G_slices_Equal_int_int_L1_ok {Fi : Ex → PS → Prop} (hF : KC 26 Fi) (ks : List Fr) (n : Nat) (v_s481 : (List Int)) (v_s482 : (List Int))  : ∀ (k : Nat) (v_x483 : Int) (o : G_slices_Equal_int_int_L1_R), G_slices_Equal_int_int_L1 n v_s481 v_s482 k v_x483 = some o → RunE Try.prog 26 Fi ks (G_slices_Equal_int_int_L1_ex o) (G_slices_Equal_int_int_L1_st v_s481 v_s482 o) → RunE Try.prog 26 Fi (.l k (cP (cB (cR (cL (cR (cR (bodyOf Try.f48))))))) :: ks) .normal (G_slices_Equal_int_int_L1_hd v_s481 v_s482 v_x483)
  | 0, v_x483, o, h, q => by rw [G_slices_Equal_int_int_L1] at h; cases h
  | k + 1, v_x483, o, h, q => by
    rw [G_slices_Equal_int_int_L1] at h
    by_cases h727 : v_x483 < (v_s481.length : Int)
    · rw [if_pos h727] at h
      obtain ⟨v_y486, h731, h⟩ := bind_some h
      obtain ⟨v_y487, h732, h⟩ := bind_some h
      by_cases h733 : v_y486 = v_y487
      · rw [if_pos h733] at h
        exact pkk_sound TTok mix hF 16 (hs := [.t true, .y ((eI .i64) v_y486), .c, .y ((eI .i64) v_y487), .c, .t false]) (ts := []) (s := []) (l := [0, 1, 12, 13]) (by kernel_rfl) (by kernel_rfl) (.cons (dt h727) (.cons (getI_ob (f := (eI .i64)) h731) (.cons (getI_ob (f := (eI .i64)) h732) (.cons (nf h733) .nil)))) (G_slices_Equal_int_int_L1_ok hF ks n v_s481 v_s482 k (wi .i64 (v_x483 + 1)) _ h q)
      · rw [if_neg h733] at h
        cases h
        exact pkk_sound TTok mix hF 19 (hs := [.t true, .y ((eI .i64) v_y486), .c, .y ((eI .i64) v_y487), .c, .t true]) (ts := []) (s := []) (l := [4]) (by kernel_rfl) (by kernel_rfl) (.cons (dt h727) (.cons (getI_ob (f := (eI .i64)) h731) (.cons (getI_ob (f := (eI .i64)) h732) (.cons (nt h733) .nil)))) q
    · rw [if_neg h727] at h
      cases h
      exact pkk_sound TTok mix hF 8 (hs := [.t false]) (ts := []) (s := []) (l := []) (by kernel_rfl) (by kernel_rfl) (.cons (df h727) .nil) q
/- slices.Equal[[]int,int] -/
def G_slices_Equal_int_int (n : Nat) (v_s481 : (List Int)) (v_s482 : (List Int)) : Option (Bool) :=
  if (v_s481.length : Int) = (v_s482.length : Int) then
   (G_slices_Equal_int_int_L1 n v_s481 v_s482 n 0).bind fun v_o489 => match v_o489 with
   | .x0 v_z490 =>
     some v_z490
   | .x1  =>
     some true
  else
   some false
theorem G_slices_Equal_int_int_ok (n : Nat) (v_s481 : (List Int)) (v_s482 : (List Int)) (r : Bool) (h : G_slices_Equal_int_int n v_s481 v_s482 = some r) : Ret Try.prog 48 [(eL (eI .i64)) v_s481, (eL (eI .i64)) v_s482] (eB r) := by
  refine ret_run (n := 26) (fn := Try.f48) (c := bodyOf Try.f48) (by kernel_rfl) (by kernel_rfl) (by kernel_rfl) (by kernel_rfl) ?_
  have hF : KC 26 (FinR Try.prog Try.f48 (eB r)) := FinR.kc' (by kernel_rfl)
  unfold G_slices_Equal_int_int at h
  by_cases h726 : (v_s481.length : Int) = (v_s482.length : Int)
  · rw [if_pos h726] at h
    obtain ⟨v_o489, h734, h⟩ := bind_some h
    refine pkk_sound TTok mix hF 12 (hs := [.u (.d (.v (.int .i64 (v_s481.length : Int)))), .u (.d (.v (.int .i64 (v_s482.length : Int)))), .t false, .u (.d (.v (.int .i64 (v_s481.length : Int)))), .n n]) (ts := []) (s := []) (l := [0, 1, 12, 13]) (by kernel_rfl) (by kernel_rfl) (.cons (len_ob (f := (eI .i64)) (l := v_s481)) (.cons (len_ob (f := (eI .i64)) (l := v_s482)) (.cons (nf h726) (.cons (len_ob (f := (eI .i64)) (l := v_s481)) .nil)))) (G_slices_Equal_int_int_L1_ok hF (.b 0 :: .s (cR (cR (cR (bodyOf Try.f48)))) :: []) n v_s481 v_s482 n 0 _ h734 ?_)
    cases v_o489 with
    | x0 v_z490 =>
      dsimp only at h
      obtain rfl := Option.some.inj h
      exact pend_sound TTok mix 2 (hs := []) (by kernel_rfl) (by kernel_rfl) (by kernel_rfl) .nil
    | x1  =>
      dsimp only at h
      obtain rfl := Option.some.inj h
      exact pend_sound TTok mix 4 (hs := []) (by kernel_rfl) (by kernel_rfl) (by kernel_rfl) .nil
  · rw [if_neg h726] at h
    obtain rfl := Option.some.inj h
    exact pend_sound TTok mix 10 (hs := [.u (.d (.v (.int .i64 (v_s481.length : Int)))), .u (.d (.v (.int .i64 (v_s482.length : Int)))), .t true]) (by kernel_rfl) (by kernel_rfl) (by kernel_rfl) (.cons (len_ob (f := (eI .i64)) (l := v_s481)) (.cons (len_ob (f := (eI .i64)) (l := v_s482)) (.cons (nt h726) .nil)))
inductive G_ringlaw2_FaultTells_C1_R where
  | x0 (v_t372 : Bool)
def G_ringlaw2_FaultTells_C1_ex : G_ringlaw2_FaultTells_C1_R → Ex
  | .x0 _ => .normal
def G_ringlaw2_FaultTells_C1_st (v_r266 : (Int × Int)) (v_r273 : (S_fault_Case × Int)) (v_r306 : ((List Int) × S_fault_Case × Int)) (v_r361 : (Int)) : G_ringlaw2_FaultTells_C1_R → PS
  | .x0 v_t372 => ⟨[dd, dd, dd, dd, .d (.v (.bool v_t372)), dd, dd, dd, dd, dd, dd, dd, dd, dd, dd, dd, dd, dd, dd, dd, dd, dd, dd, dd, dd, dd, dd, dd, dd, dd, dd, dd, dd, dd, dd, dd, dd, dd, dd, dd, dd, dd, dd, dd, dd, dd, dd, dd, dd, dd, dd, dd, dd, dd, dd, dd, dd, dd, dd, dd, dd, dd, dd, dd, dd, dd, dd, dd, dd, dd, dd, dd, dd, dd, dd, dd, dd, dd, dd, dd, dd, dd, dd, dd, dd, dd, dd, dd, dd, dd, dd, dd, dd, dd, dd, dd, dd, dd, dd, dd, dd, dd, dd, dd, dd, dd, dd, dd, dd, dd, dd, dd, dd, dd, dd, dd, dd, dd, dd, dd, dd, dd, dd, dd, dd, dd, dd, dd, dd, dd, dd, dd, dd, dd, dd, dd, dd, dd, dd, dd, dd, dd, dd, dd, dd, dd, dd, dd, dd, dd, dd, dd, dd, dd, dd, dd, dd, dd], []⟩
def G_ringlaw2_FaultTells_C1_hd (v_r266 : (Int × Int)) (v_r273 : (S_fault_Case × Int)) (v_r306 : ((List Int) × S_fault_Case × Int)) (v_r361 : (Int))  : PS := ⟨[dd, dd, dd, dd, dd, .d (.v (.int .i64 v_r266.1)), .d (.v (.int .i64 v_r266.2)), .ref 0 0, .d (.v (.int .i64 v_r273.2)), .d (.sl (v_r306.1.map (eI .i64))), .ref 1 0, .d (.v (.int .i64 v_r306.2.2)), .ref 2 0, .d (.v (.int .i64 v_r361)), dd, dd, dd, dd, dd, dd, dd, dd, dd, dd, dd, dd, dd, dd, dd, dd, dd, dd, dd, dd, dd, dd, dd, dd, dd, dd, dd, dd, dd, dd, dd, dd, dd, dd, dd, dd, dd, dd, dd, dd, dd, dd, dd, dd, dd, dd, dd, dd, dd, dd, dd, dd, dd, dd, dd, dd, dd, dd, dd, dd, dd, dd, dd, dd, dd, dd, dd, dd, dd, dd, dd, dd, dd, dd, dd, dd, dd, dd, dd, dd, dd, dd, dd, dd, dd, dd, dd, dd, dd, dd, dd, dd, dd, dd, dd, dd, dd, dd, dd, dd, dd, dd, dd, dd, dd, dd, dd, dd, dd, dd, dd, dd, dd, dd, dd, dd, dd, dd, dd, dd, dd, dd, dd, dd, dd, dd, dd, dd, dd, dd, dd, dd, dd, dd, dd, dd, dd, dd, dd, dd, dd, dd, dd, dd], [.box [.d (.v (.int .i64 v_r273.1.fArea)), .d (.v (.bool v_r273.1.fEntry.fHere)), .d (.v (.bool v_r273.1.fEntry.fSlot)), .d (.v (.int .i64 v_r273.1.fEntry.fAt)), .d (.v (.int .i64 v_r273.1.fEntry.fRights)), .d (.v (.bool v_r273.1.fEntry.fUsed)), .d (.v (.bool v_r273.1.fEntry.fDirty)), .d (.v (.bool v_r273.1.fEntry.fCopy)), .d (.v (.int .i64 v_r273.1.fMany)), .d (.v (.int .i64 v_r273.1.fWant))], .box [.d (.v (.int .i64 v_r306.2.1.fArea)), .d (.v (.bool v_r306.2.1.fEntry.fHere)), .d (.v (.bool v_r306.2.1.fEntry.fSlot)), .d (.v (.int .i64 v_r306.2.1.fEntry.fAt)), .d (.v (.int .i64 v_r306.2.1.fEntry.fRights)), .d (.v (.bool v_r306.2.1.fEntry.fUsed)), .d (.v (.bool v_r306.2.1.fEntry.fDirty)), .d (.v (.bool v_r306.2.1.fEntry.fCopy)), .d (.v (.int .i64 v_r306.2.1.fMany)), .d (.v (.int .i64 v_r306.2.1.fWant))], .box [.d (.v (.int .i64 0)), .d (.v (.bool false)), .d (.v (.bool false)), .d (.v (.int .i64 0)), .d (.v (.int .i64 0)), .d (.v (.bool false)), .d (.v (.bool false)), .d (.v (.bool false)), .d (.v (.int .i64 0)), .d (.v (.int .i64 0))]]⟩
def G_ringlaw2_FaultTells_C1 (n : Nat) (v_r266 : (Int × Int)) (v_r273 : (S_fault_Case × Int)) (v_r306 : ((List Int) × S_fault_Case × Int)) (v_r361 : (Int)) : Option G_ringlaw2_FaultTells_C1_R :=
  if v_r266.1 = 0 then
   if v_r266.2 = v_r361 then
    if (eqRes .eql (eqS_fault_Case v_r273.1 (S_fault_Case.mk 0 (S_entry_Entry.mk false false 0 0 false false false) 0 0))) = true then
     if v_r273.2 = v_r361 then
      if (v_r306.1.length : Int) = 0 then
       if (eqRes .eql (eqS_fault_Case v_r306.2.1 (S_fault_Case.mk 0 (S_entry_Entry.mk false false 0 0 false false false) 0 0))) = true then
        some (.x0 (v_r306.2.2 == v_r361))
       else
        some (.x0 false)
      else
       some (.x0 false)
     else
      some (.x0 false)
    else
     some (.x0 false)
   else
    some (.x0 false)
  else
   some (.x0 false)
theorem G_ringlaw2_FaultTells_C1_ok {Fi : Ex → PS → Prop} (hF : KC 158 Fi) (ks : List Fr) (n : Nat) (v_r266 : (Int × Int)) (v_r273 : (S_fault_Case × Int)) (v_r306 : ((List Int) × S_fault_Case × Int)) (v_r361 : (Int))  (o : G_ringlaw2_FaultTells_C1_R) (h : G_ringlaw2_FaultTells_C1 n v_r266 v_r273 v_r306 v_r361 = some o) (q : RunE Try.prog 158 Fi ks (G_ringlaw2_FaultTells_C1_ex o) (G_ringlaw2_FaultTells_C1_st v_r266 v_r273 v_r306 v_r361 o)) : RunE Try.prog 158 Fi (.s (cL (cT (cR (cL (cR (cR (cR (cR (cR (cR (cR (bodyOf Try.f8)))))))))))) :: ks) .normal (G_ringlaw2_FaultTells_C1_hd v_r266 v_r273 v_r306 v_r361) := by
  unfold G_ringlaw2_FaultTells_C1 at h
  by_cases h581 : v_r266.1 = 0
  · rw [if_pos h581] at h
    by_cases h582 : v_r266.2 = v_r361
    · rw [if_pos h582] at h
      by_cases h583 : (eqRes .eql (eqS_fault_Case v_r273.1 (S_fault_Case.mk 0 (S_entry_Entry.mk false false 0 0 false false false) 0 0))) = true
      · rw [if_pos h583] at h
        by_cases h584 : v_r273.2 = v_r361
        · rw [if_pos h584] at h
          by_cases h585 : (v_r306.1.length : Int) = 0
          · rw [if_pos h585] at h
            by_cases h586 : (eqRes .eql (eqS_fault_Case v_r306.2.1 (S_fault_Case.mk 0 (S_entry_Entry.mk false false 0 0 false false false) 0 0))) = true
            · rw [if_pos h586] at h
              cases h
              exact pkk_sound TTok mix hF 1 (hs := [.t true, .c, .c, .t true, .c, .c, .c, .c, .q (eqS_fault_Case v_r273.1 (S_fault_Case.mk 0 (S_entry_Entry.mk false false 0 0 false false false) 0 0)), .t true, .c, .c, .t true, .c, .u (.d (.v (.int .i64 (v_r306.1.length : Int)))), .c, .t true, .c, .c, .c, .c, .q (eqS_fault_Case v_r306.2.1 (S_fault_Case.mk 0 (S_entry_Entry.mk false false 0 0 false false false) 0 0)), .t true, .c, .c]) (ts := []) (s := []) (l := [4]) (by kernel_rfl) (by kernel_rfl) (.cons (bt h581) (.cons (bt h582) (.cons (eqS_fault_Case_ok v_r273.1 (S_fault_Case.mk 0 (S_entry_Entry.mk false false 0 0 false false false) 0 0)) (.cons h583 (.cons (bt h584) (.cons (len_ob (f := (eI .i64)) (l := v_r306.1)) (.cons (bt h585) (.cons (eqS_fault_Case_ok v_r306.2.1 (S_fault_Case.mk 0 (S_entry_Entry.mk false false 0 0 false false false) 0 0)) (.cons h586 .nil))))))))) q
            · rw [if_neg h586] at h
              cases h
              exact pkk_sound TTok mix hF 1 (hs := [.t true, .c, .c, .t true, .c, .c, .c, .c, .q (eqS_fault_Case v_r273.1 (S_fault_Case.mk 0 (S_entry_Entry.mk false false 0 0 false false false) 0 0)), .t true, .c, .c, .t true, .c, .u (.d (.v (.int .i64 (v_r306.1.length : Int)))), .c, .t true, .c, .c, .c, .c, .q (eqS_fault_Case v_r306.2.1 (S_fault_Case.mk 0 (S_entry_Entry.mk false false 0 0 false false false) 0 0)), .t false, .c, .c]) (ts := []) (s := []) (l := [4]) (by kernel_rfl) (by kernel_rfl) (.cons (bt h581) (.cons (bt h582) (.cons (eqS_fault_Case_ok v_r273.1 (S_fault_Case.mk 0 (S_entry_Entry.mk false false 0 0 false false false) 0 0)) (.cons h583 (.cons (bt h584) (.cons (len_ob (f := (eI .i64)) (l := v_r306.1)) (.cons (bt h585) (.cons (eqS_fault_Case_ok v_r306.2.1 (S_fault_Case.mk 0 (S_entry_Entry.mk false false 0 0 false false false) 0 0)) (.cons (vf h586) .nil))))))))) q
          · rw [if_neg h585] at h
            cases h
            exact pkk_sound TTok mix hF 1 (hs := [.t true, .c, .c, .t true, .c, .c, .c, .c, .q (eqS_fault_Case v_r273.1 (S_fault_Case.mk 0 (S_entry_Entry.mk false false 0 0 false false false) 0 0)), .t true, .c, .c, .t true, .c, .u (.d (.v (.int .i64 (v_r306.1.length : Int)))), .c, .t false, .c, .c, .c, .c, .c]) (ts := []) (s := []) (l := [4]) (by kernel_rfl) (by kernel_rfl) (.cons (bt h581) (.cons (bt h582) (.cons (eqS_fault_Case_ok v_r273.1 (S_fault_Case.mk 0 (S_entry_Entry.mk false false 0 0 false false false) 0 0)) (.cons h583 (.cons (bt h584) (.cons (len_ob (f := (eI .i64)) (l := v_r306.1)) (.cons (bf h585) .nil))))))) q
        · rw [if_neg h584] at h
          cases h
          exact pkk_sound TTok mix hF 1 (hs := [.t true, .c, .c, .t true, .c, .c, .c, .c, .q (eqS_fault_Case v_r273.1 (S_fault_Case.mk 0 (S_entry_Entry.mk false false 0 0 false false false) 0 0)), .t true, .c, .c, .t false, .c, .c, .c, .c, .c, .c, .c, .c]) (ts := []) (s := []) (l := [4]) (by kernel_rfl) (by kernel_rfl) (.cons (bt h581) (.cons (bt h582) (.cons (eqS_fault_Case_ok v_r273.1 (S_fault_Case.mk 0 (S_entry_Entry.mk false false 0 0 false false false) 0 0)) (.cons h583 (.cons (bf h584) .nil))))) q
      · rw [if_neg h583] at h
        cases h
        exact pkk_sound TTok mix hF 1 (hs := [.t true, .c, .c, .t true, .c, .c, .c, .c, .q (eqS_fault_Case v_r273.1 (S_fault_Case.mk 0 (S_entry_Entry.mk false false 0 0 false false false) 0 0)), .t false, .c, .c, .c, .c, .c, .c, .c, .c, .c, .c, .c]) (ts := []) (s := []) (l := [4]) (by kernel_rfl) (by kernel_rfl) (.cons (bt h581) (.cons (bt h582) (.cons (eqS_fault_Case_ok v_r273.1 (S_fault_Case.mk 0 (S_entry_Entry.mk false false 0 0 false false false) 0 0)) (.cons (vf h583) .nil)))) q
    · rw [if_neg h582] at h
      cases h
      exact pkk_sound TTok mix hF 1 (hs := [.t true, .c, .c, .t false, .c, .c, .c, .c, .c, .c, .c, .c, .c, .c, .c, .c, .c, .c]) (ts := []) (s := []) (l := [4]) (by kernel_rfl) (by kernel_rfl) (.cons (bt h581) (.cons (bf h582) .nil)) q
  · rw [if_neg h581] at h
    cases h
    exact pkk_sound TTok mix hF 1 (hs := [.t false, .c, .c, .c, .c, .c, .c, .c, .c, .c, .c, .c, .c, .c, .c, .c, .c, .c]) (ts := []) (s := []) (l := [4]) (by kernel_rfl) (by kernel_rfl) (.cons (bf h581) .nil) q
inductive G_ringlaw2_FaultTells_C2_R where
  | x0 (v_t431 : Bool)
def G_ringlaw2_FaultTells_C2_ex : G_ringlaw2_FaultTells_C2_R → Ex
  | .x0 _ => .normal
def G_ringlaw2_FaultTells_C2_st (v_r273 : (S_fault_Case × Int)) (v_r306 : ((List Int) × S_fault_Case × Int)) : G_ringlaw2_FaultTells_C2_R → PS
  | .x0 v_t431 => ⟨[dd, dd, dd, dd, .d (.v (.bool v_t431)), dd, dd, dd, dd, dd, dd, dd, dd, dd, dd, dd, dd, dd, dd, dd, dd, dd, dd, dd, dd, dd, dd, dd, dd, dd, dd, dd, dd, dd, dd, dd, dd, dd, dd, dd, dd, dd, dd, dd, dd, dd, dd, dd, dd, dd, dd, dd, dd, dd, dd, dd, dd, dd, dd, dd, dd, dd, dd, dd, dd, dd, dd, dd, dd, dd, dd, dd, dd, dd, dd, dd, dd, dd, dd, dd, dd, dd, dd, dd, dd, dd, dd, dd, dd, dd, dd, dd, dd, dd, dd, dd, dd, dd, dd, dd, dd, dd, dd, dd, dd, dd, dd, dd, dd, dd, dd, dd, dd, dd, dd, dd, dd, dd, dd, dd, dd, dd, dd, dd, dd, dd, dd, dd, dd, dd, dd, dd, dd, dd, dd, dd, dd, dd, dd, dd, dd, dd, dd, dd, dd, dd, dd, dd, dd, dd, dd, dd, dd, dd, dd, dd, dd, dd], []⟩
def G_ringlaw2_FaultTells_C2_hd (v_r273 : (S_fault_Case × Int)) (v_r306 : ((List Int) × S_fault_Case × Int))  : PS := ⟨[dd, dd, dd, dd, dd, dd, dd, .ref 0 0, .d (.v (.int .i64 v_r273.2)), .d (.sl (v_r306.1.map (eI .i64))), .ref 1 0, .d (.v (.int .i64 v_r306.2.2)), .ref 2 0, dd, dd, dd, dd, dd, dd, dd, dd, dd, dd, dd, dd, dd, dd, dd, dd, dd, dd, dd, dd, dd, dd, dd, dd, dd, dd, dd, dd, dd, dd, dd, dd, dd, dd, dd, dd, dd, dd, dd, dd, dd, dd, dd, dd, dd, dd, dd, dd, dd, dd, dd, dd, dd, dd, dd, dd, dd, dd, dd, dd, dd, dd, dd, dd, dd, dd, dd, dd, dd, dd, dd, dd, dd, dd, dd, dd, dd, dd, dd, dd, dd, dd, dd, dd, dd, dd, dd, dd, dd, dd, dd, dd, dd, dd, dd, dd, dd, dd, dd, dd, dd, dd, dd, dd, dd, dd, dd, dd, dd, dd, dd, dd, dd, dd, dd, dd, dd, dd, dd, dd, dd, dd, dd, dd, dd, dd, dd, dd, dd, dd, dd, dd, dd, dd, dd, dd, dd, dd, dd, dd, dd, dd, dd, dd, dd], [.box [.d (.v (.int .i64 v_r273.1.fArea)), .d (.v (.bool v_r273.1.fEntry.fHere)), .d (.v (.bool v_r273.1.fEntry.fSlot)), .d (.v (.int .i64 v_r273.1.fEntry.fAt)), .d (.v (.int .i64 v_r273.1.fEntry.fRights)), .d (.v (.bool v_r273.1.fEntry.fUsed)), .d (.v (.bool v_r273.1.fEntry.fDirty)), .d (.v (.bool v_r273.1.fEntry.fCopy)), .d (.v (.int .i64 v_r273.1.fMany)), .d (.v (.int .i64 v_r273.1.fWant))], .box [.d (.v (.int .i64 v_r306.2.1.fArea)), .d (.v (.bool v_r306.2.1.fEntry.fHere)), .d (.v (.bool v_r306.2.1.fEntry.fSlot)), .d (.v (.int .i64 v_r306.2.1.fEntry.fAt)), .d (.v (.int .i64 v_r306.2.1.fEntry.fRights)), .d (.v (.bool v_r306.2.1.fEntry.fUsed)), .d (.v (.bool v_r306.2.1.fEntry.fDirty)), .d (.v (.bool v_r306.2.1.fEntry.fCopy)), .d (.v (.int .i64 v_r306.2.1.fMany)), .d (.v (.int .i64 v_r306.2.1.fWant))], .box [.d (.v (.int .i64 0)), .d (.v (.bool false)), .d (.v (.bool false)), .d (.v (.int .i64 0)), .d (.v (.int .i64 0)), .d (.v (.bool false)), .d (.v (.bool false)), .d (.v (.bool false)), .d (.v (.int .i64 0)), .d (.v (.int .i64 0))]]⟩
def G_ringlaw2_FaultTells_C2 (n : Nat) (v_r273 : (S_fault_Case × Int)) (v_r306 : ((List Int) × S_fault_Case × Int)) : Option G_ringlaw2_FaultTells_C2_R :=
  if (eqRes .eql (eqS_fault_Case v_r273.1 (S_fault_Case.mk 0 (S_entry_Entry.mk false false 0 0 false false false) 0 0))) = true then
   if v_r273.2 = 1 then
    if (v_r306.1.length : Int) = 0 then
     if (eqRes .eql (eqS_fault_Case v_r306.2.1 (S_fault_Case.mk 0 (S_entry_Entry.mk false false 0 0 false false false) 0 0))) = true then
      some (.x0 (v_r306.2.2 == 1))
     else
      some (.x0 false)
    else
     some (.x0 false)
   else
    some (.x0 false)
  else
   some (.x0 false)
theorem G_ringlaw2_FaultTells_C2_ok {Fi : Ex → PS → Prop} (hF : KC 158 Fi) (ks : List Fr) (n : Nat) (v_r273 : (S_fault_Case × Int)) (v_r306 : ((List Int) × S_fault_Case × Int))  (o : G_ringlaw2_FaultTells_C2_R) (h : G_ringlaw2_FaultTells_C2 n v_r273 v_r306 = some o) (q : RunE Try.prog 158 Fi ks (G_ringlaw2_FaultTells_C2_ex o) (G_ringlaw2_FaultTells_C2_st v_r273 v_r306 o)) : RunE Try.prog 158 Fi (.s (cL (cT (cR (cL (cR (cR (cR (cR (cR (cR (cR (cR (cR (bodyOf Try.f8)))))))))))))) :: ks) .normal (G_ringlaw2_FaultTells_C2_hd v_r273 v_r306) := by
  unfold G_ringlaw2_FaultTells_C2 at h
  by_cases h660 : (eqRes .eql (eqS_fault_Case v_r273.1 (S_fault_Case.mk 0 (S_entry_Entry.mk false false 0 0 false false false) 0 0))) = true
  · rw [if_pos h660] at h
    by_cases h661 : v_r273.2 = 1
    · rw [if_pos h661] at h
      by_cases h662 : (v_r306.1.length : Int) = 0
      · rw [if_pos h662] at h
        by_cases h663 : (eqRes .eql (eqS_fault_Case v_r306.2.1 (S_fault_Case.mk 0 (S_entry_Entry.mk false false 0 0 false false false) 0 0))) = true
        · rw [if_pos h663] at h
          cases h
          exact pkk_sound TTok mix hF 1 (hs := [.c, .c, .q (eqS_fault_Case v_r273.1 (S_fault_Case.mk 0 (S_entry_Entry.mk false false 0 0 false false false) 0 0)), .t true, .c, .t true, .c, .u (.d (.v (.int .i64 (v_r306.1.length : Int)))), .c, .t true, .c, .c, .c, .c, .q (eqS_fault_Case v_r306.2.1 (S_fault_Case.mk 0 (S_entry_Entry.mk false false 0 0 false false false) 0 0)), .t true, .c]) (ts := []) (s := []) (l := [4]) (by kernel_rfl) (by kernel_rfl) (.cons (eqS_fault_Case_ok v_r273.1 (S_fault_Case.mk 0 (S_entry_Entry.mk false false 0 0 false false false) 0 0)) (.cons h660 (.cons (bt h661) (.cons (len_ob (f := (eI .i64)) (l := v_r306.1)) (.cons (bt h662) (.cons (eqS_fault_Case_ok v_r306.2.1 (S_fault_Case.mk 0 (S_entry_Entry.mk false false 0 0 false false false) 0 0)) (.cons h663 .nil))))))) q
        · rw [if_neg h663] at h
          cases h
          exact pkk_sound TTok mix hF 1 (hs := [.c, .c, .q (eqS_fault_Case v_r273.1 (S_fault_Case.mk 0 (S_entry_Entry.mk false false 0 0 false false false) 0 0)), .t true, .c, .t true, .c, .u (.d (.v (.int .i64 (v_r306.1.length : Int)))), .c, .t true, .c, .c, .c, .c, .q (eqS_fault_Case v_r306.2.1 (S_fault_Case.mk 0 (S_entry_Entry.mk false false 0 0 false false false) 0 0)), .t false, .c]) (ts := []) (s := []) (l := [4]) (by kernel_rfl) (by kernel_rfl) (.cons (eqS_fault_Case_ok v_r273.1 (S_fault_Case.mk 0 (S_entry_Entry.mk false false 0 0 false false false) 0 0)) (.cons h660 (.cons (bt h661) (.cons (len_ob (f := (eI .i64)) (l := v_r306.1)) (.cons (bt h662) (.cons (eqS_fault_Case_ok v_r306.2.1 (S_fault_Case.mk 0 (S_entry_Entry.mk false false 0 0 false false false) 0 0)) (.cons (vf h663) .nil))))))) q
      · rw [if_neg h662] at h
        cases h
        exact pkk_sound TTok mix hF 1 (hs := [.c, .c, .q (eqS_fault_Case v_r273.1 (S_fault_Case.mk 0 (S_entry_Entry.mk false false 0 0 false false false) 0 0)), .t true, .c, .t true, .c, .u (.d (.v (.int .i64 (v_r306.1.length : Int)))), .c, .t false, .c, .c, .c, .c]) (ts := []) (s := []) (l := [4]) (by kernel_rfl) (by kernel_rfl) (.cons (eqS_fault_Case_ok v_r273.1 (S_fault_Case.mk 0 (S_entry_Entry.mk false false 0 0 false false false) 0 0)) (.cons h660 (.cons (bt h661) (.cons (len_ob (f := (eI .i64)) (l := v_r306.1)) (.cons (bf h662) .nil))))) q
    · rw [if_neg h661] at h
      cases h
      exact pkk_sound TTok mix hF 1 (hs := [.c, .c, .q (eqS_fault_Case v_r273.1 (S_fault_Case.mk 0 (S_entry_Entry.mk false false 0 0 false false false) 0 0)), .t true, .c, .t false, .c, .c, .c, .c, .c, .c, .c]) (ts := []) (s := []) (l := [4]) (by kernel_rfl) (by kernel_rfl) (.cons (eqS_fault_Case_ok v_r273.1 (S_fault_Case.mk 0 (S_entry_Entry.mk false false 0 0 false false false) 0 0)) (.cons h660 (.cons (bf h661) .nil))) q
  · rw [if_neg h660] at h
    cases h
    exact pkk_sound TTok mix hF 1 (hs := [.c, .c, .q (eqS_fault_Case v_r273.1 (S_fault_Case.mk 0 (S_entry_Entry.mk false false 0 0 false false false) 0 0)), .t false, .c, .c, .c, .c, .c, .c, .c, .c, .c]) (ts := []) (s := []) (l := [4]) (by kernel_rfl) (by kernel_rfl) (.cons (eqS_fault_Case_ok v_r273.1 (S_fault_Case.mk 0 (S_entry_Entry.mk false false 0 0 false false false) 0 0)) (.cons (vf h660) .nil)) q
inductive G_ringlaw2_FaultTells_C3_R where
  | x0 (v_t446 : Bool)
  | x1 
def G_ringlaw2_FaultTells_C3_ex : G_ringlaw2_FaultTells_C3_R → Ex
  | .x0 _ => .ret
  | .x1  => .normal
def G_ringlaw2_FaultTells_C3_st (v_t2 : Int) (v_r273 : (S_fault_Case × Int)) (v_r306 : ((List Int) × S_fault_Case × Int)) (v_r438 : (Int)) (v_t1 : S_fault_Case) : G_ringlaw2_FaultTells_C3_R → PS
  | .x0 v_t446 => ⟨[dd, dd, dd, dd, .d (.v (.bool v_t446)), dd, dd, dd, dd, dd, dd, dd, dd, dd, dd, dd, dd, dd, dd, dd, dd, dd, dd, dd, dd, dd, dd, dd, dd, dd, dd, dd, dd, dd, dd, dd, dd, dd, dd, dd, dd, dd, dd, dd, dd, dd, dd, dd, dd, dd, dd, dd, dd, dd, dd, dd, dd, dd, dd, dd, dd, dd, dd, dd, dd, dd, dd, dd, dd, dd, dd, dd, dd, dd, dd, dd, dd, dd, dd, dd, dd, dd, dd, dd, dd, dd, dd, dd, dd, dd, dd, dd, dd, dd, dd, dd, dd, dd, dd, dd, dd, dd, dd, dd, dd, dd, dd, dd, dd, dd, dd, dd, dd, dd, dd, dd, dd, dd, dd, dd, dd, dd, dd, dd, dd, dd, dd, dd, dd, dd, dd, dd, dd, dd, dd, dd, dd, dd, dd, dd, dd, dd, dd, dd, dd, dd, dd, dd, dd, dd, dd, dd, dd, dd, dd, dd, dd, dd], []⟩
  | .x1  => ⟨[dd, .d (.v (.int .i64 v_t2)), .ref 0 0, dd, dd, dd, dd, dd, dd, .d (.sl (v_r306.1.map (eI .i64))), .ref 1 0, .d (.v (.int .i64 v_r306.2.2)), dd, dd, dd, dd, dd, dd, dd, dd, dd, dd, dd, dd, dd, dd, dd, dd, dd, dd, dd, dd, dd, dd, dd, dd, dd, dd, dd, dd, dd, dd, dd, dd, dd, dd, dd, dd, dd, dd, dd, dd, dd, dd, dd, dd, dd, dd, dd, dd, dd, dd, dd, dd, dd, dd, dd, dd, dd, dd, dd, dd, dd, dd, dd, dd, dd, dd, dd, dd, dd, dd, dd, dd, dd, dd, dd, dd, dd, dd, dd, dd, dd, dd, dd, dd, dd, dd, dd, dd, dd, dd, dd, dd, dd, dd, dd, dd, dd, dd, dd, dd, dd, dd, dd, dd, dd, dd, dd, dd, dd, dd, dd, dd, dd, dd, dd, dd, dd, dd, dd, dd, dd, dd, dd, dd, dd, dd, dd, dd, dd, dd, dd, dd, dd, dd, dd, dd, dd, dd, dd, dd, dd, dd, dd, dd, dd, dd], [.box [.d (.v (.int .i64 v_t1.fArea)), .d (.v (.bool v_t1.fEntry.fHere)), .d (.v (.bool v_t1.fEntry.fSlot)), .d (.v (.int .i64 v_t1.fEntry.fAt)), .d (.v (.int .i64 v_t1.fEntry.fRights)), .d (.v (.bool v_t1.fEntry.fUsed)), .d (.v (.bool v_t1.fEntry.fDirty)), .d (.v (.bool v_t1.fEntry.fCopy)), .d (.v (.int .i64 v_t1.fMany)), .d (.v (.int .i64 v_t1.fWant))], .box [.d (.v (.int .i64 v_r306.2.1.fArea)), .d (.v (.bool v_r306.2.1.fEntry.fHere)), .d (.v (.bool v_r306.2.1.fEntry.fSlot)), .d (.v (.int .i64 v_r306.2.1.fEntry.fAt)), .d (.v (.int .i64 v_r306.2.1.fEntry.fRights)), .d (.v (.bool v_r306.2.1.fEntry.fUsed)), .d (.v (.bool v_r306.2.1.fEntry.fDirty)), .d (.v (.bool v_r306.2.1.fEntry.fCopy)), .d (.v (.int .i64 v_r306.2.1.fMany)), .d (.v (.int .i64 v_r306.2.1.fWant))]]⟩
def G_ringlaw2_FaultTells_C3_hd (v_t2 : Int) (v_r273 : (S_fault_Case × Int)) (v_r306 : ((List Int) × S_fault_Case × Int)) (v_r438 : (Int)) (v_t1 : S_fault_Case)  : PS := ⟨[dd, .d (.v (.int .i64 v_t2)), .ref 0 0, dd, dd, dd, dd, .ref 1 0, .d (.v (.int .i64 v_r273.2)), .d (.sl (v_r306.1.map (eI .i64))), .ref 2 0, .d (.v (.int .i64 v_r306.2.2)), .ref 3 0, dd, dd, dd, dd, dd, dd, dd, dd, dd, dd, dd, dd, dd, dd, dd, dd, dd, dd, dd, dd, dd, dd, dd, dd, dd, dd, dd, dd, dd, dd, dd, dd, dd, dd, dd, dd, dd, dd, dd, dd, dd, dd, dd, dd, dd, dd, dd, dd, dd, dd, dd, dd, dd, dd, dd, dd, dd, dd, dd, dd, dd, dd, dd, dd, dd, dd, dd, dd, dd, dd, dd, dd, dd, dd, dd, dd, dd, dd, dd, dd, dd, dd, dd, dd, dd, dd, dd, dd, dd, dd, dd, dd, dd, dd, dd, dd, dd, .d (.v (.bool (v_r438 == 1))), dd, dd, dd, dd, dd, dd, dd, dd, dd, dd, dd, dd, dd, dd, dd, dd, dd, dd, dd, dd, dd, dd, dd, dd, dd, dd, dd, dd, dd, dd, dd, dd, dd, dd, dd, dd, dd, dd, dd, dd, dd, dd, dd, dd, dd, dd, dd], [.box [.d (.v (.int .i64 v_t1.fArea)), .d (.v (.bool v_t1.fEntry.fHere)), .d (.v (.bool v_t1.fEntry.fSlot)), .d (.v (.int .i64 v_t1.fEntry.fAt)), .d (.v (.int .i64 v_t1.fEntry.fRights)), .d (.v (.bool v_t1.fEntry.fUsed)), .d (.v (.bool v_t1.fEntry.fDirty)), .d (.v (.bool v_t1.fEntry.fCopy)), .d (.v (.int .i64 v_t1.fMany)), .d (.v (.int .i64 v_t1.fWant))], .box [.d (.v (.int .i64 v_r273.1.fArea)), .d (.v (.bool v_r273.1.fEntry.fHere)), .d (.v (.bool v_r273.1.fEntry.fSlot)), .d (.v (.int .i64 v_r273.1.fEntry.fAt)), .d (.v (.int .i64 v_r273.1.fEntry.fRights)), .d (.v (.bool v_r273.1.fEntry.fUsed)), .d (.v (.bool v_r273.1.fEntry.fDirty)), .d (.v (.bool v_r273.1.fEntry.fCopy)), .d (.v (.int .i64 v_r273.1.fMany)), .d (.v (.int .i64 v_r273.1.fWant))], .box [.d (.v (.int .i64 v_r306.2.1.fArea)), .d (.v (.bool v_r306.2.1.fEntry.fHere)), .d (.v (.bool v_r306.2.1.fEntry.fSlot)), .d (.v (.int .i64 v_r306.2.1.fEntry.fAt)), .d (.v (.int .i64 v_r306.2.1.fEntry.fRights)), .d (.v (.bool v_r306.2.1.fEntry.fUsed)), .d (.v (.bool v_r306.2.1.fEntry.fDirty)), .d (.v (.bool v_r306.2.1.fEntry.fCopy)), .d (.v (.int .i64 v_r306.2.1.fMany)), .d (.v (.int .i64 v_r306.2.1.fWant))], .box [.d (.v (.int .i64 0)), .d (.v (.bool false)), .d (.v (.bool false)), .d (.v (.int .i64 0)), .d (.v (.int .i64 0)), .d (.v (.bool false)), .d (.v (.bool false)), .d (.v (.bool false)), .d (.v (.int .i64 0)), .d (.v (.int .i64 0))]]⟩
def G_ringlaw2_FaultTells_C3 (n : Nat) (v_t2 : Int) (v_r273 : (S_fault_Case × Int)) (v_r306 : ((List Int) × S_fault_Case × Int)) (v_r438 : (Int)) (v_t1 : S_fault_Case) : Option G_ringlaw2_FaultTells_C3_R :=
  if v_r438 = 1 then
   if (eqRes .neq (eqS_fault_Case v_r273.1 (S_fault_Case.mk 0 (S_entry_Entry.mk false false 0 0 false false false) 0 0))) = true then
    some (.x0 false)
   else
    if v_r273.2 = 11 then
     some (.x1 )
    else
     some (.x0 false)
  else
   (G_ringref2_FaultAfter n v_t1 v_t2).bind fun (v_r448 : (S_fault_Case)) =>
   if (eqRes .neq (eqS_fault_Case v_r273.1 v_r448)) = true then
    some (.x0 false)
   else
    if v_r273.2 = 0 then
     some (.x1 )
    else
     some (.x0 false)
theorem G_ringlaw2_FaultTells_C3_ok {Fi : Ex → PS → Prop} (hF : KC 158 Fi) (ks : List Fr) (n : Nat) (v_t2 : Int) (v_r273 : (S_fault_Case × Int)) (v_r306 : ((List Int) × S_fault_Case × Int)) (v_r438 : (Int)) (v_t1 : S_fault_Case)  (o : G_ringlaw2_FaultTells_C3_R) (h : G_ringlaw2_FaultTells_C3 n v_t2 v_r273 v_r306 v_r438 v_t1 = some o) (q : RunE Try.prog 158 Fi ks (G_ringlaw2_FaultTells_C3_ex o) (G_ringlaw2_FaultTells_C3_st v_t2 v_r273 v_r306 v_r438 v_t1 o)) : RunE Try.prog 158 Fi (.s (cR (cL (cR (cR (cR (cR (cR (cR (cR (cR (cR (cR (bodyOf Try.f8))))))))))))) :: ks) .normal (G_ringlaw2_FaultTells_C3_hd v_t2 v_r273 v_r306 v_r438 v_t1) := by
  unfold G_ringlaw2_FaultTells_C3 at h
  by_cases h696 : v_r438 = 1
  · rw [if_pos h696] at h
    by_cases h697 : (eqRes .neq (eqS_fault_Case v_r273.1 (S_fault_Case.mk 0 (S_entry_Entry.mk false false 0 0 false false false) 0 0))) = true
    · rw [if_pos h697] at h
      cases h
      exact pkk_sound TTok mix hF 7 (hs := [.t true, .c, .c, .q (eqS_fault_Case v_r273.1 (S_fault_Case.mk 0 (S_entry_Entry.mk false false 0 0 false false false) 0 0)), .t true, .c, .c]) (ts := []) (s := []) (l := [4]) (by kernel_rfl) (by kernel_rfl) (.cons (bt h696) (.cons (eqS_fault_Case_ok v_r273.1 (S_fault_Case.mk 0 (S_entry_Entry.mk false false 0 0 false false false) 0 0)) (.cons h697 .nil))) q
    · rw [if_neg h697] at h
      by_cases h698 : v_r273.2 = 11
      · rw [if_pos h698] at h
        cases h
        exact pkk_sound TTok mix hF 5 (hs := [.t true, .c, .c, .q (eqS_fault_Case v_r273.1 (S_fault_Case.mk 0 (S_entry_Entry.mk false false 0 0 false false false) 0 0)), .t false, .c, .t false]) (ts := []) (s := [0, 2]) (l := [1, 2, 9, 10, 11]) (by kernel_rfl) (by kernel_rfl) (.cons (bt h696) (.cons (eqS_fault_Case_ok v_r273.1 (S_fault_Case.mk 0 (S_entry_Entry.mk false false 0 0 false false false) 0 0)) (.cons (vf h697) (.cons (nf h698) .nil)))) q
      · rw [if_neg h698] at h
        cases h
        exact pkk_sound TTok mix hF 7 (hs := [.t true, .c, .c, .q (eqS_fault_Case v_r273.1 (S_fault_Case.mk 0 (S_entry_Entry.mk false false 0 0 false false false) 0 0)), .t false, .c, .t true]) (ts := []) (s := []) (l := [4]) (by kernel_rfl) (by kernel_rfl) (.cons (bt h696) (.cons (eqS_fault_Case_ok v_r273.1 (S_fault_Case.mk 0 (S_entry_Entry.mk false false 0 0 false false false) 0 0)) (.cons (vf h697) (.cons (nt h698) .nil)))) q
  · rw [if_neg h696] at h
    obtain ⟨v_r448, h699, h⟩ := bind_some h
    by_cases h700 : (eqRes .neq (eqS_fault_Case v_r273.1 v_r448)) = true
    · rw [if_pos h700] at h
      cases h
      exact pkk_sound TTok mix hF 7 (hs := [.t false, .c, .c, .r (eS_fault_Case v_r448), .q (eqS_fault_Case v_r273.1 v_r448), .t true, .c, .c]) (ts := []) (s := []) (l := [4]) (by kernel_rfl) (by kernel_rfl) (.cons (bf h696) (.cons (G_ringref2_FaultAfter_ok n v_t1 v_t2 _ h699) (.cons (eqS_fault_Case_ok v_r273.1 v_r448) (.cons h700 .nil)))) q
    · rw [if_neg h700] at h
      by_cases h701 : v_r273.2 = 0
      · rw [if_pos h701] at h
        cases h
        exact pkk_sound TTok mix hF 5 (hs := [.t false, .c, .c, .r (eS_fault_Case v_r448), .q (eqS_fault_Case v_r273.1 v_r448), .t false, .c, .t false]) (ts := []) (s := [0, 2]) (l := [1, 2, 9, 10, 11]) (by kernel_rfl) (by kernel_rfl) (.cons (bf h696) (.cons (G_ringref2_FaultAfter_ok n v_t1 v_t2 _ h699) (.cons (eqS_fault_Case_ok v_r273.1 v_r448) (.cons (vf h700) (.cons (nf h701) .nil))))) q
      · rw [if_neg h701] at h
        cases h
        exact pkk_sound TTok mix hF 7 (hs := [.t false, .c, .c, .r (eS_fault_Case v_r448), .q (eqS_fault_Case v_r273.1 v_r448), .t false, .c, .t true]) (ts := []) (s := []) (l := [4]) (by kernel_rfl) (by kernel_rfl) (.cons (bf h696) (.cons (G_ringref2_FaultAfter_ok n v_t1 v_t2 _ h699) (.cons (eqS_fault_Case_ok v_r273.1 v_r448) (.cons (vf h700) (.cons (nt h701) .nil))))) q
inductive G_ringlaw2_FaultTells_L4_R where
  | x0 (v_w471 : (List Int)) (v_b472 : S_fault_Case)
def G_ringlaw2_FaultTells_L4_ex : G_ringlaw2_FaultTells_L4_R → Ex
  | .x0 _ _ => .exit 0
def G_ringlaw2_FaultTells_L4_st (v_t2 : Int) (v_r306 : ((List Int) × S_fault_Case × Int)) : G_ringlaw2_FaultTells_L4_R → PS
  | .x0 v_w471 v_b472 => ⟨[dd, dd, dd, dd, dd, dd, dd, dd, dd, .d (.sl (v_r306.1.map (eI .i64))), .ref 0 0, .d (.v (.int .i64 v_r306.2.2)), dd, dd, .srf 1, .ref 2 0, dd, dd, dd, dd, dd, dd, dd, dd, dd, dd, dd, dd, dd, dd, dd, dd, dd, dd, dd, dd, dd, dd, dd, dd, dd, dd, dd, dd, dd, dd, dd, dd, dd, dd, dd, dd, dd, dd, dd, dd, dd, dd, dd, dd, dd, dd, dd, dd, dd, dd, dd, dd, dd, dd, dd, dd, dd, dd, dd, dd, dd, dd, dd, dd, dd, dd, dd, dd, dd, dd, dd, dd, dd, dd, dd, dd, dd, dd, dd, dd, dd, dd, dd, dd, dd, dd, dd, dd, dd, dd, dd, dd, dd, dd, dd, dd, dd, dd, dd, dd, dd, dd, dd, dd, dd, dd, dd, dd, dd, dd, dd, dd, dd, dd, dd, dd, dd, dd, dd, dd, dd, dd, dd, dd, dd, dd, dd, dd, dd, dd, dd, dd, dd, dd, dd, dd, dd, dd, dd, dd, dd, dd], [.box [.d (.v (.int .i64 v_r306.2.1.fArea)), .d (.v (.bool v_r306.2.1.fEntry.fHere)), .d (.v (.bool v_r306.2.1.fEntry.fSlot)), .d (.v (.int .i64 v_r306.2.1.fEntry.fAt)), .d (.v (.int .i64 v_r306.2.1.fEntry.fRights)), .d (.v (.bool v_r306.2.1.fEntry.fUsed)), .d (.v (.bool v_r306.2.1.fEntry.fDirty)), .d (.v (.bool v_r306.2.1.fEntry.fCopy)), .d (.v (.int .i64 v_r306.2.1.fMany)), .d (.v (.int .i64 v_r306.2.1.fWant))], .row 3 1 (v_w471.map (eI .i64)), .box [.d (.v (.int .i64 v_b472.fArea)), .d (.v (.bool v_b472.fEntry.fHere)), .d (.v (.bool v_b472.fEntry.fSlot)), .d (.v (.int .i64 v_b472.fEntry.fAt)), .d (.v (.int .i64 v_b472.fEntry.fRights)), .d (.v (.bool v_b472.fEntry.fUsed)), .d (.v (.bool v_b472.fEntry.fDirty)), .d (.v (.bool v_b472.fEntry.fCopy)), .d (.v (.int .i64 v_b472.fMany)), .d (.v (.int .i64 v_b472.fWant))]]⟩
def G_ringlaw2_FaultTells_L4_hd (v_t2 : Int) (v_r306 : ((List Int) × S_fault_Case × Int)) (v_t463 : Int) (v_w464 : (List Int)) (v_b465 : S_fault_Case) : PS := ⟨[dd, .d (.v (.int .i64 v_t2)), dd, dd, dd, dd, dd, dd, dd, .d (.sl (v_r306.1.map (eI .i64))), .ref 0 0, .d (.v (.int .i64 v_r306.2.2)), dd, dd, .srf 1, .ref 2 0, dd, dd, dd, dd, dd, dd, dd, dd, dd, dd, dd, dd, dd, dd, dd, dd, dd, dd, dd, dd, dd, dd, dd, dd, dd, dd, dd, dd, dd, dd, dd, dd, dd, dd, dd, dd, dd, dd, dd, dd, dd, dd, dd, dd, dd, dd, dd, dd, dd, dd, dd, dd, dd, dd, dd, dd, dd, dd, dd, dd, dd, dd, dd, dd, dd, dd, dd, dd, dd, dd, dd, dd, dd, dd, dd, dd, dd, dd, dd, dd, dd, dd, dd, dd, dd, dd, dd, dd, dd, dd, dd, dd, dd, dd, dd, dd, dd, dd, dd, dd, dd, dd, dd, dd, dd, dd, dd, dd, dd, dd, dd, dd, .d (.v (.int .i64 v_t463)), dd, dd, dd, dd, dd, dd, dd, dd, dd, dd, dd, dd, dd, dd, dd, dd, dd, dd, dd, dd, dd, dd, dd, dd, dd, dd, dd, dd, dd], [.box [.d (.v (.int .i64 v_r306.2.1.fArea)), .d (.v (.bool v_r306.2.1.fEntry.fHere)), .d (.v (.bool v_r306.2.1.fEntry.fSlot)), .d (.v (.int .i64 v_r306.2.1.fEntry.fAt)), .d (.v (.int .i64 v_r306.2.1.fEntry.fRights)), .d (.v (.bool v_r306.2.1.fEntry.fUsed)), .d (.v (.bool v_r306.2.1.fEntry.fDirty)), .d (.v (.bool v_r306.2.1.fEntry.fCopy)), .d (.v (.int .i64 v_r306.2.1.fMany)), .d (.v (.int .i64 v_r306.2.1.fWant))], .row 3 1 (v_w464.map (eI .i64)), .box [.d (.v (.int .i64 v_b465.fArea)), .d (.v (.bool v_b465.fEntry.fHere)), .d (.v (.bool v_b465.fEntry.fSlot)), .d (.v (.int .i64 v_b465.fEntry.fAt)), .d (.v (.int .i64 v_b465.fEntry.fRights)), .d (.v (.bool v_b465.fEntry.fUsed)), .d (.v (.bool v_b465.fEntry.fDirty)), .d (.v (.bool v_b465.fEntry.fCopy)), .d (.v (.int .i64 v_b465.fMany)), .d (.v (.int .i64 v_b465.fWant))]]⟩
def G_ringlaw2_FaultTells_L4 (n : Nat) (v_t2 : Int) (v_r306 : ((List Int) × S_fault_Case × Int)) : Nat → Int → (List Int) → S_fault_Case → Option G_ringlaw2_FaultTells_L4_R
  | 0, _, _, _ => none
  | k + 1, v_t463, v_w464, v_b465 =>
    if v_t463 < 6 then
     (G_ringref2_FaultDo n v_b465).bind fun (v_r469 : (Int)) =>
     (app 8 v_w464 ([v_r469])).bind fun (v_a470 : (List Int)) =>
     if v_r469 = 0 then
      some (.x0 v_a470 v_b465)
     else
      if v_r469 = 1 then
       some (.x0 v_a470 v_b465)
      else
       (G_ringref2_FaultAfter n v_b465 v_t2).bind fun (v_r475 : (S_fault_Case)) =>
       G_ringlaw2_FaultTells_L4 n v_t2 v_r306 k (wi .i64 (v_t463 + 1)) v_a470 v_r475
    else
     some (.x0 v_w464 v_b465)
theorem G_ringlaw2_FaultTells_L4_ok {Fi : Ex → PS → Prop} (hF : KC 158 Fi) (ks : List Fr) (n : Nat) (v_t2 : Int) (v_r306 : ((List Int) × S_fault_Case × Int))  : ∀ (k : Nat) (v_t463 : Int) (v_w464 : (List Int)) (v_b465 : S_fault_Case) (o : G_ringlaw2_FaultTells_L4_R), G_ringlaw2_FaultTells_L4 n v_t2 v_r306 k v_t463 v_w464 v_b465 = some o → RunE Try.prog 158 Fi ks (G_ringlaw2_FaultTells_L4_ex o) (G_ringlaw2_FaultTells_L4_st v_t2 v_r306 o) → RunE Try.prog 158 Fi (.l k (cP (cB (cR (cL (cR (cR (cR (cR (cR (cR (cR (cR (cR (cR (cR (cR (cR (bodyOf Try.f8)))))))))))))))))) :: ks) .normal (G_ringlaw2_FaultTells_L4_hd v_t2 v_r306 v_t463 v_w464 v_b465)
  | 0, v_t463, v_w464, v_b465, o, h, q => by rw [G_ringlaw2_FaultTells_L4] at h; cases h
  | k + 1, v_t463, v_w464, v_b465, o, h, q => by
    rw [G_ringlaw2_FaultTells_L4] at h
    by_cases h714 : v_t463 < 6
    · rw [if_pos h714] at h
      obtain ⟨v_r469, h720, h⟩ := bind_some h
      obtain ⟨v_a470, h721, h⟩ := bind_some h
      by_cases h722 : v_r469 = 0
      · rw [if_pos h722] at h
        cases h
        exact pkk_sound TTok mix hF 21 (hs := [.t true, .c, .r ((eI .i64) v_r469), .w ([v_r469].map (eI .i64)), .w (v_a470.map (eI .i64)), .t true, .c, .c]) (ts := []) (s := [0, 10, 2]) (l := [9, 10, 11, 14, 15]) (by kernel_rfl) (by kernel_rfl) (.cons (dt h714) (.cons (G_ringref2_FaultDo_ok n v_b465 _ h720) (.cons (Eq.refl ([v_r469].map (eI .i64))) (.cons (app_ob (f := (eI .i64)) (s := 1) h721 (fun _ => rfl)).1 (.cons (app_ob (f := (eI .i64)) (s := 1) h721 (fun _ => rfl)).2.1 (.cons (app_ob (f := (eI .i64)) (s := 1) h721 (fun _ => rfl)).2.2.1 (.cons (app_ob (f := (eI .i64)) (s := 1) h721 (fun _ => rfl)).2.2.2 (.cons (bt h722) .nil)))))))) q
      · rw [if_neg h722] at h
        by_cases h723 : v_r469 = 1
        · rw [if_pos h723] at h
          cases h
          exact pkk_sound TTok mix hF 21 (hs := [.t true, .c, .r ((eI .i64) v_r469), .w ([v_r469].map (eI .i64)), .w (v_a470.map (eI .i64)), .t false, .c, .t true]) (ts := []) (s := [0, 10, 2]) (l := [9, 10, 11, 14, 15]) (by kernel_rfl) (by kernel_rfl) (.cons (dt h714) (.cons (G_ringref2_FaultDo_ok n v_b465 _ h720) (.cons (Eq.refl ([v_r469].map (eI .i64))) (.cons (app_ob (f := (eI .i64)) (s := 1) h721 (fun _ => rfl)).1 (.cons (app_ob (f := (eI .i64)) (s := 1) h721 (fun _ => rfl)).2.1 (.cons (app_ob (f := (eI .i64)) (s := 1) h721 (fun _ => rfl)).2.2.1 (.cons (app_ob (f := (eI .i64)) (s := 1) h721 (fun _ => rfl)).2.2.2 (.cons (bf h722) (.cons (bt h723) .nil))))))))) q
        · rw [if_neg h723] at h
          obtain ⟨v_r475, h724, h⟩ := bind_some h
          exact pkk_sound TTok mix hF 20 (hs := [.t true, .c, .r ((eI .i64) v_r469), .w ([v_r469].map (eI .i64)), .w (v_a470.map (eI .i64)), .t false, .c, .t false, .c, .r (eS_fault_Case v_r475), .c]) (ts := []) (s := [0, 10, 2]) (l := [1, 9, 10, 11, 14, 15, 128]) (by kernel_rfl) (by kernel_rfl) (.cons (dt h714) (.cons (G_ringref2_FaultDo_ok n v_b465 _ h720) (.cons (Eq.refl ([v_r469].map (eI .i64))) (.cons (app_ob (f := (eI .i64)) (s := 1) h721 (fun _ => rfl)).1 (.cons (app_ob (f := (eI .i64)) (s := 1) h721 (fun _ => rfl)).2.1 (.cons (app_ob (f := (eI .i64)) (s := 1) h721 (fun _ => rfl)).2.2.1 (.cons (app_ob (f := (eI .i64)) (s := 1) h721 (fun _ => rfl)).2.2.2 (.cons (bf h722) (.cons (bf h723) (.cons (G_ringref2_FaultAfter_ok n v_b465 v_t2 _ h724) (.cons (show 0 + 10 ≤ 10 by decide) .nil))))))))))) (G_ringlaw2_FaultTells_L4_ok hF ks n v_t2 v_r306 k (wi .i64 (v_t463 + 1)) v_a470 v_r475 _ h q)
    · rw [if_neg h714] at h
      cases h
      exact pkk_sound TTok mix hF 8 (hs := [.t false]) (ts := []) (s := [0, 1, 2]) (l := [9, 10, 11, 14, 15]) (by kernel_rfl) (by kernel_rfl) (.cons (df h714) .nil) q
inductive G_ringlaw2_FaultTells_C5_R where
  | x0 (v_t493 : Bool)
def G_ringlaw2_FaultTells_C5_ex : G_ringlaw2_FaultTells_C5_R → Ex
  | .x0 _ => .normal
def G_ringlaw2_FaultTells_C5_st (v_r306 : ((List Int) × S_fault_Case × Int)) (v_z479 : (List Int)) (v_z480 : S_fault_Case) : G_ringlaw2_FaultTells_C5_R → PS
  | .x0 v_t493 => ⟨[dd, dd, dd, dd, .d (.v (.bool v_t493)), dd, dd, dd, dd, dd, dd, dd, dd, dd, dd, dd, dd, dd, dd, dd, dd, dd, dd, dd, dd, dd, dd, dd, dd, dd, dd, dd, dd, dd, dd, dd, dd, dd, dd, dd, dd, dd, dd, dd, dd, dd, dd, dd, dd, dd, dd, dd, dd, dd, dd, dd, dd, dd, dd, dd, dd, dd, dd, dd, dd, dd, dd, dd, dd, dd, dd, dd, dd, dd, dd, dd, dd, dd, dd, dd, dd, dd, dd, dd, dd, dd, dd, dd, dd, dd, dd, dd, dd, dd, dd, dd, dd, dd, dd, dd, dd, dd, dd, dd, dd, dd, dd, dd, dd, dd, dd, dd, dd, dd, dd, dd, dd, dd, dd, dd, dd, dd, dd, dd, dd, dd, dd, dd, dd, dd, dd, dd, dd, dd, dd, dd, dd, dd, dd, dd, dd, dd, dd, dd, dd, dd, dd, dd, dd, dd, dd, dd, dd, dd, dd, dd, dd, dd], []⟩
def G_ringlaw2_FaultTells_C5_hd (v_r306 : ((List Int) × S_fault_Case × Int)) (v_z479 : (List Int)) (v_z480 : S_fault_Case)  : PS := ⟨[dd, dd, dd, dd, dd, dd, dd, dd, dd, .d (.sl (v_r306.1.map (eI .i64))), .ref 0 0, .d (.v (.int .i64 v_r306.2.2)), dd, dd, .srf 1, .ref 2 0, dd, dd, dd, dd, dd, dd, dd, dd, dd, dd, dd, dd, dd, dd, dd, dd, dd, dd, dd, dd, dd, dd, dd, dd, dd, dd, dd, dd, dd, dd, dd, dd, dd, dd, dd, dd, dd, dd, dd, dd, dd, dd, dd, dd, dd, dd, dd, dd, dd, dd, dd, dd, dd, dd, dd, dd, dd, dd, dd, dd, dd, dd, dd, dd, dd, dd, dd, dd, dd, dd, dd, dd, dd, dd, dd, dd, dd, dd, dd, dd, dd, dd, dd, dd, dd, dd, dd, dd, dd, dd, dd, dd, dd, dd, dd, dd, dd, dd, dd, dd, dd, dd, dd, dd, dd, dd, dd, dd, dd, dd, dd, dd, dd, dd, dd, dd, dd, dd, dd, dd, dd, dd, dd, dd, dd, dd, dd, dd, dd, dd, dd, dd, dd, dd, dd, dd, dd, dd, dd, dd, dd, dd], [.box [.d (.v (.int .i64 v_r306.2.1.fArea)), .d (.v (.bool v_r306.2.1.fEntry.fHere)), .d (.v (.bool v_r306.2.1.fEntry.fSlot)), .d (.v (.int .i64 v_r306.2.1.fEntry.fAt)), .d (.v (.int .i64 v_r306.2.1.fEntry.fRights)), .d (.v (.bool v_r306.2.1.fEntry.fUsed)), .d (.v (.bool v_r306.2.1.fEntry.fDirty)), .d (.v (.bool v_r306.2.1.fEntry.fCopy)), .d (.v (.int .i64 v_r306.2.1.fMany)), .d (.v (.int .i64 v_r306.2.1.fWant))], .row 3 1 (v_z479.map (eI .i64)), .box [.d (.v (.int .i64 v_z480.fArea)), .d (.v (.bool v_z480.fEntry.fHere)), .d (.v (.bool v_z480.fEntry.fSlot)), .d (.v (.int .i64 v_z480.fEntry.fAt)), .d (.v (.int .i64 v_z480.fEntry.fRights)), .d (.v (.bool v_z480.fEntry.fUsed)), .d (.v (.bool v_z480.fEntry.fDirty)), .d (.v (.bool v_z480.fEntry.fCopy)), .d (.v (.int .i64 v_z480.fMany)), .d (.v (.int .i64 v_z480.fWant))]]⟩
def G_ringlaw2_FaultTells_C5 (n : Nat) (v_r306 : ((List Int) × S_fault_Case × Int)) (v_z479 : (List Int)) (v_z480 : S_fault_Case) : Option G_ringlaw2_FaultTells_C5_R :=
  (G_slices_Equal_int_int n v_r306.1 v_z479).bind fun (v_r492 : (Bool)) =>
  if v_r492 = true then
   if (eqRes .eql (eqS_fault_Case v_r306.2.1 v_z480)) = true then
    some (.x0 (v_r306.2.2 == 0))
   else
    some (.x0 false)
  else
   some (.x0 false)
theorem G_ringlaw2_FaultTells_C5_ok {Fi : Ex → PS → Prop} (hF : KC 158 Fi) (ks : List Fr) (n : Nat) (v_r306 : ((List Int) × S_fault_Case × Int)) (v_z479 : (List Int)) (v_z480 : S_fault_Case)  (o : G_ringlaw2_FaultTells_C5_R) (h : G_ringlaw2_FaultTells_C5 n v_r306 v_z479 v_z480 = some o) (q : RunE Try.prog 158 Fi ks (G_ringlaw2_FaultTells_C5_ex o) (G_ringlaw2_FaultTells_C5_st v_r306 v_z479 v_z480 o)) : RunE Try.prog 158 Fi (.s (cL (cR (cR (cR (cR (cR (cR (cR (cR (cR (cR (cR (cR (cR (cR (bodyOf Try.f8)))))))))))))))) :: ks) .normal (G_ringlaw2_FaultTells_C5_hd v_r306 v_z479 v_z480) := by
  unfold G_ringlaw2_FaultTells_C5 at h
  obtain ⟨v_r492, h738, h⟩ := bind_some h
  by_cases h739 : v_r492 = true
  · rw [if_pos h739] at h
    by_cases h740 : (eqRes .eql (eqS_fault_Case v_r306.2.1 v_z480)) = true
    · rw [if_pos h740] at h
      cases h
      exact pkk_sound TTok mix hF 1 (hs := [.c, .r (eB v_r492), .t true, .c, .c, .c, .c, .q (eqS_fault_Case v_r306.2.1 v_z480), .t true, .c]) (ts := []) (s := []) (l := [4]) (by kernel_rfl) (by kernel_rfl) (.cons (G_slices_Equal_int_int_ok n v_r306.1 v_z479 _ h738) (.cons h739 (.cons (eqS_fault_Case_ok v_r306.2.1 v_z480) (.cons h740 .nil)))) q
    · rw [if_neg h740] at h
      cases h
      exact pkk_sound TTok mix hF 1 (hs := [.c, .r (eB v_r492), .t true, .c, .c, .c, .c, .q (eqS_fault_Case v_r306.2.1 v_z480), .t false, .c]) (ts := []) (s := []) (l := [4]) (by kernel_rfl) (by kernel_rfl) (.cons (G_slices_Equal_int_int_ok n v_r306.1 v_z479 _ h738) (.cons h739 (.cons (eqS_fault_Case_ok v_r306.2.1 v_z480) (.cons (vf h740) .nil)))) q
  · rw [if_neg h739] at h
    cases h
    exact pkk_sound TTok mix hF 1 (hs := [.c, .r (eB v_r492), .t false, .c, .c, .c, .c]) (ts := []) (s := []) (l := [4]) (by kernel_rfl) (by kernel_rfl) (.cons (G_slices_Equal_int_int_ok n v_r306.1 v_z479 _ h738) (.cons (vf h739) .nil)) q
/- ringhall/ringlaw2.FaultTells -/
def G_ringlaw2_FaultTells (n : Nat) (v_t1 : S_fault_Case) (v_t2 : Int) : Option (Bool) :=
  (G_fault_Do n v_t1).bind fun (v_r266 : (Int × Int)) =>
  (G_fault_After n v_t1 v_t2).bind fun (v_r273 : (S_fault_Case × Int)) =>
  (G_fault_Steps n v_t1 v_t2).bind fun (v_r306 : ((List Int) × S_fault_Case × Int)) =>
  (G_ringref2_Faults n v_t1).bind fun (v_r361 : (Int)) =>
  (G_fault_Check n v_t1).bind fun (v_r362 : (Int)) =>
  if v_r362 = v_r361 then
   if v_r361 = 0 then
    (G_ringref2_FaultDo n v_t1).bind fun (v_r422 : (Int)) =>
    if v_r266.1 = v_r422 then
     if v_r266.2 = 0 then
      (G_ringref2_In n v_t2 0 63).bind fun (v_r423 : (Bool)) =>
      if v_r423 = true then
       (G_ringref2_FaultDo n v_t1).bind fun (v_r438 : (Int)) =>
       (G_ringlaw2_FaultTells_C3 n v_t2 v_r273 v_r306 v_r438 v_t1).bind fun v_o451 => match v_o451 with
       | .x0 v_z452 =>
         some v_z452
       | .x1  =>
         (G_ringlaw2_FaultTells_L4 n v_t2 v_r306 n 0 ([] : List Int) v_t1).bind fun v_o478 => match v_o478 with
         | .x0 v_z479 v_z480 =>
           (G_ringlaw2_FaultTells_C5 n v_r306 v_z479 v_z480).bind fun v_o496 => match v_o496 with
           | .x0 v_z497 =>
             some v_z497
      else
       (G_ringlaw2_FaultTells_C2 n v_r273 v_r306).bind fun v_o436 => match v_o436 with
       | .x0 v_z437 =>
         some v_z437
     else
      some false
    else
     some false
   else
    (G_ringlaw2_FaultTells_C1 n v_r266 v_r273 v_r306 v_r361).bind fun v_o379 => match v_o379 with
    | .x0 v_z380 =>
      some v_z380
  else
   some false
theorem G_ringlaw2_FaultTells_ok (n : Nat) (v_t1 : S_fault_Case) (v_t2 : Int) (r : Bool) (h : G_ringlaw2_FaultTells n v_t1 v_t2 = some r) : Ret Try.prog 8 [eS_fault_Case v_t1, (eI .i64) v_t2] (eB r) := by
  refine ret_run (n := 158) (fn := Try.f8) (c := bodyOf Try.f8) (by kernel_rfl) (by kernel_rfl) (by kernel_rfl) (by kernel_rfl) ?_
  have hF : KC 158 (FinR Try.prog Try.f8 (eB r)) := FinR.kc' (by kernel_rfl)
  unfold G_ringlaw2_FaultTells at h
  obtain ⟨v_r266, h410, h⟩ := bind_some h
  obtain ⟨v_r273, h457, h⟩ := bind_some h
  obtain ⟨v_r306, h489, h⟩ := bind_some h
  obtain ⟨v_r361, h557, h⟩ := bind_some h
  obtain ⟨v_r362, h558, h⟩ := bind_some h
  by_cases h559 : v_r362 = v_r361
  · rw [if_pos h559] at h
    by_cases h574 : v_r361 = 0
    · rw [if_pos h574] at h
      obtain ⟨v_r422, h641, h⟩ := bind_some h
      by_cases h642 : v_r266.1 = v_r422
      · rw [if_pos h642] at h
        by_cases h643 : v_r266.2 = 0
        · rw [if_pos h643] at h
          obtain ⟨v_r423, h644, h⟩ := bind_some h
          by_cases h655 : v_r423 = true
          · rw [if_pos h655] at h
            obtain ⟨v_r438, h665, h⟩ := bind_some h
            obtain ⟨v_o451, h702, h⟩ := bind_some h
            refine pkk_sound TTok mix hF 35 (hs := [.c, .r (.tup [(eI .i64) v_r266.1, (eI .i64) v_r266.2]), .c, .r (.tup [eS_fault_Case v_r273.1, (eI .i64) v_r273.2]), .c, .c, .r (.tup [(eL (eI .i64)) v_r306.1, eS_fault_Case v_r306.2.1, (eI .i64) v_r306.2.2]), .c, .c, .c, .r ((eI .i64) v_r361), .c, .r ((eI .i64) v_r362), .t false, .t false, .c, .r ((eI .i64) v_r422), .t false, .c, .t false, .r (eB v_r423), .t false, .c, .r ((eI .i64) v_r438)]) (ts := []) (s := [0, 15, 25, 30]) (l := [1, 2, 7, 8, 9, 10, 11, 12, 110]) (by kernel_rfl) (by kernel_rfl) (.cons (G_fault_Do_ok n v_t1 _ h410) (.cons (G_fault_After_ok n v_t1 v_t2 _ h457) (.cons (show 0 + 10 ≤ 10 by decide) (.cons (G_fault_Steps_ok n v_t1 v_t2 _ h489) (.cons (show 0 + 10 ≤ 10 by decide) (.cons (show 0 + 10 ≤ 10 by decide) (.cons (G_ringref2_Faults_ok n v_t1 _ h557) (.cons (G_fault_Check_ok n v_t1 _ h558) (.cons (nf h559) (.cons (nf h574) (.cons (G_ringref2_FaultDo_ok n v_t1 _ h641) (.cons (nf h642) (.cons (nf h643) (.cons (G_ringref2_In_ok n v_t2 0 63 _ h644) (.cons (bnf h655) (.cons (G_ringref2_FaultDo_ok n v_t1 _ h665) .nil)))))))))))))))) (G_ringlaw2_FaultTells_C3_ok hF (.s (cR (cR (cR (cR (cR (cR (cR (cR (cR (cR (cR (bodyOf Try.f8)))))))))))) :: []) n v_t2 v_r273 v_r306 v_r438 v_t1 _ h702 ?_)
            cases v_o451 with
            | x0 v_z452 =>
              dsimp only at h
              obtain rfl := Option.some.inj h
              exact pend_sound TTok mix 1 (hs := []) (by kernel_rfl) (by kernel_rfl) (by kernel_rfl) .nil
            | x1  =>
              dsimp only at h
              obtain ⟨v_o478, h725, h⟩ := bind_some h
              refine pkk_sound TTok mix hF 9 (hs := [.c, .c, .n n]) (ts := [(14, 3, 1)]) (s := [1, 7, 4]) (l := [1, 9, 10, 11, 14, 15, 128]) (by kernel_rfl) (by kernel_rfl) (.cons (show 0 + 10 ≤ 10 by decide) .nil) (G_ringlaw2_FaultTells_L4_ok hF (.b 0 :: .s (cR (cR (cR (cR (cR (cR (cR (cR (cR (cR (cR (cR (cR (cR (bodyOf Try.f8))))))))))))))) :: []) n v_t2 v_r306 n 0 ([] : List Int) v_t1 _ h725 ?_)
              cases v_o478 with
              | x0 v_z479 v_z480 =>
                dsimp only at h
                obtain ⟨v_o496, h741, h⟩ := bind_some h
                refine pkk_sound TTok mix hF 2 (hs := []) (ts := []) (s := [0, 1, 2]) (l := [9, 10, 11, 14, 15]) (by kernel_rfl) (by kernel_rfl) .nil (G_ringlaw2_FaultTells_C5_ok hF (.s (cR (cR (cR (cR (cR (cR (cR (cR (cR (cR (cR (cR (cR (cR (cR (bodyOf Try.f8)))))))))))))))) :: []) n v_r306 v_z479 v_z480 _ h741 ?_)
                cases v_o496 with
                | x0 v_z497 =>
                  dsimp only at h
                  obtain rfl := Option.some.inj h
                  exact pend_sound TTok mix 1 (hs := []) (by kernel_rfl) (by kernel_rfl) (by kernel_rfl) .nil
          · rw [if_neg h655] at h
            obtain ⟨v_o436, h664, h⟩ := bind_some h
            refine pkk_sound TTok mix hF 32 (hs := [.c, .r (.tup [(eI .i64) v_r266.1, (eI .i64) v_r266.2]), .c, .r (.tup [eS_fault_Case v_r273.1, (eI .i64) v_r273.2]), .c, .c, .r (.tup [(eL (eI .i64)) v_r306.1, eS_fault_Case v_r306.2.1, (eI .i64) v_r306.2.2]), .c, .c, .c, .r ((eI .i64) v_r361), .c, .r ((eI .i64) v_r362), .t false, .t false, .c, .r ((eI .i64) v_r422), .t false, .c, .t false, .r (eB v_r423), .t true]) (ts := []) (s := [15, 25, 30]) (l := [7, 8, 9, 10, 11, 12]) (by kernel_rfl) (by kernel_rfl) (.cons (G_fault_Do_ok n v_t1 _ h410) (.cons (G_fault_After_ok n v_t1 v_t2 _ h457) (.cons (show 0 + 10 ≤ 10 by decide) (.cons (G_fault_Steps_ok n v_t1 v_t2 _ h489) (.cons (show 0 + 10 ≤ 10 by decide) (.cons (show 0 + 10 ≤ 10 by decide) (.cons (G_ringref2_Faults_ok n v_t1 _ h557) (.cons (G_fault_Check_ok n v_t1 _ h558) (.cons (nf h559) (.cons (nf h574) (.cons (G_ringref2_FaultDo_ok n v_t1 _ h641) (.cons (nf h642) (.cons (nf h643) (.cons (G_ringref2_In_ok n v_t2 0 63 _ h644) (.cons (bnt (vf h655)) .nil))))))))))))))) (G_ringlaw2_FaultTells_C2_ok hF (.s (cR (cT (cR (cL (cR (cR (cR (cR (cR (cR (cR (cR (cR (bodyOf Try.f8)))))))))))))) :: .s (cR (cR (cR (cR (cR (cR (cR (cR (cR (cR (bodyOf Try.f8))))))))))) :: []) n v_r273 v_r306 _ h664 ?_)
            cases v_o436 with
            | x0 v_z437 =>
              dsimp only at h
              obtain rfl := Option.some.inj h
              exact pend_sound TTok mix 2 (hs := []) (by kernel_rfl) (by kernel_rfl) (by kernel_rfl) .nil
        · rw [if_neg h643] at h
          obtain rfl := Option.some.inj h
          exact pend_sound TTok mix 30 (hs := [.c, .r (.tup [(eI .i64) v_r266.1, (eI .i64) v_r266.2]), .c, .r (.tup [eS_fault_Case v_r273.1, (eI .i64) v_r273.2]), .c, .c, .r (.tup [(eL (eI .i64)) v_r306.1, eS_fault_Case v_r306.2.1, (eI .i64) v_r306.2.2]), .c, .c, .c, .r ((eI .i64) v_r361), .c, .r ((eI .i64) v_r362), .t false, .t false, .c, .r ((eI .i64) v_r422), .t false, .c, .t true]) (by kernel_rfl) (by kernel_rfl) (by kernel_rfl) (.cons (G_fault_Do_ok n v_t1 _ h410) (.cons (G_fault_After_ok n v_t1 v_t2 _ h457) (.cons (show 0 + 10 ≤ 10 by decide) (.cons (G_fault_Steps_ok n v_t1 v_t2 _ h489) (.cons (show 0 + 10 ≤ 10 by decide) (.cons (show 0 + 10 ≤ 10 by decide) (.cons (G_ringref2_Faults_ok n v_t1 _ h557) (.cons (G_fault_Check_ok n v_t1 _ h558) (.cons (nf h559) (.cons (nf h574) (.cons (G_ringref2_FaultDo_ok n v_t1 _ h641) (.cons (nf h642) (.cons (nt h643) .nil)))))))))))))
      · rw [if_neg h642] at h
        obtain rfl := Option.some.inj h
        exact pend_sound TTok mix 30 (hs := [.c, .r (.tup [(eI .i64) v_r266.1, (eI .i64) v_r266.2]), .c, .r (.tup [eS_fault_Case v_r273.1, (eI .i64) v_r273.2]), .c, .c, .r (.tup [(eL (eI .i64)) v_r306.1, eS_fault_Case v_r306.2.1, (eI .i64) v_r306.2.2]), .c, .c, .c, .r ((eI .i64) v_r361), .c, .r ((eI .i64) v_r362), .t false, .t false, .c, .r ((eI .i64) v_r422), .t true, .c, .c]) (by kernel_rfl) (by kernel_rfl) (by kernel_rfl) (.cons (G_fault_Do_ok n v_t1 _ h410) (.cons (G_fault_After_ok n v_t1 v_t2 _ h457) (.cons (show 0 + 10 ≤ 10 by decide) (.cons (G_fault_Steps_ok n v_t1 v_t2 _ h489) (.cons (show 0 + 10 ≤ 10 by decide) (.cons (show 0 + 10 ≤ 10 by decide) (.cons (G_ringref2_Faults_ok n v_t1 _ h557) (.cons (G_fault_Check_ok n v_t1 _ h558) (.cons (nf h559) (.cons (nf h574) (.cons (G_ringref2_FaultDo_ok n v_t1 _ h641) (.cons (nt h642) .nil))))))))))))
    · rw [if_neg h574] at h
      obtain ⟨v_o379, h587, h⟩ := bind_some h
      refine pkk_sound TTok mix hF 22 (hs := [.c, .r (.tup [(eI .i64) v_r266.1, (eI .i64) v_r266.2]), .c, .r (.tup [eS_fault_Case v_r273.1, (eI .i64) v_r273.2]), .c, .c, .r (.tup [(eL (eI .i64)) v_r306.1, eS_fault_Case v_r306.2.1, (eI .i64) v_r306.2.2]), .c, .c, .c, .r ((eI .i64) v_r361), .c, .r ((eI .i64) v_r362), .t false, .t true]) (ts := []) (s := [15, 25, 30]) (l := [5, 6, 7, 8, 9, 10, 11, 12, 13]) (by kernel_rfl) (by kernel_rfl) (.cons (G_fault_Do_ok n v_t1 _ h410) (.cons (G_fault_After_ok n v_t1 v_t2 _ h457) (.cons (show 0 + 10 ≤ 10 by decide) (.cons (G_fault_Steps_ok n v_t1 v_t2 _ h489) (.cons (show 0 + 10 ≤ 10 by decide) (.cons (show 0 + 10 ≤ 10 by decide) (.cons (G_ringref2_Faults_ok n v_t1 _ h557) (.cons (G_fault_Check_ok n v_t1 _ h558) (.cons (nf h559) (.cons (nt h574) .nil)))))))))) (G_ringlaw2_FaultTells_C1_ok hF (.s (cR (cT (cR (cL (cR (cR (cR (cR (cR (cR (cR (bodyOf Try.f8)))))))))))) :: .s (cR (cR (cR (cR (cR (cR (cR (cR (bodyOf Try.f8))))))))) :: []) n v_r266 v_r273 v_r306 v_r361 _ h587 ?_)
      cases v_o379 with
      | x0 v_z380 =>
        dsimp only at h
        obtain rfl := Option.some.inj h
        exact pend_sound TTok mix 2 (hs := []) (by kernel_rfl) (by kernel_rfl) (by kernel_rfl) .nil
  · rw [if_neg h559] at h
    obtain rfl := Option.some.inj h
    exact pend_sound TTok mix 20 (hs := [.c, .r (.tup [(eI .i64) v_r266.1, (eI .i64) v_r266.2]), .c, .r (.tup [eS_fault_Case v_r273.1, (eI .i64) v_r273.2]), .c, .c, .r (.tup [(eL (eI .i64)) v_r306.1, eS_fault_Case v_r306.2.1, (eI .i64) v_r306.2.2]), .c, .c, .c, .r ((eI .i64) v_r361), .c, .r ((eI .i64) v_r362), .t true]) (by kernel_rfl) (by kernel_rfl) (by kernel_rfl) (.cons (G_fault_Do_ok n v_t1 _ h410) (.cons (G_fault_After_ok n v_t1 v_t2 _ h457) (.cons (show 0 + 10 ≤ 10 by decide) (.cons (G_fault_Steps_ok n v_t1 v_t2 _ h489) (.cons (show 0 + 10 ≤ 10 by decide) (.cons (show 0 + 10 ≤ 10 by decide) (.cons (G_ringref2_Faults_ok n v_t1 _ h557) (.cons (G_fault_Check_ok n v_t1 _ h558) (.cons (nt h559) .nil)))))))))
def okS_entry_Entry (x : S_entry_Entry) : Prop := (fun _ => True) x.fHere ∧ (fun _ => True) x.fSlot ∧ (fun a => (Lit.int .i64 a).wf = true) x.fAt ∧ (fun a => (Lit.int .i64 a).wf = true) x.fRights ∧ (fun _ => True) x.fUsed ∧ (fun _ => True) x.fDirty ∧ (fun _ => True) x.fCopy ∧ True
theorem brS_entry_Entry : Br (.pair .bool (.pair .bool (.pair (.int .i64) (.pair (.int .i64) (.pair .bool (.pair .bool (.pair .bool .unit))))))) (fun x : S_entry_Entry => [.v (.bool x.fHere), .v (.bool x.fSlot), .v (.int .i64 x.fAt), .v (.int .i64 x.fRights), .v (.bool x.fUsed), .v (.bool x.fDirty), .v (.bool x.fCopy)]) okS_entry_Entry := br_map (br_pair br_bool (br_pair br_bool (br_pair (br_int .i64) (br_pair (br_int .i64) (br_pair br_bool (br_pair br_bool (br_pair br_bool br_unit))))))) (fun p => S_entry_Entry.mk p.1 p.2.1 p.2.2.1 p.2.2.2.1 p.2.2.2.2.1 p.2.2.2.2.2.1 p.2.2.2.2.2.2.1) (fun p h => ⟨rfl, h⟩)
def okS_fault_Case (x : S_fault_Case) : Prop := (fun a => (Lit.int .i64 a).wf = true) x.fArea ∧ okS_entry_Entry x.fEntry ∧ (fun a => (Lit.int .i64 a).wf = true) x.fMany ∧ (fun a => (Lit.int .i64 a).wf = true) x.fWant ∧ True
theorem brS_fault_Case : Br (.pair (.int .i64) (.pair (.pair .bool (.pair .bool (.pair (.int .i64) (.pair (.int .i64) (.pair .bool (.pair .bool (.pair .bool .unit))))))) (.pair (.int .i64) (.pair (.int .i64) .unit)))) (fun x : S_fault_Case => [.v (.int .i64 x.fArea), .v (.bool x.fEntry.fHere), .v (.bool x.fEntry.fSlot), .v (.int .i64 x.fEntry.fAt), .v (.int .i64 x.fEntry.fRights), .v (.bool x.fEntry.fUsed), .v (.bool x.fEntry.fDirty), .v (.bool x.fEntry.fCopy), .v (.int .i64 x.fMany), .v (.int .i64 x.fWant)]) okS_fault_Case := br_map (br_pair (br_int .i64) (br_pair brS_entry_Entry (br_pair (br_int .i64) (br_pair (br_int .i64) br_unit)))) (fun p => S_fault_Case.mk p.1 p.2.1 p.2.2.1 p.2.2.2.1) (fun p h => ⟨rfl, h⟩)
theorem FaultTells_walk (H : ∀ (a0 : S_fault_Case) (a1 : Int), okS_fault_Case a0 → (fun a => (Lit.int .i64 a).wf = true) a1 → ∃ n, G_ringlaw2_FaultTells n a0 a1 = some true) (w : World) (v0 : Value) (v1 : Value) (h0 : rep.Arg w (.pair (.int .i64) (.pair (.pair .bool (.pair .bool (.pair (.int .i64) (.pair (.int .i64) (.pair .bool (.pair .bool (.pair .bool .unit))))))) (.pair (.int .i64) (.pair (.int .i64) .unit)))) v0) (h1 : rep.Arg w (.int .i64) v1) : Calls Try.prog 8 #[v0, v1] w (help.Ret (.bool true) w) := by
  obtain ⟨a0, o0, r0⟩ := arg_agg brS_fault_Case (by rfl) h0
  obtain ⟨a1, o1, r1⟩ := arg_one (br_int .i64) (by rfl) h1
  obtain ⟨n, hn⟩ := H a0 a1 o0 o1
  exact walk_of (G_ringlaw2_FaultTells_ok n a0 a1 true hn) (RT_cons r0 (RT_cons r1 RT_nil))
/- FRAME FaultTells; ringhall/ringlaw2.FaultTells; (.pair (.int .i64) (.pair (.pair .bool (.pair .bool (.pair (.int .i64) (.pair (.int .i64) (.pair .bool (.pair .bool (.pair .bool .unit))))))) (.pair (.int .i64) (.pair (.int .i64) .unit)))) | (.int .i64); .agg #[.int .i64 0, .bool false, .bool false, .int .i64 0, .int .i64 0, .bool false, .bool false, .bool false, .int .i64 0, .int .i64 0] | .int .i64 0 -/
end Go.Proofs.YtccmjndnjpjohaaR.pv
