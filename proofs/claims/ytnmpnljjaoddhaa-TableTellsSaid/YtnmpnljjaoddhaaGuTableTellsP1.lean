/- What the functions compute, as functions over plain data, with their contracts: written by gen.py. -/
import Derived.Test.YtnmpnljjaoddhaaProg
import Derived.Test.YtnmpnljjaoddhaaQr
import Derived.Test.YtnmpnljjaoddhaaSf
set_option maxRecDepth 100000
set_option linter.all false
namespace Go.Proofs.Ytnmpnljjaoddhaa.pv
open Go.RowKit
def TT : List TI := [
⟨1, 0, .oth, []⟩,
⟨1, 8, .oth, [.nf]⟩,
⟨1, 8, .int .i64, [.i .i64]⟩,
⟨1, 8, .int .i64, [.i .i64]⟩,
⟨1, 1, .bool, [.b]⟩,
⟨1, 1, .int .u8, [.i .u8]⟩,
⟨1, 1, .int .u8, [.i .u8]⟩,
⟨4, 24, .st [(0, 2), (1, 3), (2, 4), (3, 6)], [.i .i64, .i .i64, .b, .i .u8]⟩,
⟨4, 24, .st [(0, 2), (1, 3), (2, 4), (3, 6)], [.i .i64, .i .i64, .b, .i .u8]⟩,
⟨1, 16, .str, [.s]⟩,
⟨1, 16, .str, [.s]⟩,
⟨1, 16, .str, [.s]⟩,
⟨1, 8, .int .u64, [.i .u64]⟩,
⟨2, 24, .st [(0, 9), (1, 12)], [.s, .i .u64]⟩,
⟨2, 24, .st [(0, 9), (1, 12)], [.s, .i .u64]⟩,
⟨1, 8, .oth, [.np]⟩,
⟨1, 8, .oth, [.np]⟩,
⟨1, 8, .oth, [.np]⟩,
⟨1, 8, .st [(0, 17)], [.np]⟩,
⟨1, 8, .st [(0, 17)], [.np]⟩,
⟨1, 16, .oth, [.ni]⟩,
⟨1, 4, .int .i32, [.i .i32]⟩,
⟨1, 24, .sl 3, [.sl]⟩,
⟨1, 8, .int .i64, [.i .i64]⟩,
⟨1, 0, .oth, []⟩,
⟨1, 8, .oth, [.nf]⟩,
⟨1, 8, .oth, [.nf]⟩,
⟨1, 8, .oth, [.nf]⟩,
⟨1, 8, .oth, [.nf]⟩,
⟨1, 8, .oth, [.nf]⟩,
⟨6, 48, .st [(0, 3), (1, 3), (2, 3), (3, 3), (4, 3), (5, 3)], [.i .i64, .i .i64, .i .i64, .i .i64, .i .i64, .i .i64]⟩,
⟨6, 48, .st [(0, 3), (1, 3), (2, 3), (3, 3), (4, 3), (5, 3)], [.i .i64, .i .i64, .i .i64, .i .i64, .i .i64, .i .i64]⟩,
⟨6, 64, .st [(0, 3), (1, 3), (2, 22), (3, 3), (4, 3), (5, 3)], [.i .i64, .i .i64, .sl, .i .i64, .i .i64, .i .i64]⟩,
⟨6, 64, .st [(0, 3), (1, 3), (2, 22), (3, 3), (4, 3), (5, 3)], [.i .i64, .i .i64, .sl, .i .i64, .i .i64, .i .i64]⟩,
⟨1, 8, .oth, [.nf]⟩,
⟨1, 0, .oth, []⟩,
⟨1, 8, .oth, [.nf]⟩,
⟨1, 0, .oth, []⟩,
⟨1, 8, .oth, [.nf]⟩,
⟨1, 8, .oth, [.nf]⟩,
⟨1, 8, .oth, [.nf]⟩,
⟨1, 8, .oth, [.nf]⟩,
⟨1, 8, .oth, [.nf]⟩,
⟨1, 8, .oth, [.nf]⟩,
⟨1, 8, .oth, [.nf]⟩,
⟨1, 24, .sl 51, [.sl]⟩,
⟨2, 32, .st [(0, 4), (1, 45)], [.b, .sl]⟩,
⟨2, 32, .st [(0, 4), (1, 45)], [.b, .sl]⟩,
⟨16, 256, .arr 8 47, (List.replicate 8 [.b, .sl]).flatten⟩,
⟨16, 256, .arr 8 47, (List.replicate 8 [.b, .sl]).flatten⟩,
⟨7, 32, .st [(0, 4), (1, 4), (2, 3), (3, 3), (4, 4), (5, 4), (6, 4)], [.b, .b, .i .i64, .i .i64, .b, .b, .b]⟩,
⟨7, 32, .st [(0, 4), (1, 4), (2, 3), (3, 3), (4, 4), (5, 4), (6, 4)], [.b, .b, .i .i64, .i .i64, .b, .b, .b]⟩,
⟨1, 0, .oth, []⟩,
⟨1, 8, .oth, [.nf]⟩,
⟨1, 0, .oth, []⟩,
⟨1, 8, .oth, [.nf]⟩,
⟨1, 8, .oth, [.nf]⟩,
⟨1, 0, .oth, []⟩,
⟨1, 8, .oth, [.nf]⟩,
⟨1, 8, .oth, [.nf]⟩,
⟨448, 2048, .arr 64 51, (List.replicate 64 [.b, .b, .i .i64, .i .i64, .b, .b, .b]).flatten⟩,
⟨448, 2048, .arr 64 51, (List.replicate 64 [.b, .b, .i .i64, .i .i64, .b, .b, .b]).flatten⟩,
⟨1, 8, .oth, [.nf]⟩,
⟨1, 8, .oth, [.nf]⟩,
⟨1, 8, .oth, [.nf]⟩,
⟨1, 8, .oth, [.nf]⟩,
⟨1, 8, .oth, [.nf]⟩,
⟨1, 8, .oth, [.nf]⟩,
⟨1, 8, .oth, [.nf]⟩,
⟨1, 24, .sl 78, [.sl]⟩,
⟨1, 8, .oth, [.nf]⟩,
⟨1, 0, .oth, []⟩,
⟨1, 8, .oth, [.nf]⟩,
⟨1, 8, .oth, [.nf]⟩,
⟨1, 0, .oth, []⟩,
⟨1, 8, .oth, [.nf]⟩,
⟨1, 24, .sl 79, [.sl]⟩,
⟨2, 16, .st [(0, 3), (1, 3)], [.i .i64, .i .i64]⟩,
⟨2, 16, .st [(0, 3), (1, 3)], [.i .i64, .i .i64]⟩,
⟨2, 16, .arr 2 3, [.i .i64, .i .i64]⟩,
⟨1, 8, .oth, [.nf]⟩,
⟨1, 8, .oth, [.nf]⟩,
⟨1, 8, .oth, [.nf]⟩,
⟨1, 8, .oth, [.nf]⟩,
⟨1, 8, .oth, [.nf]⟩,
⟨1, 8, .oth, [.nf]⟩,
⟨1, 8, .oth, [.nf]⟩,
⟨1, 8, .oth, [.nf]⟩,
⟨1, 8, .oth, [.nf]⟩,
⟨1, 8, .oth, [.nf]⟩,
⟨1, 8, .oth, [.nf]⟩,
⟨1, 24, .sl 95, [.sl]⟩,
⟨2, 32, .st [(0, 91), (1, 3)], [.sl, .i .i64]⟩,
⟨2, 32, .st [(0, 91), (1, 3)], [.sl, .i .i64]⟩,
⟨3, 16, .st [(0, 3), (1, 4), (2, 4)], [.i .i64, .b, .b]⟩,
⟨3, 16, .st [(0, 3), (1, 4), (2, 4)], [.i .i64, .b, .b]⟩,
⟨1, 0, .oth, []⟩,
⟨1, 8, .oth, [.nf]⟩,
⟨1, 8, .oth, [.nf]⟩,
⟨1, 0, .oth, []⟩,
⟨1, 8, .oth, [.nf]⟩,
⟨1, 8, .oth, [.nf]⟩,
⟨1, 8, .oth, [.nf]⟩,
⟨1, 8, .oth, [.nf]⟩,
⟨1, 8, .oth, [.nf]⟩,
⟨1, 0, .oth, []⟩,
⟨1, 8, .oth, [.nf]⟩,
⟨1, 8, .oth, [.nf]⟩,
⟨1, 24, .sl 110, [.sl]⟩,
⟨3, 24, .st [(0, 3), (1, 3), (2, 3)], [.i .i64, .i .i64, .i .i64]⟩,
⟨3, 24, .st [(0, 3), (1, 3), (2, 3)], [.i .i64, .i .i64, .i .i64]⟩,
⟨1, 0, .oth, []⟩,
⟨1, 8, .oth, [.nf]⟩,
⟨1, 8, .oth, [.nf]⟩,
⟨1, 0, .oth, []⟩,
⟨1, 8, .oth, [.nf]⟩,
⟨1, 8, .oth, [.nf]⟩,
⟨1, 8, .oth, [.nf]⟩,
⟨64, 512, .arr 64 3, List.replicate 64 (.i .i64)⟩,
⟨64, 512, .arr 64 3, List.replicate 64 (.i .i64)⟩,
⟨1, 8, .oth, [.nf]⟩,
⟨1, 8, .oth, [.nf]⟩,
⟨1, 8, .oth, [.nf]⟩,
⟨1, 8, .oth, [.nf]⟩,
⟨1, 8, .oth, [.nf]⟩,
⟨1, 8, .oth, [.nf]⟩,
⟨1, 8, .oth, [.nf]⟩,
⟨1, 24, .sl 138, [.sl]⟩,
⟨2, 32, .st [(0, 3), (1, 127)], [.i .i64, .sl]⟩,
⟨2, 32, .st [(0, 3), (1, 127)], [.i .i64, .sl]⟩,
⟨1, 0, .oth, []⟩,
⟨1, 8, .oth, [.nf]⟩,
⟨1, 0, .oth, []⟩,
⟨1, 8, .oth, [.nf]⟩,
⟨1, 8, .oth, [.nf]⟩,
⟨1, 8, .oth, [.nf]⟩,
⟨1, 8, .oth, [.nf]⟩,
⟨2, 16, .st [(0, 3), (1, 3)], [.i .i64, .i .i64]⟩,
⟨2, 16, .st [(0, 3), (1, 3)], [.i .i64, .i .i64]⟩,
⟨1, 8, .oth, [.nf]⟩,
⟨64, 64, .arr 64 4, List.replicate 64 (.b)⟩,
⟨1, 8, .oth, [.nf]⟩,
⟨1, 8, .oth, [.nf]⟩,
⟨1, 8, .oth, [.nf]⟩,
⟨1, 8, .oth, [.nf]⟩,
⟨1, 0, .oth, []⟩,
⟨1, 8, .oth, [.nf]⟩,
⟨1, 8, .oth, [.nf]⟩,
⟨1, 8, .oth, [.nf]⟩,
⟨1, 8, .oth, [.nf]⟩,
⟨1, 8, .oth, [.nf]⟩,
⟨1, 8, .oth, [.nf]⟩,
⟨1, 8, .oth, [.nf]⟩,
⟨3, 24, .st [(0, 4), (1, 3), (2, 3)], [.b, .i .i64, .i .i64]⟩,
⟨3, 24, .st [(0, 4), (1, 3), (2, 3)], [.b, .i .i64, .i .i64]⟩,
⟨1, 24, .sl 154, [.sl]⟩,
⟨1, 8, .oth, [.nf]⟩,
⟨1, 8, .oth, [.nf]⟩,
⟨1, 8, .oth, [.nf]⟩,
⟨1, 8, .oth, [.nf]⟩,
⟨1, 8, .oth, [.nf]⟩,
⟨1, 8, .oth, [.nf]⟩,
⟨1, 8, .oth, [.nf]⟩,
⟨1, 8, .oth, [.nf]⟩,
⟨1, 0, .oth, []⟩,
⟨1, 8, .oth, [.nf]⟩,
⟨1, 8, .oth, [.nf]⟩,
⟨1, 8, .oth, [.nf]⟩,
⟨1, 24, .sl 69, [.sl]⟩,
⟨1, 8, .oth, [.nf]⟩,
⟨1, 8, .oth, [.nf]⟩,
⟨1, 8, .oth, [.nf]⟩,
⟨1, 8, .oth, [.nf]⟩,
⟨1, 8, .oth, [.nf]⟩,
⟨1, 8, .oth, [.nf]⟩,
⟨1, 8, .oth, [.nf]⟩,
⟨1, 8, .oth, [.np]⟩,
⟨1, 8, .oth, [.nf]⟩,
⟨1, 8, .oth, [.nf]⟩,
⟨1, 8, .oth, [.nf]⟩,
⟨1, 8, .oth, [.nf]⟩,
⟨1, 8, .oth, [.nf]⟩,
⟨1, 8, .oth, [.nf]⟩,
⟨1, 8, .oth, [.nf]⟩,
⟨1, 8, .oth, [.nf]⟩,
⟨1, 8, .oth, [.nf]⟩,
⟨1, 8, .oth, [.nf]⟩,
⟨1, 8, .oth, [.nf]⟩,
⟨1, 8, .oth, [.nf]⟩,
⟨1, 8, .oth, [.nf]⟩,
⟨1, 8, .oth, [.nf]⟩,
⟨1, 8, .oth, [.nf]⟩,
⟨1, 8, .oth, [.nf]⟩,
⟨1, 8, .int .u64, [.i .u64]⟩,
⟨1, 8, .oth, [.nf]⟩,
⟨1, 8, .oth, [.nf]⟩,
⟨1, 8, .oth, [.nf]⟩,
⟨1, 8, .oth, [.nf]⟩,
⟨1, 8, .oth, [.nf]⟩,
⟨1, 8, .oth, [.nf]⟩,
⟨1, 8, .oth, [.nf]⟩,
⟨1, 8, .oth, [.nf]⟩,
⟨1, 8, .oth, [.nf]⟩,
⟨1, 8, .oth, [.np]⟩,
⟨1, 8, .oth, [.nf]⟩,
⟨1, 8, .oth, [.nf]⟩,
⟨1, 8, .oth, [.nf]⟩,
⟨1, 8, .oth, [.nf]⟩,
⟨4, 40, .st [(0, 17), (1, 17), (2, 17), (3, 9)], [.np, .np, .np, .s]⟩,
⟨4, 40, .st [(0, 17), (1, 17), (2, 17), (3, 9)], [.np, .np, .np, .s]⟩,
⟨0, 0, .arr 0 16, []⟩,
⟨0, 0, .st [(0, 210)], []⟩,
⟨0, 0, .st [(0, 210)], []⟩,
⟨1, 8, .oth, [.nf]⟩,
⟨1, 4, .int .u32, [.i .u32]⟩,
⟨1, 1, .int .u8, [.i .u8]⟩,
⟨1, 1, .int .u8, [.i .u8]⟩,
⟨1, 8, .oth, [.nf]⟩,
⟨1, 8, .oth, [.np]⟩,
⟨1, 4, .int .i32, [.i .i32]⟩,
⟨1, 4, .int .i32, [.i .i32]⟩,
⟨11, 48, .st [(0, 12), (1, 12), (2, 214), (3, 215), (4, 5), (5, 5), (6, 216), (7, 217), (8, 218), (9, 219), (10, 220)], [.i .u64, .i .u64, .i .u32, .i .u8, .i .u8, .i .u8, .i .u8, .nf, .np, .i .i32, .i .i32]⟩,
⟨11, 48, .st [(0, 12), (1, 12), (2, 214), (3, 215), (4, 5), (5, 5), (6, 216), (7, 217), (8, 218), (9, 219), (10, 220)], [.i .u64, .i .u64, .i .u32, .i .u8, .i .u8, .i .u8, .i .u8, .nf, .np, .i .i32, .i .i32]⟩,
⟨1, 8, .oth, [.np]⟩]
theorem TTok : TOk Try.prog TT := by unfold TOk; kernel_rfl
theorem mix : Try.prog.follows .mixedOrders = true := by kernel_rfl
structure S_entry_Entry where
  fHere : Bool
  fSlot : Bool
  fAt : Int
  fRights : Int
  fUsed : Bool
  fDirty : Bool
  fCopy : Bool
def eS_entry_Entry (x : S_entry_Entry) : PV := .agg [.v (.bool x.fHere), .v (.bool x.fSlot), .v (.int .i64 x.fAt), .v (.int .i64 x.fRights), .v (.bool x.fUsed), .v (.bool x.fDirty), .v (.bool x.fCopy)]
structure S_table_Node where
  fHuge : Bool
  fEntries : (List S_entry_Entry)
def eS_table_Node (x : S_table_Node) : PV := .agg [.v (.bool x.fHuge), .sl (x.fEntries.map eS_entry_Entry)]
def cA_t49 (x : (Fin 8 → S_table_Node)) : List PV := (List.ofFn x).flatMap fun a => [.v (.bool a.fHuge), .sl (a.fEntries.map eS_entry_Entry)]
def cA_t61 (x : (Fin 64 → S_entry_Entry)) : List PV := (List.ofFn x).flatMap fun a => [.v (.bool a.fHere), .v (.bool a.fSlot), .v (.int .i64 a.fAt), .v (.int .i64 a.fRights), .v (.bool a.fUsed), .v (.bool a.fDirty), .v (.bool a.fCopy)]
def eqS_entry_Entry (x y : S_entry_Entry) : Bool := ((x.fHere == y.fHere) && ((x.fSlot == y.fSlot) && ((x.fAt == y.fAt) && ((x.fRights == y.fRights) && ((x.fUsed == y.fUsed) && ((x.fDirty == y.fDirty) && ((x.fCopy == y.fCopy) && true)))))))
theorem eqS_entry_Entry_ok (x y : S_entry_Entry) : EqA Try.prog 51 [((.bool x.fHere)), ((.bool x.fSlot)), ((.int .i64 x.fAt)), ((.int .i64 x.fRights)), ((.bool x.fUsed)), ((.bool x.fDirty)), ((.bool x.fCopy))] [((.bool y.fHere)), ((.bool y.fSlot)), ((.int .i64 y.fAt)), ((.int .i64 y.fRights)), ((.bool y.fUsed)), ((.bool y.fDirty)), ((.bool y.fCopy))] (eqS_entry_Entry x y) := eqA_of TTok (by kernel_rfl) (by kernel_rfl) (by kernel_rfl)
def eqA_ringref2_Plain (x y : (Fin 64 → S_entry_Entry)) : Bool := ((((x 0).fHere == (y 0).fHere) && (((x 0).fSlot == (y 0).fSlot) && (((x 0).fAt == (y 0).fAt) && (((x 0).fRights == (y 0).fRights) && (((x 0).fUsed == (y 0).fUsed) && (((x 0).fDirty == (y 0).fDirty) && (((x 0).fCopy == (y 0).fCopy) && true))))))) && ((((x 1).fHere == (y 1).fHere) && (((x 1).fSlot == (y 1).fSlot) && (((x 1).fAt == (y 1).fAt) && (((x 1).fRights == (y 1).fRights) && (((x 1).fUsed == (y 1).fUsed) && (((x 1).fDirty == (y 1).fDirty) && (((x 1).fCopy == (y 1).fCopy) && true))))))) && ((((x 2).fHere == (y 2).fHere) && (((x 2).fSlot == (y 2).fSlot) && (((x 2).fAt == (y 2).fAt) && (((x 2).fRights == (y 2).fRights) && (((x 2).fUsed == (y 2).fUsed) && (((x 2).fDirty == (y 2).fDirty) && (((x 2).fCopy == (y 2).fCopy) && true))))))) && ((((x 3).fHere == (y 3).fHere) && (((x 3).fSlot == (y 3).fSlot) && (((x 3).fAt == (y 3).fAt) && (((x 3).fRights == (y 3).fRights) && (((x 3).fUsed == (y 3).fUsed) && (((x 3).fDirty == (y 3).fDirty) && (((x 3).fCopy == (y 3).fCopy) && true))))))) && ((((x 4).fHere == (y 4).fHere) && (((x 4).fSlot == (y 4).fSlot) && (((x 4).fAt == (y 4).fAt) && (((x 4).fRights == (y 4).fRights) && (((x 4).fUsed == (y 4).fUsed) && (((x 4).fDirty == (y 4).fDirty) && (((x 4).fCopy == (y 4).fCopy) && true))))))) && ((((x 5).fHere == (y 5).fHere) && (((x 5).fSlot == (y 5).fSlot) && (((x 5).fAt == (y 5).fAt) && (((x 5).fRights == (y 5).fRights) && (((x 5).fUsed == (y 5).fUsed) && (((x 5).fDirty == (y 5).fDirty) && (((x 5).fCopy == (y 5).fCopy) && true))))))) && ((((x 6).fHere == (y 6).fHere) && (((x 6).fSlot == (y 6).fSlot) && (((x 6).fAt == (y 6).fAt) && (((x 6).fRights == (y 6).fRights) && (((x 6).fUsed == (y 6).fUsed) && (((x 6).fDirty == (y 6).fDirty) && (((x 6).fCopy == (y 6).fCopy) && true))))))) && ((((x 7).fHere == (y 7).fHere) && (((x 7).fSlot == (y 7).fSlot) && (((x 7).fAt == (y 7).fAt) && (((x 7).fRights == (y 7).fRights) && (((x 7).fUsed == (y 7).fUsed) && (((x 7).fDirty == (y 7).fDirty) && (((x 7).fCopy == (y 7).fCopy) && true))))))) && ((((x 8).fHere == (y 8).fHere) && (((x 8).fSlot == (y 8).fSlot) && (((x 8).fAt == (y 8).fAt) && (((x 8).fRights == (y 8).fRights) && (((x 8).fUsed == (y 8).fUsed) && (((x 8).fDirty == (y 8).fDirty) && (((x 8).fCopy == (y 8).fCopy) && true))))))) && ((((x 9).fHere == (y 9).fHere) && (((x 9).fSlot == (y 9).fSlot) && (((x 9).fAt == (y 9).fAt) && (((x 9).fRights == (y 9).fRights) && (((x 9).fUsed == (y 9).fUsed) && (((x 9).fDirty == (y 9).fDirty) && (((x 9).fCopy == (y 9).fCopy) && true))))))) && ((((x 10).fHere == (y 10).fHere) && (((x 10).fSlot == (y 10).fSlot) && (((x 10).fAt == (y 10).fAt) && (((x 10).fRights == (y 10).fRights) && (((x 10).fUsed == (y 10).fUsed) && (((x 10).fDirty == (y 10).fDirty) && (((x 10).fCopy == (y 10).fCopy) && true))))))) && ((((x 11).fHere == (y 11).fHere) && (((x 11).fSlot == (y 11).fSlot) && (((x 11).fAt == (y 11).fAt) && (((x 11).fRights == (y 11).fRights) && (((x 11).fUsed == (y 11).fUsed) && (((x 11).fDirty == (y 11).fDirty) && (((x 11).fCopy == (y 11).fCopy) && true))))))) && ((((x 12).fHere == (y 12).fHere) && (((x 12).fSlot == (y 12).fSlot) && (((x 12).fAt == (y 12).fAt) && (((x 12).fRights == (y 12).fRights) && (((x 12).fUsed == (y 12).fUsed) && (((x 12).fDirty == (y 12).fDirty) && (((x 12).fCopy == (y 12).fCopy) && true))))))) && ((((x 13).fHere == (y 13).fHere) && (((x 13).fSlot == (y 13).fSlot) && (((x 13).fAt == (y 13).fAt) && (((x 13).fRights == (y 13).fRights) && (((x 13).fUsed == (y 13).fUsed) && (((x 13).fDirty == (y 13).fDirty) && (((x 13).fCopy == (y 13).fCopy) && true))))))) && ((((x 14).fHere == (y 14).fHere) && (((x 14).fSlot == (y 14).fSlot) && (((x 14).fAt == (y 14).fAt) && (((x 14).fRights == (y 14).fRights) && (((x 14).fUsed == (y 14).fUsed) && (((x 14).fDirty == (y 14).fDirty) && (((x 14).fCopy == (y 14).fCopy) && true))))))) && ((((x 15).fHere == (y 15).fHere) && (((x 15).fSlot == (y 15).fSlot) && (((x 15).fAt == (y 15).fAt) && (((x 15).fRights == (y 15).fRights) && (((x 15).fUsed == (y 15).fUsed) && (((x 15).fDirty == (y 15).fDirty) && (((x 15).fCopy == (y 15).fCopy) && true))))))) && ((((x 16).fHere == (y 16).fHere) && (((x 16).fSlot == (y 16).fSlot) && (((x 16).fAt == (y 16).fAt) && (((x 16).fRights == (y 16).fRights) && (((x 16).fUsed == (y 16).fUsed) && (((x 16).fDirty == (y 16).fDirty) && (((x 16).fCopy == (y 16).fCopy) && true))))))) && ((((x 17).fHere == (y 17).fHere) && (((x 17).fSlot == (y 17).fSlot) && (((x 17).fAt == (y 17).fAt) && (((x 17).fRights == (y 17).fRights) && (((x 17).fUsed == (y 17).fUsed) && (((x 17).fDirty == (y 17).fDirty) && (((x 17).fCopy == (y 17).fCopy) && true))))))) && ((((x 18).fHere == (y 18).fHere) && (((x 18).fSlot == (y 18).fSlot) && (((x 18).fAt == (y 18).fAt) && (((x 18).fRights == (y 18).fRights) && (((x 18).fUsed == (y 18).fUsed) && (((x 18).fDirty == (y 18).fDirty) && (((x 18).fCopy == (y 18).fCopy) && true))))))) && ((((x 19).fHere == (y 19).fHere) && (((x 19).fSlot == (y 19).fSlot) && (((x 19).fAt == (y 19).fAt) && (((x 19).fRights == (y 19).fRights) && (((x 19).fUsed == (y 19).fUsed) && (((x 19).fDirty == (y 19).fDirty) && (((x 19).fCopy == (y 19).fCopy) && true))))))) && ((((x 20).fHere == (y 20).fHere) && (((x 20).fSlot == (y 20).fSlot) && (((x 20).fAt == (y 20).fAt) && (((x 20).fRights == (y 20).fRights) && (((x 20).fUsed == (y 20).fUsed) && (((x 20).fDirty == (y 20).fDirty) && (((x 20).fCopy == (y 20).fCopy) && true))))))) && ((((x 21).fHere == (y 21).fHere) && (((x 21).fSlot == (y 21).fSlot) && (((x 21).fAt == (y 21).fAt) && (((x 21).fRights == (y 21).fRights) && (((x 21).fUsed == (y 21).fUsed) && (((x 21).fDirty == (y 21).fDirty) && (((x 21).fCopy == (y 21).fCopy) && true))))))) && ((((x 22).fHere == (y 22).fHere) && (((x 22).fSlot == (y 22).fSlot) && (((x 22).fAt == (y 22).fAt) && (((x 22).fRights == (y 22).fRights) && (((x 22).fUsed == (y 22).fUsed) && (((x 22).fDirty == (y 22).fDirty) && (((x 22).fCopy == (y 22).fCopy) && true))))))) && ((((x 23).fHere == (y 23).fHere) && (((x 23).fSlot == (y 23).fSlot) && (((x 23).fAt == (y 23).fAt) && (((x 23).fRights == (y 23).fRights) && (((x 23).fUsed == (y 23).fUsed) && (((x 23).fDirty == (y 23).fDirty) && (((x 23).fCopy == (y 23).fCopy) && true))))))) && ((((x 24).fHere == (y 24).fHere) && (((x 24).fSlot == (y 24).fSlot) && (((x 24).fAt == (y 24).fAt) && (((x 24).fRights == (y 24).fRights) && (((x 24).fUsed == (y 24).fUsed) && (((x 24).fDirty == (y 24).fDirty) && (((x 24).fCopy == (y 24).fCopy) && true))))))) && ((((x 25).fHere == (y 25).fHere) && (((x 25).fSlot == (y 25).fSlot) && (((x 25).fAt == (y 25).fAt) && (((x 25).fRights == (y 25).fRights) && (((x 25).fUsed == (y 25).fUsed) && (((x 25).fDirty == (y 25).fDirty) && (((x 25).fCopy == (y 25).fCopy) && true))))))) && ((((x 26).fHere == (y 26).fHere) && (((x 26).fSlot == (y 26).fSlot) && (((x 26).fAt == (y 26).fAt) && (((x 26).fRights == (y 26).fRights) && (((x 26).fUsed == (y 26).fUsed) && (((x 26).fDirty == (y 26).fDirty) && (((x 26).fCopy == (y 26).fCopy) && true))))))) && ((((x 27).fHere == (y 27).fHere) && (((x 27).fSlot == (y 27).fSlot) && (((x 27).fAt == (y 27).fAt) && (((x 27).fRights == (y 27).fRights) && (((x 27).fUsed == (y 27).fUsed) && (((x 27).fDirty == (y 27).fDirty) && (((x 27).fCopy == (y 27).fCopy) && true))))))) && ((((x 28).fHere == (y 28).fHere) && (((x 28).fSlot == (y 28).fSlot) && (((x 28).fAt == (y 28).fAt) && (((x 28).fRights == (y 28).fRights) && (((x 28).fUsed == (y 28).fUsed) && (((x 28).fDirty == (y 28).fDirty) && (((x 28).fCopy == (y 28).fCopy) && true))))))) && ((((x 29).fHere == (y 29).fHere) && (((x 29).fSlot == (y 29).fSlot) && (((x 29).fAt == (y 29).fAt) && (((x 29).fRights == (y 29).fRights) && (((x 29).fUsed == (y 29).fUsed) && (((x 29).fDirty == (y 29).fDirty) && (((x 29).fCopy == (y 29).fCopy) && true))))))) && ((((x 30).fHere == (y 30).fHere) && (((x 30).fSlot == (y 30).fSlot) && (((x 30).fAt == (y 30).fAt) && (((x 30).fRights == (y 30).fRights) && (((x 30).fUsed == (y 30).fUsed) && (((x 30).fDirty == (y 30).fDirty) && (((x 30).fCopy == (y 30).fCopy) && true))))))) && ((((x 31).fHere == (y 31).fHere) && (((x 31).fSlot == (y 31).fSlot) && (((x 31).fAt == (y 31).fAt) && (((x 31).fRights == (y 31).fRights) && (((x 31).fUsed == (y 31).fUsed) && (((x 31).fDirty == (y 31).fDirty) && (((x 31).fCopy == (y 31).fCopy) && true))))))) && ((((x 32).fHere == (y 32).fHere) && (((x 32).fSlot == (y 32).fSlot) && (((x 32).fAt == (y 32).fAt) && (((x 32).fRights == (y 32).fRights) && (((x 32).fUsed == (y 32).fUsed) && (((x 32).fDirty == (y 32).fDirty) && (((x 32).fCopy == (y 32).fCopy) && true))))))) && ((((x 33).fHere == (y 33).fHere) && (((x 33).fSlot == (y 33).fSlot) && (((x 33).fAt == (y 33).fAt) && (((x 33).fRights == (y 33).fRights) && (((x 33).fUsed == (y 33).fUsed) && (((x 33).fDirty == (y 33).fDirty) && (((x 33).fCopy == (y 33).fCopy) && true))))))) && ((((x 34).fHere == (y 34).fHere) && (((x 34).fSlot == (y 34).fSlot) && (((x 34).fAt == (y 34).fAt) && (((x 34).fRights == (y 34).fRights) && (((x 34).fUsed == (y 34).fUsed) && (((x 34).fDirty == (y 34).fDirty) && (((x 34).fCopy == (y 34).fCopy) && true))))))) && ((((x 35).fHere == (y 35).fHere) && (((x 35).fSlot == (y 35).fSlot) && (((x 35).fAt == (y 35).fAt) && (((x 35).fRights == (y 35).fRights) && (((x 35).fUsed == (y 35).fUsed) && (((x 35).fDirty == (y 35).fDirty) && (((x 35).fCopy == (y 35).fCopy) && true))))))) && ((((x 36).fHere == (y 36).fHere) && (((x 36).fSlot == (y 36).fSlot) && (((x 36).fAt == (y 36).fAt) && (((x 36).fRights == (y 36).fRights) && (((x 36).fUsed == (y 36).fUsed) && (((x 36).fDirty == (y 36).fDirty) && (((x 36).fCopy == (y 36).fCopy) && true))))))) && ((((x 37).fHere == (y 37).fHere) && (((x 37).fSlot == (y 37).fSlot) && (((x 37).fAt == (y 37).fAt) && (((x 37).fRights == (y 37).fRights) && (((x 37).fUsed == (y 37).fUsed) && (((x 37).fDirty == (y 37).fDirty) && (((x 37).fCopy == (y 37).fCopy) && true))))))) && ((((x 38).fHere == (y 38).fHere) && (((x 38).fSlot == (y 38).fSlot) && (((x 38).fAt == (y 38).fAt) && (((x 38).fRights == (y 38).fRights) && (((x 38).fUsed == (y 38).fUsed) && (((x 38).fDirty == (y 38).fDirty) && (((x 38).fCopy == (y 38).fCopy) && true))))))) && ((((x 39).fHere == (y 39).fHere) && (((x 39).fSlot == (y 39).fSlot) && (((x 39).fAt == (y 39).fAt) && (((x 39).fRights == (y 39).fRights) && (((x 39).fUsed == (y 39).fUsed) && (((x 39).fDirty == (y 39).fDirty) && (((x 39).fCopy == (y 39).fCopy) && true))))))) && ((((x 40).fHere == (y 40).fHere) && (((x 40).fSlot == (y 40).fSlot) && (((x 40).fAt == (y 40).fAt) && (((x 40).fRights == (y 40).fRights) && (((x 40).fUsed == (y 40).fUsed) && (((x 40).fDirty == (y 40).fDirty) && (((x 40).fCopy == (y 40).fCopy) && true))))))) && ((((x 41).fHere == (y 41).fHere) && (((x 41).fSlot == (y 41).fSlot) && (((x 41).fAt == (y 41).fAt) && (((x 41).fRights == (y 41).fRights) && (((x 41).fUsed == (y 41).fUsed) && (((x 41).fDirty == (y 41).fDirty) && (((x 41).fCopy == (y 41).fCopy) && true))))))) && ((((x 42).fHere == (y 42).fHere) && (((x 42).fSlot == (y 42).fSlot) && (((x 42).fAt == (y 42).fAt) && (((x 42).fRights == (y 42).fRights) && (((x 42).fUsed == (y 42).fUsed) && (((x 42).fDirty == (y 42).fDirty) && (((x 42).fCopy == (y 42).fCopy) && true))))))) && ((((x 43).fHere == (y 43).fHere) && (((x 43).fSlot == (y 43).fSlot) && (((x 43).fAt == (y 43).fAt) && (((x 43).fRights == (y 43).fRights) && (((x 43).fUsed == (y 43).fUsed) && (((x 43).fDirty == (y 43).fDirty) && (((x 43).fCopy == (y 43).fCopy) && true))))))) && ((((x 44).fHere == (y 44).fHere) && (((x 44).fSlot == (y 44).fSlot) && (((x 44).fAt == (y 44).fAt) && (((x 44).fRights == (y 44).fRights) && (((x 44).fUsed == (y 44).fUsed) && (((x 44).fDirty == (y 44).fDirty) && (((x 44).fCopy == (y 44).fCopy) && true))))))) && ((((x 45).fHere == (y 45).fHere) && (((x 45).fSlot == (y 45).fSlot) && (((x 45).fAt == (y 45).fAt) && (((x 45).fRights == (y 45).fRights) && (((x 45).fUsed == (y 45).fUsed) && (((x 45).fDirty == (y 45).fDirty) && (((x 45).fCopy == (y 45).fCopy) && true))))))) && ((((x 46).fHere == (y 46).fHere) && (((x 46).fSlot == (y 46).fSlot) && (((x 46).fAt == (y 46).fAt) && (((x 46).fRights == (y 46).fRights) && (((x 46).fUsed == (y 46).fUsed) && (((x 46).fDirty == (y 46).fDirty) && (((x 46).fCopy == (y 46).fCopy) && true))))))) && ((((x 47).fHere == (y 47).fHere) && (((x 47).fSlot == (y 47).fSlot) && (((x 47).fAt == (y 47).fAt) && (((x 47).fRights == (y 47).fRights) && (((x 47).fUsed == (y 47).fUsed) && (((x 47).fDirty == (y 47).fDirty) && (((x 47).fCopy == (y 47).fCopy) && true))))))) && ((((x 48).fHere == (y 48).fHere) && (((x 48).fSlot == (y 48).fSlot) && (((x 48).fAt == (y 48).fAt) && (((x 48).fRights == (y 48).fRights) && (((x 48).fUsed == (y 48).fUsed) && (((x 48).fDirty == (y 48).fDirty) && (((x 48).fCopy == (y 48).fCopy) && true))))))) && ((((x 49).fHere == (y 49).fHere) && (((x 49).fSlot == (y 49).fSlot) && (((x 49).fAt == (y 49).fAt) && (((x 49).fRights == (y 49).fRights) && (((x 49).fUsed == (y 49).fUsed) && (((x 49).fDirty == (y 49).fDirty) && (((x 49).fCopy == (y 49).fCopy) && true))))))) && ((((x 50).fHere == (y 50).fHere) && (((x 50).fSlot == (y 50).fSlot) && (((x 50).fAt == (y 50).fAt) && (((x 50).fRights == (y 50).fRights) && (((x 50).fUsed == (y 50).fUsed) && (((x 50).fDirty == (y 50).fDirty) && (((x 50).fCopy == (y 50).fCopy) && true))))))) && ((((x 51).fHere == (y 51).fHere) && (((x 51).fSlot == (y 51).fSlot) && (((x 51).fAt == (y 51).fAt) && (((x 51).fRights == (y 51).fRights) && (((x 51).fUsed == (y 51).fUsed) && (((x 51).fDirty == (y 51).fDirty) && (((x 51).fCopy == (y 51).fCopy) && true))))))) && ((((x 52).fHere == (y 52).fHere) && (((x 52).fSlot == (y 52).fSlot) && (((x 52).fAt == (y 52).fAt) && (((x 52).fRights == (y 52).fRights) && (((x 52).fUsed == (y 52).fUsed) && (((x 52).fDirty == (y 52).fDirty) && (((x 52).fCopy == (y 52).fCopy) && true))))))) && ((((x 53).fHere == (y 53).fHere) && (((x 53).fSlot == (y 53).fSlot) && (((x 53).fAt == (y 53).fAt) && (((x 53).fRights == (y 53).fRights) && (((x 53).fUsed == (y 53).fUsed) && (((x 53).fDirty == (y 53).fDirty) && (((x 53).fCopy == (y 53).fCopy) && true))))))) && ((((x 54).fHere == (y 54).fHere) && (((x 54).fSlot == (y 54).fSlot) && (((x 54).fAt == (y 54).fAt) && (((x 54).fRights == (y 54).fRights) && (((x 54).fUsed == (y 54).fUsed) && (((x 54).fDirty == (y 54).fDirty) && (((x 54).fCopy == (y 54).fCopy) && true))))))) && ((((x 55).fHere == (y 55).fHere) && (((x 55).fSlot == (y 55).fSlot) && (((x 55).fAt == (y 55).fAt) && (((x 55).fRights == (y 55).fRights) && (((x 55).fUsed == (y 55).fUsed) && (((x 55).fDirty == (y 55).fDirty) && (((x 55).fCopy == (y 55).fCopy) && true))))))) && ((((x 56).fHere == (y 56).fHere) && (((x 56).fSlot == (y 56).fSlot) && (((x 56).fAt == (y 56).fAt) && (((x 56).fRights == (y 56).fRights) && (((x 56).fUsed == (y 56).fUsed) && (((x 56).fDirty == (y 56).fDirty) && (((x 56).fCopy == (y 56).fCopy) && true))))))) && ((((x 57).fHere == (y 57).fHere) && (((x 57).fSlot == (y 57).fSlot) && (((x 57).fAt == (y 57).fAt) && (((x 57).fRights == (y 57).fRights) && (((x 57).fUsed == (y 57).fUsed) && (((x 57).fDirty == (y 57).fDirty) && (((x 57).fCopy == (y 57).fCopy) && true))))))) && ((((x 58).fHere == (y 58).fHere) && (((x 58).fSlot == (y 58).fSlot) && (((x 58).fAt == (y 58).fAt) && (((x 58).fRights == (y 58).fRights) && (((x 58).fUsed == (y 58).fUsed) && (((x 58).fDirty == (y 58).fDirty) && (((x 58).fCopy == (y 58).fCopy) && true))))))) && ((((x 59).fHere == (y 59).fHere) && (((x 59).fSlot == (y 59).fSlot) && (((x 59).fAt == (y 59).fAt) && (((x 59).fRights == (y 59).fRights) && (((x 59).fUsed == (y 59).fUsed) && (((x 59).fDirty == (y 59).fDirty) && (((x 59).fCopy == (y 59).fCopy) && true))))))) && ((((x 60).fHere == (y 60).fHere) && (((x 60).fSlot == (y 60).fSlot) && (((x 60).fAt == (y 60).fAt) && (((x 60).fRights == (y 60).fRights) && (((x 60).fUsed == (y 60).fUsed) && (((x 60).fDirty == (y 60).fDirty) && (((x 60).fCopy == (y 60).fCopy) && true))))))) && ((((x 61).fHere == (y 61).fHere) && (((x 61).fSlot == (y 61).fSlot) && (((x 61).fAt == (y 61).fAt) && (((x 61).fRights == (y 61).fRights) && (((x 61).fUsed == (y 61).fUsed) && (((x 61).fDirty == (y 61).fDirty) && (((x 61).fCopy == (y 61).fCopy) && true))))))) && ((((x 62).fHere == (y 62).fHere) && (((x 62).fSlot == (y 62).fSlot) && (((x 62).fAt == (y 62).fAt) && (((x 62).fRights == (y 62).fRights) && (((x 62).fUsed == (y 62).fUsed) && (((x 62).fDirty == (y 62).fDirty) && (((x 62).fCopy == (y 62).fCopy) && true))))))) && ((((x 63).fHere == (y 63).fHere) && (((x 63).fSlot == (y 63).fSlot) && (((x 63).fAt == (y 63).fAt) && (((x 63).fRights == (y 63).fRights) && (((x 63).fUsed == (y 63).fUsed) && (((x 63).fDirty == (y 63).fDirty) && (((x 63).fCopy == (y 63).fCopy) && true))))))) && true))))))))))))))))))))))))))))))))))))))))))))))))))))))))))))))))
theorem eqA_ringref2_Plain_ok (x y : (Fin 64 → S_entry_Entry)) : EqA Try.prog 61 [((.bool ((x 0).fHere))), ((.bool ((x 0).fSlot))), ((.int .i64 ((x 0).fAt))), ((.int .i64 ((x 0).fRights))), ((.bool ((x 0).fUsed))), ((.bool ((x 0).fDirty))), ((.bool ((x 0).fCopy))), ((.bool ((x 1).fHere))), ((.bool ((x 1).fSlot))), ((.int .i64 ((x 1).fAt))), ((.int .i64 ((x 1).fRights))), ((.bool ((x 1).fUsed))), ((.bool ((x 1).fDirty))), ((.bool ((x 1).fCopy))), ((.bool ((x 2).fHere))), ((.bool ((x 2).fSlot))), ((.int .i64 ((x 2).fAt))), ((.int .i64 ((x 2).fRights))), ((.bool ((x 2).fUsed))), ((.bool ((x 2).fDirty))), ((.bool ((x 2).fCopy))), ((.bool ((x 3).fHere))), ((.bool ((x 3).fSlot))), ((.int .i64 ((x 3).fAt))), ((.int .i64 ((x 3).fRights))), ((.bool ((x 3).fUsed))), ((.bool ((x 3).fDirty))), ((.bool ((x 3).fCopy))), ((.bool ((x 4).fHere))), ((.bool ((x 4).fSlot))), ((.int .i64 ((x 4).fAt))), ((.int .i64 ((x 4).fRights))), ((.bool ((x 4).fUsed))), ((.bool ((x 4).fDirty))), ((.bool ((x 4).fCopy))), ((.bool ((x 5).fHere))), ((.bool ((x 5).fSlot))), ((.int .i64 ((x 5).fAt))), ((.int .i64 ((x 5).fRights))), ((.bool ((x 5).fUsed))), ((.bool ((x 5).fDirty))), ((.bool ((x 5).fCopy))), ((.bool ((x 6).fHere))), ((.bool ((x 6).fSlot))), ((.int .i64 ((x 6).fAt))), ((.int .i64 ((x 6).fRights))), ((.bool ((x 6).fUsed))), ((.bool ((x 6).fDirty))), ((.bool ((x 6).fCopy))), ((.bool ((x 7).fHere))), ((.bool ((x 7).fSlot))), ((.int .i64 ((x 7).fAt))), ((.int .i64 ((x 7).fRights))), ((.bool ((x 7).fUsed))), ((.bool ((x 7).fDirty))), ((.bool ((x 7).fCopy))), ((.bool ((x 8).fHere))), ((.bool ((x 8).fSlot))), ((.int .i64 ((x 8).fAt))), ((.int .i64 ((x 8).fRights))), ((.bool ((x 8).fUsed))), ((.bool ((x 8).fDirty))), ((.bool ((x 8).fCopy))), ((.bool ((x 9).fHere))), ((.bool ((x 9).fSlot))), ((.int .i64 ((x 9).fAt))), ((.int .i64 ((x 9).fRights))), ((.bool ((x 9).fUsed))), ((.bool ((x 9).fDirty))), ((.bool ((x 9).fCopy))), ((.bool ((x 10).fHere))), ((.bool ((x 10).fSlot))), ((.int .i64 ((x 10).fAt))), ((.int .i64 ((x 10).fRights))), ((.bool ((x 10).fUsed))), ((.bool ((x 10).fDirty))), ((.bool ((x 10).fCopy))), ((.bool ((x 11).fHere))), ((.bool ((x 11).fSlot))), ((.int .i64 ((x 11).fAt))), ((.int .i64 ((x 11).fRights))), ((.bool ((x 11).fUsed))), ((.bool ((x 11).fDirty))), ((.bool ((x 11).fCopy))), ((.bool ((x 12).fHere))), ((.bool ((x 12).fSlot))), ((.int .i64 ((x 12).fAt))), ((.int .i64 ((x 12).fRights))), ((.bool ((x 12).fUsed))), ((.bool ((x 12).fDirty))), ((.bool ((x 12).fCopy))), ((.bool ((x 13).fHere))), ((.bool ((x 13).fSlot))), ((.int .i64 ((x 13).fAt))), ((.int .i64 ((x 13).fRights))), ((.bool ((x 13).fUsed))), ((.bool ((x 13).fDirty))), ((.bool ((x 13).fCopy))), ((.bool ((x 14).fHere))), ((.bool ((x 14).fSlot))), ((.int .i64 ((x 14).fAt))), ((.int .i64 ((x 14).fRights))), ((.bool ((x 14).fUsed))), ((.bool ((x 14).fDirty))), ((.bool ((x 14).fCopy))), ((.bool ((x 15).fHere))), ((.bool ((x 15).fSlot))), ((.int .i64 ((x 15).fAt))), ((.int .i64 ((x 15).fRights))), ((.bool ((x 15).fUsed))), ((.bool ((x 15).fDirty))), ((.bool ((x 15).fCopy))), ((.bool ((x 16).fHere))), ((.bool ((x 16).fSlot))), ((.int .i64 ((x 16).fAt))), ((.int .i64 ((x 16).fRights))), ((.bool ((x 16).fUsed))), ((.bool ((x 16).fDirty))), ((.bool ((x 16).fCopy))), ((.bool ((x 17).fHere))), ((.bool ((x 17).fSlot))), ((.int .i64 ((x 17).fAt))), ((.int .i64 ((x 17).fRights))), ((.bool ((x 17).fUsed))), ((.bool ((x 17).fDirty))), ((.bool ((x 17).fCopy))), ((.bool ((x 18).fHere))), ((.bool ((x 18).fSlot))), ((.int .i64 ((x 18).fAt))), ((.int .i64 ((x 18).fRights))), ((.bool ((x 18).fUsed))), ((.bool ((x 18).fDirty))), ((.bool ((x 18).fCopy))), ((.bool ((x 19).fHere))), ((.bool ((x 19).fSlot))), ((.int .i64 ((x 19).fAt))), ((.int .i64 ((x 19).fRights))), ((.bool ((x 19).fUsed))), ((.bool ((x 19).fDirty))), ((.bool ((x 19).fCopy))), ((.bool ((x 20).fHere))), ((.bool ((x 20).fSlot))), ((.int .i64 ((x 20).fAt))), ((.int .i64 ((x 20).fRights))), ((.bool ((x 20).fUsed))), ((.bool ((x 20).fDirty))), ((.bool ((x 20).fCopy))), ((.bool ((x 21).fHere))), ((.bool ((x 21).fSlot))), ((.int .i64 ((x 21).fAt))), ((.int .i64 ((x 21).fRights))), ((.bool ((x 21).fUsed))), ((.bool ((x 21).fDirty))), ((.bool ((x 21).fCopy))), ((.bool ((x 22).fHere))), ((.bool ((x 22).fSlot))), ((.int .i64 ((x 22).fAt))), ((.int .i64 ((x 22).fRights))), ((.bool ((x 22).fUsed))), ((.bool ((x 22).fDirty))), ((.bool ((x 22).fCopy))), ((.bool ((x 23).fHere))), ((.bool ((x 23).fSlot))), ((.int .i64 ((x 23).fAt))), ((.int .i64 ((x 23).fRights))), ((.bool ((x 23).fUsed))), ((.bool ((x 23).fDirty))), ((.bool ((x 23).fCopy))), ((.bool ((x 24).fHere))), ((.bool ((x 24).fSlot))), ((.int .i64 ((x 24).fAt))), ((.int .i64 ((x 24).fRights))), ((.bool ((x 24).fUsed))), ((.bool ((x 24).fDirty))), ((.bool ((x 24).fCopy))), ((.bool ((x 25).fHere))), ((.bool ((x 25).fSlot))), ((.int .i64 ((x 25).fAt))), ((.int .i64 ((x 25).fRights))), ((.bool ((x 25).fUsed))), ((.bool ((x 25).fDirty))), ((.bool ((x 25).fCopy))), ((.bool ((x 26).fHere))), ((.bool ((x 26).fSlot))), ((.int .i64 ((x 26).fAt))), ((.int .i64 ((x 26).fRights))), ((.bool ((x 26).fUsed))), ((.bool ((x 26).fDirty))), ((.bool ((x 26).fCopy))), ((.bool ((x 27).fHere))), ((.bool ((x 27).fSlot))), ((.int .i64 ((x 27).fAt))), ((.int .i64 ((x 27).fRights))), ((.bool ((x 27).fUsed))), ((.bool ((x 27).fDirty))), ((.bool ((x 27).fCopy))), ((.bool ((x 28).fHere))), ((.bool ((x 28).fSlot))), ((.int .i64 ((x 28).fAt))), ((.int .i64 ((x 28).fRights))), ((.bool ((x 28).fUsed))), ((.bool ((x 28).fDirty))), ((.bool ((x 28).fCopy))), ((.bool ((x 29).fHere))), ((.bool ((x 29).fSlot))), ((.int .i64 ((x 29).fAt))), ((.int .i64 ((x 29).fRights))), ((.bool ((x 29).fUsed))), ((.bool ((x 29).fDirty))), ((.bool ((x 29).fCopy))), ((.bool ((x 30).fHere))), ((.bool ((x 30).fSlot))), ((.int .i64 ((x 30).fAt))), ((.int .i64 ((x 30).fRights))), ((.bool ((x 30).fUsed))), ((.bool ((x 30).fDirty))), ((.bool ((x 30).fCopy))), ((.bool ((x 31).fHere))), ((.bool ((x 31).fSlot))), ((.int .i64 ((x 31).fAt))), ((.int .i64 ((x 31).fRights))), ((.bool ((x 31).fUsed))), ((.bool ((x 31).fDirty))), ((.bool ((x 31).fCopy))), ((.bool ((x 32).fHere))), ((.bool ((x 32).fSlot))), ((.int .i64 ((x 32).fAt))), ((.int .i64 ((x 32).fRights))), ((.bool ((x 32).fUsed))), ((.bool ((x 32).fDirty))), ((.bool ((x 32).fCopy))), ((.bool ((x 33).fHere))), ((.bool ((x 33).fSlot))), ((.int .i64 ((x 33).fAt))), ((.int .i64 ((x 33).fRights))), ((.bool ((x 33).fUsed))), ((.bool ((x 33).fDirty))), ((.bool ((x 33).fCopy))), ((.bool ((x 34).fHere))), ((.bool ((x 34).fSlot))), ((.int .i64 ((x 34).fAt))), ((.int .i64 ((x 34).fRights))), ((.bool ((x 34).fUsed))), ((.bool ((x 34).fDirty))), ((.bool ((x 34).fCopy))), ((.bool ((x 35).fHere))), ((.bool ((x 35).fSlot))), ((.int .i64 ((x 35).fAt))), ((.int .i64 ((x 35).fRights))), ((.bool ((x 35).fUsed))), ((.bool ((x 35).fDirty))), ((.bool ((x 35).fCopy))), ((.bool ((x 36).fHere))), ((.bool ((x 36).fSlot))), ((.int .i64 ((x 36).fAt))), ((.int .i64 ((x 36).fRights))), ((.bool ((x 36).fUsed))), ((.bool ((x 36).fDirty))), ((.bool ((x 36).fCopy))), ((.bool ((x 37).fHere))), ((.bool ((x 37).fSlot))), ((.int .i64 ((x 37).fAt))), ((.int .i64 ((x 37).fRights))), ((.bool ((x 37).fUsed))), ((.bool ((x 37).fDirty))), ((.bool ((x 37).fCopy))), ((.bool ((x 38).fHere))), ((.bool ((x 38).fSlot))), ((.int .i64 ((x 38).fAt))), ((.int .i64 ((x 38).fRights))), ((.bool ((x 38).fUsed))), ((.bool ((x 38).fDirty))), ((.bool ((x 38).fCopy))), ((.bool ((x 39).fHere))), ((.bool ((x 39).fSlot))), ((.int .i64 ((x 39).fAt))), ((.int .i64 ((x 39).fRights))), ((.bool ((x 39).fUsed))), ((.bool ((x 39).fDirty))), ((.bool ((x 39).fCopy))), ((.bool ((x 40).fHere))), ((.bool ((x 40).fSlot))), ((.int .i64 ((x 40).fAt))), ((.int .i64 ((x 40).fRights))), ((.bool ((x 40).fUsed))), ((.bool ((x 40).fDirty))), ((.bool ((x 40).fCopy))), ((.bool ((x 41).fHere))), ((.bool ((x 41).fSlot))), ((.int .i64 ((x 41).fAt))), ((.int .i64 ((x 41).fRights))), ((.bool ((x 41).fUsed))), ((.bool ((x 41).fDirty))), ((.bool ((x 41).fCopy))), ((.bool ((x 42).fHere))), ((.bool ((x 42).fSlot))), ((.int .i64 ((x 42).fAt))), ((.int .i64 ((x 42).fRights))), ((.bool ((x 42).fUsed))), ((.bool ((x 42).fDirty))), ((.bool ((x 42).fCopy))), ((.bool ((x 43).fHere))), ((.bool ((x 43).fSlot))), ((.int .i64 ((x 43).fAt))), ((.int .i64 ((x 43).fRights))), ((.bool ((x 43).fUsed))), ((.bool ((x 43).fDirty))), ((.bool ((x 43).fCopy))), ((.bool ((x 44).fHere))), ((.bool ((x 44).fSlot))), ((.int .i64 ((x 44).fAt))), ((.int .i64 ((x 44).fRights))), ((.bool ((x 44).fUsed))), ((.bool ((x 44).fDirty))), ((.bool ((x 44).fCopy))), ((.bool ((x 45).fHere))), ((.bool ((x 45).fSlot))), ((.int .i64 ((x 45).fAt))), ((.int .i64 ((x 45).fRights))), ((.bool ((x 45).fUsed))), ((.bool ((x 45).fDirty))), ((.bool ((x 45).fCopy))), ((.bool ((x 46).fHere))), ((.bool ((x 46).fSlot))), ((.int .i64 ((x 46).fAt))), ((.int .i64 ((x 46).fRights))), ((.bool ((x 46).fUsed))), ((.bool ((x 46).fDirty))), ((.bool ((x 46).fCopy))), ((.bool ((x 47).fHere))), ((.bool ((x 47).fSlot))), ((.int .i64 ((x 47).fAt))), ((.int .i64 ((x 47).fRights))), ((.bool ((x 47).fUsed))), ((.bool ((x 47).fDirty))), ((.bool ((x 47).fCopy))), ((.bool ((x 48).fHere))), ((.bool ((x 48).fSlot))), ((.int .i64 ((x 48).fAt))), ((.int .i64 ((x 48).fRights))), ((.bool ((x 48).fUsed))), ((.bool ((x 48).fDirty))), ((.bool ((x 48).fCopy))), ((.bool ((x 49).fHere))), ((.bool ((x 49).fSlot))), ((.int .i64 ((x 49).fAt))), ((.int .i64 ((x 49).fRights))), ((.bool ((x 49).fUsed))), ((.bool ((x 49).fDirty))), ((.bool ((x 49).fCopy))), ((.bool ((x 50).fHere))), ((.bool ((x 50).fSlot))), ((.int .i64 ((x 50).fAt))), ((.int .i64 ((x 50).fRights))), ((.bool ((x 50).fUsed))), ((.bool ((x 50).fDirty))), ((.bool ((x 50).fCopy))), ((.bool ((x 51).fHere))), ((.bool ((x 51).fSlot))), ((.int .i64 ((x 51).fAt))), ((.int .i64 ((x 51).fRights))), ((.bool ((x 51).fUsed))), ((.bool ((x 51).fDirty))), ((.bool ((x 51).fCopy))), ((.bool ((x 52).fHere))), ((.bool ((x 52).fSlot))), ((.int .i64 ((x 52).fAt))), ((.int .i64 ((x 52).fRights))), ((.bool ((x 52).fUsed))), ((.bool ((x 52).fDirty))), ((.bool ((x 52).fCopy))), ((.bool ((x 53).fHere))), ((.bool ((x 53).fSlot))), ((.int .i64 ((x 53).fAt))), ((.int .i64 ((x 53).fRights))), ((.bool ((x 53).fUsed))), ((.bool ((x 53).fDirty))), ((.bool ((x 53).fCopy))), ((.bool ((x 54).fHere))), ((.bool ((x 54).fSlot))), ((.int .i64 ((x 54).fAt))), ((.int .i64 ((x 54).fRights))), ((.bool ((x 54).fUsed))), ((.bool ((x 54).fDirty))), ((.bool ((x 54).fCopy))), ((.bool ((x 55).fHere))), ((.bool ((x 55).fSlot))), ((.int .i64 ((x 55).fAt))), ((.int .i64 ((x 55).fRights))), ((.bool ((x 55).fUsed))), ((.bool ((x 55).fDirty))), ((.bool ((x 55).fCopy))), ((.bool ((x 56).fHere))), ((.bool ((x 56).fSlot))), ((.int .i64 ((x 56).fAt))), ((.int .i64 ((x 56).fRights))), ((.bool ((x 56).fUsed))), ((.bool ((x 56).fDirty))), ((.bool ((x 56).fCopy))), ((.bool ((x 57).fHere))), ((.bool ((x 57).fSlot))), ((.int .i64 ((x 57).fAt))), ((.int .i64 ((x 57).fRights))), ((.bool ((x 57).fUsed))), ((.bool ((x 57).fDirty))), ((.bool ((x 57).fCopy))), ((.bool ((x 58).fHere))), ((.bool ((x 58).fSlot))), ((.int .i64 ((x 58).fAt))), ((.int .i64 ((x 58).fRights))), ((.bool ((x 58).fUsed))), ((.bool ((x 58).fDirty))), ((.bool ((x 58).fCopy))), ((.bool ((x 59).fHere))), ((.bool ((x 59).fSlot))), ((.int .i64 ((x 59).fAt))), ((.int .i64 ((x 59).fRights))), ((.bool ((x 59).fUsed))), ((.bool ((x 59).fDirty))), ((.bool ((x 59).fCopy))), ((.bool ((x 60).fHere))), ((.bool ((x 60).fSlot))), ((.int .i64 ((x 60).fAt))), ((.int .i64 ((x 60).fRights))), ((.bool ((x 60).fUsed))), ((.bool ((x 60).fDirty))), ((.bool ((x 60).fCopy))), ((.bool ((x 61).fHere))), ((.bool ((x 61).fSlot))), ((.int .i64 ((x 61).fAt))), ((.int .i64 ((x 61).fRights))), ((.bool ((x 61).fUsed))), ((.bool ((x 61).fDirty))), ((.bool ((x 61).fCopy))), ((.bool ((x 62).fHere))), ((.bool ((x 62).fSlot))), ((.int .i64 ((x 62).fAt))), ((.int .i64 ((x 62).fRights))), ((.bool ((x 62).fUsed))), ((.bool ((x 62).fDirty))), ((.bool ((x 62).fCopy))), ((.bool ((x 63).fHere))), ((.bool ((x 63).fSlot))), ((.int .i64 ((x 63).fAt))), ((.int .i64 ((x 63).fRights))), ((.bool ((x 63).fUsed))), ((.bool ((x 63).fDirty))), ((.bool ((x 63).fCopy)))] [((.bool ((y 0).fHere))), ((.bool ((y 0).fSlot))), ((.int .i64 ((y 0).fAt))), ((.int .i64 ((y 0).fRights))), ((.bool ((y 0).fUsed))), ((.bool ((y 0).fDirty))), ((.bool ((y 0).fCopy))), ((.bool ((y 1).fHere))), ((.bool ((y 1).fSlot))), ((.int .i64 ((y 1).fAt))), ((.int .i64 ((y 1).fRights))), ((.bool ((y 1).fUsed))), ((.bool ((y 1).fDirty))), ((.bool ((y 1).fCopy))), ((.bool ((y 2).fHere))), ((.bool ((y 2).fSlot))), ((.int .i64 ((y 2).fAt))), ((.int .i64 ((y 2).fRights))), ((.bool ((y 2).fUsed))), ((.bool ((y 2).fDirty))), ((.bool ((y 2).fCopy))), ((.bool ((y 3).fHere))), ((.bool ((y 3).fSlot))), ((.int .i64 ((y 3).fAt))), ((.int .i64 ((y 3).fRights))), ((.bool ((y 3).fUsed))), ((.bool ((y 3).fDirty))), ((.bool ((y 3).fCopy))), ((.bool ((y 4).fHere))), ((.bool ((y 4).fSlot))), ((.int .i64 ((y 4).fAt))), ((.int .i64 ((y 4).fRights))), ((.bool ((y 4).fUsed))), ((.bool ((y 4).fDirty))), ((.bool ((y 4).fCopy))), ((.bool ((y 5).fHere))), ((.bool ((y 5).fSlot))), ((.int .i64 ((y 5).fAt))), ((.int .i64 ((y 5).fRights))), ((.bool ((y 5).fUsed))), ((.bool ((y 5).fDirty))), ((.bool ((y 5).fCopy))), ((.bool ((y 6).fHere))), ((.bool ((y 6).fSlot))), ((.int .i64 ((y 6).fAt))), ((.int .i64 ((y 6).fRights))), ((.bool ((y 6).fUsed))), ((.bool ((y 6).fDirty))), ((.bool ((y 6).fCopy))), ((.bool ((y 7).fHere))), ((.bool ((y 7).fSlot))), ((.int .i64 ((y 7).fAt))), ((.int .i64 ((y 7).fRights))), ((.bool ((y 7).fUsed))), ((.bool ((y 7).fDirty))), ((.bool ((y 7).fCopy))), ((.bool ((y 8).fHere))), ((.bool ((y 8).fSlot))), ((.int .i64 ((y 8).fAt))), ((.int .i64 ((y 8).fRights))), ((.bool ((y 8).fUsed))), ((.bool ((y 8).fDirty))), ((.bool ((y 8).fCopy))), ((.bool ((y 9).fHere))), ((.bool ((y 9).fSlot))), ((.int .i64 ((y 9).fAt))), ((.int .i64 ((y 9).fRights))), ((.bool ((y 9).fUsed))), ((.bool ((y 9).fDirty))), ((.bool ((y 9).fCopy))), ((.bool ((y 10).fHere))), ((.bool ((y 10).fSlot))), ((.int .i64 ((y 10).fAt))), ((.int .i64 ((y 10).fRights))), ((.bool ((y 10).fUsed))), ((.bool ((y 10).fDirty))), ((.bool ((y 10).fCopy))), ((.bool ((y 11).fHere))), ((.bool ((y 11).fSlot))), ((.int .i64 ((y 11).fAt))), ((.int .i64 ((y 11).fRights))), ((.bool ((y 11).fUsed))), ((.bool ((y 11).fDirty))), ((.bool ((y 11).fCopy))), ((.bool ((y 12).fHere))), ((.bool ((y 12).fSlot))), ((.int .i64 ((y 12).fAt))), ((.int .i64 ((y 12).fRights))), ((.bool ((y 12).fUsed))), ((.bool ((y 12).fDirty))), ((.bool ((y 12).fCopy))), ((.bool ((y 13).fHere))), ((.bool ((y 13).fSlot))), ((.int .i64 ((y 13).fAt))), ((.int .i64 ((y 13).fRights))), ((.bool ((y 13).fUsed))), ((.bool ((y 13).fDirty))), ((.bool ((y 13).fCopy))), ((.bool ((y 14).fHere))), ((.bool ((y 14).fSlot))), ((.int .i64 ((y 14).fAt))), ((.int .i64 ((y 14).fRights))), ((.bool ((y 14).fUsed))), ((.bool ((y 14).fDirty))), ((.bool ((y 14).fCopy))), ((.bool ((y 15).fHere))), ((.bool ((y 15).fSlot))), ((.int .i64 ((y 15).fAt))), ((.int .i64 ((y 15).fRights))), ((.bool ((y 15).fUsed))), ((.bool ((y 15).fDirty))), ((.bool ((y 15).fCopy))), ((.bool ((y 16).fHere))), ((.bool ((y 16).fSlot))), ((.int .i64 ((y 16).fAt))), ((.int .i64 ((y 16).fRights))), ((.bool ((y 16).fUsed))), ((.bool ((y 16).fDirty))), ((.bool ((y 16).fCopy))), ((.bool ((y 17).fHere))), ((.bool ((y 17).fSlot))), ((.int .i64 ((y 17).fAt))), ((.int .i64 ((y 17).fRights))), ((.bool ((y 17).fUsed))), ((.bool ((y 17).fDirty))), ((.bool ((y 17).fCopy))), ((.bool ((y 18).fHere))), ((.bool ((y 18).fSlot))), ((.int .i64 ((y 18).fAt))), ((.int .i64 ((y 18).fRights))), ((.bool ((y 18).fUsed))), ((.bool ((y 18).fDirty))), ((.bool ((y 18).fCopy))), ((.bool ((y 19).fHere))), ((.bool ((y 19).fSlot))), ((.int .i64 ((y 19).fAt))), ((.int .i64 ((y 19).fRights))), ((.bool ((y 19).fUsed))), ((.bool ((y 19).fDirty))), ((.bool ((y 19).fCopy))), ((.bool ((y 20).fHere))), ((.bool ((y 20).fSlot))), ((.int .i64 ((y 20).fAt))), ((.int .i64 ((y 20).fRights))), ((.bool ((y 20).fUsed))), ((.bool ((y 20).fDirty))), ((.bool ((y 20).fCopy))), ((.bool ((y 21).fHere))), ((.bool ((y 21).fSlot))), ((.int .i64 ((y 21).fAt))), ((.int .i64 ((y 21).fRights))), ((.bool ((y 21).fUsed))), ((.bool ((y 21).fDirty))), ((.bool ((y 21).fCopy))), ((.bool ((y 22).fHere))), ((.bool ((y 22).fSlot))), ((.int .i64 ((y 22).fAt))), ((.int .i64 ((y 22).fRights))), ((.bool ((y 22).fUsed))), ((.bool ((y 22).fDirty))), ((.bool ((y 22).fCopy))), ((.bool ((y 23).fHere))), ((.bool ((y 23).fSlot))), ((.int .i64 ((y 23).fAt))), ((.int .i64 ((y 23).fRights))), ((.bool ((y 23).fUsed))), ((.bool ((y 23).fDirty))), ((.bool ((y 23).fCopy))), ((.bool ((y 24).fHere))), ((.bool ((y 24).fSlot))), ((.int .i64 ((y 24).fAt))), ((.int .i64 ((y 24).fRights))), ((.bool ((y 24).fUsed))), ((.bool ((y 24).fDirty))), ((.bool ((y 24).fCopy))), ((.bool ((y 25).fHere))), ((.bool ((y 25).fSlot))), ((.int .i64 ((y 25).fAt))), ((.int .i64 ((y 25).fRights))), ((.bool ((y 25).fUsed))), ((.bool ((y 25).fDirty))), ((.bool ((y 25).fCopy))), ((.bool ((y 26).fHere))), ((.bool ((y 26).fSlot))), ((.int .i64 ((y 26).fAt))), ((.int .i64 ((y 26).fRights))), ((.bool ((y 26).fUsed))), ((.bool ((y 26).fDirty))), ((.bool ((y 26).fCopy))), ((.bool ((y 27).fHere))), ((.bool ((y 27).fSlot))), ((.int .i64 ((y 27).fAt))), ((.int .i64 ((y 27).fRights))), ((.bool ((y 27).fUsed))), ((.bool ((y 27).fDirty))), ((.bool ((y 27).fCopy))), ((.bool ((y 28).fHere))), ((.bool ((y 28).fSlot))), ((.int .i64 ((y 28).fAt))), ((.int .i64 ((y 28).fRights))), ((.bool ((y 28).fUsed))), ((.bool ((y 28).fDirty))), ((.bool ((y 28).fCopy))), ((.bool ((y 29).fHere))), ((.bool ((y 29).fSlot))), ((.int .i64 ((y 29).fAt))), ((.int .i64 ((y 29).fRights))), ((.bool ((y 29).fUsed))), ((.bool ((y 29).fDirty))), ((.bool ((y 29).fCopy))), ((.bool ((y 30).fHere))), ((.bool ((y 30).fSlot))), ((.int .i64 ((y 30).fAt))), ((.int .i64 ((y 30).fRights))), ((.bool ((y 30).fUsed))), ((.bool ((y 30).fDirty))), ((.bool ((y 30).fCopy))), ((.bool ((y 31).fHere))), ((.bool ((y 31).fSlot))), ((.int .i64 ((y 31).fAt))), ((.int .i64 ((y 31).fRights))), ((.bool ((y 31).fUsed))), ((.bool ((y 31).fDirty))), ((.bool ((y 31).fCopy))), ((.bool ((y 32).fHere))), ((.bool ((y 32).fSlot))), ((.int .i64 ((y 32).fAt))), ((.int .i64 ((y 32).fRights))), ((.bool ((y 32).fUsed))), ((.bool ((y 32).fDirty))), ((.bool ((y 32).fCopy))), ((.bool ((y 33).fHere))), ((.bool ((y 33).fSlot))), ((.int .i64 ((y 33).fAt))), ((.int .i64 ((y 33).fRights))), ((.bool ((y 33).fUsed))), ((.bool ((y 33).fDirty))), ((.bool ((y 33).fCopy))), ((.bool ((y 34).fHere))), ((.bool ((y 34).fSlot))), ((.int .i64 ((y 34).fAt))), ((.int .i64 ((y 34).fRights))), ((.bool ((y 34).fUsed))), ((.bool ((y 34).fDirty))), ((.bool ((y 34).fCopy))), ((.bool ((y 35).fHere))), ((.bool ((y 35).fSlot))), ((.int .i64 ((y 35).fAt))), ((.int .i64 ((y 35).fRights))), ((.bool ((y 35).fUsed))), ((.bool ((y 35).fDirty))), ((.bool ((y 35).fCopy))), ((.bool ((y 36).fHere))), ((.bool ((y 36).fSlot))), ((.int .i64 ((y 36).fAt))), ((.int .i64 ((y 36).fRights))), ((.bool ((y 36).fUsed))), ((.bool ((y 36).fDirty))), ((.bool ((y 36).fCopy))), ((.bool ((y 37).fHere))), ((.bool ((y 37).fSlot))), ((.int .i64 ((y 37).fAt))), ((.int .i64 ((y 37).fRights))), ((.bool ((y 37).fUsed))), ((.bool ((y 37).fDirty))), ((.bool ((y 37).fCopy))), ((.bool ((y 38).fHere))), ((.bool ((y 38).fSlot))), ((.int .i64 ((y 38).fAt))), ((.int .i64 ((y 38).fRights))), ((.bool ((y 38).fUsed))), ((.bool ((y 38).fDirty))), ((.bool ((y 38).fCopy))), ((.bool ((y 39).fHere))), ((.bool ((y 39).fSlot))), ((.int .i64 ((y 39).fAt))), ((.int .i64 ((y 39).fRights))), ((.bool ((y 39).fUsed))), ((.bool ((y 39).fDirty))), ((.bool ((y 39).fCopy))), ((.bool ((y 40).fHere))), ((.bool ((y 40).fSlot))), ((.int .i64 ((y 40).fAt))), ((.int .i64 ((y 40).fRights))), ((.bool ((y 40).fUsed))), ((.bool ((y 40).fDirty))), ((.bool ((y 40).fCopy))), ((.bool ((y 41).fHere))), ((.bool ((y 41).fSlot))), ((.int .i64 ((y 41).fAt))), ((.int .i64 ((y 41).fRights))), ((.bool ((y 41).fUsed))), ((.bool ((y 41).fDirty))), ((.bool ((y 41).fCopy))), ((.bool ((y 42).fHere))), ((.bool ((y 42).fSlot))), ((.int .i64 ((y 42).fAt))), ((.int .i64 ((y 42).fRights))), ((.bool ((y 42).fUsed))), ((.bool ((y 42).fDirty))), ((.bool ((y 42).fCopy))), ((.bool ((y 43).fHere))), ((.bool ((y 43).fSlot))), ((.int .i64 ((y 43).fAt))), ((.int .i64 ((y 43).fRights))), ((.bool ((y 43).fUsed))), ((.bool ((y 43).fDirty))), ((.bool ((y 43).fCopy))), ((.bool ((y 44).fHere))), ((.bool ((y 44).fSlot))), ((.int .i64 ((y 44).fAt))), ((.int .i64 ((y 44).fRights))), ((.bool ((y 44).fUsed))), ((.bool ((y 44).fDirty))), ((.bool ((y 44).fCopy))), ((.bool ((y 45).fHere))), ((.bool ((y 45).fSlot))), ((.int .i64 ((y 45).fAt))), ((.int .i64 ((y 45).fRights))), ((.bool ((y 45).fUsed))), ((.bool ((y 45).fDirty))), ((.bool ((y 45).fCopy))), ((.bool ((y 46).fHere))), ((.bool ((y 46).fSlot))), ((.int .i64 ((y 46).fAt))), ((.int .i64 ((y 46).fRights))), ((.bool ((y 46).fUsed))), ((.bool ((y 46).fDirty))), ((.bool ((y 46).fCopy))), ((.bool ((y 47).fHere))), ((.bool ((y 47).fSlot))), ((.int .i64 ((y 47).fAt))), ((.int .i64 ((y 47).fRights))), ((.bool ((y 47).fUsed))), ((.bool ((y 47).fDirty))), ((.bool ((y 47).fCopy))), ((.bool ((y 48).fHere))), ((.bool ((y 48).fSlot))), ((.int .i64 ((y 48).fAt))), ((.int .i64 ((y 48).fRights))), ((.bool ((y 48).fUsed))), ((.bool ((y 48).fDirty))), ((.bool ((y 48).fCopy))), ((.bool ((y 49).fHere))), ((.bool ((y 49).fSlot))), ((.int .i64 ((y 49).fAt))), ((.int .i64 ((y 49).fRights))), ((.bool ((y 49).fUsed))), ((.bool ((y 49).fDirty))), ((.bool ((y 49).fCopy))), ((.bool ((y 50).fHere))), ((.bool ((y 50).fSlot))), ((.int .i64 ((y 50).fAt))), ((.int .i64 ((y 50).fRights))), ((.bool ((y 50).fUsed))), ((.bool ((y 50).fDirty))), ((.bool ((y 50).fCopy))), ((.bool ((y 51).fHere))), ((.bool ((y 51).fSlot))), ((.int .i64 ((y 51).fAt))), ((.int .i64 ((y 51).fRights))), ((.bool ((y 51).fUsed))), ((.bool ((y 51).fDirty))), ((.bool ((y 51).fCopy))), ((.bool ((y 52).fHere))), ((.bool ((y 52).fSlot))), ((.int .i64 ((y 52).fAt))), ((.int .i64 ((y 52).fRights))), ((.bool ((y 52).fUsed))), ((.bool ((y 52).fDirty))), ((.bool ((y 52).fCopy))), ((.bool ((y 53).fHere))), ((.bool ((y 53).fSlot))), ((.int .i64 ((y 53).fAt))), ((.int .i64 ((y 53).fRights))), ((.bool ((y 53).fUsed))), ((.bool ((y 53).fDirty))), ((.bool ((y 53).fCopy))), ((.bool ((y 54).fHere))), ((.bool ((y 54).fSlot))), ((.int .i64 ((y 54).fAt))), ((.int .i64 ((y 54).fRights))), ((.bool ((y 54).fUsed))), ((.bool ((y 54).fDirty))), ((.bool ((y 54).fCopy))), ((.bool ((y 55).fHere))), ((.bool ((y 55).fSlot))), ((.int .i64 ((y 55).fAt))), ((.int .i64 ((y 55).fRights))), ((.bool ((y 55).fUsed))), ((.bool ((y 55).fDirty))), ((.bool ((y 55).fCopy))), ((.bool ((y 56).fHere))), ((.bool ((y 56).fSlot))), ((.int .i64 ((y 56).fAt))), ((.int .i64 ((y 56).fRights))), ((.bool ((y 56).fUsed))), ((.bool ((y 56).fDirty))), ((.bool ((y 56).fCopy))), ((.bool ((y 57).fHere))), ((.bool ((y 57).fSlot))), ((.int .i64 ((y 57).fAt))), ((.int .i64 ((y 57).fRights))), ((.bool ((y 57).fUsed))), ((.bool ((y 57).fDirty))), ((.bool ((y 57).fCopy))), ((.bool ((y 58).fHere))), ((.bool ((y 58).fSlot))), ((.int .i64 ((y 58).fAt))), ((.int .i64 ((y 58).fRights))), ((.bool ((y 58).fUsed))), ((.bool ((y 58).fDirty))), ((.bool ((y 58).fCopy))), ((.bool ((y 59).fHere))), ((.bool ((y 59).fSlot))), ((.int .i64 ((y 59).fAt))), ((.int .i64 ((y 59).fRights))), ((.bool ((y 59).fUsed))), ((.bool ((y 59).fDirty))), ((.bool ((y 59).fCopy))), ((.bool ((y 60).fHere))), ((.bool ((y 60).fSlot))), ((.int .i64 ((y 60).fAt))), ((.int .i64 ((y 60).fRights))), ((.bool ((y 60).fUsed))), ((.bool ((y 60).fDirty))), ((.bool ((y 60).fCopy))), ((.bool ((y 61).fHere))), ((.bool ((y 61).fSlot))), ((.int .i64 ((y 61).fAt))), ((.int .i64 ((y 61).fRights))), ((.bool ((y 61).fUsed))), ((.bool ((y 61).fDirty))), ((.bool ((y 61).fCopy))), ((.bool ((y 62).fHere))), ((.bool ((y 62).fSlot))), ((.int .i64 ((y 62).fAt))), ((.int .i64 ((y 62).fRights))), ((.bool ((y 62).fUsed))), ((.bool ((y 62).fDirty))), ((.bool ((y 62).fCopy))), ((.bool ((y 63).fHere))), ((.bool ((y 63).fSlot))), ((.int .i64 ((y 63).fAt))), ((.int .i64 ((y 63).fRights))), ((.bool ((y 63).fUsed))), ((.bool ((y 63).fDirty))), ((.bool ((y 63).fCopy)))] (eqA_ringref2_Plain x y) := eqA_of TTok (by kernel_rfl) (by kernel_rfl) (by kernel_rfl)
/- ringhall/table.huge -/
def G_table_huge (n : Nat) (v_e13 : S_entry_Entry) : Option (Bool) :=
  if v_e13.fHere = true then
   some ((remI v_e13.fAt 8) == 0)
  else
   some false
theorem G_table_huge_ok (n : Nat) (v_e13 : S_entry_Entry) (r : Bool) (h : G_table_huge n v_e13 = some r) : Ret Try.prog 109 [eS_entry_Entry v_e13] (eB r) := by
  refine ret_run (n := 11) (fn := Try.f109) (c := bodyOf Try.f109) (by kernel_rfl) (by kernel_rfl) (by kernel_rfl) (by kernel_rfl) ?_
  have hF : KC 11 (FinR Try.prog Try.f109 (eB r)) := FinR.kc' (by kernel_rfl)
  unfold G_table_huge at h
  by_cases h8 : v_e13.fHere = true
  · rw [if_pos h8] at h
    obtain rfl := Option.some.inj h
    exact pend_sound TTok mix 5 (hs := [.c, .t true, .c, .c, .c, .c]) (by kernel_rfl) (by kernel_rfl) (by kernel_rfl) (.cons h8 (.cons (show (8 : Int) ≠ 0 by decide) .nil))
  · rw [if_neg h8] at h
    obtain rfl := Option.some.inj h
    exact pend_sound TTok mix 5 (hs := [.c, .t false, .c, .c, .c]) (by kernel_rfl) (by kernel_rfl) (by kernel_rfl) (.cons (vf h8) .nil)
/- ringhall/entry.None -/
def G_entry_None (n : Nat) (v_e66 : S_entry_Entry) : Option (Bool) :=
  if v_e66.fHere = true then
   some false
  else
   some (!v_e66.fSlot)
theorem G_entry_None_ok (n : Nat) (v_e66 : S_entry_Entry) (r : Bool) (h : G_entry_None n v_e66 = some r) : Ret Try.prog 110 [eS_entry_Entry v_e66] (eB r) := by
  refine ret_run (n := 11) (fn := Try.f110) (c := bodyOf Try.f110) (by kernel_rfl) (by kernel_rfl) (by kernel_rfl) (by kernel_rfl) ?_
  have hF : KC 11 (FinR Try.prog Try.f110 (eB r)) := FinR.kc' (by kernel_rfl)
  unfold G_entry_None at h
  by_cases h67 : v_e66.fHere = true
  · rw [if_pos h67] at h
    obtain rfl := Option.some.inj h
    exact pend_sound TTok mix 5 (hs := [.c, .t false, .c, .c]) (by kernel_rfl) (by kernel_rfl) (by kernel_rfl) (.cons (bnf h67) .nil)
  · rw [if_neg h67] at h
    obtain rfl := Option.some.inj h
    exact pend_sound TTok mix 5 (hs := [.c, .t true, .c, .c, .c]) (by kernel_rfl) (by kernel_rfl) (by kernel_rfl) (.cons (bnt (vf h67)) .nil)
inductive G_entry_Check_C1_R where
  | x0 (v_x149 : Bool)
def G_entry_Check_C1_ex : G_entry_Check_C1_R → Ex
  | .x0 _ => .normal
def G_entry_Check_C1_st (v_e59 : S_entry_Entry) : G_entry_Check_C1_R → PS
  | .x0 v_x149 => ⟨[dd, .ref 0 0, dd, .d (.v (.bool v_x149)), dd, dd, dd, dd, dd, dd, dd, dd, dd, dd, dd, dd, dd, dd, dd, dd, dd, dd, dd, dd, dd, dd, dd, dd, dd, dd, dd, dd, dd, dd, dd, dd, dd, dd, dd, dd, dd, dd, dd, dd, dd, dd, dd, dd, dd, dd], [.box [.d (.v (.bool v_e59.fHere)), .d (.v (.bool v_e59.fSlot)), .d (.v (.int .i64 v_e59.fAt)), .d (.v (.int .i64 v_e59.fRights)), .d (.v (.bool v_e59.fUsed)), .d (.v (.bool v_e59.fDirty)), .d (.v (.bool v_e59.fCopy))]]⟩
def G_entry_Check_C1_hd (v_e59 : S_entry_Entry)  : PS := ⟨[dd, .ref 0 0, dd, dd, dd, dd, dd, dd, dd, dd, dd, dd, dd, dd, dd, dd, dd, dd, dd, dd, dd, dd, dd, dd, dd, dd, dd, dd, dd, dd, dd, dd, dd, dd, dd, dd, dd, dd, dd, dd, dd, dd, dd, dd, dd, dd, dd, dd, dd, dd], [.box [.d (.v (.bool v_e59.fHere)), .d (.v (.bool v_e59.fSlot)), .d (.v (.int .i64 v_e59.fAt)), .d (.v (.int .i64 v_e59.fRights)), .d (.v (.bool v_e59.fUsed)), .d (.v (.bool v_e59.fDirty)), .d (.v (.bool v_e59.fCopy))]]⟩
def G_entry_Check_C1 (n : Nat) (v_e59 : S_entry_Entry) : Option G_entry_Check_C1_R :=
  if v_e59.fRights < 0 then
   some (.x0 true)
  else
   if v_e59.fRights > 7 then
    some (.x0 true)
   else
    if v_e59.fAt < 0 then
     some (.x0 true)
    else
     some (.x0 (decide (v_e59.fAt ≥ 64)))
theorem G_entry_Check_C1_ok {Fi : Ex → PS → Prop} (hF : KC 50 Fi) (ks : List Fr) (n : Nat) (v_e59 : S_entry_Entry)  (o : G_entry_Check_C1_R) (h : G_entry_Check_C1 n v_e59 = some o) (q : RunE Try.prog 50 Fi ks (G_entry_Check_C1_ex o) (G_entry_Check_C1_st v_e59 o)) : RunE Try.prog 50 Fi (.s (cL (cB (cL (cR (bodyOf Try.f105))))) :: ks) .normal (G_entry_Check_C1_hd v_e59) := by
  unfold G_entry_Check_C1 at h
  by_cases h185 : v_e59.fRights < 0
  · rw [if_pos h185] at h
    cases h
    exact pkk_sound TTok mix hF 1 (hs := [.c, .t true, .c, .c, .c, .c, .c, .c, .c, .c]) (ts := []) (s := [0]) (l := [1, 3]) (by kernel_rfl) (by kernel_rfl) (.cons (dt h185) .nil) q
  · rw [if_neg h185] at h
    by_cases h186 : v_e59.fRights > 7
    · rw [if_pos h186] at h
      cases h
      exact pkk_sound TTok mix hF 1 (hs := [.c, .t false, .c, .c, .c, .t true, .c, .c, .c, .c, .c]) (ts := []) (s := [0]) (l := [1, 3]) (by kernel_rfl) (by kernel_rfl) (.cons (df h185) (.cons (dt h186) .nil)) q
    · rw [if_neg h186] at h
      by_cases h187 : v_e59.fAt < 0
      · rw [if_pos h187] at h
        cases h
        exact pkk_sound TTok mix hF 1 (hs := [.c, .t false, .c, .c, .c, .t false, .c, .c, .c, .t true, .c, .c]) (ts := []) (s := [0]) (l := [1, 3]) (by kernel_rfl) (by kernel_rfl) (.cons (df h185) (.cons (df h186) (.cons (dt h187) .nil))) q
      · rw [if_neg h187] at h
        cases h
        exact pkk_sound TTok mix hF 1 (hs := [.c, .t false, .c, .c, .c, .t false, .c, .c, .c, .t false, .c, .c, .c]) (ts := []) (s := [0]) (l := [1, 3]) (by kernel_rfl) (by kernel_rfl) (.cons (df h185) (.cons (df h186) (.cons (df h187) .nil))) q
inductive G_entry_Check_C2_R where
  | x0 (v_x200 : Bool)
def G_entry_Check_C2_ex : G_entry_Check_C2_R → Ex
  | .x0 _ => .normal
def G_entry_Check_C2_st (v_e59 : S_entry_Entry) : G_entry_Check_C2_R → PS
  | .x0 v_x200 => ⟨[dd, dd, dd, dd, dd, dd, dd, dd, dd, dd, dd, dd, dd, dd, dd, dd, dd, dd, dd, dd, dd, dd, .d (.v (.bool v_x200)), dd, dd, dd, dd, dd, dd, dd, dd, dd, dd, dd, dd, dd, dd, dd, dd, dd, dd, dd, dd, dd, dd, dd, dd, dd, dd, dd], []⟩
def G_entry_Check_C2_hd (v_e59 : S_entry_Entry)  : PS := ⟨[dd, .ref 0 0, dd, dd, dd, dd, dd, dd, dd, dd, dd, dd, dd, dd, dd, dd, dd, dd, dd, dd, dd, dd, .d (.v (.bool v_e59.fSlot)), dd, dd, dd, dd, dd, dd, dd, dd, dd, dd, dd, dd, dd, dd, dd, dd, dd, dd, dd, dd, dd, dd, dd, dd, dd, dd, dd], [.box [.d (.v (.bool v_e59.fHere)), .d (.v (.bool v_e59.fSlot)), .d (.v (.int .i64 v_e59.fAt)), .d (.v (.int .i64 v_e59.fRights)), .d (.v (.bool v_e59.fUsed)), .d (.v (.bool v_e59.fDirty)), .d (.v (.bool v_e59.fCopy))]]⟩
def G_entry_Check_C2 (n : Nat) (v_e59 : S_entry_Entry) : Option G_entry_Check_C2_R :=
  if v_e59.fSlot = true then
   some (.x0 true)
  else
   if v_e59.fDirty = true then
    if v_e59.fHere = true then
     if v_e59.fUsed = true then
      (G_entry_None n v_e59).bind fun (v_r202 : (Bool)) =>
      if v_r202 = true then
       some (.x0 (eqRes .neq (eqS_entry_Entry v_e59 (S_entry_Entry.mk false false 0 0 false false false))))
      else
       some (.x0 false)
     else
      (G_entry_None n v_e59).bind fun (v_r205 : (Bool)) =>
      if v_r205 = true then
       some (.x0 (eqRes .neq (eqS_entry_Entry v_e59 (S_entry_Entry.mk false false 0 0 false false false))))
      else
       some (.x0 false)
    else
     some (.x0 true)
   else
    if v_e59.fUsed = true then
     if v_e59.fHere = true then
      (G_entry_None n v_e59).bind fun (v_r209 : (Bool)) =>
      if v_r209 = true then
       some (.x0 (eqRes .neq (eqS_entry_Entry v_e59 (S_entry_Entry.mk false false 0 0 false false false))))
      else
       some (.x0 false)
     else
      some (.x0 true)
    else
     (G_entry_None n v_e59).bind fun (v_r212 : (Bool)) =>
     if v_r212 = true then
      some (.x0 (eqRes .neq (eqS_entry_Entry v_e59 (S_entry_Entry.mk false false 0 0 false false false))))
     else
      some (.x0 false)
theorem G_entry_Check_C2_ok {Fi : Ex → PS → Prop} (hF : KC 50 Fi) (ks : List Fr) (n : Nat) (v_e59 : S_entry_Entry)  (o : G_entry_Check_C2_R) (h : G_entry_Check_C2 n v_e59 = some o) (q : RunE Try.prog 50 Fi ks (G_entry_Check_C2_ex o) (G_entry_Check_C2_st v_e59 o)) : RunE Try.prog 50 Fi (.s (cR (cL (cF (cR (cB (cL (cR (bodyOf Try.f105)))))))) :: ks) .normal (G_entry_Check_C2_hd v_e59) := by
  unfold G_entry_Check_C2 at h
  by_cases h265 : v_e59.fSlot = true
  · rw [if_pos h265] at h
    cases h
    exact pkk_sound TTok mix hF 2 (hs := [.t true]) (ts := []) (s := []) (l := [22]) (by kernel_rfl) (by kernel_rfl) (.cons h265 .nil) q
  · rw [if_neg h265] at h
    by_cases h266 : v_e59.fDirty = true
    · rw [if_pos h266] at h
      by_cases h267 : v_e59.fHere = true
      · rw [if_pos h267] at h
        by_cases h268 : v_e59.fUsed = true
        · rw [if_pos h268] at h
          obtain ⟨v_r202, h269, h⟩ := bind_some h
          by_cases h270 : v_r202 = true
          · rw [if_pos h270] at h
            cases h
            exact pkk_sound TTok mix hF 8 (hs := [.t false, .c, .t true, .c, .c, .c, .t false, .c, .t true, .c, .c, .c, .t false, .c, .r (eB v_r202), .t true, .c, .c, .c, .q (eqS_entry_Entry v_e59 (S_entry_Entry.mk false false 0 0 false false false))]) (ts := []) (s := []) (l := [22]) (by kernel_rfl) (by kernel_rfl) (.cons (vf h265) (.cons h266 (.cons (bnf h267) (.cons h268 (.cons (bnf h267) (.cons (G_entry_None_ok n v_e59 _ h269) (.cons h270 (.cons (eqS_entry_Entry_ok v_e59 (S_entry_Entry.mk false false 0 0 false false false)) .nil)))))))) q
          · rw [if_neg h270] at h
            cases h
            exact pkk_sound TTok mix hF 8 (hs := [.t false, .c, .t true, .c, .c, .c, .t false, .c, .t true, .c, .c, .c, .t false, .c, .r (eB v_r202), .t false, .c, .c]) (ts := []) (s := []) (l := [22]) (by kernel_rfl) (by kernel_rfl) (.cons (vf h265) (.cons h266 (.cons (bnf h267) (.cons h268 (.cons (bnf h267) (.cons (G_entry_None_ok n v_e59 _ h269) (.cons (vf h270) .nil))))))) q
        · rw [if_neg h268] at h
          obtain ⟨v_r205, h271, h⟩ := bind_some h
          by_cases h272 : v_r205 = true
          · rw [if_pos h272] at h
            cases h
            exact pkk_sound TTok mix hF 8 (hs := [.t false, .c, .t true, .c, .c, .c, .t false, .c, .t false, .c, .c, .c, .c, .r (eB v_r205), .t true, .c, .c, .c, .q (eqS_entry_Entry v_e59 (S_entry_Entry.mk false false 0 0 false false false))]) (ts := []) (s := []) (l := [22]) (by kernel_rfl) (by kernel_rfl) (.cons (vf h265) (.cons h266 (.cons (bnf h267) (.cons (vf h268) (.cons (G_entry_None_ok n v_e59 _ h271) (.cons h272 (.cons (eqS_entry_Entry_ok v_e59 (S_entry_Entry.mk false false 0 0 false false false)) .nil))))))) q
          · rw [if_neg h272] at h
            cases h
            exact pkk_sound TTok mix hF 8 (hs := [.t false, .c, .t true, .c, .c, .c, .t false, .c, .t false, .c, .c, .c, .c, .r (eB v_r205), .t false, .c, .c]) (ts := []) (s := []) (l := [22]) (by kernel_rfl) (by kernel_rfl) (.cons (vf h265) (.cons h266 (.cons (bnf h267) (.cons (vf h268) (.cons (G_entry_None_ok n v_e59 _ h271) (.cons (vf h272) .nil)))))) q
      · rw [if_neg h267] at h
        cases h
        exact pkk_sound TTok mix hF 5 (hs := [.t false, .c, .t true, .c, .c, .c, .t true]) (ts := []) (s := []) (l := [22]) (by kernel_rfl) (by kernel_rfl) (.cons (vf h265) (.cons h266 (.cons (bnt (vf h267)) .nil))) q
    · rw [if_neg h266] at h
      by_cases h273 : v_e59.fUsed = true
      · rw [if_pos h273] at h
        by_cases h274 : v_e59.fHere = true
        · rw [if_pos h274] at h
          obtain ⟨v_r209, h275, h⟩ := bind_some h
          by_cases h276 : v_r209 = true
          · rw [if_pos h276] at h
            cases h
            exact pkk_sound TTok mix hF 8 (hs := [.t false, .c, .t false, .c, .c, .c, .c, .t true, .c, .c, .c, .t false, .c, .r (eB v_r209), .t true, .c, .c, .c, .q (eqS_entry_Entry v_e59 (S_entry_Entry.mk false false 0 0 false false false))]) (ts := []) (s := []) (l := [22]) (by kernel_rfl) (by kernel_rfl) (.cons (vf h265) (.cons (vf h266) (.cons h273 (.cons (bnf h274) (.cons (G_entry_None_ok n v_e59 _ h275) (.cons h276 (.cons (eqS_entry_Entry_ok v_e59 (S_entry_Entry.mk false false 0 0 false false false)) .nil))))))) q
          · rw [if_neg h276] at h
            cases h
            exact pkk_sound TTok mix hF 8 (hs := [.t false, .c, .t false, .c, .c, .c, .c, .t true, .c, .c, .c, .t false, .c, .r (eB v_r209), .t false, .c, .c]) (ts := []) (s := []) (l := [22]) (by kernel_rfl) (by kernel_rfl) (.cons (vf h265) (.cons (vf h266) (.cons h273 (.cons (bnf h274) (.cons (G_entry_None_ok n v_e59 _ h275) (.cons (vf h276) .nil)))))) q
        · rw [if_neg h274] at h
          cases h
          exact pkk_sound TTok mix hF 8 (hs := [.t false, .c, .t false, .c, .c, .c, .c, .t true, .c, .c, .c, .t true]) (ts := []) (s := []) (l := [22]) (by kernel_rfl) (by kernel_rfl) (.cons (vf h265) (.cons (vf h266) (.cons h273 (.cons (bnt (vf h274)) .nil)))) q
      · rw [if_neg h273] at h
        obtain ⟨v_r212, h277, h⟩ := bind_some h
        by_cases h278 : v_r212 = true
        · rw [if_pos h278] at h
          cases h
          exact pkk_sound TTok mix hF 8 (hs := [.t false, .c, .t false, .c, .c, .c, .c, .t false, .c, .c, .c, .c, .r (eB v_r212), .t true, .c, .c, .c, .q (eqS_entry_Entry v_e59 (S_entry_Entry.mk false false 0 0 false false false))]) (ts := []) (s := []) (l := [22]) (by kernel_rfl) (by kernel_rfl) (.cons (vf h265) (.cons (vf h266) (.cons (vf h273) (.cons (G_entry_None_ok n v_e59 _ h277) (.cons h278 (.cons (eqS_entry_Entry_ok v_e59 (S_entry_Entry.mk false false 0 0 false false false)) .nil)))))) q
        · rw [if_neg h278] at h
          cases h
          exact pkk_sound TTok mix hF 8 (hs := [.t false, .c, .t false, .c, .c, .c, .c, .t false, .c, .c, .c, .c, .r (eB v_r212), .t false, .c, .c]) (ts := []) (s := []) (l := [22]) (by kernel_rfl) (by kernel_rfl) (.cons (vf h265) (.cons (vf h266) (.cons (vf h273) (.cons (G_entry_None_ok n v_e59 _ h277) (.cons (vf h278) .nil))))) q
inductive G_entry_Check_C3_R where
  | x0 (v_x221 : Bool)
def G_entry_Check_C3_ex : G_entry_Check_C3_R → Ex
  | .x0 _ => .normal
def G_entry_Check_C3_st (v_e59 : S_entry_Entry) : G_entry_Check_C3_R → PS
  | .x0 v_x221 => ⟨[dd, dd, dd, dd, dd, dd, dd, dd, dd, dd, dd, dd, dd, dd, dd, dd, dd, dd, dd, dd, dd, dd, .d (.v (.bool v_x221)), dd, dd, dd, dd, dd, dd, dd, dd, dd, dd, dd, dd, dd, dd, dd, dd, dd, dd, dd, dd, dd, dd, dd, dd, dd, dd, dd], []⟩
def G_entry_Check_C3_hd (v_e59 : S_entry_Entry)  : PS := ⟨[dd, .ref 0 0, dd, dd, dd, dd, dd, dd, dd, dd, dd, dd, dd, dd, dd, dd, dd, dd, dd, dd, dd, dd, .d (.v (.bool false)), dd, dd, dd, dd, dd, dd, dd, dd, dd, dd, dd, dd, dd, dd, dd, dd, dd, dd, dd, dd, dd, dd, dd, dd, dd, dd, dd], [.box [.d (.v (.bool v_e59.fHere)), .d (.v (.bool v_e59.fSlot)), .d (.v (.int .i64 v_e59.fAt)), .d (.v (.int .i64 v_e59.fRights)), .d (.v (.bool v_e59.fUsed)), .d (.v (.bool v_e59.fDirty)), .d (.v (.bool v_e59.fCopy))]]⟩
def G_entry_Check_C3 (n : Nat) (v_e59 : S_entry_Entry) : Option G_entry_Check_C3_R :=
  if v_e59.fDirty = true then
   if v_e59.fHere = true then
    if v_e59.fUsed = true then
     (G_entry_None n v_e59).bind fun (v_r222 : (Bool)) =>
     if v_r222 = true then
      some (.x0 (eqRes .neq (eqS_entry_Entry v_e59 (S_entry_Entry.mk false false 0 0 false false false))))
     else
      some (.x0 false)
    else
     (G_entry_None n v_e59).bind fun (v_r225 : (Bool)) =>
     if v_r225 = true then
      some (.x0 (eqRes .neq (eqS_entry_Entry v_e59 (S_entry_Entry.mk false false 0 0 false false false))))
     else
      some (.x0 false)
   else
    some (.x0 true)
  else
   if v_e59.fUsed = true then
    if v_e59.fHere = true then
     (G_entry_None n v_e59).bind fun (v_r229 : (Bool)) =>
     if v_r229 = true then
      some (.x0 (eqRes .neq (eqS_entry_Entry v_e59 (S_entry_Entry.mk false false 0 0 false false false))))
     else
      some (.x0 false)
    else
     some (.x0 true)
   else
    (G_entry_None n v_e59).bind fun (v_r232 : (Bool)) =>
    if v_r232 = true then
     some (.x0 (eqRes .neq (eqS_entry_Entry v_e59 (S_entry_Entry.mk false false 0 0 false false false))))
    else
     some (.x0 false)
theorem G_entry_Check_C3_ok {Fi : Ex → PS → Prop} (hF : KC 50 Fi) (ks : List Fr) (n : Nat) (v_e59 : S_entry_Entry)  (o : G_entry_Check_C3_R) (h : G_entry_Check_C3 n v_e59 = some o) (q : RunE Try.prog 50 Fi ks (G_entry_Check_C3_ex o) (G_entry_Check_C3_st v_e59 o)) : RunE Try.prog 50 Fi (.s (cR (cL (cF (cR (cB (cL (cR (bodyOf Try.f105)))))))) :: ks) .normal (G_entry_Check_C3_hd v_e59) := by
  unfold G_entry_Check_C3 at h
  by_cases h294 : v_e59.fDirty = true
  · rw [if_pos h294] at h
    by_cases h295 : v_e59.fHere = true
    · rw [if_pos h295] at h
      by_cases h296 : v_e59.fUsed = true
      · rw [if_pos h296] at h
        obtain ⟨v_r222, h297, h⟩ := bind_some h
        by_cases h298 : v_r222 = true
        · rw [if_pos h298] at h
          cases h
          exact pkk_sound TTok mix hF 8 (hs := [.c, .c, .t true, .c, .c, .c, .t false, .c, .t true, .c, .c, .c, .t false, .c, .r (eB v_r222), .t true, .c, .c, .c, .q (eqS_entry_Entry v_e59 (S_entry_Entry.mk false false 0 0 false false false))]) (ts := []) (s := []) (l := [22]) (by kernel_rfl) (by kernel_rfl) (.cons h294 (.cons (bnf h295) (.cons h296 (.cons (bnf h295) (.cons (G_entry_None_ok n v_e59 _ h297) (.cons h298 (.cons (eqS_entry_Entry_ok v_e59 (S_entry_Entry.mk false false 0 0 false false false)) .nil))))))) q
        · rw [if_neg h298] at h
          cases h
          exact pkk_sound TTok mix hF 8 (hs := [.c, .c, .t true, .c, .c, .c, .t false, .c, .t true, .c, .c, .c, .t false, .c, .r (eB v_r222), .t false, .c, .c]) (ts := []) (s := []) (l := [22]) (by kernel_rfl) (by kernel_rfl) (.cons h294 (.cons (bnf h295) (.cons h296 (.cons (bnf h295) (.cons (G_entry_None_ok n v_e59 _ h297) (.cons (vf h298) .nil)))))) q
      · rw [if_neg h296] at h
        obtain ⟨v_r225, h299, h⟩ := bind_some h
        by_cases h300 : v_r225 = true
        · rw [if_pos h300] at h
          cases h
          exact pkk_sound TTok mix hF 8 (hs := [.c, .c, .t true, .c, .c, .c, .t false, .c, .t false, .c, .c, .c, .c, .r (eB v_r225), .t true, .c, .c, .c, .q (eqS_entry_Entry v_e59 (S_entry_Entry.mk false false 0 0 false false false))]) (ts := []) (s := []) (l := [22]) (by kernel_rfl) (by kernel_rfl) (.cons h294 (.cons (bnf h295) (.cons (vf h296) (.cons (G_entry_None_ok n v_e59 _ h299) (.cons h300 (.cons (eqS_entry_Entry_ok v_e59 (S_entry_Entry.mk false false 0 0 false false false)) .nil)))))) q
        · rw [if_neg h300] at h
          cases h
          exact pkk_sound TTok mix hF 8 (hs := [.c, .c, .t true, .c, .c, .c, .t false, .c, .t false, .c, .c, .c, .c, .r (eB v_r225), .t false, .c, .c]) (ts := []) (s := []) (l := [22]) (by kernel_rfl) (by kernel_rfl) (.cons h294 (.cons (bnf h295) (.cons (vf h296) (.cons (G_entry_None_ok n v_e59 _ h299) (.cons (vf h300) .nil))))) q
    · rw [if_neg h295] at h
      cases h
      exact pkk_sound TTok mix hF 5 (hs := [.c, .c, .t true, .c, .c, .c, .t true]) (ts := []) (s := []) (l := [22]) (by kernel_rfl) (by kernel_rfl) (.cons h294 (.cons (bnt (vf h295)) .nil)) q
  · rw [if_neg h294] at h
    by_cases h301 : v_e59.fUsed = true
    · rw [if_pos h301] at h
      by_cases h302 : v_e59.fHere = true
      · rw [if_pos h302] at h
        obtain ⟨v_r229, h303, h⟩ := bind_some h
        by_cases h304 : v_r229 = true
        · rw [if_pos h304] at h
          cases h
          exact pkk_sound TTok mix hF 8 (hs := [.c, .c, .t false, .c, .c, .c, .c, .t true, .c, .c, .c, .t false, .c, .r (eB v_r229), .t true, .c, .c, .c, .q (eqS_entry_Entry v_e59 (S_entry_Entry.mk false false 0 0 false false false))]) (ts := []) (s := []) (l := [22]) (by kernel_rfl) (by kernel_rfl) (.cons (vf h294) (.cons h301 (.cons (bnf h302) (.cons (G_entry_None_ok n v_e59 _ h303) (.cons h304 (.cons (eqS_entry_Entry_ok v_e59 (S_entry_Entry.mk false false 0 0 false false false)) .nil)))))) q
        · rw [if_neg h304] at h
          cases h
          exact pkk_sound TTok mix hF 8 (hs := [.c, .c, .t false, .c, .c, .c, .c, .t true, .c, .c, .c, .t false, .c, .r (eB v_r229), .t false, .c, .c]) (ts := []) (s := []) (l := [22]) (by kernel_rfl) (by kernel_rfl) (.cons (vf h294) (.cons h301 (.cons (bnf h302) (.cons (G_entry_None_ok n v_e59 _ h303) (.cons (vf h304) .nil))))) q
      · rw [if_neg h302] at h
        cases h
        exact pkk_sound TTok mix hF 8 (hs := [.c, .c, .t false, .c, .c, .c, .c, .t true, .c, .c, .c, .t true]) (ts := []) (s := []) (l := [22]) (by kernel_rfl) (by kernel_rfl) (.cons (vf h294) (.cons h301 (.cons (bnt (vf h302)) .nil))) q
    · rw [if_neg h301] at h
      obtain ⟨v_r232, h305, h⟩ := bind_some h
      by_cases h306 : v_r232 = true
      · rw [if_pos h306] at h
        cases h
        exact pkk_sound TTok mix hF 8 (hs := [.c, .c, .t false, .c, .c, .c, .c, .t false, .c, .c, .c, .c, .r (eB v_r232), .t true, .c, .c, .c, .q (eqS_entry_Entry v_e59 (S_entry_Entry.mk false false 0 0 false false false))]) (ts := []) (s := []) (l := [22]) (by kernel_rfl) (by kernel_rfl) (.cons (vf h294) (.cons (vf h301) (.cons (G_entry_None_ok n v_e59 _ h305) (.cons h306 (.cons (eqS_entry_Entry_ok v_e59 (S_entry_Entry.mk false false 0 0 false false false)) .nil))))) q
      · rw [if_neg h306] at h
        cases h
        exact pkk_sound TTok mix hF 8 (hs := [.c, .c, .t false, .c, .c, .c, .c, .t false, .c, .c, .c, .c, .r (eB v_r232), .t false, .c, .c]) (ts := []) (s := []) (l := [22]) (by kernel_rfl) (by kernel_rfl) (.cons (vf h294) (.cons (vf h301) (.cons (G_entry_None_ok n v_e59 _ h305) (.cons (vf h306) .nil)))) q
/- ringhall/entry.Check -/
def G_entry_Check (n : Nat) (v_e59 : S_entry_Entry) : Option (Int) :=
  (G_entry_Check_C1 n v_e59).bind fun v_o153 => match v_o153 with
  | .x0 v_z154 =>
    if v_z154 = true then
     some 1
    else
     if v_e59.fHere = true then
      (G_entry_Check_C2 n v_e59).bind fun v_o215 => match v_o215 with
      | .x0 v_z216 =>
        if v_z216 = true then
         some 3
        else
         some 0
     else
      (G_entry_Check_C3 n v_e59).bind fun v_o235 => match v_o235 with
      | .x0 v_z236 =>
        if v_z236 = true then
         some 3
        else
         some 0
theorem G_entry_Check_ok (n : Nat) (v_e59 : S_entry_Entry) (r : Int) (h : G_entry_Check n v_e59 = some r) : Ret Try.prog 105 [eS_entry_Entry v_e59] ((eI .i64) r) := by
  refine ret_run (n := 50) (fn := Try.f105) (c := bodyOf Try.f105) (by kernel_rfl) (by kernel_rfl) (by kernel_rfl) (by kernel_rfl) ?_
  have hF : KC 50 (FinR Try.prog Try.f105 ((eI .i64) r)) := FinR.kc' (by kernel_rfl)
  unfold G_entry_Check at h
  obtain ⟨v_o153, h188, h⟩ := bind_some h
  refine pkk_sound TTok mix hF 5 (hs := []) (ts := []) (s := [0]) (l := [1]) (by kernel_rfl) (by kernel_rfl) .nil (G_entry_Check_C1_ok hF (.s (cR (cB (cL (cR (bodyOf Try.f105))))) :: .b 0 :: .s (cR (cR (bodyOf Try.f105))) :: []) n v_e59 _ h188 ?_)
  cases v_o153 with
  | x0 v_z154 =>
    dsimp only at h
    by_cases h249 : v_z154 = true
    · rw [if_pos h249] at h
      obtain rfl := Option.some.inj h
      exact pend_sound TTok mix 6 (hs := [.t true]) (by kernel_rfl) (by kernel_rfl) (by kernel_rfl) (.cons h249 .nil)
    · rw [if_neg h249] at h
      by_cases h250 : v_e59.fHere = true
      · rw [if_pos h250] at h
        obtain ⟨v_o215, h279, h⟩ := bind_some h
        refine pkk_sound TTok mix hF 4 (hs := [.t false, .c, .t true, .c, .c]) (ts := []) (s := [0]) (l := [1, 22]) (by kernel_rfl) (by kernel_rfl) (.cons (vf h249) (.cons h250 .nil)) (G_entry_Check_C2_ok hF (.s (cR (cF (cR (cB (cL (cR (bodyOf Try.f105))))))) :: .b 0 :: .s (cR (cR (bodyOf Try.f105))) :: []) n v_e59 _ h279 ?_)
        cases v_o215 with
        | x0 v_z216 =>
          dsimp only at h
          by_cases h280 : v_z216 = true
          · rw [if_pos h280] at h
            obtain rfl := Option.some.inj h
            exact pend_sound TTok mix 6 (hs := [.t true]) (by kernel_rfl) (by kernel_rfl) (by kernel_rfl) (.cons h280 .nil)
          · rw [if_neg h280] at h
            obtain rfl := Option.some.inj h
            exact pend_sound TTok mix 6 (hs := [.t false]) (by kernel_rfl) (by kernel_rfl) (by kernel_rfl) (.cons (vf h280) .nil)
      · rw [if_neg h250] at h
        obtain ⟨v_o235, h307, h⟩ := bind_some h
        refine pkk_sound TTok mix hF 4 (hs := [.t false, .c, .t false, .c]) (ts := []) (s := [0]) (l := [1, 22]) (by kernel_rfl) (by kernel_rfl) (.cons (vf h249) (.cons (vf h250) .nil)) (G_entry_Check_C3_ok hF (.s (cR (cF (cR (cB (cL (cR (bodyOf Try.f105))))))) :: .b 0 :: .s (cR (cR (bodyOf Try.f105))) :: []) n v_e59 _ h307 ?_)
        cases v_o235 with
        | x0 v_z236 =>
          dsimp only at h
          by_cases h308 : v_z236 = true
          · rw [if_pos h308] at h
            obtain rfl := Option.some.inj h
            exact pend_sound TTok mix 6 (hs := [.t true]) (by kernel_rfl) (by kernel_rfl) (by kernel_rfl) (.cons h308 .nil)
          · rw [if_neg h308] at h
            obtain rfl := Option.some.inj h
            exact pend_sound TTok mix 6 (hs := [.t false]) (by kernel_rfl) (by kernel_rfl) (by kernel_rfl) (.cons (vf h308) .nil)
inductive G_table_Check_C1_R where
  | x0 (v_x34 : Bool)
def G_table_Check_C1_ex : G_table_Check_C1_R → Ex
  | .x0 _ => .normal
def G_table_Check_C1_st (v_t9 : (Fin 8 → S_table_Node)) (v_x10 : Int) (v_y11 : S_table_Node) : G_table_Check_C1_R → PS
  | .x0 v_x34 => ⟨[dd, dd, dd, dd, .ref 0 0, dd, dd, dd, dd, .d (.agg (cA_t49 v_t9)), .d (.v (.int .i64 v_x10)), dd, dd, .d (.v (.bool v_x34)), dd, dd, dd, dd, dd, dd, dd, dd, dd, dd, dd, dd, dd, dd, dd, dd, dd, dd, dd, dd, dd, dd, dd, dd, dd, dd, dd, dd, dd, dd, dd, dd, dd, dd, dd, dd, dd, dd, dd, dd, dd, dd, dd, dd, dd, dd, dd, dd, dd, dd, dd, dd, dd, dd, dd, dd, dd], [.box [.d (.v (.bool v_y11.fHuge)), .d (.sl (v_y11.fEntries.map eS_entry_Entry))]]⟩
def G_table_Check_C1_hd (v_t9 : (Fin 8 → S_table_Node)) (v_x10 : Int) (v_y11 : S_table_Node)  : PS := ⟨[dd, dd, dd, dd, .ref 0 0, dd, dd, dd, dd, .d (.agg (cA_t49 v_t9)), .d (.v (.int .i64 v_x10)), dd, dd, dd, dd, dd, dd, dd, dd, dd, dd, dd, dd, dd, dd, dd, dd, dd, dd, dd, dd, dd, dd, dd, dd, dd, dd, dd, dd, dd, dd, dd, dd, dd, dd, dd, dd, dd, dd, dd, dd, dd, dd, dd, dd, dd, dd, dd, dd, dd, dd, dd, dd, dd, dd, dd, dd, dd, dd, dd, dd], [.box [.d (.v (.bool v_y11.fHuge)), .d (.sl (v_y11.fEntries.map eS_entry_Entry))]]⟩
def G_table_Check_C1 (n : Nat) (v_t9 : (Fin 8 → S_table_Node)) (v_x10 : Int) (v_y11 : S_table_Node) : Option G_table_Check_C1_R :=
  if v_y11.fHuge = true then
   if (v_y11.fEntries.length : Int) = 1 then
    (getI v_y11.fEntries 0).bind fun (v_y35 : S_entry_Entry) =>
    (G_table_huge n v_y35).bind fun (v_r36 : (Bool)) =>
    some (.x0 (!v_r36))
   else
    some (.x0 true)
  else
   some (.x0 false)
theorem G_table_Check_C1_ok {Fi : Ex → PS → Prop} (hF : KC 71 Fi) (ks : List Fr) (n : Nat) (v_t9 : (Fin 8 → S_table_Node)) (v_x10 : Int) (v_y11 : S_table_Node)  (o : G_table_Check_C1_R) (h : G_table_Check_C1 n v_t9 v_x10 v_y11 = some o) (q : RunE Try.prog 71 Fi ks (G_table_Check_C1_ex o) (G_table_Check_C1_st v_t9 v_x10 v_y11 o)) : RunE Try.prog 71 Fi (.s (cL (cL (cB (cL (cR (cB (cL (cR (cR (cP (cB (cR (cL (cR (bodyOf Try.f32))))))))))))))) :: ks) .normal (G_table_Check_C1_hd v_t9 v_x10 v_y11) := by
  unfold G_table_Check_C1 at h
  by_cases h33 : v_y11.fHuge = true
  · rw [if_pos h33] at h
    by_cases h34 : (v_y11.fEntries.length : Int) = 1
    · rw [if_pos h34] at h
      obtain ⟨v_y35, h35, h⟩ := bind_some h
      obtain ⟨v_r36, h36, h⟩ := bind_some h
      cases h
      exact pkk_sound TTok mix hF 1 (hs := [.c, .t true, .c, .c, .c, .u (.d (.v (.int .i64 (v_y11.fEntries.length : Int)))), .c, .c, .t false, .c, .c, .c, .y (eS_entry_Entry v_y35), .c, .c, .r (eB v_r36), .c, .c]) (ts := []) (s := [0]) (l := [4, 9, 10, 13]) (by kernel_rfl) (by kernel_rfl) (.cons h33 (.cons (len_ob (f := eS_entry_Entry) (l := v_y11.fEntries)) (.cons (nf h34) (.cons (getI_ob (f := eS_entry_Entry) h35) (.cons (G_table_huge_ok n v_y35 _ h36) .nil))))) q
    · rw [if_neg h34] at h
      cases h
      exact pkk_sound TTok mix hF 1 (hs := [.c, .t true, .c, .c, .c, .u (.d (.v (.int .i64 (v_y11.fEntries.length : Int)))), .c, .c, .t true, .c, .c, .c, .c, .c, .c]) (ts := []) (s := [0]) (l := [4, 9, 10, 13]) (by kernel_rfl) (by kernel_rfl) (.cons h33 (.cons (len_ob (f := eS_entry_Entry) (l := v_y11.fEntries)) (.cons (nt h34) .nil))) q
  · rw [if_neg h33] at h
    cases h
    exact pkk_sound TTok mix hF 1 (hs := [.c, .t false, .c, .c, .c, .c, .c]) (ts := []) (s := [0]) (l := [4, 9, 10, 13]) (by kernel_rfl) (by kernel_rfl) (.cons (vf h33) .nil) q
inductive G_table_Check_C2_R where
  | x0 (v_x47 : Bool)
def G_table_Check_C2_ex : G_table_Check_C2_R → Ex
  | .x0 _ => .normal
def G_table_Check_C2_st (v_t9 : (Fin 8 → S_table_Node)) (v_x10 : Int) (v_y11 : S_table_Node) : G_table_Check_C2_R → PS
  | .x0 v_x47 => ⟨[dd, dd, dd, dd, .ref 0 0, dd, dd, dd, dd, .d (.agg (cA_t49 v_t9)), .d (.v (.int .i64 v_x10)), dd, dd, .d (.v (.bool v_x47)), dd, dd, dd, dd, dd, dd, dd, dd, dd, dd, dd, dd, dd, dd, dd, dd, dd, dd, dd, dd, dd, dd, dd, dd, dd, dd, dd, dd, dd, dd, dd, dd, dd, dd, dd, dd, dd, dd, dd, dd, dd, dd, dd, dd, dd, dd, dd, dd, dd, dd, dd, dd, dd, dd, dd, dd, dd], [.box [.d (.v (.bool v_y11.fHuge)), .d (.sl (v_y11.fEntries.map eS_entry_Entry))]]⟩
def G_table_Check_C2_hd (v_t9 : (Fin 8 → S_table_Node)) (v_x10 : Int) (v_y11 : S_table_Node)  : PS := ⟨[dd, dd, dd, dd, .ref 0 0, dd, dd, dd, dd, .d (.agg (cA_t49 v_t9)), .d (.v (.int .i64 v_x10)), dd, dd, dd, dd, dd, dd, dd, dd, dd, dd, dd, dd, dd, dd, dd, dd, dd, dd, dd, dd, dd, dd, dd, dd, dd, dd, dd, dd, dd, dd, dd, dd, dd, dd, dd, dd, dd, dd, dd, dd, dd, dd, dd, dd, dd, dd, dd, dd, dd, dd, dd, dd, dd, dd, dd, dd, dd, dd, dd, dd], [.box [.d (.v (.bool v_y11.fHuge)), .d (.sl (v_y11.fEntries.map eS_entry_Entry))]]⟩
def G_table_Check_C2 (n : Nat) (v_t9 : (Fin 8 → S_table_Node)) (v_x10 : Int) (v_y11 : S_table_Node) : Option G_table_Check_C2_R :=
  if v_y11.fHuge = true then
   some (.x0 false)
  else
   if (v_y11.fEntries.length : Int) = 0 then
    some (.x0 false)
   else
    some (.x0 ((v_y11.fEntries.length : Int) != 8))
theorem G_table_Check_C2_ok {Fi : Ex → PS → Prop} (hF : KC 71 Fi) (ks : List Fr) (n : Nat) (v_t9 : (Fin 8 → S_table_Node)) (v_x10 : Int) (v_y11 : S_table_Node)  (o : G_table_Check_C2_R) (h : G_table_Check_C2 n v_t9 v_x10 v_y11 = some o) (q : RunE Try.prog 71 Fi ks (G_table_Check_C2_ex o) (G_table_Check_C2_st v_t9 v_x10 v_y11 o)) : RunE Try.prog 71 Fi (.s (cF (cR (cL (cB (cL (cR (cB (cL (cR (cR (cP (cB (cR (cL (cR (bodyOf Try.f32)))))))))))))))) :: ks) .normal (G_table_Check_C2_hd v_t9 v_x10 v_y11) := by
  unfold G_table_Check_C2 at h
  by_cases h47 : v_y11.fHuge = true
  · rw [if_pos h47] at h
    cases h
    exact pkk_sound TTok mix hF 1 (hs := [.c, .t false, .c, .c, .c, .c, .c, .c, .c]) (ts := []) (s := [0]) (l := [4, 9, 10, 13]) (by kernel_rfl) (by kernel_rfl) (.cons (bnf h47) .nil) q
  · rw [if_neg h47] at h
    by_cases h48 : (v_y11.fEntries.length : Int) = 0
    · rw [if_pos h48] at h
      cases h
      exact pkk_sound TTok mix hF 1 (hs := [.c, .t true, .c, .c, .c, .u (.d (.v (.int .i64 (v_y11.fEntries.length : Int)))), .c, .t false, .c, .c, .c]) (ts := []) (s := [0]) (l := [4, 9, 10, 13]) (by kernel_rfl) (by kernel_rfl) (.cons (bnt (vf h47)) (.cons (len_ob (f := eS_entry_Entry) (l := v_y11.fEntries)) (.cons (nf h48) .nil))) q
    · rw [if_neg h48] at h
      cases h
      exact pkk_sound TTok mix hF 1 (hs := [.c, .t true, .c, .c, .c, .u (.d (.v (.int .i64 (v_y11.fEntries.length : Int)))), .c, .t true, .c, .c, .c, .u (.d (.v (.int .i64 (v_y11.fEntries.length : Int)))), .c]) (ts := []) (s := [0]) (l := [4, 9, 10, 13]) (by kernel_rfl) (by kernel_rfl) (.cons (bnt (vf h47)) (.cons (len_ob (f := eS_entry_Entry) (l := v_y11.fEntries)) (.cons (nt h48) (.cons (len_ob (f := eS_entry_Entry) (l := v_y11.fEntries)) .nil)))) q
inductive G_table_Check_C3_R where
  | x0 (v_x46 : Bool)
def G_table_Check_C3_ex : G_table_Check_C3_R → Ex
  | .x0 _ => .normal
def G_table_Check_C3_st (v_t9 : (Fin 8 → S_table_Node)) (v_x10 : Int) (v_z40 : Bool) (v_y11 : S_table_Node) : G_table_Check_C3_R → PS
  | .x0 v_x46 => ⟨[dd, dd, dd, dd, .ref 0 0, dd, dd, dd, dd, .d (.agg (cA_t49 v_t9)), .d (.v (.int .i64 v_x10)), dd, dd, .d (.v (.bool v_x46)), dd, dd, dd, dd, dd, dd, dd, dd, dd, dd, dd, dd, dd, dd, dd, dd, dd, dd, dd, dd, dd, dd, dd, dd, dd, dd, dd, dd, dd, dd, dd, dd, dd, dd, dd, dd, dd, dd, dd, dd, dd, dd, dd, dd, dd, dd, dd, dd, dd, dd, dd, dd, dd, dd, dd, dd, dd], [.box [.d (.v (.bool v_y11.fHuge)), .d (.sl (v_y11.fEntries.map eS_entry_Entry))]]⟩
def G_table_Check_C3_hd (v_t9 : (Fin 8 → S_table_Node)) (v_x10 : Int) (v_z40 : Bool) (v_y11 : S_table_Node)  : PS := ⟨[dd, dd, dd, dd, .ref 0 0, dd, dd, dd, dd, .d (.agg (cA_t49 v_t9)), .d (.v (.int .i64 v_x10)), dd, dd, .d (.v (.bool v_z40)), dd, dd, dd, dd, dd, dd, dd, dd, dd, dd, dd, dd, dd, dd, dd, dd, dd, dd, dd, dd, dd, dd, dd, dd, dd, dd, dd, dd, dd, dd, dd, dd, dd, dd, dd, dd, dd, dd, dd, dd, dd, dd, dd, dd, dd, dd, dd, dd, dd, dd, dd, dd, dd, dd, dd, dd, dd], [.box [.d (.v (.bool v_y11.fHuge)), .d (.sl (v_y11.fEntries.map eS_entry_Entry))]]⟩
def G_table_Check_C3 (n : Nat) (v_t9 : (Fin 8 → S_table_Node)) (v_x10 : Int) (v_z40 : Bool) (v_y11 : S_table_Node) : Option G_table_Check_C3_R :=
  if v_z40 = true then
   some (.x0 true)
  else
   (G_table_Check_C2 n v_t9 v_x10 v_y11).bind fun v_o50 => match v_o50 with
   | .x0 v_z51 =>
     some (.x0 v_z51)
theorem G_table_Check_C3_ok {Fi : Ex → PS → Prop} (hF : KC 71 Fi) (ks : List Fr) (n : Nat) (v_t9 : (Fin 8 → S_table_Node)) (v_x10 : Int) (v_z40 : Bool) (v_y11 : S_table_Node)  (o : G_table_Check_C3_R) (h : G_table_Check_C3 n v_t9 v_x10 v_z40 v_y11 = some o) (q : RunE Try.prog 71 Fi ks (G_table_Check_C3_ex o) (G_table_Check_C3_st v_t9 v_x10 v_z40 v_y11 o)) : RunE Try.prog 71 Fi (.s (cR (cL (cB (cL (cR (cB (cL (cR (cR (cP (cB (cR (cL (cR (bodyOf Try.f32))))))))))))))) :: ks) .normal (G_table_Check_C3_hd v_t9 v_x10 v_z40 v_y11) := by
  unfold G_table_Check_C3 at h
  by_cases h44 : v_z40 = true
  · rw [if_pos h44] at h
    cases h
    exact pkk_sound TTok mix hF 2 (hs := [.t true]) (ts := []) (s := [0]) (l := [4, 9, 10, 13]) (by kernel_rfl) (by kernel_rfl) (.cons h44 .nil) q
  · rw [if_neg h44] at h
    obtain ⟨v_o50, h49, h⟩ := bind_some h
    refine pkk_sound TTok mix hF 1 (hs := [.t false]) (ts := []) (s := [0]) (l := [4, 9, 10]) (by kernel_rfl) (by kernel_rfl) (.cons (vf h44) .nil) (G_table_Check_C2_ok hF (ks) n v_t9 v_x10 v_y11 _ h49 ?_)
    cases v_o50 with
    | x0 v_z51 =>
      dsimp only at h
      cases h
      exact pkk_sound TTok mix hF 0 (hs := []) (ts := []) (s := [0]) (l := [4, 9, 10, 13]) (by kernel_rfl) (by kernel_rfl) .nil q
inductive G_table_Check_L4_R where
  | x0 (v_x241 : Int)
  | x1 (v_all243 : Bool)
def G_table_Check_L4_ex : G_table_Check_L4_R → Ex
  | .x0 _ => .ret
  | .x1 _ => .exit 3
def G_table_Check_L4_st (v_t9 : (Fin 8 → S_table_Node)) (v_x10 : Int) (v_y11 : S_table_Node) : G_table_Check_L4_R → PS
  | .x0 v_x241 => ⟨[dd, dd, .d (.v (.int .i64 v_x241)), dd, dd, dd, dd, dd, dd, dd, dd, dd, dd, dd, dd, dd, dd, dd, dd, dd, dd, dd, dd, dd, dd, dd, dd, dd, dd, dd, dd, dd, dd, dd, dd, dd, dd, dd, dd, dd, dd, dd, dd, dd, dd, dd, dd, dd, dd, dd, dd, dd, dd, dd, dd, dd, dd, dd, dd, dd, dd, dd, dd, dd, dd, dd, dd, dd, dd, dd, dd], []⟩
  | .x1 v_all243 => ⟨[dd, dd, dd, dd, .ref 0 0, .d (.v (.bool v_all243)), dd, dd, dd, .d (.agg (cA_t49 v_t9)), .d (.v (.int .i64 v_x10)), dd, dd, dd, dd, dd, dd, dd, dd, dd, dd, dd, dd, dd, dd, dd, dd, dd, dd, dd, dd, dd, dd, dd, dd, dd, dd, dd, dd, dd, dd, dd, dd, dd, dd, dd, dd, dd, dd, dd, dd, dd, dd, dd, dd, dd, dd, dd, dd, dd, dd, dd, dd, dd, dd, dd, dd, dd, dd, dd, dd], [.box [.d (.v (.bool v_y11.fHuge)), .d (.sl (v_y11.fEntries.map eS_entry_Entry))]]⟩
def G_table_Check_L4_hd (v_t9 : (Fin 8 → S_table_Node)) (v_x10 : Int) (v_y11 : S_table_Node) (v_all56 : Bool) (v_x57 : Int) : PS := ⟨[dd, dd, dd, dd, .ref 0 0, .d (.v (.bool v_all56)), dd, dd, dd, .d (.agg (cA_t49 v_t9)), .d (.v (.int .i64 v_x10)), dd, dd, dd, dd, dd, dd, dd, dd, dd, dd, dd, dd, dd, dd, dd, dd, dd, dd, dd, dd, dd, dd, dd, dd, dd, dd, dd, dd, dd, dd, dd, dd, dd, dd, dd, .d (.sl (v_y11.fEntries.map eS_entry_Entry)), .d (.v (.int .i64 (v_y11.fEntries.length : Int))), .d (.v (.int .i64 v_x57)), dd, dd, dd, dd, dd, dd, dd, dd, dd, dd, dd, dd, dd, dd, dd, dd, dd, dd, dd, dd, dd, dd], [.box [.d (.v (.bool v_y11.fHuge)), .d (.sl (v_y11.fEntries.map eS_entry_Entry))]]⟩
def G_table_Check_L4 (n : Nat) (v_t9 : (Fin 8 → S_table_Node)) (v_x10 : Int) (v_y11 : S_table_Node) : Nat → Bool → Int → Option G_table_Check_L4_R
  | 0, _, _ => none
  | k + 1, v_all56, v_x57 =>
    if v_x57 < (v_y11.fEntries.length : Int) then
     (getI v_y11.fEntries v_x57).bind fun (v_y239 : S_entry_Entry) =>
     (G_entry_Check n v_y239).bind fun (v_r240 : (Int)) =>
     if v_r240 = 0 then
      if v_all56 = true then
       (G_entry_None n v_y239).bind fun (v_r242 : (Bool)) =>
       G_table_Check_L4 n v_t9 v_x10 v_y11 k v_r242 (wi .i64 (v_x57 + 1))
      else
       G_table_Check_L4 n v_t9 v_x10 v_y11 k false (wi .i64 (v_x57 + 1))
     else
      some (.x0 v_r240)
    else
     some (.x1 v_all56)
theorem G_table_Check_L4_ok {Fi : Ex → PS → Prop} (hF : KC 71 Fi) (ks : List Fr) (n : Nat) (v_t9 : (Fin 8 → S_table_Node)) (v_x10 : Int) (v_y11 : S_table_Node)  : ∀ (k : Nat) (v_all56 : Bool) (v_x57 : Int) (o : G_table_Check_L4_R), G_table_Check_L4 n v_t9 v_x10 v_y11 k v_all56 v_x57 = some o → RunE Try.prog 71 Fi ks (G_table_Check_L4_ex o) (G_table_Check_L4_st v_t9 v_x10 v_y11 o) → RunE Try.prog 71 Fi (.l k (cP (cB (cR (cL (cR (cR (cR (cB (cL (cR (cR (cP (cB (cR (cL (cR (bodyOf Try.f32))))))))))))))))) :: ks) .normal (G_table_Check_L4_hd v_t9 v_x10 v_y11 v_all56 v_x57)
  | 0, v_all56, v_x57, o, h, q => by rw [G_table_Check_L4] at h; cases h
  | k + 1, v_all56, v_x57, o, h, q => by
    rw [G_table_Check_L4] at h
    by_cases h52 : v_x57 < (v_y11.fEntries.length : Int)
    · rw [if_pos h52] at h
      obtain ⟨v_y239, h313, h⟩ := bind_some h
      obtain ⟨v_r240, h314, h⟩ := bind_some h
      by_cases h315 : v_r240 = 0
      · rw [if_pos h315] at h
        by_cases h316 : v_all56 = true
        · rw [if_pos h316] at h
          obtain ⟨v_r242, h317, h⟩ := bind_some h
          exact pkk_sound TTok mix hF 20 (hs := [.t true, .y (eS_entry_Entry v_y239), .c, .c, .r ((eI .i64) v_r240), .t false, .t true, .c, .c, .r (eB v_r242)]) (ts := []) (s := [0]) (l := [4, 5, 9, 10, 46, 47, 48]) (by kernel_rfl) (by kernel_rfl) (.cons (dt h52) (.cons (getI_ob (f := eS_entry_Entry) h313) (.cons (show 0 + 7 ≤ 7 by decide) (.cons (G_entry_Check_ok n v_y239 _ h314) (.cons (nf h315) (.cons h316 (.cons (G_entry_None_ok n v_y239 _ h317) .nil))))))) (G_table_Check_L4_ok hF ks n v_t9 v_x10 v_y11 k v_r242 (wi .i64 (v_x57 + 1)) _ h q)
        · rw [if_neg h316] at h
          exact pkk_sound TTok mix hF 20 (hs := [.t true, .y (eS_entry_Entry v_y239), .c, .c, .r ((eI .i64) v_r240), .t false, .t false, .c]) (ts := []) (s := [0]) (l := [4, 5, 9, 10, 46, 47, 48]) (by kernel_rfl) (by kernel_rfl) (.cons (dt h52) (.cons (getI_ob (f := eS_entry_Entry) h313) (.cons (show 0 + 7 ≤ 7 by decide) (.cons (G_entry_Check_ok n v_y239 _ h314) (.cons (nf h315) (.cons (vf h316) .nil)))))) (G_table_Check_L4_ok hF ks n v_t9 v_x10 v_y11 k false (wi .i64 (v_x57 + 1)) _ h q)
      · rw [if_neg h315] at h
        cases h
        exact pkk_sound TTok mix hF 23 (hs := [.t true, .y (eS_entry_Entry v_y239), .c, .c, .r ((eI .i64) v_r240), .t true]) (ts := []) (s := []) (l := [2]) (by kernel_rfl) (by kernel_rfl) (.cons (dt h52) (.cons (getI_ob (f := eS_entry_Entry) h313) (.cons (show 0 + 7 ≤ 7 by decide) (.cons (G_entry_Check_ok n v_y239 _ h314) (.cons (nt h315) .nil))))) q
    · rw [if_neg h52] at h
      cases h
      exact pkk_sound TTok mix hF 8 (hs := [.t false]) (ts := []) (s := [0]) (l := [4, 5, 9, 10]) (by kernel_rfl) (by kernel_rfl) (.cons (df h52) .nil) q
inductive G_table_Check_L5_R where
  | x0 (v_x55 : Int)
  | x1 
def G_table_Check_L5_ex : G_table_Check_L5_R → Ex
  | .x0 _ => .ret
  | .x1  => .exit 0
def G_table_Check_L5_st (v_t9 : (Fin 8 → S_table_Node)) : G_table_Check_L5_R → PS
  | .x0 v_x55 => ⟨[dd, dd, .d (.v (.int .i64 v_x55)), dd, dd, dd, dd, dd, dd, dd, dd, dd, dd, dd, dd, dd, dd, dd, dd, dd, dd, dd, dd, dd, dd, dd, dd, dd, dd, dd, dd, dd, dd, dd, dd, dd, dd, dd, dd, dd, dd, dd, dd, dd, dd, dd, dd, dd, dd, dd, dd, dd, dd, dd, dd, dd, dd, dd, dd, dd, dd, dd, dd, dd, dd, dd, dd, dd, dd, dd, dd], []⟩
  | .x1  => ⟨[dd, dd, dd, dd, dd, dd, dd, dd, dd, dd, dd, dd, dd, dd, dd, dd, dd, dd, dd, dd, dd, dd, dd, dd, dd, dd, dd, dd, dd, dd, dd, dd, dd, dd, dd, dd, dd, dd, dd, dd, dd, dd, dd, dd, dd, dd, dd, dd, dd, dd, dd, dd, dd, dd, dd, dd, dd, dd, dd, dd, dd, dd, dd, dd, dd, dd, dd, dd, dd, dd, dd], []⟩
def G_table_Check_L5_hd (v_t9 : (Fin 8 → S_table_Node)) (v_x10 : Int) : PS := ⟨[dd, dd, dd, dd, dd, dd, dd, dd, dd, .d (.agg (cA_t49 v_t9)), .d (.v (.int .i64 v_x10)), dd, dd, dd, dd, dd, dd, dd, dd, dd, dd, dd, dd, dd, dd, dd, dd, dd, dd, dd, dd, dd, dd, dd, dd, dd, dd, dd, dd, dd, dd, dd, dd, dd, dd, dd, dd, dd, dd, dd, dd, dd, dd, dd, dd, dd, dd, dd, dd, dd, dd, dd, dd, dd, dd, dd, dd, dd, dd, dd, dd], []⟩
def G_table_Check_L5 (n : Nat) (v_t9 : (Fin 8 → S_table_Node)) : Nat → Int → Option G_table_Check_L5_R
  | 0, _ => none
  | k + 1, v_x10 =>
    if v_x10 < 8 then
     (getA v_t9 v_x10).bind fun (v_y11 : S_table_Node) =>
     (G_table_Check_C1 n v_t9 v_x10 v_y11).bind fun v_o39 => match v_o39 with
     | .x0 v_z40 =>
       (G_table_Check_C3 n v_t9 v_x10 v_z40 v_y11).bind fun v_o53 => match v_o53 with
       | .x0 v_z54 =>
         if v_z54 = true then
          some (.x0 3)
         else
          (G_table_Check_L4 n v_t9 v_x10 v_y11 n true 0).bind fun v_o244 => match v_o244 with
          | .x0 v_z245 =>
            some (.x0 v_z245)
          | .x1 v_z247 =>
            if v_z247 = true then
             if (v_y11.fEntries.length : Int) > 0 then
              some (.x0 3)
             else
              G_table_Check_L5 n v_t9 k (wi .i64 (v_x10 + 1))
            else
             G_table_Check_L5 n v_t9 k (wi .i64 (v_x10 + 1))
    else
     some (.x1 )
theorem G_table_Check_L5_ok {Fi : Ex → PS → Prop} (hF : KC 71 Fi) (ks : List Fr) (n : Nat) (v_t9 : (Fin 8 → S_table_Node))  : ∀ (k : Nat) (v_x10 : Int) (o : G_table_Check_L5_R), G_table_Check_L5 n v_t9 k v_x10 = some o → RunE Try.prog 71 Fi ks (G_table_Check_L5_ex o) (G_table_Check_L5_st v_t9 o) → RunE Try.prog 71 Fi (.l k (cP (cB (cR (cL (cR (bodyOf Try.f32)))))) :: ks) .normal (G_table_Check_L5_hd v_t9 v_x10)
  | 0, v_x10, o, h, q => by rw [G_table_Check_L5] at h; cases h
  | k + 1, v_x10, o, h, q => by
    rw [G_table_Check_L5] at h
    by_cases h1 : v_x10 < 8
    · rw [if_pos h1] at h
      obtain ⟨v_y11, h2, h⟩ := bind_some h
      obtain ⟨v_o39, h37, h⟩ := bind_some h
      refine pkk_sound TTok mix hF 14 (hs := [.t true, .l (.d (.agg [.v (.bool v_y11.fHuge), .sl (v_y11.fEntries.map eS_entry_Entry)])), .c]) (ts := []) (s := [6]) (l := [4, 9, 10]) (by kernel_rfl) (by kernel_rfl) (.cons (dt h1) (.cons (arr_idx (sz := 2) (g := (fun x => [.d (.v (.bool x.fHuge)), .d (.sl (x.fEntries.map eS_entry_Entry))])) (fun _ => rfl) h2) (.cons (show 0 + 2 ≤ 2 by decide) .nil))) (G_table_Check_C1_ok hF (.s (cR (cL (cB (cL (cR (cB (cL (cR (cR (cP (cB (cR (cL (cR (bodyOf Try.f32))))))))))))))) :: .s (cR (cB (cL (cR (cB (cL (cR (cR (cP (cB (cR (cL (cR (bodyOf Try.f32)))))))))))))) :: .b 2 :: .s (cR (cR (cB (cL (cR (cR (cP (cB (cR (cL (cR (bodyOf Try.f32)))))))))))) :: .b 1 :: .s (cR (cR (cR (cP (cB (cR (cL (cR (bodyOf Try.f32))))))))) :: .l k (cP (cB (cR (cL (cR (bodyOf Try.f32)))))) :: ks) n v_t9 v_x10 v_y11 _ h37 ?_)
      cases v_o39 with
      | x0 v_z40 =>
        dsimp only at h
        obtain ⟨v_o53, h50, h⟩ := bind_some h
        refine pkk_sound TTok mix hF 0 (hs := []) (ts := []) (s := [0]) (l := [4, 9, 10, 13]) (by kernel_rfl) (by kernel_rfl) .nil (G_table_Check_C3_ok hF (.s (cR (cB (cL (cR (cB (cL (cR (cR (cP (cB (cR (cL (cR (bodyOf Try.f32)))))))))))))) :: .b 2 :: .s (cR (cR (cB (cL (cR (cR (cP (cB (cR (cL (cR (bodyOf Try.f32)))))))))))) :: .b 1 :: .s (cR (cR (cR (cP (cB (cR (cL (cR (bodyOf Try.f32))))))))) :: .l k (cP (cB (cR (cL (cR (bodyOf Try.f32)))))) :: ks) n v_t9 v_x10 v_z40 v_y11 _ h50 ?_)
        cases v_o53 with
        | x0 v_z54 =>
          dsimp only at h
          by_cases h51 : v_z54 = true
          · rw [if_pos h51] at h
            cases h
            exact pkk_sound TTok mix hF 9 (hs := [.t true]) (ts := []) (s := []) (l := [2]) (by kernel_rfl) (by kernel_rfl) (.cons h51 .nil) q
          · rw [if_neg h51] at h
            obtain ⟨v_o244, h318, h⟩ := bind_some h
            refine pkk_sound TTok mix hF 10 (hs := [.t false, .c, .u (.d (.v (.int .i64 (v_y11.fEntries.length : Int)))), .n n]) (ts := []) (s := [0]) (l := [4, 5, 9, 10, 46, 47, 48]) (by kernel_rfl) (by kernel_rfl) (.cons (vf h51) (.cons (len_ob (f := eS_entry_Entry) (l := v_y11.fEntries)) .nil)) (G_table_Check_L4_ok hF (.b 3 :: .s (cR (cR (cR (cR (cB (cL (cR (cR (cP (cB (cR (cL (cR (bodyOf Try.f32)))))))))))))) :: .b 1 :: .s (cR (cR (cR (cP (cB (cR (cL (cR (bodyOf Try.f32))))))))) :: .l k (cP (cB (cR (cL (cR (bodyOf Try.f32)))))) :: ks) n v_t9 v_x10 v_y11 n true 0 _ h318 ?_)
            cases v_o244 with
            | x0 v_z245 =>
              dsimp only at h
              cases h
              exact pkk_sound TTok mix hF 5 (hs := []) (ts := []) (s := []) (l := [2]) (by kernel_rfl) (by kernel_rfl) .nil q
            | x1 v_z247 =>
              dsimp only at h
              by_cases h320 : v_z247 = true
              · rw [if_pos h320] at h
                by_cases h321 : (v_y11.fEntries.length : Int) > 0
                · rw [if_pos h321] at h
                  cases h
                  exact pkk_sound TTok mix hF 10 (hs := [.t true, .c, .c, .c, .u (.d (.v (.int .i64 (v_y11.fEntries.length : Int)))), .c, .t true]) (ts := []) (s := []) (l := [2]) (by kernel_rfl) (by kernel_rfl) (.cons h320 (.cons (len_ob (f := eS_entry_Entry) (l := v_y11.fEntries)) (.cons (dt h321) .nil))) q
                · rw [if_neg h321] at h
                  exact pkk_sound TTok mix hF 7 (hs := [.t true, .c, .c, .c, .u (.d (.v (.int .i64 (v_y11.fEntries.length : Int)))), .c, .t false]) (ts := []) (s := []) (l := [9, 10]) (by kernel_rfl) (by kernel_rfl) (.cons h320 (.cons (len_ob (f := eS_entry_Entry) (l := v_y11.fEntries)) (.cons (df h321) .nil))) (G_table_Check_L5_ok hF ks n v_t9 k (wi .i64 (v_x10 + 1)) _ h q)
              · rw [if_neg h320] at h
                exact pkk_sound TTok mix hF 7 (hs := [.t false, .c, .c, .c, .c]) (ts := []) (s := []) (l := [9, 10]) (by kernel_rfl) (by kernel_rfl) (.cons (vf h320) .nil) (G_table_Check_L5_ok hF ks n v_t9 k (wi .i64 (v_x10 + 1)) _ h q)
    · rw [if_neg h1] at h
      cases h
      exact pkk_sound TTok mix hF 8 (hs := [.t false]) (ts := []) (s := []) (l := []) (by kernel_rfl) (by kernel_rfl) (.cons (df h1) .nil) q
/- ringhall/table.Check -/
def G_table_Check (n : Nat) (v_t9 : (Fin 8 → S_table_Node)) : Option (Int) :=
  (G_table_Check_L5 n v_t9 n 0).bind fun v_o249 => match v_o249 with
  | .x0 v_z250 =>
    some v_z250
  | .x1  =>
    some 0
theorem G_table_Check_ok (n : Nat) (v_t9 : (Fin 8 → S_table_Node)) (r : Int) (h : G_table_Check n v_t9 = some r) : Ret Try.prog 32 [(fun x => PV.agg (cA_t49 x)) v_t9] ((eI .i64) r) := by
  refine ret_run (n := 71) (fn := Try.f32) (c := bodyOf Try.f32) (by kernel_rfl) (by kernel_rfl) (by kernel_rfl) (by kernel_rfl) ?_
  have hF : KC 71 (FinR Try.prog Try.f32 ((eI .i64) r)) := FinR.kc' (by kernel_rfl)
  unfold G_table_Check at h
  obtain ⟨v_o249, h322, h⟩ := bind_some h
  refine pkk_sound TTok mix hF 7 (hs := [.c, .n n]) (ts := []) (s := []) (l := [9, 10]) (by kernel_rfl) (by kernel_rfl) .nil (G_table_Check_L5_ok hF (.b 0 :: .s (cR (cR (bodyOf Try.f32))) :: []) n v_t9 n 0 _ h322 ?_)
  cases v_o249 with
  | x0 v_z250 =>
    dsimp only at h
    obtain rfl := Option.some.inj h
    exact pend_sound TTok mix 2 (hs := []) (by kernel_rfl) (by kernel_rfl) (by kernel_rfl) .nil
  | x1  =>
    dsimp only at h
    obtain rfl := Option.some.inj h
    exact pend_sound TTok mix 4 (hs := []) (by kernel_rfl) (by kernel_rfl) (by kernel_rfl) .nil
inductive G_table_page_C1_R where
  | x0 (v_x252 : Bool)
def G_table_page_C1_ex : G_table_page_C1_R → Ex
  | .x0 _ => .normal
def G_table_page_C1_st (v_p8 : Int) (v_r251 : (Int)) : G_table_page_C1_R → PS
  | .x0 v_x252 => ⟨[dd, dd, dd, dd, dd, .d (.v (.int .i64 v_r251)), dd, dd, dd, dd, dd, dd, dd, dd, dd, dd, dd, .d (.v (.bool v_x252)), dd], []⟩
def G_table_page_C1_hd (v_p8 : Int) (v_r251 : (Int))  : PS := ⟨[dd, .d (.v (.int .i64 v_p8)), dd, dd, dd, .d (.v (.int .i64 v_r251)), dd, dd, dd, dd, dd, dd, dd, dd, dd, dd, dd, dd, dd], []⟩
def G_table_page_C1 (n : Nat) (v_p8 : Int) (v_r251 : (Int)) : Option G_table_page_C1_R :=
  if v_r251 = 0 then
   if v_p8 < 0 then
    some (.x0 true)
   else
    some (.x0 (decide (v_p8 ≥ 64)))
  else
   some (.x0 false)
theorem G_table_page_C1_ok {Fi : Ex → PS → Prop} (hF : KC 19 Fi) (ks : List Fr) (n : Nat) (v_p8 : Int) (v_r251 : (Int))  (o : G_table_page_C1_R) (h : G_table_page_C1 n v_p8 v_r251 = some o) (q : RunE Try.prog 19 Fi ks (G_table_page_C1_ex o) (G_table_page_C1_st v_p8 v_r251 o)) : RunE Try.prog 19 Fi (.s (cL (cL (cR (cR (bodyOf Try.f103))))) :: ks) .normal (G_table_page_C1_hd v_p8 v_r251) := by
  unfold G_table_page_C1 at h
  by_cases h326 : v_r251 = 0
  · rw [if_pos h326] at h
    by_cases h327 : v_p8 < 0
    · rw [if_pos h327] at h
      cases h
      exact pkk_sound TTok mix hF 1 (hs := [.t true, .c, .c, .t true, .c, .c]) (ts := []) (s := []) (l := [5, 17]) (by kernel_rfl) (by kernel_rfl) (.cons (bt h326) (.cons (dt h327) .nil)) q
    · rw [if_neg h327] at h
      cases h
      exact pkk_sound TTok mix hF 1 (hs := [.t true, .c, .c, .t false, .c, .c]) (ts := []) (s := []) (l := [5, 17]) (by kernel_rfl) (by kernel_rfl) (.cons (bt h326) (.cons (df h327) .nil)) q
  · rw [if_neg h326] at h
    cases h
    exact pkk_sound TTok mix hF 1 (hs := [.t false, .c, .c, .c]) (ts := []) (s := []) (l := [5, 17]) (by kernel_rfl) (by kernel_rfl) (.cons (bf h326) .nil) q
/- ringhall/table.page -/
def G_table_page (n : Nat) (v_t7 : (Fin 8 → S_table_Node)) (v_p8 : Int) : Option (Int) :=
  (G_table_Check n v_t7).bind fun (v_r251 : (Int)) =>
  (G_table_page_C1 n v_p8 v_r251).bind fun v_o255 => match v_o255 with
  | .x0 v_z256 =>
    if v_z256 = true then
     some 1
    else
     some v_r251
theorem G_table_page_ok (n : Nat) (v_t7 : (Fin 8 → S_table_Node)) (v_p8 : Int) (r : Int) (h : G_table_page n v_t7 v_p8 = some r) : Ret Try.prog 103 [(fun x => PV.agg (cA_t49 x)) v_t7, (eI .i64) v_p8] ((eI .i64) r) := by
  refine ret_run (n := 19) (fn := Try.f103) (c := bodyOf Try.f103) (by kernel_rfl) (by kernel_rfl) (by kernel_rfl) (by kernel_rfl) ?_
  have hF : KC 19 (FinR Try.prog Try.f103 ((eI .i64) r)) := FinR.kc' (by kernel_rfl)
  unfold G_table_page at h
  obtain ⟨v_r251, h323, h⟩ := bind_some h
  obtain ⟨v_o255, h328, h⟩ := bind_some h
  refine pkk_sound TTok mix hF 6 (hs := [.c, .r ((eI .i64) v_r251)]) (ts := []) (s := []) (l := [1, 5]) (by kernel_rfl) (by kernel_rfl) (.cons (G_table_Check_ok n v_t7 _ h323) .nil) (G_table_page_C1_ok hF (.s (cR (cL (cR (cR (bodyOf Try.f103))))) :: .s (cR (cR (cR (bodyOf Try.f103)))) :: []) n v_p8 v_r251 _ h328 ?_)
  cases v_o255 with
  | x0 v_z256 =>
    dsimp only at h
    by_cases h329 : v_z256 = true
    · rw [if_pos h329] at h
      obtain rfl := Option.some.inj h
      exact pend_sound TTok mix 5 (hs := [.t true]) (by kernel_rfl) (by kernel_rfl) (by kernel_rfl) (.cons h329 .nil)
    · rw [if_neg h329] at h
      obtain rfl := Option.some.inj h
      exact pend_sound TTok mix 5 (hs := [.t false]) (by kernel_rfl) (by kernel_rfl) (by kernel_rfl) (.cons (vf h329) .nil)
/- ringhall/table.at -/
def G_table_at (n : Nat) (v_n259 : S_table_Node) (v_k260 : Int) : Option (S_entry_Entry) :=
  if v_n259.fHuge = true then
   (getI v_n259.fEntries 0).bind fun (v_y264 : S_entry_Entry) =>
   some (S_entry_Entry.mk v_y264.fHere v_y264.fSlot (wi .i64 (v_y264.fAt + v_k260)) v_y264.fRights v_y264.fUsed v_y264.fDirty v_y264.fCopy)
  else
   if (v_n259.fEntries.length : Int) = 0 then
    some (S_entry_Entry.mk false false 0 0 false false false)
   else
    (getI v_n259.fEntries v_k260).bind fun (v_y265 : S_entry_Entry) =>
    some v_y265
theorem G_table_at_ok (n : Nat) (v_n259 : S_table_Node) (v_k260 : Int) (r : S_entry_Entry) (h : G_table_at n v_n259 v_k260 = some r) : Ret Try.prog 104 [eS_table_Node v_n259, (eI .i64) v_k260] (eS_entry_Entry r) := by
  refine ret_run (n := 30) (fn := Try.f104) (c := bodyOf Try.f104) (by kernel_rfl) (by kernel_rfl) (by kernel_rfl) (by kernel_rfl) ?_
  have hF : KC 30 (FinR Try.prog Try.f104 (eS_entry_Entry r)) := FinR.kc' (by kernel_rfl)
  unfold G_table_at at h
  by_cases h346 : v_n259.fHuge = true
  · rw [if_pos h346] at h
    obtain ⟨v_y264, h347, h⟩ := bind_some h
    obtain rfl := Option.some.inj h
    exact pend_sound TTok mix 16 (hs := [.c, .t true, .c, .y (eS_entry_Entry v_y264), .c, .c, .c, .c, .c]) (by kernel_rfl) (by kernel_rfl) (by kernel_rfl) (.cons h346 (.cons (getI_ob (f := eS_entry_Entry) h347) (.cons (show 0 + 7 ≤ 7 by decide) (.cons (show 2 + 1 ≤ 7 by decide) (.cons (show 0 + 7 ≤ 7 by decide) .nil)))))
  · rw [if_neg h346] at h
    by_cases h348 : (v_n259.fEntries.length : Int) = 0
    · rw [if_pos h348] at h
      obtain rfl := Option.some.inj h
      exact pend_sound TTok mix 15 (hs := [.c, .t false, .c, .u (.d (.v (.int .i64 (v_n259.fEntries.length : Int)))), .t true, .c]) (by kernel_rfl) (by kernel_rfl) (by kernel_rfl) (.cons (vf h346) (.cons (len_ob (f := eS_entry_Entry) (l := v_n259.fEntries)) (.cons (bt h348) (.cons (show 0 + 7 ≤ 7 by decide) .nil))))
    · rw [if_neg h348] at h
      obtain ⟨v_y265, h349, h⟩ := bind_some h
      obtain rfl := Option.some.inj h
      exact pend_sound TTok mix 15 (hs := [.c, .t false, .c, .u (.d (.v (.int .i64 (v_n259.fEntries.length : Int)))), .t false, .c, .y (eS_entry_Entry v_y265), .c]) (by kernel_rfl) (by kernel_rfl) (by kernel_rfl) (.cons (vf h346) (.cons (len_ob (f := eS_entry_Entry) (l := v_n259.fEntries)) (.cons (bf h348) (.cons (getI_ob (f := eS_entry_Entry) h349) (.cons (show 0 + 7 ≤ 7 by decide) .nil)))))
/- ringhall/table.Walk -/
def G_table_Walk (n : Nat) (v_t5 : (Fin 8 → S_table_Node)) (v_p6 : Int) : Option (S_entry_Entry × Int) :=
  (G_table_page n v_t5 v_p6).bind fun (v_r257 : (Int)) =>
  if v_r257 = 0 then
   if 0 ≤ (quoI .i64 v_p6 8) ∧ (quoI .i64 v_p6 8) < (8 : Int) then
    (getA v_t5 (quoI .i64 v_p6 8)).bind fun (v_y258 : S_table_Node) =>
    (G_table_at n v_y258 (remI v_p6 8)).bind fun (v_r266 : (S_entry_Entry)) =>
    some (v_r266, 0)
   else none
  else
   some ((S_entry_Entry.mk false false 0 0 false false false), v_r257)
theorem G_table_Walk_ok (n : Nat) (v_t5 : (Fin 8 → S_table_Node)) (v_p6 : Int) (r : S_entry_Entry × Int) (h : G_table_Walk n v_t5 v_p6 = some r) : Ret Try.prog 26 [(fun x => PV.agg (cA_t49 x)) v_t5, (eI .i64) v_p6] (.tup [eS_entry_Entry r.1, (eI .i64) r.2]) := by
  refine ret_run (n := 21) (fn := Try.f26) (c := bodyOf Try.f26) (by kernel_rfl) (by kernel_rfl) (by kernel_rfl) (by kernel_rfl) ?_
  have hF : KC 21 (FinR Try.prog Try.f26 (.tup [eS_entry_Entry r.1, (eI .i64) r.2])) := FinR.kc' (by kernel_rfl)
  unfold G_table_Walk at h
  obtain ⟨v_r257, h330, h⟩ := bind_some h
  by_cases h332 : v_r257 = 0
  · rw [if_pos h332] at h
    by_cases h334 : 0 ≤ (quoI .i64 v_p6 8) ∧ (quoI .i64 v_p6 8) < (8 : Int)
    · rw [if_pos h334] at h
      obtain ⟨v_y258, h335, h⟩ := bind_some h
      obtain ⟨v_r266, h350, h⟩ := bind_some h
      obtain rfl := Option.some.inj h
      exact pend_sound TTok mix 12 (hs := [.c, .r ((eI .i64) v_r257), .t false, .l (.d (.agg [.v (.bool v_y258.fHuge), .sl (v_y258.fEntries.map eS_entry_Entry)])), .r (eS_entry_Entry v_r266), .c]) (by kernel_rfl) (by kernel_rfl) (by kernel_rfl) (.cons (G_table_page_ok n v_t5 v_p6 _ h330) (.cons (nf h332) (.cons (show (8 : Int) ≠ 0 by decide) (.cons h334 (.cons (And.intro (congrArg mkAgg (arr_take (γ := FV) (sz := 2) (g := (fun x => [.d (.v (.bool x.fHuge)), .d (.sl (x.fEntries.map eS_entry_Entry))])) (pre := []) (post := []) (fun _ => rfl) h335).1) (arr_take (γ := FV) (sz := 2) (g := (fun x => [.d (.v (.bool x.fHuge)), .d (.sl (x.fEntries.map eS_entry_Entry))])) (pre := []) (post := []) (fun _ => rfl) h335).2) (.cons (show (8 : Int) ≠ 0 by decide) (.cons (G_table_at_ok n v_y258 (remI v_p6 8) _ h350) (.cons (show 0 + 7 ≤ 7 by decide) .nil))))))))
    · rw [if_neg h334] at h; cases h
  · rw [if_neg h332] at h
    obtain rfl := Option.some.inj h
    exact pend_sound TTok mix 12 (hs := [.c, .r ((eI .i64) v_r257), .t true, .c]) (by kernel_rfl) (by kernel_rfl) (by kernel_rfl) (.cons (G_table_page_ok n v_t5 v_p6 _ h330) (.cons (nt h332) (.cons (show 0 + 7 ≤ 7 by decide) .nil)))
inductive G_table_own_L1_R where
  | x0 (v_b294 : (Fin 8 → S_table_Node))
def G_table_own_L1_ex : G_table_own_L1_R → Ex
  | .x0 _ => .exit 0
def G_table_own_L1_st (v_t278 : (Fin 8 → S_table_Node)) : G_table_own_L1_R → PS
  | .x0 v_b294 => ⟨[dd, .ref 0 0, .ref 1 0, dd, dd, dd, dd, dd, dd, dd, dd, dd, dd, dd, dd, dd, dd, dd], [.box ((cA_t49 v_b294).map FV.d), .box [.d (.v (.bool false)), .d (vnil), .d (.v (.bool false)), .d (vnil), .d (.v (.bool false)), .d (vnil), .d (.v (.bool false)), .d (vnil), .d (.v (.bool false)), .d (vnil), .d (.v (.bool false)), .d (vnil), .d (.v (.bool false)), .d (vnil), .d (.v (.bool false)), .d (vnil)]]⟩
def G_table_own_L1_hd (v_t278 : (Fin 8 → S_table_Node)) (v_x286 : Int) (v_b287 : (Fin 8 → S_table_Node)) : PS := ⟨[dd, .ref 0 0, .ref 1 0, dd, dd, .d (.agg (cA_t49 v_t278)), .d (.v (.int .i64 v_x286)), dd, dd, dd, dd, dd, dd, dd, dd, dd, dd, dd], [.box ((cA_t49 v_b287).map FV.d), .box [.d (.v (.bool false)), .d (vnil), .d (.v (.bool false)), .d (vnil), .d (.v (.bool false)), .d (vnil), .d (.v (.bool false)), .d (vnil), .d (.v (.bool false)), .d (vnil), .d (.v (.bool false)), .d (vnil), .d (.v (.bool false)), .d (vnil), .d (.v (.bool false)), .d (vnil)]]⟩
def G_table_own_L1 (n : Nat) (v_t278 : (Fin 8 → S_table_Node)) : Nat → Int → (Fin 8 → S_table_Node) → Option G_table_own_L1_R
  | 0, _, _ => none
  | k + 1, v_x286, v_b287 =>
    if v_x286 < 8 then
     (getA v_t278 v_x286).bind fun (v_y291 : S_table_Node) =>
     (app 32 [] v_y291.fEntries).bind fun (v_a292 : (List S_entry_Entry)) =>
     if 0 ≤ v_x286 ∧ v_x286 < (8 : Int) then
      (getA v_b287 v_x286).bind fun (v_y293 : S_table_Node) =>
      G_table_own_L1 n v_t278 k (wi .i64 (v_x286 + 1)) (setA v_b287 v_x286 (S_table_Node.mk v_y293.fHuge v_a292))
     else none
    else
     some (.x0 v_b287)
theorem G_table_own_L1_ok {Fi : Ex → PS → Prop} (hF : KC 18 Fi) (ks : List Fr) (n : Nat) (v_t278 : (Fin 8 → S_table_Node))  : ∀ (k : Nat) (v_x286 : Int) (v_b287 : (Fin 8 → S_table_Node)) (o : G_table_own_L1_R), G_table_own_L1 n v_t278 k v_x286 v_b287 = some o → RunE Try.prog 18 Fi ks (G_table_own_L1_ex o) (G_table_own_L1_st v_t278 o) → RunE Try.prog 18 Fi (.l k (cP (cB (cR (cL (cR (bodyOf Try.f106)))))) :: ks) .normal (G_table_own_L1_hd v_t278 v_x286 v_b287)
  | 0, v_x286, v_b287, o, h, q => by rw [G_table_own_L1] at h; cases h
  | k + 1, v_x286, v_b287, o, h, q => by
    rw [G_table_own_L1] at h
    by_cases h369 : v_x286 < 8
    · rw [if_pos h369] at h
      obtain ⟨v_y291, h374, h⟩ := bind_some h
      obtain ⟨v_a292, h375, h⟩ := bind_some h
      by_cases h376 : 0 ≤ v_x286 ∧ v_x286 < (8 : Int)
      · rw [if_pos h376] at h
        obtain ⟨v_y293, h377, h⟩ := bind_some h
        exact pkk_sound TTok mix hF 13 (hs := [.t true, .l (.d (.agg [.v (.bool v_y291.fHuge), .sl (v_y291.fEntries.map eS_entry_Entry)])), .c, .c, .e 29 [] (.d (.sl (v_a292.map eS_entry_Entry))) [], .x ((cA_t49 (setA v_b287 v_x286 (S_table_Node.mk v_y293.fHuge v_a292))).map FV.d), .c]) (ts := []) (s := [0, 1]) (l := [1, 2, 5, 6]) (by kernel_rfl) (by kernel_rfl) (.cons (dt h369) (.cons (arr_idx (sz := 2) (g := (fun x => [.d (.v (.bool x.fHuge)), .d (.sl (x.fEntries.map eS_entry_Entry))])) (fun _ => rfl) h374) (.cons (show 0 + 2 ≤ 2 by decide) (.cons (xapdD (P := Try.prog) (T := TT) (f := eS_entry_Entry) (t := 45) (e := 51) (s := 7) (x := (.const (.slice none 0 0))) (y := (.tmp 12)) (ti := ⟨7, 32, .st [(0, 4), (1, 4), (2, 3), (3, 3), (4, 4), (5, 4), (6, 4)], [.b, .b, .i .i64, .i .i64, .b, .b, .b]⟩) h375 (by kernel_rfl) (by kernel_rfl) (by kernel_rfl) (by decide) (fun _ => rfl)) (.cons h376 (.cons (arr_store (γ := FV) (sz := 2) (g := (fun x => [.d (.v (.bool x.fHuge)), .d (.sl (x.fEntries.map eS_entry_Entry))])) (pre := []) (post := []) (o := 1) (y := (S_table_Node.mk v_y293.fHuge v_a292)) (zs := [.d (.sl (v_a292.map eS_entry_Entry))]) (fun _ => rfl) h377 rfl (Nat.le_of_ble_eq_true rfl)).1 (.cons (arr_store (γ := FV) (sz := 2) (g := (fun x => [.d (.v (.bool x.fHuge)), .d (.sl (x.fEntries.map eS_entry_Entry))])) (pre := []) (post := []) (o := 1) (y := (S_table_Node.mk v_y293.fHuge v_a292)) (zs := [.d (.sl (v_a292.map eS_entry_Entry))]) (fun _ => rfl) h377 rfl (Nat.le_of_ble_eq_true rfl)).2 .nil))))))) (G_table_own_L1_ok hF ks n v_t278 k (wi .i64 (v_x286 + 1)) (setA v_b287 v_x286 (S_table_Node.mk v_y293.fHuge v_a292)) _ h q)
      · rw [if_neg h376] at h; cases h
    · rw [if_neg h369] at h
      cases h
      exact pkk_sound TTok mix hF 8 (hs := [.t false]) (ts := []) (s := [0, 1]) (l := [1, 2]) (by kernel_rfl) (by kernel_rfl) (.cons (df h369) .nil) q
/- ringhall/table.own -/
def G_table_own (n : Nat) (v_t278 : (Fin 8 → S_table_Node)) : Option ((Fin 8 → S_table_Node)) :=
  (G_table_own_L1 n v_t278 n 0 v_t278).bind fun v_o295 => match v_o295 with
  | .x0 v_z296 =>
    some v_z296
theorem G_table_own_ok (n : Nat) (v_t278 : (Fin 8 → S_table_Node)) (r : (Fin 8 → S_table_Node)) (h : G_table_own n v_t278 = some r) : Ret Try.prog 106 [(fun x => PV.agg (cA_t49 x)) v_t278] ((fun x => PV.agg (cA_t49 x)) r) := by
  refine ret_run (n := 18) (fn := Try.f106) (c := bodyOf Try.f106) (by kernel_rfl) (by kernel_rfl) (by kernel_rfl) (by kernel_rfl) ?_
  have hF : KC 18 (FinR Try.prog Try.f106 ((fun x => PV.agg (cA_t49 x)) r)) := FinR.kc' (by kernel_rfl)
  unfold G_table_own at h
  obtain ⟨v_o295, h378, h⟩ := bind_some h
  refine pkk_sound TTok mix hF 7 (hs := [.c, .n n]) (ts := []) (s := [0, 3]) (l := [1, 2, 5, 6]) (by kernel_rfl) (by kernel_rfl) .nil (G_table_own_L1_ok hF (.b 0 :: .s (cR (cR (bodyOf Try.f106))) :: []) n v_t278 n 0 v_t278 _ h378 ?_)
  cases v_o295 with
  | x0 v_z296 =>
    dsimp only at h
    obtain rfl := Option.some.inj h
    exact pend_sound TTok mix 4 (hs := [.c, .c]) (by kernel_rfl) (by kernel_rfl) (by kernel_rfl) (.cons (show 0 + 16 ≤ 16 by decide) .nil)
inductive G_table_split_h_L1_R where
  | x0 (v_w307 : (List S_entry_Entry))
def G_table_split_h_L1_ex : G_table_split_h_L1_R → Ex
  | .x0 _ => .exit 0
def G_table_split_h_L1_st (v_m300 : (List S_entry_Entry)) (v_n299 : S_table_Node) : G_table_split_h_L1_R → PS
  | .x0 v_w307 => ⟨[dd, dd, .ref 0 0, .srf 1, dd, dd, dd, dd, dd, dd, dd, dd, dd, dd, dd, dd, dd, dd, dd, dd], [.box [.d (.v (.bool false)), .d (vnil)], .row 51 7 (v_w307.map eS_entry_Entry)]⟩
def G_table_split_h_L1_hd (v_m300 : (List S_entry_Entry)) (v_n299 : S_table_Node) (v_x301 : Int) (v_w302 : (List S_entry_Entry)) : PS := ⟨[dd, .ref 0 0, .ref 1 0, .srf 2, dd, dd, dd, .d (.v (.int .i64 (v_m300.length : Int))), .d (.v (.int .i64 v_x301)), dd, dd, dd, dd, dd, dd, dd, dd, dd, dd, dd], [.box [.d (.v (.bool v_n299.fHuge)), .d (.sl (v_n299.fEntries.map eS_entry_Entry))], .box [.d (.v (.bool false)), .d (vnil)], .row 51 7 (v_w302.map eS_entry_Entry)]⟩
def G_table_split_h_L1 (n : Nat) (v_m300 : (List S_entry_Entry)) (v_n299 : S_table_Node) : Nat → Int → (List S_entry_Entry) → Option G_table_split_h_L1_R
  | 0, _, _ => none
  | k + 1, v_x301, v_w302 =>
    if v_x301 < (v_m300.length : Int) then
     (G_table_at n v_n299 v_x301).bind fun (v_r305 : (S_entry_Entry)) =>
     if 0 ≤ v_x301 ∧ (v_x301).toNat < v_w302.length then
      (v_w302[(v_x301).toNat]?).bind fun (v_y306 : S_entry_Entry) =>
      G_table_split_h_L1 n v_m300 v_n299 k (wi .i64 (v_x301 + 1)) (v_w302.set (v_x301).toNat v_r305)
     else none
    else
     some (.x0 v_w302)
theorem G_table_split_h_L1_ok {Fi : Ex → PS → Prop} (hF : KC 20 Fi) (ks : List Fr) (n : Nat) (v_m300 : (List S_entry_Entry)) (v_n299 : S_table_Node)  : ∀ (k : Nat) (v_x301 : Int) (v_w302 : (List S_entry_Entry)) (o : G_table_split_h_L1_R), G_table_split_h_L1 n v_m300 v_n299 k v_x301 v_w302 = some o → RunE Try.prog 20 Fi ks (G_table_split_h_L1_ex o) (G_table_split_h_L1_st v_m300 v_n299 o) → RunE Try.prog 20 Fi (.l k (cP (cB (cR (cL (cR (cR (bodyOf Try.f107))))))) :: ks) .normal (G_table_split_h_L1_hd v_m300 v_n299 v_x301 v_w302)
  | 0, v_x301, v_w302, o, h, q => by rw [G_table_split_h_L1] at h; cases h
  | k + 1, v_x301, v_w302, o, h, q => by
    rw [G_table_split_h_L1] at h
    by_cases h384 : v_x301 < (v_m300.length : Int)
    · rw [if_pos h384] at h
      obtain ⟨v_r305, h388, h⟩ := bind_some h
      by_cases h389 : 0 ≤ v_x301 ∧ (v_x301).toNat < v_w302.length
      · rw [if_pos h389] at h
        obtain ⟨v_y306, h390, h⟩ := bind_some h
        exact pkk_sound TTok mix hF 13 (hs := [.t true, .c, .r (eS_entry_Entry v_r305), .w ((v_w302.set (v_x301).toNat v_r305).map eS_entry_Entry), .y (eS_entry_Entry v_y306)]) (ts := []) (s := [0, 1, 2]) (l := [1, 2, 3, 7, 8]) (by kernel_rfl) (by kernel_rfl) (.cons (dt h384) (.cons (G_table_at_ok n v_n299 v_x301 _ h388) (.cons (idx_ob (f := eS_entry_Entry) h389) (.cons (get_ob (f := eS_entry_Entry) h390) (.cons (Eq.refl (pcells (.agg [.v (.bool v_r305.fHere), .v (.bool v_r305.fSlot), .v (.int .i64 v_r305.fAt), .v (.int .i64 v_r305.fRights), .v (.bool v_r305.fUsed), .v (.bool v_r305.fDirty), .v (.bool v_r305.fCopy)]))) (.cons (set_ob (f := eS_entry_Entry) (l := v_w302) (k := (v_x301).toNat) (z := v_r305) (p := .agg [.v (.bool v_r305.fHere), .v (.bool v_r305.fSlot), .v (.int .i64 v_r305.fAt), .v (.int .i64 v_r305.fRights), .v (.bool v_r305.fUsed), .v (.bool v_r305.fDirty), .v (.bool v_r305.fCopy)]) rfl) .nil)))))) (G_table_split_h_L1_ok hF ks n v_m300 v_n299 k (wi .i64 (v_x301 + 1)) (v_w302.set (v_x301).toNat v_r305) _ h q)
      · rw [if_neg h389] at h; cases h
    · rw [if_neg h384] at h
      cases h
      exact pkk_sound TTok mix hF 8 (hs := [.t false]) (ts := []) (s := [1, 2]) (l := [2, 3]) (by kernel_rfl) (by kernel_rfl) (.cons (df h384) .nil) q
/- ringhall/table.split -/
def G_table_split_h (n : Nat) (v_n299 : S_table_Node) : Option (S_table_Node) :=
  (mkL 32 (S_entry_Entry.mk false false 0 0 false false false) 8).bind fun (v_m300 : (List S_entry_Entry)) =>
  (G_table_split_h_L1 n v_m300 v_n299 n 0 v_m300).bind fun v_o308 => match v_o308 with
  | .x0 v_z309 =>
    some (S_table_Node.mk false v_z309)
theorem G_table_split_h_ok (n : Nat) (v_n299 : S_table_Node) (r : S_table_Node) (h : G_table_split_h n v_n299 = some r) : RetH Try.prog 107 [.d (eS_table_Node v_n299)] [] (.agg [.d (.v (.bool r.fHuge)), .srf 0]) [.row 51 7 (r.fEntries.map eS_entry_Entry)] := by
  refine retH_run (n := 20) (fn := Try.f107) (c := bodyOf Try.f107) (by kernel_rfl) (by kernel_rfl) (by kernel_rfl) (by kernel_rfl) ?_
  have hF : KC 20 (FinH Try.prog Try.f107 [] (.agg [.d (.v (.bool r.fHuge)), .srf 0]) [.row 51 7 (r.fEntries.map eS_entry_Entry)]) := FinH.kc' (by kernel_rfl)
  unfold G_table_split_h at h
  obtain ⟨v_m300, h383, h⟩ := bind_some h
  obtain ⟨v_o308, h391, h⟩ := bind_some h
  refine pkk_sound TTok mix hF 9 (hs := [.w (v_m300.map eS_entry_Entry), .u (.d (.v (.int .i64 (v_m300.length : Int)))), .n n]) (ts := []) (s := [0, 3, 6]) (l := [1, 2, 3, 7, 8]) (by kernel_rfl) (by kernel_rfl) (.cons (mkL_ob (f := eS_entry_Entry) (p := .agg [.v (.bool false), .v (.bool false), .v (.int .i64 0), .v (.int .i64 0), .v (.bool false), .v (.bool false), .v (.bool false)]) h383 rfl).1 (.cons (mkL_ob (f := eS_entry_Entry) (p := .agg [.v (.bool false), .v (.bool false), .v (.int .i64 0), .v (.int .i64 0), .v (.bool false), .v (.bool false), .v (.bool false)]) h383 rfl).2.1 (.cons (mkL_ob (f := eS_entry_Entry) (p := .agg [.v (.bool false), .v (.bool false), .v (.int .i64 0), .v (.int .i64 0), .v (.bool false), .v (.bool false), .v (.bool false)]) h383 rfl).2.2.1 (.cons (mkL_ob (f := eS_entry_Entry) (p := .agg [.v (.bool false), .v (.bool false), .v (.int .i64 0), .v (.int .i64 0), .v (.bool false), .v (.bool false), .v (.bool false)]) h383 rfl).2.2.2.1 (.cons (mkL_ob (f := eS_entry_Entry) (p := .agg [.v (.bool false), .v (.bool false), .v (.int .i64 0), .v (.int .i64 0), .v (.bool false), .v (.bool false), .v (.bool false)]) h383 rfl).2.2.2.2 (.cons (len_ob (f := eS_entry_Entry) (l := v_m300)) .nil)))))) (G_table_split_h_L1_ok hF (.b 0 :: .s (cR (cR (cR (bodyOf Try.f107)))) :: []) n v_m300 v_n299 n 0 v_m300 _ h391 ?_)
  cases v_o308 with
  | x0 v_z309 =>
    dsimp only at h
    obtain rfl := Option.some.inj h
    exact pendH_sound TTok mix 4 (hs := [.c]) [1] (by kernel_rfl) (by kernel_rfl) (by kernel_rfl) (.cons (show 0 + 2 ≤ 2 by decide) .nil)
inductive G_table_clean_L1_R where
  | x0 
  | x1 
def G_table_clean_L1_ex : G_table_clean_L1_R → Ex
  | .x0  => .ret
  | .x1  => .exit 0
def G_table_clean_L1_st (v_n312 : S_table_Node) : G_table_clean_L1_R → PS
  | .x0  => ⟨[dd, dd, .ref 0 0, dd, dd, dd, dd, dd, dd, dd, dd, dd, dd, dd, dd, dd, dd, dd], [.box [.d (.v (.bool v_n312.fHuge)), .d (.sl (v_n312.fEntries.map eS_entry_Entry))]]⟩
  | .x1  => ⟨[dd, dd, .ref 0 0, dd, dd, dd, dd, dd, dd, dd, dd, dd, dd, dd, dd, dd, dd, dd], [.box [.d (.v (.bool false)), .d (vnil)]]⟩
def G_table_clean_L1_hd (v_n312 : S_table_Node) (v_x313 : Int) : PS := ⟨[dd, .ref 0 0, .ref 1 0, dd, dd, dd, .d (.sl (v_n312.fEntries.map eS_entry_Entry)), .d (.v (.int .i64 (v_n312.fEntries.length : Int))), .d (.v (.int .i64 v_x313)), dd, dd, dd, dd, dd, dd, dd, dd, dd], [.box [.d (.v (.bool v_n312.fHuge)), .d (.sl (v_n312.fEntries.map eS_entry_Entry))], .box [.d (.v (.bool false)), .d (vnil)]]⟩
def G_table_clean_L1 (n : Nat) (v_n312 : S_table_Node) : Nat → Int → Option G_table_clean_L1_R
  | 0, _ => none
  | k + 1, v_x313 =>
    if v_x313 < (v_n312.fEntries.length : Int) then
     (getI v_n312.fEntries v_x313).bind fun (v_y316 : S_entry_Entry) =>
     (G_entry_None n v_y316).bind fun (v_r317 : (Bool)) =>
     if v_r317 = true then
      G_table_clean_L1 n v_n312 k (wi .i64 (v_x313 + 1))
     else
      some (.x0 )
    else
     some (.x1 )
theorem G_table_clean_L1_ok {Fi : Ex → PS → Prop} (hF : KC 18 Fi) (ks : List Fr) (n : Nat) (v_n312 : S_table_Node)  : ∀ (k : Nat) (v_x313 : Int) (o : G_table_clean_L1_R), G_table_clean_L1 n v_n312 k v_x313 = some o → RunE Try.prog 18 Fi ks (G_table_clean_L1_ex o) (G_table_clean_L1_st v_n312 o) → RunE Try.prog 18 Fi (.l k (cP (cB (cR (cL (cR (bodyOf Try.f108)))))) :: ks) .normal (G_table_clean_L1_hd v_n312 v_x313)
  | 0, v_x313, o, h, q => by rw [G_table_clean_L1] at h; cases h
  | k + 1, v_x313, o, h, q => by
    rw [G_table_clean_L1] at h
    by_cases h397 : v_x313 < (v_n312.fEntries.length : Int)
    · rw [if_pos h397] at h
      obtain ⟨v_y316, h401, h⟩ := bind_some h
      obtain ⟨v_r317, h402, h⟩ := bind_some h
      by_cases h403 : v_r317 = true
      · rw [if_pos h403] at h
        exact pkk_sound TTok mix hF 16 (hs := [.t true, .y (eS_entry_Entry v_y316), .c, .c, .r (eB v_r317), .t false]) (ts := []) (s := [0, 1]) (l := [1, 2, 6, 7, 8]) (by kernel_rfl) (by kernel_rfl) (.cons (dt h397) (.cons (getI_ob (f := eS_entry_Entry) h401) (.cons (show 0 + 7 ≤ 7 by decide) (.cons (G_entry_None_ok n v_y316 _ h402) (.cons (bnf h403) .nil))))) (G_table_clean_L1_ok hF ks n v_n312 k (wi .i64 (v_x313 + 1)) _ h q)
      · rw [if_neg h403] at h
        cases h
        exact pkk_sound TTok mix hF 19 (hs := [.t true, .y (eS_entry_Entry v_y316), .c, .c, .r (eB v_r317), .t true, .c, .c]) (ts := []) (s := [1]) (l := [2]) (by kernel_rfl) (by kernel_rfl) (.cons (dt h397) (.cons (getI_ob (f := eS_entry_Entry) h401) (.cons (show 0 + 7 ≤ 7 by decide) (.cons (G_entry_None_ok n v_y316 _ h402) (.cons (bnt (vf h403)) (.cons (show 0 + 2 ≤ 2 by decide) .nil)))))) q
    · rw [if_neg h397] at h
      cases h
      exact pkk_sound TTok mix hF 8 (hs := [.t false]) (ts := []) (s := [1]) (l := [2]) (by kernel_rfl) (by kernel_rfl) (.cons (df h397) .nil) q
/- ringhall/table.clean -/
def G_table_clean (n : Nat) (v_n312 : S_table_Node) : Option (S_table_Node) :=
  (G_table_clean_L1 n v_n312 n 0).bind fun v_o318 => match v_o318 with
  | .x0  =>
    some v_n312
  | .x1  =>
    some (S_table_Node.mk false ([] : (List S_entry_Entry)))
theorem G_table_clean_ok (n : Nat) (v_n312 : S_table_Node) (r : S_table_Node) (h : G_table_clean n v_n312 = some r) : Ret Try.prog 108 [eS_table_Node v_n312] (eS_table_Node r) := by
  refine ret_run (n := 18) (fn := Try.f108) (c := bodyOf Try.f108) (by kernel_rfl) (by kernel_rfl) (by kernel_rfl) (by kernel_rfl) ?_
  have hF : KC 18 (FinR Try.prog Try.f108 (eS_table_Node r)) := FinR.kc' (by kernel_rfl)
  unfold G_table_clean at h
  obtain ⟨v_o318, h404, h⟩ := bind_some h
  refine pkk_sound TTok mix hF 7 (hs := [.c, .u (.d (.v (.int .i64 (v_n312.fEntries.length : Int)))), .n n]) (ts := []) (s := [0, 3]) (l := [1, 2, 6, 7, 8]) (by kernel_rfl) (by kernel_rfl) (.cons (len_ob (f := eS_entry_Entry) (l := v_n312.fEntries)) .nil) (G_table_clean_L1_ok hF (.b 0 :: .s (cR (cR (bodyOf Try.f108))) :: []) n v_n312 n 0 _ h404 ?_)
  cases v_o318 with
  | x0  =>
    dsimp only at h
    obtain rfl := Option.some.inj h
    exact pend_sound TTok mix 2 (hs := []) (by kernel_rfl) (by kernel_rfl) (by kernel_rfl) .nil
  | x1  =>
    dsimp only at h
    obtain rfl := Option.some.inj h
    exact pend_sound TTok mix 4 (hs := [.c]) (by kernel_rfl) (by kernel_rfl) (by kernel_rfl) (.cons (show 0 + 2 ≤ 2 by decide) .nil)
inductive G_table_Set_C1_R where
  | x0 (v_e274 : Int)
def G_table_Set_C1_ex : G_table_Set_C1_R → Ex
  | .x0 _ => .normal
def G_table_Set_C1_st (v_p269 : Int) (v_r271 : (Int)) (v_t268 : (Fin 8 → S_table_Node)) (v_x270 : S_entry_Entry) : G_table_Set_C1_R → PS
  | .x0 v_e274 => ⟨[dd, .d (.v (.int .i64 v_p269)), dd, .ref 0 0, dd, .ref 1 0, .ref 2 0, dd, .d (.v (.int .i64 v_e274)), dd, dd, dd, dd, dd, dd, dd, dd, dd, dd, dd, dd, dd, dd, dd, dd, dd, dd, dd, dd, dd, dd, dd, dd, dd, dd, dd, dd, dd, dd, dd], [.box ((cA_t49 v_t268).map FV.d), .box [.d (.v (.bool v_x270.fHere)), .d (.v (.bool v_x270.fSlot)), .d (.v (.int .i64 v_x270.fAt)), .d (.v (.int .i64 v_x270.fRights)), .d (.v (.bool v_x270.fUsed)), .d (.v (.bool v_x270.fDirty)), .d (.v (.bool v_x270.fCopy))], .box [.d (.v (.bool false)), .d (vnil), .d (.v (.bool false)), .d (vnil), .d (.v (.bool false)), .d (vnil), .d (.v (.bool false)), .d (vnil), .d (.v (.bool false)), .d (vnil), .d (.v (.bool false)), .d (vnil), .d (.v (.bool false)), .d (vnil), .d (.v (.bool false)), .d (vnil)]]⟩
def G_table_Set_C1_hd (v_p269 : Int) (v_r271 : (Int)) (v_t268 : (Fin 8 → S_table_Node)) (v_x270 : S_entry_Entry)  : PS := ⟨[dd, .d (.v (.int .i64 v_p269)), dd, .ref 0 0, dd, .ref 1 0, .ref 2 0, dd, .d (.v (.int .i64 v_r271)), dd, dd, dd, dd, dd, .d (.v (.bool (v_r271 == 0))), dd, dd, dd, dd, dd, dd, dd, dd, dd, dd, dd, dd, dd, dd, dd, dd, dd, dd, dd, dd, dd, dd, dd, dd, dd], [.box ((cA_t49 v_t268).map FV.d), .box [.d (.v (.bool v_x270.fHere)), .d (.v (.bool v_x270.fSlot)), .d (.v (.int .i64 v_x270.fAt)), .d (.v (.int .i64 v_x270.fRights)), .d (.v (.bool v_x270.fUsed)), .d (.v (.bool v_x270.fDirty)), .d (.v (.bool v_x270.fCopy))], .box [.d (.v (.bool false)), .d (vnil), .d (.v (.bool false)), .d (vnil), .d (.v (.bool false)), .d (vnil), .d (.v (.bool false)), .d (vnil), .d (.v (.bool false)), .d (vnil), .d (.v (.bool false)), .d (vnil), .d (.v (.bool false)), .d (vnil), .d (.v (.bool false)), .d (vnil)]]⟩
def G_table_Set_C1 (n : Nat) (v_p269 : Int) (v_r271 : (Int)) (v_t268 : (Fin 8 → S_table_Node)) (v_x270 : S_entry_Entry) : Option G_table_Set_C1_R :=
  if v_r271 = 0 then
   (G_entry_Check n v_x270).bind fun (v_r273 : (Int)) =>
   some (.x0 v_r273)
  else
   some (.x0 v_r271)
theorem G_table_Set_C1_ok {Fi : Ex → PS → Prop} (hF : KC 40 Fi) (ks : List Fr) (n : Nat) (v_p269 : Int) (v_r271 : (Int)) (v_t268 : (Fin 8 → S_table_Node)) (v_x270 : S_entry_Entry)  (o : G_table_Set_C1_R) (h : G_table_Set_C1 n v_p269 v_r271 v_t268 v_x270 = some o) (q : RunE Try.prog 40 Fi ks (G_table_Set_C1_ex o) (G_table_Set_C1_st v_p269 v_r271 v_t268 v_x270 o)) : RunE Try.prog 40 Fi (.s (cR (cL (cR (cR (bodyOf Try.f27))))) :: ks) .normal (G_table_Set_C1_hd v_p269 v_r271 v_t268 v_x270) := by
  unfold G_table_Set_C1 at h
  by_cases h355 : v_r271 = 0
  · rw [if_pos h355] at h
    obtain ⟨v_r273, h356, h⟩ := bind_some h
    cases h
    exact pkk_sound TTok mix hF 2 (hs := [.t true, .c, .r ((eI .i64) v_r273)]) (ts := []) (s := [0, 1, 2]) (l := [1, 3, 5, 6, 8]) (by kernel_rfl) (by kernel_rfl) (.cons (bt h355) (.cons (G_entry_Check_ok n v_x270 _ h356) .nil)) q
  · rw [if_neg h355] at h
    cases h
    exact pkk_sound TTok mix hF 2 (hs := [.t false]) (ts := []) (s := [0, 1, 2]) (l := [1, 3, 5, 6, 8]) (by kernel_rfl) (by kernel_rfl) (.cons (bf h355) .nil) q
/- ringhall/table.Set -/
def G_table_Set (n : Nat) (v_t268 : (Fin 8 → S_table_Node)) (v_p269 : Int) (v_x270 : S_entry_Entry) : Option ((Fin 8 → S_table_Node) × Int) :=
  (G_table_page n v_t268 v_p269).bind fun (v_r271 : (Int)) =>
  (G_table_Set_C1 n v_p269 v_r271 v_t268 v_x270).bind fun v_o276 => match v_o276 with
  | .x0 v_z277 =>
    if v_z277 = 0 then
     (G_table_own n v_t268).bind fun (v_r297 : ((Fin 8 → S_table_Node))) =>
     if 0 ≤ (quoI .i64 v_p269 8) ∧ (quoI .i64 v_p269 8) < (8 : Int) then
      (getA v_r297 (quoI .i64 v_p269 8)).bind fun (v_y298 : S_table_Node) =>
      (G_table_split_h n v_y298).bind fun (v_r310 : (S_table_Node)) =>
      if 0 ≤ (remI v_p269 8) ∧ ((remI v_p269 8)).toNat < v_r310.fEntries.length then
       (v_r310.fEntries[((remI v_p269 8)).toNat]?).bind fun (v_y311 : S_entry_Entry) =>
       (G_table_clean n (S_table_Node.mk v_r310.fHuge (v_r310.fEntries.set ((remI v_p269 8)).toNat v_x270))).bind fun (v_r319 : (S_table_Node)) =>
       if 0 ≤ (quoI .i64 v_p269 8) ∧ (quoI .i64 v_p269 8) < (8 : Int) then
        (getA v_r297 (quoI .i64 v_p269 8)).bind fun (v_y320 : S_table_Node) =>
        some ((setA v_r297 (quoI .i64 v_p269 8) v_r319), 0)
       else none
      else none
     else none
    else
     some ((fun (_ : Fin 8) => (S_table_Node.mk false ([] : (List S_entry_Entry)))), v_z277)
theorem G_table_Set_ok (n : Nat) (v_t268 : (Fin 8 → S_table_Node)) (v_p269 : Int) (v_x270 : S_entry_Entry) (r : (Fin 8 → S_table_Node) × Int) (h : G_table_Set n v_t268 v_p269 v_x270 = some r) : Ret Try.prog 27 [(fun x => PV.agg (cA_t49 x)) v_t268, (eI .i64) v_p269, eS_entry_Entry v_x270] (.tup [(fun x => PV.agg (cA_t49 x)) r.1, (eI .i64) r.2]) := by
  refine ret_run (n := 40) (fn := Try.f27) (c := bodyOf Try.f27) (by kernel_rfl) (by kernel_rfl) (by kernel_rfl) (by kernel_rfl) ?_
  have hF : KC 40 (FinR Try.prog Try.f27 (.tup [(fun x => PV.agg (cA_t49 x)) r.1, (eI .i64) r.2])) := FinR.kc' (by kernel_rfl)
  unfold G_table_Set at h
  obtain ⟨v_r271, h352, h⟩ := bind_some h
  obtain ⟨v_o276, h357, h⟩ := bind_some h
  refine pkk_sound TTok mix hF 7 (hs := [.c, .r ((eI .i64) v_r271)]) (ts := []) (s := [0, 3, 6]) (l := [1, 3, 5, 6, 8, 14]) (by kernel_rfl) (by kernel_rfl) (.cons (G_table_page_ok n v_t268 v_p269 _ h352) .nil) (G_table_Set_C1_ok hF (.s (cR (cR (cR (bodyOf Try.f27)))) :: []) n v_p269 v_r271 v_t268 v_x270 _ h357 ?_)
  cases v_o276 with
  | x0 v_z277 =>
    dsimp only at h
    by_cases h359 : v_z277 = 0
    · rw [if_pos h359] at h
      obtain ⟨v_r297, h379, h⟩ := bind_some h
      by_cases h381 : 0 ≤ (quoI .i64 v_p269 8) ∧ (quoI .i64 v_p269 8) < (8 : Int)
      · rw [if_pos h381] at h
        obtain ⟨v_y298, h382, h⟩ := bind_some h
        obtain ⟨v_r310, h392, h⟩ := bind_some h
        by_cases h394 : 0 ≤ (remI v_p269 8) ∧ ((remI v_p269 8)).toNat < v_r310.fEntries.length
        · rw [if_pos h394] at h
          obtain ⟨v_y311, h395, h⟩ := bind_some h
          obtain ⟨v_r319, h406, h⟩ := bind_some h
          by_cases h407 : 0 ≤ (quoI .i64 v_p269 8) ∧ (quoI .i64 v_p269 8) < (8 : Int)
          · rw [if_pos h407] at h
            obtain ⟨v_y320, h408, h⟩ := bind_some h
            obtain rfl := Option.some.inj h
            exact pend_sound TTok mix 17 (hs := [.t false, .c, .r ((fun x => PV.agg (cA_t49 x)) v_r297), .c, .l (.d (.agg [.v (.bool v_y298.fHuge), .sl (v_y298.fEntries.map eS_entry_Entry)])), .h [] [] [.row 51 7 (v_r310.fEntries.map eS_entry_Entry)] (.agg [.d (.v (.bool v_r310.fHuge)), .srf 0]), .c, .c, .c, .w ((v_r310.fEntries.set ((remI v_p269 8)).toNat v_x270).map eS_entry_Entry), .y (eS_entry_Entry v_y311), .dl 1, .fz 30, .c, .r (eS_table_Node v_r319), .x ((cA_t49 (setA v_r297 (quoI .i64 v_p269 8) v_r319)).map FV.d), .c, .c, .c]) (by kernel_rfl) (by kernel_rfl) (by kernel_rfl) (.cons (nf h359) (.cons (G_table_own_ok n v_t268 _ h379) (.cons (show 0 + 16 ≤ 16 by decide) (.cons (show (8 : Int) ≠ 0 by decide) (.cons h381 (.cons (And.intro (congrArg mkAgg (arr_take (γ := FV) (sz := 2) (g := (fun x => [.d (.v (.bool x.fHuge)), .d (.sl (x.fEntries.map eS_entry_Entry))])) (pre := []) (post := []) (fun _ => rfl) h382).1) (arr_take (γ := FV) (sz := 2) (g := (fun x => [.d (.v (.bool x.fHuge)), .d (.sl (x.fEntries.map eS_entry_Entry))])) (pre := []) (post := []) (fun _ => rfl) h382).2) (.cons (G_table_split_h_ok n v_y298 _ h392) (.cons (show 0 + 2 ≤ 2 by decide) (.cons (show (8 : Int) ≠ 0 by decide) (.cons (idx_ob (f := eS_entry_Entry) h394) (.cons (get_ob (f := eS_entry_Entry) h395) (.cons (Eq.refl (pcells (.agg [.v (.bool v_x270.fHere), .v (.bool v_x270.fSlot), .v (.int .i64 v_x270.fAt), .v (.int .i64 v_x270.fRights), .v (.bool v_x270.fUsed), .v (.bool v_x270.fDirty), .v (.bool v_x270.fCopy)]))) (.cons (set_ob (f := eS_entry_Entry) (l := v_r310.fEntries) (k := ((remI v_p269 8)).toNat) (z := v_x270) (p := .agg [.v (.bool v_x270.fHere), .v (.bool v_x270.fSlot), .v (.int .i64 v_x270.fAt), .v (.int .i64 v_x270.fRights), .v (.bool v_x270.fUsed), .v (.bool v_x270.fDirty), .v (.bool v_x270.fCopy)]) rfl) (.cons (show (8 : Int) ≠ 0 by decide) (.cons (G_table_clean_ok n (S_table_Node.mk v_r310.fHuge (v_r310.fEntries.set ((remI v_p269 8)).toNat v_x270)) _ h406) (.cons h407 (.cons (arr_store (γ := FV) (sz := 2) (g := (fun x => [.d (.v (.bool x.fHuge)), .d (.sl (x.fEntries.map eS_entry_Entry))])) (pre := []) (post := []) (o := 0) (y := v_r319) (zs := [.d (.v (.bool v_r319.fHuge)), .d (.sl (v_r319.fEntries.map eS_entry_Entry))]) (fun _ => rfl) h408 rfl (Nat.le_of_ble_eq_true rfl)).1 (.cons (arr_store (γ := FV) (sz := 2) (g := (fun x => [.d (.v (.bool x.fHuge)), .d (.sl (x.fEntries.map eS_entry_Entry))])) (pre := []) (post := []) (o := 0) (y := v_r319) (zs := [.d (.v (.bool v_r319.fHuge)), .d (.sl (v_r319.fEntries.map eS_entry_Entry))]) (fun _ => rfl) h408 rfl (Nat.le_of_ble_eq_true rfl)).2 (.cons (show 0 + 16 ≤ 16 by decide) .nil)))))))))))))))))))
          · rw [if_neg h407] at h; cases h
        · rw [if_neg h394] at h; cases h
      · rw [if_neg h381] at h; cases h
    · rw [if_neg h359] at h
      obtain rfl := Option.some.inj h
      exact pend_sound TTok mix 8 (hs := [.t true, .c]) (by kernel_rfl) (by kernel_rfl) (by kernel_rfl) (.cons (nt h359) (.cons (show 0 + 16 ≤ 16 by decide) .nil))
inductive G_table_Join_L1_R where
  | x0 (v_x333 : Int)
  | x1 
def G_table_Join_L1_ex : G_table_Join_L1_R → Ex
  | .x0 _ => .ret
  | .x1  => .exit 1
def G_table_Join_L1_st (v_k323 : Int) (v_t322 : (Fin 8 → S_table_Node)) (v_r326 : (S_entry_Entry)) : G_table_Join_L1_R → PS
  | .x0 v_x333 => ⟨[dd, dd, dd, dd, .ref 0 0, .d (.v (.int .i64 v_x333)), dd, dd, dd, dd, dd, dd, dd, dd, dd, dd, dd, dd, dd, dd, dd, dd, dd, dd, dd, dd, dd, dd, dd, dd, dd, dd, dd, dd, dd, dd, dd, dd, dd, dd, dd, dd, dd, dd, dd, dd, dd, dd, dd, dd, dd, dd, dd, dd, dd, dd, dd, dd, dd, dd], [.box [.d (.v (.bool false)), .d (vnil), .d (.v (.bool false)), .d (vnil), .d (.v (.bool false)), .d (vnil), .d (.v (.bool false)), .d (vnil), .d (.v (.bool false)), .d (vnil), .d (.v (.bool false)), .d (vnil), .d (.v (.bool false)), .d (vnil), .d (.v (.bool false)), .d (vnil)]]⟩
  | .x1  => ⟨[dd, .d (.v (.int .i64 v_k323)), .ref 0 0, dd, .ref 1 0, dd, dd, .ref 2 0, dd, dd, dd, dd, dd, dd, dd, dd, dd, dd, dd, dd, dd, dd, dd, dd, dd, dd, dd, dd, dd, dd, dd, dd, dd, dd, dd, dd, dd, dd, dd, dd, dd, dd, dd, dd, dd, dd, dd, dd, dd, dd, dd, dd, dd, dd, dd, dd, dd, dd, dd, dd], [.box ((cA_t49 v_t322).map FV.d), .box [.d (.v (.bool false)), .d (vnil), .d (.v (.bool false)), .d (vnil), .d (.v (.bool false)), .d (vnil), .d (.v (.bool false)), .d (vnil), .d (.v (.bool false)), .d (vnil), .d (.v (.bool false)), .d (vnil), .d (.v (.bool false)), .d (vnil), .d (.v (.bool false)), .d (vnil)], .box [.d (.v (.bool v_r326.fHere)), .d (.v (.bool v_r326.fSlot)), .d (.v (.int .i64 v_r326.fAt)), .d (.v (.int .i64 v_r326.fRights)), .d (.v (.bool v_r326.fUsed)), .d (.v (.bool v_r326.fDirty)), .d (.v (.bool v_r326.fCopy))]]⟩
def G_table_Join_L1_hd (v_k323 : Int) (v_t322 : (Fin 8 → S_table_Node)) (v_r326 : (S_entry_Entry)) (v_x327 : Int) : PS := ⟨[dd, .d (.v (.int .i64 v_k323)), .ref 0 0, dd, .ref 1 0, dd, dd, .ref 2 0, dd, dd, dd, dd, dd, dd, dd, dd, dd, dd, dd, dd, dd, dd, dd, dd, dd, dd, dd, dd, dd, .d (.v (.int .i64 v_x327)), dd, dd, dd, dd, dd, dd, dd, dd, dd, dd, dd, dd, dd, dd, dd, dd, dd, dd, dd, dd, dd, dd, dd, dd, dd, dd, dd, dd, dd, dd], [.box ((cA_t49 v_t322).map FV.d), .box [.d (.v (.bool false)), .d (vnil), .d (.v (.bool false)), .d (vnil), .d (.v (.bool false)), .d (vnil), .d (.v (.bool false)), .d (vnil), .d (.v (.bool false)), .d (vnil), .d (.v (.bool false)), .d (vnil), .d (.v (.bool false)), .d (vnil), .d (.v (.bool false)), .d (vnil)], .box [.d (.v (.bool v_r326.fHere)), .d (.v (.bool v_r326.fSlot)), .d (.v (.int .i64 v_r326.fAt)), .d (.v (.int .i64 v_r326.fRights)), .d (.v (.bool v_r326.fUsed)), .d (.v (.bool v_r326.fDirty)), .d (.v (.bool v_r326.fCopy))]]⟩
def G_table_Join_L1 (n : Nat) (v_k323 : Int) (v_t322 : (Fin 8 → S_table_Node)) (v_r326 : (S_entry_Entry)) : Nat → Int → Option G_table_Join_L1_R
  | 0, _ => none
  | k + 1, v_x327 =>
    if v_x327 < 8 then
     if 0 ≤ v_k323 ∧ v_k323 < (8 : Int) then
      (getA v_t322 v_k323).bind fun (v_y331 : S_table_Node) =>
      (G_table_at n v_y331 v_x327).bind fun (v_r332 : (S_entry_Entry)) =>
      if (eqRes .neq (eqS_entry_Entry (S_entry_Entry.mk v_r332.fHere v_r332.fSlot (wi .i64 (v_r332.fAt - v_x327)) v_r332.fRights v_r332.fUsed v_r332.fDirty v_r332.fCopy) v_r326)) = true then
       some (.x0 8)
      else
       (G_table_huge n v_r326).bind fun (v_r334 : (Bool)) =>
       if v_r334 = true then
        G_table_Join_L1 n v_k323 v_t322 v_r326 k (wi .i64 (v_x327 + 1))
       else
        some (.x0 8)
     else none
    else
     some (.x1 )
theorem G_table_Join_L1_ok {Fi : Ex → PS → Prop} (hF : KC 60 Fi) (ks : List Fr) (n : Nat) (v_k323 : Int) (v_t322 : (Fin 8 → S_table_Node)) (v_r326 : (S_entry_Entry))  : ∀ (k : Nat) (v_x327 : Int) (o : G_table_Join_L1_R), G_table_Join_L1 n v_k323 v_t322 v_r326 k v_x327 = some o → RunE Try.prog 60 Fi ks (G_table_Join_L1_ex o) (G_table_Join_L1_st v_k323 v_t322 v_r326 o) → RunE Try.prog 60 Fi (.l k (cP (cB (cR (cL (cR (cR (cR (cR (bodyOf Try.f28))))))))) :: ks) .normal (G_table_Join_L1_hd v_k323 v_t322 v_r326 v_x327)
  | 0, v_x327, o, h, q => by rw [G_table_Join_L1] at h; cases h
  | k + 1, v_x327, o, h, q => by
    rw [G_table_Join_L1] at h
    by_cases h428 : v_x327 < 8
    · rw [if_pos h428] at h
      by_cases h436 : 0 ≤ v_k323 ∧ v_k323 < (8 : Int)
      · rw [if_pos h436] at h
        obtain ⟨v_y331, h437, h⟩ := bind_some h
        obtain ⟨v_r332, h438, h⟩ := bind_some h
        by_cases h439 : (eqRes .neq (eqS_entry_Entry (S_entry_Entry.mk v_r332.fHere v_r332.fSlot (wi .i64 (v_r332.fAt - v_x327)) v_r332.fRights v_r332.fUsed v_r332.fDirty v_r332.fCopy) v_r326)) = true
        · rw [if_pos h439] at h
          cases h
          exact pkk_sound TTok mix hF 23 (hs := [.t true, .l (.d (.agg [.v (.bool v_y331.fHuge), .sl (v_y331.fEntries.map eS_entry_Entry)])), .r (eS_entry_Entry v_r332), .c, .c, .c, .c, .c, .q (eqS_entry_Entry (S_entry_Entry.mk v_r332.fHere v_r332.fSlot (wi .i64 (v_r332.fAt - v_x327)) v_r332.fRights v_r332.fUsed v_r332.fDirty v_r332.fCopy) v_r326), .t true, .c, .c, .c, .c]) (ts := []) (s := [1]) (l := [4, 5]) (by kernel_rfl) (by kernel_rfl) (.cons (dt h428) (.cons h436 (.cons (And.intro (congrArg mkAgg (arr_take (γ := FV) (sz := 2) (g := (fun x => [.d (.v (.bool x.fHuge)), .d (.sl (x.fEntries.map eS_entry_Entry))])) (pre := []) (post := []) (fun _ => rfl) h437).1) (arr_take (γ := FV) (sz := 2) (g := (fun x => [.d (.v (.bool x.fHuge)), .d (.sl (x.fEntries.map eS_entry_Entry))])) (pre := []) (post := []) (fun _ => rfl) h437).2) (.cons (G_table_at_ok n v_y331 v_x327 _ h438) (.cons (show 0 + 7 ≤ 7 by decide) (.cons (show 2 + 1 ≤ 7 by decide) (.cons (eqS_entry_Entry_ok (S_entry_Entry.mk v_r332.fHere v_r332.fSlot (wi .i64 (v_r332.fAt - v_x327)) v_r332.fRights v_r332.fUsed v_r332.fDirty v_r332.fCopy) v_r326) (.cons h439 (.cons (show 0 + 16 ≤ 16 by decide) .nil))))))))) q
        · rw [if_neg h439] at h
          obtain ⟨v_r334, h440, h⟩ := bind_some h
          by_cases h442 : v_r334 = true
          · rw [if_pos h442] at h
            exact pkk_sound TTok mix hF 20 (hs := [.t true, .l (.d (.agg [.v (.bool v_y331.fHuge), .sl (v_y331.fEntries.map eS_entry_Entry)])), .r (eS_entry_Entry v_r332), .c, .c, .c, .c, .c, .q (eqS_entry_Entry (S_entry_Entry.mk v_r332.fHere v_r332.fSlot (wi .i64 (v_r332.fAt - v_x327)) v_r332.fRights v_r332.fUsed v_r332.fDirty v_r332.fCopy) v_r326), .t false, .c, .c, .r (eB v_r334), .c, .t false]) (ts := []) (s := [0, 1, 2]) (l := [1, 2, 4, 7, 29]) (by kernel_rfl) (by kernel_rfl) (.cons (dt h428) (.cons h436 (.cons (And.intro (congrArg mkAgg (arr_take (γ := FV) (sz := 2) (g := (fun x => [.d (.v (.bool x.fHuge)), .d (.sl (x.fEntries.map eS_entry_Entry))])) (pre := []) (post := []) (fun _ => rfl) h437).1) (arr_take (γ := FV) (sz := 2) (g := (fun x => [.d (.v (.bool x.fHuge)), .d (.sl (x.fEntries.map eS_entry_Entry))])) (pre := []) (post := []) (fun _ => rfl) h437).2) (.cons (G_table_at_ok n v_y331 v_x327 _ h438) (.cons (show 0 + 7 ≤ 7 by decide) (.cons (show 2 + 1 ≤ 7 by decide) (.cons (eqS_entry_Entry_ok (S_entry_Entry.mk v_r332.fHere v_r332.fSlot (wi .i64 (v_r332.fAt - v_x327)) v_r332.fRights v_r332.fUsed v_r332.fDirty v_r332.fCopy) v_r326) (.cons (vf h439) (.cons (G_table_huge_ok n v_r326 _ h440) (.cons (bnf h442) .nil)))))))))) (G_table_Join_L1_ok hF ks n v_k323 v_t322 v_r326 k (wi .i64 (v_x327 + 1)) _ h q)
          · rw [if_neg h442] at h
            cases h
            exact pkk_sound TTok mix hF 23 (hs := [.t true, .l (.d (.agg [.v (.bool v_y331.fHuge), .sl (v_y331.fEntries.map eS_entry_Entry)])), .r (eS_entry_Entry v_r332), .c, .c, .c, .c, .c, .q (eqS_entry_Entry (S_entry_Entry.mk v_r332.fHere v_r332.fSlot (wi .i64 (v_r332.fAt - v_x327)) v_r332.fRights v_r332.fUsed v_r332.fDirty v_r332.fCopy) v_r326), .t false, .c, .c, .r (eB v_r334), .c, .t true, .c]) (ts := []) (s := [1]) (l := [4, 5]) (by kernel_rfl) (by kernel_rfl) (.cons (dt h428) (.cons h436 (.cons (And.intro (congrArg mkAgg (arr_take (γ := FV) (sz := 2) (g := (fun x => [.d (.v (.bool x.fHuge)), .d (.sl (x.fEntries.map eS_entry_Entry))])) (pre := []) (post := []) (fun _ => rfl) h437).1) (arr_take (γ := FV) (sz := 2) (g := (fun x => [.d (.v (.bool x.fHuge)), .d (.sl (x.fEntries.map eS_entry_Entry))])) (pre := []) (post := []) (fun _ => rfl) h437).2) (.cons (G_table_at_ok n v_y331 v_x327 _ h438) (.cons (show 0 + 7 ≤ 7 by decide) (.cons (show 2 + 1 ≤ 7 by decide) (.cons (eqS_entry_Entry_ok (S_entry_Entry.mk v_r332.fHere v_r332.fSlot (wi .i64 (v_r332.fAt - v_x327)) v_r332.fRights v_r332.fUsed v_r332.fDirty v_r332.fCopy) v_r326) (.cons (vf h439) (.cons (G_table_huge_ok n v_r326 _ h440) (.cons (bnt (vf h442)) (.cons (show 0 + 16 ≤ 16 by decide) .nil))))))))))) q
      · rw [if_neg h436] at h; cases h
    · rw [if_neg h428] at h
      cases h
      exact pkk_sound TTok mix hF 8 (hs := [.t false]) (ts := []) (s := [0, 1, 2]) (l := [1, 2, 4, 7]) (by kernel_rfl) (by kernel_rfl) (.cons (df h428) .nil) q
/- ringhall/table.Join -/
def G_table_Join (n : Nat) (v_t322 : (Fin 8 → S_table_Node)) (v_k323 : Int) : Option ((Fin 8 → S_table_Node) × Int) :=
  (G_table_Check n v_t322).bind fun (v_r324 : (Int)) =>
  if v_r324 = 0 then
   if v_k323 < 0 then
    some ((fun (_ : Fin 8) => (S_table_Node.mk false ([] : (List S_entry_Entry)))), 1)
   else
    if v_k323 ≥ 8 then
     some ((fun (_ : Fin 8) => (S_table_Node.mk false ([] : (List S_entry_Entry)))), 1)
    else
     if 0 ≤ v_k323 ∧ v_k323 < (8 : Int) then
      (getA v_t322 v_k323).bind fun (v_y325 : S_table_Node) =>
      (G_table_at n v_y325 0).bind fun (v_r326 : (S_entry_Entry)) =>
      (G_table_Join_L1 n v_k323 v_t322 v_r326 n 0).bind fun v_o336 => match v_o336 with
      | .x0 v_z337 =>
        some ((fun (_ : Fin 8) => (S_table_Node.mk false ([] : (List S_entry_Entry)))), v_z337)
      | .x1  =>
        (G_table_own n v_t322).bind fun (v_r338 : ((Fin 8 → S_table_Node))) =>
        if 0 ≤ v_k323 ∧ v_k323 < (8 : Int) then
         (getA v_r338 v_k323).bind fun (v_y339 : S_table_Node) =>
         some ((setA v_r338 v_k323 (S_table_Node.mk true ([v_r326]))), 0)
        else none
     else none
  else
   some ((fun (_ : Fin 8) => (S_table_Node.mk false ([] : (List S_entry_Entry)))), v_r324)
theorem G_table_Join_ok (n : Nat) (v_t322 : (Fin 8 → S_table_Node)) (v_k323 : Int) (r : (Fin 8 → S_table_Node) × Int) (h : G_table_Join n v_t322 v_k323 = some r) : Ret Try.prog 28 [(fun x => PV.agg (cA_t49 x)) v_t322, (eI .i64) v_k323] (.tup [(fun x => PV.agg (cA_t49 x)) r.1, (eI .i64) r.2]) := by
  refine ret_run (n := 60) (fn := Try.f28) (c := bodyOf Try.f28) (by kernel_rfl) (by kernel_rfl) (by kernel_rfl) (by kernel_rfl) ?_
  have hF : KC 60 (FinR Try.prog Try.f28 (.tup [(fun x => PV.agg (cA_t49 x)) r.1, (eI .i64) r.2])) := FinR.kc' (by kernel_rfl)
  unfold G_table_Join at h
  obtain ⟨v_r324, h410, h⟩ := bind_some h
  by_cases h421 : v_r324 = 0
  · rw [if_pos h421] at h
    by_cases h422 : v_k323 < 0
    · rw [if_pos h422] at h
      obtain rfl := Option.some.inj h
      exact pend_sound TTok mix 17 (hs := [.c, .r ((eI .i64) v_r324), .t false, .t true, .c, .c, .c]) (by kernel_rfl) (by kernel_rfl) (by kernel_rfl) (.cons (G_table_Check_ok n v_t322 _ h410) (.cons (nf h421) (.cons (dt h422) (.cons (show 0 + 16 ≤ 16 by decide) .nil))))
    · rw [if_neg h422] at h
      by_cases h424 : v_k323 ≥ 8
      · rw [if_pos h424] at h
        obtain rfl := Option.some.inj h
        exact pend_sound TTok mix 17 (hs := [.c, .r ((eI .i64) v_r324), .t false, .t false, .c, .t true, .c]) (by kernel_rfl) (by kernel_rfl) (by kernel_rfl) (.cons (G_table_Check_ok n v_t322 _ h410) (.cons (nf h421) (.cons (df h422) (.cons (dt h424) (.cons (show 0 + 16 ≤ 16 by decide) .nil)))))
      · rw [if_neg h424] at h
        by_cases h425 : 0 ≤ v_k323 ∧ v_k323 < (8 : Int)
        · rw [if_pos h425] at h
          obtain ⟨v_y325, h426, h⟩ := bind_some h
          obtain ⟨v_r326, h427, h⟩ := bind_some h
          obtain ⟨v_o336, h443, h⟩ := bind_some h
          refine pkk_sound TTok mix hF 21 (hs := [.c, .r ((eI .i64) v_r324), .t false, .t false, .c, .t false, .l (.d (.agg [.v (.bool v_y325.fHuge), .sl (v_y325.fEntries.map eS_entry_Entry)])), .r (eS_entry_Entry v_r326), .c, .n n]) (ts := []) (s := [0, 3, 60]) (l := [1, 2, 4, 7, 29]) (by kernel_rfl) (by kernel_rfl) (.cons (G_table_Check_ok n v_t322 _ h410) (.cons (nf h421) (.cons (df h422) (.cons (df h424) (.cons h425 (.cons (And.intro (congrArg mkAgg (arr_take (γ := FV) (sz := 2) (g := (fun x => [.d (.v (.bool x.fHuge)), .d (.sl (x.fEntries.map eS_entry_Entry))])) (pre := []) (post := []) (fun _ => rfl) h426).1) (arr_take (γ := FV) (sz := 2) (g := (fun x => [.d (.v (.bool x.fHuge)), .d (.sl (x.fEntries.map eS_entry_Entry))])) (pre := []) (post := []) (fun _ => rfl) h426).2) (.cons (G_table_at_ok n v_y325 0 _ h427) (.cons (show 0 + 7 ≤ 7 by decide) .nil)))))))) (G_table_Join_L1_ok hF (.b 1 :: .s (cR (cR (cR (cR (cR (bodyOf Try.f28)))))) :: []) n v_k323 v_t322 v_r326 n 0 _ h443 ?_)
          cases v_o336 with
          | x0 v_z337 =>
            dsimp only at h
            obtain rfl := Option.some.inj h
            exact pend_sound TTok mix 2 (hs := []) (by kernel_rfl) (by kernel_rfl) (by kernel_rfl) .nil
          | x1  =>
            dsimp only at h
            obtain ⟨v_r338, h444, h⟩ := bind_some h
            by_cases h445 : 0 ≤ v_k323 ∧ v_k323 < (8 : Int)
            · rw [if_pos h445] at h
              obtain ⟨v_y339, h446, h⟩ := bind_some h
              obtain rfl := Option.some.inj h
              exact pend_sound TTok mix 8 (hs := [.c, .r ((fun x => PV.agg (cA_t49 x)) v_r338), .c, .c, .bd, .x ((cA_t49 (setA v_r338 v_k323 (S_table_Node.mk true ([v_r326])))).map FV.d), .c, .c, .c]) (by kernel_rfl) (by kernel_rfl) (by kernel_rfl) (.cons (G_table_own_ok n v_t322 _ h444) (.cons (show 0 + 16 ≤ 16 by decide) (.cons h445 (.cons (arr_store (γ := FV) (sz := 2) (g := (fun x => [.d (.v (.bool x.fHuge)), .d (.sl (x.fEntries.map eS_entry_Entry))])) (pre := []) (post := []) (o := 0) (y := (S_table_Node.mk true ([v_r326]))) (zs := [.d (.v (.bool true)), .d (.sl (([v_r326]).map eS_entry_Entry))]) (fun _ => rfl) h446 rfl (Nat.le_of_ble_eq_true rfl)).1 (.cons (arr_store (γ := FV) (sz := 2) (g := (fun x => [.d (.v (.bool x.fHuge)), .d (.sl (x.fEntries.map eS_entry_Entry))])) (pre := []) (post := []) (o := 0) (y := (S_table_Node.mk true ([v_r326]))) (zs := [.d (.v (.bool true)), .d (.sl (([v_r326]).map eS_entry_Entry))]) (fun _ => rfl) h446 rfl (Nat.le_of_ble_eq_true rfl)).2 (.cons (show 0 + 16 ≤ 16 by decide) .nil))))))
            · rw [if_neg h445] at h; cases h
        · rw [if_neg h425] at h; cases h
  · rw [if_neg h421] at h
    obtain rfl := Option.some.inj h
    exact pend_sound TTok mix 14 (hs := [.c, .r ((eI .i64) v_r324), .t true, .c]) (by kernel_rfl) (by kernel_rfl) (by kernel_rfl) (.cons (G_table_Check_ok n v_t322 _ h410) (.cons (nt h421) (.cons (show 0 + 16 ≤ 16 by decide) .nil)))
inductive G_table_split_L1_R where
  | x0 (v_w360 : (List S_entry_Entry))
def G_table_split_L1_ex : G_table_split_L1_R → Ex
  | .x0 _ => .exit 0
def G_table_split_L1_st (v_m353 : (List S_entry_Entry)) (v_n352 : S_table_Node) : G_table_split_L1_R → PS
  | .x0 v_w360 => ⟨[dd, dd, .ref 0 0, .srf 1, dd, dd, dd, dd, dd, dd, dd, dd, dd, dd, dd, dd, dd, dd, dd, dd], [.box [.d (.v (.bool false)), .d (vnil)], .row 51 7 (v_w360.map eS_entry_Entry)]⟩
def G_table_split_L1_hd (v_m353 : (List S_entry_Entry)) (v_n352 : S_table_Node) (v_x354 : Int) (v_w355 : (List S_entry_Entry)) : PS := ⟨[dd, .ref 0 0, .ref 1 0, .srf 2, dd, dd, dd, .d (.v (.int .i64 (v_m353.length : Int))), .d (.v (.int .i64 v_x354)), dd, dd, dd, dd, dd, dd, dd, dd, dd, dd, dd], [.box [.d (.v (.bool v_n352.fHuge)), .d (.sl (v_n352.fEntries.map eS_entry_Entry))], .box [.d (.v (.bool false)), .d (vnil)], .row 51 7 (v_w355.map eS_entry_Entry)]⟩
def G_table_split_L1 (n : Nat) (v_m353 : (List S_entry_Entry)) (v_n352 : S_table_Node) : Nat → Int → (List S_entry_Entry) → Option G_table_split_L1_R
  | 0, _, _ => none
  | k + 1, v_x354, v_w355 =>
    if v_x354 < (v_m353.length : Int) then
     (G_table_at n v_n352 v_x354).bind fun (v_r358 : (S_entry_Entry)) =>
     if 0 ≤ v_x354 ∧ (v_x354).toNat < v_w355.length then
      (v_w355[(v_x354).toNat]?).bind fun (v_y359 : S_entry_Entry) =>
      G_table_split_L1 n v_m353 v_n352 k (wi .i64 (v_x354 + 1)) (v_w355.set (v_x354).toNat v_r358)
     else none
    else
     some (.x0 v_w355)
theorem G_table_split_L1_ok {Fi : Ex → PS → Prop} (hF : KC 20 Fi) (ks : List Fr) (n : Nat) (v_m353 : (List S_entry_Entry)) (v_n352 : S_table_Node)  : ∀ (k : Nat) (v_x354 : Int) (v_w355 : (List S_entry_Entry)) (o : G_table_split_L1_R), G_table_split_L1 n v_m353 v_n352 k v_x354 v_w355 = some o → RunE Try.prog 20 Fi ks (G_table_split_L1_ex o) (G_table_split_L1_st v_m353 v_n352 o) → RunE Try.prog 20 Fi (.l k (cP (cB (cR (cL (cR (cR (bodyOf Try.f107))))))) :: ks) .normal (G_table_split_L1_hd v_m353 v_n352 v_x354 v_w355)
  | 0, v_x354, v_w355, o, h, q => by rw [G_table_split_L1] at h; cases h
  | k + 1, v_x354, v_w355, o, h, q => by
    rw [G_table_split_L1] at h
    by_cases h487 : v_x354 < (v_m353.length : Int)
    · rw [if_pos h487] at h
      obtain ⟨v_r358, h491, h⟩ := bind_some h
      by_cases h492 : 0 ≤ v_x354 ∧ (v_x354).toNat < v_w355.length
      · rw [if_pos h492] at h
        obtain ⟨v_y359, h493, h⟩ := bind_some h
        exact pkk_sound TTok mix hF 13 (hs := [.t true, .c, .r (eS_entry_Entry v_r358), .w ((v_w355.set (v_x354).toNat v_r358).map eS_entry_Entry), .y (eS_entry_Entry v_y359)]) (ts := []) (s := [0, 1, 2]) (l := [1, 2, 3, 7, 8]) (by kernel_rfl) (by kernel_rfl) (.cons (dt h487) (.cons (G_table_at_ok n v_n352 v_x354 _ h491) (.cons (idx_ob (f := eS_entry_Entry) h492) (.cons (get_ob (f := eS_entry_Entry) h493) (.cons (Eq.refl (pcells (.agg [.v (.bool v_r358.fHere), .v (.bool v_r358.fSlot), .v (.int .i64 v_r358.fAt), .v (.int .i64 v_r358.fRights), .v (.bool v_r358.fUsed), .v (.bool v_r358.fDirty), .v (.bool v_r358.fCopy)]))) (.cons (set_ob (f := eS_entry_Entry) (l := v_w355) (k := (v_x354).toNat) (z := v_r358) (p := .agg [.v (.bool v_r358.fHere), .v (.bool v_r358.fSlot), .v (.int .i64 v_r358.fAt), .v (.int .i64 v_r358.fRights), .v (.bool v_r358.fUsed), .v (.bool v_r358.fDirty), .v (.bool v_r358.fCopy)]) rfl) .nil)))))) (G_table_split_L1_ok hF ks n v_m353 v_n352 k (wi .i64 (v_x354 + 1)) (v_w355.set (v_x354).toNat v_r358) _ h q)
      · rw [if_neg h492] at h; cases h
    · rw [if_neg h487] at h
      cases h
      exact pkk_sound TTok mix hF 8 (hs := [.t false]) (ts := []) (s := [1, 2]) (l := [2, 3]) (by kernel_rfl) (by kernel_rfl) (.cons (df h487) .nil) q
/- ringhall/table.split -/
def G_table_split (n : Nat) (v_n352 : S_table_Node) : Option (S_table_Node) :=
  (mkL 32 (S_entry_Entry.mk false false 0 0 false false false) 8).bind fun (v_m353 : (List S_entry_Entry)) =>
  (G_table_split_L1 n v_m353 v_n352 n 0 v_m353).bind fun v_o361 => match v_o361 with
  | .x0 v_z362 =>
    some (S_table_Node.mk false v_z362)
theorem G_table_split_ok (n : Nat) (v_n352 : S_table_Node) (r : S_table_Node) (h : G_table_split n v_n352 = some r) : Ret Try.prog 107 [eS_table_Node v_n352] (eS_table_Node r) := by
  refine ret_run (n := 20) (fn := Try.f107) (c := bodyOf Try.f107) (by kernel_rfl) (by kernel_rfl) (by kernel_rfl) (by kernel_rfl) ?_
  have hF : KC 20 (FinR Try.prog Try.f107 (eS_table_Node r)) := FinR.kc' (by kernel_rfl)
  unfold G_table_split at h
  obtain ⟨v_m353, h486, h⟩ := bind_some h
  obtain ⟨v_o361, h494, h⟩ := bind_some h
  refine pkk_sound TTok mix hF 9 (hs := [.w (v_m353.map eS_entry_Entry), .u (.d (.v (.int .i64 (v_m353.length : Int)))), .n n]) (ts := []) (s := [0, 3, 6]) (l := [1, 2, 3, 7, 8]) (by kernel_rfl) (by kernel_rfl) (.cons (mkL_ob (f := eS_entry_Entry) (p := .agg [.v (.bool false), .v (.bool false), .v (.int .i64 0), .v (.int .i64 0), .v (.bool false), .v (.bool false), .v (.bool false)]) h486 rfl).1 (.cons (mkL_ob (f := eS_entry_Entry) (p := .agg [.v (.bool false), .v (.bool false), .v (.int .i64 0), .v (.int .i64 0), .v (.bool false), .v (.bool false), .v (.bool false)]) h486 rfl).2.1 (.cons (mkL_ob (f := eS_entry_Entry) (p := .agg [.v (.bool false), .v (.bool false), .v (.int .i64 0), .v (.int .i64 0), .v (.bool false), .v (.bool false), .v (.bool false)]) h486 rfl).2.2.1 (.cons (mkL_ob (f := eS_entry_Entry) (p := .agg [.v (.bool false), .v (.bool false), .v (.int .i64 0), .v (.int .i64 0), .v (.bool false), .v (.bool false), .v (.bool false)]) h486 rfl).2.2.2.1 (.cons (mkL_ob (f := eS_entry_Entry) (p := .agg [.v (.bool false), .v (.bool false), .v (.int .i64 0), .v (.int .i64 0), .v (.bool false), .v (.bool false), .v (.bool false)]) h486 rfl).2.2.2.2 (.cons (len_ob (f := eS_entry_Entry) (l := v_m353)) .nil)))))) (G_table_split_L1_ok hF (.b 0 :: .s (cR (cR (cR (bodyOf Try.f107)))) :: []) n v_m353 v_n352 n 0 v_m353 _ h494 ?_)
  cases v_o361 with
  | x0 v_z362 =>
    dsimp only at h
    obtain rfl := Option.some.inj h
    exact pend_sound TTok mix 4 (hs := [.c]) (by kernel_rfl) (by kernel_rfl) (by kernel_rfl) (.cons (show 0 + 2 ≤ 2 by decide) .nil)
/- ringhall/table.Split -/
def G_table_Split (n : Nat) (v_t341 : (Fin 8 → S_table_Node)) (v_k342 : Int) : Option ((Fin 8 → S_table_Node) × Int) :=
  (G_table_Check n v_t341).bind fun (v_r343 : (Int)) =>
  if v_r343 = 0 then
   if v_k342 < 0 then
    some ((fun (_ : Fin 8) => (S_table_Node.mk false ([] : (List S_entry_Entry)))), 1)
   else
    if v_k342 ≥ 8 then
     some ((fun (_ : Fin 8) => (S_table_Node.mk false ([] : (List S_entry_Entry)))), 1)
    else
     if 0 ≤ v_k342 ∧ v_k342 < (8 : Int) then
      (getA v_t341 v_k342).bind fun (v_y349 : S_table_Node) =>
      if v_y349.fHuge = true then
       (G_table_own n v_t341).bind fun (v_r350 : ((Fin 8 → S_table_Node))) =>
       if 0 ≤ v_k342 ∧ v_k342 < (8 : Int) then
        (getA v_r350 v_k342).bind fun (v_y351 : S_table_Node) =>
        (G_table_split n v_y351).bind fun (v_r363 : (S_table_Node)) =>
        if 0 ≤ v_k342 ∧ v_k342 < (8 : Int) then
         (getA v_r350 v_k342).bind fun (v_y364 : S_table_Node) =>
         some ((setA v_r350 v_k342 v_r363), 0)
        else none
       else none
      else
       some ((fun (_ : Fin 8) => (S_table_Node.mk false ([] : (List S_entry_Entry)))), 8)
     else none
  else
   some ((fun (_ : Fin 8) => (S_table_Node.mk false ([] : (List S_entry_Entry)))), v_r343)
theorem G_table_Split_ok (n : Nat) (v_t341 : (Fin 8 → S_table_Node)) (v_k342 : Int) (r : (Fin 8 → S_table_Node) × Int) (h : G_table_Split n v_t341 v_k342 = some r) : Ret Try.prog 29 [(fun x => PV.agg (cA_t49 x)) v_t341, (eI .i64) v_k342] (.tup [(fun x => PV.agg (cA_t49 x)) r.1, (eI .i64) r.2]) := by
  refine ret_run (n := 38) (fn := Try.f29) (c := bodyOf Try.f29) (by kernel_rfl) (by kernel_rfl) (by kernel_rfl) (by kernel_rfl) ?_
  have hF : KC 38 (FinR Try.prog Try.f29 (.tup [(fun x => PV.agg (cA_t49 x)) r.1, (eI .i64) r.2])) := FinR.kc' (by kernel_rfl)
  unfold G_table_Split at h
  obtain ⟨v_r343, h448, h⟩ := bind_some h
  by_cases h472 : v_r343 = 0
  · rw [if_pos h472] at h
    by_cases h473 : v_k342 < 0
    · rw [if_pos h473] at h
      obtain rfl := Option.some.inj h
      exact pend_sound TTok mix 17 (hs := [.c, .r ((eI .i64) v_r343), .t false, .t true, .c, .c, .c]) (by kernel_rfl) (by kernel_rfl) (by kernel_rfl) (.cons (G_table_Check_ok n v_t341 _ h448) (.cons (nf h472) (.cons (dt h473) (.cons (show 0 + 16 ≤ 16 by decide) .nil))))
    · rw [if_neg h473] at h
      by_cases h478 : v_k342 ≥ 8
      · rw [if_pos h478] at h
        obtain rfl := Option.some.inj h
        exact pend_sound TTok mix 17 (hs := [.c, .r ((eI .i64) v_r343), .t false, .t false, .c, .t true, .c]) (by kernel_rfl) (by kernel_rfl) (by kernel_rfl) (.cons (G_table_Check_ok n v_t341 _ h448) (.cons (nf h472) (.cons (df h473) (.cons (dt h478) (.cons (show 0 + 16 ≤ 16 by decide) .nil)))))
      · rw [if_neg h478] at h
        by_cases h479 : 0 ≤ v_k342 ∧ v_k342 < (8 : Int)
        · rw [if_pos h479] at h
          obtain ⟨v_y349, h480, h⟩ := bind_some h
          by_cases h482 : v_y349.fHuge = true
          · rw [if_pos h482] at h
            obtain ⟨v_r350, h483, h⟩ := bind_some h
            by_cases h484 : 0 ≤ v_k342 ∧ v_k342 < (8 : Int)
            · rw [if_pos h484] at h
              obtain ⟨v_y351, h485, h⟩ := bind_some h
              obtain ⟨v_r363, h495, h⟩ := bind_some h
              by_cases h496 : 0 ≤ v_k342 ∧ v_k342 < (8 : Int)
              · rw [if_pos h496] at h
                obtain ⟨v_y364, h497, h⟩ := bind_some h
                obtain rfl := Option.some.inj h
                exact pend_sound TTok mix 24 (hs := [.c, .r ((eI .i64) v_r343), .t false, .t false, .c, .t false, .l (.d (.v (.bool v_y349.fHuge))), .t false, .c, .r ((fun x => PV.agg (cA_t49 x)) v_r350), .c, .l (.d (.agg [.v (.bool v_y351.fHuge), .sl (v_y351.fEntries.map eS_entry_Entry)])), .r (eS_table_Node v_r363), .x ((cA_t49 (setA v_r350 v_k342 v_r363)).map FV.d), .c, .c, .c]) (by kernel_rfl) (by kernel_rfl) (by kernel_rfl) (.cons (G_table_Check_ok n v_t341 _ h448) (.cons (nf h472) (.cons (df h473) (.cons (df h478) (.cons h479 (.cons (arr_cell (γ := FV) (sz := 2) (g := (fun x => [.d (.v (.bool x.fHuge)), .d (.sl (x.fEntries.map eS_entry_Entry))])) (pre := []) (post := []) (o := 0) (fun _ => rfl) h480 rfl) (.cons (bnf h482) (.cons (G_table_own_ok n v_t341 _ h483) (.cons (show 0 + 16 ≤ 16 by decide) (.cons h484 (.cons (And.intro (congrArg mkAgg (arr_take (γ := FV) (sz := 2) (g := (fun x => [.d (.v (.bool x.fHuge)), .d (.sl (x.fEntries.map eS_entry_Entry))])) (pre := []) (post := []) (fun _ => rfl) h485).1) (arr_take (γ := FV) (sz := 2) (g := (fun x => [.d (.v (.bool x.fHuge)), .d (.sl (x.fEntries.map eS_entry_Entry))])) (pre := []) (post := []) (fun _ => rfl) h485).2) (.cons (G_table_split_ok n v_y351 _ h495) (.cons h496 (.cons (arr_store (γ := FV) (sz := 2) (g := (fun x => [.d (.v (.bool x.fHuge)), .d (.sl (x.fEntries.map eS_entry_Entry))])) (pre := []) (post := []) (o := 0) (y := v_r363) (zs := [.d (.v (.bool v_r363.fHuge)), .d (.sl (v_r363.fEntries.map eS_entry_Entry))]) (fun _ => rfl) h497 rfl (Nat.le_of_ble_eq_true rfl)).1 (.cons (arr_store (γ := FV) (sz := 2) (g := (fun x => [.d (.v (.bool x.fHuge)), .d (.sl (x.fEntries.map eS_entry_Entry))])) (pre := []) (post := []) (o := 0) (y := v_r363) (zs := [.d (.v (.bool v_r363.fHuge)), .d (.sl (v_r363.fEntries.map eS_entry_Entry))]) (fun _ => rfl) h497 rfl (Nat.le_of_ble_eq_true rfl)).2 (.cons (show 0 + 16 ≤ 16 by decide) .nil))))))))))))))))
              · rw [if_neg h496] at h; cases h
            · rw [if_neg h484] at h; cases h
          · rw [if_neg h482] at h
            obtain rfl := Option.some.inj h
            exact pend_sound TTok mix 20 (hs := [.c, .r ((eI .i64) v_r343), .t false, .t false, .c, .t false, .l (.d (.v (.bool v_y349.fHuge))), .t true, .c]) (by kernel_rfl) (by kernel_rfl) (by kernel_rfl) (.cons (G_table_Check_ok n v_t341 _ h448) (.cons (nf h472) (.cons (df h473) (.cons (df h478) (.cons h479 (.cons (arr_cell (γ := FV) (sz := 2) (g := (fun x => [.d (.v (.bool x.fHuge)), .d (.sl (x.fEntries.map eS_entry_Entry))])) (pre := []) (post := []) (o := 0) (fun _ => rfl) h480 rfl) (.cons (bnt (vf h482)) (.cons (show 0 + 16 ≤ 16 by decide) .nil))))))))
        · rw [if_neg h479] at h; cases h
  · rw [if_neg h472] at h
    obtain rfl := Option.some.inj h
    exact pend_sound TTok mix 14 (hs := [.c, .r ((eI .i64) v_r343), .t true, .c]) (by kernel_rfl) (by kernel_rfl) (by kernel_rfl) (.cons (G_table_Check_ok n v_t341 _ h448) (.cons (nt h472) (.cons (show 0 + 16 ≤ 16 by decide) .nil)))
inductive G_table_Size_L1_R where
  | x0 (v_nodes373 : Int) (v_entries374 : Int)
def G_table_Size_L1_ex : G_table_Size_L1_R → Ex
  | .x0 _ _ => .exit 0
def G_table_Size_L1_st (v_t366 : (Fin 8 → S_table_Node)) : G_table_Size_L1_R → PS
  | .x0 v_nodes373 v_entries374 => ⟨[dd, dd, dd, dd, dd, dd, .d (.v (.int .i64 v_nodes373)), .d (.v (.int .i64 v_entries374)), dd, dd, dd, dd, dd, dd, dd, dd, dd, dd, dd, dd, dd, dd, dd, dd, dd, dd, dd, dd, dd, dd, dd, dd, dd], []⟩
def G_table_Size_L1_hd (v_t366 : (Fin 8 → S_table_Node)) (v_nodes368 : Int) (v_entries369 : Int) (v_x370 : Int) : PS := ⟨[dd, dd, dd, dd, dd, dd, .d (.v (.int .i64 v_nodes368)), .d (.v (.int .i64 v_entries369)), dd, dd, dd, dd, dd, dd, dd, .d (.agg (cA_t49 v_t366)), .d (.v (.int .i64 v_x370)), dd, dd, dd, dd, dd, dd, dd, dd, dd, dd, dd, dd, dd, dd, dd, dd], []⟩
def G_table_Size_L1 (n : Nat) (v_t366 : (Fin 8 → S_table_Node)) : Nat → Int → Int → Int → Option G_table_Size_L1_R
  | 0, _, _, _ => none
  | k + 1, v_nodes368, v_entries369, v_x370 =>
    if v_x370 < 8 then
     (getA v_t366 v_x370).bind fun (v_y372 : S_table_Node) =>
     if (v_y372.fEntries.length : Int) > 0 then
      G_table_Size_L1 n v_t366 k (wi .i64 (v_nodes368 + 1)) (wi .i64 (v_entries369 + (v_y372.fEntries.length : Int))) (wi .i64 (v_x370 + 1))
     else
      G_table_Size_L1 n v_t366 k v_nodes368 (wi .i64 (v_entries369 + (v_y372.fEntries.length : Int))) (wi .i64 (v_x370 + 1))
    else
     some (.x0 v_nodes368 v_entries369)
theorem G_table_Size_L1_ok {Fi : Ex → PS → Prop} (hF : KC 33 Fi) (ks : List Fr) (n : Nat) (v_t366 : (Fin 8 → S_table_Node))  : ∀ (k : Nat) (v_nodes368 : Int) (v_entries369 : Int) (v_x370 : Int) (o : G_table_Size_L1_R), G_table_Size_L1 n v_t366 k v_nodes368 v_entries369 v_x370 = some o → RunE Try.prog 33 Fi ks (G_table_Size_L1_ex o) (G_table_Size_L1_st v_t366 o) → RunE Try.prog 33 Fi (.l k (cP (cB (cR (cL (cR (cR (cR (bodyOf Try.f30)))))))) :: ks) .normal (G_table_Size_L1_hd v_t366 v_nodes368 v_entries369 v_x370)
  | 0, v_nodes368, v_entries369, v_x370, o, h, q => by rw [G_table_Size_L1] at h; cases h
  | k + 1, v_nodes368, v_entries369, v_x370, o, h, q => by
    rw [G_table_Size_L1] at h
    by_cases h502 : v_x370 < 8
    · rw [if_pos h502] at h
      obtain ⟨v_y372, h506, h⟩ := bind_some h
      by_cases h508 : (v_y372.fEntries.length : Int) > 0
      · rw [if_pos h508] at h
        exact pkk_sound TTok mix hF 18 (hs := [.t true, .l (.d (.agg [.v (.bool v_y372.fHuge), .sl (v_y372.fEntries.map eS_entry_Entry)])), .c, .c, .u (.d (.v (.int .i64 (v_y372.fEntries.length : Int)))), .t true, .c, .u (.d (.v (.int .i64 (v_y372.fEntries.length : Int))))]) (ts := []) (s := []) (l := [6, 7, 15, 16]) (by kernel_rfl) (by kernel_rfl) (.cons (dt h502) (.cons (arr_idx (sz := 2) (g := (fun x => [.d (.v (.bool x.fHuge)), .d (.sl (x.fEntries.map eS_entry_Entry))])) (fun _ => rfl) h506) (.cons (show 0 + 2 ≤ 2 by decide) (.cons (len_ob (f := eS_entry_Entry) (l := v_y372.fEntries)) (.cons (dt h508) (.cons (len_ob (f := eS_entry_Entry) (l := v_y372.fEntries)) .nil)))))) (G_table_Size_L1_ok hF ks n v_t366 k (wi .i64 (v_nodes368 + 1)) (wi .i64 (v_entries369 + (v_y372.fEntries.length : Int))) (wi .i64 (v_x370 + 1)) _ h q)
      · rw [if_neg h508] at h
        exact pkk_sound TTok mix hF 18 (hs := [.t true, .l (.d (.agg [.v (.bool v_y372.fHuge), .sl (v_y372.fEntries.map eS_entry_Entry)])), .c, .c, .u (.d (.v (.int .i64 (v_y372.fEntries.length : Int)))), .t false, .c, .u (.d (.v (.int .i64 (v_y372.fEntries.length : Int))))]) (ts := []) (s := []) (l := [6, 7, 15, 16]) (by kernel_rfl) (by kernel_rfl) (.cons (dt h502) (.cons (arr_idx (sz := 2) (g := (fun x => [.d (.v (.bool x.fHuge)), .d (.sl (x.fEntries.map eS_entry_Entry))])) (fun _ => rfl) h506) (.cons (show 0 + 2 ≤ 2 by decide) (.cons (len_ob (f := eS_entry_Entry) (l := v_y372.fEntries)) (.cons (df h508) (.cons (len_ob (f := eS_entry_Entry) (l := v_y372.fEntries)) .nil)))))) (G_table_Size_L1_ok hF ks n v_t366 k v_nodes368 (wi .i64 (v_entries369 + (v_y372.fEntries.length : Int))) (wi .i64 (v_x370 + 1)) _ h q)
    · rw [if_neg h502] at h
      cases h
      exact pkk_sound TTok mix hF 8 (hs := [.t false]) (ts := []) (s := []) (l := [6, 7]) (by kernel_rfl) (by kernel_rfl) (.cons (df h502) .nil) q
/- ringhall/table.Size -/
def G_table_Size (n : Nat) (v_t366 : (Fin 8 → S_table_Node)) : Option (Int × Int × Int) :=
  (G_table_Check n v_t366).bind fun (v_r367 : (Int)) =>
  if v_r367 = 0 then
   (G_table_Size_L1 n v_t366 n 0 0 0).bind fun v_o375 => match v_o375 with
   | .x0 v_z376 v_z377 =>
     some (v_z376, v_z377, 0)
  else
   some (0, 0, v_r367)
theorem G_table_Size_ok (n : Nat) (v_t366 : (Fin 8 → S_table_Node)) (r : Int × Int × Int) (h : G_table_Size n v_t366 = some r) : Ret Try.prog 30 [(fun x => PV.agg (cA_t49 x)) v_t366] (.tup [(eI .i64) r.1, (eI .i64) r.2.1, (eI .i64) r.2.2]) := by
  refine ret_run (n := 33) (fn := Try.f30) (c := bodyOf Try.f30) (by kernel_rfl) (by kernel_rfl) (by kernel_rfl) (by kernel_rfl) ?_
  have hF : KC 33 (FinR Try.prog Try.f30 (.tup [(eI .i64) r.1, (eI .i64) r.2.1, (eI .i64) r.2.2])) := FinR.kc' (by kernel_rfl)
  unfold G_table_Size at h
  obtain ⟨v_r367, h499, h⟩ := bind_some h
  by_cases h501 : v_r367 = 0
  · rw [if_pos h501] at h
    obtain ⟨v_o375, h509, h⟩ := bind_some h
    refine pkk_sound TTok mix hF 16 (hs := [.c, .r ((eI .i64) v_r367), .t false, .c, .n n]) (ts := []) (s := []) (l := [6, 7, 15, 16]) (by kernel_rfl) (by kernel_rfl) (.cons (G_table_Check_ok n v_t366 _ h499) (.cons (nf h501) .nil)) (G_table_Size_L1_ok hF (.b 0 :: .s (cR (cR (cR (cR (bodyOf Try.f30))))) :: []) n v_t366 n 0 0 0 _ h509 ?_)
    cases v_o375 with
    | x0 v_z376 v_z377 =>
      dsimp only at h
      obtain rfl := Option.some.inj h
      exact pend_sound TTok mix 4 (hs := []) (by kernel_rfl) (by kernel_rfl) (by kernel_rfl) .nil
  · rw [if_neg h501] at h
    obtain rfl := Option.some.inj h
    exact pend_sound TTok mix 12 (hs := [.c, .r ((eI .i64) v_r367), .t true]) (by kernel_rfl) (by kernel_rfl) (by kernel_rfl) (.cons (G_table_Check_ok n v_t366 _ h499) (.cons (nt h501) .nil))
/- ringhall/ringref2.In -/
def G_ringref2_In (n : Nat) (v_n409 : Int) (v_least410 : Int) (v_most411 : Int) : Option (Bool) :=
  if v_n409 ≥ v_least410 then
   some (decide (v_n409 ≤ v_most411))
  else
   some false
theorem G_ringref2_In_ok (n : Nat) (v_n409 : Int) (v_least410 : Int) (v_most411 : Int) (r : Bool) (h : G_ringref2_In n v_n409 v_least410 v_most411 = some r) : Ret Try.prog 35 [(eI .i64) v_n409, (eI .i64) v_least410, (eI .i64) v_most411] (eB r) := by
  refine ret_run (n := 15) (fn := Try.f35) (c := bodyOf Try.f35) (by kernel_rfl) (by kernel_rfl) (by kernel_rfl) (by kernel_rfl) ?_
  have hF : KC 15 (FinR Try.prog Try.f35 (eB r)) := FinR.kc' (by kernel_rfl)
  unfold G_ringref2_In at h
  by_cases h548 : v_n409 ≥ v_least410
  · rw [if_pos h548] at h
    obtain rfl := Option.some.inj h
    exact pend_sound TTok mix 5 (hs := [.t true, .c, .c]) (by kernel_rfl) (by kernel_rfl) (by kernel_rfl) (.cons (dt h548) .nil)
  · rw [if_neg h548] at h
    obtain rfl := Option.some.inj h
    exact pend_sound TTok mix 5 (hs := [.t false, .c, .c]) (by kernel_rfl) (by kernel_rfl) (by kernel_rfl) (.cons (df h548) .nil)
inductive G_ringref2_Entries_C1_R where
  | x0 (v_x415 : Bool)
def G_ringref2_Entries_C1_ex : G_ringref2_Entries_C1_R → Ex
  | .x0 _ => .normal
def G_ringref2_Entries_C1_st (v_e408 : S_entry_Entry) : G_ringref2_Entries_C1_R → PS
  | .x0 v_x415 => ⟨[dd, .ref 0 0, dd, dd, dd, dd, dd, dd, dd, dd, dd, dd, dd, .d (.v (.bool v_x415)), dd, dd, dd, dd, dd, dd, dd, dd, dd, dd, dd, dd, dd, dd, dd, dd, dd, dd, dd, dd, dd, dd, dd, dd, dd, dd, dd, dd, dd, dd, dd, dd, dd, dd, dd, dd, dd, dd, dd, dd, dd, dd, dd, dd], [.box [.d (.v (.bool v_e408.fHere)), .d (.v (.bool v_e408.fSlot)), .d (.v (.int .i64 v_e408.fAt)), .d (.v (.int .i64 v_e408.fRights)), .d (.v (.bool v_e408.fUsed)), .d (.v (.bool v_e408.fDirty)), .d (.v (.bool v_e408.fCopy))]]⟩
def G_ringref2_Entries_C1_hd (v_e408 : S_entry_Entry)  : PS := ⟨[dd, .ref 0 0, dd, dd, dd, dd, dd, dd, dd, dd, dd, dd, dd, dd, dd, dd, dd, dd, dd, dd, dd, dd, dd, dd, dd, dd, dd, dd, dd, dd, dd, dd, dd, dd, dd, dd, dd, dd, dd, dd, dd, dd, dd, dd, dd, dd, dd, dd, dd, dd, dd, dd, dd, dd, dd, dd, dd, dd], [.box [.d (.v (.bool v_e408.fHere)), .d (.v (.bool v_e408.fSlot)), .d (.v (.int .i64 v_e408.fAt)), .d (.v (.int .i64 v_e408.fRights)), .d (.v (.bool v_e408.fUsed)), .d (.v (.bool v_e408.fDirty)), .d (.v (.bool v_e408.fCopy))]]⟩
def G_ringref2_Entries_C1 (n : Nat) (v_e408 : S_entry_Entry) : Option G_ringref2_Entries_C1_R :=
  (G_ringref2_In n v_e408.fRights 0 7).bind fun (v_r414 : (Bool)) =>
  if v_r414 = true then
   (G_ringref2_In n v_e408.fAt 0 63).bind fun (v_r416 : (Bool)) =>
   some (.x0 (!v_r416))
  else
   some (.x0 true)
theorem G_ringref2_Entries_C1_ok {Fi : Ex → PS → Prop} (hF : KC 58 Fi) (ks : List Fr) (n : Nat) (v_e408 : S_entry_Entry)  (o : G_ringref2_Entries_C1_R) (h : G_ringref2_Entries_C1 n v_e408 = some o) (q : RunE Try.prog 58 Fi ks (G_ringref2_Entries_C1_ex o) (G_ringref2_Entries_C1_st v_e408 o)) : RunE Try.prog 58 Fi (.s (cL (cL (cR (bodyOf Try.f36)))) :: ks) .normal (G_ringref2_Entries_C1_hd v_e408) := by
  unfold G_ringref2_Entries_C1 at h
  obtain ⟨v_r414, h552, h⟩ := bind_some h
  by_cases h553 : v_r414 = true
  · rw [if_pos h553] at h
    obtain ⟨v_r416, h554, h⟩ := bind_some h
    cases h
    exact pkk_sound TTok mix hF 1 (hs := [.c, .r (eB v_r414), .t false, .c, .c, .c, .r (eB v_r416), .c]) (ts := []) (s := [0]) (l := [1, 13]) (by kernel_rfl) (by kernel_rfl) (.cons (G_ringref2_In_ok n v_e408.fRights 0 7 _ h552) (.cons (bnf h553) (.cons (G_ringref2_In_ok n v_e408.fAt 0 63 _ h554) .nil))) q
  · rw [if_neg h553] at h
    cases h
    exact pkk_sound TTok mix hF 1 (hs := [.c, .r (eB v_r414), .t true, .c, .c, .c]) (ts := []) (s := [0]) (l := [1, 13]) (by kernel_rfl) (by kernel_rfl) (.cons (G_ringref2_In_ok n v_e408.fRights 0 7 _ h552) (.cons (bnt (vf h553)) .nil)) q
inductive G_ringref2_Entries_C2_R where
  | x0 (v_x420 : Bool)
def G_ringref2_Entries_C2_ex : G_ringref2_Entries_C2_R → Ex
  | .x0 _ => .normal
def G_ringref2_Entries_C2_st (v_e408 : S_entry_Entry) : G_ringref2_Entries_C2_R → PS
  | .x0 v_x420 => ⟨[dd, dd, dd, dd, dd, dd, dd, dd, dd, dd, dd, dd, dd, dd, dd, dd, dd, dd, dd, dd, dd, dd, dd, dd, dd, dd, dd, dd, dd, dd, dd, dd, dd, dd, dd, dd, dd, dd, dd, dd, dd, dd, dd, dd, dd, dd, dd, dd, dd, dd, dd, dd, dd, dd, dd, dd, dd, .d (.v (.bool v_x420))], []⟩
def G_ringref2_Entries_C2_hd (v_e408 : S_entry_Entry)  : PS := ⟨[dd, .ref 0 0, dd, .d (.v (.bool (!v_e408.fSlot))), dd, dd, dd, dd, dd, dd, dd, dd, dd, dd, dd, dd, dd, dd, dd, dd, dd, dd, dd, dd, dd, dd, dd, dd, dd, dd, dd, dd, dd, dd, dd, dd, dd, dd, dd, dd, dd, dd, dd, dd, dd, dd, dd, dd, dd, dd, dd, dd, dd, dd, dd, dd, dd, dd], [.box [.d (.v (.bool v_e408.fHere)), .d (.v (.bool v_e408.fSlot)), .d (.v (.int .i64 v_e408.fAt)), .d (.v (.int .i64 v_e408.fRights)), .d (.v (.bool v_e408.fUsed)), .d (.v (.bool v_e408.fDirty)), .d (.v (.bool v_e408.fCopy))]]⟩
def G_ringref2_Entries_C2 (n : Nat) (v_e408 : S_entry_Entry) : Option G_ringref2_Entries_C2_R :=
  if v_e408.fHere = true then
   if v_e408.fSlot = true then
    some (.x0 true)
   else
    if v_e408.fCopy = true then
     some (.x0 true)
    else
     if v_e408.fAt > 0 then
      some (.x0 true)
     else
      some (.x0 (decide (v_e408.fRights > 0)))
  else
   if v_e408.fUsed = true then
    some (.x0 true)
   else
    if v_e408.fDirty = true then
     some (.x0 true)
    else
     if v_e408.fSlot = true then
      some (.x0 false)
     else
      if v_e408.fCopy = true then
       some (.x0 true)
      else
       if v_e408.fAt > 0 then
        some (.x0 true)
       else
        some (.x0 (decide (v_e408.fRights > 0)))
theorem G_ringref2_Entries_C2_ok {Fi : Ex → PS → Prop} (hF : KC 58 Fi) (ks : List Fr) (n : Nat) (v_e408 : S_entry_Entry)  (o : G_ringref2_Entries_C2_R) (h : G_ringref2_Entries_C2 n v_e408 = some o) (q : RunE Try.prog 58 Fi ks (G_ringref2_Entries_C2_ex o) (G_ringref2_Entries_C2_st v_e408 o)) : RunE Try.prog 58 Fi (.s (cL (cL (cR (cR (cR (bodyOf Try.f36)))))) :: ks) .normal (G_ringref2_Entries_C2_hd v_e408) := by
  unfold G_ringref2_Entries_C2 at h
  by_cases h567 : v_e408.fHere = true
  · rw [if_pos h567] at h
    by_cases h568 : v_e408.fSlot = true
    · rw [if_pos h568] at h
      cases h
      exact pkk_sound TTok mix hF 1 (hs := [.c, .t true, .c, .c, .t true, .c, .c, .c, .c, .c, .c, .c]) (ts := []) (s := []) (l := [57]) (by kernel_rfl) (by kernel_rfl) (.cons h567 (.cons h568 .nil)) q
    · rw [if_neg h568] at h
      by_cases h569 : v_e408.fCopy = true
      · rw [if_pos h569] at h
        cases h
        exact pkk_sound TTok mix hF 1 (hs := [.c, .t true, .c, .c, .t false, .c, .c, .c, .c, .t false, .c, .c, .c, .c, .c, .c, .t true, .c, .c, .c, .t true, .c, .c, .c, .c, .c, .c, .c, .c, .c]) (ts := []) (s := []) (l := [57]) (by kernel_rfl) (by kernel_rfl) (.cons h567 (.cons (vf h568) (.cons (bnf h567) (.cons (bnt (vf h568)) (.cons h569 .nil))))) q
      · rw [if_neg h569] at h
        by_cases h570 : v_e408.fAt > 0
        · rw [if_pos h570] at h
          cases h
          exact pkk_sound TTok mix hF 1 (hs := [.c, .t true, .c, .c, .t false, .c, .c, .c, .c, .t false, .c, .c, .c, .c, .c, .c, .t true, .c, .c, .c, .t false, .c, .c, .c, .c, .c, .t true, .c, .c, .c, .c]) (ts := []) (s := []) (l := [57]) (by kernel_rfl) (by kernel_rfl) (.cons h567 (.cons (vf h568) (.cons (bnf h567) (.cons (bnt (vf h568)) (.cons (vf h569) (.cons (dt h570) .nil)))))) q
        · rw [if_neg h570] at h
          cases h
          exact pkk_sound TTok mix hF 1 (hs := [.c, .t true, .c, .c, .t false, .c, .c, .c, .c, .t false, .c, .c, .c, .c, .c, .c, .t true, .c, .c, .c, .t false, .c, .c, .c, .c, .c, .t false, .c, .c, .c, .c, .c]) (ts := []) (s := []) (l := [57]) (by kernel_rfl) (by kernel_rfl) (.cons h567 (.cons (vf h568) (.cons (bnf h567) (.cons (bnt (vf h568)) (.cons (vf h569) (.cons (df h570) .nil)))))) q
  · rw [if_neg h567] at h
    by_cases h571 : v_e408.fUsed = true
    · rw [if_pos h571] at h
      cases h
      exact pkk_sound TTok mix hF 1 (hs := [.c, .t false, .c, .c, .c, .c, .c, .c, .t true, .c, .c, .c, .t true, .c, .c, .c, .c, .c, .c]) (ts := []) (s := []) (l := [57]) (by kernel_rfl) (by kernel_rfl) (.cons (vf h567) (.cons (bnt (vf h567)) (.cons h571 .nil))) q
    · rw [if_neg h571] at h
      by_cases h572 : v_e408.fDirty = true
      · rw [if_pos h572] at h
        cases h
        exact pkk_sound TTok mix hF 1 (hs := [.c, .t false, .c, .c, .c, .c, .c, .c, .t true, .c, .c, .c, .t false, .c, .c, .c, .c, .t true, .c, .c]) (ts := []) (s := []) (l := [57]) (by kernel_rfl) (by kernel_rfl) (.cons (vf h567) (.cons (bnt (vf h567)) (.cons (vf h571) (.cons h572 .nil)))) q
      · rw [if_neg h572] at h
        by_cases h573 : v_e408.fSlot = true
        · rw [if_pos h573] at h
          cases h
          exact pkk_sound TTok mix hF 1 (hs := [.c, .t false, .c, .c, .c, .c, .c, .c, .t true, .c, .c, .c, .t false, .c, .c, .c, .c, .t false, .c, .t false, .c, .c, .c, .c, .c, .c]) (ts := []) (s := []) (l := [57]) (by kernel_rfl) (by kernel_rfl) (.cons (vf h567) (.cons (bnt (vf h567)) (.cons (vf h571) (.cons (vf h572) (.cons (bnf h573) .nil))))) q
        · rw [if_neg h573] at h
          by_cases h574 : v_e408.fCopy = true
          · rw [if_pos h574] at h
            cases h
            exact pkk_sound TTok mix hF 1 (hs := [.c, .t false, .c, .c, .c, .c, .c, .c, .t true, .c, .c, .c, .t false, .c, .c, .c, .c, .t false, .c, .t true, .c, .c, .c, .t true, .c, .c, .c, .c, .c, .c, .c, .c, .c]) (ts := []) (s := []) (l := [57]) (by kernel_rfl) (by kernel_rfl) (.cons (vf h567) (.cons (bnt (vf h567)) (.cons (vf h571) (.cons (vf h572) (.cons (bnt (vf h573)) (.cons h574 .nil)))))) q
          · rw [if_neg h574] at h
            by_cases h575 : v_e408.fAt > 0
            · rw [if_pos h575] at h
              cases h
              exact pkk_sound TTok mix hF 1 (hs := [.c, .t false, .c, .c, .c, .c, .c, .c, .t true, .c, .c, .c, .t false, .c, .c, .c, .c, .t false, .c, .t true, .c, .c, .c, .t false, .c, .c, .c, .c, .c, .t true, .c, .c, .c, .c]) (ts := []) (s := []) (l := [57]) (by kernel_rfl) (by kernel_rfl) (.cons (vf h567) (.cons (bnt (vf h567)) (.cons (vf h571) (.cons (vf h572) (.cons (bnt (vf h573)) (.cons (vf h574) (.cons (dt h575) .nil))))))) q
            · rw [if_neg h575] at h
              cases h
              exact pkk_sound TTok mix hF 1 (hs := [.c, .t false, .c, .c, .c, .c, .c, .c, .t true, .c, .c, .c, .t false, .c, .c, .c, .c, .t false, .c, .t true, .c, .c, .c, .t false, .c, .c, .c, .c, .c, .t false, .c, .c, .c, .c, .c]) (ts := []) (s := []) (l := [57]) (by kernel_rfl) (by kernel_rfl) (.cons (vf h567) (.cons (bnt (vf h567)) (.cons (vf h571) (.cons (vf h572) (.cons (bnt (vf h573)) (.cons (vf h574) (.cons (df h575) .nil))))))) q
inductive G_ringref2_Entries_C3_R where
  | x0 (v_x432 : Bool)
def G_ringref2_Entries_C3_ex : G_ringref2_Entries_C3_R → Ex
  | .x0 _ => .normal
def G_ringref2_Entries_C3_st (v_e408 : S_entry_Entry) : G_ringref2_Entries_C3_R → PS
  | .x0 v_x432 => ⟨[dd, dd, dd, dd, dd, dd, dd, dd, dd, dd, dd, dd, dd, dd, dd, dd, dd, dd, dd, dd, dd, dd, dd, dd, dd, dd, dd, dd, dd, dd, dd, dd, dd, dd, dd, dd, dd, dd, dd, dd, dd, dd, dd, dd, dd, dd, dd, dd, dd, dd, dd, dd, dd, dd, dd, dd, dd, .d (.v (.bool v_x432))], []⟩
def G_ringref2_Entries_C3_hd (v_e408 : S_entry_Entry)  : PS := ⟨[dd, .ref 0 0, dd, .d (.v (.bool false)), dd, dd, dd, dd, dd, dd, dd, dd, dd, dd, dd, dd, dd, dd, dd, dd, dd, dd, dd, dd, dd, dd, dd, dd, dd, dd, dd, dd, dd, dd, dd, dd, dd, dd, dd, dd, dd, dd, dd, dd, dd, dd, dd, dd, dd, dd, dd, dd, dd, dd, dd, dd, dd, dd], [.box [.d (.v (.bool v_e408.fHere)), .d (.v (.bool v_e408.fSlot)), .d (.v (.int .i64 v_e408.fAt)), .d (.v (.int .i64 v_e408.fRights)), .d (.v (.bool v_e408.fUsed)), .d (.v (.bool v_e408.fDirty)), .d (.v (.bool v_e408.fCopy))]]⟩
def G_ringref2_Entries_C3 (n : Nat) (v_e408 : S_entry_Entry) : Option G_ringref2_Entries_C3_R :=
  if v_e408.fHere = true then
   if v_e408.fSlot = true then
    some (.x0 true)
   else
    some (.x0 false)
  else
   if v_e408.fUsed = true then
    some (.x0 true)
   else
    if v_e408.fDirty = true then
     some (.x0 true)
    else
     some (.x0 false)
theorem G_ringref2_Entries_C3_ok {Fi : Ex → PS → Prop} (hF : KC 58 Fi) (ks : List Fr) (n : Nat) (v_e408 : S_entry_Entry)  (o : G_ringref2_Entries_C3_R) (h : G_ringref2_Entries_C3 n v_e408 = some o) (q : RunE Try.prog 58 Fi ks (G_ringref2_Entries_C3_ex o) (G_ringref2_Entries_C3_st v_e408 o)) : RunE Try.prog 58 Fi (.s (cL (cL (cR (cR (cR (bodyOf Try.f36)))))) :: ks) .normal (G_ringref2_Entries_C3_hd v_e408) := by
  unfold G_ringref2_Entries_C3 at h
  by_cases h582 : v_e408.fHere = true
  · rw [if_pos h582] at h
    by_cases h583 : v_e408.fSlot = true
    · rw [if_pos h583] at h
      cases h
      exact pkk_sound TTok mix hF 1 (hs := [.c, .t true, .c, .c, .t true, .c, .c, .c, .c, .c, .c, .c]) (ts := []) (s := []) (l := [57]) (by kernel_rfl) (by kernel_rfl) (.cons h582 (.cons h583 .nil)) q
    · rw [if_neg h583] at h
      cases h
      exact pkk_sound TTok mix hF 1 (hs := [.c, .t true, .c, .c, .t false, .c, .c, .c, .c, .t false, .c, .c, .c, .c, .c, .c, .c, .c, .c, .c, .c, .c, .c]) (ts := []) (s := []) (l := [57]) (by kernel_rfl) (by kernel_rfl) (.cons h582 (.cons (vf h583) (.cons (bnf h582) .nil))) q
  · rw [if_neg h582] at h
    by_cases h584 : v_e408.fUsed = true
    · rw [if_pos h584] at h
      cases h
      exact pkk_sound TTok mix hF 1 (hs := [.c, .t false, .c, .c, .c, .c, .c, .c, .t true, .c, .c, .c, .t true, .c, .c, .c, .c, .c, .c]) (ts := []) (s := []) (l := [57]) (by kernel_rfl) (by kernel_rfl) (.cons (vf h582) (.cons (bnt (vf h582)) (.cons h584 .nil))) q
    · rw [if_neg h584] at h
      by_cases h585 : v_e408.fDirty = true
      · rw [if_pos h585] at h
        cases h
        exact pkk_sound TTok mix hF 1 (hs := [.c, .t false, .c, .c, .c, .c, .c, .c, .t true, .c, .c, .c, .t false, .c, .c, .c, .c, .t true, .c, .c]) (ts := []) (s := []) (l := [57]) (by kernel_rfl) (by kernel_rfl) (.cons (vf h582) (.cons (bnt (vf h582)) (.cons (vf h584) (.cons h585 .nil)))) q
      · rw [if_neg h585] at h
        cases h
        exact pkk_sound TTok mix hF 1 (hs := [.c, .t false, .c, .c, .c, .c, .c, .c, .t true, .c, .c, .c, .t false, .c, .c, .c, .c, .t false, .c, .c, .c, .c, .c, .c, .c, .c]) (ts := []) (s := []) (l := [57]) (by kernel_rfl) (by kernel_rfl) (.cons (vf h582) (.cons (bnt (vf h582)) (.cons (vf h584) (.cons (vf h585) .nil)))) q
/- ringhall/ringref2.Entries -/
def G_ringref2_Entries (n : Nat) (v_e408 : S_entry_Entry) : Option (Int) :=
  (G_ringref2_Entries_C1 n v_e408).bind fun v_o418 => match v_o418 with
  | .x0 v_z419 =>
    if v_z419 = true then
     some 1
    else
     if v_e408.fHere = true then
      (G_ringref2_Entries_C3 n v_e408).bind fun v_o437 => match v_o437 with
      | .x0 v_z438 =>
        if v_z438 = true then
         some 3
        else
         some 0
     else
      (G_ringref2_Entries_C2 n v_e408).bind fun v_o430 => match v_o430 with
      | .x0 v_z431 =>
        if v_z431 = true then
         some 3
        else
         some 0
theorem G_ringref2_Entries_ok (n : Nat) (v_e408 : S_entry_Entry) (r : Int) (h : G_ringref2_Entries n v_e408 = some r) : Ret Try.prog 36 [eS_entry_Entry v_e408] ((eI .i64) r) := by
  refine ret_run (n := 58) (fn := Try.f36) (c := bodyOf Try.f36) (by kernel_rfl) (by kernel_rfl) (by kernel_rfl) (by kernel_rfl) ?_
  have hF : KC 58 (FinR Try.prog Try.f36 ((eI .i64) r)) := FinR.kc' (by kernel_rfl)
  unfold G_ringref2_Entries at h
  obtain ⟨v_o418, h555, h⟩ := bind_some h
  refine pkk_sound TTok mix hF 4 (hs := []) (ts := []) (s := [0]) (l := [1]) (by kernel_rfl) (by kernel_rfl) .nil (G_ringref2_Entries_C1_ok hF (.s (cR (cL (cR (bodyOf Try.f36)))) :: .s (cR (cR (bodyOf Try.f36))) :: []) n v_e408 _ h555 ?_)
  cases v_o418 with
  | x0 v_z419 =>
    dsimp only at h
    by_cases h556 : v_z419 = true
    · rw [if_pos h556] at h
      obtain rfl := Option.some.inj h
      exact pend_sound TTok mix 5 (hs := [.t true]) (by kernel_rfl) (by kernel_rfl) (by kernel_rfl) (.cons h556 .nil)
    · rw [if_neg h556] at h
      by_cases h557 : v_e408.fHere = true
      · rw [if_pos h557] at h
        obtain ⟨v_o437, h586, h⟩ := bind_some h
        refine pkk_sound TTok mix hF 6 (hs := [.t false, .c, .t false, .c, .c]) (ts := []) (s := [0]) (l := [1, 3]) (by kernel_rfl) (by kernel_rfl) (.cons (vf h556) (.cons (bnf h557) .nil)) (G_ringref2_Entries_C3_ok hF (.s (cR (cL (cR (cR (cR (bodyOf Try.f36)))))) :: .s (cR (cR (cR (cR (bodyOf Try.f36))))) :: []) n v_e408 _ h586 ?_)
        cases v_o437 with
        | x0 v_z438 =>
          dsimp only at h
          by_cases h587 : v_z438 = true
          · rw [if_pos h587] at h
            obtain rfl := Option.some.inj h
            exact pend_sound TTok mix 5 (hs := [.t true]) (by kernel_rfl) (by kernel_rfl) (by kernel_rfl) (.cons h587 .nil)
          · rw [if_neg h587] at h
            obtain rfl := Option.some.inj h
            exact pend_sound TTok mix 5 (hs := [.t false]) (by kernel_rfl) (by kernel_rfl) (by kernel_rfl) (.cons (vf h587) .nil)
      · rw [if_neg h557] at h
        obtain ⟨v_o430, h576, h⟩ := bind_some h
        refine pkk_sound TTok mix hF 6 (hs := [.t false, .c, .t true, .c, .c, .c]) (ts := []) (s := [0]) (l := [1, 3]) (by kernel_rfl) (by kernel_rfl) (.cons (vf h556) (.cons (bnt (vf h557)) .nil)) (G_ringref2_Entries_C2_ok hF (.s (cR (cL (cR (cR (cR (bodyOf Try.f36)))))) :: .s (cR (cR (cR (cR (bodyOf Try.f36))))) :: []) n v_e408 _ h576 ?_)
        cases v_o430 with
        | x0 v_z431 =>
          dsimp only at h
          by_cases h577 : v_z431 = true
          · rw [if_pos h577] at h
            obtain rfl := Option.some.inj h
            exact pend_sound TTok mix 5 (hs := [.t true]) (by kernel_rfl) (by kernel_rfl) (by kernel_rfl) (.cons h577 .nil)
          · rw [if_neg h577] at h
            obtain rfl := Option.some.inj h
            exact pend_sound TTok mix 5 (hs := [.t false]) (by kernel_rfl) (by kernel_rfl) (by kernel_rfl) (.cons (vf h577) .nil)
inductive G_ringref2_Tables_C1_R where
  | x0 (v_x393 : Bool)
def G_ringref2_Tables_C1_ex : G_ringref2_Tables_C1_R → Ex
  | .x0 _ => .normal
def G_ringref2_Tables_C1_st (v_t379 : (Fin 8 → S_table_Node)) (v_x380 : Int) (v_y381 : S_table_Node) : G_ringref2_Tables_C1_R → PS
  | .x0 v_x393 => ⟨[dd, dd, dd, dd, .ref 0 0, dd, dd, dd, dd, .d (.agg (cA_t49 v_t379)), .d (.v (.int .i64 v_x380)), dd, dd, dd, dd, dd, dd, dd, dd, dd, dd, dd, dd, dd, dd, dd, dd, dd, dd, dd, dd, dd, dd, dd, dd, .d (.v (.bool v_x393)), dd, dd, dd, dd, dd, dd, dd, dd, dd, dd, dd, dd, dd, dd, dd, dd, dd, dd, dd, dd, dd, dd, dd, dd, dd, dd, dd, dd, dd, dd, dd, dd, dd, dd, dd, dd, dd, dd, dd, dd, dd], [.box [.d (.v (.bool v_y381.fHuge)), .d (.sl (v_y381.fEntries.map eS_entry_Entry))]]⟩
def G_ringref2_Tables_C1_hd (v_t379 : (Fin 8 → S_table_Node)) (v_x380 : Int) (v_y381 : S_table_Node)  : PS := ⟨[dd, dd, dd, dd, .ref 0 0, dd, dd, dd, dd, .d (.agg (cA_t49 v_t379)), .d (.v (.int .i64 v_x380)), dd, dd, dd, dd, dd, dd, dd, dd, dd, dd, dd, dd, dd, dd, dd, dd, dd, dd, dd, dd, dd, dd, dd, dd, dd, dd, dd, dd, dd, dd, dd, dd, dd, dd, dd, dd, dd, dd, dd, dd, dd, dd, dd, dd, dd, dd, dd, dd, dd, dd, dd, dd, dd, dd, dd, dd, dd, dd, dd, dd, dd, dd, dd, dd, dd, dd], [.box [.d (.v (.bool v_y381.fHuge)), .d (.sl (v_y381.fEntries.map eS_entry_Entry))]]⟩
def G_ringref2_Tables_C1 (n : Nat) (v_t379 : (Fin 8 → S_table_Node)) (v_x380 : Int) (v_y381 : S_table_Node) : Option G_ringref2_Tables_C1_R :=
  if (v_y381.fEntries.length : Int) = 1 then
   (getI v_y381.fEntries 0).bind fun (v_y394 : S_entry_Entry) =>
   if v_y394.fHere = true then
    (getI v_y381.fEntries 0).bind fun (v_y396 : S_entry_Entry) =>
    some (.x0 ((remI v_y396.fAt 8) != 0))
   else
    some (.x0 true)
  else
   some (.x0 true)
theorem G_ringref2_Tables_C1_ok {Fi : Ex → PS → Prop} (hF : KC 77 Fi) (ks : List Fr) (n : Nat) (v_t379 : (Fin 8 → S_table_Node)) (v_x380 : Int) (v_y381 : S_table_Node)  (o : G_ringref2_Tables_C1_R) (h : G_ringref2_Tables_C1 n v_t379 v_x380 v_y381 = some o) (q : RunE Try.prog 77 Fi ks (G_ringref2_Tables_C1_ex o) (G_ringref2_Tables_C1_st v_t379 v_x380 v_y381 o)) : RunE Try.prog 77 Fi (.s (cL (cT (cR (cL (cR (cB (cL (cR (cR (cP (cB (cR (cL (cR (bodyOf Try.f31))))))))))))))) :: ks) .normal (G_ringref2_Tables_C1_hd v_t379 v_x380 v_y381) := by
  unfold G_ringref2_Tables_C1 at h
  by_cases h535 : (v_y381.fEntries.length : Int) = 1
  · rw [if_pos h535] at h
    obtain ⟨v_y394, h536, h⟩ := bind_some h
    by_cases h537 : v_y394.fHere = true
    · rw [if_pos h537] at h
      obtain ⟨v_y396, h538, h⟩ := bind_some h
      cases h
      exact pkk_sound TTok mix hF 1 (hs := [.c, .u (.d (.v (.int .i64 (v_y381.fEntries.length : Int)))), .t false, .c, .c, .c, .y (eS_entry_Entry v_y394), .c, .c, .c, .c, .t false, .c, .c, .c, .y (eS_entry_Entry v_y396), .c, .c, .c, .c, .c]) (ts := []) (s := [0]) (l := [4, 9, 10, 35]) (by kernel_rfl) (by kernel_rfl) (.cons (len_ob (f := eS_entry_Entry) (l := v_y381.fEntries)) (.cons (nf h535) (.cons (getI_ob (f := eS_entry_Entry) h536) (.cons (bnf h537) (.cons (getI_ob (f := eS_entry_Entry) h538) (.cons (show (8 : Int) ≠ 0 by decide) .nil)))))) q
    · rw [if_neg h537] at h
      cases h
      exact pkk_sound TTok mix hF 1 (hs := [.c, .u (.d (.v (.int .i64 (v_y381.fEntries.length : Int)))), .t false, .c, .c, .c, .y (eS_entry_Entry v_y394), .c, .c, .c, .c, .t true, .c, .c, .c, .c, .c, .c]) (ts := []) (s := [0]) (l := [4, 9, 10, 35]) (by kernel_rfl) (by kernel_rfl) (.cons (len_ob (f := eS_entry_Entry) (l := v_y381.fEntries)) (.cons (nf h535) (.cons (getI_ob (f := eS_entry_Entry) h536) (.cons (bnt (vf h537)) .nil)))) q
  · rw [if_neg h535] at h
    cases h
    exact pkk_sound TTok mix hF 1 (hs := [.c, .u (.d (.v (.int .i64 (v_y381.fEntries.length : Int)))), .t true, .c, .c, .c, .c, .c, .c, .c, .c, .c, .c, .c, .c]) (ts := []) (s := [0]) (l := [4, 9, 10, 35]) (by kernel_rfl) (by kernel_rfl) (.cons (len_ob (f := eS_entry_Entry) (l := v_y381.fEntries)) (.cons (nt h535) .nil)) q
inductive G_ringref2_Tables_C2_R where
  | x0 (v_x400 : Int)
  | x1 
def G_ringref2_Tables_C2_ex : G_ringref2_Tables_C2_R → Ex
  | .x0 _ => .ret
  | .x1  => .normal
def G_ringref2_Tables_C2_st (v_t379 : (Fin 8 → S_table_Node)) (v_x380 : Int) (v_y381 : S_table_Node) : G_ringref2_Tables_C2_R → PS
  | .x0 v_x400 => ⟨[dd, dd, .d (.v (.int .i64 v_x400)), dd, dd, dd, dd, dd, dd, dd, dd, dd, dd, dd, dd, dd, dd, dd, dd, dd, dd, dd, dd, dd, dd, dd, dd, dd, dd, dd, dd, dd, dd, dd, dd, dd, dd, dd, dd, dd, dd, dd, dd, dd, dd, dd, dd, dd, dd, dd, dd, dd, dd, dd, dd, dd, dd, dd, dd, dd, dd, dd, dd, dd, dd, dd, dd, dd, dd, dd, dd, dd, dd, dd, dd, dd, dd], []⟩
  | .x1  => ⟨[dd, dd, dd, dd, .ref 0 0, dd, dd, dd, dd, .d (.agg (cA_t49 v_t379)), .d (.v (.int .i64 v_x380)), dd, dd, dd, dd, dd, dd, dd, dd, dd, dd, dd, dd, dd, dd, dd, dd, dd, dd, dd, dd, dd, dd, dd, dd, dd, dd, dd, dd, dd, dd, dd, dd, dd, dd, dd, dd, dd, dd, dd, dd, dd, dd, dd, dd, dd, dd, dd, dd, dd, dd, dd, dd, dd, dd, dd, dd, dd, dd, dd, dd, dd, dd, dd, dd, dd, dd], [.box [.d (.v (.bool v_y381.fHuge)), .d (.sl (v_y381.fEntries.map eS_entry_Entry))]]⟩
def G_ringref2_Tables_C2_hd (v_t379 : (Fin 8 → S_table_Node)) (v_x380 : Int) (v_y381 : S_table_Node)  : PS := ⟨[dd, dd, dd, dd, .ref 0 0, dd, dd, dd, dd, .d (.agg (cA_t49 v_t379)), .d (.v (.int .i64 v_x380)), dd, dd, dd, .d (.v (.bool v_y381.fHuge)), dd, dd, dd, dd, dd, dd, dd, dd, dd, dd, dd, dd, dd, dd, dd, dd, dd, dd, dd, dd, dd, dd, dd, dd, dd, dd, dd, dd, dd, dd, dd, dd, dd, dd, dd, dd, dd, dd, dd, dd, dd, dd, dd, dd, dd, dd, dd, dd, dd, dd, dd, dd, dd, dd, dd, dd, dd, dd, dd, dd, dd, dd], [.box [.d (.v (.bool v_y381.fHuge)), .d (.sl (v_y381.fEntries.map eS_entry_Entry))]]⟩
def G_ringref2_Tables_C2 (n : Nat) (v_t379 : (Fin 8 → S_table_Node)) (v_x380 : Int) (v_y381 : S_table_Node) : Option G_ringref2_Tables_C2_R :=
  if v_y381.fHuge = true then
   (G_ringref2_Tables_C1 n v_t379 v_x380 v_y381).bind fun v_o398 => match v_o398 with
   | .x0 v_z399 =>
     if v_z399 = true then
      some (.x0 3)
     else
      some (.x1 )
  else
   if (v_y381.fEntries.length : Int) = 0 then
    some (.x1 )
   else
    if (v_y381.fEntries.length : Int) = 8 then
     some (.x1 )
    else
     some (.x0 3)
theorem G_ringref2_Tables_C2_ok {Fi : Ex → PS → Prop} (hF : KC 77 Fi) (ks : List Fr) (n : Nat) (v_t379 : (Fin 8 → S_table_Node)) (v_x380 : Int) (v_y381 : S_table_Node)  (o : G_ringref2_Tables_C2_R) (h : G_ringref2_Tables_C2 n v_t379 v_x380 v_y381 = some o) (q : RunE Try.prog 77 Fi ks (G_ringref2_Tables_C2_ex o) (G_ringref2_Tables_C2_st v_t379 v_x380 v_y381 o)) : RunE Try.prog 77 Fi (.s (cR (cL (cR (cB (cL (cR (cR (cP (cB (cR (cL (cR (bodyOf Try.f31))))))))))))) :: ks) .normal (G_ringref2_Tables_C2_hd v_t379 v_x380 v_y381) := by
  unfold G_ringref2_Tables_C2 at h
  by_cases h529 : v_y381.fHuge = true
  · rw [if_pos h529] at h
    obtain ⟨v_o398, h540, h⟩ := bind_some h
    refine pkk_sound TTok mix hF 2 (hs := [.t true]) (ts := []) (s := [0]) (l := [4, 9, 10]) (by kernel_rfl) (by kernel_rfl) (.cons h529 .nil) (G_ringref2_Tables_C1_ok hF (.s (cR (cT (cR (cL (cR (cB (cL (cR (cR (cP (cB (cR (cL (cR (bodyOf Try.f31))))))))))))))) :: ks) n v_t379 v_x380 v_y381 _ h540 ?_)
    cases v_o398 with
    | x0 v_z399 =>
      dsimp only at h
      by_cases h541 : v_z399 = true
      · rw [if_pos h541] at h
        cases h
        exact pkk_sound TTok mix hF 4 (hs := [.t true]) (ts := []) (s := []) (l := [2]) (by kernel_rfl) (by kernel_rfl) (.cons h541 .nil) q
      · rw [if_neg h541] at h
        cases h
        exact pkk_sound TTok mix hF 2 (hs := [.t false]) (ts := []) (s := [0]) (l := [4, 9, 10]) (by kernel_rfl) (by kernel_rfl) (.cons (vf h541) .nil) q
  · rw [if_neg h529] at h
    by_cases h543 : (v_y381.fEntries.length : Int) = 0
    · rw [if_pos h543] at h
      cases h
      exact pkk_sound TTok mix hF 5 (hs := [.t false, .c, .u (.d (.v (.int .i64 (v_y381.fEntries.length : Int)))), .t false, .c, .c, .c, .c]) (ts := []) (s := [0]) (l := [4, 9, 10]) (by kernel_rfl) (by kernel_rfl) (.cons (vf h529) (.cons (len_ob (f := eS_entry_Entry) (l := v_y381.fEntries)) (.cons (nf h543) .nil))) q
    · rw [if_neg h543] at h
      by_cases h544 : (v_y381.fEntries.length : Int) = 8
      · rw [if_pos h544] at h
        cases h
        exact pkk_sound TTok mix hF 5 (hs := [.t false, .c, .u (.d (.v (.int .i64 (v_y381.fEntries.length : Int)))), .t true, .c, .c, .c, .u (.d (.v (.int .i64 (v_y381.fEntries.length : Int)))), .c, .t false]) (ts := []) (s := [0]) (l := [4, 9, 10]) (by kernel_rfl) (by kernel_rfl) (.cons (vf h529) (.cons (len_ob (f := eS_entry_Entry) (l := v_y381.fEntries)) (.cons (nt h543) (.cons (len_ob (f := eS_entry_Entry) (l := v_y381.fEntries)) (.cons (nf h544) .nil))))) q
      · rw [if_neg h544] at h
        cases h
        exact pkk_sound TTok mix hF 7 (hs := [.t false, .c, .u (.d (.v (.int .i64 (v_y381.fEntries.length : Int)))), .t true, .c, .c, .c, .u (.d (.v (.int .i64 (v_y381.fEntries.length : Int)))), .c, .t true]) (ts := []) (s := []) (l := [2]) (by kernel_rfl) (by kernel_rfl) (.cons (vf h529) (.cons (len_ob (f := eS_entry_Entry) (l := v_y381.fEntries)) (.cons (nt h543) (.cons (len_ob (f := eS_entry_Entry) (l := v_y381.fEntries)) (.cons (nt h544) .nil))))) q
inductive G_ringref2_Tables_C3_R where
  | x0 (v_some448 : Bool)
def G_ringref2_Tables_C3_ex : G_ringref2_Tables_C3_R → Ex
  | .x0 _ => .normal
def G_ringref2_Tables_C3_st (v_some405 : Bool) (v_t379 : (Fin 8 → S_table_Node)) (v_x380 : Int) (v_y381 : S_table_Node) (v_x406 : Int) (v_y445 : S_entry_Entry) : G_ringref2_Tables_C3_R → PS
  | .x0 v_some448 => ⟨[dd, dd, dd, dd, .ref 0 0, .d (.v (.bool v_some448)), dd, dd, dd, .d (.agg (cA_t49 v_t379)), .d (.v (.int .i64 v_x380)), dd, dd, dd, dd, dd, dd, dd, dd, dd, dd, dd, dd, dd, dd, dd, dd, dd, dd, dd, dd, dd, dd, dd, dd, dd, dd, dd, dd, dd, dd, dd, dd, dd, dd, dd, dd, .d (.sl (v_y381.fEntries.map eS_entry_Entry)), .d (.v (.int .i64 (v_y381.fEntries.length : Int))), .d (.v (.int .i64 v_x406)), dd, dd, dd, dd, dd, dd, dd, dd, dd, dd, dd, dd, dd, dd, dd, dd, dd, dd, dd, dd, dd, dd, dd, dd, dd, dd, dd], [.box [.d (.v (.bool v_y381.fHuge)), .d (.sl (v_y381.fEntries.map eS_entry_Entry))]]⟩
def G_ringref2_Tables_C3_hd (v_some405 : Bool) (v_t379 : (Fin 8 → S_table_Node)) (v_x380 : Int) (v_y381 : S_table_Node) (v_x406 : Int) (v_y445 : S_entry_Entry)  : PS := ⟨[dd, dd, dd, dd, .ref 0 0, .d (.v (.bool v_some405)), dd, .ref 1 0, dd, .d (.agg (cA_t49 v_t379)), .d (.v (.int .i64 v_x380)), dd, dd, dd, dd, dd, dd, dd, dd, dd, dd, dd, dd, dd, dd, dd, dd, dd, dd, dd, dd, dd, dd, dd, dd, dd, dd, dd, dd, dd, dd, dd, dd, dd, dd, dd, dd, .d (.sl (v_y381.fEntries.map eS_entry_Entry)), .d (.v (.int .i64 (v_y381.fEntries.length : Int))), .d (.v (.int .i64 v_x406)), dd, dd, dd, dd, dd, dd, dd, dd, dd, dd, dd, dd, dd, dd, dd, dd, dd, dd, dd, dd, dd, dd, dd, dd, dd, dd, dd], [.box [.d (.v (.bool v_y381.fHuge)), .d (.sl (v_y381.fEntries.map eS_entry_Entry))], .box [.d (.v (.bool v_y445.fHere)), .d (.v (.bool v_y445.fSlot)), .d (.v (.int .i64 v_y445.fAt)), .d (.v (.int .i64 v_y445.fRights)), .d (.v (.bool v_y445.fUsed)), .d (.v (.bool v_y445.fDirty)), .d (.v (.bool v_y445.fCopy))]]⟩
def G_ringref2_Tables_C3 (n : Nat) (v_some405 : Bool) (v_t379 : (Fin 8 → S_table_Node)) (v_x380 : Int) (v_y381 : S_table_Node) (v_x406 : Int) (v_y445 : S_entry_Entry) : Option G_ringref2_Tables_C3_R :=
  if v_some405 = true then
   some (.x0 true)
  else
   if v_y445.fHere = true then
    some (.x0 true)
   else
    some (.x0 v_y445.fSlot)
theorem G_ringref2_Tables_C3_ok {Fi : Ex → PS → Prop} (hF : KC 77 Fi) (ks : List Fr) (n : Nat) (v_some405 : Bool) (v_t379 : (Fin 8 → S_table_Node)) (v_x380 : Int) (v_y381 : S_table_Node) (v_x406 : Int) (v_y445 : S_entry_Entry)  (o : G_ringref2_Tables_C3_R) (h : G_ringref2_Tables_C3 n v_some405 v_t379 v_x380 v_y381 v_x406 v_y445 = some o) (q : RunE Try.prog 77 Fi ks (G_ringref2_Tables_C3_ex o) (G_ringref2_Tables_C3_st v_some405 v_t379 v_x380 v_y381 v_x406 v_y445 o)) : RunE Try.prog 77 Fi (.s (cR (cR (cB (cL (cR (cR (cP (cB (cR (cL (cR (cR (cR (cB (cL (cR (cR (cP (cB (cR (cL (cR (bodyOf Try.f31))))))))))))))))))))))) :: ks) .normal (G_ringref2_Tables_C3_hd v_some405 v_t379 v_x380 v_y381 v_x406 v_y445) := by
  unfold G_ringref2_Tables_C3 at h
  by_cases h600 : v_some405 = true
  · rw [if_pos h600] at h
    cases h
    exact pkk_sound TTok mix hF 1 (hs := [.t true, .c, .c, .c]) (ts := []) (s := [0]) (l := [4, 5, 9, 10, 47, 48, 49]) (by kernel_rfl) (by kernel_rfl) (.cons h600 .nil) q
  · rw [if_neg h600] at h
    by_cases h601 : v_y445.fHere = true
    · rw [if_pos h601] at h
      cases h
      exact pkk_sound TTok mix hF 1 (hs := [.t false, .c, .c, .t true, .c]) (ts := []) (s := [0]) (l := [4, 5, 9, 10, 47, 48, 49]) (by kernel_rfl) (by kernel_rfl) (.cons (vf h600) (.cons h601 .nil)) q
    · rw [if_neg h601] at h
      cases h
      exact pkk_sound TTok mix hF 1 (hs := [.t false, .c, .c, .t false, .c, .c]) (ts := []) (s := [0]) (l := [4, 5, 9, 10, 47, 48, 49]) (by kernel_rfl) (by kernel_rfl) (.cons (vf h600) (.cons (vf h601) .nil)) q
inductive G_ringref2_Tables_L4_R where
  | x0 (v_x447 : Int)
  | x1 (v_some453 : Bool)
def G_ringref2_Tables_L4_ex : G_ringref2_Tables_L4_R → Ex
  | .x0 _ => .ret
  | .x1 _ => .exit 2
def G_ringref2_Tables_L4_st (v_t379 : (Fin 8 → S_table_Node)) (v_x380 : Int) (v_y381 : S_table_Node) : G_ringref2_Tables_L4_R → PS
  | .x0 v_x447 => ⟨[dd, dd, .d (.v (.int .i64 v_x447)), dd, dd, dd, dd, dd, dd, dd, dd, dd, dd, dd, dd, dd, dd, dd, dd, dd, dd, dd, dd, dd, dd, dd, dd, dd, dd, dd, dd, dd, dd, dd, dd, dd, dd, dd, dd, dd, dd, dd, dd, dd, dd, dd, dd, dd, dd, dd, dd, dd, dd, dd, dd, dd, dd, dd, dd, dd, dd, dd, dd, dd, dd, dd, dd, dd, dd, dd, dd, dd, dd, dd, dd, dd, dd], []⟩
  | .x1 v_some453 => ⟨[dd, dd, dd, dd, .ref 0 0, .d (.v (.bool v_some453)), dd, dd, dd, .d (.agg (cA_t49 v_t379)), .d (.v (.int .i64 v_x380)), dd, dd, dd, dd, dd, dd, dd, dd, dd, dd, dd, dd, dd, dd, dd, dd, dd, dd, dd, dd, dd, dd, dd, dd, dd, dd, dd, dd, dd, dd, dd, dd, dd, dd, dd, dd, dd, dd, dd, dd, dd, dd, dd, dd, dd, dd, dd, dd, dd, dd, dd, dd, dd, dd, dd, dd, dd, dd, dd, dd, dd, dd, dd, dd, dd, dd], [.box [.d (.v (.bool v_y381.fHuge)), .d (.sl (v_y381.fEntries.map eS_entry_Entry))]]⟩
def G_ringref2_Tables_L4_hd (v_t379 : (Fin 8 → S_table_Node)) (v_x380 : Int) (v_y381 : S_table_Node) (v_some405 : Bool) (v_x406 : Int) : PS := ⟨[dd, dd, dd, dd, .ref 0 0, .d (.v (.bool v_some405)), dd, dd, dd, .d (.agg (cA_t49 v_t379)), .d (.v (.int .i64 v_x380)), dd, dd, dd, dd, dd, dd, dd, dd, dd, dd, dd, dd, dd, dd, dd, dd, dd, dd, dd, dd, dd, dd, dd, dd, dd, dd, dd, dd, dd, dd, dd, dd, dd, dd, dd, dd, .d (.sl (v_y381.fEntries.map eS_entry_Entry)), .d (.v (.int .i64 (v_y381.fEntries.length : Int))), .d (.v (.int .i64 v_x406)), dd, dd, dd, dd, dd, dd, dd, dd, dd, dd, dd, dd, dd, dd, dd, dd, dd, dd, dd, dd, dd, dd, dd, dd, dd, dd, dd], [.box [.d (.v (.bool v_y381.fHuge)), .d (.sl (v_y381.fEntries.map eS_entry_Entry))]]⟩
def G_ringref2_Tables_L4 (n : Nat) (v_t379 : (Fin 8 → S_table_Node)) (v_x380 : Int) (v_y381 : S_table_Node) : Nat → Bool → Int → Option G_ringref2_Tables_L4_R
  | 0, _, _ => none
  | k + 1, v_some405, v_x406 =>
    if v_x406 < (v_y381.fEntries.length : Int) then
     (getI v_y381.fEntries v_x406).bind fun (v_y445 : S_entry_Entry) =>
     (G_ringref2_Entries n v_y445).bind fun (v_r446 : (Int)) =>
     if v_r446 = 0 then
      (G_ringref2_Tables_C3 n v_some405 v_t379 v_x380 v_y381 v_x406 v_y445).bind fun v_o451 => match v_o451 with
      | .x0 v_z452 =>
        G_ringref2_Tables_L4 n v_t379 v_x380 v_y381 k v_z452 (wi .i64 (v_x406 + 1))
     else
      some (.x0 v_r446)
    else
     some (.x1 v_some405)
theorem G_ringref2_Tables_L4_ok {Fi : Ex → PS → Prop} (hF : KC 77 Fi) (ks : List Fr) (n : Nat) (v_t379 : (Fin 8 → S_table_Node)) (v_x380 : Int) (v_y381 : S_table_Node)  : ∀ (k : Nat) (v_some405 : Bool) (v_x406 : Int) (o : G_ringref2_Tables_L4_R), G_ringref2_Tables_L4 n v_t379 v_x380 v_y381 k v_some405 v_x406 = some o → RunE Try.prog 77 Fi ks (G_ringref2_Tables_L4_ex o) (G_ringref2_Tables_L4_st v_t379 v_x380 v_y381 o) → RunE Try.prog 77 Fi (.l k (cP (cB (cR (cL (cR (cR (cR (cB (cL (cR (cR (cP (cB (cR (cL (cR (bodyOf Try.f31))))))))))))))))) :: ks) .normal (G_ringref2_Tables_L4_hd v_t379 v_x380 v_y381 v_some405 v_x406)
  | 0, v_some405, v_x406, o, h, q => by rw [G_ringref2_Tables_L4] at h; cases h
  | k + 1, v_some405, v_x406, o, h, q => by
    rw [G_ringref2_Tables_L4] at h
    by_cases h546 : v_x406 < (v_y381.fEntries.length : Int)
    · rw [if_pos h546] at h
      obtain ⟨v_y445, h595, h⟩ := bind_some h
      obtain ⟨v_r446, h596, h⟩ := bind_some h
      by_cases h597 : v_r446 = 0
      · rw [if_pos h597] at h
        obtain ⟨v_o451, h602, h⟩ := bind_some h
        refine pkk_sound TTok mix hF 17 (hs := [.t true, .y (eS_entry_Entry v_y445), .c, .c, .r ((eI .i64) v_r446), .t false]) (ts := []) (s := [0, 10]) (l := [4, 5, 7, 9, 10, 47, 48, 49]) (by kernel_rfl) (by kernel_rfl) (.cons (dt h546) (.cons (getI_ob (f := eS_entry_Entry) h595) (.cons (show 0 + 7 ≤ 7 by decide) (.cons (G_ringref2_Entries_ok n v_y445 _ h596) (.cons (nf h597) .nil))))) (G_ringref2_Tables_C3_ok hF (.b 3 :: .s (cR (cR (cR (cP (cB (cR (cL (cR (cR (cR (cB (cL (cR (cR (cP (cB (cR (cL (cR (bodyOf Try.f31)))))))))))))))))))) :: .l k (cP (cB (cR (cL (cR (cR (cR (cB (cL (cR (cR (cP (cB (cR (cL (cR (bodyOf Try.f31))))))))))))))))) :: ks) n v_some405 v_t379 v_x380 v_y381 v_x406 v_y445 _ h602 ?_)
        cases v_o451 with
        | x0 v_z452 =>
          dsimp only at h
          exact pkk_sound TTok mix hF 2 (hs := []) (ts := []) (s := [0]) (l := [4, 5, 9, 10, 47, 48, 49]) (by kernel_rfl) (by kernel_rfl) .nil (G_ringref2_Tables_L4_ok hF ks n v_t379 v_x380 v_y381 k v_z452 (wi .i64 (v_x406 + 1)) _ h q)
      · rw [if_neg h597] at h
        cases h
        exact pkk_sound TTok mix hF 23 (hs := [.t true, .y (eS_entry_Entry v_y445), .c, .c, .r ((eI .i64) v_r446), .t true]) (ts := []) (s := []) (l := [2]) (by kernel_rfl) (by kernel_rfl) (.cons (dt h546) (.cons (getI_ob (f := eS_entry_Entry) h595) (.cons (show 0 + 7 ≤ 7 by decide) (.cons (G_ringref2_Entries_ok n v_y445 _ h596) (.cons (nt h597) .nil))))) q
    · rw [if_neg h546] at h
      cases h
      exact pkk_sound TTok mix hF 8 (hs := [.t false]) (ts := []) (s := [0]) (l := [4, 5, 9, 10]) (by kernel_rfl) (by kernel_rfl) (.cons (df h546) .nil) q
inductive G_ringref2_Tables_L5_R where
  | x0 (v_x404 : Int)
  | x1 
def G_ringref2_Tables_L5_ex : G_ringref2_Tables_L5_R → Ex
  | .x0 _ => .ret
  | .x1  => .exit 0
def G_ringref2_Tables_L5_st (v_t379 : (Fin 8 → S_table_Node)) : G_ringref2_Tables_L5_R → PS
  | .x0 v_x404 => ⟨[dd, dd, .d (.v (.int .i64 v_x404)), dd, dd, dd, dd, dd, dd, dd, dd, dd, dd, dd, dd, dd, dd, dd, dd, dd, dd, dd, dd, dd, dd, dd, dd, dd, dd, dd, dd, dd, dd, dd, dd, dd, dd, dd, dd, dd, dd, dd, dd, dd, dd, dd, dd, dd, dd, dd, dd, dd, dd, dd, dd, dd, dd, dd, dd, dd, dd, dd, dd, dd, dd, dd, dd, dd, dd, dd, dd, dd, dd, dd, dd, dd, dd], []⟩
  | .x1  => ⟨[dd, dd, dd, dd, dd, dd, dd, dd, dd, dd, dd, dd, dd, dd, dd, dd, dd, dd, dd, dd, dd, dd, dd, dd, dd, dd, dd, dd, dd, dd, dd, dd, dd, dd, dd, dd, dd, dd, dd, dd, dd, dd, dd, dd, dd, dd, dd, dd, dd, dd, dd, dd, dd, dd, dd, dd, dd, dd, dd, dd, dd, dd, dd, dd, dd, dd, dd, dd, dd, dd, dd, dd, dd, dd, dd, dd, dd], []⟩
def G_ringref2_Tables_L5_hd (v_t379 : (Fin 8 → S_table_Node)) (v_x380 : Int) : PS := ⟨[dd, dd, dd, dd, dd, dd, dd, dd, dd, .d (.agg (cA_t49 v_t379)), .d (.v (.int .i64 v_x380)), dd, dd, dd, dd, dd, dd, dd, dd, dd, dd, dd, dd, dd, dd, dd, dd, dd, dd, dd, dd, dd, dd, dd, dd, dd, dd, dd, dd, dd, dd, dd, dd, dd, dd, dd, dd, dd, dd, dd, dd, dd, dd, dd, dd, dd, dd, dd, dd, dd, dd, dd, dd, dd, dd, dd, dd, dd, dd, dd, dd, dd, dd, dd, dd, dd, dd], []⟩
def G_ringref2_Tables_L5 (n : Nat) (v_t379 : (Fin 8 → S_table_Node)) : Nat → Int → Option G_ringref2_Tables_L5_R
  | 0, _ => none
  | k + 1, v_x380 =>
    if v_x380 < 8 then
     (getA v_t379 v_x380).bind fun (v_y381 : S_table_Node) =>
     (G_ringref2_Tables_C2 n v_t379 v_x380 v_y381).bind fun v_o402 => match v_o402 with
     | .x0 v_z403 =>
       some (.x0 v_z403)
     | .x1  =>
       (G_ringref2_Tables_L4 n v_t379 v_x380 v_y381 n false 0).bind fun v_o454 => match v_o454 with
       | .x0 v_z455 =>
         some (.x0 v_z455)
       | .x1 v_z457 =>
         if (v_y381.fEntries.length : Int) > 0 then
          if v_z457 = true then
           G_ringref2_Tables_L5 n v_t379 k (wi .i64 (v_x380 + 1))
          else
           some (.x0 3)
         else
          G_ringref2_Tables_L5 n v_t379 k (wi .i64 (v_x380 + 1))
    else
     some (.x1 )
theorem G_ringref2_Tables_L5_ok {Fi : Ex → PS → Prop} (hF : KC 77 Fi) (ks : List Fr) (n : Nat) (v_t379 : (Fin 8 → S_table_Node))  : ∀ (k : Nat) (v_x380 : Int) (o : G_ringref2_Tables_L5_R), G_ringref2_Tables_L5 n v_t379 k v_x380 = some o → RunE Try.prog 77 Fi ks (G_ringref2_Tables_L5_ex o) (G_ringref2_Tables_L5_st v_t379 o) → RunE Try.prog 77 Fi (.l k (cP (cB (cR (cL (cR (bodyOf Try.f31)))))) :: ks) .normal (G_ringref2_Tables_L5_hd v_t379 v_x380)
  | 0, v_x380, o, h, q => by rw [G_ringref2_Tables_L5] at h; cases h
  | k + 1, v_x380, o, h, q => by
    rw [G_ringref2_Tables_L5] at h
    by_cases h511 : v_x380 < 8
    · rw [if_pos h511] at h
      obtain ⟨v_y381, h512, h⟩ := bind_some h
      obtain ⟨v_o402, h545, h⟩ := bind_some h
      refine pkk_sound TTok mix hF 13 (hs := [.t true, .l (.d (.agg [.v (.bool v_y381.fHuge), .sl (v_y381.fEntries.map eS_entry_Entry)])), .c, .c]) (ts := []) (s := [6]) (l := [4, 9, 10, 14]) (by kernel_rfl) (by kernel_rfl) (.cons (dt h511) (.cons (arr_idx (sz := 2) (g := (fun x => [.d (.v (.bool x.fHuge)), .d (.sl (x.fEntries.map eS_entry_Entry))])) (fun _ => rfl) h512) (.cons (show 0 + 2 ≤ 2 by decide) .nil))) (G_ringref2_Tables_C2_ok hF (.s (cR (cR (cB (cL (cR (cR (cP (cB (cR (cL (cR (bodyOf Try.f31)))))))))))) :: .b 1 :: .s (cR (cR (cR (cP (cB (cR (cL (cR (bodyOf Try.f31))))))))) :: .l k (cP (cB (cR (cL (cR (bodyOf Try.f31)))))) :: ks) n v_t379 v_x380 v_y381 _ h545 ?_)
      cases v_o402 with
      | x0 v_z403 =>
        dsimp only at h
        cases h
        exact pkk_sound TTok mix hF 4 (hs := []) (ts := []) (s := []) (l := [2]) (by kernel_rfl) (by kernel_rfl) .nil q
      | x1  =>
        dsimp only at h
        obtain ⟨v_o454, h603, h⟩ := bind_some h
        refine pkk_sound TTok mix hF 7 (hs := [.c, .u (.d (.v (.int .i64 (v_y381.fEntries.length : Int)))), .n n]) (ts := []) (s := [0]) (l := [4, 5, 9, 10, 47, 48, 49]) (by kernel_rfl) (by kernel_rfl) (.cons (len_ob (f := eS_entry_Entry) (l := v_y381.fEntries)) .nil) (G_ringref2_Tables_L4_ok hF (.b 2 :: .s (cR (cR (cR (cR (cB (cL (cR (cR (cP (cB (cR (cL (cR (bodyOf Try.f31)))))))))))))) :: .b 1 :: .s (cR (cR (cR (cP (cB (cR (cL (cR (bodyOf Try.f31))))))))) :: .l k (cP (cB (cR (cL (cR (bodyOf Try.f31)))))) :: ks) n v_t379 v_x380 v_y381 n false 0 _ h603 ?_)
        cases v_o454 with
        | x0 v_z455 =>
          dsimp only at h
          cases h
          exact pkk_sound TTok mix hF 5 (hs := []) (ts := []) (s := []) (l := [2]) (by kernel_rfl) (by kernel_rfl) .nil q
        | x1 v_z457 =>
          dsimp only at h
          by_cases h604 : (v_y381.fEntries.length : Int) > 0
          · rw [if_pos h604] at h
            by_cases h605 : v_z457 = true
            · rw [if_pos h605] at h
              exact pkk_sound TTok mix hF 7 (hs := [.c, .u (.d (.v (.int .i64 (v_y381.fEntries.length : Int)))), .t true, .c, .t false]) (ts := []) (s := []) (l := [9, 10]) (by kernel_rfl) (by kernel_rfl) (.cons (len_ob (f := eS_entry_Entry) (l := v_y381.fEntries)) (.cons (dt h604) (.cons (bnf h605) .nil))) (G_ringref2_Tables_L5_ok hF ks n v_t379 k (wi .i64 (v_x380 + 1)) _ h q)
            · rw [if_neg h605] at h
              cases h
              exact pkk_sound TTok mix hF 10 (hs := [.c, .u (.d (.v (.int .i64 (v_y381.fEntries.length : Int)))), .t true, .c, .t true]) (ts := []) (s := []) (l := [2]) (by kernel_rfl) (by kernel_rfl) (.cons (len_ob (f := eS_entry_Entry) (l := v_y381.fEntries)) (.cons (dt h604) (.cons (bnt (vf h605)) .nil))) q
          · rw [if_neg h604] at h
            exact pkk_sound TTok mix hF 7 (hs := [.c, .u (.d (.v (.int .i64 (v_y381.fEntries.length : Int)))), .t false, .c, .c]) (ts := []) (s := []) (l := [9, 10]) (by kernel_rfl) (by kernel_rfl) (.cons (len_ob (f := eS_entry_Entry) (l := v_y381.fEntries)) (.cons (df h604) .nil)) (G_ringref2_Tables_L5_ok hF ks n v_t379 k (wi .i64 (v_x380 + 1)) _ h q)
    · rw [if_neg h511] at h
      cases h
      exact pkk_sound TTok mix hF 8 (hs := [.t false]) (ts := []) (s := []) (l := []) (by kernel_rfl) (by kernel_rfl) (.cons (df h511) .nil) q
/- ringhall/ringref2.Tables -/
def G_ringref2_Tables (n : Nat) (v_t379 : (Fin 8 → S_table_Node)) : Option (Int) :=
  (G_ringref2_Tables_L5 n v_t379 n 0).bind fun v_o459 => match v_o459 with
  | .x0 v_z460 =>
    some v_z460
  | .x1  =>
    some 0
theorem G_ringref2_Tables_ok (n : Nat) (v_t379 : (Fin 8 → S_table_Node)) (r : Int) (h : G_ringref2_Tables n v_t379 = some r) : Ret Try.prog 31 [(fun x => PV.agg (cA_t49 x)) v_t379] ((eI .i64) r) := by
  refine ret_run (n := 77) (fn := Try.f31) (c := bodyOf Try.f31) (by kernel_rfl) (by kernel_rfl) (by kernel_rfl) (by kernel_rfl) ?_
  have hF : KC 77 (FinR Try.prog Try.f31 ((eI .i64) r)) := FinR.kc' (by kernel_rfl)
  unfold G_ringref2_Tables at h
  obtain ⟨v_o459, h606, h⟩ := bind_some h
  refine pkk_sound TTok mix hF 7 (hs := [.c, .n n]) (ts := []) (s := []) (l := [9, 10]) (by kernel_rfl) (by kernel_rfl) .nil (G_ringref2_Tables_L5_ok hF (.b 0 :: .s (cR (cR (bodyOf Try.f31))) :: []) n v_t379 n 0 _ h606 ?_)
  cases v_o459 with
  | x0 v_z460 =>
    dsimp only at h
    obtain rfl := Option.some.inj h
    exact pend_sound TTok mix 2 (hs := []) (by kernel_rfl) (by kernel_rfl) (by kernel_rfl) .nil
  | x1  =>
    dsimp only at h
    obtain rfl := Option.some.inj h
    exact pend_sound TTok mix 4 (hs := []) (by kernel_rfl) (by kernel_rfl) (by kernel_rfl) .nil
inductive G_ringref2_TablePages_C1_R where
  | x0 (v_b496 : (Fin 64 → S_entry_Entry))
  | x1 
def G_ringref2_TablePages_C1_ex : G_ringref2_TablePages_C1_R → Ex
  | .x0 _ => .normal
  | .x1  => .normal
def G_ringref2_TablePages_C1_st (v_x467 : Int) (v_y485 : S_table_Node) (v_t466 : (Fin 8 → S_table_Node)) : G_ringref2_TablePages_C1_R → PS
  | .x0 v_b496 => ⟨[dd, .ref 0 0, .ref 1 0, .ref 2 0, dd, dd, .d (.v (.int .i64 v_x467)), dd, dd, dd, dd, dd, dd, dd, dd, dd, dd, dd, dd, dd, dd, dd, dd, dd, dd, dd, dd, dd, dd, dd, dd, dd, dd, dd, dd, dd, dd, dd, dd, dd, dd, dd, dd, dd], [.box ((cA_t49 v_t466).map FV.d), .box ((cA_t61 (fun (_ : Fin 64) => (S_entry_Entry.mk false false 0 0 false false false))).map FV.d), .box ((cA_t61 v_b496).map FV.d)]⟩
  | .x1  => ⟨[dd, .ref 0 0, .ref 1 0, .ref 2 0, dd, dd, .d (.v (.int .i64 v_x467)), dd, dd, dd, dd, dd, dd, dd, dd, dd, dd, dd, dd, dd, dd, dd, dd, dd, dd, dd, dd, dd, dd, dd, dd, dd, dd, dd, dd, dd, dd, dd, dd, dd, dd, dd, dd, dd], [.box ((cA_t49 v_t466).map FV.d), .box ((cA_t61 (fun (_ : Fin 64) => (S_entry_Entry.mk false false 0 0 false false false))).map FV.d), .box ((cA_t61 (fun (_ : Fin 64) => (S_entry_Entry.mk false false 0 0 false false false))).map FV.d)]⟩
def G_ringref2_TablePages_C1_hd (v_x467 : Int) (v_y485 : S_table_Node) (v_t466 : (Fin 8 → S_table_Node))  : PS := ⟨[dd, .ref 0 0, .ref 1 0, .ref 2 0, .d (.v (.int .i64 v_x467)), .ref 3 0, .d (.v (.int .i64 v_x467)), dd, dd, dd, dd, dd, dd, dd, .d (.v (.bool v_y485.fHuge)), dd, dd, dd, dd, dd, dd, dd, dd, dd, dd, dd, dd, dd, dd, dd, dd, dd, dd, dd, dd, dd, dd, dd, dd, dd, dd, dd, dd, dd], [.box ((cA_t49 v_t466).map FV.d), .box ((cA_t61 (fun (_ : Fin 64) => (S_entry_Entry.mk false false 0 0 false false false))).map FV.d), .box ((cA_t61 (fun (_ : Fin 64) => (S_entry_Entry.mk false false 0 0 false false false))).map FV.d), .box [.d (.v (.bool v_y485.fHuge)), .d (.sl (v_y485.fEntries.map eS_entry_Entry))]]⟩
def G_ringref2_TablePages_C1 (n : Nat) (v_x467 : Int) (v_y485 : S_table_Node) (v_t466 : (Fin 8 → S_table_Node)) : Option G_ringref2_TablePages_C1_R :=
  if v_y485.fHuge = true then
   (getI v_y485.fEntries 0).bind fun (v_y492 : S_entry_Entry) =>
   if 0 ≤ v_x467 ∧ v_x467 < (64 : Int) then
    (getA (fun (_ : Fin 64) => (S_entry_Entry.mk false false 0 0 false false false)) v_x467).bind fun (v_y493 : S_entry_Entry) =>
    if 0 ≤ v_x467 ∧ v_x467 < (64 : Int) then
     (getA (setA (fun (_ : Fin 64) => (S_entry_Entry.mk false false 0 0 false false false)) v_x467 v_y492) v_x467).bind fun (v_y494 : S_entry_Entry) =>
     if 0 ≤ v_x467 ∧ v_x467 < (64 : Int) then
      (getA (setA (fun (_ : Fin 64) => (S_entry_Entry.mk false false 0 0 false false false)) v_x467 v_y492) v_x467).bind fun (v_y495 : S_entry_Entry) =>
      some (.x0 (setA (setA (fun (_ : Fin 64) => (S_entry_Entry.mk false false 0 0 false false false)) v_x467 v_y492) v_x467 (S_entry_Entry.mk v_y495.fHere v_y495.fSlot (wi .i64 (v_y494.fAt + (remI v_x467 8))) v_y495.fRights v_y495.fUsed v_y495.fDirty v_y495.fCopy)))
     else none
    else none
   else none
  else
   if (v_y485.fEntries.length : Int) > 0 then
    (getI v_y485.fEntries (remI v_x467 8)).bind fun (v_y497 : S_entry_Entry) =>
    if 0 ≤ v_x467 ∧ v_x467 < (64 : Int) then
     (getA (fun (_ : Fin 64) => (S_entry_Entry.mk false false 0 0 false false false)) v_x467).bind fun (v_y498 : S_entry_Entry) =>
     some (.x0 (setA (fun (_ : Fin 64) => (S_entry_Entry.mk false false 0 0 false false false)) v_x467 v_y497))
    else none
   else
    some (.x1 )
theorem G_ringref2_TablePages_C1_ok {Fi : Ex → PS → Prop} (hF : KC 44 Fi) (ks : List Fr) (n : Nat) (v_x467 : Int) (v_y485 : S_table_Node) (v_t466 : (Fin 8 → S_table_Node))  (o : G_ringref2_TablePages_C1_R) (h : G_ringref2_TablePages_C1 n v_x467 v_y485 v_t466 = some o) (q : RunE Try.prog 44 Fi ks (G_ringref2_TablePages_C1_ex o) (G_ringref2_TablePages_C1_st v_x467 v_y485 v_t466 o)) : RunE Try.prog 44 Fi (.s (cR (cR (cR (cB (cL (cR (cR (cP (cB (cR (cL (cR (cR (bodyOf Try.f34)))))))))))))) :: ks) .normal (G_ringref2_TablePages_C1_hd v_x467 v_y485 v_t466) := by
  unfold G_ringref2_TablePages_C1 at h
  by_cases h669 : v_y485.fHuge = true
  · rw [if_pos h669] at h
    obtain ⟨v_y492, h670, h⟩ := bind_some h
    by_cases h671 : 0 ≤ v_x467 ∧ v_x467 < (64 : Int)
    · rw [if_pos h671] at h
      obtain ⟨v_y493, h672, h⟩ := bind_some h
      by_cases h673 : 0 ≤ v_x467 ∧ v_x467 < (64 : Int)
      · rw [if_pos h673] at h
        obtain ⟨v_y494, h674, h⟩ := bind_some h
        by_cases h676 : 0 ≤ v_x467 ∧ v_x467 < (64 : Int)
        · rw [if_pos h676] at h
          obtain ⟨v_y495, h677, h⟩ := bind_some h
          cases h
          exact pkk_sound TTok mix hF 4 (hs := [.t true, .c, .y (eS_entry_Entry v_y492), .x ((cA_t61 (setA (fun (_ : Fin 64) => (S_entry_Entry.mk false false 0 0 false false false)) v_x467 v_y492)).map FV.d), .c, .l (.d (.v (.int .i64 v_y494.fAt))), .x ((cA_t61 (setA (setA (fun (_ : Fin 64) => (S_entry_Entry.mk false false 0 0 false false false)) v_x467 v_y492) v_x467 (S_entry_Entry.mk v_y495.fHere v_y495.fSlot (wi .i64 (v_y494.fAt + (remI v_x467 8))) v_y495.fRights v_y495.fUsed v_y495.fDirty v_y495.fCopy))).map FV.d), .c]) (ts := []) (s := [0, 1, 2]) (l := [1, 2, 3, 6]) (by kernel_rfl) (by kernel_rfl) (.cons h669 (.cons (getI_ob (f := eS_entry_Entry) h670) (.cons h671 (.cons (arr_store (γ := FV) (sz := 7) (g := (fun x => [.d (.v (.bool x.fHere)), .d (.v (.bool x.fSlot)), .d (.v (.int .i64 x.fAt)), .d (.v (.int .i64 x.fRights)), .d (.v (.bool x.fUsed)), .d (.v (.bool x.fDirty)), .d (.v (.bool x.fCopy))])) (pre := []) (post := []) (o := 0) (y := v_y492) (zs := [.d (.v (.bool v_y492.fHere)), .d (.v (.bool v_y492.fSlot)), .d (.v (.int .i64 v_y492.fAt)), .d (.v (.int .i64 v_y492.fRights)), .d (.v (.bool v_y492.fUsed)), .d (.v (.bool v_y492.fDirty)), .d (.v (.bool v_y492.fCopy))]) (fun _ => rfl) h672 rfl (Nat.le_of_ble_eq_true rfl)).1 (.cons (arr_store (γ := FV) (sz := 7) (g := (fun x => [.d (.v (.bool x.fHere)), .d (.v (.bool x.fSlot)), .d (.v (.int .i64 x.fAt)), .d (.v (.int .i64 x.fRights)), .d (.v (.bool x.fUsed)), .d (.v (.bool x.fDirty)), .d (.v (.bool x.fCopy))])) (pre := []) (post := []) (o := 0) (y := v_y492) (zs := [.d (.v (.bool v_y492.fHere)), .d (.v (.bool v_y492.fSlot)), .d (.v (.int .i64 v_y492.fAt)), .d (.v (.int .i64 v_y492.fRights)), .d (.v (.bool v_y492.fUsed)), .d (.v (.bool v_y492.fDirty)), .d (.v (.bool v_y492.fCopy))]) (fun _ => rfl) h672 rfl (Nat.le_of_ble_eq_true rfl)).2 (.cons h673 (.cons (arr_cell (γ := FV) (sz := 7) (g := (fun x => [.d (.v (.bool x.fHere)), .d (.v (.bool x.fSlot)), .d (.v (.int .i64 x.fAt)), .d (.v (.int .i64 x.fRights)), .d (.v (.bool x.fUsed)), .d (.v (.bool x.fDirty)), .d (.v (.bool x.fCopy))])) (pre := []) (post := []) (o := 2) (fun _ => rfl) h674 rfl) (.cons (show (8 : Int) ≠ 0 by decide) (.cons h676 (.cons (arr_store (γ := FV) (sz := 7) (g := (fun x => [.d (.v (.bool x.fHere)), .d (.v (.bool x.fSlot)), .d (.v (.int .i64 x.fAt)), .d (.v (.int .i64 x.fRights)), .d (.v (.bool x.fUsed)), .d (.v (.bool x.fDirty)), .d (.v (.bool x.fCopy))])) (pre := []) (post := []) (o := 2) (y := (S_entry_Entry.mk v_y495.fHere v_y495.fSlot (wi .i64 (v_y494.fAt + (remI v_x467 8))) v_y495.fRights v_y495.fUsed v_y495.fDirty v_y495.fCopy)) (zs := [.d (.v (.int .i64 (wi .i64 (v_y494.fAt + (remI v_x467 8)))))]) (fun _ => rfl) h677 rfl (Nat.le_of_ble_eq_true rfl)).1 (.cons (arr_store (γ := FV) (sz := 7) (g := (fun x => [.d (.v (.bool x.fHere)), .d (.v (.bool x.fSlot)), .d (.v (.int .i64 x.fAt)), .d (.v (.int .i64 x.fRights)), .d (.v (.bool x.fUsed)), .d (.v (.bool x.fDirty)), .d (.v (.bool x.fCopy))])) (pre := []) (post := []) (o := 2) (y := (S_entry_Entry.mk v_y495.fHere v_y495.fSlot (wi .i64 (v_y494.fAt + (remI v_x467 8))) v_y495.fRights v_y495.fUsed v_y495.fDirty v_y495.fCopy)) (zs := [.d (.v (.int .i64 (wi .i64 (v_y494.fAt + (remI v_x467 8)))))]) (fun _ => rfl) h677 rfl (Nat.le_of_ble_eq_true rfl)).2 .nil))))))))))) q
        · rw [if_neg h676] at h; cases h
      · rw [if_neg h673] at h; cases h
    · rw [if_neg h671] at h; cases h
  · rw [if_neg h669] at h
    by_cases h678 : (v_y485.fEntries.length : Int) > 0
    · rw [if_pos h678] at h
      obtain ⟨v_y497, h680, h⟩ := bind_some h
      by_cases h681 : 0 ≤ v_x467 ∧ v_x467 < (64 : Int)
      · rw [if_pos h681] at h
        obtain ⟨v_y498, h682, h⟩ := bind_some h
        cases h
        exact pkk_sound TTok mix hF 5 (hs := [.t false, .c, .u (.d (.v (.int .i64 (v_y485.fEntries.length : Int)))), .t true, .c, .y (eS_entry_Entry v_y497), .x ((cA_t61 (setA (fun (_ : Fin 64) => (S_entry_Entry.mk false false 0 0 false false false)) v_x467 v_y497)).map FV.d), .c]) (ts := []) (s := [0, 1, 2]) (l := [1, 2, 3, 6]) (by kernel_rfl) (by kernel_rfl) (.cons (vf h669) (.cons (len_ob (f := eS_entry_Entry) (l := v_y485.fEntries)) (.cons (dt h678) (.cons (show (8 : Int) ≠ 0 by decide) (.cons (getI_ob (f := eS_entry_Entry) h680) (.cons h681 (.cons (arr_store (γ := FV) (sz := 7) (g := (fun x => [.d (.v (.bool x.fHere)), .d (.v (.bool x.fSlot)), .d (.v (.int .i64 x.fAt)), .d (.v (.int .i64 x.fRights)), .d (.v (.bool x.fUsed)), .d (.v (.bool x.fDirty)), .d (.v (.bool x.fCopy))])) (pre := []) (post := []) (o := 0) (y := v_y497) (zs := [.d (.v (.bool v_y497.fHere)), .d (.v (.bool v_y497.fSlot)), .d (.v (.int .i64 v_y497.fAt)), .d (.v (.int .i64 v_y497.fRights)), .d (.v (.bool v_y497.fUsed)), .d (.v (.bool v_y497.fDirty)), .d (.v (.bool v_y497.fCopy))]) (fun _ => rfl) h682 rfl (Nat.le_of_ble_eq_true rfl)).1 (.cons (arr_store (γ := FV) (sz := 7) (g := (fun x => [.d (.v (.bool x.fHere)), .d (.v (.bool x.fSlot)), .d (.v (.int .i64 x.fAt)), .d (.v (.int .i64 x.fRights)), .d (.v (.bool x.fUsed)), .d (.v (.bool x.fDirty)), .d (.v (.bool x.fCopy))])) (pre := []) (post := []) (o := 0) (y := v_y497) (zs := [.d (.v (.bool v_y497.fHere)), .d (.v (.bool v_y497.fSlot)), .d (.v (.int .i64 v_y497.fAt)), .d (.v (.int .i64 v_y497.fRights)), .d (.v (.bool v_y497.fUsed)), .d (.v (.bool v_y497.fDirty)), .d (.v (.bool v_y497.fCopy))]) (fun _ => rfl) h682 rfl (Nat.le_of_ble_eq_true rfl)).2 .nil)))))))) q
      · rw [if_neg h681] at h; cases h
    · rw [if_neg h678] at h
      cases h
      exact pkk_sound TTok mix hF 5 (hs := [.t false, .c, .u (.d (.v (.int .i64 (v_y485.fEntries.length : Int)))), .t false]) (ts := []) (s := [0, 1, 2]) (l := [1, 2, 3, 6]) (by kernel_rfl) (by kernel_rfl) (.cons (vf h669) (.cons (len_ob (f := eS_entry_Entry) (l := v_y485.fEntries)) (.cons (df h678) .nil))) q
inductive G_ringref2_TablePages_C2_R where
  | x0 (v_b532 : (Fin 64 → S_entry_Entry))
  | x1 
def G_ringref2_TablePages_C2_ex : G_ringref2_TablePages_C2_R → Ex
  | .x0 _ => .normal
  | .x1  => .normal
def G_ringref2_TablePages_C2_st (v_x502 : Int) (v_y521 : S_table_Node) (v_t466 : (Fin 8 → S_table_Node)) (v_b503 : (Fin 64 → S_entry_Entry)) : G_ringref2_TablePages_C2_R → PS
  | .x0 v_b532 => ⟨[dd, .ref 0 0, .ref 1 0, .ref 2 0, dd, dd, .d (.v (.int .i64 v_x502)), dd, dd, dd, dd, dd, dd, dd, dd, dd, dd, dd, dd, dd, dd, dd, dd, dd, dd, dd, dd, dd, dd, dd, dd, dd, dd, dd, dd, dd, dd, dd, dd, dd, dd, dd, dd, dd], [.box ((cA_t49 v_t466).map FV.d), .box ((cA_t61 (fun (_ : Fin 64) => (S_entry_Entry.mk false false 0 0 false false false))).map FV.d), .box ((cA_t61 v_b532).map FV.d)]⟩
  | .x1  => ⟨[dd, .ref 0 0, .ref 1 0, .ref 2 0, dd, dd, .d (.v (.int .i64 v_x502)), dd, dd, dd, dd, dd, dd, dd, dd, dd, dd, dd, dd, dd, dd, dd, dd, dd, dd, dd, dd, dd, dd, dd, dd, dd, dd, dd, dd, dd, dd, dd, dd, dd, dd, dd, dd, dd], [.box ((cA_t49 v_t466).map FV.d), .box ((cA_t61 (fun (_ : Fin 64) => (S_entry_Entry.mk false false 0 0 false false false))).map FV.d), .box ((cA_t61 v_b503).map FV.d)]⟩
def G_ringref2_TablePages_C2_hd (v_x502 : Int) (v_y521 : S_table_Node) (v_t466 : (Fin 8 → S_table_Node)) (v_b503 : (Fin 64 → S_entry_Entry))  : PS := ⟨[dd, .ref 0 0, .ref 1 0, .ref 2 0, .d (.v (.int .i64 v_x502)), .ref 3 0, .d (.v (.int .i64 v_x502)), dd, dd, dd, dd, dd, dd, dd, .d (.v (.bool v_y521.fHuge)), dd, dd, dd, dd, dd, dd, dd, dd, dd, dd, dd, dd, dd, dd, dd, dd, dd, dd, dd, dd, dd, dd, dd, dd, dd, dd, dd, dd, dd], [.box ((cA_t49 v_t466).map FV.d), .box ((cA_t61 (fun (_ : Fin 64) => (S_entry_Entry.mk false false 0 0 false false false))).map FV.d), .box ((cA_t61 v_b503).map FV.d), .box [.d (.v (.bool v_y521.fHuge)), .d (.sl (v_y521.fEntries.map eS_entry_Entry))]]⟩
def G_ringref2_TablePages_C2 (n : Nat) (v_x502 : Int) (v_y521 : S_table_Node) (v_t466 : (Fin 8 → S_table_Node)) (v_b503 : (Fin 64 → S_entry_Entry)) : Option G_ringref2_TablePages_C2_R :=
  if v_y521.fHuge = true then
   (getI v_y521.fEntries 0).bind fun (v_y528 : S_entry_Entry) =>
   if 0 ≤ v_x502 ∧ v_x502 < (64 : Int) then
    (getA v_b503 v_x502).bind fun (v_y529 : S_entry_Entry) =>
    if 0 ≤ v_x502 ∧ v_x502 < (64 : Int) then
     (getA (setA v_b503 v_x502 v_y528) v_x502).bind fun (v_y530 : S_entry_Entry) =>
     if 0 ≤ v_x502 ∧ v_x502 < (64 : Int) then
      (getA (setA v_b503 v_x502 v_y528) v_x502).bind fun (v_y531 : S_entry_Entry) =>
      some (.x0 (setA (setA v_b503 v_x502 v_y528) v_x502 (S_entry_Entry.mk v_y531.fHere v_y531.fSlot (wi .i64 (v_y530.fAt + (remI v_x502 8))) v_y531.fRights v_y531.fUsed v_y531.fDirty v_y531.fCopy)))
     else none
    else none
   else none
  else
   if (v_y521.fEntries.length : Int) > 0 then
    (getI v_y521.fEntries (remI v_x502 8)).bind fun (v_y533 : S_entry_Entry) =>
    if 0 ≤ v_x502 ∧ v_x502 < (64 : Int) then
     (getA v_b503 v_x502).bind fun (v_y534 : S_entry_Entry) =>
     some (.x0 (setA v_b503 v_x502 v_y533))
    else none
   else
    some (.x1 )
theorem G_ringref2_TablePages_C2_ok {Fi : Ex → PS → Prop} (hF : KC 44 Fi) (ks : List Fr) (n : Nat) (v_x502 : Int) (v_y521 : S_table_Node) (v_t466 : (Fin 8 → S_table_Node)) (v_b503 : (Fin 64 → S_entry_Entry))  (o : G_ringref2_TablePages_C2_R) (h : G_ringref2_TablePages_C2 n v_x502 v_y521 v_t466 v_b503 = some o) (q : RunE Try.prog 44 Fi ks (G_ringref2_TablePages_C2_ex o) (G_ringref2_TablePages_C2_st v_x502 v_y521 v_t466 v_b503 o)) : RunE Try.prog 44 Fi (.s (cR (cR (cR (cB (cL (cR (cR (cP (cB (cR (cL (cR (cR (bodyOf Try.f34)))))))))))))) :: ks) .normal (G_ringref2_TablePages_C2_hd v_x502 v_y521 v_t466 v_b503) := by
  unfold G_ringref2_TablePages_C2 at h
  by_cases h734 : v_y521.fHuge = true
  · rw [if_pos h734] at h
    obtain ⟨v_y528, h735, h⟩ := bind_some h
    by_cases h736 : 0 ≤ v_x502 ∧ v_x502 < (64 : Int)
    · rw [if_pos h736] at h
      obtain ⟨v_y529, h737, h⟩ := bind_some h
      by_cases h738 : 0 ≤ v_x502 ∧ v_x502 < (64 : Int)
      · rw [if_pos h738] at h
        obtain ⟨v_y530, h739, h⟩ := bind_some h
        by_cases h741 : 0 ≤ v_x502 ∧ v_x502 < (64 : Int)
        · rw [if_pos h741] at h
          obtain ⟨v_y531, h742, h⟩ := bind_some h
          cases h
          exact pkk_sound TTok mix hF 4 (hs := [.t true, .c, .y (eS_entry_Entry v_y528), .x ((cA_t61 (setA v_b503 v_x502 v_y528)).map FV.d), .c, .l (.d (.v (.int .i64 v_y530.fAt))), .x ((cA_t61 (setA (setA v_b503 v_x502 v_y528) v_x502 (S_entry_Entry.mk v_y531.fHere v_y531.fSlot (wi .i64 (v_y530.fAt + (remI v_x502 8))) v_y531.fRights v_y531.fUsed v_y531.fDirty v_y531.fCopy))).map FV.d), .c]) (ts := []) (s := [0, 1, 2]) (l := [1, 2, 3, 6]) (by kernel_rfl) (by kernel_rfl) (.cons h734 (.cons (getI_ob (f := eS_entry_Entry) h735) (.cons h736 (.cons (arr_store (γ := FV) (sz := 7) (g := (fun x => [.d (.v (.bool x.fHere)), .d (.v (.bool x.fSlot)), .d (.v (.int .i64 x.fAt)), .d (.v (.int .i64 x.fRights)), .d (.v (.bool x.fUsed)), .d (.v (.bool x.fDirty)), .d (.v (.bool x.fCopy))])) (pre := []) (post := []) (o := 0) (y := v_y528) (zs := [.d (.v (.bool v_y528.fHere)), .d (.v (.bool v_y528.fSlot)), .d (.v (.int .i64 v_y528.fAt)), .d (.v (.int .i64 v_y528.fRights)), .d (.v (.bool v_y528.fUsed)), .d (.v (.bool v_y528.fDirty)), .d (.v (.bool v_y528.fCopy))]) (fun _ => rfl) h737 rfl (Nat.le_of_ble_eq_true rfl)).1 (.cons (arr_store (γ := FV) (sz := 7) (g := (fun x => [.d (.v (.bool x.fHere)), .d (.v (.bool x.fSlot)), .d (.v (.int .i64 x.fAt)), .d (.v (.int .i64 x.fRights)), .d (.v (.bool x.fUsed)), .d (.v (.bool x.fDirty)), .d (.v (.bool x.fCopy))])) (pre := []) (post := []) (o := 0) (y := v_y528) (zs := [.d (.v (.bool v_y528.fHere)), .d (.v (.bool v_y528.fSlot)), .d (.v (.int .i64 v_y528.fAt)), .d (.v (.int .i64 v_y528.fRights)), .d (.v (.bool v_y528.fUsed)), .d (.v (.bool v_y528.fDirty)), .d (.v (.bool v_y528.fCopy))]) (fun _ => rfl) h737 rfl (Nat.le_of_ble_eq_true rfl)).2 (.cons h738 (.cons (arr_cell (γ := FV) (sz := 7) (g := (fun x => [.d (.v (.bool x.fHere)), .d (.v (.bool x.fSlot)), .d (.v (.int .i64 x.fAt)), .d (.v (.int .i64 x.fRights)), .d (.v (.bool x.fUsed)), .d (.v (.bool x.fDirty)), .d (.v (.bool x.fCopy))])) (pre := []) (post := []) (o := 2) (fun _ => rfl) h739 rfl) (.cons (show (8 : Int) ≠ 0 by decide) (.cons h741 (.cons (arr_store (γ := FV) (sz := 7) (g := (fun x => [.d (.v (.bool x.fHere)), .d (.v (.bool x.fSlot)), .d (.v (.int .i64 x.fAt)), .d (.v (.int .i64 x.fRights)), .d (.v (.bool x.fUsed)), .d (.v (.bool x.fDirty)), .d (.v (.bool x.fCopy))])) (pre := []) (post := []) (o := 2) (y := (S_entry_Entry.mk v_y531.fHere v_y531.fSlot (wi .i64 (v_y530.fAt + (remI v_x502 8))) v_y531.fRights v_y531.fUsed v_y531.fDirty v_y531.fCopy)) (zs := [.d (.v (.int .i64 (wi .i64 (v_y530.fAt + (remI v_x502 8)))))]) (fun _ => rfl) h742 rfl (Nat.le_of_ble_eq_true rfl)).1 (.cons (arr_store (γ := FV) (sz := 7) (g := (fun x => [.d (.v (.bool x.fHere)), .d (.v (.bool x.fSlot)), .d (.v (.int .i64 x.fAt)), .d (.v (.int .i64 x.fRights)), .d (.v (.bool x.fUsed)), .d (.v (.bool x.fDirty)), .d (.v (.bool x.fCopy))])) (pre := []) (post := []) (o := 2) (y := (S_entry_Entry.mk v_y531.fHere v_y531.fSlot (wi .i64 (v_y530.fAt + (remI v_x502 8))) v_y531.fRights v_y531.fUsed v_y531.fDirty v_y531.fCopy)) (zs := [.d (.v (.int .i64 (wi .i64 (v_y530.fAt + (remI v_x502 8)))))]) (fun _ => rfl) h742 rfl (Nat.le_of_ble_eq_true rfl)).2 .nil))))))))))) q
        · rw [if_neg h741] at h; cases h
      · rw [if_neg h738] at h; cases h
    · rw [if_neg h736] at h; cases h
  · rw [if_neg h734] at h
    by_cases h743 : (v_y521.fEntries.length : Int) > 0
    · rw [if_pos h743] at h
      obtain ⟨v_y533, h745, h⟩ := bind_some h
      by_cases h746 : 0 ≤ v_x502 ∧ v_x502 < (64 : Int)
      · rw [if_pos h746] at h
        obtain ⟨v_y534, h747, h⟩ := bind_some h
        cases h
        exact pkk_sound TTok mix hF 5 (hs := [.t false, .c, .u (.d (.v (.int .i64 (v_y521.fEntries.length : Int)))), .t true, .c, .y (eS_entry_Entry v_y533), .x ((cA_t61 (setA v_b503 v_x502 v_y533)).map FV.d), .c]) (ts := []) (s := [0, 1, 2]) (l := [1, 2, 3, 6]) (by kernel_rfl) (by kernel_rfl) (.cons (vf h734) (.cons (len_ob (f := eS_entry_Entry) (l := v_y521.fEntries)) (.cons (dt h743) (.cons (show (8 : Int) ≠ 0 by decide) (.cons (getI_ob (f := eS_entry_Entry) h745) (.cons h746 (.cons (arr_store (γ := FV) (sz := 7) (g := (fun x => [.d (.v (.bool x.fHere)), .d (.v (.bool x.fSlot)), .d (.v (.int .i64 x.fAt)), .d (.v (.int .i64 x.fRights)), .d (.v (.bool x.fUsed)), .d (.v (.bool x.fDirty)), .d (.v (.bool x.fCopy))])) (pre := []) (post := []) (o := 0) (y := v_y533) (zs := [.d (.v (.bool v_y533.fHere)), .d (.v (.bool v_y533.fSlot)), .d (.v (.int .i64 v_y533.fAt)), .d (.v (.int .i64 v_y533.fRights)), .d (.v (.bool v_y533.fUsed)), .d (.v (.bool v_y533.fDirty)), .d (.v (.bool v_y533.fCopy))]) (fun _ => rfl) h747 rfl (Nat.le_of_ble_eq_true rfl)).1 (.cons (arr_store (γ := FV) (sz := 7) (g := (fun x => [.d (.v (.bool x.fHere)), .d (.v (.bool x.fSlot)), .d (.v (.int .i64 x.fAt)), .d (.v (.int .i64 x.fRights)), .d (.v (.bool x.fUsed)), .d (.v (.bool x.fDirty)), .d (.v (.bool x.fCopy))])) (pre := []) (post := []) (o := 0) (y := v_y533) (zs := [.d (.v (.bool v_y533.fHere)), .d (.v (.bool v_y533.fSlot)), .d (.v (.int .i64 v_y533.fAt)), .d (.v (.int .i64 v_y533.fRights)), .d (.v (.bool v_y533.fUsed)), .d (.v (.bool v_y533.fDirty)), .d (.v (.bool v_y533.fCopy))]) (fun _ => rfl) h747 rfl (Nat.le_of_ble_eq_true rfl)).2 .nil)))))))) q
      · rw [if_neg h746] at h; cases h
    · rw [if_neg h743] at h
      cases h
      exact pkk_sound TTok mix hF 5 (hs := [.t false, .c, .u (.d (.v (.int .i64 (v_y521.fEntries.length : Int)))), .t false]) (ts := []) (s := [0, 1, 2]) (l := [1, 2, 3, 6]) (by kernel_rfl) (by kernel_rfl) (.cons (vf h734) (.cons (len_ob (f := eS_entry_Entry) (l := v_y521.fEntries)) (.cons (df h743) .nil))) q
inductive G_ringref2_TablePages_L3_R where
  | x0 (v_b538 : (Fin 64 → S_entry_Entry))
def G_ringref2_TablePages_L3_ex : G_ringref2_TablePages_L3_R → Ex
  | .x0 _ => .exit 0
def G_ringref2_TablePages_L3_st (v_t466 : (Fin 8 → S_table_Node)) : G_ringref2_TablePages_L3_R → PS
  | .x0 v_b538 => ⟨[dd, dd, .ref 0 0, .ref 1 0, dd, dd, dd, dd, dd, dd, dd, dd, dd, dd, dd, dd, dd, dd, dd, dd, dd, dd, dd, dd, dd, dd, dd, dd, dd, dd, dd, dd, dd, dd, dd, dd, dd, dd, dd, dd, dd, dd, dd, dd], [.box ((cA_t61 (fun (_ : Fin 64) => (S_entry_Entry.mk false false 0 0 false false false))).map FV.d), .box ((cA_t61 v_b538).map FV.d)]⟩
def G_ringref2_TablePages_L3_hd (v_t466 : (Fin 8 → S_table_Node)) (v_x502 : Int) (v_b503 : (Fin 64 → S_entry_Entry)) : PS := ⟨[dd, .ref 0 0, .ref 1 0, .ref 2 0, dd, dd, .d (.v (.int .i64 v_x502)), dd, dd, dd, dd, dd, dd, dd, dd, dd, dd, dd, dd, dd, dd, dd, dd, dd, dd, dd, dd, dd, dd, dd, dd, dd, dd, dd, dd, dd, dd, dd, dd, dd, dd, dd, dd, dd], [.box ((cA_t49 v_t466).map FV.d), .box ((cA_t61 (fun (_ : Fin 64) => (S_entry_Entry.mk false false 0 0 false false false))).map FV.d), .box ((cA_t61 v_b503).map FV.d)]⟩
def G_ringref2_TablePages_L3 (n : Nat) (v_t466 : (Fin 8 → S_table_Node)) : Nat → Int → (Fin 64 → S_entry_Entry) → Option G_ringref2_TablePages_L3_R
  | 0, _, _ => none
  | k + 1, v_x502, v_b503 =>
    if v_x502 < 64 then
     if 0 ≤ (quoI .i64 v_x502 8) ∧ (quoI .i64 v_x502 8) < (8 : Int) then
      (getA v_t466 (quoI .i64 v_x502 8)).bind fun (v_y521 : S_table_Node) =>
      (G_ringref2_TablePages_C2 n v_x502 v_y521 v_t466 v_b503).bind fun v_o536 => match v_o536 with
      | .x0 v_z537 =>
        G_ringref2_TablePages_L3 n v_t466 k (wi .i64 (v_x502 + 1)) v_z537
      | .x1  =>
        G_ringref2_TablePages_L3 n v_t466 k (wi .i64 (v_x502 + 1)) v_b503
     else none
    else
     some (.x0 v_b503)
theorem G_ringref2_TablePages_L3_ok {Fi : Ex → PS → Prop} (hF : KC 44 Fi) (ks : List Fr) (n : Nat) (v_t466 : (Fin 8 → S_table_Node))  : ∀ (k : Nat) (v_x502 : Int) (v_b503 : (Fin 64 → S_entry_Entry)) (o : G_ringref2_TablePages_L3_R), G_ringref2_TablePages_L3 n v_t466 k v_x502 v_b503 = some o → RunE Try.prog 44 Fi ks (G_ringref2_TablePages_L3_ex o) (G_ringref2_TablePages_L3_st v_t466 o) → RunE Try.prog 44 Fi (.l k (cP (cB (cR (cL (cR (cR (bodyOf Try.f34))))))) :: ks) .normal (G_ringref2_TablePages_L3_hd v_t466 v_x502 v_b503)
  | 0, v_x502, v_b503, o, h, q => by rw [G_ringref2_TablePages_L3] at h; cases h
  | k + 1, v_x502, v_b503, o, h, q => by
    rw [G_ringref2_TablePages_L3] at h
    by_cases h684 : v_x502 < 64
    · rw [if_pos h684] at h
      by_cases h718 : 0 ≤ (quoI .i64 v_x502 8) ∧ (quoI .i64 v_x502 8) < (8 : Int)
      · rw [if_pos h718] at h
        obtain ⟨v_y521, h719, h⟩ := bind_some h
        obtain ⟨v_o536, h748, h⟩ := bind_some h
        refine pkk_sound TTok mix hF 14 (hs := [.t true, .l (.d (.agg [.v (.bool v_y521.fHuge), .sl (v_y521.fEntries.map eS_entry_Entry)])), .c, .c]) (ts := []) (s := [0, 1, 2, 24]) (l := [1, 2, 3, 4, 5, 6, 14]) (by kernel_rfl) (by kernel_rfl) (.cons (dt h684) (.cons (show (8 : Int) ≠ 0 by decide) (.cons h718 (.cons (And.intro (congrArg mkAgg (arr_take (γ := FV) (sz := 2) (g := (fun x => [.d (.v (.bool x.fHuge)), .d (.sl (x.fEntries.map eS_entry_Entry))])) (pre := []) (post := []) (fun _ => rfl) h719).1) (arr_take (γ := FV) (sz := 2) (g := (fun x => [.d (.v (.bool x.fHuge)), .d (.sl (x.fEntries.map eS_entry_Entry))])) (pre := []) (post := []) (fun _ => rfl) h719).2) (.cons (show 0 + 2 ≤ 2 by decide) .nil))))) (G_ringref2_TablePages_C2_ok hF (.b 1 :: .s (cR (cR (cR (cP (cB (cR (cL (cR (cR (bodyOf Try.f34)))))))))) :: .l k (cP (cB (cR (cL (cR (cR (bodyOf Try.f34))))))) :: ks) n v_x502 v_y521 v_t466 v_b503 _ h748 ?_)
        cases v_o536 with
        | x0 v_z537 =>
          dsimp only at h
          exact pkk_sound TTok mix hF 2 (hs := []) (ts := []) (s := [0, 1, 2]) (l := [1, 2, 3, 6]) (by kernel_rfl) (by kernel_rfl) .nil (G_ringref2_TablePages_L3_ok hF ks n v_t466 k (wi .i64 (v_x502 + 1)) v_z537 _ h q)
        | x1  =>
          dsimp only at h
          exact pkk_sound TTok mix hF 2 (hs := []) (ts := []) (s := [0, 1, 2]) (l := [1, 2, 3, 6]) (by kernel_rfl) (by kernel_rfl) .nil (G_ringref2_TablePages_L3_ok hF ks n v_t466 k (wi .i64 (v_x502 + 1)) v_b503 _ h q)
      · rw [if_neg h718] at h; cases h
    · rw [if_neg h684] at h
      cases h
      exact pkk_sound TTok mix hF 8 (hs := [.t false]) (ts := []) (s := [1, 2]) (l := [2, 3]) (by kernel_rfl) (by kernel_rfl) (.cons (df h684) .nil) q
/- ringhall/ringref2.TablePages -/
def G_ringref2_TablePages (n : Nat) (v_t466 : (Fin 8 → S_table_Node)) : Option ((Fin 64 → S_entry_Entry)) :=
  (G_ringref2_TablePages_L3 n v_t466 n 0 (fun (_ : Fin 64) => (S_entry_Entry.mk false false 0 0 false false false))).bind fun v_o539 => match v_o539 with
  | .x0 v_z540 =>
    some v_z540
theorem G_ringref2_TablePages_ok (n : Nat) (v_t466 : (Fin 8 → S_table_Node)) (r : (Fin 64 → S_entry_Entry)) (h : G_ringref2_TablePages n v_t466 = some r) : Ret Try.prog 34 [(fun x => PV.agg (cA_t49 x)) v_t466] ((fun x => PV.agg (cA_t61 x)) r) := by
  refine ret_run (n := 44) (fn := Try.f34) (c := bodyOf Try.f34) (by kernel_rfl) (by kernel_rfl) (by kernel_rfl) (by kernel_rfl) ?_
  have hF : KC 44 (FinR Try.prog Try.f34 ((fun x => PV.agg (cA_t61 x)) r)) := FinR.kc' (by kernel_rfl)
  unfold G_ringref2_TablePages at h
  obtain ⟨v_o539, h749, h⟩ := bind_some h
  refine pkk_sound TTok mix hF 9 (hs := [.n n]) (ts := []) (s := [0, 3, 6]) (l := [1, 2, 3, 6]) (by kernel_rfl) (by kernel_rfl) .nil (G_ringref2_TablePages_L3_ok hF (.b 0 :: .s (cR (cR (cR (bodyOf Try.f34)))) :: []) n v_t466 n 0 (fun (_ : Fin 64) => (S_entry_Entry.mk false false 0 0 false false false)) _ h749 ?_)
  cases v_o539 with
  | x0 v_z540 =>
    dsimp only at h
    obtain rfl := Option.some.inj h
    exact pend_sound TTok mix 4 (hs := [.c, .c]) (by kernel_rfl) (by kernel_rfl) (by kernel_rfl) (.cons (show 0 + 448 ≤ 448 by decide) .nil)
/- ringhall/ringlaw2.TableTells$1 -/
def G_ringlaw2_TableTells_1 (n : Nat) (v_t465 : (Fin 8 → S_table_Node)) : Option (Bool) :=
  (G_ringref2_TablePages n v_t465).bind fun (v_r541 : ((Fin 64 → S_entry_Entry))) =>
  some (eqRes .eql (eqA_ringref2_Plain v_r541 (fun (_ : Fin 64) => (S_entry_Entry.mk false false 0 0 false false false))))
theorem G_ringlaw2_TableTells_1_ok (n : Nat) (v_t465 : (Fin 8 → S_table_Node)) (r : Bool) (h : G_ringlaw2_TableTells_1 n v_t465 = some r) : Ret Try.prog 33 [(fun x => PV.agg (cA_t49 x)) v_t465] (eB r) := by
  refine ret_run (n := 7) (fn := Try.f33) (c := bodyOf Try.f33) (by kernel_rfl) (by kernel_rfl) (by kernel_rfl) (by kernel_rfl) ?_
  have hF : KC 7 (FinR Try.prog Try.f33 (eB r)) := FinR.kc' (by kernel_rfl)
  unfold G_ringlaw2_TableTells_1 at h
  obtain ⟨v_r541, h750, h⟩ := bind_some h
  obtain rfl := Option.some.inj h
  exact pend_sound TTok mix 5 (hs := [.c, .r ((fun x => PV.agg (cA_t61 x)) v_r541), .q (eqA_ringref2_Plain v_r541 (fun (_ : Fin 64) => (S_entry_Entry.mk false false 0 0 false false false)))]) (by kernel_rfl) (by kernel_rfl) (by kernel_rfl) (.cons (G_ringref2_TablePages_ok n v_t465 _ h750) (.cons (eqA_ringref2_Plain_ok v_r541 (fun (_ : Fin 64) => (S_entry_Entry.mk false false 0 0 false false false))) .nil))
inductive G_ringref2_TableJoins_C1_R where
  | x0 (v_x655 : Bool)
def G_ringref2_TableJoins_C1_ex : G_ringref2_TableJoins_C1_R → Ex
  | .x0 _ => .normal
def G_ringref2_TableJoins_C1_st (v_k645 : Int) (v_x647 : Int) (v_p644 : (Fin 64 → S_entry_Entry)) (v_y646 : S_entry_Entry) (v_y654 : S_entry_Entry) : G_ringref2_TableJoins_C1_R → PS
  | .x0 v_x655 => ⟨[dd, .d (.v (.int .i64 v_k645)), .ref 0 0, dd, dd, .ref 1 0, dd, dd, dd, dd, dd, dd, .d (.v (.int .i64 v_x647)), dd, dd, dd, dd, dd, dd, dd, dd, dd, dd, dd, dd, dd, dd, dd, dd, dd, dd, dd, dd, dd, dd, dd, dd, dd, dd, .d (.v (.bool v_x655)), dd], [.box ((cA_t61 v_p644).map FV.d), .box [.d (.v (.bool v_y646.fHere)), .d (.v (.bool v_y646.fSlot)), .d (.v (.int .i64 v_y646.fAt)), .d (.v (.int .i64 v_y646.fRights)), .d (.v (.bool v_y646.fUsed)), .d (.v (.bool v_y646.fDirty)), .d (.v (.bool v_y646.fCopy))]]⟩
def G_ringref2_TableJoins_C1_hd (v_k645 : Int) (v_x647 : Int) (v_p644 : (Fin 64 → S_entry_Entry)) (v_y646 : S_entry_Entry) (v_y654 : S_entry_Entry)  : PS := ⟨[dd, .d (.v (.int .i64 v_k645)), .ref 0 0, dd, dd, .ref 1 0, dd, .ref 2 0, dd, dd, dd, dd, .d (.v (.int .i64 v_x647)), dd, dd, dd, dd, dd, dd, dd, dd, dd, dd, dd, dd, dd, dd, dd, dd, dd, dd, dd, dd, dd, dd, dd, dd, dd, dd, dd, dd], [.box ((cA_t61 v_p644).map FV.d), .box [.d (.v (.bool v_y646.fHere)), .d (.v (.bool v_y646.fSlot)), .d (.v (.int .i64 v_y646.fAt)), .d (.v (.int .i64 v_y646.fRights)), .d (.v (.bool v_y646.fUsed)), .d (.v (.bool v_y646.fDirty)), .d (.v (.bool v_y646.fCopy))], .box [.d (.v (.bool v_y654.fHere)), .d (.v (.bool v_y654.fSlot)), .d (.v (.int .i64 (wi .i64 (v_y654.fAt - v_x647)))), .d (.v (.int .i64 v_y654.fRights)), .d (.v (.bool v_y654.fUsed)), .d (.v (.bool v_y654.fDirty)), .d (.v (.bool v_y654.fCopy))]]⟩
def G_ringref2_TableJoins_C1 (n : Nat) (v_k645 : Int) (v_x647 : Int) (v_p644 : (Fin 64 → S_entry_Entry)) (v_y646 : S_entry_Entry) (v_y654 : S_entry_Entry) : Option G_ringref2_TableJoins_C1_R :=
  if (eqRes .neq (eqS_entry_Entry (S_entry_Entry.mk v_y654.fHere v_y654.fSlot (wi .i64 (v_y654.fAt - v_x647)) v_y654.fRights v_y654.fUsed v_y654.fDirty v_y654.fCopy) v_y646)) = true then
   some (.x0 true)
  else
   if v_y654.fHere = true then
    some (.x0 ((remI (wi .i64 (v_y654.fAt - v_x647)) 8) != 0))
   else
    some (.x0 true)
theorem G_ringref2_TableJoins_C1_ok {Fi : Ex → PS → Prop} (hF : KC 41 Fi) (ks : List Fr) (n : Nat) (v_k645 : Int) (v_x647 : Int) (v_p644 : (Fin 64 → S_entry_Entry)) (v_y646 : S_entry_Entry) (v_y654 : S_entry_Entry)  (o : G_ringref2_TableJoins_C1_R) (h : G_ringref2_TableJoins_C1 n v_k645 v_x647 v_p644 v_y646 v_y654 = some o) (q : RunE Try.prog 41 Fi ks (G_ringref2_TableJoins_C1_ex o) (G_ringref2_TableJoins_C1_st v_k645 v_x647 v_p644 v_y646 v_y654 o)) : RunE Try.prog 41 Fi (.s (cL (cR (cR (cR (cB (cL (cR (cR (cP (cB (cR (cL (cR (cR (bodyOf Try.f38))))))))))))))) :: ks) .normal (G_ringref2_TableJoins_C1_hd v_k645 v_x647 v_p644 v_y646 v_y654) := by
  unfold G_ringref2_TableJoins_C1 at h
  by_cases h881 : (eqRes .neq (eqS_entry_Entry (S_entry_Entry.mk v_y654.fHere v_y654.fSlot (wi .i64 (v_y654.fAt - v_x647)) v_y654.fRights v_y654.fUsed v_y654.fDirty v_y654.fCopy) v_y646)) = true
  · rw [if_pos h881] at h
    cases h
    exact pkk_sound TTok mix hF 1 (hs := [.c, .c, .q (eqS_entry_Entry (S_entry_Entry.mk v_y654.fHere v_y654.fSlot (wi .i64 (v_y654.fAt - v_x647)) v_y654.fRights v_y654.fUsed v_y654.fDirty v_y654.fCopy) v_y646), .t true, .c, .c, .c, .c, .c, .c]) (ts := []) (s := [0, 1]) (l := [1, 2, 5, 12, 39]) (by kernel_rfl) (by kernel_rfl) (.cons (eqS_entry_Entry_ok (S_entry_Entry.mk v_y654.fHere v_y654.fSlot (wi .i64 (v_y654.fAt - v_x647)) v_y654.fRights v_y654.fUsed v_y654.fDirty v_y654.fCopy) v_y646) (.cons h881 .nil)) q
  · rw [if_neg h881] at h
    by_cases h882 : v_y654.fHere = true
    · rw [if_pos h882] at h
      cases h
      exact pkk_sound TTok mix hF 1 (hs := [.c, .c, .q (eqS_entry_Entry (S_entry_Entry.mk v_y654.fHere v_y654.fSlot (wi .i64 (v_y654.fAt - v_x647)) v_y654.fRights v_y654.fUsed v_y654.fDirty v_y654.fCopy) v_y646), .t false, .c, .c, .c, .t false, .c, .c, .c, .c]) (ts := []) (s := [0, 1]) (l := [1, 2, 5, 12, 39]) (by kernel_rfl) (by kernel_rfl) (.cons (eqS_entry_Entry_ok (S_entry_Entry.mk v_y654.fHere v_y654.fSlot (wi .i64 (v_y654.fAt - v_x647)) v_y654.fRights v_y654.fUsed v_y654.fDirty v_y654.fCopy) v_y646) (.cons (vf h881) (.cons (bnf h882) (.cons (show (8 : Int) ≠ 0 by decide) .nil)))) q
    · rw [if_neg h882] at h
      cases h
      exact pkk_sound TTok mix hF 1 (hs := [.c, .c, .q (eqS_entry_Entry (S_entry_Entry.mk v_y654.fHere v_y654.fSlot (wi .i64 (v_y654.fAt - v_x647)) v_y654.fRights v_y654.fUsed v_y654.fDirty v_y654.fCopy) v_y646), .t false, .c, .c, .c, .t true, .c, .c, .c]) (ts := []) (s := [0, 1]) (l := [1, 2, 5, 12, 39]) (by kernel_rfl) (by kernel_rfl) (.cons (eqS_entry_Entry_ok (S_entry_Entry.mk v_y654.fHere v_y654.fSlot (wi .i64 (v_y654.fAt - v_x647)) v_y654.fRights v_y654.fUsed v_y654.fDirty v_y654.fCopy) v_y646) (.cons (vf h881) (.cons (bnt (vf h882)) .nil))) q
inductive G_ringref2_TableJoins_L2_R where
  | x0 (v_x660 : Bool)
  | x1 
def G_ringref2_TableJoins_L2_ex : G_ringref2_TableJoins_L2_R → Ex
  | .x0 _ => .ret
  | .x1  => .exit 0
def G_ringref2_TableJoins_L2_st (v_k645 : Int) (v_p644 : (Fin 64 → S_entry_Entry)) (v_y646 : S_entry_Entry) : G_ringref2_TableJoins_L2_R → PS
  | .x0 v_x660 => ⟨[dd, dd, dd, dd, .d (.v (.bool v_x660)), dd, dd, dd, dd, dd, dd, dd, dd, dd, dd, dd, dd, dd, dd, dd, dd, dd, dd, dd, dd, dd, dd, dd, dd, dd, dd, dd, dd, dd, dd, dd, dd, dd, dd, dd, dd], []⟩
  | .x1  => ⟨[dd, dd, dd, dd, dd, dd, dd, dd, dd, dd, dd, dd, dd, dd, dd, dd, dd, dd, dd, dd, dd, dd, dd, dd, dd, dd, dd, dd, dd, dd, dd, dd, dd, dd, dd, dd, dd, dd, dd, dd, dd], []⟩
def G_ringref2_TableJoins_L2_hd (v_k645 : Int) (v_p644 : (Fin 64 → S_entry_Entry)) (v_y646 : S_entry_Entry) (v_x647 : Int) : PS := ⟨[dd, .d (.v (.int .i64 v_k645)), .ref 0 0, dd, dd, .ref 1 0, dd, dd, dd, dd, dd, dd, .d (.v (.int .i64 v_x647)), dd, dd, dd, dd, dd, dd, dd, dd, dd, dd, dd, dd, dd, dd, dd, dd, dd, dd, dd, dd, dd, dd, dd, dd, dd, dd, dd, dd], [.box ((cA_t61 v_p644).map FV.d), .box [.d (.v (.bool v_y646.fHere)), .d (.v (.bool v_y646.fSlot)), .d (.v (.int .i64 v_y646.fAt)), .d (.v (.int .i64 v_y646.fRights)), .d (.v (.bool v_y646.fUsed)), .d (.v (.bool v_y646.fDirty)), .d (.v (.bool v_y646.fCopy))]]⟩
def G_ringref2_TableJoins_L2 (n : Nat) (v_k645 : Int) (v_p644 : (Fin 64 → S_entry_Entry)) (v_y646 : S_entry_Entry) : Nat → Int → Option G_ringref2_TableJoins_L2_R
  | 0, _ => none
  | k + 1, v_x647 =>
    if v_x647 < 8 then
     if 0 ≤ (wi .i64 ((wi .i64 (8 * v_k645)) + v_x647)) ∧ (wi .i64 ((wi .i64 (8 * v_k645)) + v_x647)) < (64 : Int) then
      (getA v_p644 (wi .i64 ((wi .i64 (8 * v_k645)) + v_x647))).bind fun (v_y654 : S_entry_Entry) =>
      (G_ringref2_TableJoins_C1 n v_k645 v_x647 v_p644 v_y646 v_y654).bind fun v_o658 => match v_o658 with
      | .x0 v_z659 =>
        if v_z659 = true then
         some (.x0 false)
        else
         G_ringref2_TableJoins_L2 n v_k645 v_p644 v_y646 k (wi .i64 (v_x647 + 1))
     else none
    else
     some (.x1 )
theorem G_ringref2_TableJoins_L2_ok {Fi : Ex → PS → Prop} (hF : KC 41 Fi) (ks : List Fr) (n : Nat) (v_k645 : Int) (v_p644 : (Fin 64 → S_entry_Entry)) (v_y646 : S_entry_Entry)  : ∀ (k : Nat) (v_x647 : Int) (o : G_ringref2_TableJoins_L2_R), G_ringref2_TableJoins_L2 n v_k645 v_p644 v_y646 k v_x647 = some o → RunE Try.prog 41 Fi ks (G_ringref2_TableJoins_L2_ex o) (G_ringref2_TableJoins_L2_st v_k645 v_p644 v_y646 o) → RunE Try.prog 41 Fi (.l k (cP (cB (cR (cL (cR (cR (bodyOf Try.f38))))))) :: ks) .normal (G_ringref2_TableJoins_L2_hd v_k645 v_p644 v_y646 v_x647)
  | 0, v_x647, o, h, q => by rw [G_ringref2_TableJoins_L2] at h; cases h
  | k + 1, v_x647, o, h, q => by
    rw [G_ringref2_TableJoins_L2] at h
    by_cases h865 : v_x647 < 8
    · rw [if_pos h865] at h
      by_cases h876 : 0 ≤ (wi .i64 ((wi .i64 (8 * v_k645)) + v_x647)) ∧ (wi .i64 ((wi .i64 (8 * v_k645)) + v_x647)) < (64 : Int)
      · rw [if_pos h876] at h
        obtain ⟨v_y654, h877, h⟩ := bind_some h
        obtain ⟨v_o658, h884, h⟩ := bind_some h
        refine pkk_sound TTok mix hF 15 (hs := [.t true, .l (.d (.agg [.v (.bool v_y654.fHere), .v (.bool v_y654.fSlot), .v (.int .i64 v_y654.fAt), .v (.int .i64 v_y654.fRights), .v (.bool v_y654.fUsed), .v (.bool v_y654.fDirty), .v (.bool v_y654.fCopy)])), .c, .c, .c]) (ts := []) (s := [0, 1, 29]) (l := [1, 2, 5, 7, 12]) (by kernel_rfl) (by kernel_rfl) (.cons (dt h865) (.cons h876 (.cons (And.intro (congrArg mkAgg (arr_take (γ := FV) (sz := 7) (g := (fun x => [.d (.v (.bool x.fHere)), .d (.v (.bool x.fSlot)), .d (.v (.int .i64 x.fAt)), .d (.v (.int .i64 x.fRights)), .d (.v (.bool x.fUsed)), .d (.v (.bool x.fDirty)), .d (.v (.bool x.fCopy))])) (pre := []) (post := []) (fun _ => rfl) h877).1) (arr_take (γ := FV) (sz := 7) (g := (fun x => [.d (.v (.bool x.fHere)), .d (.v (.bool x.fSlot)), .d (.v (.int .i64 x.fAt)), .d (.v (.int .i64 x.fRights)), .d (.v (.bool x.fUsed)), .d (.v (.bool x.fDirty)), .d (.v (.bool x.fCopy))])) (pre := []) (post := []) (fun _ => rfl) h877).2) (.cons (show 0 + 7 ≤ 7 by decide) (.cons (show 2 + 1 ≤ 7 by decide) .nil))))) (G_ringref2_TableJoins_C1_ok hF (.s (cR (cR (cR (cR (cB (cL (cR (cR (cP (cB (cR (cL (cR (cR (bodyOf Try.f38))))))))))))))) :: .b 1 :: .s (cR (cR (cR (cP (cB (cR (cL (cR (cR (bodyOf Try.f38)))))))))) :: .l k (cP (cB (cR (cL (cR (cR (bodyOf Try.f38))))))) :: ks) n v_k645 v_x647 v_p644 v_y646 v_y654 _ h884 ?_)
        cases v_o658 with
        | x0 v_z659 =>
          dsimp only at h
          by_cases h885 : v_z659 = true
          · rw [if_pos h885] at h
            cases h
            exact pkk_sound TTok mix hF 7 (hs := [.t true]) (ts := []) (s := []) (l := [4]) (by kernel_rfl) (by kernel_rfl) (.cons h885 .nil) q
          · rw [if_neg h885] at h
            exact pkk_sound TTok mix hF 4 (hs := [.t false]) (ts := []) (s := [0, 1]) (l := [1, 2, 5, 12]) (by kernel_rfl) (by kernel_rfl) (.cons (vf h885) .nil) (G_ringref2_TableJoins_L2_ok hF ks n v_k645 v_p644 v_y646 k (wi .i64 (v_x647 + 1)) _ h q)
      · rw [if_neg h876] at h; cases h
    · rw [if_neg h865] at h
      cases h
      exact pkk_sound TTok mix hF 8 (hs := [.t false]) (ts := []) (s := []) (l := []) (by kernel_rfl) (by kernel_rfl) (.cons (df h865) .nil) q
/- ringhall/ringref2.TableJoins -/
def G_ringref2_TableJoins (n : Nat) (v_p644 : (Fin 64 → S_entry_Entry)) (v_k645 : Int) : Option (Bool) :=
  if 0 ≤ (wi .i64 (8 * v_k645)) ∧ (wi .i64 (8 * v_k645)) < (64 : Int) then
   (getA v_p644 (wi .i64 (8 * v_k645))).bind fun (v_y646 : S_entry_Entry) =>
   (G_ringref2_TableJoins_L2 n v_k645 v_p644 v_y646 n 0).bind fun v_o661 => match v_o661 with
   | .x0 v_z662 =>
     some v_z662
   | .x1  =>
     some true
  else none
theorem G_ringref2_TableJoins_ok (n : Nat) (v_p644 : (Fin 64 → S_entry_Entry)) (v_k645 : Int) (r : Bool) (h : G_ringref2_TableJoins n v_p644 v_k645 = some r) : Ret Try.prog 38 [(fun x => PV.agg (cA_t61 x)) v_p644, (eI .i64) v_k645] (eB r) := by
  refine ret_run (n := 41) (fn := Try.f38) (c := bodyOf Try.f38) (by kernel_rfl) (by kernel_rfl) (by kernel_rfl) (by kernel_rfl) ?_
  have hF : KC 41 (FinR Try.prog Try.f38 (eB r)) := FinR.kc' (by kernel_rfl)
  unfold G_ringref2_TableJoins at h
  by_cases h863 : 0 ≤ (wi .i64 (8 * v_k645)) ∧ (wi .i64 (8 * v_k645)) < (64 : Int)
  · rw [if_pos h863] at h
    obtain ⟨v_y646, h864, h⟩ := bind_some h
    obtain ⟨v_o661, h886, h⟩ := bind_some h
    refine pkk_sound TTok mix hF 9 (hs := [.l (.d (.agg [.v (.bool v_y646.fHere), .v (.bool v_y646.fSlot), .v (.int .i64 v_y646.fAt), .v (.int .i64 v_y646.fRights), .v (.bool v_y646.fUsed), .v (.bool v_y646.fDirty), .v (.bool v_y646.fCopy)])), .c, .n n]) (ts := []) (s := [0, 18]) (l := [1, 2, 5, 12]) (by kernel_rfl) (by kernel_rfl) (.cons h863 (.cons (And.intro (congrArg mkAgg (arr_take (γ := FV) (sz := 7) (g := (fun x => [.d (.v (.bool x.fHere)), .d (.v (.bool x.fSlot)), .d (.v (.int .i64 x.fAt)), .d (.v (.int .i64 x.fRights)), .d (.v (.bool x.fUsed)), .d (.v (.bool x.fDirty)), .d (.v (.bool x.fCopy))])) (pre := []) (post := []) (fun _ => rfl) h864).1) (arr_take (γ := FV) (sz := 7) (g := (fun x => [.d (.v (.bool x.fHere)), .d (.v (.bool x.fSlot)), .d (.v (.int .i64 x.fAt)), .d (.v (.int .i64 x.fRights)), .d (.v (.bool x.fUsed)), .d (.v (.bool x.fDirty)), .d (.v (.bool x.fCopy))])) (pre := []) (post := []) (fun _ => rfl) h864).2) (.cons (show 0 + 7 ≤ 7 by decide) .nil))) (G_ringref2_TableJoins_L2_ok hF (.b 0 :: .s (cR (cR (cR (bodyOf Try.f38)))) :: []) n v_k645 v_p644 v_y646 n 0 _ h886 ?_)
    cases v_o661 with
    | x0 v_z662 =>
      dsimp only at h
      obtain rfl := Option.some.inj h
      exact pend_sound TTok mix 2 (hs := []) (by kernel_rfl) (by kernel_rfl) (by kernel_rfl) .nil
    | x1  =>
      dsimp only at h
      obtain rfl := Option.some.inj h
      exact pend_sound TTok mix 4 (hs := []) (by kernel_rfl) (by kernel_rfl) (by kernel_rfl) .nil
  · rw [if_neg h863] at h; cases h
inductive G_slices_Equal_entry_Entry_entry_Entry_L1_R where
  | x0 (v_x683 : Bool)
  | x1 
def G_slices_Equal_entry_Entry_entry_Entry_L1_ex : G_slices_Equal_entry_Entry_entry_Entry_L1_R → Ex
  | .x0 _ => .ret
  | .x1  => .exit 0
def G_slices_Equal_entry_Entry_entry_Entry_L1_st (v_s676 : (List S_entry_Entry)) (v_s677 : (List S_entry_Entry)) : G_slices_Equal_entry_Entry_entry_Entry_L1_R → PS
  | .x0 v_x683 => ⟨[dd, dd, dd, dd, .d (.v (.bool v_x683)), dd, dd, dd, dd, dd, dd, dd, dd, dd, dd, dd, dd, dd, dd, dd, dd, dd, dd, dd, dd, dd], []⟩
  | .x1  => ⟨[dd, dd, dd, dd, dd, dd, dd, dd, dd, dd, dd, dd, dd, dd, dd, dd, dd, dd, dd, dd, dd, dd, dd, dd, dd, dd], []⟩
def G_slices_Equal_entry_Entry_entry_Entry_L1_hd (v_s676 : (List S_entry_Entry)) (v_s677 : (List S_entry_Entry)) (v_x678 : Int) : PS := ⟨[.d (.sl (v_s676.map eS_entry_Entry)), .d (.sl (v_s677.map eS_entry_Entry)), dd, dd, dd, dd, dd, dd, dd, dd, dd, dd, .d (.v (.int .i64 (v_s676.length : Int))), .d (.v (.int .i64 v_x678)), dd, dd, dd, dd, dd, dd, dd, dd, dd, dd, dd, dd], []⟩
def G_slices_Equal_entry_Entry_entry_Entry_L1 (n : Nat) (v_s676 : (List S_entry_Entry)) (v_s677 : (List S_entry_Entry)) : Nat → Int → Option G_slices_Equal_entry_Entry_entry_Entry_L1_R
  | 0, _ => none
  | k + 1, v_x678 =>
    if v_x678 < (v_s676.length : Int) then
     (getI v_s676 v_x678).bind fun (v_y681 : S_entry_Entry) =>
     (getI v_s677 v_x678).bind fun (v_y682 : S_entry_Entry) =>
     if (eqRes .neq (eqS_entry_Entry v_y681 v_y682)) = true then
      some (.x0 false)
     else
      G_slices_Equal_entry_Entry_entry_Entry_L1 n v_s676 v_s677 k (wi .i64 (v_x678 + 1))
    else
     some (.x1 )
theorem G_slices_Equal_entry_Entry_entry_Entry_L1_ok {Fi : Ex → PS → Prop} (hF : KC 26 Fi) (ks : List Fr) (n : Nat) (v_s676 : (List S_entry_Entry)) (v_s677 : (List S_entry_Entry))  : ∀ (k : Nat) (v_x678 : Int) (o : G_slices_Equal_entry_Entry_entry_Entry_L1_R), G_slices_Equal_entry_Entry_entry_Entry_L1 n v_s676 v_s677 k v_x678 = some o → RunE Try.prog 26 Fi ks (G_slices_Equal_entry_Entry_entry_Entry_L1_ex o) (G_slices_Equal_entry_Entry_entry_Entry_L1_st v_s676 v_s677 o) → RunE Try.prog 26 Fi (.l k (cP (cB (cR (cL (cR (cR (bodyOf Try.f111))))))) :: ks) .normal (G_slices_Equal_entry_Entry_entry_Entry_L1_hd v_s676 v_s677 v_x678)
  | 0, v_x678, o, h, q => by rw [G_slices_Equal_entry_Entry_entry_Entry_L1] at h; cases h
  | k + 1, v_x678, o, h, q => by
    rw [G_slices_Equal_entry_Entry_entry_Entry_L1] at h
    by_cases h912 : v_x678 < (v_s676.length : Int)
    · rw [if_pos h912] at h
      obtain ⟨v_y681, h916, h⟩ := bind_some h
      obtain ⟨v_y682, h917, h⟩ := bind_some h
      by_cases h918 : (eqRes .neq (eqS_entry_Entry v_y681 v_y682)) = true
      · rw [if_pos h918] at h
        cases h
        exact pkk_sound TTok mix hF 19 (hs := [.t true, .y (eS_entry_Entry v_y681), .y (eS_entry_Entry v_y682), .q (eqS_entry_Entry v_y681 v_y682), .t true]) (ts := []) (s := []) (l := [4]) (by kernel_rfl) (by kernel_rfl) (.cons (dt h912) (.cons (getI_ob (f := eS_entry_Entry) h916) (.cons (getI_ob (f := eS_entry_Entry) h917) (.cons (eqS_entry_Entry_ok v_y681 v_y682) (.cons h918 .nil))))) q
      · rw [if_neg h918] at h
        exact pkk_sound TTok mix hF 16 (hs := [.t true, .y (eS_entry_Entry v_y681), .y (eS_entry_Entry v_y682), .q (eqS_entry_Entry v_y681 v_y682), .t false]) (ts := []) (s := []) (l := [0, 1, 12, 13]) (by kernel_rfl) (by kernel_rfl) (.cons (dt h912) (.cons (getI_ob (f := eS_entry_Entry) h916) (.cons (getI_ob (f := eS_entry_Entry) h917) (.cons (eqS_entry_Entry_ok v_y681 v_y682) (.cons (vf h918) .nil))))) (G_slices_Equal_entry_Entry_entry_Entry_L1_ok hF ks n v_s676 v_s677 k (wi .i64 (v_x678 + 1)) _ h q)
    · rw [if_neg h912] at h
      cases h
      exact pkk_sound TTok mix hF 8 (hs := [.t false]) (ts := []) (s := []) (l := []) (by kernel_rfl) (by kernel_rfl) (.cons (df h912) .nil) q
/- slices.Equal[[]ringhall/entry.Entry,ringhall/entry.Entry] -/
def G_slices_Equal_entry_Entry_entry_Entry (n : Nat) (v_s676 : (List S_entry_Entry)) (v_s677 : (List S_entry_Entry)) : Option (Bool) :=
  if (v_s676.length : Int) = (v_s677.length : Int) then
   (G_slices_Equal_entry_Entry_entry_Entry_L1 n v_s676 v_s677 n 0).bind fun v_o684 => match v_o684 with
   | .x0 v_z685 =>
     some v_z685
   | .x1  =>
     some true
  else
   some false
theorem G_slices_Equal_entry_Entry_entry_Entry_ok (n : Nat) (v_s676 : (List S_entry_Entry)) (v_s677 : (List S_entry_Entry)) (r : Bool) (h : G_slices_Equal_entry_Entry_entry_Entry n v_s676 v_s677 = some r) : Ret Try.prog 111 [(eL eS_entry_Entry) v_s676, (eL eS_entry_Entry) v_s677] (eB r) := by
  refine ret_run (n := 26) (fn := Try.f111) (c := bodyOf Try.f111) (by kernel_rfl) (by kernel_rfl) (by kernel_rfl) (by kernel_rfl) ?_
  have hF : KC 26 (FinR Try.prog Try.f111 (eB r)) := FinR.kc' (by kernel_rfl)
  unfold G_slices_Equal_entry_Entry_entry_Entry at h
  by_cases h911 : (v_s676.length : Int) = (v_s677.length : Int)
  · rw [if_pos h911] at h
    obtain ⟨v_o684, h919, h⟩ := bind_some h
    refine pkk_sound TTok mix hF 12 (hs := [.u (.d (.v (.int .i64 (v_s676.length : Int)))), .u (.d (.v (.int .i64 (v_s677.length : Int)))), .t false, .u (.d (.v (.int .i64 (v_s676.length : Int)))), .n n]) (ts := []) (s := []) (l := [0, 1, 12, 13]) (by kernel_rfl) (by kernel_rfl) (.cons (len_ob (f := eS_entry_Entry) (l := v_s676)) (.cons (len_ob (f := eS_entry_Entry) (l := v_s677)) (.cons (nf h911) (.cons (len_ob (f := eS_entry_Entry) (l := v_s676)) .nil)))) (G_slices_Equal_entry_Entry_entry_Entry_L1_ok hF (.b 0 :: .s (cR (cR (cR (bodyOf Try.f111)))) :: []) n v_s676 v_s677 n 0 _ h919 ?_)
    cases v_o684 with
    | x0 v_z685 =>
      dsimp only at h
      obtain rfl := Option.some.inj h
      exact pend_sound TTok mix 2 (hs := []) (by kernel_rfl) (by kernel_rfl) (by kernel_rfl) .nil
    | x1  =>
      dsimp only at h
      obtain rfl := Option.some.inj h
      exact pend_sound TTok mix 4 (hs := []) (by kernel_rfl) (by kernel_rfl) (by kernel_rfl) .nil
  · rw [if_neg h911] at h
    obtain rfl := Option.some.inj h
    exact pend_sound TTok mix 10 (hs := [.u (.d (.v (.int .i64 (v_s676.length : Int)))), .u (.d (.v (.int .i64 (v_s677.length : Int)))), .t true]) (by kernel_rfl) (by kernel_rfl) (by kernel_rfl) (.cons (len_ob (f := eS_entry_Entry) (l := v_s676)) (.cons (len_ob (f := eS_entry_Entry) (l := v_s677)) (.cons (nt h911) .nil)))
inductive G_ringlaw2_others_C1_R where
  | x0 (v_x704 : Bool)
def G_ringlaw2_others_C1_ex : G_ringlaw2_others_C1_R → Ex
  | .x0 _ => .normal
def G_ringlaw2_others_C1_st (v_k670 : Int) (v_x671 : Int) (v_t668 : (Fin 8 → S_table_Node)) (v_x669 : (Fin 8 → S_table_Node)) : G_ringlaw2_others_C1_R → PS
  | .x0 v_x704 => ⟨[dd, dd, .d (.v (.int .i64 v_k670)), .ref 0 0, .ref 1 0, dd, dd, dd, .d (.v (.int .i64 v_x671)), dd, dd, dd, dd, dd, dd, dd, dd, dd, dd, dd, dd, dd, dd, dd, dd, dd, dd, dd, dd, dd, dd, dd, dd, dd, dd, dd, .d (.v (.bool v_x704)), dd], [.box ((cA_t49 v_t668).map FV.d), .box ((cA_t49 v_x669).map FV.d)]⟩
def G_ringlaw2_others_C1_hd (v_k670 : Int) (v_x671 : Int) (v_t668 : (Fin 8 → S_table_Node)) (v_x669 : (Fin 8 → S_table_Node))  : PS := ⟨[dd, dd, .d (.v (.int .i64 v_k670)), .ref 0 0, .ref 1 0, dd, dd, .d (.v (.int .i64 v_x671)), .d (.v (.int .i64 v_x671)), dd, dd, dd, dd, dd, dd, dd, dd, dd, dd, dd, dd, dd, dd, dd, dd, dd, dd, dd, dd, dd, dd, dd, dd, dd, dd, dd, dd, dd], [.box ((cA_t49 v_t668).map FV.d), .box ((cA_t49 v_x669).map FV.d)]⟩
def G_ringlaw2_others_C1 (n : Nat) (v_k670 : Int) (v_x671 : Int) (v_t668 : (Fin 8 → S_table_Node)) (v_x669 : (Fin 8 → S_table_Node)) : Option G_ringlaw2_others_C1_R :=
  if v_x671 = v_k670 then
   some (.x0 false)
  else
   if 0 ≤ v_x671 ∧ v_x671 < (8 : Int) then
    (getA v_t668 v_x671).bind fun (v_y702 : S_table_Node) =>
    if 0 ≤ v_x671 ∧ v_x671 < (8 : Int) then
     (getA v_x669 v_x671).bind fun (v_y703 : S_table_Node) =>
     if (eqRes .neq (v_y702.fHuge == v_y703.fHuge)) = true then
      some (.x0 true)
     else
      if 0 ≤ v_x671 ∧ v_x671 < (8 : Int) then
       (getA v_t668 v_x671).bind fun (v_y705 : S_table_Node) =>
       if 0 ≤ v_x671 ∧ v_x671 < (8 : Int) then
        (getA v_x669 v_x671).bind fun (v_y706 : S_table_Node) =>
        (G_slices_Equal_entry_Entry_entry_Entry n v_y705.fEntries v_y706.fEntries).bind fun (v_r707 : (Bool)) =>
        some (.x0 (!v_r707))
       else none
      else none
    else none
   else none
theorem G_ringlaw2_others_C1_ok {Fi : Ex → PS → Prop} (hF : KC 38 Fi) (ks : List Fr) (n : Nat) (v_k670 : Int) (v_x671 : Int) (v_t668 : (Fin 8 → S_table_Node)) (v_x669 : (Fin 8 → S_table_Node))  (o : G_ringlaw2_others_C1_R) (h : G_ringlaw2_others_C1 n v_k670 v_x671 v_t668 v_x669 = some o) (q : RunE Try.prog 38 Fi ks (G_ringlaw2_others_C1_ex o) (G_ringlaw2_others_C1_st v_k670 v_x671 v_t668 v_x669 o)) : RunE Try.prog 38 Fi (.s (cL (cR (cB (cL (cR (cR (cP (cB (cR (cL (cR (bodyOf Try.f37)))))))))))) :: ks) .normal (G_ringlaw2_others_C1_hd v_k670 v_x671 v_t668 v_x669) := by
  unfold G_ringlaw2_others_C1 at h
  by_cases h945 : v_x671 = v_k670
  · rw [if_pos h945] at h
    cases h
    exact pkk_sound TTok mix hF 1 (hs := [.t false, .c, .c, .c, .c, .c, .c, .c, .c, .c, .c]) (ts := []) (s := [0, 1]) (l := [2, 3, 4, 8, 36]) (by kernel_rfl) (by kernel_rfl) (.cons (nf h945) .nil) q
  · rw [if_neg h945] at h
    by_cases h946 : 0 ≤ v_x671 ∧ v_x671 < (8 : Int)
    · rw [if_pos h946] at h
      obtain ⟨v_y702, h947, h⟩ := bind_some h
      by_cases h948 : 0 ≤ v_x671 ∧ v_x671 < (8 : Int)
      · rw [if_pos h948] at h
        obtain ⟨v_y703, h949, h⟩ := bind_some h
        by_cases h950 : (eqRes .neq (v_y702.fHuge == v_y703.fHuge)) = true
        · rw [if_pos h950] at h
          cases h
          exact pkk_sound TTok mix hF 1 (hs := [.t true, .c, .c, .c, .l (.d (.v (.bool v_y702.fHuge))), .c, .c, .c, .c, .l (.d (.v (.bool v_y703.fHuge))), .c, .c, .t true, .c, .c, .c, .c, .c, .c, .c, .c, .c, .c]) (ts := []) (s := [0, 1]) (l := [2, 3, 4, 8, 36]) (by kernel_rfl) (by kernel_rfl) (.cons (nt h945) (.cons h946 (.cons (arr_cell (γ := FV) (sz := 2) (g := (fun x => [.d (.v (.bool x.fHuge)), .d (.sl (x.fEntries.map eS_entry_Entry))])) (pre := []) (post := []) (o := 0) (fun _ => rfl) h947 rfl) (.cons h948 (.cons (arr_cell (γ := FV) (sz := 2) (g := (fun x => [.d (.v (.bool x.fHuge)), .d (.sl (x.fEntries.map eS_entry_Entry))])) (pre := []) (post := []) (o := 0) (fun _ => rfl) h949 rfl) (.cons h950 .nil)))))) q
        · rw [if_neg h950] at h
          by_cases h951 : 0 ≤ v_x671 ∧ v_x671 < (8 : Int)
          · rw [if_pos h951] at h
            obtain ⟨v_y705, h952, h⟩ := bind_some h
            by_cases h953 : 0 ≤ v_x671 ∧ v_x671 < (8 : Int)
            · rw [if_pos h953] at h
              obtain ⟨v_y706, h954, h⟩ := bind_some h
              obtain ⟨v_r707, h955, h⟩ := bind_some h
              cases h
              exact pkk_sound TTok mix hF 1 (hs := [.t true, .c, .c, .c, .l (.d (.v (.bool v_y702.fHuge))), .c, .c, .c, .c, .l (.d (.v (.bool v_y703.fHuge))), .c, .c, .t false, .c, .c, .c, .l (.d (.sl (v_y705.fEntries.map eS_entry_Entry))), .c, .c, .c, .c, .l (.d (.sl (v_y706.fEntries.map eS_entry_Entry))), .c, .r (eB v_r707), .c, .c]) (ts := []) (s := [0, 1]) (l := [2, 3, 4, 8, 36]) (by kernel_rfl) (by kernel_rfl) (.cons (nt h945) (.cons h946 (.cons (arr_cell (γ := FV) (sz := 2) (g := (fun x => [.d (.v (.bool x.fHuge)), .d (.sl (x.fEntries.map eS_entry_Entry))])) (pre := []) (post := []) (o := 0) (fun _ => rfl) h947 rfl) (.cons h948 (.cons (arr_cell (γ := FV) (sz := 2) (g := (fun x => [.d (.v (.bool x.fHuge)), .d (.sl (x.fEntries.map eS_entry_Entry))])) (pre := []) (post := []) (o := 0) (fun _ => rfl) h949 rfl) (.cons (vf h950) (.cons h951 (.cons (arr_cell (γ := FV) (sz := 2) (g := (fun x => [.d (.v (.bool x.fHuge)), .d (.sl (x.fEntries.map eS_entry_Entry))])) (pre := []) (post := []) (o := 1) (fun _ => rfl) h952 rfl) (.cons h953 (.cons (arr_cell (γ := FV) (sz := 2) (g := (fun x => [.d (.v (.bool x.fHuge)), .d (.sl (x.fEntries.map eS_entry_Entry))])) (pre := []) (post := []) (o := 1) (fun _ => rfl) h954 rfl) (.cons (G_slices_Equal_entry_Entry_entry_Entry_ok n v_y705.fEntries v_y706.fEntries _ h955) .nil))))))))))) q
            · rw [if_neg h953] at h; cases h
          · rw [if_neg h951] at h; cases h
      · rw [if_neg h948] at h; cases h
    · rw [if_neg h946] at h; cases h
inductive G_ringlaw2_others_L2_R where
  | x0 (v_x712 : Bool)
  | x1 
def G_ringlaw2_others_L2_ex : G_ringlaw2_others_L2_R → Ex
  | .x0 _ => .ret
  | .x1  => .exit 0
def G_ringlaw2_others_L2_st (v_k670 : Int) (v_t668 : (Fin 8 → S_table_Node)) (v_x669 : (Fin 8 → S_table_Node)) : G_ringlaw2_others_L2_R → PS
  | .x0 v_x712 => ⟨[dd, dd, dd, dd, dd, dd, .d (.v (.bool v_x712)), dd, dd, dd, dd, dd, dd, dd, dd, dd, dd, dd, dd, dd, dd, dd, dd, dd, dd, dd, dd, dd, dd, dd, dd, dd, dd, dd, dd, dd, dd, dd], []⟩
  | .x1  => ⟨[dd, dd, dd, dd, dd, dd, dd, dd, dd, dd, dd, dd, dd, dd, dd, dd, dd, dd, dd, dd, dd, dd, dd, dd, dd, dd, dd, dd, dd, dd, dd, dd, dd, dd, dd, dd, dd, dd], []⟩
def G_ringlaw2_others_L2_hd (v_k670 : Int) (v_t668 : (Fin 8 → S_table_Node)) (v_x669 : (Fin 8 → S_table_Node)) (v_x671 : Int) : PS := ⟨[dd, dd, .d (.v (.int .i64 v_k670)), .ref 0 0, .ref 1 0, dd, dd, dd, .d (.v (.int .i64 v_x671)), dd, dd, dd, dd, dd, dd, dd, dd, dd, dd, dd, dd, dd, dd, dd, dd, dd, dd, dd, dd, dd, dd, dd, dd, dd, dd, dd, dd, dd], [.box ((cA_t49 v_t668).map FV.d), .box ((cA_t49 v_x669).map FV.d)]⟩
def G_ringlaw2_others_L2 (n : Nat) (v_k670 : Int) (v_t668 : (Fin 8 → S_table_Node)) (v_x669 : (Fin 8 → S_table_Node)) : Nat → Int → Option G_ringlaw2_others_L2_R
  | 0, _ => none
  | k + 1, v_x671 =>
    if v_x671 < 8 then
     (G_ringlaw2_others_C1 n v_k670 v_x671 v_t668 v_x669).bind fun v_o710 => match v_o710 with
     | .x0 v_z711 =>
       if v_z711 = true then
        some (.x0 false)
       else
        G_ringlaw2_others_L2 n v_k670 v_t668 v_x669 k (wi .i64 (v_x671 + 1))
    else
     some (.x1 )
theorem G_ringlaw2_others_L2_ok {Fi : Ex → PS → Prop} (hF : KC 38 Fi) (ks : List Fr) (n : Nat) (v_k670 : Int) (v_t668 : (Fin 8 → S_table_Node)) (v_x669 : (Fin 8 → S_table_Node))  : ∀ (k : Nat) (v_x671 : Int) (o : G_ringlaw2_others_L2_R), G_ringlaw2_others_L2 n v_k670 v_t668 v_x669 k v_x671 = some o → RunE Try.prog 38 Fi ks (G_ringlaw2_others_L2_ex o) (G_ringlaw2_others_L2_st v_k670 v_t668 v_x669 o) → RunE Try.prog 38 Fi (.l k (cP (cB (cR (cL (cR (bodyOf Try.f37)))))) :: ks) .normal (G_ringlaw2_others_L2_hd v_k670 v_t668 v_x669 v_x671)
  | 0, v_x671, o, h, q => by rw [G_ringlaw2_others_L2] at h; cases h
  | k + 1, v_x671, o, h, q => by
    rw [G_ringlaw2_others_L2] at h
    by_cases h900 : v_x671 < 8
    · rw [if_pos h900] at h
      obtain ⟨v_o710, h956, h⟩ := bind_some h
      refine pkk_sound TTok mix hF 11 (hs := [.t true]) (ts := []) (s := [0, 1]) (l := [2, 3, 4, 7, 8]) (by kernel_rfl) (by kernel_rfl) (.cons (dt h900) .nil) (G_ringlaw2_others_C1_ok hF (.s (cR (cR (cB (cL (cR (cR (cP (cB (cR (cL (cR (bodyOf Try.f37)))))))))))) :: .b 1 :: .s (cR (cR (cR (cP (cB (cR (cL (cR (bodyOf Try.f37))))))))) :: .l k (cP (cB (cR (cL (cR (bodyOf Try.f37)))))) :: ks) n v_k670 v_x671 v_t668 v_x669 _ h956 ?_)
      cases v_o710 with
      | x0 v_z711 =>
        dsimp only at h
        by_cases h957 : v_z711 = true
        · rw [if_pos h957] at h
          cases h
          exact pkk_sound TTok mix hF 7 (hs := [.t true]) (ts := []) (s := []) (l := [6]) (by kernel_rfl) (by kernel_rfl) (.cons h957 .nil) q
        · rw [if_neg h957] at h
          exact pkk_sound TTok mix hF 4 (hs := [.t false]) (ts := []) (s := [0, 1]) (l := [2, 3, 4, 8]) (by kernel_rfl) (by kernel_rfl) (.cons (vf h957) .nil) (G_ringlaw2_others_L2_ok hF ks n v_k670 v_t668 v_x669 k (wi .i64 (v_x671 + 1)) _ h q)
    · rw [if_neg h900] at h
      cases h
      exact pkk_sound TTok mix hF 8 (hs := [.t false]) (ts := []) (s := []) (l := []) (by kernel_rfl) (by kernel_rfl) (.cons (df h900) .nil) q
/- ringhall/ringlaw2.others -/
def G_ringlaw2_others (n : Nat) (v_t668 : (Fin 8 → S_table_Node)) (v_x669 : (Fin 8 → S_table_Node)) (v_k670 : Int) : Option (Bool) :=
  (G_ringlaw2_others_L2 n v_k670 v_t668 v_x669 n 0).bind fun v_o713 => match v_o713 with
  | .x0 v_z714 =>
    some v_z714
  | .x1  =>
    some true

end Go.Proofs.Ytnmpnljjaoddhaa.pv
