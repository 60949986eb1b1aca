/- What the functions compute, as functions over plain data, with their contracts: written by gen.py. -/
import Derived.Test.YtlnlhppaiagafaaProg
import Derived.Test.YtlnlhppaiagafaaQr
import Derived.Test.YtlnlhppaiagafaaTe
import Derived.Test.YtlnlhppaiagafaaTf
import Derived.Test.YtlnlhppaiagafaaSh
import Derived.Test.YtlnlhppaiagafaaSi
set_option maxRecDepth 100000
set_option linter.all false
namespace Go.Proofs.Ytlnlhppaiagafaa.pv
open Go.RowKit
def dds (n : Nat) (l : List FV) : List FV := List.replicate n dd ++ l
def TT : List TI := [
⟨1, 0, .oth, []⟩,
⟨1, 8, .oth, [.nf]⟩,
⟨1, 8, .int .i64, [.i .i64]⟩,
⟨1, 8, .int .i64, [.i .i64]⟩,
⟨1, 1, .bool, [.b]⟩,
⟨1, 1, .int .u8, [.i .u8]⟩,
⟨1, 1, .int .u8, [.i .u8]⟩,
⟨4, 24, .st [(0, 2), (1, 3), (2, 4), (3, 6)], [.i .i64, .i .i64, .b, .i .u8]⟩,
⟨4, 24, .st [(0, 2), (1, 3), (2, 4), (3, 6)], [.i .i64, .i .i64, .b, .i .u8]⟩,
⟨1, 16, .str, [.s]⟩,
⟨1, 16, .str, [.s]⟩,
⟨1, 16, .str, [.s]⟩,
⟨1, 8, .int .u64, [.i .u64]⟩,
⟨2, 24, .st [(0, 9), (1, 12)], [.s, .i .u64]⟩,
⟨2, 24, .st [(0, 9), (1, 12)], [.s, .i .u64]⟩,
⟨1, 8, .ptr 79, [.np]⟩,
⟨1, 8, .ptr 82, [.np]⟩,
⟨1, 8, .ptr 91, [.np]⟩,
⟨1, 8, .st [(0, 17)], [.np]⟩,
⟨1, 8, .st [(0, 17)], [.np]⟩,
⟨1, 16, .oth, [.ni]⟩,
⟨1, 4, .int .i32, [.i .i32]⟩,
⟨1, 24, .sl 41, [.sl]⟩,
⟨1, 8, .ptr 48, [.np]⟩,
⟨1, 8, .oth, [.nf]⟩,
⟨1, 8, .int .i64, [.i .i64]⟩,
⟨1, 0, .oth, []⟩,
⟨1, 8, .oth, [.nf]⟩,
⟨5, 40, .st [(0, 3), (1, 3), (2, 3), (3, 4), (4, 3)], [.i .i64, .i .i64, .i .i64, .b, .i .i64]⟩,
⟨5, 40, .st [(0, 3), (1, 3), (2, 3), (3, 4), (4, 3)], [.i .i64, .i .i64, .i .i64, .b, .i .i64]⟩,
⟨1, 24, .sl 29, [.sl]⟩,
⟨1, 0, .oth, []⟩,
⟨1, 8, .oth, [.nf]⟩,
⟨1, 8, .ptr 38, [.np]⟩,
⟨1, 24, .sl 39, [.sl]⟩,
⟨8, 64, .arr 8 3, [.i .i64, .i .i64, .i .i64, .i .i64, .i .i64, .i .i64, .i .i64, .i .i64]⟩,
⟨136, 1088, .arr 17 35, List.replicate 136 (.i .i64)⟩,
⟨137, 1112, .st [(0, 34), (1, 36)], (List.replicate 1 (.sl) ++ List.replicate 136 (.i .i64))⟩,
⟨137, 1112, .st [(0, 34), (1, 36)], (List.replicate 1 (.sl) ++ List.replicate 136 (.i .i64))⟩,
⟨5, 40, .st [(0, 3), (1, 3), (2, 3), (3, 4), (4, 3)], [.i .i64, .i .i64, .i .i64, .b, .i .i64]⟩,
⟨9, 72, .st [(0, 3), (1, 3), (2, 3), (3, 3), (4, 39)], [.i .i64, .i .i64, .i .i64, .i .i64, .i .i64, .i .i64, .i .i64, .b, .i .i64]⟩,
⟨9, 72, .st [(0, 3), (1, 3), (2, 3), (3, 3), (4, 39)], [.i .i64, .i .i64, .i .i64, .i .i64, .i .i64, .i .i64, .i .i64, .b, .i .i64]⟩,
⟨1, 8, .oth, [.nf]⟩,
⟨1, 8, .oth, [.nf]⟩,
⟨6, 48, .st [(0, 29), (5, 3)], [.i .i64, .i .i64, .i .i64, .b, .i .i64, .i .i64]⟩,
⟨6, 48, .st [(0, 29), (5, 3)], [.i .i64, .i .i64, .i .i64, .b, .i .i64, .i .i64]⟩,
⟨192, 1536, .arr 32 45, (List.replicate 32 [.i .i64, .i .i64, .i .i64, .b, .i .i64, .i .i64]).flatten⟩,
⟨328, 2624, .st [(0, 46), (192, 36)], [.i .i64, .i .i64, .i .i64, .b, .i .i64, .i .i64, .i .i64, .i .i64, .i .i64, .b, .i .i64, .i .i64, .i .i64, .i .i64, .i .i64, .b, .i .i64, .i .i64, .i .i64, .i .i64, .i .i64, .b, .i .i64, .i .i64, .i .i64, .i .i64, .i .i64, .b, .i .i64, .i .i64, .i .i64, .i .i64, .i .i64, .b, .i .i64, .i .i64, .i .i64, .i .i64, .i .i64, .b, .i .i64, .i .i64, .i .i64, .i .i64, .i .i64, .b, .i .i64, .i .i64, .i .i64, .i .i64, .i .i64, .b, .i .i64, .i .i64, .i .i64, .i .i64, .i .i64, .b, .i .i64, .i .i64, .i .i64, .i .i64, .i .i64, .b, .i .i64, .i .i64, .i .i64, .i .i64, .i .i64, .b, .i .i64, .i .i64, .i .i64, .i .i64, .i .i64, .b, .i .i64, .i .i64, .i .i64, .i .i64, .i .i64, .b, .i .i64, .i .i64, .i .i64, .i .i64, .i .i64, .b, .i .i64, .i .i64, .i .i64, .i .i64, .i .i64, .b, .i .i64, .i .i64, .i .i64, .i .i64, .i .i64, .b, .i .i64, .i .i64, .i .i64, .i .i64, .i .i64, .b, .i .i64, .i .i64, .i .i64, .i .i64, .i .i64, .b, .i .i64, .i .i64, .i .i64, .i .i64, .i .i64, .b, .i .i64, .i .i64, .i .i64, .i .i64, .i .i64, .b, .i .i64, .i .i64, .i .i64, .i .i64, .i .i64, .b, .i .i64, .i .i64, .i .i64, .i .i64, .i .i64, .b, .i .i64, .i .i64, .i .i64, .i .i64, .i .i64, .b, .i .i64, .i .i64, .i .i64, .i .i64, .i .i64, .b, .i .i64, .i .i64, .i .i64, .i .i64, .i .i64, .b, .i .i64, .i .i64, .i .i64, .i .i64, .i .i64, .b, .i .i64, .i .i64, .i .i64, .i .i64, .i .i64, .b, .i .i64, .i .i64, .i .i64, .i .i64, .i .i64, .b, .i .i64, .i .i64, .i .i64, .i .i64, .i .i64, .b, .i .i64, .i .i64, .i .i64, .i .i64, .i .i64, .b, .i .i64, .i .i64, .i .i64, .i .i64, .i .i64, .b, .i .i64, .i .i64, .i .i64, .i .i64, .i .i64, .i .i64, .i .i64, .i .i64, .i .i64, .i .i64, .i .i64, .i .i64, .i .i64, .i .i64, .i .i64, .i .i64, .i .i64, .i .i64, .i .i64, .i .i64, .i .i64, .i .i64, .i .i64, .i .i64, .i .i64, .i .i64, .i .i64, .i .i64, .i .i64, .i .i64, .i .i64, .i .i64, .i .i64, .i .i64, .i .i64, .i .i64, .i .i64, .i .i64, .i .i64, .i .i64, .i .i64, .i .i64, .i .i64, .i .i64, .i .i64, .i .i64, .i .i64, .i .i64, .i .i64, .i .i64, .i .i64, .i .i64, .i .i64, .i .i64, .i .i64, .i .i64, .i .i64, .i .i64, .i .i64, .i .i64, .i .i64, .i .i64, .i .i64, .i .i64, .i .i64, .i .i64, .i .i64, .i .i64, .i .i64, .i .i64, .i .i64, .i .i64, .i .i64, .i .i64, .i .i64, .i .i64, .i .i64, .i .i64, .i .i64, .i .i64, .i .i64, .i .i64, .i .i64, .i .i64, .i .i64, .i .i64, .i .i64, .i .i64, .i .i64, .i .i64, .i .i64, .i .i64, .i .i64, .i .i64, .i .i64, .i .i64, .i .i64, .i .i64, .i .i64, .i .i64, .i .i64, .i .i64, .i .i64, .i .i64, .i .i64, .i .i64, .i .i64, .i .i64, .i .i64, .i .i64, .i .i64, .i .i64, .i .i64, .i .i64, .i .i64, .i .i64, .i .i64, .i .i64, .i .i64, .i .i64, .i .i64, .i .i64, .i .i64, .i .i64, .i .i64, .i .i64, .i .i64, .i .i64, .i .i64, .i .i64, .i .i64, .i .i64, .i .i64, .i .i64, .i .i64, .i .i64, .i .i64, .i .i64]⟩,
⟨328, 2624, .st [(0, 46), (192, 36)], [.i .i64, .i .i64, .i .i64, .b, .i .i64, .i .i64, .i .i64, .i .i64, .i .i64, .b, .i .i64, .i .i64, .i .i64, .i .i64, .i .i64, .b, .i .i64, .i .i64, .i .i64, .i .i64, .i .i64, .b, .i .i64, .i .i64, .i .i64, .i .i64, .i .i64, .b, .i .i64, .i .i64, .i .i64, .i .i64, .i .i64, .b, .i .i64, .i .i64, .i .i64, .i .i64, .i .i64, .b, .i .i64, .i .i64, .i .i64, .i .i64, .i .i64, .b, .i .i64, .i .i64, .i .i64, .i .i64, .i .i64, .b, .i .i64, .i .i64, .i .i64, .i .i64, .i .i64, .b, .i .i64, .i .i64, .i .i64, .i .i64, .i .i64, .b, .i .i64, .i .i64, .i .i64, .i .i64, .i .i64, .b, .i .i64, .i .i64, .i .i64, .i .i64, .i .i64, .b, .i .i64, .i .i64, .i .i64, .i .i64, .i .i64, .b, .i .i64, .i .i64, .i .i64, .i .i64, .i .i64, .b, .i .i64, .i .i64, .i .i64, .i .i64, .i .i64, .b, .i .i64, .i .i64, .i .i64, .i .i64, .i .i64, .b, .i .i64, .i .i64, .i .i64, .i .i64, .i .i64, .b, .i .i64, .i .i64, .i .i64, .i .i64, .i .i64, .b, .i .i64, .i .i64, .i .i64, .i .i64, .i .i64, .b, .i .i64, .i .i64, .i .i64, .i .i64, .i .i64, .b, .i .i64, .i .i64, .i .i64, .i .i64, .i .i64, .b, .i .i64, .i .i64, .i .i64, .i .i64, .i .i64, .b, .i .i64, .i .i64, .i .i64, .i .i64, .i .i64, .b, .i .i64, .i .i64, .i .i64, .i .i64, .i .i64, .b, .i .i64, .i .i64, .i .i64, .i .i64, .i .i64, .b, .i .i64, .i .i64, .i .i64, .i .i64, .i .i64, .b, .i .i64, .i .i64, .i .i64, .i .i64, .i .i64, .b, .i .i64, .i .i64, .i .i64, .i .i64, .i .i64, .b, .i .i64, .i .i64, .i .i64, .i .i64, .i .i64, .b, .i .i64, .i .i64, .i .i64, .i .i64, .i .i64, .b, .i .i64, .i .i64, .i .i64, .i .i64, .i .i64, .b, .i .i64, .i .i64, .i .i64, .i .i64, .i .i64, .i .i64, .i .i64, .i .i64, .i .i64, .i .i64, .i .i64, .i .i64, .i .i64, .i .i64, .i .i64, .i .i64, .i .i64, .i .i64, .i .i64, .i .i64, .i .i64, .i .i64, .i .i64, .i .i64, .i .i64, .i .i64, .i .i64, .i .i64, .i .i64, .i .i64, .i .i64, .i .i64, .i .i64, .i .i64, .i .i64, .i .i64, .i .i64, .i .i64, .i .i64, .i .i64, .i .i64, .i .i64, .i .i64, .i .i64, .i .i64, .i .i64, .i .i64, .i .i64, .i .i64, .i .i64, .i .i64, .i .i64, .i .i64, .i .i64, .i .i64, .i .i64, .i .i64, .i .i64, .i .i64, .i .i64, .i .i64, .i .i64, .i .i64, .i .i64, .i .i64, .i .i64, .i .i64, .i .i64, .i .i64, .i .i64, .i .i64, .i .i64, .i .i64, .i .i64, .i .i64, .i .i64, .i .i64, .i .i64, .i .i64, .i .i64, .i .i64, .i .i64, .i .i64, .i .i64, .i .i64, .i .i64, .i .i64, .i .i64, .i .i64, .i .i64, .i .i64, .i .i64, .i .i64, .i .i64, .i .i64, .i .i64, .i .i64, .i .i64, .i .i64, .i .i64, .i .i64, .i .i64, .i .i64, .i .i64, .i .i64, .i .i64, .i .i64, .i .i64, .i .i64, .i .i64, .i .i64, .i .i64, .i .i64, .i .i64, .i .i64, .i .i64, .i .i64, .i .i64, .i .i64, .i .i64, .i .i64, .i .i64, .i .i64, .i .i64, .i .i64, .i .i64, .i .i64, .i .i64, .i .i64, .i .i64, .i .i64, .i .i64, .i .i64, .i .i64, .i .i64, .i .i64, .i .i64, .i .i64]⟩,
⟨1, 8, .oth, [.nf]⟩,
⟨1, 8, .oth, [.nf]⟩,
⟨1, 0, .oth, []⟩,
⟨1, 8, .oth, [.nf]⟩,
⟨1, 8, .oth, [.nf]⟩,
⟨1, 8, .oth, [.nf]⟩,
⟨1, 8, .oth, [.nf]⟩,
⟨1, 8, .oth, [.nf]⟩,
⟨1, 0, .oth, []⟩,
⟨1, 8, .oth, [.nf]⟩,
⟨1, 8, .ptr 39, [.np]⟩,
⟨1, 8, .oth, [.nf]⟩,
⟨1, 8, .oth, [.nf]⟩,
⟨1, 0, .oth, []⟩,
⟨1, 8, .oth, [.nf]⟩,
⟨1, 8, .oth, [.nf]⟩,
⟨1, 8, .ptr 45, [.np]⟩,
⟨1, 0, .oth, []⟩,
⟨1, 8, .oth, [.nf]⟩,
⟨1, 8, .oth, [.nf]⟩,
⟨1, 24, .sl 3, [.sl]⟩,
⟨1, 8, .oth, [.nf]⟩,
⟨1, 8, .oth, [.nf]⟩,
⟨1, 8, .oth, [.nf]⟩,
⟨1, 8, .oth, [.nf]⟩,
⟨1, 0, .oth, []⟩,
⟨1, 8, .oth, [.nf]⟩,
⟨1, 8, .oth, [.nf]⟩,
⟨1, 8, .oth, [.nf]⟩,
⟨4, 40, .st [(0, 17), (1, 17), (2, 17), (3, 9)], [.np, .np, .np, .s]⟩,
⟨4, 40, .st [(0, 17), (1, 17), (2, 17), (3, 9)], [.np, .np, .np, .s]⟩,
⟨0, 0, .arr 0 16, []⟩,
⟨0, 0, .st [(0, 80)], []⟩,
⟨0, 0, .st [(0, 80)], []⟩,
⟨1, 4, .int .u32, [.i .u32]⟩,
⟨1, 1, .int .u8, [.i .u8]⟩,
⟨1, 1, .int .u8, [.i .u8]⟩,
⟨1, 8, .oth, [.nf]⟩,
⟨1, 8, .ptr 5, [.np]⟩,
⟨1, 4, .int .i32, [.i .i32]⟩,
⟨1, 4, .int .i32, [.i .i32]⟩,
⟨11, 48, .st [(0, 12), (1, 12), (2, 83), (3, 84), (4, 5), (5, 5), (6, 85), (7, 86), (8, 87), (9, 88), (10, 89)], [.i .u64, .i .u64, .i .u32, .i .u8, .i .u8, .i .u8, .i .u8, .nf, .np, .i .i32, .i .i32]⟩,
⟨11, 48, .st [(0, 12), (1, 12), (2, 83), (3, 84), (4, 5), (5, 5), (6, 85), (7, 86), (8, 87), (9, 88), (10, 89)], [.i .u64, .i .u64, .i .u32, .i .u8, .i .u8, .i .u8, .i .u8, .nf, .np, .i .i32, .i .i32]⟩,
⟨1, 8, .oth, [.np]⟩]
theorem TTok : TOk Try.prog TT := by unfold TOk; kernel_rfl
theorem mix : Try.prog.follows .mixedOrders = true := by kernel_rfl
structure S_ringref5_Thing where
  fKind : Int
  fId : Int
  fMay : Int
  fMore : Bool
  fAt : Int
def eS_ringref5_Thing (x : S_ringref5_Thing) : PV := .agg [.v (.int .i64 x.fKind), .v (.int .i64 x.fId), .v (.int .i64 x.fMay), .v (.bool x.fMore), .v (.int .i64 x.fAt)]
structure S_ringlaw5_Act where
  fKind : Int
  fP : Int
  fFd : Int
  fTo : Int
  fThing : S_ringref5_Thing
def cS_ringlaw5_Act (x : S_ringlaw5_Act) : List PV := [.v (.int .i64 x.fKind), .v (.int .i64 x.fP), .v (.int .i64 x.fFd), .v (.int .i64 x.fTo), .v (.int .i64 x.fThing.fKind), .v (.int .i64 x.fThing.fId), .v (.int .i64 x.fThing.fMay), .v (.bool x.fThing.fMore), .v (.int .i64 x.fThing.fAt)]
def eS_ringlaw5_Act (x : S_ringlaw5_Act) : PV := .agg (cS_ringlaw5_Act x)
structure S_open_Thing where
  fKind : Int
  fId : Int
  fMay : Int
  fMore : Bool
  fAt : Int
def eS_open_Thing (x : S_open_Thing) : PV := .agg [.v (.int .i64 x.fKind), .v (.int .i64 x.fId), .v (.int .i64 x.fMay), .v (.bool x.fMore), .v (.int .i64 x.fAt)]
structure S_open_file where
  fThing : S_open_Thing
  fn : Int
def eS_open_file (x : S_open_file) : PV := .agg [.v (.int .i64 x.fThing.fKind), .v (.int .i64 x.fThing.fId), .v (.int .i64 x.fThing.fMay), .v (.bool x.fThing.fMore), .v (.int .i64 x.fThing.fAt), .v (.int .i64 x.fn)]
structure S_open_Table where
  ffiles : (Fin 32 → S_open_file)
  ffds : (Fin 17 → (Fin 8 → Int))
def cS_open_Table (x : S_open_Table) : List PV := [.v (.int .i64 (((x.ffiles 0).fThing).fKind)), .v (.int .i64 (((x.ffiles 0).fThing).fId)), .v (.int .i64 (((x.ffiles 0).fThing).fMay)), .v (.bool (((x.ffiles 0).fThing).fMore)), .v (.int .i64 (((x.ffiles 0).fThing).fAt)), .v (.int .i64 ((x.ffiles 0).fn)), .v (.int .i64 (((x.ffiles 1).fThing).fKind)), .v (.int .i64 (((x.ffiles 1).fThing).fId)), .v (.int .i64 (((x.ffiles 1).fThing).fMay)), .v (.bool (((x.ffiles 1).fThing).fMore)), .v (.int .i64 (((x.ffiles 1).fThing).fAt)), .v (.int .i64 ((x.ffiles 1).fn)), .v (.int .i64 (((x.ffiles 2).fThing).fKind)), .v (.int .i64 (((x.ffiles 2).fThing).fId)), .v (.int .i64 (((x.ffiles 2).fThing).fMay)), .v (.bool (((x.ffiles 2).fThing).fMore)), .v (.int .i64 (((x.ffiles 2).fThing).fAt)), .v (.int .i64 ((x.ffiles 2).fn)), .v (.int .i64 (((x.ffiles 3).fThing).fKind)), .v (.int .i64 (((x.ffiles 3).fThing).fId)), .v (.int .i64 (((x.ffiles 3).fThing).fMay)), .v (.bool (((x.ffiles 3).fThing).fMore)), .v (.int .i64 (((x.ffiles 3).fThing).fAt)), .v (.int .i64 ((x.ffiles 3).fn)), .v (.int .i64 (((x.ffiles 4).fThing).fKind)), .v (.int .i64 (((x.ffiles 4).fThing).fId)), .v (.int .i64 (((x.ffiles 4).fThing).fMay)), .v (.bool (((x.ffiles 4).fThing).fMore)), .v (.int .i64 (((x.ffiles 4).fThing).fAt)), .v (.int .i64 ((x.ffiles 4).fn)), .v (.int .i64 (((x.ffiles 5).fThing).fKind)), .v (.int .i64 (((x.ffiles 5).fThing).fId)), .v (.int .i64 (((x.ffiles 5).fThing).fMay)), .v (.bool (((x.ffiles 5).fThing).fMore)), .v (.int .i64 (((x.ffiles 5).fThing).fAt)), .v (.int .i64 ((x.ffiles 5).fn)), .v (.int .i64 (((x.ffiles 6).fThing).fKind)), .v (.int .i64 (((x.ffiles 6).fThing).fId)), .v (.int .i64 (((x.ffiles 6).fThing).fMay)), .v (.bool (((x.ffiles 6).fThing).fMore)), .v (.int .i64 (((x.ffiles 6).fThing).fAt)), .v (.int .i64 ((x.ffiles 6).fn)), .v (.int .i64 (((x.ffiles 7).fThing).fKind)), .v (.int .i64 (((x.ffiles 7).fThing).fId)), .v (.int .i64 (((x.ffiles 7).fThing).fMay)), .v (.bool (((x.ffiles 7).fThing).fMore)), .v (.int .i64 (((x.ffiles 7).fThing).fAt)), .v (.int .i64 ((x.ffiles 7).fn)), .v (.int .i64 (((x.ffiles 8).fThing).fKind)), .v (.int .i64 (((x.ffiles 8).fThing).fId)), .v (.int .i64 (((x.ffiles 8).fThing).fMay)), .v (.bool (((x.ffiles 8).fThing).fMore)), .v (.int .i64 (((x.ffiles 8).fThing).fAt)), .v (.int .i64 ((x.ffiles 8).fn)), .v (.int .i64 (((x.ffiles 9).fThing).fKind)), .v (.int .i64 (((x.ffiles 9).fThing).fId)), .v (.int .i64 (((x.ffiles 9).fThing).fMay)), .v (.bool (((x.ffiles 9).fThing).fMore)), .v (.int .i64 (((x.ffiles 9).fThing).fAt)), .v (.int .i64 ((x.ffiles 9).fn)), .v (.int .i64 (((x.ffiles 10).fThing).fKind)), .v (.int .i64 (((x.ffiles 10).fThing).fId)), .v (.int .i64 (((x.ffiles 10).fThing).fMay)), .v (.bool (((x.ffiles 10).fThing).fMore)), .v (.int .i64 (((x.ffiles 10).fThing).fAt)), .v (.int .i64 ((x.ffiles 10).fn)), .v (.int .i64 (((x.ffiles 11).fThing).fKind)), .v (.int .i64 (((x.ffiles 11).fThing).fId)), .v (.int .i64 (((x.ffiles 11).fThing).fMay)), .v (.bool (((x.ffiles 11).fThing).fMore)), .v (.int .i64 (((x.ffiles 11).fThing).fAt)), .v (.int .i64 ((x.ffiles 11).fn)), .v (.int .i64 (((x.ffiles 12).fThing).fKind)), .v (.int .i64 (((x.ffiles 12).fThing).fId)), .v (.int .i64 (((x.ffiles 12).fThing).fMay)), .v (.bool (((x.ffiles 12).fThing).fMore)), .v (.int .i64 (((x.ffiles 12).fThing).fAt)), .v (.int .i64 ((x.ffiles 12).fn)), .v (.int .i64 (((x.ffiles 13).fThing).fKind)), .v (.int .i64 (((x.ffiles 13).fThing).fId)), .v (.int .i64 (((x.ffiles 13).fThing).fMay)), .v (.bool (((x.ffiles 13).fThing).fMore)), .v (.int .i64 (((x.ffiles 13).fThing).fAt)), .v (.int .i64 ((x.ffiles 13).fn)), .v (.int .i64 (((x.ffiles 14).fThing).fKind)), .v (.int .i64 (((x.ffiles 14).fThing).fId)), .v (.int .i64 (((x.ffiles 14).fThing).fMay)), .v (.bool (((x.ffiles 14).fThing).fMore)), .v (.int .i64 (((x.ffiles 14).fThing).fAt)), .v (.int .i64 ((x.ffiles 14).fn)), .v (.int .i64 (((x.ffiles 15).fThing).fKind)), .v (.int .i64 (((x.ffiles 15).fThing).fId)), .v (.int .i64 (((x.ffiles 15).fThing).fMay)), .v (.bool (((x.ffiles 15).fThing).fMore)), .v (.int .i64 (((x.ffiles 15).fThing).fAt)), .v (.int .i64 ((x.ffiles 15).fn)), .v (.int .i64 (((x.ffiles 16).fThing).fKind)), .v (.int .i64 (((x.ffiles 16).fThing).fId)), .v (.int .i64 (((x.ffiles 16).fThing).fMay)), .v (.bool (((x.ffiles 16).fThing).fMore)), .v (.int .i64 (((x.ffiles 16).fThing).fAt)), .v (.int .i64 ((x.ffiles 16).fn)), .v (.int .i64 (((x.ffiles 17).fThing).fKind)), .v (.int .i64 (((x.ffiles 17).fThing).fId)), .v (.int .i64 (((x.ffiles 17).fThing).fMay)), .v (.bool (((x.ffiles 17).fThing).fMore)), .v (.int .i64 (((x.ffiles 17).fThing).fAt)), .v (.int .i64 ((x.ffiles 17).fn)), .v (.int .i64 (((x.ffiles 18).fThing).fKind)), .v (.int .i64 (((x.ffiles 18).fThing).fId)), .v (.int .i64 (((x.ffiles 18).fThing).fMay)), .v (.bool (((x.ffiles 18).fThing).fMore)), .v (.int .i64 (((x.ffiles 18).fThing).fAt)), .v (.int .i64 ((x.ffiles 18).fn)), .v (.int .i64 (((x.ffiles 19).fThing).fKind)), .v (.int .i64 (((x.ffiles 19).fThing).fId)), .v (.int .i64 (((x.ffiles 19).fThing).fMay)), .v (.bool (((x.ffiles 19).fThing).fMore)), .v (.int .i64 (((x.ffiles 19).fThing).fAt)), .v (.int .i64 ((x.ffiles 19).fn)), .v (.int .i64 (((x.ffiles 20).fThing).fKind)), .v (.int .i64 (((x.ffiles 20).fThing).fId)), .v (.int .i64 (((x.ffiles 20).fThing).fMay)), .v (.bool (((x.ffiles 20).fThing).fMore)), .v (.int .i64 (((x.ffiles 20).fThing).fAt)), .v (.int .i64 ((x.ffiles 20).fn)), .v (.int .i64 (((x.ffiles 21).fThing).fKind)), .v (.int .i64 (((x.ffiles 21).fThing).fId)), .v (.int .i64 (((x.ffiles 21).fThing).fMay)), .v (.bool (((x.ffiles 21).fThing).fMore)), .v (.int .i64 (((x.ffiles 21).fThing).fAt)), .v (.int .i64 ((x.ffiles 21).fn)), .v (.int .i64 (((x.ffiles 22).fThing).fKind)), .v (.int .i64 (((x.ffiles 22).fThing).fId)), .v (.int .i64 (((x.ffiles 22).fThing).fMay)), .v (.bool (((x.ffiles 22).fThing).fMore)), .v (.int .i64 (((x.ffiles 22).fThing).fAt)), .v (.int .i64 ((x.ffiles 22).fn)), .v (.int .i64 (((x.ffiles 23).fThing).fKind)), .v (.int .i64 (((x.ffiles 23).fThing).fId)), .v (.int .i64 (((x.ffiles 23).fThing).fMay)), .v (.bool (((x.ffiles 23).fThing).fMore)), .v (.int .i64 (((x.ffiles 23).fThing).fAt)), .v (.int .i64 ((x.ffiles 23).fn)), .v (.int .i64 (((x.ffiles 24).fThing).fKind)), .v (.int .i64 (((x.ffiles 24).fThing).fId)), .v (.int .i64 (((x.ffiles 24).fThing).fMay)), .v (.bool (((x.ffiles 24).fThing).fMore)), .v (.int .i64 (((x.ffiles 24).fThing).fAt)), .v (.int .i64 ((x.ffiles 24).fn)), .v (.int .i64 (((x.ffiles 25).fThing).fKind)), .v (.int .i64 (((x.ffiles 25).fThing).fId)), .v (.int .i64 (((x.ffiles 25).fThing).fMay)), .v (.bool (((x.ffiles 25).fThing).fMore)), .v (.int .i64 (((x.ffiles 25).fThing).fAt)), .v (.int .i64 ((x.ffiles 25).fn)), .v (.int .i64 (((x.ffiles 26).fThing).fKind)), .v (.int .i64 (((x.ffiles 26).fThing).fId)), .v (.int .i64 (((x.ffiles 26).fThing).fMay)), .v (.bool (((x.ffiles 26).fThing).fMore)), .v (.int .i64 (((x.ffiles 26).fThing).fAt)), .v (.int .i64 ((x.ffiles 26).fn)), .v (.int .i64 (((x.ffiles 27).fThing).fKind)), .v (.int .i64 (((x.ffiles 27).fThing).fId)), .v (.int .i64 (((x.ffiles 27).fThing).fMay)), .v (.bool (((x.ffiles 27).fThing).fMore)), .v (.int .i64 (((x.ffiles 27).fThing).fAt)), .v (.int .i64 ((x.ffiles 27).fn)), .v (.int .i64 (((x.ffiles 28).fThing).fKind)), .v (.int .i64 (((x.ffiles 28).fThing).fId)), .v (.int .i64 (((x.ffiles 28).fThing).fMay)), .v (.bool (((x.ffiles 28).fThing).fMore)), .v (.int .i64 (((x.ffiles 28).fThing).fAt)), .v (.int .i64 ((x.ffiles 28).fn)), .v (.int .i64 (((x.ffiles 29).fThing).fKind)), .v (.int .i64 (((x.ffiles 29).fThing).fId)), .v (.int .i64 (((x.ffiles 29).fThing).fMay)), .v (.bool (((x.ffiles 29).fThing).fMore)), .v (.int .i64 (((x.ffiles 29).fThing).fAt)), .v (.int .i64 ((x.ffiles 29).fn)), .v (.int .i64 (((x.ffiles 30).fThing).fKind)), .v (.int .i64 (((x.ffiles 30).fThing).fId)), .v (.int .i64 (((x.ffiles 30).fThing).fMay)), .v (.bool (((x.ffiles 30).fThing).fMore)), .v (.int .i64 (((x.ffiles 30).fThing).fAt)), .v (.int .i64 ((x.ffiles 30).fn)), .v (.int .i64 (((x.ffiles 31).fThing).fKind)), .v (.int .i64 (((x.ffiles 31).fThing).fId)), .v (.int .i64 (((x.ffiles 31).fThing).fMay)), .v (.bool (((x.ffiles 31).fThing).fMore)), .v (.int .i64 (((x.ffiles 31).fThing).fAt)), .v (.int .i64 ((x.ffiles 31).fn)), .v (.int .i64 ((x.ffds 0) 0)), .v (.int .i64 ((x.ffds 0) 1)), .v (.int .i64 ((x.ffds 0) 2)), .v (.int .i64 ((x.ffds 0) 3)), .v (.int .i64 ((x.ffds 0) 4)), .v (.int .i64 ((x.ffds 0) 5)), .v (.int .i64 ((x.ffds 0) 6)), .v (.int .i64 ((x.ffds 0) 7)), .v (.int .i64 ((x.ffds 1) 0)), .v (.int .i64 ((x.ffds 1) 1)), .v (.int .i64 ((x.ffds 1) 2)), .v (.int .i64 ((x.ffds 1) 3)), .v (.int .i64 ((x.ffds 1) 4)), .v (.int .i64 ((x.ffds 1) 5)), .v (.int .i64 ((x.ffds 1) 6)), .v (.int .i64 ((x.ffds 1) 7)), .v (.int .i64 ((x.ffds 2) 0)), .v (.int .i64 ((x.ffds 2) 1)), .v (.int .i64 ((x.ffds 2) 2)), .v (.int .i64 ((x.ffds 2) 3)), .v (.int .i64 ((x.ffds 2) 4)), .v (.int .i64 ((x.ffds 2) 5)), .v (.int .i64 ((x.ffds 2) 6)), .v (.int .i64 ((x.ffds 2) 7)), .v (.int .i64 ((x.ffds 3) 0)), .v (.int .i64 ((x.ffds 3) 1)), .v (.int .i64 ((x.ffds 3) 2)), .v (.int .i64 ((x.ffds 3) 3)), .v (.int .i64 ((x.ffds 3) 4)), .v (.int .i64 ((x.ffds 3) 5)), .v (.int .i64 ((x.ffds 3) 6)), .v (.int .i64 ((x.ffds 3) 7)), .v (.int .i64 ((x.ffds 4) 0)), .v (.int .i64 ((x.ffds 4) 1)), .v (.int .i64 ((x.ffds 4) 2)), .v (.int .i64 ((x.ffds 4) 3)), .v (.int .i64 ((x.ffds 4) 4)), .v (.int .i64 ((x.ffds 4) 5)), .v (.int .i64 ((x.ffds 4) 6)), .v (.int .i64 ((x.ffds 4) 7)), .v (.int .i64 ((x.ffds 5) 0)), .v (.int .i64 ((x.ffds 5) 1)), .v (.int .i64 ((x.ffds 5) 2)), .v (.int .i64 ((x.ffds 5) 3)), .v (.int .i64 ((x.ffds 5) 4)), .v (.int .i64 ((x.ffds 5) 5)), .v (.int .i64 ((x.ffds 5) 6)), .v (.int .i64 ((x.ffds 5) 7)), .v (.int .i64 ((x.ffds 6) 0)), .v (.int .i64 ((x.ffds 6) 1)), .v (.int .i64 ((x.ffds 6) 2)), .v (.int .i64 ((x.ffds 6) 3)), .v (.int .i64 ((x.ffds 6) 4)), .v (.int .i64 ((x.ffds 6) 5)), .v (.int .i64 ((x.ffds 6) 6)), .v (.int .i64 ((x.ffds 6) 7)), .v (.int .i64 ((x.ffds 7) 0)), .v (.int .i64 ((x.ffds 7) 1)), .v (.int .i64 ((x.ffds 7) 2)), .v (.int .i64 ((x.ffds 7) 3)), .v (.int .i64 ((x.ffds 7) 4)), .v (.int .i64 ((x.ffds 7) 5)), .v (.int .i64 ((x.ffds 7) 6)), .v (.int .i64 ((x.ffds 7) 7)), .v (.int .i64 ((x.ffds 8) 0)), .v (.int .i64 ((x.ffds 8) 1)), .v (.int .i64 ((x.ffds 8) 2)), .v (.int .i64 ((x.ffds 8) 3)), .v (.int .i64 ((x.ffds 8) 4)), .v (.int .i64 ((x.ffds 8) 5)), .v (.int .i64 ((x.ffds 8) 6)), .v (.int .i64 ((x.ffds 8) 7)), .v (.int .i64 ((x.ffds 9) 0)), .v (.int .i64 ((x.ffds 9) 1)), .v (.int .i64 ((x.ffds 9) 2)), .v (.int .i64 ((x.ffds 9) 3)), .v (.int .i64 ((x.ffds 9) 4)), .v (.int .i64 ((x.ffds 9) 5)), .v (.int .i64 ((x.ffds 9) 6)), .v (.int .i64 ((x.ffds 9) 7)), .v (.int .i64 ((x.ffds 10) 0)), .v (.int .i64 ((x.ffds 10) 1)), .v (.int .i64 ((x.ffds 10) 2)), .v (.int .i64 ((x.ffds 10) 3)), .v (.int .i64 ((x.ffds 10) 4)), .v (.int .i64 ((x.ffds 10) 5)), .v (.int .i64 ((x.ffds 10) 6)), .v (.int .i64 ((x.ffds 10) 7)), .v (.int .i64 ((x.ffds 11) 0)), .v (.int .i64 ((x.ffds 11) 1)), .v (.int .i64 ((x.ffds 11) 2)), .v (.int .i64 ((x.ffds 11) 3)), .v (.int .i64 ((x.ffds 11) 4)), .v (.int .i64 ((x.ffds 11) 5)), .v (.int .i64 ((x.ffds 11) 6)), .v (.int .i64 ((x.ffds 11) 7)), .v (.int .i64 ((x.ffds 12) 0)), .v (.int .i64 ((x.ffds 12) 1)), .v (.int .i64 ((x.ffds 12) 2)), .v (.int .i64 ((x.ffds 12) 3)), .v (.int .i64 ((x.ffds 12) 4)), .v (.int .i64 ((x.ffds 12) 5)), .v (.int .i64 ((x.ffds 12) 6)), .v (.int .i64 ((x.ffds 12) 7)), .v (.int .i64 ((x.ffds 13) 0)), .v (.int .i64 ((x.ffds 13) 1)), .v (.int .i64 ((x.ffds 13) 2)), .v (.int .i64 ((x.ffds 13) 3)), .v (.int .i64 ((x.ffds 13) 4)), .v (.int .i64 ((x.ffds 13) 5)), .v (.int .i64 ((x.ffds 13) 6)), .v (.int .i64 ((x.ffds 13) 7)), .v (.int .i64 ((x.ffds 14) 0)), .v (.int .i64 ((x.ffds 14) 1)), .v (.int .i64 ((x.ffds 14) 2)), .v (.int .i64 ((x.ffds 14) 3)), .v (.int .i64 ((x.ffds 14) 4)), .v (.int .i64 ((x.ffds 14) 5)), .v (.int .i64 ((x.ffds 14) 6)), .v (.int .i64 ((x.ffds 14) 7)), .v (.int .i64 ((x.ffds 15) 0)), .v (.int .i64 ((x.ffds 15) 1)), .v (.int .i64 ((x.ffds 15) 2)), .v (.int .i64 ((x.ffds 15) 3)), .v (.int .i64 ((x.ffds 15) 4)), .v (.int .i64 ((x.ffds 15) 5)), .v (.int .i64 ((x.ffds 15) 6)), .v (.int .i64 ((x.ffds 15) 7)), .v (.int .i64 ((x.ffds 16) 0)), .v (.int .i64 ((x.ffds 16) 1)), .v (.int .i64 ((x.ffds 16) 2)), .v (.int .i64 ((x.ffds 16) 3)), .v (.int .i64 ((x.ffds 16) 4)), .v (.int .i64 ((x.ffds 16) 5)), .v (.int .i64 ((x.ffds 16) 6)), .v (.int .i64 ((x.ffds 16) 7))]
def eS_open_Table (x : S_open_Table) : PV := .agg (cS_open_Table x)
def cA_t46 (x : (Fin 32 → S_open_file)) : List PV := (List.ofFn x).flatMap fun a => [.v (.int .i64 a.fThing.fKind), .v (.int .i64 a.fThing.fId), .v (.int .i64 a.fThing.fMay), .v (.bool a.fThing.fMore), .v (.int .i64 a.fThing.fAt), .v (.int .i64 a.fn)]
def cA_t36 (x : (Fin 17 → (Fin 8 → Int))) : List PV := (List.ofFn x).flatMap fun a => [.v (.int .i64 (a 0)), .v (.int .i64 (a 1)), .v (.int .i64 (a 2)), .v (.int .i64 (a 3)), .v (.int .i64 (a 4)), .v (.int .i64 (a 5)), .v (.int .i64 (a 6)), .v (.int .i64 (a 7))]
structure S_ringref5_Open where
  fThings : (List S_ringref5_Thing)
  fFds : (Fin 17 → (Fin 8 → Int))
def cS_ringref5_Open (x : S_ringref5_Open) : List PV := [.sl (x.fThings.map eS_ringref5_Thing), .v (.int .i64 ((x.fFds 0) 0)), .v (.int .i64 ((x.fFds 0) 1)), .v (.int .i64 ((x.fFds 0) 2)), .v (.int .i64 ((x.fFds 0) 3)), .v (.int .i64 ((x.fFds 0) 4)), .v (.int .i64 ((x.fFds 0) 5)), .v (.int .i64 ((x.fFds 0) 6)), .v (.int .i64 ((x.fFds 0) 7)), .v (.int .i64 ((x.fFds 1) 0)), .v (.int .i64 ((x.fFds 1) 1)), .v (.int .i64 ((x.fFds 1) 2)), .v (.int .i64 ((x.fFds 1) 3)), .v (.int .i64 ((x.fFds 1) 4)), .v (.int .i64 ((x.fFds 1) 5)), .v (.int .i64 ((x.fFds 1) 6)), .v (.int .i64 ((x.fFds 1) 7)), .v (.int .i64 ((x.fFds 2) 0)), .v (.int .i64 ((x.fFds 2) 1)), .v (.int .i64 ((x.fFds 2) 2)), .v (.int .i64 ((x.fFds 2) 3)), .v (.int .i64 ((x.fFds 2) 4)), .v (.int .i64 ((x.fFds 2) 5)), .v (.int .i64 ((x.fFds 2) 6)), .v (.int .i64 ((x.fFds 2) 7)), .v (.int .i64 ((x.fFds 3) 0)), .v (.int .i64 ((x.fFds 3) 1)), .v (.int .i64 ((x.fFds 3) 2)), .v (.int .i64 ((x.fFds 3) 3)), .v (.int .i64 ((x.fFds 3) 4)), .v (.int .i64 ((x.fFds 3) 5)), .v (.int .i64 ((x.fFds 3) 6)), .v (.int .i64 ((x.fFds 3) 7)), .v (.int .i64 ((x.fFds 4) 0)), .v (.int .i64 ((x.fFds 4) 1)), .v (.int .i64 ((x.fFds 4) 2)), .v (.int .i64 ((x.fFds 4) 3)), .v (.int .i64 ((x.fFds 4) 4)), .v (.int .i64 ((x.fFds 4) 5)), .v (.int .i64 ((x.fFds 4) 6)), .v (.int .i64 ((x.fFds 4) 7)), .v (.int .i64 ((x.fFds 5) 0)), .v (.int .i64 ((x.fFds 5) 1)), .v (.int .i64 ((x.fFds 5) 2)), .v (.int .i64 ((x.fFds 5) 3)), .v (.int .i64 ((x.fFds 5) 4)), .v (.int .i64 ((x.fFds 5) 5)), .v (.int .i64 ((x.fFds 5) 6)), .v (.int .i64 ((x.fFds 5) 7)), .v (.int .i64 ((x.fFds 6) 0)), .v (.int .i64 ((x.fFds 6) 1)), .v (.int .i64 ((x.fFds 6) 2)), .v (.int .i64 ((x.fFds 6) 3)), .v (.int .i64 ((x.fFds 6) 4)), .v (.int .i64 ((x.fFds 6) 5)), .v (.int .i64 ((x.fFds 6) 6)), .v (.int .i64 ((x.fFds 6) 7)), .v (.int .i64 ((x.fFds 7) 0)), .v (.int .i64 ((x.fFds 7) 1)), .v (.int .i64 ((x.fFds 7) 2)), .v (.int .i64 ((x.fFds 7) 3)), .v (.int .i64 ((x.fFds 7) 4)), .v (.int .i64 ((x.fFds 7) 5)), .v (.int .i64 ((x.fFds 7) 6)), .v (.int .i64 ((x.fFds 7) 7)), .v (.int .i64 ((x.fFds 8) 0)), .v (.int .i64 ((x.fFds 8) 1)), .v (.int .i64 ((x.fFds 8) 2)), .v (.int .i64 ((x.fFds 8) 3)), .v (.int .i64 ((x.fFds 8) 4)), .v (.int .i64 ((x.fFds 8) 5)), .v (.int .i64 ((x.fFds 8) 6)), .v (.int .i64 ((x.fFds 8) 7)), .v (.int .i64 ((x.fFds 9) 0)), .v (.int .i64 ((x.fFds 9) 1)), .v (.int .i64 ((x.fFds 9) 2)), .v (.int .i64 ((x.fFds 9) 3)), .v (.int .i64 ((x.fFds 9) 4)), .v (.int .i64 ((x.fFds 9) 5)), .v (.int .i64 ((x.fFds 9) 6)), .v (.int .i64 ((x.fFds 9) 7)), .v (.int .i64 ((x.fFds 10) 0)), .v (.int .i64 ((x.fFds 10) 1)), .v (.int .i64 ((x.fFds 10) 2)), .v (.int .i64 ((x.fFds 10) 3)), .v (.int .i64 ((x.fFds 10) 4)), .v (.int .i64 ((x.fFds 10) 5)), .v (.int .i64 ((x.fFds 10) 6)), .v (.int .i64 ((x.fFds 10) 7)), .v (.int .i64 ((x.fFds 11) 0)), .v (.int .i64 ((x.fFds 11) 1)), .v (.int .i64 ((x.fFds 11) 2)), .v (.int .i64 ((x.fFds 11) 3)), .v (.int .i64 ((x.fFds 11) 4)), .v (.int .i64 ((x.fFds 11) 5)), .v (.int .i64 ((x.fFds 11) 6)), .v (.int .i64 ((x.fFds 11) 7)), .v (.int .i64 ((x.fFds 12) 0)), .v (.int .i64 ((x.fFds 12) 1)), .v (.int .i64 ((x.fFds 12) 2)), .v (.int .i64 ((x.fFds 12) 3)), .v (.int .i64 ((x.fFds 12) 4)), .v (.int .i64 ((x.fFds 12) 5)), .v (.int .i64 ((x.fFds 12) 6)), .v (.int .i64 ((x.fFds 12) 7)), .v (.int .i64 ((x.fFds 13) 0)), .v (.int .i64 ((x.fFds 13) 1)), .v (.int .i64 ((x.fFds 13) 2)), .v (.int .i64 ((x.fFds 13) 3)), .v (.int .i64 ((x.fFds 13) 4)), .v (.int .i64 ((x.fFds 13) 5)), .v (.int .i64 ((x.fFds 13) 6)), .v (.int .i64 ((x.fFds 13) 7)), .v (.int .i64 ((x.fFds 14) 0)), .v (.int .i64 ((x.fFds 14) 1)), .v (.int .i64 ((x.fFds 14) 2)), .v (.int .i64 ((x.fFds 14) 3)), .v (.int .i64 ((x.fFds 14) 4)), .v (.int .i64 ((x.fFds 14) 5)), .v (.int .i64 ((x.fFds 14) 6)), .v (.int .i64 ((x.fFds 14) 7)), .v (.int .i64 ((x.fFds 15) 0)), .v (.int .i64 ((x.fFds 15) 1)), .v (.int .i64 ((x.fFds 15) 2)), .v (.int .i64 ((x.fFds 15) 3)), .v (.int .i64 ((x.fFds 15) 4)), .v (.int .i64 ((x.fFds 15) 5)), .v (.int .i64 ((x.fFds 15) 6)), .v (.int .i64 ((x.fFds 15) 7)), .v (.int .i64 ((x.fFds 16) 0)), .v (.int .i64 ((x.fFds 16) 1)), .v (.int .i64 ((x.fFds 16) 2)), .v (.int .i64 ((x.fFds 16) 3)), .v (.int .i64 ((x.fFds 16) 4)), .v (.int .i64 ((x.fFds 16) 5)), .v (.int .i64 ((x.fFds 16) 6)), .v (.int .i64 ((x.fFds 16) 7))]
def eS_ringref5_Open (x : S_ringref5_Open) : PV := .agg (cS_ringref5_Open x)
def eqS_open_Thing (x y : S_open_Thing) : Bool := ((x.fKind == y.fKind) && ((x.fId == y.fId) && ((x.fMay == y.fMay) && ((x.fMore == y.fMore) && ((x.fAt == y.fAt) && true)))))
theorem eqS_open_Thing_ok (x y : S_open_Thing) : EqA Try.prog 29 [((.int .i64 x.fKind)), ((.int .i64 x.fId)), ((.int .i64 x.fMay)), ((.bool x.fMore)), ((.int .i64 x.fAt))] [((.int .i64 y.fKind)), ((.int .i64 y.fId)), ((.int .i64 y.fMay)), ((.bool y.fMore)), ((.int .i64 y.fAt))] (eqS_open_Thing x y) := eqA_of TTok (by kernel_rfl) (by kernel_rfl) (by kernel_rfl)
def eqA_8_int (x y : (Fin 8 → Int)) : Bool := (((x 0) == (y 0)) && (((x 1) == (y 1)) && (((x 2) == (y 2)) && (((x 3) == (y 3)) && (((x 4) == (y 4)) && (((x 5) == (y 5)) && (((x 6) == (y 6)) && (((x 7) == (y 7)) && true))))))))
theorem eqA_8_int_ok (x y : (Fin 8 → Int)) : EqA Try.prog 35 [((.int .i64 (x 0))), ((.int .i64 (x 1))), ((.int .i64 (x 2))), ((.int .i64 (x 3))), ((.int .i64 (x 4))), ((.int .i64 (x 5))), ((.int .i64 (x 6))), ((.int .i64 (x 7)))] [((.int .i64 (y 0))), ((.int .i64 (y 1))), ((.int .i64 (y 2))), ((.int .i64 (y 3))), ((.int .i64 (y 4))), ((.int .i64 (y 5))), ((.int .i64 (y 6))), ((.int .i64 (y 7)))] (eqA_8_int x y) := eqA_of TTok (by kernel_rfl) (by kernel_rfl) (by kernel_rfl)
/- ringhall/open.New -/
def G_open_New_h (n : Nat)  : Option (S_open_Table) :=
  some (S_open_Table.mk (fun (_ : Fin 32) => (S_open_file.mk (S_open_Thing.mk 0 0 0 false 0) 0)) (fun (_ : Fin 17) => (fun (_ : Fin 8) => 0)))
theorem G_open_New_h_ok (n : Nat)  (r : S_open_Table) (h : G_open_New_h n  = some r) : RetH Try.prog 4 [] [] (.ref 0 0) [.box ((cS_open_Table r).map FV.d)] := by
  refine retH_run (n := 3) (fn := Try.f4) (c := bodyOf Try.f4) (by kernel_rfl) (by kernel_rfl) (by kernel_rfl) (by kernel_rfl) ?_
  have hF : KC 3 (FinH Try.prog Try.f4 [] (.ref 0 0) [.box ((cS_open_Table r).map FV.d)]) := FinH.kc' (by kernel_rfl)
  unfold G_open_New_h at h
  obtain rfl := Option.some.inj h
  exact pendH_sound TTok mix 5 (hs := []) [10] (by kernel_rfl) (by kernel_rfl) (by kernel_rfl) .nil
/- ringhall/open.owner -/
def G_open_owner (n : Nat) (v_p15 : Int) : Option (Bool) :=
  if v_p15 ≥ 1 then
   some (decide (v_p15 ≤ 16))
  else
   some false
theorem G_open_owner_ok (n : Nat) (v_p15 : Int) (r : Bool) (h : G_open_owner n v_p15 = some r) : Ret Try.prog 8 [(eI .i64) v_p15] (eB r) := by
  refine ret_run (n := 9) (fn := Try.f8) (c := bodyOf Try.f8) (by kernel_rfl) (by kernel_rfl) (by kernel_rfl) (by kernel_rfl) ?_
  have hF : KC 9 (FinR Try.prog Try.f8 (eB r)) := FinR.kc' (by kernel_rfl)
  unfold G_open_owner at h
  by_cases h2 : v_p15 ≥ 1
  · rw [if_pos h2] at h
    obtain rfl := Option.some.inj h
    exact pend_sound TTok mix 5 (hs := [.t true, .c]) (by kernel_rfl) (by kernel_rfl) (by kernel_rfl) (.cons (dt h2) .nil)
  · rw [if_neg h2] at h
    obtain rfl := Option.some.inj h
    exact pend_sound TTok mix 5 (hs := [.t false, .c]) (by kernel_rfl) (by kernel_rfl) (by kernel_rfl) (.cons (df h2) .nil)
inductive G_open_Table_free_h_L1_R where
  | x0 (v_x35 : Int)
  | x1 
def G_open_Table_free_h_L1_ex : G_open_Table_free_h_L1_R → Ex
  | .x0 _ => .ret
  | .x1  => .exit 0
def G_open_Table_free_h_L1_st (v_y30 : (Fin 8 → Int)) (v_t28 : S_open_Table) : G_open_Table_free_h_L1_R → PS
  | .x0 v_x35 => ⟨(dd :: dd :: dd :: dd :: .d (.v (.int .i64 v_x35)) :: (dds 16 [])), [.gh 0 (.ref 1 0), .box ((cS_open_Table v_t28).map FV.d)]⟩
  | .x1  => ⟨(dds 21 []), [.gh 0 (.ref 1 0), .box ((cS_open_Table v_t28).map FV.d)]⟩
def G_open_Table_free_h_L1_hd (v_y30 : (Fin 8 → Int)) (v_t28 : S_open_Table) (v_x31 : Int) : PS := ⟨(dds 12 [.d (.agg [.v (.int .i64 (v_y30 0)), .v (.int .i64 (v_y30 1)), .v (.int .i64 (v_y30 2)), .v (.int .i64 (v_y30 3)), .v (.int .i64 (v_y30 4)), .v (.int .i64 (v_y30 5)), .v (.int .i64 (v_y30 6)), .v (.int .i64 (v_y30 7))]), .d (.v (.int .i64 v_x31)), dd, dd, dd, dd, dd, dd, dd]), [.gh 0 (.ref 1 0), .box ((cS_open_Table v_t28).map FV.d)]⟩
def G_open_Table_free_h_L1 (n : Nat) (v_y30 : (Fin 8 → Int)) (v_t28 : S_open_Table) : Nat → Int → Option G_open_Table_free_h_L1_R
  | 0, _ => none
  | k + 1, v_x31 =>
    if v_x31 < 8 then
     (getA v_y30 v_x31).bind fun (v_y34 : Int) =>
     if v_y34 = 0 then
      some (.x0 v_x31)
     else
      G_open_Table_free_h_L1 n v_y30 v_t28 k (wi .i64 (v_x31 + 1))
    else
     some (.x1 )
theorem G_open_Table_free_h_L1_ok {Fi : Ex → PS → Prop} (hF : KC 21 Fi) (ks : List Fr) (n : Nat) (v_y30 : (Fin 8 → Int)) (v_t28 : S_open_Table)  : ∀ (k : Nat) (v_x31 : Int) (o : G_open_Table_free_h_L1_R), G_open_Table_free_h_L1 n v_y30 v_t28 k v_x31 = some o → RunE Try.prog 21 Fi ks (G_open_Table_free_h_L1_ex o) (G_open_Table_free_h_L1_st v_y30 v_t28 o) → RunE Try.prog 21 Fi (.l k (cP (cB (cR (cL (cR (bodyOf Try.f9)))))) :: ks) .normal (G_open_Table_free_h_L1_hd v_y30 v_t28 v_x31)
  | 0, v_x31, o, h, q => by rw [G_open_Table_free_h_L1] at h; cases h
  | k + 1, v_x31, o, h, q => by
    rw [G_open_Table_free_h_L1] at h
    by_cases h21 : v_x31 < 8
    · rw [if_pos h21] at h
      obtain ⟨v_y34, h24, h⟩ := bind_some h
      by_cases h25 : v_y34 = 0
      · rw [if_pos h25] at h
        cases h
        exact pkk_sound TTok mix hF 19 (hs := [.t true, .l (.d (.v (.int .i64 v_y34))), .t true]) (ts := []) (s := [0, 1]) (l := [4]) (by kernel_rfl) (by kernel_rfl) (.cons (dt h21) (.cons (getA_ob0 (fun x => FV.d ((eI .i64) x)) h24) (.cons (bt h25) .nil))) q
      · rw [if_neg h25] at h
        exact pkk_sound TTok mix hF 16 (hs := [.t true, .l (.d (.v (.int .i64 v_y34))), .t false]) (ts := []) (s := [0, 1]) (l := [12, 13]) (by kernel_rfl) (by kernel_rfl) (.cons (dt h21) (.cons (getA_ob0 (fun x => FV.d ((eI .i64) x)) h24) (.cons (bf h25) .nil))) (G_open_Table_free_h_L1_ok hF ks n v_y30 v_t28 k (wi .i64 (v_x31 + 1)) _ h q)
    · rw [if_neg h21] at h
      cases h
      exact pkk_sound TTok mix hF 8 (hs := [.t false]) (ts := []) (s := [0, 1]) (l := []) (by kernel_rfl) (by kernel_rfl) (.cons (df h21) .nil) q
/- (*ringhall/open.Table).free -/
def G_open_Table_free_h (n : Nat) (v_t28 : S_open_Table) (v_p29 : Int) : Option (Int × S_open_Table) :=
  if 0 ≤ v_p29 ∧ v_p29 < (17 : Int) then
   (getA v_t28.ffds v_p29).bind fun (v_y30 : (Fin 8 → Int)) =>
   (G_open_Table_free_h_L1 n v_y30 v_t28 n 0).bind fun v_o36 => match v_o36 with
   | .x0 v_z37 =>
     some (v_z37, v_t28)
   | .x1  =>
     some ((-1), v_t28)
  else none
theorem G_open_Table_free_h_ok (n : Nat) (v_t28 : S_open_Table) (v_p29 : Int) (r : Int × S_open_Table) (h : G_open_Table_free_h n v_t28 v_p29 = some r) : RetH Try.prog 9 [.ref 0 0, .d ((eI .i64) v_p29)] [.box ((cS_open_Table v_t28).map FV.d)] (.d ((eI .i64) r.1)) [.box ((cS_open_Table r.2).map FV.d)] := by
  refine retH_run (n := 21) (fn := Try.f9) (c := bodyOf Try.f9) (by kernel_rfl) (by kernel_rfl) (by kernel_rfl) (by kernel_rfl) ?_
  have hF : KC 21 (FinH Try.prog Try.f9 [.box ((cS_open_Table v_t28).map FV.d)] (.d ((eI .i64) r.1)) [.box ((cS_open_Table r.2).map FV.d)]) := FinH.kc' (by kernel_rfl)
  unfold G_open_Table_free_h at h
  by_cases h19 : 0 ≤ v_p29 ∧ v_p29 < (17 : Int)
  · rw [if_pos h19] at h
    obtain ⟨v_y30, h20, h⟩ := bind_some h
    obtain ⟨v_o36, h26, h⟩ := bind_some h
    refine pkk_sound TTok mix hF 7 (hs := [.l (.d (.agg [.v (.int .i64 (v_y30 0)), .v (.int .i64 (v_y30 1)), .v (.int .i64 (v_y30 2)), .v (.int .i64 (v_y30 3)), .v (.int .i64 (v_y30 4)), .v (.int .i64 (v_y30 5)), .v (.int .i64 (v_y30 6)), .v (.int .i64 (v_y30 7))])), .n n]) (ts := []) (s := [1, 0]) (l := [12, 13]) (by kernel_rfl) (by kernel_rfl) (.cons h19 (.cons (And.intro (congrArg mkAgg (arr_take (γ := FV) (sz := 8) (g := (fun x => [.d (.v (.int .i64 (x 0))), .d (.v (.int .i64 (x 1))), .d (.v (.int .i64 (x 2))), .d (.v (.int .i64 (x 3))), .d (.v (.int .i64 (x 4))), .d (.v (.int .i64 (x 5))), .d (.v (.int .i64 (x 6))), .d (.v (.int .i64 (x 7)))])) (pre := ((cA_t46 v_t28.ffiles).map FV.d)) (post := []) (fun _ => rfl) h20).1) (arr_take (γ := FV) (sz := 8) (g := (fun x => [.d (.v (.int .i64 (x 0))), .d (.v (.int .i64 (x 1))), .d (.v (.int .i64 (x 2))), .d (.v (.int .i64 (x 3))), .d (.v (.int .i64 (x 4))), .d (.v (.int .i64 (x 5))), .d (.v (.int .i64 (x 6))), .d (.v (.int .i64 (x 7)))])) (pre := ((cA_t46 v_t28.ffiles).map FV.d)) (post := []) (fun _ => rfl) h20).2) .nil)) (G_open_Table_free_h_L1_ok hF (.b 0 :: .s (cR (cR (bodyOf Try.f9))) :: []) n v_y30 v_t28 n 0 _ h26 ?_)
    cases v_o36 with
    | x0 v_z37 =>
      try dsimp only at h
      obtain rfl := Option.some.inj h
      exact pendH_sound TTok mix 2 (hs := []) [1] (by kernel_rfl) (by kernel_rfl) (by kernel_rfl) .nil
    | x1  =>
      try dsimp only at h
      obtain rfl := Option.some.inj h
      exact pendH_sound TTok mix 4 (hs := []) [1] (by kernel_rfl) (by kernel_rfl) (by kernel_rfl) .nil
  · rw [if_neg h19] at h; cases h
inductive G_open_Table_Open_h_C1_R where
  | x0 (v_x19 : Bool)
def G_open_Table_Open_h_C1_ex : G_open_Table_Open_h_C1_R → Ex
  | .x0 _ => .normal
def G_open_Table_Open_h_C1_st (v_p13 : Int) (v_t12 : S_open_Table) (v_x14 : S_open_Thing) : G_open_Table_Open_h_C1_R → PS
  | .x0 v_x19 => ⟨(.ref 1 0 :: .d (.v (.int .i64 v_p13)) :: dd :: dd :: dd :: .ref 2 0 :: (dds 36 (.d (.v (.bool v_x19)) :: (dds 34 [])))), [.gh 0 (.ref 1 0), .box ((cS_open_Table v_t12).map FV.d), .box [.d (.v (.int .i64 v_x14.fKind)), .d (.v (.int .i64 v_x14.fId)), .d (.v (.int .i64 v_x14.fMay)), .d (.v (.bool v_x14.fMore)), .d (.v (.int .i64 v_x14.fAt))]]⟩
def G_open_Table_Open_h_C1_hd (v_p13 : Int) (v_t12 : S_open_Table) (v_x14 : S_open_Thing)  : PS := ⟨(.ref 1 0 :: .d (.v (.int .i64 v_p13)) :: dd :: dd :: dd :: .ref 2 0 :: (dds 71 [])), [.gh 0 (.ref 1 0), .box ((cS_open_Table v_t12).map FV.d), .box [.d (.v (.int .i64 v_x14.fKind)), .d (.v (.int .i64 v_x14.fId)), .d (.v (.int .i64 v_x14.fMay)), .d (.v (.bool v_x14.fMore)), .d (.v (.int .i64 v_x14.fAt))]]⟩
def G_open_Table_Open_h_C1 (n : Nat) (v_p13 : Int) (v_t12 : S_open_Table) (v_x14 : S_open_Thing) : Option G_open_Table_Open_h_C1_R :=
  (G_open_owner n v_p13).bind fun (v_r18 : (Bool)) =>
  if v_r18 = true then
   if v_x14.fKind < 1 then
    some (.x0 true)
   else
    if v_x14.fKind > 3 then
     some (.x0 true)
    else
     if v_x14.fId < 0 then
      some (.x0 true)
     else
      if v_x14.fMay < 0 then
       some (.x0 true)
      else
       if v_x14.fMay > 3 then
        some (.x0 true)
       else
        some (.x0 (decide (v_x14.fAt < 0)))
  else
   some (.x0 true)
theorem G_open_Table_Open_h_C1_ok {Fi : Ex → PS → Prop} (hF : KC 77 Fi) (ks : List Fr) (n : Nat) (v_p13 : Int) (v_t12 : S_open_Table) (v_x14 : S_open_Thing)  (o : G_open_Table_Open_h_C1_R) (h : G_open_Table_Open_h_C1 n v_p13 v_t12 v_x14 = some o) (q : RunE Try.prog 77 Fi ks (G_open_Table_Open_h_C1_ex o) (G_open_Table_Open_h_C1_st v_p13 v_t12 v_x14 o)) : RunE Try.prog 77 Fi (.s (cL (cL (cR (bodyOf Try.f5)))) :: ks) .normal (G_open_Table_Open_h_C1_hd v_p13 v_t12 v_x14) := by
  unfold G_open_Table_Open_h_C1 at h
  obtain ⟨v_r18, h10, h⟩ := bind_some h
  by_cases h11 : v_r18 = true
  · rw [if_pos h11] at h
    by_cases h12 : v_x14.fKind < 1
    · rw [if_pos h12] at h
      cases h
      exact pkk_sound TTok mix hF 1 (hs := [.r (eB v_r18), .t false, .c, .c, .c, .t true, .c, .c, .c, .c, .c, .c, .c, .c, .c, .c, .c, .c, .c, .c]) (ts := []) (s := [0, 1, 2]) (l := [0, 1, 5, 42]) (by kernel_rfl) (by kernel_rfl) (.cons (G_open_owner_ok n v_p13 _ h10) (.cons (bnf h11) (.cons (dt h12) .nil))) q
    · rw [if_neg h12] at h
      by_cases h13 : v_x14.fKind > 3
      · rw [if_pos h13] at h
        cases h
        exact pkk_sound TTok mix hF 1 (hs := [.r (eB v_r18), .t false, .c, .c, .c, .t false, .c, .c, .c, .t true, .c, .c, .c, .c, .c, .c, .c, .c, .c, .c, .c]) (ts := []) (s := [0, 1, 2]) (l := [0, 1, 5, 42]) (by kernel_rfl) (by kernel_rfl) (.cons (G_open_owner_ok n v_p13 _ h10) (.cons (bnf h11) (.cons (df h12) (.cons (dt h13) .nil)))) q
      · rw [if_neg h13] at h
        by_cases h14 : v_x14.fId < 0
        · rw [if_pos h14] at h
          cases h
          exact pkk_sound TTok mix hF 1 (hs := [.r (eB v_r18), .t false, .c, .c, .c, .t false, .c, .c, .c, .t false, .c, .c, .c, .t true, .c, .c, .c, .c, .c, .c, .c, .c]) (ts := []) (s := [0, 1, 2]) (l := [0, 1, 5, 42]) (by kernel_rfl) (by kernel_rfl) (.cons (G_open_owner_ok n v_p13 _ h10) (.cons (bnf h11) (.cons (df h12) (.cons (df h13) (.cons (dt h14) .nil))))) q
        · rw [if_neg h14] at h
          by_cases h15 : v_x14.fMay < 0
          · rw [if_pos h15] at h
            cases h
            exact pkk_sound TTok mix hF 1 (hs := [.r (eB v_r18), .t false, .c, .c, .c, .t false, .c, .c, .c, .t false, .c, .c, .c, .t false, .c, .c, .c, .t true, .c, .c, .c, .c, .c]) (ts := []) (s := [0, 1, 2]) (l := [0, 1, 5, 42]) (by kernel_rfl) (by kernel_rfl) (.cons (G_open_owner_ok n v_p13 _ h10) (.cons (bnf h11) (.cons (df h12) (.cons (df h13) (.cons (df h14) (.cons (dt h15) .nil)))))) q
          · rw [if_neg h15] at h
            by_cases h16 : v_x14.fMay > 3
            · rw [if_pos h16] at h
              cases h
              exact pkk_sound TTok mix hF 1 (hs := [.r (eB v_r18), .t false, .c, .c, .c, .t false, .c, .c, .c, .t false, .c, .c, .c, .t false, .c, .c, .c, .t false, .c, .c, .c, .t true, .c, .c]) (ts := []) (s := [0, 1, 2]) (l := [0, 1, 5, 42]) (by kernel_rfl) (by kernel_rfl) (.cons (G_open_owner_ok n v_p13 _ h10) (.cons (bnf h11) (.cons (df h12) (.cons (df h13) (.cons (df h14) (.cons (df h15) (.cons (dt h16) .nil))))))) q
            · rw [if_neg h16] at h
              cases h
              exact pkk_sound TTok mix hF 1 (hs := [.r (eB v_r18), .t false, .c, .c, .c, .t false, .c, .c, .c, .t false, .c, .c, .c, .t false, .c, .c, .c, .t false, .c, .c, .c, .t false, .c, .c, .c]) (ts := []) (s := [0, 1, 2]) (l := [0, 1, 5, 42]) (by kernel_rfl) (by kernel_rfl) (.cons (G_open_owner_ok n v_p13 _ h10) (.cons (bnf h11) (.cons (df h12) (.cons (df h13) (.cons (df h14) (.cons (df h15) (.cons (df h16) .nil))))))) q
  · rw [if_neg h11] at h
    cases h
    exact pkk_sound TTok mix hF 1 (hs := [.r (eB v_r18), .t true, .c, .c, .c, .c, .c, .c, .c, .c, .c, .c, .c, .c, .c, .c, .c, .c, .c]) (ts := []) (s := [0, 1, 2]) (l := [0, 1, 5, 42]) (by kernel_rfl) (by kernel_rfl) (.cons (G_open_owner_ok n v_p13 _ h10) (.cons (bnt (vf h11)) .nil)) q
inductive G_open_Table_Open_h_L2_R where
  | x0 (v_x55 : Int) (v_x56 : Int) (v_b57 : S_open_Table)
  | x1 
def G_open_Table_Open_h_L2_ex : G_open_Table_Open_h_L2_R → Ex
  | .x0 _ _ _ => .ret
  | .x1  => .exit 0
def G_open_Table_Open_h_L2_st (v_p13 : Int) (v_r38 : (Int × S_open_Table)) (v_x14 : S_open_Thing) : G_open_Table_Open_h_L2_R → PS
  | .x0 v_x55 v_x56 v_b57 => ⟨(dd :: dd :: dd :: dd :: dd :: dd :: .d (.v (.int .i64 v_x55)) :: .d (.v (.int .i64 v_x56)) :: (dds 69 [])), [.gh 0 (.ref 1 0), .box ((cS_open_Table v_b57).map FV.d)]⟩
  | .x1  => ⟨(dds 77 []), [.gh 0 (.ref 1 0), .box ((cS_open_Table v_r38.2).map FV.d)]⟩
def G_open_Table_Open_h_L2_hd (v_p13 : Int) (v_r38 : (Int × S_open_Table)) (v_x14 : S_open_Thing) (v_x39 : Int) : PS := ⟨(.ref 1 0 :: .d (.v (.int .i64 v_p13)) :: dd :: dd :: dd :: .ref 2 0 :: dd :: dd :: .d (.v (.int .i64 v_r38.1)) :: (dds 39 (.d (.v (.int .i64 v_x39)) :: (dds 28 [])))), [.gh 0 (.ref 1 0), .box ((cS_open_Table v_r38.2).map FV.d), .box [.d (.v (.int .i64 v_x14.fKind)), .d (.v (.int .i64 v_x14.fId)), .d (.v (.int .i64 v_x14.fMay)), .d (.v (.bool v_x14.fMore)), .d (.v (.int .i64 v_x14.fAt))]]⟩
def G_open_Table_Open_h_L2 (n : Nat) (v_p13 : Int) (v_r38 : (Int × S_open_Table)) (v_x14 : S_open_Thing) : Nat → Int → Option G_open_Table_Open_h_L2_R
  | 0, _ => none
  | k + 1, v_x39 =>
    if v_x39 < 32 then
     if 0 ≤ v_x39 ∧ v_x39 < (32 : Int) then
      (getA v_r38.2.ffiles v_x39).bind fun (v_y48 : S_open_file) =>
      if v_y48.fn = 0 then
       if 0 ≤ v_x39 ∧ v_x39 < (32 : Int) then
        (getA v_r38.2.ffiles v_x39).bind fun (v_y52 : S_open_file) =>
        if 0 ≤ v_p13 ∧ v_p13 < (17 : Int) then
         if 0 ≤ v_r38.1 ∧ v_r38.1 < (8 : Int) then
          (getA v_r38.2.ffds v_p13).bind fun (v_y53 : (Fin 8 → Int)) =>
          (getA v_y53 v_r38.1).bind fun (v_y54 : Int) =>
          some (.x0 v_r38.1 0 (S_open_Table.mk (setA v_r38.2.ffiles v_x39 (S_open_file.mk v_x14 1)) (setA v_r38.2.ffds v_p13 (setA v_y53 v_r38.1 (wi .i64 (v_x39 + 1))))))
         else none
        else none
       else none
      else
       G_open_Table_Open_h_L2 n v_p13 v_r38 v_x14 k (wi .i64 (v_x39 + 1))
     else none
    else
     some (.x1 )
theorem G_open_Table_Open_h_L2_ok {Fi : Ex → PS → Prop} (hF : KC 77 Fi) (ks : List Fr) (n : Nat) (v_p13 : Int) (v_r38 : (Int × S_open_Table)) (v_x14 : S_open_Thing)  : ∀ (k : Nat) (v_x39 : Int) (o : G_open_Table_Open_h_L2_R), G_open_Table_Open_h_L2 n v_p13 v_r38 v_x14 k v_x39 = some o → RunE Try.prog 77 Fi ks (G_open_Table_Open_h_L2_ex o) (G_open_Table_Open_h_L2_st v_p13 v_r38 v_x14 o) → RunE Try.prog 77 Fi (.l k (cP (cB (cR (cL (cR (cR (cR (cR (bodyOf Try.f5))))))))) :: ks) .normal (G_open_Table_Open_h_L2_hd v_p13 v_r38 v_x14 v_x39)
  | 0, v_x39, o, h, q => by rw [G_open_Table_Open_h_L2] at h; cases h
  | k + 1, v_x39, o, h, q => by
    rw [G_open_Table_Open_h_L2] at h
    by_cases h29 : v_x39 < 32
    · rw [if_pos h29] at h
      by_cases h46 : 0 ≤ v_x39 ∧ v_x39 < (32 : Int)
      · rw [if_pos h46] at h
        obtain ⟨v_y48, h47, h⟩ := bind_some h
        by_cases h55 : v_y48.fn = 0
        · rw [if_pos h55] at h
          by_cases h56 : 0 ≤ v_x39 ∧ v_x39 < (32 : Int)
          · rw [if_pos h56] at h
            obtain ⟨v_y52, h57, h⟩ := bind_some h
            by_cases h58 : 0 ≤ v_p13 ∧ v_p13 < (17 : Int)
            · rw [if_pos h58] at h
              by_cases h59 : 0 ≤ v_r38.1 ∧ v_r38.1 < (8 : Int)
              · rw [if_pos h59] at h
                obtain ⟨v_y53, h60, h⟩ := bind_some h
                obtain ⟨v_y54, h61, h⟩ := bind_some h
                cases h
                exact pkk_sound TTok mix hF 23 (hs := [.t true, .l (.d (.v (.int .i64 v_y48.fn))), .t true, .c, .x ((cS_open_Table (S_open_Table.mk (setA v_r38.2.ffiles v_x39 (S_open_file.mk v_x14 1)) v_r38.2.ffds)).map FV.d), .c, .x ((cS_open_Table (S_open_Table.mk (setA v_r38.2.ffiles v_x39 (S_open_file.mk v_x14 1)) (setA v_r38.2.ffds v_p13 (setA v_y53 v_r38.1 (wi .i64 (v_x39 + 1)))))).map FV.d), .c]) (ts := []) (s := [0, 1]) (l := [6, 7]) (by kernel_rfl) (by kernel_rfl) (.cons (dt h29) (.cons h46 (.cons (arr_cell (γ := FV) (sz := 6) (g := (fun x => [.d (.v (.int .i64 x.fThing.fKind)), .d (.v (.int .i64 x.fThing.fId)), .d (.v (.int .i64 x.fThing.fMay)), .d (.v (.bool x.fThing.fMore)), .d (.v (.int .i64 x.fThing.fAt)), .d (.v (.int .i64 x.fn))])) (pre := []) (post := ((cA_t36 v_r38.2.ffds).map FV.d)) (o := 5) (fun _ => rfl) h47 rfl) (.cons (bt h55) (.cons h56 (.cons (arr_store (γ := FV) (sz := 6) (g := (fun x => [.d (.v (.int .i64 x.fThing.fKind)), .d (.v (.int .i64 x.fThing.fId)), .d (.v (.int .i64 x.fThing.fMay)), .d (.v (.bool x.fThing.fMore)), .d (.v (.int .i64 x.fThing.fAt)), .d (.v (.int .i64 x.fn))])) (pre := []) (post := ((cA_t36 v_r38.2.ffds).map FV.d)) (o := 0) (y := (S_open_file.mk v_x14 1)) (zs := [.d (.v (.int .i64 v_x14.fKind)), .d (.v (.int .i64 v_x14.fId)), .d (.v (.int .i64 v_x14.fMay)), .d (.v (.bool v_x14.fMore)), .d (.v (.int .i64 v_x14.fAt)), .d (.v (.int .i64 1))]) (fun _ => rfl) h57 rfl (Nat.le_of_ble_eq_true rfl)).1 (.cons (arr_store (γ := FV) (sz := 6) (g := (fun x => [.d (.v (.int .i64 x.fThing.fKind)), .d (.v (.int .i64 x.fThing.fId)), .d (.v (.int .i64 x.fThing.fMay)), .d (.v (.bool x.fThing.fMore)), .d (.v (.int .i64 x.fThing.fAt)), .d (.v (.int .i64 x.fn))])) (pre := []) (post := ((cA_t36 v_r38.2.ffds).map FV.d)) (o := 0) (y := (S_open_file.mk v_x14 1)) (zs := [.d (.v (.int .i64 v_x14.fKind)), .d (.v (.int .i64 v_x14.fId)), .d (.v (.int .i64 v_x14.fMay)), .d (.v (.bool v_x14.fMore)), .d (.v (.int .i64 v_x14.fAt)), .d (.v (.int .i64 1))]) (fun _ => rfl) h57 rfl (Nat.le_of_ble_eq_true rfl)).2 (.cons h58 (.cons h59 (.cons (arr_store2 (γ := FV) (sz := 8) (g := (fun x => [.d (.v (.int .i64 (x 0))), .d (.v (.int .i64 (x 1))), .d (.v (.int .i64 (x 2))), .d (.v (.int .i64 (x 3))), .d (.v (.int .i64 (x 4))), .d (.v (.int .i64 (x 5))), .d (.v (.int .i64 (x 6))), .d (.v (.int .i64 (x 7)))])) (pre := ((cA_t46 (setA v_r38.2.ffiles v_x39 (S_open_file.mk v_x14 1))).map FV.d)) (post := []) (P0 := 192) (o := 0 + (v_r38.1).toNat * 1 + 0) (y := (setA v_y53 v_r38.1 (wi .i64 (v_x39 + 1)))) (zs := [.d (.v (.int .i64 (wi .i64 (v_x39 + 1))))]) rfl (fun _ => rfl) h60 (arr_store2 (γ := FV) (sz := 1) (g := (fun x => [.d (.v (.int .i64 x))])) (pre := []) (post := []) (P0 := 0) (o := 0) (y := (wi .i64 (v_x39 + 1))) (zs := [.d (.v (.int .i64 (wi .i64 (v_x39 + 1))))]) rfl (fun _ => rfl) h61 rfl (Nat.le_of_ble_eq_true rfl) (idx := 0 + (v_r38.1).toNat * 1 + 0) (by omega)).2 (arr_store2 (γ := FV) (sz := 1) (g := (fun x => [.d (.v (.int .i64 x))])) (pre := []) (post := []) (P0 := 0) (o := 0) (y := (wi .i64 (v_x39 + 1))) (zs := [.d (.v (.int .i64 (wi .i64 (v_x39 + 1))))]) rfl (fun _ => rfl) h61 rfl (Nat.le_of_ble_eq_true rfl) (idx := 0 + (v_r38.1).toNat * 1 + 0) (by omega)).1 (idx := 192 + (v_p13).toNat * 8 + (v_r38.1).toNat * 1) (by omega)).1 (.cons (arr_store2 (γ := FV) (sz := 8) (g := (fun x => [.d (.v (.int .i64 (x 0))), .d (.v (.int .i64 (x 1))), .d (.v (.int .i64 (x 2))), .d (.v (.int .i64 (x 3))), .d (.v (.int .i64 (x 4))), .d (.v (.int .i64 (x 5))), .d (.v (.int .i64 (x 6))), .d (.v (.int .i64 (x 7)))])) (pre := ((cA_t46 (setA v_r38.2.ffiles v_x39 (S_open_file.mk v_x14 1))).map FV.d)) (post := []) (P0 := 192) (o := 0 + (v_r38.1).toNat * 1 + 0) (y := (setA v_y53 v_r38.1 (wi .i64 (v_x39 + 1)))) (zs := [.d (.v (.int .i64 (wi .i64 (v_x39 + 1))))]) rfl (fun _ => rfl) h60 (arr_store2 (γ := FV) (sz := 1) (g := (fun x => [.d (.v (.int .i64 x))])) (pre := []) (post := []) (P0 := 0) (o := 0) (y := (wi .i64 (v_x39 + 1))) (zs := [.d (.v (.int .i64 (wi .i64 (v_x39 + 1))))]) rfl (fun _ => rfl) h61 rfl (Nat.le_of_ble_eq_true rfl) (idx := 0 + (v_r38.1).toNat * 1 + 0) (by omega)).2 (arr_store2 (γ := FV) (sz := 1) (g := (fun x => [.d (.v (.int .i64 x))])) (pre := []) (post := []) (P0 := 0) (o := 0) (y := (wi .i64 (v_x39 + 1))) (zs := [.d (.v (.int .i64 (wi .i64 (v_x39 + 1))))]) rfl (fun _ => rfl) h61 rfl (Nat.le_of_ble_eq_true rfl) (idx := 0 + (v_r38.1).toNat * 1 + 0) (by omega)).1 (idx := 192 + (v_p13).toNat * 8 + (v_r38.1).toNat * 1) (by omega)).2 .nil))))))))))) q
              · rw [if_neg h59] at h; cases h
            · rw [if_neg h58] at h; cases h
          · rw [if_neg h56] at h; cases h
        · rw [if_neg h55] at h
          exact pkk_sound TTok mix hF 16 (hs := [.t true, .l (.d (.v (.int .i64 v_y48.fn))), .t false]) (ts := []) (s := [0, 1, 2]) (l := [0, 1, 5, 8, 48]) (by kernel_rfl) (by kernel_rfl) (.cons (dt h29) (.cons h46 (.cons (arr_cell (γ := FV) (sz := 6) (g := (fun x => [.d (.v (.int .i64 x.fThing.fKind)), .d (.v (.int .i64 x.fThing.fId)), .d (.v (.int .i64 x.fThing.fMay)), .d (.v (.bool x.fThing.fMore)), .d (.v (.int .i64 x.fThing.fAt)), .d (.v (.int .i64 x.fn))])) (pre := []) (post := ((cA_t36 v_r38.2.ffds).map FV.d)) (o := 5) (fun _ => rfl) h47 rfl) (.cons (bf h55) .nil)))) (G_open_Table_Open_h_L2_ok hF ks n v_p13 v_r38 v_x14 k (wi .i64 (v_x39 + 1)) _ h q)
      · rw [if_neg h46] at h; cases h
    · rw [if_neg h29] at h
      cases h
      exact pkk_sound TTok mix hF 8 (hs := [.t false]) (ts := []) (s := [0, 1]) (l := []) (by kernel_rfl) (by kernel_rfl) (.cons (df h29) .nil) q
/- (*ringhall/open.Table).Open -/
def G_open_Table_Open_h (n : Nat) (v_t12 : S_open_Table) (v_p13 : Int) (v_x14 : S_open_Thing) : Option (Int × Int × S_open_Table) :=
  (G_open_Table_Open_h_C1 n v_p13 v_t12 v_x14).bind fun v_o26 => match v_o26 with
  | .x0 v_z27 =>
    if v_z27 = true then
     some (0, 1, v_t12)
    else
     (G_open_Table_free_h n v_t12 v_p13).bind fun (v_r38 : (Int × S_open_Table)) =>
     if v_r38.1 < 0 then
      some (0, 6, v_r38.2)
     else
      (G_open_Table_Open_h_L2 n v_p13 v_r38 v_x14 n 0).bind fun v_o58 => match v_o58 with
      | .x0 v_z59 v_z60 v_z61 =>
        some (v_z59, v_z60, v_z61)
      | .x1  =>
        some (0, 6, v_r38.2)
theorem G_open_Table_Open_h_ok (n : Nat) (v_t12 : S_open_Table) (v_p13 : Int) (v_x14 : S_open_Thing) (r : Int × Int × S_open_Table) (h : G_open_Table_Open_h n v_t12 v_p13 v_x14 = some r) : RetH Try.prog 5 [.ref 0 0, .d ((eI .i64) v_p13), .d (eS_open_Thing v_x14)] [.box ((cS_open_Table v_t12).map FV.d)] (.tup [.d ((eI .i64) r.1), .d ((eI .i64) r.2.1)]) [.box ((cS_open_Table r.2.2).map FV.d)] := by
  refine retH_run (n := 77) (fn := Try.f5) (c := bodyOf Try.f5) (by kernel_rfl) (by kernel_rfl) (by kernel_rfl) (by kernel_rfl) ?_
  have hF : KC 77 (FinH Try.prog Try.f5 [.box ((cS_open_Table v_t12).map FV.d)] (.tup [.d ((eI .i64) r.1), .d ((eI .i64) r.2.1)]) [.box ((cS_open_Table r.2.2).map FV.d)]) := FinH.kc' (by kernel_rfl)
  unfold G_open_Table_Open_h at h
  obtain ⟨v_o26, h17, h⟩ := bind_some h
  refine pkk_sound TTok mix hF 4 (hs := []) (ts := []) (s := [1, 0, 2]) (l := [0, 1, 5]) (by kernel_rfl) (by kernel_rfl) .nil (G_open_Table_Open_h_C1_ok hF (.s (cR (cL (cR (bodyOf Try.f5)))) :: .s (cR (cR (bodyOf Try.f5))) :: []) n v_p13 v_t12 v_x14 _ h17 ?_)
  cases v_o26 with
  | x0 v_z27 =>
    try dsimp only at h
    by_cases h18 : v_z27 = true
    · rw [if_pos h18] at h
      obtain rfl := Option.some.inj h
      exact pendH_sound TTok mix 5 (hs := [.t true]) [1] (by kernel_rfl) (by kernel_rfl) (by kernel_rfl) (.cons h18 .nil)
    · rw [if_neg h18] at h
      obtain ⟨v_r38, h27, h⟩ := bind_some h
      by_cases h28 : v_r38.1 < 0
      · rw [if_pos h28] at h
        obtain rfl := Option.some.inj h
        exact pendH_sound TTok mix 12 (hs := [.t false, .h [1] [] [.box ((cS_open_Table v_r38.2).map FV.d)] (.d (.v (.int .i64 v_r38.1))), .t true]) [1] (by kernel_rfl) (by kernel_rfl) (by kernel_rfl) (.cons (vf h18) (.cons (G_open_Table_free_h_ok n v_t12 v_p13 _ h27) (.cons (dt h28) .nil)))
      · rw [if_neg h28] at h
        obtain ⟨v_o58, h62, h⟩ := bind_some h
        refine pkk_sound TTok mix hF 14 (hs := [.t false, .h [1] [] [.box ((cS_open_Table v_r38.2).map FV.d)] (.d (.v (.int .i64 v_r38.1))), .t false, .n n]) (ts := []) (s := [0, 1, 2]) (l := [0, 1, 5, 8, 48]) (by kernel_rfl) (by kernel_rfl) (.cons (vf h18) (.cons (G_open_Table_free_h_ok n v_t12 v_p13 _ h27) (.cons (df h28) .nil))) (G_open_Table_Open_h_L2_ok hF (.b 0 :: .s (cR (cR (cR (cR (cR (bodyOf Try.f5)))))) :: []) n v_p13 v_r38 v_x14 n 0 _ h62 ?_)
        cases v_o58 with
        | x0 v_z59 v_z60 v_z61 =>
          try dsimp only at h
          obtain rfl := Option.some.inj h
          exact pendH_sound TTok mix 2 (hs := []) [1] (by kernel_rfl) (by kernel_rfl) (by kernel_rfl) .nil
        | x1  =>
          try dsimp only at h
          obtain rfl := Option.some.inj h
          exact pendH_sound TTok mix 4 (hs := []) [1] (by kernel_rfl) (by kernel_rfl) (by kernel_rfl) .nil
/- (*ringhall/open.Table).find -/
def G_open_Table_find_h (n : Nat) (v_t88 : S_open_Table) (v_p89 : Int) (v_fd90 : Int) : Option ((Option Int) × Int × S_open_Table) :=
  (G_open_owner n v_p89).bind fun (v_r91 : (Bool)) =>
  if v_r91 = true then
   if v_fd90 < 0 then
    some (none, 4, v_t88)
   else
    if v_fd90 ≥ 8 then
     some (none, 4, v_t88)
    else
     if 0 ≤ v_p89 ∧ v_p89 < (17 : Int) then
      if 0 ≤ v_fd90 ∧ v_fd90 < (8 : Int) then
       (getA v_t88.ffds v_p89).bind fun (v_y92 : (Fin 8 → Int)) =>
       (getA v_y92 v_fd90).bind fun (v_y93 : Int) =>
       if v_y93 = 0 then
        some (none, 4, v_t88)
       else
        if 0 ≤ v_p89 ∧ v_p89 < (17 : Int) then
         if 0 ≤ v_fd90 ∧ v_fd90 < (8 : Int) then
          (getA v_t88.ffds v_p89).bind fun (v_y94 : (Fin 8 → Int)) =>
          (getA v_y94 v_fd90).bind fun (v_y95 : Int) =>
          if 0 ≤ (wi .i64 (v_y95 - 1)) ∧ (wi .i64 (v_y95 - 1)) < (32 : Int) then
           some ((some (wi .i64 (v_y95 - 1))), 0, v_t88)
          else none
         else none
        else none
      else none
     else none
  else
   some (none, 1, v_t88)
theorem G_open_Table_find_h_ok (n : Nat) (v_t88 : S_open_Table) (v_p89 : Int) (v_fd90 : Int) (r : (Option Int) × Int × S_open_Table) (h : G_open_Table_find_h n v_t88 v_p89 v_fd90 = some r) : RetH Try.prog 21 [.ref 0 0, .d ((eI .i64) v_p89), .d ((eI .i64) v_fd90)] [.box ((cS_open_Table v_t88).map FV.d)] (.tup [(match r.1 with | none => .d (.v (.pointer none)) | some x => .ref 0 (0 + (x).toNat * 6)), .d ((eI .i64) r.2.1)]) [.box ((cS_open_Table r.2.2).map FV.d)] := by
  refine retH_run (n := 41) (fn := Try.f21) (c := bodyOf Try.f21) (by kernel_rfl) (by kernel_rfl) (by kernel_rfl) (by kernel_rfl) ?_
  have hF : KC 41 (FinH Try.prog Try.f21 [.box ((cS_open_Table v_t88).map FV.d)] (.tup [(match r.1 with | none => .d (.v (.pointer none)) | some x => .ref 0 (0 + (x).toNat * 6)), .d ((eI .i64) r.2.1)]) [.box ((cS_open_Table r.2.2).map FV.d)]) := FinH.kc' (by kernel_rfl)
  unfold G_open_Table_find_h at h
  obtain ⟨v_r91, h69, h⟩ := bind_some h
  by_cases h70 : v_r91 = true
  · rw [if_pos h70] at h
    by_cases h71 : v_fd90 < 0
    · rw [if_pos h71] at h
      obtain rfl := Option.some.inj h
      exact pendH_sound TTok mix 15 (hs := [.r (eB v_r91), .t false, .t true, .c, .c, .c, .c, .c, .c, .c, .c, .c, .c, .c]) [0] (by kernel_rfl) (by kernel_rfl) (by kernel_rfl) (.cons (G_open_owner_ok n v_p89 _ h69) (.cons (bnf h70) (.cons (dt h71) .nil)))
    · rw [if_neg h71] at h
      by_cases h72 : v_fd90 ≥ 8
      · rw [if_pos h72] at h
        obtain rfl := Option.some.inj h
        exact pendH_sound TTok mix 15 (hs := [.r (eB v_r91), .t false, .t false, .c, .t true, .c, .c, .c, .c, .c, .c, .c, .c, .c]) [0] (by kernel_rfl) (by kernel_rfl) (by kernel_rfl) (.cons (G_open_owner_ok n v_p89 _ h69) (.cons (bnf h70) (.cons (df h71) (.cons (dt h72) .nil))))
      · rw [if_neg h72] at h
        by_cases h73 : 0 ≤ v_p89 ∧ v_p89 < (17 : Int)
        · rw [if_pos h73] at h
          by_cases h74 : 0 ≤ v_fd90 ∧ v_fd90 < (8 : Int)
          · rw [if_pos h74] at h
            obtain ⟨v_y92, h75, h⟩ := bind_some h
            obtain ⟨v_y93, h76, h⟩ := bind_some h
            by_cases h77 : v_y93 = 0
            · rw [if_pos h77] at h
              obtain rfl := Option.some.inj h
              exact pendH_sound TTok mix 15 (hs := [.r (eB v_r91), .t false, .t false, .c, .t false, .c, .c, .c, .c, .c, .c, .c, .l (.d (.v (.int .i64 v_y93))), .c, .t true]) [0] (by kernel_rfl) (by kernel_rfl) (by kernel_rfl) (.cons (G_open_owner_ok n v_p89 _ h69) (.cons (bnf h70) (.cons (df h71) (.cons (df h72) (.cons h73 (.cons h74 (.cons (arr_cell2 (γ := FV) (sz := 8) (g := (fun x => [.d (.v (.int .i64 (x 0))), .d (.v (.int .i64 (x 1))), .d (.v (.int .i64 (x 2))), .d (.v (.int .i64 (x 3))), .d (.v (.int .i64 (x 4))), .d (.v (.int .i64 (x 5))), .d (.v (.int .i64 (x 6))), .d (.v (.int .i64 (x 7)))])) (pre := ((cA_t46 v_t88.ffiles).map FV.d)) (post := []) (P0 := 192) (o := 0 + (v_fd90).toNat * 1 + 0) rfl (fun _ => rfl) h75 (arr_cell2 (γ := FV) (sz := 1) (g := (fun x => [.d (.v (.int .i64 x))])) (pre := []) (post := []) (P0 := 0) (o := 0) rfl (fun _ => rfl) h76 rfl (idx := 0 + (v_fd90).toNat * 1 + 0) (by omega)) (idx := 192 + (v_p89).toNat * 8 + (v_fd90).toNat * 1) (by omega)) (.cons (bt h77) .nil))))))))
            · rw [if_neg h77] at h
              by_cases h78 : 0 ≤ v_p89 ∧ v_p89 < (17 : Int)
              · rw [if_pos h78] at h
                by_cases h79 : 0 ≤ v_fd90 ∧ v_fd90 < (8 : Int)
                · rw [if_pos h79] at h
                  obtain ⟨v_y94, h80, h⟩ := bind_some h
                  obtain ⟨v_y95, h81, h⟩ := bind_some h
                  by_cases h82 : 0 ≤ (wi .i64 (v_y95 - 1)) ∧ (wi .i64 (v_y95 - 1)) < (32 : Int)
                  · rw [if_pos h82] at h
                    obtain rfl := Option.some.inj h
                    exact pendH_sound TTok mix 15 (hs := [.r (eB v_r91), .t false, .t false, .c, .t false, .c, .c, .c, .c, .c, .c, .c, .l (.d (.v (.int .i64 v_y93))), .c, .t false, .l (.d (.v (.int .i64 v_y95)))]) [0] (by kernel_rfl) (by kernel_rfl) (by kernel_rfl) (.cons (G_open_owner_ok n v_p89 _ h69) (.cons (bnf h70) (.cons (df h71) (.cons (df h72) (.cons h73 (.cons h74 (.cons (arr_cell2 (γ := FV) (sz := 8) (g := (fun x => [.d (.v (.int .i64 (x 0))), .d (.v (.int .i64 (x 1))), .d (.v (.int .i64 (x 2))), .d (.v (.int .i64 (x 3))), .d (.v (.int .i64 (x 4))), .d (.v (.int .i64 (x 5))), .d (.v (.int .i64 (x 6))), .d (.v (.int .i64 (x 7)))])) (pre := ((cA_t46 v_t88.ffiles).map FV.d)) (post := []) (P0 := 192) (o := 0 + (v_fd90).toNat * 1 + 0) rfl (fun _ => rfl) h75 (arr_cell2 (γ := FV) (sz := 1) (g := (fun x => [.d (.v (.int .i64 x))])) (pre := []) (post := []) (P0 := 0) (o := 0) rfl (fun _ => rfl) h76 rfl (idx := 0 + (v_fd90).toNat * 1 + 0) (by omega)) (idx := 192 + (v_p89).toNat * 8 + (v_fd90).toNat * 1) (by omega)) (.cons (bf h77) (.cons h78 (.cons h79 (.cons (arr_cell2 (γ := FV) (sz := 8) (g := (fun x => [.d (.v (.int .i64 (x 0))), .d (.v (.int .i64 (x 1))), .d (.v (.int .i64 (x 2))), .d (.v (.int .i64 (x 3))), .d (.v (.int .i64 (x 4))), .d (.v (.int .i64 (x 5))), .d (.v (.int .i64 (x 6))), .d (.v (.int .i64 (x 7)))])) (pre := ((cA_t46 v_t88.ffiles).map FV.d)) (post := []) (P0 := 192) (o := 0 + (v_fd90).toNat * 1 + 0) rfl (fun _ => rfl) h80 (arr_cell2 (γ := FV) (sz := 1) (g := (fun x => [.d (.v (.int .i64 x))])) (pre := []) (post := []) (P0 := 0) (o := 0) rfl (fun _ => rfl) h81 rfl (idx := 0 + (v_fd90).toNat * 1 + 0) (by omega)) (idx := 192 + (v_p89).toNat * 8 + (v_fd90).toNat * 1) (by omega)) (.cons h82 .nil))))))))))))
                  · rw [if_neg h82] at h; cases h
                · rw [if_neg h79] at h; cases h
              · rw [if_neg h78] at h; cases h
          · rw [if_neg h74] at h; cases h
        · rw [if_neg h73] at h; cases h
  · rw [if_neg h70] at h
    obtain rfl := Option.some.inj h
    exact pendH_sound TTok mix 10 (hs := [.r (eB v_r91), .t true]) [0] (by kernel_rfl) (by kernel_rfl) (by kernel_rfl) (.cons (G_open_owner_ok n v_p89 _ h69) (.cons (bnt (vf h70)) .nil))
/- (*ringhall/open.Table).Close -/
def G_open_Table_Close_h (n : Nat) (v_t85 : S_open_Table) (v_p86 : Int) (v_fd87 : Int) : Option (S_open_Thing × Bool × Int × S_open_Table) :=
  (G_open_Table_find_h n v_t85 v_p86 v_fd87).bind fun (v_r96 : (Option Int) × Int × S_open_Table) => match v_r96 with
  | (none, v_r96_1, v_r96_2) =>
    if v_r96_1 = 0 then
     if 0 ≤ v_p86 ∧ v_p86 < (17 : Int) then
      if 0 ≤ v_fd87 ∧ v_fd87 < (8 : Int) then
       (getA v_r96_2.ffds v_p86).bind fun (v_y97 : (Fin 8 → Int)) =>
       (getA v_y97 v_fd87).bind fun (v_y98 : Int) =>
       none
      else none
     else none
    else
     some ((S_open_Thing.mk 0 0 0 false 0), false, v_r96_1, v_r96_2)
  | (some v_r96_0, v_r96_1, v_r96_2) =>
    if v_r96_1 = 0 then
     if 0 ≤ v_p86 ∧ v_p86 < (17 : Int) then
      if 0 ≤ v_fd87 ∧ v_fd87 < (8 : Int) then
       (getA v_r96_2.ffds v_p86).bind fun (v_y99 : (Fin 8 → Int)) =>
       (getA v_y99 v_fd87).bind fun (v_y100 : Int) =>
       (getA v_r96_2.ffiles v_r96_0).bind fun (v_y101 : S_open_file) =>
       (getA v_r96_2.ffiles v_r96_0).bind fun (v_y102 : S_open_file) =>
       (getA (setA v_r96_2.ffiles v_r96_0 (S_open_file.mk v_y102.fThing (wi .i64 (v_y101.fn - 1)))) v_r96_0).bind fun (v_y103 : S_open_file) =>
       (getA (setA v_r96_2.ffiles v_r96_0 (S_open_file.mk v_y102.fThing (wi .i64 (v_y101.fn - 1)))) v_r96_0).bind fun (v_y104 : S_open_file) =>
       some (v_y103.fThing, (v_y104.fn == 0), 0, (S_open_Table.mk (setA v_r96_2.ffiles v_r96_0 (S_open_file.mk v_y102.fThing (wi .i64 (v_y101.fn - 1)))) (setA v_r96_2.ffds v_p86 (setA v_y99 v_fd87 0))))
      else none
     else none
    else
     some ((S_open_Thing.mk 0 0 0 false 0), false, v_r96_1, v_r96_2)
theorem G_open_Table_Close_h_ok (n : Nat) (v_t85 : S_open_Table) (v_p86 : Int) (v_fd87 : Int) (r : S_open_Thing × Bool × Int × S_open_Table) (h : G_open_Table_Close_h n v_t85 v_p86 v_fd87 = some r) : RetH Try.prog 10 [.ref 0 0, .d ((eI .i64) v_p86), .d ((eI .i64) v_fd87)] [.box ((cS_open_Table v_t85).map FV.d)] (.tup [.d (eS_open_Thing r.1), .d (eB r.2.1), .d ((eI .i64) r.2.2.1)]) [.box ((cS_open_Table r.2.2.2).map FV.d)] := by
  refine retH_run (n := 45) (fn := Try.f10) (c := bodyOf Try.f10) (by kernel_rfl) (by kernel_rfl) (by kernel_rfl) (by kernel_rfl) ?_
  have hF : KC 45 (FinH Try.prog Try.f10 [.box ((cS_open_Table v_t85).map FV.d)] (.tup [.d (eS_open_Thing r.1), .d (eB r.2.1), .d ((eI .i64) r.2.2.1)]) [.box ((cS_open_Table r.2.2.2).map FV.d)]) := FinH.kc' (by kernel_rfl)
  unfold G_open_Table_Close_h at h
  obtain ⟨v_r96, h83, h⟩ := bind_some h
  match v_r96, h83, h with
  | (none, v_r96_1, v_r96_2), h83, h =>
    try dsimp only at h
    by_cases h84 : v_r96_1 = 0
    · rw [if_pos h84] at h
      by_cases h85 : 0 ≤ v_p86 ∧ v_p86 < (17 : Int)
      · rw [if_pos h85] at h
        by_cases h86 : 0 ≤ v_fd87 ∧ v_fd87 < (8 : Int)
        · rw [if_pos h86] at h
          obtain ⟨v_y97, h87, h⟩ := bind_some h
          obtain ⟨v_y98, h88, h⟩ := bind_some h
          cases h
        · rw [if_neg h86] at h; cases h
      · rw [if_neg h85] at h; cases h
    · rw [if_neg h84] at h
      obtain rfl := Option.some.inj h
      exact pendH_sound TTok mix 12 (hs := [.h [0] [] [.box ((cS_open_Table v_r96_2).map FV.d)] (.tup [.d (.v (.pointer none)), .d (.v (.int .i64 v_r96_1))]), .t true, .c]) [0] (by kernel_rfl) (by kernel_rfl) (by kernel_rfl) (.cons (G_open_Table_find_h_ok n v_t85 v_p86 v_fd87 _ h83) (.cons (nt h84) (.cons (show 0 + 5 ≤ 5 by decide) .nil)))
  | (some v_r96_0, v_r96_1, v_r96_2), h83, h =>
    try dsimp only at h
    by_cases h90 : v_r96_1 = 0
    · rw [if_pos h90] at h
      by_cases h91 : 0 ≤ v_p86 ∧ v_p86 < (17 : Int)
      · rw [if_pos h91] at h
        by_cases h92 : 0 ≤ v_fd87 ∧ v_fd87 < (8 : Int)
        · rw [if_pos h92] at h
          obtain ⟨v_y99, h93, h⟩ := bind_some h
          obtain ⟨v_y100, h94, h⟩ := bind_some h
          obtain ⟨v_y101, h95, h⟩ := bind_some h
          obtain ⟨v_y102, h96, h⟩ := bind_some h
          obtain ⟨v_y103, h97, h⟩ := bind_some h
          obtain ⟨v_y104, h98, h⟩ := bind_some h
          obtain rfl := Option.some.inj h
          exact pendH_sound TTok mix 16 (hs := [.h [0] [] [.box ((cS_open_Table v_r96_2).map FV.d)] (.tup [.ref 0 (0 + (v_r96_0).toNat * 6), .d (.v (.int .i64 v_r96_1))]), .t false, .x ((cS_open_Table (S_open_Table.mk v_r96_2.ffiles (setA v_r96_2.ffds v_p86 (setA v_y99 v_fd87 0)))).map FV.d), .c, .l (.d (.v (.int .i64 v_y101.fn))), .x ((cS_open_Table (S_open_Table.mk (setA v_r96_2.ffiles v_r96_0 (S_open_file.mk v_y102.fThing (wi .i64 (v_y101.fn - 1)))) (setA v_r96_2.ffds v_p86 (setA v_y99 v_fd87 0)))).map FV.d), .c, .l (.d (.agg [.v (.int .i64 v_y103.fThing.fKind), .v (.int .i64 v_y103.fThing.fId), .v (.int .i64 v_y103.fThing.fMay), .v (.bool v_y103.fThing.fMore), .v (.int .i64 v_y103.fThing.fAt)])), .l (.d (.v (.int .i64 v_y104.fn))), .c]) [0] (by kernel_rfl) (by kernel_rfl) (by kernel_rfl) (.cons (G_open_Table_find_h_ok n v_t85 v_p86 v_fd87 _ h83) (.cons (nf h90) (.cons h91 (.cons h92 (.cons (arr_store2 (γ := FV) (sz := 8) (g := (fun x => [.d (.v (.int .i64 (x 0))), .d (.v (.int .i64 (x 1))), .d (.v (.int .i64 (x 2))), .d (.v (.int .i64 (x 3))), .d (.v (.int .i64 (x 4))), .d (.v (.int .i64 (x 5))), .d (.v (.int .i64 (x 6))), .d (.v (.int .i64 (x 7)))])) (pre := ((cA_t46 v_r96_2.ffiles).map FV.d)) (post := []) (P0 := 192) (o := 0 + (v_fd87).toNat * 1 + 0) (y := (setA v_y99 v_fd87 0)) (zs := [.d (.v (.int .i64 0))]) rfl (fun _ => rfl) h93 (arr_store2 (γ := FV) (sz := 1) (g := (fun x => [.d (.v (.int .i64 x))])) (pre := []) (post := []) (P0 := 0) (o := 0) (y := 0) (zs := [.d (.v (.int .i64 0))]) rfl (fun _ => rfl) h94 rfl (Nat.le_of_ble_eq_true rfl) (idx := 0 + (v_fd87).toNat * 1 + 0) (by omega)).2 (arr_store2 (γ := FV) (sz := 1) (g := (fun x => [.d (.v (.int .i64 x))])) (pre := []) (post := []) (P0 := 0) (o := 0) (y := 0) (zs := [.d (.v (.int .i64 0))]) rfl (fun _ => rfl) h94 rfl (Nat.le_of_ble_eq_true rfl) (idx := 0 + (v_fd87).toNat * 1 + 0) (by omega)).1 (idx := 192 + (v_p86).toNat * 8 + (v_fd87).toNat * 1) (by omega)).1 (.cons (arr_store2 (γ := FV) (sz := 8) (g := (fun x => [.d (.v (.int .i64 (x 0))), .d (.v (.int .i64 (x 1))), .d (.v (.int .i64 (x 2))), .d (.v (.int .i64 (x 3))), .d (.v (.int .i64 (x 4))), .d (.v (.int .i64 (x 5))), .d (.v (.int .i64 (x 6))), .d (.v (.int .i64 (x 7)))])) (pre := ((cA_t46 v_r96_2.ffiles).map FV.d)) (post := []) (P0 := 192) (o := 0 + (v_fd87).toNat * 1 + 0) (y := (setA v_y99 v_fd87 0)) (zs := [.d (.v (.int .i64 0))]) rfl (fun _ => rfl) h93 (arr_store2 (γ := FV) (sz := 1) (g := (fun x => [.d (.v (.int .i64 x))])) (pre := []) (post := []) (P0 := 0) (o := 0) (y := 0) (zs := [.d (.v (.int .i64 0))]) rfl (fun _ => rfl) h94 rfl (Nat.le_of_ble_eq_true rfl) (idx := 0 + (v_fd87).toNat * 1 + 0) (by omega)).2 (arr_store2 (γ := FV) (sz := 1) (g := (fun x => [.d (.v (.int .i64 x))])) (pre := []) (post := []) (P0 := 0) (o := 0) (y := 0) (zs := [.d (.v (.int .i64 0))]) rfl (fun _ => rfl) h94 rfl (Nat.le_of_ble_eq_true rfl) (idx := 0 + (v_fd87).toNat * 1 + 0) (by omega)).1 (idx := 192 + (v_p86).toNat * 8 + (v_fd87).toNat * 1) (by omega)).2 (.cons (arr_cell (γ := FV) (sz := 6) (g := (fun x => [.d (.v (.int .i64 x.fThing.fKind)), .d (.v (.int .i64 x.fThing.fId)), .d (.v (.int .i64 x.fThing.fMay)), .d (.v (.bool x.fThing.fMore)), .d (.v (.int .i64 x.fThing.fAt)), .d (.v (.int .i64 x.fn))])) (pre := []) (post := ((cA_t36 (setA v_r96_2.ffds v_p86 (setA v_y99 v_fd87 0))).map FV.d)) (o := 5) (fun _ => rfl) h95 rfl) (.cons (arr_store (γ := FV) (sz := 6) (g := (fun x => [.d (.v (.int .i64 x.fThing.fKind)), .d (.v (.int .i64 x.fThing.fId)), .d (.v (.int .i64 x.fThing.fMay)), .d (.v (.bool x.fThing.fMore)), .d (.v (.int .i64 x.fThing.fAt)), .d (.v (.int .i64 x.fn))])) (pre := []) (post := ((cA_t36 (setA v_r96_2.ffds v_p86 (setA v_y99 v_fd87 0))).map FV.d)) (o := 5) (y := (S_open_file.mk v_y102.fThing (wi .i64 (v_y101.fn - 1)))) (zs := [.d (.v (.int .i64 (wi .i64 (v_y101.fn - 1))))]) (fun _ => rfl) h96 rfl (Nat.le_of_ble_eq_true rfl)).1 (.cons (arr_store (γ := FV) (sz := 6) (g := (fun x => [.d (.v (.int .i64 x.fThing.fKind)), .d (.v (.int .i64 x.fThing.fId)), .d (.v (.int .i64 x.fThing.fMay)), .d (.v (.bool x.fThing.fMore)), .d (.v (.int .i64 x.fThing.fAt)), .d (.v (.int .i64 x.fn))])) (pre := []) (post := ((cA_t36 (setA v_r96_2.ffds v_p86 (setA v_y99 v_fd87 0))).map FV.d)) (o := 5) (y := (S_open_file.mk v_y102.fThing (wi .i64 (v_y101.fn - 1)))) (zs := [.d (.v (.int .i64 (wi .i64 (v_y101.fn - 1))))]) (fun _ => rfl) h96 rfl (Nat.le_of_ble_eq_true rfl)).2 (.cons (And.intro (congrArg mkAgg (arr_part2 (γ := FV) (sz := 6) (g := (fun x => [.d (.v (.int .i64 x.fThing.fKind)), .d (.v (.int .i64 x.fThing.fId)), .d (.v (.int .i64 x.fThing.fMay)), .d (.v (.bool x.fThing.fMore)), .d (.v (.int .i64 x.fThing.fAt)), .d (.v (.int .i64 x.fn))])) (pre := []) (post := ((cA_t36 (setA v_r96_2.ffds v_p86 (setA v_y99 v_fd87 0))).map FV.d)) (P0 := 0) (o := 0) (k := 5) rfl (fun _ => rfl) h97 (Nat.le_of_ble_eq_true rfl) (idx := (0 + (v_r96_0).toNat * 6)) (by omega)).1) (arr_part2 (γ := FV) (sz := 6) (g := (fun x => [.d (.v (.int .i64 x.fThing.fKind)), .d (.v (.int .i64 x.fThing.fId)), .d (.v (.int .i64 x.fThing.fMay)), .d (.v (.bool x.fThing.fMore)), .d (.v (.int .i64 x.fThing.fAt)), .d (.v (.int .i64 x.fn))])) (pre := []) (post := ((cA_t36 (setA v_r96_2.ffds v_p86 (setA v_y99 v_fd87 0))).map FV.d)) (P0 := 0) (o := 0) (k := 5) rfl (fun _ => rfl) h97 (Nat.le_of_ble_eq_true rfl) (idx := (0 + (v_r96_0).toNat * 6)) (by omega)).2) (.cons (arr_cell (γ := FV) (sz := 6) (g := (fun x => [.d (.v (.int .i64 x.fThing.fKind)), .d (.v (.int .i64 x.fThing.fId)), .d (.v (.int .i64 x.fThing.fMay)), .d (.v (.bool x.fThing.fMore)), .d (.v (.int .i64 x.fThing.fAt)), .d (.v (.int .i64 x.fn))])) (pre := []) (post := ((cA_t36 (setA v_r96_2.ffds v_p86 (setA v_y99 v_fd87 0))).map FV.d)) (o := 5) (fun _ => rfl) h98 rfl) (.cons (show 0 + 5 ≤ 5 by decide) .nil))))))))))))
        · rw [if_neg h92] at h; cases h
      · rw [if_neg h91] at h; cases h
    · rw [if_neg h90] at h
      obtain rfl := Option.some.inj h
      exact pendH_sound TTok mix 12 (hs := [.h [0] [] [.box ((cS_open_Table v_r96_2).map FV.d)] (.tup [.ref 0 (0 + (v_r96_0).toNat * 6), .d (.v (.int .i64 v_r96_1))]), .t true, .c]) [0] (by kernel_rfl) (by kernel_rfl) (by kernel_rfl) (.cons (G_open_Table_find_h_ok n v_t85 v_p86 v_fd87 _ h83) (.cons (nt h90) (.cons (show 0 + 5 ≤ 5 by decide) .nil)))
inductive G_open_Table_Drop_h_C2_R where
  | x0 (v_b132 : S_open_Table) (v_w133 : (List S_open_Thing))
def G_open_Table_Drop_h_C2_ex : G_open_Table_Drop_h_C2_R → Ex
  | .x0 _ _ => .normal
def G_open_Table_Drop_h_C2_st (v_p80 : Int) (v_x121 : Int) (v_b122 : S_open_Table) (v_w123 : (List S_open_Thing)) : G_open_Table_Drop_h_C2_R → PS
  | .x0 v_b132 v_w133 => ⟨(.ref 1 0 :: .d (.v (.int .i64 v_p80)) :: dd :: dd :: dd :: dd :: .srf 2 :: dd :: dd :: dd :: dd :: dd :: dd :: dd :: .d (.v (.int .i64 v_x121)) :: (dds 21 [])), [.gh 0 (.ref 1 0), .box ((cS_open_Table v_b132).map FV.d), .row 29 5 (v_w133.map eS_open_Thing)]⟩
def G_open_Table_Drop_h_C2_hd (v_p80 : Int) (v_x121 : Int) (v_b122 : S_open_Table) (v_w123 : (List S_open_Thing))  : PS := ⟨(.ref 1 0 :: .d (.v (.int .i64 v_p80)) :: dd :: dd :: dd :: dd :: .srf 2 :: dd :: dd :: dd :: dd :: dd :: dd :: dd :: .d (.v (.int .i64 v_x121)) :: (dds 21 [])), [.gh 0 (.ref 1 0), .box ((cS_open_Table v_b122).map FV.d), .row 29 5 (v_w123.map eS_open_Thing)]⟩
def G_open_Table_Drop_h_C2 (n : Nat) (v_p80 : Int) (v_x121 : Int) (v_b122 : S_open_Table) (v_w123 : (List S_open_Thing)) : Option G_open_Table_Drop_h_C2_R :=
  (G_open_Table_Close_h n v_b122 v_p80 v_x121).bind fun (v_r129 : (S_open_Thing × Bool × Int × S_open_Table)) =>
  if v_r129.2.2.1 = 0 then
   if v_r129.2.1 = true then
    (app 40 v_w123 ([v_r129.1])).bind fun (v_a131 : (List S_open_Thing)) =>
    some (.x0 v_r129.2.2.2 v_a131)
   else
    some (.x0 v_r129.2.2.2 v_w123)
  else
   some (.x0 v_r129.2.2.2 v_w123)
theorem G_open_Table_Drop_h_C2_ok {Fi : Ex → PS → Prop} (hF : KC 36 Fi) (ks : List Fr) (n : Nat) (v_p80 : Int) (v_x121 : Int) (v_b122 : S_open_Table) (v_w123 : (List S_open_Thing))  (o : G_open_Table_Drop_h_C2_R) (h : G_open_Table_Drop_h_C2 n v_p80 v_x121 v_b122 v_w123 = some o) (q : RunE Try.prog 36 Fi ks (G_open_Table_Drop_h_C2_ex o) (G_open_Table_Drop_h_C2_st v_p80 v_x121 v_b122 v_w123 o)) : RunE Try.prog 36 Fi (.s (cL (cR (cR (cP (cB (cR (cL (cR (cR (cR (bodyOf Try.f6))))))))))) :: ks) .normal (G_open_Table_Drop_h_C2_hd v_p80 v_x121 v_b122 v_w123) := by
  unfold G_open_Table_Drop_h_C2 at h
  obtain ⟨v_r129, h119, h⟩ := bind_some h
  by_cases h120 : v_r129.2.2.1 = 0
  · rw [if_pos h120] at h
    by_cases h123 : v_r129.2.1 = true
    · rw [if_pos h123] at h
      obtain ⟨v_a131, h124, h⟩ := bind_some h
      cases h
      exact pkk_sound TTok mix hF 10 (hs := [.h [1] [] [.box ((cS_open_Table v_r129.2.2.2).map FV.d)] (.tup [.d (.agg [.v (.int .i64 v_r129.1.fKind), .v (.int .i64 v_r129.1.fId), .v (.int .i64 v_r129.1.fMay), .v (.bool v_r129.1.fMore), .v (.int .i64 v_r129.1.fAt)]), .d (.v (.bool v_r129.2.1)), .d (.v (.int .i64 v_r129.2.2.1))]), .c, .t true, .t true, .c, .bd, .w (v_a131.map eS_open_Thing)]) (ts := []) (s := [0, 1, 113]) (l := [0, 1, 6, 14]) (by kernel_rfl) (by kernel_rfl) (.cons (G_open_Table_Close_h_ok n v_b122 v_p80 v_x121 _ h119) (.cons (show 0 + 5 ≤ 5 by decide) (.cons (bt h120) (.cons h123 (.cons (app_ob (f := eS_open_Thing) (s := 5) h124 (fun _ => rfl)).1 (.cons (app_ob (f := eS_open_Thing) (s := 5) h124 (fun _ => rfl)).2.1 (.cons (app_ob (f := eS_open_Thing) (s := 5) h124 (fun _ => rfl)).2.2.1 (.cons (app_ob (f := eS_open_Thing) (s := 5) h124 (fun _ => rfl)).2.2.2 .nil)))))))) q
    · rw [if_neg h123] at h
      cases h
      exact pkk_sound TTok mix hF 10 (hs := [.h [1] [] [.box ((cS_open_Table v_r129.2.2.2).map FV.d)] (.tup [.d (.agg [.v (.int .i64 v_r129.1.fKind), .v (.int .i64 v_r129.1.fId), .v (.int .i64 v_r129.1.fMay), .v (.bool v_r129.1.fMore), .v (.int .i64 v_r129.1.fAt)]), .d (.v (.bool v_r129.2.1)), .d (.v (.int .i64 v_r129.2.2.1))]), .c, .t true, .t false]) (ts := []) (s := [0, 1, 2]) (l := [0, 1, 6, 14]) (by kernel_rfl) (by kernel_rfl) (.cons (G_open_Table_Close_h_ok n v_b122 v_p80 v_x121 _ h119) (.cons (show 0 + 5 ≤ 5 by decide) (.cons (bt h120) (.cons (vf h123) .nil)))) q
  · rw [if_neg h120] at h
    cases h
    exact pkk_sound TTok mix hF 10 (hs := [.h [1] [] [.box ((cS_open_Table v_r129.2.2.2).map FV.d)] (.tup [.d (.agg [.v (.int .i64 v_r129.1.fKind), .v (.int .i64 v_r129.1.fId), .v (.int .i64 v_r129.1.fMay), .v (.bool v_r129.1.fMore), .v (.int .i64 v_r129.1.fAt)]), .d (.v (.bool v_r129.2.1)), .d (.v (.int .i64 v_r129.2.2.1))]), .c, .t false, .c]) (ts := []) (s := [0, 1, 2]) (l := [0, 1, 6, 14]) (by kernel_rfl) (by kernel_rfl) (.cons (G_open_Table_Close_h_ok n v_b122 v_p80 v_x121 _ h119) (.cons (show 0 + 5 ≤ 5 by decide) (.cons (bf h120) .nil))) q
inductive G_open_Table_Drop_h_L3_R where
  | x0 (v_b141 : S_open_Table) (v_w142 : (List S_open_Thing))
def G_open_Table_Drop_h_L3_ex : G_open_Table_Drop_h_L3_R → Ex
  | .x0 _ _ => .exit 0
def G_open_Table_Drop_h_L3_st (v_p80 : Int) : G_open_Table_Drop_h_L3_R → PS
  | .x0 v_b141 v_w142 => ⟨(dd :: dd :: dd :: dd :: dd :: dd :: .srf 2 :: (dds 29 [])), [.gh 0 (.ref 1 0), .box ((cS_open_Table v_b141).map FV.d), .row 29 5 (v_w142.map eS_open_Thing)]⟩
def G_open_Table_Drop_h_L3_hd (v_p80 : Int) (v_x121 : Int) (v_b122 : S_open_Table) (v_w123 : (List S_open_Thing)) : PS := ⟨(.ref 1 0 :: .d (.v (.int .i64 v_p80)) :: dd :: dd :: dd :: dd :: .srf 2 :: dd :: dd :: dd :: dd :: dd :: dd :: dd :: .d (.v (.int .i64 v_x121)) :: (dds 21 [])), [.gh 0 (.ref 1 0), .box ((cS_open_Table v_b122).map FV.d), .row 29 5 (v_w123.map eS_open_Thing)]⟩
def G_open_Table_Drop_h_L3 (n : Nat) (v_p80 : Int) : Nat → Int → S_open_Table → (List S_open_Thing) → Option G_open_Table_Drop_h_L3_R
  | 0, _, _, _ => none
  | k + 1, v_x121, v_b122, v_w123 =>
    if v_x121 < 8 then
     (G_open_Table_Drop_h_C2 n v_p80 v_x121 v_b122 v_w123).bind fun v_o138 => match v_o138 with
     | .x0 v_z139 v_z140 =>
       G_open_Table_Drop_h_L3 n v_p80 k (wi .i64 (v_x121 + 1)) v_z139 v_z140
    else
     some (.x0 v_b122 v_w123)
theorem G_open_Table_Drop_h_L3_ok {Fi : Ex → PS → Prop} (hF : KC 36 Fi) (ks : List Fr) (n : Nat) (v_p80 : Int)  : ∀ (k : Nat) (v_x121 : Int) (v_b122 : S_open_Table) (v_w123 : (List S_open_Thing)) (o : G_open_Table_Drop_h_L3_R), G_open_Table_Drop_h_L3 n v_p80 k v_x121 v_b122 v_w123 = some o → RunE Try.prog 36 Fi ks (G_open_Table_Drop_h_L3_ex o) (G_open_Table_Drop_h_L3_st v_p80 o) → RunE Try.prog 36 Fi (.l k (cP (cB (cR (cL (cR (cR (cR (bodyOf Try.f6)))))))) :: ks) .normal (G_open_Table_Drop_h_L3_hd v_p80 v_x121 v_b122 v_w123)
  | 0, v_x121, v_b122, v_w123, o, h, q => by rw [G_open_Table_Drop_h_L3] at h; cases h
  | k + 1, v_x121, v_b122, v_w123, o, h, q => by
    rw [G_open_Table_Drop_h_L3] at h
    by_cases h112 : v_x121 < 8
    · rw [if_pos h112] at h
      obtain ⟨v_o138, h125, h⟩ := bind_some h
      refine pkk_sound TTok mix hF 7 (hs := [.t true]) (ts := []) (s := [0, 1, 2]) (l := [0, 1, 6, 14]) (by kernel_rfl) (by kernel_rfl) (.cons (dt h112) .nil) (G_open_Table_Drop_h_C2_ok hF (.s (cR (cR (cR (cP (cB (cR (cL (cR (cR (cR (bodyOf Try.f6))))))))))) :: .l k (cP (cB (cR (cL (cR (cR (cR (bodyOf Try.f6)))))))) :: ks) n v_p80 v_x121 v_b122 v_w123 _ h125 ?_)
      cases v_o138 with
      | x0 v_z139 v_z140 =>
        try dsimp only at h
        exact pkk_sound TTok mix hF 1 (hs := []) (ts := []) (s := [0, 1, 2]) (l := [0, 1, 6, 14]) (by kernel_rfl) (by kernel_rfl) .nil (G_open_Table_Drop_h_L3_ok hF ks n v_p80 k (wi .i64 (v_x121 + 1)) v_z139 v_z140 _ h q)
    · rw [if_neg h112] at h
      cases h
      exact pkk_sound TTok mix hF 8 (hs := [.t false]) (ts := []) (s := [0, 1, 2]) (l := [6]) (by kernel_rfl) (by kernel_rfl) (.cons (df h112) .nil) q
/- (*ringhall/open.Table).Drop -/
def G_open_Table_Drop_h (n : Nat) (v_t79 : S_open_Table) (v_p80 : Int) : Option ((List S_open_Thing) × Int × S_open_Table) :=
  (G_open_owner n v_p80).bind fun (v_r81 : (Bool)) =>
  if v_r81 = true then
   (G_open_Table_Drop_h_L3 n v_p80 n 0 v_t79 ([] : List S_open_Thing)).bind fun v_o143 => match v_o143 with
   | .x0 v_z144 v_z145 =>
     some (v_z145, 0, v_z144)
  else
   some (([] : (List S_open_Thing)), 1, v_t79)
theorem G_open_Table_Drop_h_ok (n : Nat) (v_t79 : S_open_Table) (v_p80 : Int) (r : (List S_open_Thing) × Int × S_open_Table) (h : G_open_Table_Drop_h n v_t79 v_p80 = some r) : RetH Try.prog 6 [.ref 0 0, .d ((eI .i64) v_p80)] [.box ((cS_open_Table v_t79).map FV.d)] (.tup [.d ((eL eS_open_Thing) r.1), .d ((eI .i64) r.2.1)]) [.box ((cS_open_Table r.2.2).map FV.d)] := by
  refine retH_run (n := 36) (fn := Try.f6) (c := bodyOf Try.f6) (by kernel_rfl) (by kernel_rfl) (by kernel_rfl) (by kernel_rfl) ?_
  have hF : KC 36 (FinH Try.prog Try.f6 [.box ((cS_open_Table v_t79).map FV.d)] (.tup [.d ((eL eS_open_Thing) r.1), .d ((eI .i64) r.2.1)]) [.box ((cS_open_Table r.2.2).map FV.d)]) := FinH.kc' (by kernel_rfl)
  unfold G_open_Table_Drop_h at h
  obtain ⟨v_r81, h66, h⟩ := bind_some h
  by_cases h67 : v_r81 = true
  · rw [if_pos h67] at h
    obtain ⟨v_o143, h126, h⟩ := bind_some h
    refine pkk_sound TTok mix hF 14 (hs := [.r (eB v_r81), .t false, .n n]) (ts := [(6, 29, 5)]) (s := [1, 0, 37]) (l := [0, 1, 6, 14]) (by kernel_rfl) (by kernel_rfl) (.cons (G_open_owner_ok n v_p80 _ h66) (.cons (bnf h67) .nil)) (G_open_Table_Drop_h_L3_ok hF (.b 0 :: .s (cR (cR (cR (cR (bodyOf Try.f6))))) :: []) n v_p80 n 0 v_t79 ([] : List S_open_Thing) _ h126 ?_)
    cases v_o143 with
    | x0 v_z144 v_z145 =>
      try dsimp only at h
      obtain rfl := Option.some.inj h
      exact pendH_sound TTok mix 5 (hs := [.dl 4, .fz 2]) [1] (by kernel_rfl) (by kernel_rfl) (by kernel_rfl) .nil
  · rw [if_neg h67] at h
    obtain rfl := Option.some.inj h
    exact pendH_sound TTok mix 10 (hs := [.r (eB v_r81), .t true]) [0] (by kernel_rfl) (by kernel_rfl) (by kernel_rfl) (.cons (G_open_owner_ok n v_p80 _ h66) (.cons (bnt (vf h67)) .nil))
inductive G_ringref5_Open_ErrFd_h_C1_R where
  | x0 (v_x186 : Bool) (v_w187 : (List S_ringref5_Thing))
def G_ringref5_Open_ErrFd_h_C1_ex : G_ringref5_Open_ErrFd_h_C1_R → Ex
  | .x0 _ _ => .normal
def G_ringref5_Open_ErrFd_h_C1_st (v_p181 : Int) (v_fd182 : Int) (v_o180 : S_ringref5_Open) : G_ringref5_Open_ErrFd_h_C1_R → PS
  | .x0 v_x186 v_w187 => ⟨(dds 29 [.d (.v (.bool v_x186))]), [.gh 0 (.ref 2 0), .gh 1 (.srf 3), .box ([.srf 3] ++ ((cA_t36 v_o180.fFds).map FV.d)), .row 39 5 (v_w187.map eS_ringref5_Thing)]⟩
def G_ringref5_Open_ErrFd_h_C1_hd (v_p181 : Int) (v_fd182 : Int) (v_o180 : S_ringref5_Open)  : PS := ⟨(.ref 2 0 :: .d (.v (.int .i64 v_p181)) :: .d (.v (.int .i64 v_fd182)) :: (dds 27 [])), [.gh 0 (.ref 2 0), .gh 1 (.srf 3), .box ([.srf 3] ++ ((cA_t36 v_o180.fFds).map FV.d)), .row 39 5 (v_o180.fThings.map eS_ringref5_Thing)]⟩
def G_ringref5_Open_ErrFd_h_C1 (n : Nat) (v_p181 : Int) (v_fd182 : Int) (v_o180 : S_ringref5_Open) : Option G_ringref5_Open_ErrFd_h_C1_R :=
  if v_fd182 < 0 then
   some (.x0 true v_o180.fThings)
  else
   if v_fd182 > 7 then
    some (.x0 true v_o180.fThings)
   else
    if 0 ≤ v_p181 ∧ v_p181 < (17 : Int) then
     if 0 ≤ v_fd182 ∧ v_fd182 < (8 : Int) then
      (getA v_o180.fFds v_p181).bind fun (v_y190 : (Fin 8 → Int)) =>
      (getA v_y190 v_fd182).bind fun (v_y191 : Int) =>
      some (.x0 (v_y191 == 0) v_o180.fThings)
     else none
    else none
theorem G_ringref5_Open_ErrFd_h_C1_ok {Fi : Ex → PS → Prop} (hF : KC 30 Fi) (ks : List Fr) (n : Nat) (v_p181 : Int) (v_fd182 : Int) (v_o180 : S_ringref5_Open)  (o : G_ringref5_Open_ErrFd_h_C1_R) (h : G_ringref5_Open_ErrFd_h_C1 n v_p181 v_fd182 v_o180 = some o) (q : RunE Try.prog 30 Fi ks (G_ringref5_Open_ErrFd_h_C1_ex o) (G_ringref5_Open_ErrFd_h_C1_st v_p181 v_fd182 v_o180 o)) : RunE Try.prog 30 Fi (.s (cL (cL (cR (cR (bodyOf Try.f11))))) :: ks) .normal (G_ringref5_Open_ErrFd_h_C1_hd v_p181 v_fd182 v_o180) := by
  unfold G_ringref5_Open_ErrFd_h_C1 at h
  by_cases h140 : v_fd182 < 0
  · rw [if_pos h140] at h
    cases h
    exact pkk_sound TTok mix hF 1 (hs := [.t true, .c, .c, .c, .c, .c, .c, .c, .c, .c, .c]) (ts := []) (s := [0, 1, 2, 3]) (l := [29]) (by kernel_rfl) (by kernel_rfl) (.cons (dt h140) .nil) q
  · rw [if_neg h140] at h
    by_cases h141 : v_fd182 > 7
    · rw [if_pos h141] at h
      cases h
      exact pkk_sound TTok mix hF 1 (hs := [.t false, .c, .t true, .c, .c, .c, .c, .c, .c, .c, .c]) (ts := []) (s := [0, 1, 2, 3]) (l := [29]) (by kernel_rfl) (by kernel_rfl) (.cons (df h140) (.cons (dt h141) .nil)) q
    · rw [if_neg h141] at h
      by_cases h142 : 0 ≤ v_p181 ∧ v_p181 < (17 : Int)
      · rw [if_pos h142] at h
        by_cases h143 : 0 ≤ v_fd182 ∧ v_fd182 < (8 : Int)
        · rw [if_pos h143] at h
          obtain ⟨v_y190, h144, h⟩ := bind_some h
          obtain ⟨v_y191, h145, h⟩ := bind_some h
          cases h
          exact pkk_sound TTok mix hF 1 (hs := [.t false, .c, .t false, .c, .c, .c, .c, .c, .c, .c, .l (.d (.v (.int .i64 v_y191))), .c]) (ts := []) (s := [0, 1, 2, 3]) (l := [29]) (by kernel_rfl) (by kernel_rfl) (.cons (df h140) (.cons (df h141) (.cons h142 (.cons h143 (.cons (arr_cell2 (γ := FV) (sz := 8) (g := (fun x => [.d (.v (.int .i64 (x 0))), .d (.v (.int .i64 (x 1))), .d (.v (.int .i64 (x 2))), .d (.v (.int .i64 (x 3))), .d (.v (.int .i64 (x 4))), .d (.v (.int .i64 (x 5))), .d (.v (.int .i64 (x 6))), .d (.v (.int .i64 (x 7)))])) (pre := [.srf 3]) (post := []) (P0 := 1) (o := 0 + (v_fd182).toNat * 1 + 0) rfl (fun _ => rfl) h144 (arr_cell2 (γ := FV) (sz := 1) (g := (fun x => [.d (.v (.int .i64 x))])) (pre := []) (post := []) (P0 := 0) (o := 0) rfl (fun _ => rfl) h145 rfl (idx := 0 + (v_fd182).toNat * 1 + 0) (by omega)) (idx := 1 + (v_p181).toNat * 8 + (v_fd182).toNat * 1) (by omega)) .nil))))) q
        · rw [if_neg h143] at h; cases h
      · rw [if_neg h142] at h; cases h
/- (*ringhall/ringref5.Open).ErrFd -/
def G_ringref5_Open_ErrFd_h (n : Nat) (v_o180 : S_ringref5_Open) (v_p181 : Int) (v_fd182 : Int) : Option (Int × S_ringref5_Open) :=
  if v_p181 < 1 then
   some (1, v_o180)
  else
   if v_p181 > 16 then
    some (1, v_o180)
   else
    (G_ringref5_Open_ErrFd_h_C1 n v_p181 v_fd182 v_o180).bind fun v_o194 => match v_o194 with
    | .x0 v_z195 v_z196 =>
      if v_z195 = true then
       some (4, (S_ringref5_Open.mk v_z196 v_o180.fFds))
      else
       some (0, (S_ringref5_Open.mk v_z196 v_o180.fFds))
theorem G_ringref5_Open_ErrFd_h_ok (n : Nat) (v_o180 : S_ringref5_Open) (v_p181 : Int) (v_fd182 : Int) (r : Int × S_ringref5_Open) (h : G_ringref5_Open_ErrFd_h n v_o180 v_p181 v_fd182 = some r) : RetH Try.prog 11 [.ref 0 0, .d ((eI .i64) v_p181), .d ((eI .i64) v_fd182)] [.box ([.srf 1] ++ ((cA_t36 v_o180.fFds).map FV.d)), .row 39 5 (v_o180.fThings.map eS_ringref5_Thing)] (.d ((eI .i64) r.1)) [.box ([.srf 2] ++ ((cA_t36 r.2.fFds).map FV.d)), .none, .row 39 5 (r.2.fThings.map eS_ringref5_Thing)] := by
  refine retH_run (n := 30) (fn := Try.f11) (c := bodyOf Try.f11) (by kernel_rfl) (by kernel_rfl) (by kernel_rfl) (by kernel_rfl) ?_
  have hF : KC 30 (FinH Try.prog Try.f11 [.box ([.srf 1] ++ ((cA_t36 v_o180.fFds).map FV.d)), .row 39 5 (v_o180.fThings.map eS_ringref5_Thing)] (.d ((eI .i64) r.1)) [.box ([.srf 2] ++ ((cA_t36 r.2.fFds).map FV.d)), .none, .row 39 5 (r.2.fThings.map eS_ringref5_Thing)]) := FinH.kc' (by kernel_rfl)
  unfold G_ringref5_Open_ErrFd_h at h
  by_cases h132 : v_p181 < 1
  · rw [if_pos h132] at h
    obtain rfl := Option.some.inj h
    exact pendH_sound TTok mix 11 (hs := [.t true, .c, .c, .dl 4, .mv 1]) [0, 1, 44] (by kernel_rfl) (by kernel_rfl) (by kernel_rfl) (.cons (dt h132) .nil)
  · rw [if_neg h132] at h
    by_cases h133 : v_p181 > 16
    · rw [if_pos h133] at h
      obtain rfl := Option.some.inj h
      exact pendH_sound TTok mix 11 (hs := [.t false, .c, .t true, .dl 4, .mv 1]) [0, 1, 44] (by kernel_rfl) (by kernel_rfl) (by kernel_rfl) (.cons (df h132) (.cons (dt h133) .nil))
    · rw [if_neg h133] at h
      obtain ⟨v_o194, h146, h⟩ := bind_some h
      refine pkk_sound TTok mix hF 9 (hs := [.t false, .c, .t false]) (ts := []) (s := [2, 3, 0, 1]) (l := [0, 1, 2]) (by kernel_rfl) (by kernel_rfl) (.cons (df h132) (.cons (df h133) .nil)) (G_ringref5_Open_ErrFd_h_C1_ok hF (.s (cR (cL (cR (cR (bodyOf Try.f11))))) :: .s (cR (cR (cR (bodyOf Try.f11)))) :: []) n v_p181 v_fd182 v_o180 _ h146 ?_)
      cases v_o194 with
      | x0 v_z195 v_z196 =>
        try dsimp only at h
        by_cases h147 : v_z195 = true
        · rw [if_pos h147] at h
          obtain rfl := Option.some.inj h
          exact pendH_sound TTok mix 6 (hs := [.t true, .dl 4, .mv 3]) [2, 3, 9] (by kernel_rfl) (by kernel_rfl) (by kernel_rfl) (.cons h147 .nil)
        · rw [if_neg h147] at h
          obtain rfl := Option.some.inj h
          exact pendH_sound TTok mix 6 (hs := [.t false, .dl 4, .mv 3]) [2, 3, 9] (by kernel_rfl) (by kernel_rfl) (by kernel_rfl) (.cons (vf h147) .nil)
/- ringhall/ringref5.Rest -/
def G_ringref5_Rest (n : Nat) (v_n198 : Int) (v_m199 : Int) : Option (Int) :=
  if v_m199 ≠ 0 then
   if (remI v_n198 v_m199) < 0 then
    some (wi .i64 ((remI v_n198 v_m199) + v_m199))
   else
    some (remI v_n198 v_m199)
  else none
theorem G_ringref5_Rest_ok (n : Nat) (v_n198 : Int) (v_m199 : Int) (r : Int) (h : G_ringref5_Rest n v_n198 v_m199 = some r) : Ret Try.prog 12 [(eI .i64) v_n198, (eI .i64) v_m199] ((eI .i64) r) := by
  refine ret_run (n := 14) (fn := Try.f12) (c := bodyOf Try.f12) (by kernel_rfl) (by kernel_rfl) (by kernel_rfl) (by kernel_rfl) ?_
  have hF : KC 14 (FinR Try.prog Try.f12 ((eI .i64) r)) := FinR.kc' (by kernel_rfl)
  unfold G_ringref5_Rest at h
  by_cases h149 : v_m199 ≠ 0
  · rw [if_pos h149] at h
    by_cases h151 : (remI v_n198 v_m199) < 0
    · rw [if_pos h151] at h
      obtain rfl := Option.some.inj h
      exact pend_sound TTok mix 12 (hs := [.t true]) (by kernel_rfl) (by kernel_rfl) (by kernel_rfl) (.cons h149 (.cons (dt h151) .nil))
    · rw [if_neg h151] at h
      obtain rfl := Option.some.inj h
      exact pend_sound TTok mix 12 (hs := [.t false]) (by kernel_rfl) (by kernel_rfl) (by kernel_rfl) (.cons h149 (.cons (df h151) .nil))
  · rw [if_neg h149] at h; cases h
/- ringhall/ringlaw5.thing -/
def G_ringlaw5_thing (n : Nat) (v_x201 : S_ringref5_Thing) : Option (S_open_Thing) :=
  some (S_open_Thing.mk v_x201.fKind v_x201.fId v_x201.fMay v_x201.fMore v_x201.fAt)
theorem G_ringlaw5_thing_ok (n : Nat) (v_x201 : S_ringref5_Thing) (r : S_open_Thing) (h : G_ringlaw5_thing n v_x201 = some r) : Ret Try.prog 13 [eS_ringref5_Thing v_x201] (eS_open_Thing r) := by
  refine ret_run (n := 14) (fn := Try.f13) (c := bodyOf Try.f13) (by kernel_rfl) (by kernel_rfl) (by kernel_rfl) (by kernel_rfl) ?_
  have hF : KC 14 (FinR Try.prog Try.f13 (eS_open_Thing r)) := FinR.kc' (by kernel_rfl)
  unfold G_ringlaw5_thing at h
  obtain rfl := Option.some.inj h
  exact pend_sound TTok mix 5 (hs := [.c, .c, .c, .c, .c, .c]) (by kernel_rfl) (by kernel_rfl) (by kernel_rfl) (.cons (show 0 + 5 ≤ 5 by decide) .nil)
inductive G_slices_Index_int_int_L1_R where
  | x0 (v_x240 : Int)
  | x1 
def G_slices_Index_int_int_L1_ex : G_slices_Index_int_int_L1_R → Ex
  | .x0 _ => .ret
  | .x1  => .exit 0
def G_slices_Index_int_int_L1_st (v_s232 : (List Int)) (v_v233 : Int) : G_slices_Index_int_int_L1_R → PS
  | .x0 v_x240 => ⟨(dd :: dd :: dd :: dd :: .d (.v (.int .i64 v_x240)) :: (dds 14 [])), []⟩
  | .x1  => ⟨(dds 19 []), []⟩
def G_slices_Index_int_int_L1_hd (v_s232 : (List Int)) (v_v233 : Int) (v_x236 : Int) : PS := ⟨(.d (.sl (v_s232.map (eI .i64))) :: .d (.v (.int .i64 v_v233)) :: dd :: dd :: dd :: dd :: dd :: .d (.v (.int .i64 (v_s232.length : Int))) :: .d (.v (.int .i64 v_x236)) :: (dds 10 [])), []⟩
def G_slices_Index_int_int_L1 (n : Nat) (v_s232 : (List Int)) (v_v233 : Int) : Nat → Int → Option G_slices_Index_int_int_L1_R
  | 0, _ => none
  | k + 1, v_x236 =>
    if v_x236 < (v_s232.length : Int) then
     (getI v_s232 v_x236).bind fun (v_y239 : Int) =>
     if v_v233 = v_y239 then
      some (.x0 v_x236)
     else
      G_slices_Index_int_int_L1 n v_s232 v_v233 k (wi .i64 (v_x236 + 1))
    else
     some (.x1 )
theorem G_slices_Index_int_int_L1_ok {Fi : Ex → PS → Prop} (hF : KC 19 Fi) (ks : List Fr) (n : Nat) (v_s232 : (List Int)) (v_v233 : Int)  : ∀ (k : Nat) (v_x236 : Int) (o : G_slices_Index_int_int_L1_R), G_slices_Index_int_int_L1 n v_s232 v_v233 k v_x236 = some o → RunE Try.prog 19 Fi ks (G_slices_Index_int_int_L1_ex o) (G_slices_Index_int_int_L1_st v_s232 v_v233 o) → RunE Try.prog 19 Fi (.l k (cP (cB (cR (cL (cR (bodyOf Try.f22)))))) :: ks) .normal (G_slices_Index_int_int_L1_hd v_s232 v_v233 v_x236)
  | 0, v_x236, o, h, q => by rw [G_slices_Index_int_int_L1] at h; cases h
  | k + 1, v_x236, o, h, q => by
    rw [G_slices_Index_int_int_L1] at h
    by_cases h174 : v_x236 < (v_s232.length : Int)
    · rw [if_pos h174] at h
      obtain ⟨v_y239, h177, h⟩ := bind_some h
      by_cases h178 : v_v233 = v_y239
      · rw [if_pos h178] at h
        cases h
        exact pkk_sound TTok mix hF 19 (hs := [.t true, .y ((eI .i64) v_y239), .c, .t true]) (ts := []) (s := []) (l := [4]) (by kernel_rfl) (by kernel_rfl) (.cons (dt h174) (.cons (getI_ob (f := (eI .i64)) h177) (.cons (bt h178) .nil))) q
      · rw [if_neg h178] at h
        exact pkk_sound TTok mix hF 16 (hs := [.t true, .y ((eI .i64) v_y239), .c, .t false]) (ts := []) (s := []) (l := [0, 1, 7, 8]) (by kernel_rfl) (by kernel_rfl) (.cons (dt h174) (.cons (getI_ob (f := (eI .i64)) h177) (.cons (bf h178) .nil))) (G_slices_Index_int_int_L1_ok hF ks n v_s232 v_v233 k (wi .i64 (v_x236 + 1)) _ h q)
    · rw [if_neg h174] at h
      cases h
      exact pkk_sound TTok mix hF 8 (hs := [.t false]) (ts := []) (s := []) (l := []) (by kernel_rfl) (by kernel_rfl) (.cons (df h174) .nil) q
/- slices.Index[[]int,int] -/
def G_slices_Index_int_int (n : Nat) (v_s232 : (List Int)) (v_v233 : Int) : Option (Int) :=
  (G_slices_Index_int_int_L1 n v_s232 v_v233 n 0).bind fun v_o241 => match v_o241 with
  | .x0 v_z242 =>
    some v_z242
  | .x1  =>
    some (-1)
theorem G_slices_Index_int_int_ok (n : Nat) (v_s232 : (List Int)) (v_v233 : Int) (r : Int) (h : G_slices_Index_int_int n v_s232 v_v233 = some r) : Ret Try.prog 22 [(eL (eI .i64)) v_s232, (eI .i64) v_v233] ((eI .i64) r) := by
  refine ret_run (n := 19) (fn := Try.f22) (c := bodyOf Try.f22) (by kernel_rfl) (by kernel_rfl) (by kernel_rfl) (by kernel_rfl) ?_
  have hF : KC 19 (FinR Try.prog Try.f22 ((eI .i64) r)) := FinR.kc' (by kernel_rfl)
  unfold G_slices_Index_int_int at h
  obtain ⟨v_o241, h179, h⟩ := bind_some h
  refine pkk_sound TTok mix hF 7 (hs := [.u (.d (.v (.int .i64 (v_s232.length : Int)))), .n n]) (ts := []) (s := []) (l := [0, 1, 7, 8]) (by kernel_rfl) (by kernel_rfl) (.cons (len_ob (f := (eI .i64)) (l := v_s232)) .nil) (G_slices_Index_int_int_L1_ok hF (.b 0 :: .s (cR (cR (bodyOf Try.f22))) :: []) n v_s232 v_v233 n 0 _ h179 ?_)
  cases v_o241 with
  | x0 v_z242 =>
    try dsimp only at h
    obtain rfl := Option.some.inj h
    exact pend_sound TTok mix 2 (hs := []) (by kernel_rfl) (by kernel_rfl) (by kernel_rfl) .nil
  | x1  =>
    try dsimp only at h
    obtain rfl := Option.some.inj h
    exact pend_sound TTok mix 4 (hs := []) (by kernel_rfl) (by kernel_rfl) (by kernel_rfl) .nil
inductive G_ringref5_Open_uses_L1_R where
  | x0 (v_n267 : Int)
def G_ringref5_Open_uses_L1_ex : G_ringref5_Open_uses_L1_R → Ex
  | .x0 _ => .exit 2
def G_ringref5_Open_uses_L1_st (v_k250 : Int) (v_o249 : S_ringref5_Open) (v_x259 : Int) (v_y261 : (Fin 8 → Int)) : G_ringref5_Open_uses_L1_R → PS
  | .x0 v_n267 => ⟨(dd :: .d (.v (.int .i64 v_k250)) :: dd :: dd :: dd :: .d (.v (.int .i64 v_n267)) :: dd :: dd :: dd :: dd :: dd :: dd :: dd :: .d (.agg (cA_t36 v_o249.fFds)) :: .d (.v (.int .i64 v_x259)) :: (dds 15 [])), []⟩
def G_ringref5_Open_uses_L1_hd (v_k250 : Int) (v_o249 : S_ringref5_Open) (v_x259 : Int) (v_y261 : (Fin 8 → Int)) (v_n262 : Int) (v_x263 : Int) : PS := ⟨(dd :: .d (.v (.int .i64 v_k250)) :: dd :: dd :: dd :: .d (.v (.int .i64 v_n262)) :: dd :: dd :: dd :: dd :: dd :: dd :: dd :: .d (.agg (cA_t36 v_o249.fFds)) :: .d (.v (.int .i64 v_x259)) :: dd :: dd :: .d (.agg [.v (.int .i64 (v_y261 0)), .v (.int .i64 (v_y261 1)), .v (.int .i64 (v_y261 2)), .v (.int .i64 (v_y261 3)), .v (.int .i64 (v_y261 4)), .v (.int .i64 (v_y261 5)), .v (.int .i64 (v_y261 6)), .v (.int .i64 (v_y261 7))]) :: .d (.v (.int .i64 v_x263)) :: (dds 11 [])), []⟩
def G_ringref5_Open_uses_L1 (n : Nat) (v_k250 : Int) (v_o249 : S_ringref5_Open) (v_x259 : Int) (v_y261 : (Fin 8 → Int)) : Nat → Int → Int → Option G_ringref5_Open_uses_L1_R
  | 0, _, _ => none
  | k + 1, v_n262, v_x263 =>
    if v_x263 < 8 then
     (getA v_y261 v_x263).bind fun (v_y266 : Int) =>
     if v_y266 = (wi .i64 (v_k250 + 1)) then
      G_ringref5_Open_uses_L1 n v_k250 v_o249 v_x259 v_y261 k (wi .i64 (v_n262 + 1)) (wi .i64 (v_x263 + 1))
     else
      G_ringref5_Open_uses_L1 n v_k250 v_o249 v_x259 v_y261 k v_n262 (wi .i64 (v_x263 + 1))
    else
     some (.x0 v_n262)
theorem G_ringref5_Open_uses_L1_ok {Fi : Ex → PS → Prop} (hF : KC 30 Fi) (ks : List Fr) (n : Nat) (v_k250 : Int) (v_o249 : S_ringref5_Open) (v_x259 : Int) (v_y261 : (Fin 8 → Int))  : ∀ (k : Nat) (v_n262 : Int) (v_x263 : Int) (o : G_ringref5_Open_uses_L1_R), G_ringref5_Open_uses_L1 n v_k250 v_o249 v_x259 v_y261 k v_n262 v_x263 = some o → RunE Try.prog 30 Fi ks (G_ringref5_Open_uses_L1_ex o) (G_ringref5_Open_uses_L1_st v_k250 v_o249 v_x259 v_y261 o) → RunE Try.prog 30 Fi (.l k (cP (cB (cR (cR (cB (cL (cR (cR (cP (cB (cR (cL (cR (cR (bodyOf Try.f24))))))))))))))) :: ks) .normal (G_ringref5_Open_uses_L1_hd v_k250 v_o249 v_x259 v_y261 v_n262 v_x263)
  | 0, v_n262, v_x263, o, h, q => by rw [G_ringref5_Open_uses_L1] at h; cases h
  | k + 1, v_n262, v_x263, o, h, q => by
    rw [G_ringref5_Open_uses_L1] at h
    by_cases h185 : v_x263 < 8
    · rw [if_pos h185] at h
      obtain ⟨v_y266, h189, h⟩ := bind_some h
      by_cases h191 : v_y266 = (wi .i64 (v_k250 + 1))
      · rw [if_pos h191] at h
        exact pkk_sound TTok mix hF 16 (hs := [.t true, .l (.d (.v (.int .i64 v_y266))), .t true]) (ts := []) (s := []) (l := [1, 5, 13, 14, 17, 18]) (by kernel_rfl) (by kernel_rfl) (.cons (dt h185) (.cons (getA_ob0 (fun x => FV.d ((eI .i64) x)) h189) (.cons (bt h191) .nil))) (G_ringref5_Open_uses_L1_ok hF ks n v_k250 v_o249 v_x259 v_y261 k (wi .i64 (v_n262 + 1)) (wi .i64 (v_x263 + 1)) _ h q)
      · rw [if_neg h191] at h
        exact pkk_sound TTok mix hF 16 (hs := [.t true, .l (.d (.v (.int .i64 v_y266))), .t false]) (ts := []) (s := []) (l := [1, 5, 13, 14, 17, 18]) (by kernel_rfl) (by kernel_rfl) (.cons (dt h185) (.cons (getA_ob0 (fun x => FV.d ((eI .i64) x)) h189) (.cons (bf h191) .nil))) (G_ringref5_Open_uses_L1_ok hF ks n v_k250 v_o249 v_x259 v_y261 k v_n262 (wi .i64 (v_x263 + 1)) _ h q)
    · rw [if_neg h185] at h
      cases h
      exact pkk_sound TTok mix hF 8 (hs := [.t false]) (ts := []) (s := []) (l := [1, 5, 13, 14]) (by kernel_rfl) (by kernel_rfl) (.cons (df h185) .nil) q
inductive G_ringref5_Open_uses_L2_R where
  | x0 (v_n270 : Int)
def G_ringref5_Open_uses_L2_ex : G_ringref5_Open_uses_L2_R → Ex
  | .x0 _ => .exit 0
def G_ringref5_Open_uses_L2_st (v_k250 : Int) (v_o249 : S_ringref5_Open) : G_ringref5_Open_uses_L2_R → PS
  | .x0 v_n270 => ⟨(dd :: dd :: dd :: dd :: dd :: .d (.v (.int .i64 v_n270)) :: (dds 24 [])), []⟩
def G_ringref5_Open_uses_L2_hd (v_k250 : Int) (v_o249 : S_ringref5_Open) (v_n258 : Int) (v_x259 : Int) : PS := ⟨(dd :: .d (.v (.int .i64 v_k250)) :: dd :: dd :: dd :: .d (.v (.int .i64 v_n258)) :: dd :: dd :: dd :: dd :: dd :: dd :: dd :: .d (.agg (cA_t36 v_o249.fFds)) :: .d (.v (.int .i64 v_x259)) :: (dds 15 [])), []⟩
def G_ringref5_Open_uses_L2 (n : Nat) (v_k250 : Int) (v_o249 : S_ringref5_Open) : Nat → Int → Int → Option G_ringref5_Open_uses_L2_R
  | 0, _, _ => none
  | k + 1, v_n258, v_x259 =>
    if v_x259 < 17 then
     (getA v_o249.fFds v_x259).bind fun (v_y261 : (Fin 8 → Int)) =>
     (G_ringref5_Open_uses_L1 n v_k250 v_o249 v_x259 v_y261 n v_n258 0).bind fun v_o268 => match v_o268 with
     | .x0 v_z269 =>
       G_ringref5_Open_uses_L2 n v_k250 v_o249 k v_z269 (wi .i64 (v_x259 + 1))
    else
     some (.x0 v_n258)
theorem G_ringref5_Open_uses_L2_ok {Fi : Ex → PS → Prop} (hF : KC 30 Fi) (ks : List Fr) (n : Nat) (v_k250 : Int) (v_o249 : S_ringref5_Open)  : ∀ (k : Nat) (v_n258 : Int) (v_x259 : Int) (o : G_ringref5_Open_uses_L2_R), G_ringref5_Open_uses_L2 n v_k250 v_o249 k v_n258 v_x259 = some o → RunE Try.prog 30 Fi ks (G_ringref5_Open_uses_L2_ex o) (G_ringref5_Open_uses_L2_st v_k250 v_o249 o) → RunE Try.prog 30 Fi (.l k (cP (cB (cR (cL (cR (cR (bodyOf Try.f24))))))) :: ks) .normal (G_ringref5_Open_uses_L2_hd v_k250 v_o249 v_n258 v_x259)
  | 0, v_n258, v_x259, o, h, q => by rw [G_ringref5_Open_uses_L2] at h; cases h
  | k + 1, v_n258, v_x259, o, h, q => by
    rw [G_ringref5_Open_uses_L2] at h
    by_cases h183 : v_x259 < 17
    · rw [if_pos h183] at h
      obtain ⟨v_y261, h184, h⟩ := bind_some h
      obtain ⟨v_o268, h192, h⟩ := bind_some h
      refine pkk_sound TTok mix hF 14 (hs := [.t true, .l (.d (.agg [.v (.int .i64 (v_y261 0)), .v (.int .i64 (v_y261 1)), .v (.int .i64 (v_y261 2)), .v (.int .i64 (v_y261 3)), .v (.int .i64 (v_y261 4)), .v (.int .i64 (v_y261 5)), .v (.int .i64 (v_y261 6)), .v (.int .i64 (v_y261 7))])), .c, .c, .n n]) (ts := []) (s := []) (l := [1, 5, 13, 14, 17, 18]) (by kernel_rfl) (by kernel_rfl) (.cons (dt h183) (.cons (arr_idx (sz := 8) (g := (fun x => [.d (.v (.int .i64 (x 0))), .d (.v (.int .i64 (x 1))), .d (.v (.int .i64 (x 2))), .d (.v (.int .i64 (x 3))), .d (.v (.int .i64 (x 4))), .d (.v (.int .i64 (x 5))), .d (.v (.int .i64 (x 6))), .d (.v (.int .i64 (x 7)))])) (fun _ => rfl) h184) (.cons (show 0 + 8 ≤ 8 by decide) .nil))) (G_ringref5_Open_uses_L1_ok hF (.b 2 :: .b 1 :: .s (cR (cR (cR (cP (cB (cR (cL (cR (cR (bodyOf Try.f24)))))))))) :: .l k (cP (cB (cR (cL (cR (cR (bodyOf Try.f24))))))) :: ks) n v_k250 v_o249 v_x259 v_y261 n v_n258 0 _ h192 ?_)
      cases v_o268 with
      | x0 v_z269 =>
        try dsimp only at h
        exact pkk_sound TTok mix hF 3 (hs := []) (ts := []) (s := []) (l := [1, 5, 13, 14]) (by kernel_rfl) (by kernel_rfl) .nil (G_ringref5_Open_uses_L2_ok hF ks n v_k250 v_o249 k v_z269 (wi .i64 (v_x259 + 1)) _ h q)
    · rw [if_neg h183] at h
      cases h
      exact pkk_sound TTok mix hF 8 (hs := [.t false]) (ts := []) (s := []) (l := [5]) (by kernel_rfl) (by kernel_rfl) (.cons (df h183) .nil) q
/- (*ringhall/ringref5.Open).uses -/
def G_ringref5_Open_uses (n : Nat) (v_o249 : S_ringref5_Open) (v_k250 : Int) : Option (Int) :=
  (G_ringref5_Open_uses_L2 n v_k250 v_o249 n 0 0).bind fun v_o271 => match v_o271 with
  | .x0 v_z272 =>
    some v_z272
theorem G_ringref5_Open_uses_ok (n : Nat) (v_o249 : S_ringref5_Open) (v_k250 : Int) (r : Int) (h : G_ringref5_Open_uses n v_o249 v_k250 = some r) : Ret Try.prog 24 [.iptr (cS_ringref5_Open v_o249) 0, (eI .i64) v_k250] ((eI .i64) r) := by
  refine ret_run (n := 30) (fn := Try.f24) (c := bodyOf Try.f24) (by kernel_rfl) (by kernel_rfl) (by kernel_rfl) (by kernel_rfl) ?_
  have hF : KC 30 (FinR Try.prog Try.f24 ((eI .i64) r)) := FinR.kc' (by kernel_rfl)
  unfold G_ringref5_Open_uses at h
  obtain ⟨v_o271, h193, h⟩ := bind_some h
  refine pkk_sound TTok mix hF 9 (hs := [.n n]) (ts := []) (s := []) (l := [1, 5, 13, 14]) (by kernel_rfl) (by kernel_rfl) .nil (G_ringref5_Open_uses_L2_ok hF (.b 0 :: .s (cR (cR (cR (bodyOf Try.f24)))) :: []) n v_k250 v_o249 n 0 0 _ h193 ?_)
  cases v_o271 with
  | x0 v_z272 =>
    try dsimp only at h
    obtain rfl := Option.some.inj h
    exact pend_sound TTok mix 4 (hs := []) (by kernel_rfl) (by kernel_rfl) (by kernel_rfl) .nil
inductive G_ringref5_Open_lives_h_L1_R where
  | x0 (v_n275 : Int) (v_w276 : (List S_ringref5_Thing))
def G_ringref5_Open_lives_h_L1_ex : G_ringref5_Open_lives_h_L1_R → Ex
  | .x0 _ _ => .exit 0
def G_ringref5_Open_lives_h_L1_st (v_o244 : S_ringref5_Open) : G_ringref5_Open_lives_h_L1_R → PS
  | .x0 v_n275 v_w276 => ⟨(dd :: dd :: dd :: .d (.v (.int .i64 v_n275)) :: (dds 17 [])), [.gh 0 (.ref 2 0), .gh 1 (.srf 3), .box ([.srf 3] ++ ((cA_t36 v_o244.fFds).map FV.d)), .row 39 5 (v_w276.map eS_ringref5_Thing)]⟩
def G_ringref5_Open_lives_h_L1_hd (v_o244 : S_ringref5_Open) (v_n245 : Int) (v_x246 : Int) (v_w247 : (List S_ringref5_Thing)) : PS := ⟨(.ref 2 0 :: dd :: dd :: .d (.v (.int .i64 v_n245)) :: dd :: dd :: dd :: dd :: dd :: .d (.v (.int .i64 (v_o244.fThings.length : Int))) :: .d (.v (.int .i64 v_x246)) :: (dds 10 [])), [.gh 0 (.ref 2 0), .gh 1 (.srf 3), .box ([.srf 3] ++ ((cA_t36 v_o244.fFds).map FV.d)), .row 39 5 (v_w247.map eS_ringref5_Thing)]⟩
def G_ringref5_Open_lives_h_L1 (n : Nat) (v_o244 : S_ringref5_Open) : Nat → Int → Int → (List S_ringref5_Thing) → Option G_ringref5_Open_lives_h_L1_R
  | 0, _, _, _ => none
  | k + 1, v_n245, v_x246, v_w247 =>
    if v_x246 < (v_o244.fThings.length : Int) then
     (G_ringref5_Open_uses n (S_ringref5_Open.mk v_w247 v_o244.fFds) v_x246).bind fun (v_r274 : (Int)) =>
     if v_r274 > 0 then
      G_ringref5_Open_lives_h_L1 n v_o244 k (wi .i64 (v_n245 + 1)) (wi .i64 (v_x246 + 1)) v_w247
     else
      G_ringref5_Open_lives_h_L1 n v_o244 k v_n245 (wi .i64 (v_x246 + 1)) v_w247
    else
     some (.x0 v_n245 v_w247)
theorem G_ringref5_Open_lives_h_L1_ok {Fi : Ex → PS → Prop} (hF : KC 21 Fi) (ks : List Fr) (n : Nat) (v_o244 : S_ringref5_Open)  : ∀ (k : Nat) (v_n245 : Int) (v_x246 : Int) (v_w247 : (List S_ringref5_Thing)) (o : G_ringref5_Open_lives_h_L1_R), G_ringref5_Open_lives_h_L1 n v_o244 k v_n245 v_x246 v_w247 = some o → RunE Try.prog 21 Fi ks (G_ringref5_Open_lives_h_L1_ex o) (G_ringref5_Open_lives_h_L1_st v_o244 o) → RunE Try.prog 21 Fi (.l k (cP (cB (cR (cL (cR (cR (bodyOf Try.f23))))))) :: ks) .normal (G_ringref5_Open_lives_h_L1_hd v_o244 v_n245 v_x246 v_w247)
  | 0, v_n245, v_x246, v_w247, o, h, q => by rw [G_ringref5_Open_lives_h_L1] at h; cases h
  | k + 1, v_n245, v_x246, v_w247, o, h, q => by
    rw [G_ringref5_Open_lives_h_L1] at h
    by_cases h182 : v_x246 < (v_o244.fThings.length : Int)
    · rw [if_pos h182] at h
      obtain ⟨v_r274, h197, h⟩ := bind_some h
      by_cases h199 : v_r274 > 0
      · rw [if_pos h199] at h
        exact pkk_sound TTok mix hF 16 (hs := [.t true, .e 29 [2, 3] (.d (.v (.int .i64 v_r274))) [], .t true]) (ts := []) (s := [0, 1, 2, 3]) (l := [0, 3, 9, 10]) (by kernel_rfl) (by kernel_rfl) (.cons (dt h182) (.cons (lcall (P := Try.prog) (T := TT) (f := .func 24) (args := #[(.tmp 13), (.tmp 14)]) (tys := #[33, 3]) (g := 24) (l := 2) (L := 3) (e := 39) (s := 5) (cs := ([.srf 3] ++ ((cA_t36 v_o244.fFds).map FV.d))) (pre := []) (post := (cA_t36 v_o244.fFds)) (xs := (v_w247.map eS_ringref5_Thing)) (ds := (cS_ringref5_Open (S_ringref5_Open.mk v_w247 v_o244.fFds))) (ps := [.v (.int .i64 v_x246)]) (by kernel_rfl) (by kernel_rfl) (G_ringref5_Open_uses_ok n (S_ringref5_Open.mk v_w247 v_o244.fFds) v_x246 _ h197) (by rfl)) (.cons (dt h199) .nil))) (G_ringref5_Open_lives_h_L1_ok hF ks n v_o244 k (wi .i64 (v_n245 + 1)) (wi .i64 (v_x246 + 1)) v_w247 _ h q)
      · rw [if_neg h199] at h
        exact pkk_sound TTok mix hF 16 (hs := [.t true, .e 29 [2, 3] (.d (.v (.int .i64 v_r274))) [], .t false]) (ts := []) (s := [0, 1, 2, 3]) (l := [0, 3, 9, 10]) (by kernel_rfl) (by kernel_rfl) (.cons (dt h182) (.cons (lcall (P := Try.prog) (T := TT) (f := .func 24) (args := #[(.tmp 13), (.tmp 14)]) (tys := #[33, 3]) (g := 24) (l := 2) (L := 3) (e := 39) (s := 5) (cs := ([.srf 3] ++ ((cA_t36 v_o244.fFds).map FV.d))) (pre := []) (post := (cA_t36 v_o244.fFds)) (xs := (v_w247.map eS_ringref5_Thing)) (ds := (cS_ringref5_Open (S_ringref5_Open.mk v_w247 v_o244.fFds))) (ps := [.v (.int .i64 v_x246)]) (by kernel_rfl) (by kernel_rfl) (G_ringref5_Open_uses_ok n (S_ringref5_Open.mk v_w247 v_o244.fFds) v_x246 _ h197) (by rfl)) (.cons (df h199) .nil))) (G_ringref5_Open_lives_h_L1_ok hF ks n v_o244 k v_n245 (wi .i64 (v_x246 + 1)) v_w247 _ h q)
    · rw [if_neg h182] at h
      cases h
      exact pkk_sound TTok mix hF 8 (hs := [.t false]) (ts := []) (s := [0, 1, 2, 3]) (l := [3]) (by kernel_rfl) (by kernel_rfl) (.cons (df h182) .nil) q
/- (*ringhall/ringref5.Open).lives -/
def G_ringref5_Open_lives_h (n : Nat) (v_o244 : S_ringref5_Open) : Option (Int × S_ringref5_Open) :=
  (G_ringref5_Open_lives_h_L1 n v_o244 n 0 0 v_o244.fThings).bind fun v_o277 => match v_o277 with
  | .x0 v_z278 v_z279 =>
    some (v_z278, (S_ringref5_Open.mk v_z279 v_o244.fFds))
theorem G_ringref5_Open_lives_h_ok (n : Nat) (v_o244 : S_ringref5_Open) (r : Int × S_ringref5_Open) (h : G_ringref5_Open_lives_h n v_o244 = some r) : RetH Try.prog 23 [.ref 0 0] [.box ([.srf 1] ++ ((cA_t36 v_o244.fFds).map FV.d)), .row 39 5 (v_o244.fThings.map eS_ringref5_Thing)] (.d ((eI .i64) r.1)) [.box ([.srf 2] ++ ((cA_t36 r.2.fFds).map FV.d)), .none, .row 39 5 (r.2.fThings.map eS_ringref5_Thing)] := by
  refine retH_run (n := 21) (fn := Try.f23) (c := bodyOf Try.f23) (by kernel_rfl) (by kernel_rfl) (by kernel_rfl) (by kernel_rfl) ?_
  have hF : KC 21 (FinH Try.prog Try.f23 [.box ([.srf 1] ++ ((cA_t36 v_o244.fFds).map FV.d)), .row 39 5 (v_o244.fThings.map eS_ringref5_Thing)] (.d ((eI .i64) r.1)) [.box ([.srf 2] ++ ((cA_t36 r.2.fFds).map FV.d)), .none, .row 39 5 (r.2.fThings.map eS_ringref5_Thing)]) := FinH.kc' (by kernel_rfl)
  unfold G_ringref5_Open_lives_h at h
  obtain ⟨v_o277, h200, h⟩ := bind_some h
  refine pkk_sound TTok mix hF 9 (hs := [.c, .u (.d (.v (.int .i64 (v_o244.fThings.length : Int)))), .n n]) (ts := []) (s := [2, 3, 0, 1]) (l := [0, 3, 9, 10]) (by kernel_rfl) (by kernel_rfl) (.cons (len_ob (f := eS_ringref5_Thing) (l := v_o244.fThings)) .nil) (G_ringref5_Open_lives_h_L1_ok hF (.b 0 :: .s (cR (cR (cR (bodyOf Try.f23)))) :: []) n v_o244 n 0 0 v_o244.fThings _ h200 ?_)
  cases v_o277 with
  | x0 v_z278 v_z279 =>
    try dsimp only at h
    obtain rfl := Option.some.inj h
    exact pendH_sound TTok mix 5 (hs := [.dl 4, .mv 3]) [2, 3, 14] (by kernel_rfl) (by kernel_rfl) (by kernel_rfl) .nil
inductive G_ringref5_Open_Add_h_C1_R where
  | x0 (v_x212 : Bool) (v_w213 : (List S_ringref5_Thing))
def G_ringref5_Open_Add_h_C1_ex : G_ringref5_Open_Add_h_C1_R → Ex
  | .x0 _ _ => .normal
def G_ringref5_Open_Add_h_C1_st (v_p209 : Int) (v_o208 : S_ringref5_Open) (v_x210 : S_ringref5_Thing) : G_ringref5_Open_Add_h_C1_R → PS
  | .x0 v_x212 v_w213 => ⟨(.ref 2 0 :: .d (.v (.int .i64 v_p209)) :: dd :: dd :: dd :: .ref 4 0 :: (dds 38 (.d (.v (.bool v_x212)) :: (dds 37 [])))), [.gh 0 (.ref 2 0), .gh 1 (.srf 3), .box ([.srf 3] ++ ((cA_t36 v_o208.fFds).map FV.d)), .row 39 5 (v_w213.map eS_ringref5_Thing), .box [.d (.v (.int .i64 v_x210.fKind)), .d (.v (.int .i64 v_x210.fId)), .d (.v (.int .i64 v_x210.fMay)), .d (.v (.bool v_x210.fMore)), .d (.v (.int .i64 v_x210.fAt))]]⟩
def G_ringref5_Open_Add_h_C1_hd (v_p209 : Int) (v_o208 : S_ringref5_Open) (v_x210 : S_ringref5_Thing)  : PS := ⟨(.ref 2 0 :: .d (.v (.int .i64 v_p209)) :: dd :: dd :: dd :: .ref 4 0 :: (dds 76 [])), [.gh 0 (.ref 2 0), .gh 1 (.srf 3), .box ([.srf 3] ++ ((cA_t36 v_o208.fFds).map FV.d)), .row 39 5 (v_o208.fThings.map eS_ringref5_Thing), .box [.d (.v (.int .i64 v_x210.fKind)), .d (.v (.int .i64 v_x210.fId)), .d (.v (.int .i64 v_x210.fMay)), .d (.v (.bool v_x210.fMore)), .d (.v (.int .i64 v_x210.fAt))]]⟩
def G_ringref5_Open_Add_h_C1 (n : Nat) (v_p209 : Int) (v_o208 : S_ringref5_Open) (v_x210 : S_ringref5_Thing) : Option G_ringref5_Open_Add_h_C1_R :=
  if v_p209 < 1 then
   some (.x0 true v_o208.fThings)
  else
   if v_p209 > 16 then
    some (.x0 true v_o208.fThings)
   else
    if v_x210.fKind < 1 then
     some (.x0 true v_o208.fThings)
    else
     if v_x210.fKind > 3 then
      some (.x0 true v_o208.fThings)
     else
      if v_x210.fId < 0 then
       some (.x0 true v_o208.fThings)
      else
       if v_x210.fMay < 0 then
        some (.x0 true v_o208.fThings)
       else
        if v_x210.fMay > 3 then
         some (.x0 true v_o208.fThings)
        else
         some (.x0 (decide (v_x210.fAt < 0)) v_o208.fThings)
theorem G_ringref5_Open_Add_h_C1_ok {Fi : Ex → PS → Prop} (hF : KC 82 Fi) (ks : List Fr) (n : Nat) (v_p209 : Int) (v_o208 : S_ringref5_Open) (v_x210 : S_ringref5_Thing)  (o : G_ringref5_Open_Add_h_C1_R) (h : G_ringref5_Open_Add_h_C1 n v_p209 v_o208 v_x210 = some o) (q : RunE Try.prog 82 Fi ks (G_ringref5_Open_Add_h_C1_ex o) (G_ringref5_Open_Add_h_C1_st v_p209 v_o208 v_x210 o)) : RunE Try.prog 82 Fi (.s (cL (cL (cR (bodyOf Try.f14)))) :: ks) .normal (G_ringref5_Open_Add_h_C1_hd v_p209 v_o208 v_x210) := by
  unfold G_ringref5_Open_Add_h_C1 at h
  by_cases h163 : v_p209 < 1
  · rw [if_pos h163] at h
    cases h
    exact pkk_sound TTok mix hF 1 (hs := [.t true, .c, .c, .c, .c, .c, .c, .c, .c, .c, .c, .c, .c, .c, .c, .c, .c, .c, .c, .c]) (ts := []) (s := [0, 1, 2, 3, 4]) (l := [0, 1, 5, 44]) (by kernel_rfl) (by kernel_rfl) (.cons (dt h163) .nil) q
  · rw [if_neg h163] at h
    by_cases h164 : v_p209 > 16
    · rw [if_pos h164] at h
      cases h
      exact pkk_sound TTok mix hF 1 (hs := [.t false, .c, .t true, .c, .c, .c, .c, .c, .c, .c, .c, .c, .c, .c, .c, .c, .c, .c, .c, .c]) (ts := []) (s := [0, 1, 2, 3, 4]) (l := [0, 1, 5, 44]) (by kernel_rfl) (by kernel_rfl) (.cons (df h163) (.cons (dt h164) .nil)) q
    · rw [if_neg h164] at h
      by_cases h165 : v_x210.fKind < 1
      · rw [if_pos h165] at h
        cases h
        exact pkk_sound TTok mix hF 1 (hs := [.t false, .c, .t false, .c, .c, .c, .t true, .c, .c, .c, .c, .c, .c, .c, .c, .c, .c, .c, .c, .c, .c]) (ts := []) (s := [0, 1, 2, 3, 4]) (l := [0, 1, 5, 44]) (by kernel_rfl) (by kernel_rfl) (.cons (df h163) (.cons (df h164) (.cons (dt h165) .nil))) q
      · rw [if_neg h165] at h
        by_cases h166 : v_x210.fKind > 3
        · rw [if_pos h166] at h
          cases h
          exact pkk_sound TTok mix hF 1 (hs := [.t false, .c, .t false, .c, .c, .c, .t false, .c, .c, .c, .t true, .c, .c, .c, .c, .c, .c, .c, .c, .c, .c, .c]) (ts := []) (s := [0, 1, 2, 3, 4]) (l := [0, 1, 5, 44]) (by kernel_rfl) (by kernel_rfl) (.cons (df h163) (.cons (df h164) (.cons (df h165) (.cons (dt h166) .nil)))) q
        · rw [if_neg h166] at h
          by_cases h167 : v_x210.fId < 0
          · rw [if_pos h167] at h
            cases h
            exact pkk_sound TTok mix hF 1 (hs := [.t false, .c, .t false, .c, .c, .c, .t false, .c, .c, .c, .t false, .c, .c, .c, .t true, .c, .c, .c, .c, .c, .c, .c, .c]) (ts := []) (s := [0, 1, 2, 3, 4]) (l := [0, 1, 5, 44]) (by kernel_rfl) (by kernel_rfl) (.cons (df h163) (.cons (df h164) (.cons (df h165) (.cons (df h166) (.cons (dt h167) .nil))))) q
          · rw [if_neg h167] at h
            by_cases h168 : v_x210.fMay < 0
            · rw [if_pos h168] at h
              cases h
              exact pkk_sound TTok mix hF 1 (hs := [.t false, .c, .t false, .c, .c, .c, .t false, .c, .c, .c, .t false, .c, .c, .c, .t false, .c, .c, .c, .t true, .c, .c, .c, .c, .c]) (ts := []) (s := [0, 1, 2, 3, 4]) (l := [0, 1, 5, 44]) (by kernel_rfl) (by kernel_rfl) (.cons (df h163) (.cons (df h164) (.cons (df h165) (.cons (df h166) (.cons (df h167) (.cons (dt h168) .nil)))))) q
            · rw [if_neg h168] at h
              by_cases h169 : v_x210.fMay > 3
              · rw [if_pos h169] at h
                cases h
                exact pkk_sound TTok mix hF 1 (hs := [.t false, .c, .t false, .c, .c, .c, .t false, .c, .c, .c, .t false, .c, .c, .c, .t false, .c, .c, .c, .t false, .c, .c, .c, .t true, .c, .c]) (ts := []) (s := [0, 1, 2, 3, 4]) (l := [0, 1, 5, 44]) (by kernel_rfl) (by kernel_rfl) (.cons (df h163) (.cons (df h164) (.cons (df h165) (.cons (df h166) (.cons (df h167) (.cons (df h168) (.cons (dt h169) .nil))))))) q
              · rw [if_neg h169] at h
                cases h
                exact pkk_sound TTok mix hF 1 (hs := [.t false, .c, .t false, .c, .c, .c, .t false, .c, .c, .c, .t false, .c, .c, .c, .t false, .c, .c, .c, .t false, .c, .c, .c, .t false, .c, .c, .c]) (ts := []) (s := [0, 1, 2, 3, 4]) (l := [0, 1, 5, 44]) (by kernel_rfl) (by kernel_rfl) (.cons (df h163) (.cons (df h164) (.cons (df h165) (.cons (df h166) (.cons (df h167) (.cons (df h168) (.cons (df h169) .nil))))))) q
/- (*ringhall/ringref5.Open).Add -/
def G_ringref5_Open_Add_h (n : Nat) (v_o208 : S_ringref5_Open) (v_p209 : Int) (v_x210 : S_ringref5_Thing) : Option (Int × Int × S_ringref5_Open) :=
  (G_ringref5_Open_Add_h_C1 n v_p209 v_o208 v_x210).bind fun v_o228 => match v_o228 with
  | .x0 v_z229 v_z230 =>
    if v_z229 = true then
     some (0, 1, (S_ringref5_Open.mk v_z230 v_o208.fFds))
    else
     if 0 ≤ v_p209 ∧ v_p209 < (17 : Int) then
      (getA v_o208.fFds v_p209).bind fun (v_y231 : (Fin 8 → Int)) =>
      (G_slices_Index_int_int n (List.ofFn v_y231) 0).bind fun (v_r243 : (Int)) =>
      if v_r243 < 0 then
       some (0, 6, (S_ringref5_Open.mk v_z230 v_o208.fFds))
      else
       (G_ringref5_Open_lives_h n (S_ringref5_Open.mk v_z230 v_o208.fFds)).bind fun (v_r280 : (Int × S_ringref5_Open)) =>
       if v_r280.1 = 32 then
        some (0, 6, v_r280.2)
       else
        (app 40 v_r280.2.fThings ([v_x210])).bind fun (v_a281 : (List S_ringref5_Thing)) =>
        if 0 ≤ v_p209 ∧ v_p209 < (17 : Int) then
         if 0 ≤ v_r243 ∧ v_r243 < (8 : Int) then
          (getA v_r280.2.fFds v_p209).bind fun (v_y282 : (Fin 8 → Int)) =>
          (getA v_y282 v_r243).bind fun (v_y283 : Int) =>
          some (v_r243, 0, (S_ringref5_Open.mk v_a281 (setA v_r280.2.fFds v_p209 (setA v_y282 v_r243 (v_a281.length : Int)))))
         else none
        else none
     else none
theorem G_ringref5_Open_Add_h_ok (n : Nat) (v_o208 : S_ringref5_Open) (v_p209 : Int) (v_x210 : S_ringref5_Thing) (r : Int × Int × S_ringref5_Open) (h : G_ringref5_Open_Add_h n v_o208 v_p209 v_x210 = some r) : RetH Try.prog 14 [.ref 0 0, .d ((eI .i64) v_p209), .d (eS_ringref5_Thing v_x210)] [.box ([.srf 1] ++ ((cA_t36 v_o208.fFds).map FV.d)), .row 39 5 (v_o208.fThings.map eS_ringref5_Thing)] (.tup [.d ((eI .i64) r.1), .d ((eI .i64) r.2.1)]) [.box ([.srf 2] ++ ((cA_t36 r.2.2.fFds).map FV.d)), .none, .row 39 5 (r.2.2.fThings.map eS_ringref5_Thing)] := by
  refine retH_run (n := 82) (fn := Try.f14) (c := bodyOf Try.f14) (by kernel_rfl) (by kernel_rfl) (by kernel_rfl) (by kernel_rfl) ?_
  have hF : KC 82 (FinH Try.prog Try.f14 [.box ([.srf 1] ++ ((cA_t36 v_o208.fFds).map FV.d)), .row 39 5 (v_o208.fThings.map eS_ringref5_Thing)] (.tup [.d ((eI .i64) r.1), .d ((eI .i64) r.2.1)]) [.box ([.srf 2] ++ ((cA_t36 r.2.2.fFds).map FV.d)), .none, .row 39 5 (r.2.2.fThings.map eS_ringref5_Thing)]) := FinH.kc' (by kernel_rfl)
  unfold G_ringref5_Open_Add_h at h
  obtain ⟨v_o228, h170, h⟩ := bind_some h
  refine pkk_sound TTok mix hF 4 (hs := []) (ts := []) (s := [2, 3, 0, 1, 4]) (l := [0, 1, 5]) (by kernel_rfl) (by kernel_rfl) .nil (G_ringref5_Open_Add_h_C1_ok hF (.s (cR (cL (cR (bodyOf Try.f14)))) :: .s (cR (cR (bodyOf Try.f14))) :: []) n v_p209 v_o208 v_x210 _ h170 ?_)
  cases v_o228 with
  | x0 v_z229 v_z230 =>
    try dsimp only at h
    by_cases h171 : v_z229 = true
    · rw [if_pos h171] at h
      obtain rfl := Option.some.inj h
      exact pendH_sound TTok mix 6 (hs := [.t true, .dl 4, .mv 3]) [2, 3, 15] (by kernel_rfl) (by kernel_rfl) (by kernel_rfl) (.cons h171 .nil)
    · rw [if_neg h171] at h
      by_cases h172 : 0 ≤ v_p209 ∧ v_p209 < (17 : Int)
      · rw [if_pos h172] at h
        obtain ⟨v_y231, h173, h⟩ := bind_some h
        obtain ⟨v_r243, h180, h⟩ := bind_some h
        by_cases h181 : v_r243 < 0
        · rw [if_pos h181] at h
          obtain rfl := Option.some.inj h
          exact pendH_sound TTok mix 13 (hs := [.t false, .c, .e 35 [2] (.d (.v (.int .i64 v_r243))) [], .t true, .c, .c, .c, .dl 4, .mv 3]) [2, 3, 90] (by kernel_rfl) (by kernel_rfl) (by kernel_rfl) (.cons (vf h171) (.cons h172 (.cons (show (0 : Int) ≤ 0 by decide) (.cons (show (0 : Int) ≤ 8 by decide) (.cons (show (8 : Int) ≤ 8 by decide) (.cons (show (0 : Int) < 8 by decide) (.cons (acall (P := Try.prog) (T := TT) (f := .func 22) (args := #[(.tmp 50), (.const (.int .i64 0))]) (tys := #[69, 3]) (g := 22) (l := 2) (off := 1 + (v_p209).toNat * 8) (k := 8) (c := 8) (cs := ([.srf 3] ++ ((cA_t36 v_o208.fFds).map FV.d))) (ys := ((List.ofFn v_y231).map (eI .i64))) (ps := [.v (.int .i64 0)]) (arr_take (γ := FV) (sz := 8) (g := (fun x => [.d (.v (.int .i64 (x 0))), .d (.v (.int .i64 (x 1))), .d (.v (.int .i64 (x 2))), .d (.v (.int .i64 (x 3))), .d (.v (.int .i64 (x 4))), .d (.v (.int .i64 (x 5))), .d (.v (.int .i64 (x 6))), .d (.v (.int .i64 (x 7)))])) (pre := [.srf 3]) (post := []) (fun _ => rfl) h173) (all_fits (fun _ => rfl)) (G_slices_Index_int_int_ok n (List.ofFn v_y231) 0 _ h180) (by rfl)) (.cons (dt h181) .nil))))))))
        · rw [if_neg h181] at h
          obtain ⟨v_r280, h201, h⟩ := bind_some h
          by_cases h202 : v_r280.1 = 32
          · rw [if_pos h202] at h
            obtain rfl := Option.some.inj h
            exact pendH_sound TTok mix 12 (hs := [.t false, .c, .e 35 [2] (.d (.v (.int .i64 v_r243))) [], .t false, .c, .h [2, 3] [] [.box ([.srf 2] ++ ((cA_t36 v_r280.2.fFds).map FV.d)), .none, .row 39 5 (v_r280.2.fThings.map eS_ringref5_Thing)] (.d (.v (.int .i64 v_r280.1))), .c, .t true]) [2, 3, 65] (by kernel_rfl) (by kernel_rfl) (by kernel_rfl) (.cons (vf h171) (.cons h172 (.cons (show (0 : Int) ≤ 0 by decide) (.cons (show (0 : Int) ≤ 8 by decide) (.cons (show (8 : Int) ≤ 8 by decide) (.cons (show (0 : Int) < 8 by decide) (.cons (acall (P := Try.prog) (T := TT) (f := .func 22) (args := #[(.tmp 50), (.const (.int .i64 0))]) (tys := #[69, 3]) (g := 22) (l := 2) (off := 1 + (v_p209).toNat * 8) (k := 8) (c := 8) (cs := ([.srf 3] ++ ((cA_t36 v_o208.fFds).map FV.d))) (ys := ((List.ofFn v_y231).map (eI .i64))) (ps := [.v (.int .i64 0)]) (arr_take (γ := FV) (sz := 8) (g := (fun x => [.d (.v (.int .i64 (x 0))), .d (.v (.int .i64 (x 1))), .d (.v (.int .i64 (x 2))), .d (.v (.int .i64 (x 3))), .d (.v (.int .i64 (x 4))), .d (.v (.int .i64 (x 5))), .d (.v (.int .i64 (x 6))), .d (.v (.int .i64 (x 7)))])) (pre := [.srf 3]) (post := []) (fun _ => rfl) h173) (all_fits (fun _ => rfl)) (G_slices_Index_int_int_ok n (List.ofFn v_y231) 0 _ h180) (by rfl)) (.cons (df h181) (.cons (G_ringref5_Open_lives_h_ok n (S_ringref5_Open.mk v_z230 v_o208.fFds) _ h201) (.cons (bt h202) .nil))))))))))
          · rw [if_neg h202] at h
            obtain ⟨v_a281, h203, h⟩ := bind_some h
            by_cases h204 : 0 ≤ v_p209 ∧ v_p209 < (17 : Int)
            · rw [if_pos h204] at h
              by_cases h205 : 0 ≤ v_r243 ∧ v_r243 < (8 : Int)
              · rw [if_pos h205] at h
                obtain ⟨v_y282, h206, h⟩ := bind_some h
                obtain ⟨v_y283, h207, h⟩ := bind_some h
                obtain rfl := Option.some.inj h
                exact pendH_sound TTok mix 16 (hs := [.t false, .c, .e 35 [2] (.d (.v (.int .i64 v_r243))) [], .t false, .c, .h [2, 3] [] [.box ([.srf 2] ++ ((cA_t36 v_r280.2.fFds).map FV.d)), .none, .row 39 5 (v_r280.2.fThings.map eS_ringref5_Thing)] (.d (.v (.int .i64 v_r280.1))), .c, .t false, .c, .c, .bd, .w (v_a281.map eS_ringref5_Thing), .c, .c, .u (.d (.v (.int .i64 (v_a281.length : Int)))), .x ([.srf 115] ++ ((cA_t36 (setA v_r280.2.fFds v_p209 (setA v_y282 v_r243 (v_a281.length : Int)))).map FV.d)), .c]) [2, 3, 115] (by kernel_rfl) (by kernel_rfl) (by kernel_rfl) (.cons (vf h171) (.cons h172 (.cons (show (0 : Int) ≤ 0 by decide) (.cons (show (0 : Int) ≤ 8 by decide) (.cons (show (8 : Int) ≤ 8 by decide) (.cons (show (0 : Int) < 8 by decide) (.cons (acall (P := Try.prog) (T := TT) (f := .func 22) (args := #[(.tmp 50), (.const (.int .i64 0))]) (tys := #[69, 3]) (g := 22) (l := 2) (off := 1 + (v_p209).toNat * 8) (k := 8) (c := 8) (cs := ([.srf 3] ++ ((cA_t36 v_o208.fFds).map FV.d))) (ys := ((List.ofFn v_y231).map (eI .i64))) (ps := [.v (.int .i64 0)]) (arr_take (γ := FV) (sz := 8) (g := (fun x => [.d (.v (.int .i64 (x 0))), .d (.v (.int .i64 (x 1))), .d (.v (.int .i64 (x 2))), .d (.v (.int .i64 (x 3))), .d (.v (.int .i64 (x 4))), .d (.v (.int .i64 (x 5))), .d (.v (.int .i64 (x 6))), .d (.v (.int .i64 (x 7)))])) (pre := [.srf 3]) (post := []) (fun _ => rfl) h173) (all_fits (fun _ => rfl)) (G_slices_Index_int_int_ok n (List.ofFn v_y231) 0 _ h180) (by rfl)) (.cons (df h181) (.cons (G_ringref5_Open_lives_h_ok n (S_ringref5_Open.mk v_z230 v_o208.fFds) _ h201) (.cons (bf h202) (.cons (app_ob (f := eS_ringref5_Thing) (s := 5) h203 (fun _ => rfl)).1 (.cons (app_ob (f := eS_ringref5_Thing) (s := 5) h203 (fun _ => rfl)).2.1 (.cons (app_ob (f := eS_ringref5_Thing) (s := 5) h203 (fun _ => rfl)).2.2.1 (.cons (app_ob (f := eS_ringref5_Thing) (s := 5) h203 (fun _ => rfl)).2.2.2 (.cons (show 0 + 1 ≤ 137 by decide) (.cons (len_ob (f := eS_ringref5_Thing) (l := v_a281)) (.cons h204 (.cons h205 (.cons (arr_store2 (γ := FV) (sz := 8) (g := (fun x => [.d (.v (.int .i64 (x 0))), .d (.v (.int .i64 (x 1))), .d (.v (.int .i64 (x 2))), .d (.v (.int .i64 (x 3))), .d (.v (.int .i64 (x 4))), .d (.v (.int .i64 (x 5))), .d (.v (.int .i64 (x 6))), .d (.v (.int .i64 (x 7)))])) (pre := [.srf 115]) (post := []) (P0 := 1) (o := 0 + (v_r243).toNat * 1 + 0) (y := (setA v_y282 v_r243 (v_a281.length : Int))) (zs := [.d (.v (.int .i64 (v_a281.length : Int)))]) rfl (fun _ => rfl) h206 (arr_store2 (γ := FV) (sz := 1) (g := (fun x => [.d (.v (.int .i64 x))])) (pre := []) (post := []) (P0 := 0) (o := 0) (y := (v_a281.length : Int)) (zs := [.d (.v (.int .i64 (v_a281.length : Int)))]) rfl (fun _ => rfl) h207 rfl (Nat.le_of_ble_eq_true rfl) (idx := 0 + (v_r243).toNat * 1 + 0) (by omega)).2 (arr_store2 (γ := FV) (sz := 1) (g := (fun x => [.d (.v (.int .i64 x))])) (pre := []) (post := []) (P0 := 0) (o := 0) (y := (v_a281.length : Int)) (zs := [.d (.v (.int .i64 (v_a281.length : Int)))]) rfl (fun _ => rfl) h207 rfl (Nat.le_of_ble_eq_true rfl) (idx := 0 + (v_r243).toNat * 1 + 0) (by omega)).1 (idx := 1 + (v_p209).toNat * 8 + (v_r243).toNat * 1) (by omega)).1 (.cons (arr_store2 (γ := FV) (sz := 8) (g := (fun x => [.d (.v (.int .i64 (x 0))), .d (.v (.int .i64 (x 1))), .d (.v (.int .i64 (x 2))), .d (.v (.int .i64 (x 3))), .d (.v (.int .i64 (x 4))), .d (.v (.int .i64 (x 5))), .d (.v (.int .i64 (x 6))), .d (.v (.int .i64 (x 7)))])) (pre := [.srf 115]) (post := []) (P0 := 1) (o := 0 + (v_r243).toNat * 1 + 0) (y := (setA v_y282 v_r243 (v_a281.length : Int))) (zs := [.d (.v (.int .i64 (v_a281.length : Int)))]) rfl (fun _ => rfl) h206 (arr_store2 (γ := FV) (sz := 1) (g := (fun x => [.d (.v (.int .i64 x))])) (pre := []) (post := []) (P0 := 0) (o := 0) (y := (v_a281.length : Int)) (zs := [.d (.v (.int .i64 (v_a281.length : Int)))]) rfl (fun _ => rfl) h207 rfl (Nat.le_of_ble_eq_true rfl) (idx := 0 + (v_r243).toNat * 1 + 0) (by omega)).2 (arr_store2 (γ := FV) (sz := 1) (g := (fun x => [.d (.v (.int .i64 x))])) (pre := []) (post := []) (P0 := 0) (o := 0) (y := (v_a281.length : Int)) (zs := [.d (.v (.int .i64 (v_a281.length : Int)))]) rfl (fun _ => rfl) h207 rfl (Nat.le_of_ble_eq_true rfl) (idx := 0 + (v_r243).toNat * 1 + 0) (by omega)).1 (idx := 1 + (v_p209).toNat * 8 + (v_r243).toNat * 1) (by omega)).2 .nil))))))))))))))))))))
              · rw [if_neg h205] at h; cases h
            · rw [if_neg h204] at h; cases h
      · rw [if_neg h172] at h; cases h
/- (*ringhall/open.Table).Get -/
def G_open_Table_Get_h (n : Nat) (v_t285 : S_open_Table) (v_p286 : Int) (v_fd287 : Int) : Option (S_open_Thing × Int × S_open_Table) :=
  (G_open_Table_find_h n v_t285 v_p286 v_fd287).bind fun (v_r288 : (Option Int) × Int × S_open_Table) => match v_r288 with
  | (none, v_r288_1, v_r288_2) =>
    if v_r288_1 = 0 then
     none
    else
     some ((S_open_Thing.mk 0 0 0 false 0), v_r288_1, v_r288_2)
  | (some v_r288_0, v_r288_1, v_r288_2) =>
    if v_r288_1 = 0 then
     (getA v_r288_2.ffiles v_r288_0).bind fun (v_y289 : S_open_file) =>
     some (v_y289.fThing, 0, v_r288_2)
    else
     some ((S_open_Thing.mk 0 0 0 false 0), v_r288_1, v_r288_2)
theorem G_open_Table_Get_h_ok (n : Nat) (v_t285 : S_open_Table) (v_p286 : Int) (v_fd287 : Int) (r : S_open_Thing × Int × S_open_Table) (h : G_open_Table_Get_h n v_t285 v_p286 v_fd287 = some r) : RetH Try.prog 15 [.ref 0 0, .d ((eI .i64) v_p286), .d ((eI .i64) v_fd287)] [.box ((cS_open_Table v_t285).map FV.d)] (.tup [.d (eS_open_Thing r.1), .d ((eI .i64) r.2.1)]) [.box ((cS_open_Table r.2.2).map FV.d)] := by
  refine retH_run (n := 25) (fn := Try.f15) (c := bodyOf Try.f15) (by kernel_rfl) (by kernel_rfl) (by kernel_rfl) (by kernel_rfl) ?_
  have hF : KC 25 (FinH Try.prog Try.f15 [.box ((cS_open_Table v_t285).map FV.d)] (.tup [.d (eS_open_Thing r.1), .d ((eI .i64) r.2.1)]) [.box ((cS_open_Table r.2.2).map FV.d)]) := FinH.kc' (by kernel_rfl)
  unfold G_open_Table_Get_h at h
  obtain ⟨v_r288, h211, h⟩ := bind_some h
  match v_r288, h211, h with
  | (none, v_r288_1, v_r288_2), h211, h =>
    try dsimp only at h
    by_cases h212 : v_r288_1 = 0
    · rw [if_pos h212] at h
      cases h
    · rw [if_neg h212] at h
      obtain rfl := Option.some.inj h
      exact pendH_sound TTok mix 12 (hs := [.h [0] [] [.box ((cS_open_Table v_r288_2).map FV.d)] (.tup [.d (.v (.pointer none)), .d (.v (.int .i64 v_r288_1))]), .t true, .c]) [0] (by kernel_rfl) (by kernel_rfl) (by kernel_rfl) (.cons (G_open_Table_find_h_ok n v_t285 v_p286 v_fd287 _ h211) (.cons (nt h212) (.cons (show 0 + 5 ≤ 5 by decide) .nil)))
  | (some v_r288_0, v_r288_1, v_r288_2), h211, h =>
    try dsimp only at h
    by_cases h214 : v_r288_1 = 0
    · rw [if_pos h214] at h
      obtain ⟨v_y289, h215, h⟩ := bind_some h
      obtain rfl := Option.some.inj h
      exact pendH_sound TTok mix 12 (hs := [.h [0] [] [.box ((cS_open_Table v_r288_2).map FV.d)] (.tup [.ref 0 (0 + (v_r288_0).toNat * 6), .d (.v (.int .i64 v_r288_1))]), .t false, .l (.d (.agg [.v (.int .i64 v_y289.fThing.fKind), .v (.int .i64 v_y289.fThing.fId), .v (.int .i64 v_y289.fThing.fMay), .v (.bool v_y289.fThing.fMore), .v (.int .i64 v_y289.fThing.fAt)])), .c]) [0] (by kernel_rfl) (by kernel_rfl) (by kernel_rfl) (.cons (G_open_Table_find_h_ok n v_t285 v_p286 v_fd287 _ h211) (.cons (nf h214) (.cons (And.intro (congrArg mkAgg (arr_part2 (γ := FV) (sz := 6) (g := (fun x => [.d (.v (.int .i64 x.fThing.fKind)), .d (.v (.int .i64 x.fThing.fId)), .d (.v (.int .i64 x.fThing.fMay)), .d (.v (.bool x.fThing.fMore)), .d (.v (.int .i64 x.fThing.fAt)), .d (.v (.int .i64 x.fn))])) (pre := []) (post := ((cA_t36 v_r288_2.ffds).map FV.d)) (P0 := 0) (o := 0) (k := 5) rfl (fun _ => rfl) h215 (Nat.le_of_ble_eq_true rfl) (idx := (0 + (v_r288_0).toNat * 6)) (by omega)).1) (arr_part2 (γ := FV) (sz := 6) (g := (fun x => [.d (.v (.int .i64 x.fThing.fKind)), .d (.v (.int .i64 x.fThing.fId)), .d (.v (.int .i64 x.fThing.fMay)), .d (.v (.bool x.fThing.fMore)), .d (.v (.int .i64 x.fThing.fAt)), .d (.v (.int .i64 x.fn))])) (pre := []) (post := ((cA_t36 v_r288_2.ffds).map FV.d)) (P0 := 0) (o := 0) (k := 5) rfl (fun _ => rfl) h215 (Nat.le_of_ble_eq_true rfl) (idx := (0 + (v_r288_0).toNat * 6)) (by omega)).2) (.cons (show 0 + 5 ≤ 5 by decide) .nil))))
    · rw [if_neg h214] at h
      obtain rfl := Option.some.inj h
      exact pendH_sound TTok mix 12 (hs := [.h [0] [] [.box ((cS_open_Table v_r288_2).map FV.d)] (.tup [.ref 0 (0 + (v_r288_0).toNat * 6), .d (.v (.int .i64 v_r288_1))]), .t true, .c]) [0] (by kernel_rfl) (by kernel_rfl) (by kernel_rfl) (.cons (G_open_Table_find_h_ok n v_t285 v_p286 v_fd287 _ h211) (.cons (nt h214) (.cons (show 0 + 5 ≤ 5 by decide) .nil)))
/- (*ringhall/ringref5.Open).At -/
def G_ringref5_Open_At_h (n : Nat) (v_o291 : S_ringref5_Open) (v_p292 : Int) (v_fd293 : Int) : Option (Nat × S_ringref5_Open) :=
  if 0 ≤ v_p292 ∧ v_p292 < (17 : Int) then
   if 0 ≤ v_fd293 ∧ v_fd293 < (8 : Int) then
    (getA v_o291.fFds v_p292).bind fun (v_y294 : (Fin 8 → Int)) =>
    (getA v_y294 v_fd293).bind fun (v_y295 : Int) =>
    if 0 ≤ (wi .i64 (v_y295 - 1)) ∧ ((wi .i64 (v_y295 - 1))).toNat < v_o291.fThings.length then
     some (((wi .i64 (v_y295 - 1))).toNat, v_o291)
    else none
   else none
  else none
theorem G_ringref5_Open_At_h_ok (n : Nat) (v_o291 : S_ringref5_Open) (v_p292 : Int) (v_fd293 : Int) (r : Nat × S_ringref5_Open) (h : G_ringref5_Open_At_h n v_o291 v_p292 v_fd293 = some r) : RetH Try.prog 16 [.ref 0 0, .d ((eI .i64) v_p292), .d ((eI .i64) v_fd293)] [.box ([.srf 1] ++ ((cA_t36 v_o291.fFds).map FV.d)), .row 39 5 (v_o291.fThings.map eS_ringref5_Thing)] (.ept 2 5 r.1 0) [.box ([.srf 2] ++ ((cA_t36 r.2.fFds).map FV.d)), .none, .row 39 5 (r.2.fThings.map eS_ringref5_Thing)] := by
  refine retH_run (n := 21) (fn := Try.f16) (c := bodyOf Try.f16) (by kernel_rfl) (by kernel_rfl) (by kernel_rfl) (by kernel_rfl) ?_
  have hF : KC 21 (FinH Try.prog Try.f16 [.box ([.srf 1] ++ ((cA_t36 v_o291.fFds).map FV.d)), .row 39 5 (v_o291.fThings.map eS_ringref5_Thing)] (.ept 2 5 r.1 0) [.box ([.srf 2] ++ ((cA_t36 r.2.fFds).map FV.d)), .none, .row 39 5 (r.2.fThings.map eS_ringref5_Thing)]) := FinH.kc' (by kernel_rfl)
  unfold G_ringref5_Open_At_h at h
  by_cases h220 : 0 ≤ v_p292 ∧ v_p292 < (17 : Int)
  · rw [if_pos h220] at h
    by_cases h221 : 0 ≤ v_fd293 ∧ v_fd293 < (8 : Int)
    · rw [if_pos h221] at h
      obtain ⟨v_y294, h222, h⟩ := bind_some h
      obtain ⟨v_y295, h223, h⟩ := bind_some h
      by_cases h224 : 0 ≤ (wi .i64 (v_y295 - 1)) ∧ ((wi .i64 (v_y295 - 1))).toNat < v_o291.fThings.length
      · rw [if_pos h224] at h
        obtain rfl := Option.some.inj h
        exact pendH_sound TTok mix 6 (hs := [.c, .l (.d (.v (.int .i64 v_y295))), .dl 1, .mv 1]) [0, 1, 84] (by kernel_rfl) (by kernel_rfl) (by kernel_rfl) (.cons h220 (.cons h221 (.cons (arr_cell2 (γ := FV) (sz := 8) (g := (fun x => [.d (.v (.int .i64 (x 0))), .d (.v (.int .i64 (x 1))), .d (.v (.int .i64 (x 2))), .d (.v (.int .i64 (x 3))), .d (.v (.int .i64 (x 4))), .d (.v (.int .i64 (x 5))), .d (.v (.int .i64 (x 6))), .d (.v (.int .i64 (x 7)))])) (pre := [.srf 1]) (post := []) (P0 := 1) (o := 0 + (v_fd293).toNat * 1 + 0) rfl (fun _ => rfl) h222 (arr_cell2 (γ := FV) (sz := 1) (g := (fun x => [.d (.v (.int .i64 x))])) (pre := []) (post := []) (P0 := 0) (o := 0) rfl (fun _ => rfl) h223 rfl (idx := 0 + (v_fd293).toNat * 1 + 0) (by omega)) (idx := 1 + (v_p292).toNat * 8 + (v_fd293).toNat * 1) (by omega)) (.cons (idx_ob (f := eS_ringref5_Thing) h224) .nil))))
      · rw [if_neg h224] at h; cases h
    · rw [if_neg h221] at h; cases h
  · rw [if_neg h220] at h; cases h
/- (*ringhall/open.Table).Seek -/
def G_open_Table_Seek_h (n : Nat) (v_t328 : S_open_Table) (v_p329 : Int) (v_fd330 : Int) (v_at331 : Int) : Option (Int × S_open_Table) :=
  (G_open_Table_find_h n v_t328 v_p329 v_fd330).bind fun (v_r332 : (Option Int) × Int × S_open_Table) => match v_r332 with
  | (none, v_r332_1, v_r332_2) =>
    if v_r332_1 = 0 then
     if v_at331 < 0 then
      some (1, v_r332_2)
     else
      if v_at331 > 512 then
       some (1, v_r332_2)
      else
       none
    else
     some (v_r332_1, v_r332_2)
  | (some v_r332_0, v_r332_1, v_r332_2) =>
    if v_r332_1 = 0 then
     if v_at331 < 0 then
      some (1, v_r332_2)
     else
      if v_at331 > 512 then
       some (1, v_r332_2)
      else
       (getA v_r332_2.ffiles v_r332_0).bind fun (v_y333 : S_open_file) =>
       some (0, (S_open_Table.mk (setA v_r332_2.ffiles v_r332_0 (S_open_file.mk (S_open_Thing.mk v_y333.fThing.fKind v_y333.fThing.fId v_y333.fThing.fMay v_y333.fThing.fMore v_at331) v_y333.fn)) v_r332_2.ffds))
    else
     some (v_r332_1, v_r332_2)
theorem G_open_Table_Seek_h_ok (n : Nat) (v_t328 : S_open_Table) (v_p329 : Int) (v_fd330 : Int) (v_at331 : Int) (r : Int × S_open_Table) (h : G_open_Table_Seek_h n v_t328 v_p329 v_fd330 v_at331 = some r) : RetH Try.prog 17 [.ref 0 0, .d ((eI .i64) v_p329), .d ((eI .i64) v_fd330), .d ((eI .i64) v_at331)] [.box ((cS_open_Table v_t328).map FV.d)] (.d ((eI .i64) r.1)) [.box ((cS_open_Table r.2).map FV.d)] := by
  refine retH_run (n := 32) (fn := Try.f17) (c := bodyOf Try.f17) (by kernel_rfl) (by kernel_rfl) (by kernel_rfl) (by kernel_rfl) ?_
  have hF : KC 32 (FinH Try.prog Try.f17 [.box ((cS_open_Table v_t328).map FV.d)] (.d ((eI .i64) r.1)) [.box ((cS_open_Table r.2).map FV.d)]) := FinH.kc' (by kernel_rfl)
  unfold G_open_Table_Seek_h at h
  obtain ⟨v_r332, h242, h⟩ := bind_some h
  match v_r332, h242, h with
  | (none, v_r332_1, v_r332_2), h242, h =>
    try dsimp only at h
    by_cases h243 : v_r332_1 = 0
    · rw [if_pos h243] at h
      by_cases h244 : v_at331 < 0
      · rw [if_pos h244] at h
        obtain rfl := Option.some.inj h
        exact pendH_sound TTok mix 17 (hs := [.h [0] [] [.box ((cS_open_Table v_r332_2).map FV.d)] (.tup [.d (.v (.pointer none)), .d (.v (.int .i64 v_r332_1))]), .t false, .t true, .c, .c]) [0] (by kernel_rfl) (by kernel_rfl) (by kernel_rfl) (.cons (G_open_Table_find_h_ok n v_t328 v_p329 v_fd330 _ h242) (.cons (nf h243) (.cons (dt h244) .nil)))
      · rw [if_neg h244] at h
        by_cases h245 : v_at331 > 512
        · rw [if_pos h245] at h
          obtain rfl := Option.some.inj h
          exact pendH_sound TTok mix 17 (hs := [.h [0] [] [.box ((cS_open_Table v_r332_2).map FV.d)] (.tup [.d (.v (.pointer none)), .d (.v (.int .i64 v_r332_1))]), .t false, .t false, .c, .t true]) [0] (by kernel_rfl) (by kernel_rfl) (by kernel_rfl) (.cons (G_open_Table_find_h_ok n v_t328 v_p329 v_fd330 _ h242) (.cons (nf h243) (.cons (df h244) (.cons (dt h245) .nil))))
        · rw [if_neg h245] at h
          cases h
    · rw [if_neg h243] at h
      obtain rfl := Option.some.inj h
      exact pendH_sound TTok mix 12 (hs := [.h [0] [] [.box ((cS_open_Table v_r332_2).map FV.d)] (.tup [.d (.v (.pointer none)), .d (.v (.int .i64 v_r332_1))]), .t true]) [0] (by kernel_rfl) (by kernel_rfl) (by kernel_rfl) (.cons (G_open_Table_find_h_ok n v_t328 v_p329 v_fd330 _ h242) (.cons (nt h243) .nil))
  | (some v_r332_0, v_r332_1, v_r332_2), h242, h =>
    try dsimp only at h
    by_cases h246 : v_r332_1 = 0
    · rw [if_pos h246] at h
      by_cases h247 : v_at331 < 0
      · rw [if_pos h247] at h
        obtain rfl := Option.some.inj h
        exact pendH_sound TTok mix 17 (hs := [.h [0] [] [.box ((cS_open_Table v_r332_2).map FV.d)] (.tup [.ref 0 (0 + (v_r332_0).toNat * 6), .d (.v (.int .i64 v_r332_1))]), .t false, .t true, .c, .c]) [0] (by kernel_rfl) (by kernel_rfl) (by kernel_rfl) (.cons (G_open_Table_find_h_ok n v_t328 v_p329 v_fd330 _ h242) (.cons (nf h246) (.cons (dt h247) .nil)))
      · rw [if_neg h247] at h
        by_cases h248 : v_at331 > 512
        · rw [if_pos h248] at h
          obtain rfl := Option.some.inj h
          exact pendH_sound TTok mix 17 (hs := [.h [0] [] [.box ((cS_open_Table v_r332_2).map FV.d)] (.tup [.ref 0 (0 + (v_r332_0).toNat * 6), .d (.v (.int .i64 v_r332_1))]), .t false, .t false, .c, .t true]) [0] (by kernel_rfl) (by kernel_rfl) (by kernel_rfl) (.cons (G_open_Table_find_h_ok n v_t328 v_p329 v_fd330 _ h242) (.cons (nf h246) (.cons (df h247) (.cons (dt h248) .nil))))
        · rw [if_neg h248] at h
          obtain ⟨v_y333, h249, h⟩ := bind_some h
          obtain rfl := Option.some.inj h
          exact pendH_sound TTok mix 19 (hs := [.h [0] [] [.box ((cS_open_Table v_r332_2).map FV.d)] (.tup [.ref 0 (0 + (v_r332_0).toNat * 6), .d (.v (.int .i64 v_r332_1))]), .t false, .t false, .c, .t false, .x ((cS_open_Table (S_open_Table.mk (setA v_r332_2.ffiles v_r332_0 (S_open_file.mk (S_open_Thing.mk v_y333.fThing.fKind v_y333.fThing.fId v_y333.fThing.fMay v_y333.fThing.fMore v_at331) v_y333.fn)) v_r332_2.ffds)).map FV.d), .c]) [0] (by kernel_rfl) (by kernel_rfl) (by kernel_rfl) (.cons (G_open_Table_find_h_ok n v_t328 v_p329 v_fd330 _ h242) (.cons (nf h246) (.cons (df h247) (.cons (df h248) (.cons (arr_store (γ := FV) (sz := 6) (g := (fun x => [.d (.v (.int .i64 x.fThing.fKind)), .d (.v (.int .i64 x.fThing.fId)), .d (.v (.int .i64 x.fThing.fMay)), .d (.v (.bool x.fThing.fMore)), .d (.v (.int .i64 x.fThing.fAt)), .d (.v (.int .i64 x.fn))])) (pre := []) (post := ((cA_t36 v_r332_2.ffds).map FV.d)) (o := 4) (y := (S_open_file.mk (S_open_Thing.mk v_y333.fThing.fKind v_y333.fThing.fId v_y333.fThing.fMay v_y333.fThing.fMore v_at331) v_y333.fn)) (zs := [.d (.v (.int .i64 v_at331))]) (fun _ => rfl) h249 rfl (Nat.le_of_ble_eq_true rfl)).1 (.cons (arr_store (γ := FV) (sz := 6) (g := (fun x => [.d (.v (.int .i64 x.fThing.fKind)), .d (.v (.int .i64 x.fThing.fId)), .d (.v (.int .i64 x.fThing.fMay)), .d (.v (.bool x.fThing.fMore)), .d (.v (.int .i64 x.fThing.fAt)), .d (.v (.int .i64 x.fn))])) (pre := []) (post := ((cA_t36 v_r332_2.ffds).map FV.d)) (o := 4) (y := (S_open_file.mk (S_open_Thing.mk v_y333.fThing.fKind v_y333.fThing.fId v_y333.fThing.fMay v_y333.fThing.fMore v_at331) v_y333.fn)) (zs := [.d (.v (.int .i64 v_at331))]) (fun _ => rfl) h249 rfl (Nat.le_of_ble_eq_true rfl)).2 .nil))))))
    · rw [if_neg h246] at h
      obtain rfl := Option.some.inj h
      exact pendH_sound TTok mix 12 (hs := [.h [0] [] [.box ((cS_open_Table v_r332_2).map FV.d)] (.tup [.ref 0 (0 + (v_r332_0).toNat * 6), .d (.v (.int .i64 v_r332_1))]), .t true]) [0] (by kernel_rfl) (by kernel_rfl) (by kernel_rfl) (.cons (G_open_Table_find_h_ok n v_t328 v_p329 v_fd330 _ h242) (.cons (nt h246) .nil))
/- (*ringhall/ringref5.Open).Less -/
def G_ringref5_Open_Less_h (n : Nat) (v_o362 : S_ringref5_Open) (v_p363 : Int) (v_fd364 : Int) : Option (S_ringref5_Thing × Bool × S_ringref5_Open) :=
  if 0 ≤ v_p363 ∧ v_p363 < (17 : Int) then
   if 0 ≤ v_fd364 ∧ v_fd364 < (8 : Int) then
    (getA v_o362.fFds v_p363).bind fun (v_y365 : (Fin 8 → Int)) =>
    (getA v_y365 v_fd364).bind fun (v_y366 : Int) =>
    if 0 ≤ v_p363 ∧ v_p363 < (17 : Int) then
     if 0 ≤ v_fd364 ∧ v_fd364 < (8 : Int) then
      (getA v_o362.fFds v_p363).bind fun (v_y367 : (Fin 8 → Int)) =>
      (getA v_y367 v_fd364).bind fun (v_y368 : Int) =>
      if 0 ≤ (wi .i64 (v_y366 - 1)) ∧ ((wi .i64 (v_y366 - 1))).toNat < v_o362.fThings.length then
       (v_o362.fThings[((wi .i64 (v_y366 - 1))).toNat]?).bind fun (v_y369 : S_ringref5_Thing) =>
       (G_ringref5_Open_uses n (S_ringref5_Open.mk v_o362.fThings (setA v_o362.fFds v_p363 (setA v_y367 v_fd364 0))) (wi .i64 (v_y366 - 1))).bind fun (v_r370 : (Int)) =>
       some (v_y369, (v_r370 == 0), (S_ringref5_Open.mk v_o362.fThings (setA v_o362.fFds v_p363 (setA v_y367 v_fd364 0))))
      else none
     else none
    else none
   else none
  else none
theorem G_ringref5_Open_Less_h_ok (n : Nat) (v_o362 : S_ringref5_Open) (v_p363 : Int) (v_fd364 : Int) (r : S_ringref5_Thing × Bool × S_ringref5_Open) (h : G_ringref5_Open_Less_h n v_o362 v_p363 v_fd364 = some r) : RetH Try.prog 18 [.ref 0 0, .d ((eI .i64) v_p363), .d ((eI .i64) v_fd364)] [.box ([.srf 1] ++ ((cA_t36 v_o362.fFds).map FV.d)), .row 39 5 (v_o362.fThings.map eS_ringref5_Thing)] (.tup [.d (eS_ringref5_Thing r.1), .d (eB r.2.1)]) [.box ([.srf 2] ++ ((cA_t36 r.2.2.fFds).map FV.d)), .none, .row 39 5 (r.2.2.fThings.map eS_ringref5_Thing)] := by
  refine retH_run (n := 36) (fn := Try.f18) (c := bodyOf Try.f18) (by kernel_rfl) (by kernel_rfl) (by kernel_rfl) (by kernel_rfl) ?_
  have hF : KC 36 (FinH Try.prog Try.f18 [.box ([.srf 1] ++ ((cA_t36 v_o362.fFds).map FV.d)), .row 39 5 (v_o362.fThings.map eS_ringref5_Thing)] (.tup [.d (eS_ringref5_Thing r.1), .d (eB r.2.1)]) [.box ([.srf 2] ++ ((cA_t36 r.2.2.fFds).map FV.d)), .none, .row 39 5 (r.2.2.fThings.map eS_ringref5_Thing)]) := FinH.kc' (by kernel_rfl)
  unfold G_ringref5_Open_Less_h at h
  by_cases h273 : 0 ≤ v_p363 ∧ v_p363 < (17 : Int)
  · rw [if_pos h273] at h
    by_cases h274 : 0 ≤ v_fd364 ∧ v_fd364 < (8 : Int)
    · rw [if_pos h274] at h
      obtain ⟨v_y365, h275, h⟩ := bind_some h
      obtain ⟨v_y366, h276, h⟩ := bind_some h
      by_cases h277 : 0 ≤ v_p363 ∧ v_p363 < (17 : Int)
      · rw [if_pos h277] at h
        by_cases h278 : 0 ≤ v_fd364 ∧ v_fd364 < (8 : Int)
        · rw [if_pos h278] at h
          obtain ⟨v_y367, h279, h⟩ := bind_some h
          obtain ⟨v_y368, h280, h⟩ := bind_some h
          by_cases h281 : 0 ≤ (wi .i64 (v_y366 - 1)) ∧ ((wi .i64 (v_y366 - 1))).toNat < v_o362.fThings.length
          · rw [if_pos h281] at h
            obtain ⟨v_y369, h282, h⟩ := bind_some h
            obtain ⟨v_r370, h283, h⟩ := bind_some h
            obtain rfl := Option.some.inj h
            exact pendH_sound TTok mix 10 (hs := [.l (.d (.v (.int .i64 v_y366))), .x ([.srf 1] ++ ((cA_t36 (setA v_o362.fFds v_p363 (setA v_y367 v_fd364 0))).map FV.d)), .c, .c, .y (eS_ringref5_Thing v_y369), .e 149 [0, 1] (.d (.v (.int .i64 v_r370))) [], .c, .dl 1, .mv 1]) [0, 1, 169] (by kernel_rfl) (by kernel_rfl) (by kernel_rfl) (.cons h273 (.cons h274 (.cons (arr_cell2 (γ := FV) (sz := 8) (g := (fun x => [.d (.v (.int .i64 (x 0))), .d (.v (.int .i64 (x 1))), .d (.v (.int .i64 (x 2))), .d (.v (.int .i64 (x 3))), .d (.v (.int .i64 (x 4))), .d (.v (.int .i64 (x 5))), .d (.v (.int .i64 (x 6))), .d (.v (.int .i64 (x 7)))])) (pre := [.srf 1]) (post := []) (P0 := 1) (o := 0 + (v_fd364).toNat * 1 + 0) rfl (fun _ => rfl) h275 (arr_cell2 (γ := FV) (sz := 1) (g := (fun x => [.d (.v (.int .i64 x))])) (pre := []) (post := []) (P0 := 0) (o := 0) rfl (fun _ => rfl) h276 rfl (idx := 0 + (v_fd364).toNat * 1 + 0) (by omega)) (idx := 1 + (v_p363).toNat * 8 + (v_fd364).toNat * 1) (by omega)) (.cons h277 (.cons h278 (.cons (arr_store2 (γ := FV) (sz := 8) (g := (fun x => [.d (.v (.int .i64 (x 0))), .d (.v (.int .i64 (x 1))), .d (.v (.int .i64 (x 2))), .d (.v (.int .i64 (x 3))), .d (.v (.int .i64 (x 4))), .d (.v (.int .i64 (x 5))), .d (.v (.int .i64 (x 6))), .d (.v (.int .i64 (x 7)))])) (pre := [.srf 1]) (post := []) (P0 := 1) (o := 0 + (v_fd364).toNat * 1 + 0) (y := (setA v_y367 v_fd364 0)) (zs := [.d (.v (.int .i64 0))]) rfl (fun _ => rfl) h279 (arr_store2 (γ := FV) (sz := 1) (g := (fun x => [.d (.v (.int .i64 x))])) (pre := []) (post := []) (P0 := 0) (o := 0) (y := 0) (zs := [.d (.v (.int .i64 0))]) rfl (fun _ => rfl) h280 rfl (Nat.le_of_ble_eq_true rfl) (idx := 0 + (v_fd364).toNat * 1 + 0) (by omega)).2 (arr_store2 (γ := FV) (sz := 1) (g := (fun x => [.d (.v (.int .i64 x))])) (pre := []) (post := []) (P0 := 0) (o := 0) (y := 0) (zs := [.d (.v (.int .i64 0))]) rfl (fun _ => rfl) h280 rfl (Nat.le_of_ble_eq_true rfl) (idx := 0 + (v_fd364).toNat * 1 + 0) (by omega)).1 (idx := 1 + (v_p363).toNat * 8 + (v_fd364).toNat * 1) (by omega)).1 (.cons (arr_store2 (γ := FV) (sz := 8) (g := (fun x => [.d (.v (.int .i64 (x 0))), .d (.v (.int .i64 (x 1))), .d (.v (.int .i64 (x 2))), .d (.v (.int .i64 (x 3))), .d (.v (.int .i64 (x 4))), .d (.v (.int .i64 (x 5))), .d (.v (.int .i64 (x 6))), .d (.v (.int .i64 (x 7)))])) (pre := [.srf 1]) (post := []) (P0 := 1) (o := 0 + (v_fd364).toNat * 1 + 0) (y := (setA v_y367 v_fd364 0)) (zs := [.d (.v (.int .i64 0))]) rfl (fun _ => rfl) h279 (arr_store2 (γ := FV) (sz := 1) (g := (fun x => [.d (.v (.int .i64 x))])) (pre := []) (post := []) (P0 := 0) (o := 0) (y := 0) (zs := [.d (.v (.int .i64 0))]) rfl (fun _ => rfl) h280 rfl (Nat.le_of_ble_eq_true rfl) (idx := 0 + (v_fd364).toNat * 1 + 0) (by omega)).2 (arr_store2 (γ := FV) (sz := 1) (g := (fun x => [.d (.v (.int .i64 x))])) (pre := []) (post := []) (P0 := 0) (o := 0) (y := 0) (zs := [.d (.v (.int .i64 0))]) rfl (fun _ => rfl) h280 rfl (Nat.le_of_ble_eq_true rfl) (idx := 0 + (v_fd364).toNat * 1 + 0) (by omega)).1 (idx := 1 + (v_p363).toNat * 8 + (v_fd364).toNat * 1) (by omega)).2 (.cons (idx_ob (f := eS_ringref5_Thing) h281) (.cons (get_ob (f := eS_ringref5_Thing) h282) (.cons (lcall (P := Try.prog) (T := TT) (f := .func 24) (args := #[(.tmp 32), (.tmp 33)]) (tys := #[33, 3]) (g := 24) (l := 0) (L := 1) (e := 39) (s := 5) (cs := ([.srf 1] ++ ((cA_t36 (setA v_o362.fFds v_p363 (setA v_y367 v_fd364 0))).map FV.d))) (pre := []) (post := (cA_t36 (setA v_o362.fFds v_p363 (setA v_y367 v_fd364 0)))) (xs := (v_o362.fThings.map eS_ringref5_Thing)) (ds := (cS_ringref5_Open (S_ringref5_Open.mk v_o362.fThings (setA v_o362.fFds v_p363 (setA v_y367 v_fd364 0))))) (ps := [.v (.int .i64 (wi .i64 (v_y366 - 1)))]) (by kernel_rfl) (by kernel_rfl) (G_ringref5_Open_uses_ok n (S_ringref5_Open.mk v_o362.fThings (setA v_o362.fFds v_p363 (setA v_y367 v_fd364 0))) (wi .i64 (v_y366 - 1)) _ h283) (by rfl)) (.cons (show 0 + 5 ≤ 5 by decide) .nil)))))))))))
          · rw [if_neg h281] at h; cases h
        · rw [if_neg h278] at h; cases h
      · rw [if_neg h277] at h; cases h
    · rw [if_neg h274] at h; cases h
  · rw [if_neg h273] at h; cases h
inductive G_open_Table_Dup_h_C1_R where
  | x0 (v_gone413 : Bool) (v_b414 : S_open_Table)
  | x1 (v_gone415 : Bool) (v_b416 : S_open_Table) (v_b417 : S_open_Thing)
  | x2 (v_gone418 : Bool)
def G_open_Table_Dup_h_C1_ex : G_open_Table_Dup_h_C1_R → Ex
  | .x0 _ _ => .normal
  | .x1 _ _ _ => .normal
  | .x2 _ => .normal
def G_open_Table_Dup_h_C1_st (v_p389 : Int) (v_fd390 : Int) (v_to391 : Int) (v_r392_0 : Int) (v_y409 : Int) (v_r392_2 : S_open_Table) : G_open_Table_Dup_h_C1_R → PS
  | .x0 v_gone413 v_b414 => ⟨(.ref 1 0 :: .d (.v (.int .i64 v_p389)) :: .d (.v (.int .i64 v_fd390)) :: .d (.v (.int .i64 v_to391)) :: dd :: dd :: dd :: dd :: .ref 2 0 :: dd :: dd :: .ref 1 (0 + (v_r392_0).toNat * 6) :: dd :: .ref 3 0 :: .d (.v (.bool v_gone413)) :: (dds 66 [])), [.gh 0 (.ref 1 0), .box ((cS_open_Table v_b414).map FV.d), .box [.d (.v (.int .i64 0)), .d (.v (.int .i64 0)), .d (.v (.int .i64 0)), .d (.v (.bool false)), .d (.v (.int .i64 0))], .box [.d (.v (.int .i64 0)), .d (.v (.int .i64 0)), .d (.v (.int .i64 0)), .d (.v (.bool false)), .d (.v (.int .i64 0))]]⟩
  | .x1 v_gone415 v_b416 v_b417 => ⟨(.ref 1 0 :: .d (.v (.int .i64 v_p389)) :: .d (.v (.int .i64 v_fd390)) :: .d (.v (.int .i64 v_to391)) :: dd :: dd :: dd :: dd :: .ref 2 0 :: dd :: dd :: .ref 1 (0 + (v_r392_0).toNat * 6) :: dd :: .ref 3 0 :: .d (.v (.bool v_gone415)) :: (dds 66 [])), [.gh 0 (.ref 1 0), .box ((cS_open_Table v_b416).map FV.d), .box [.d (.v (.int .i64 0)), .d (.v (.int .i64 0)), .d (.v (.int .i64 0)), .d (.v (.bool false)), .d (.v (.int .i64 0))], .box [.d (.v (.int .i64 v_b417.fKind)), .d (.v (.int .i64 v_b417.fId)), .d (.v (.int .i64 v_b417.fMay)), .d (.v (.bool v_b417.fMore)), .d (.v (.int .i64 v_b417.fAt))]]⟩
  | .x2 v_gone418 => ⟨(.ref 1 0 :: .d (.v (.int .i64 v_p389)) :: .d (.v (.int .i64 v_fd390)) :: .d (.v (.int .i64 v_to391)) :: dd :: dd :: dd :: dd :: .ref 2 0 :: dd :: dd :: .ref 1 (0 + (v_r392_0).toNat * 6) :: dd :: .ref 3 0 :: .d (.v (.bool v_gone418)) :: (dds 66 [])), [.gh 0 (.ref 1 0), .box ((cS_open_Table v_r392_2).map FV.d), .box [.d (.v (.int .i64 0)), .d (.v (.int .i64 0)), .d (.v (.int .i64 0)), .d (.v (.bool false)), .d (.v (.int .i64 0))], .box [.d (.v (.int .i64 0)), .d (.v (.int .i64 0)), .d (.v (.int .i64 0)), .d (.v (.bool false)), .d (.v (.int .i64 0))]]⟩
def G_open_Table_Dup_h_C1_hd (v_p389 : Int) (v_fd390 : Int) (v_to391 : Int) (v_r392_0 : Int) (v_y409 : Int) (v_r392_2 : S_open_Table)  : PS := ⟨(.ref 1 0 :: .d (.v (.int .i64 v_p389)) :: .d (.v (.int .i64 v_fd390)) :: .d (.v (.int .i64 v_to391)) :: dd :: dd :: dd :: dd :: .ref 2 0 :: dd :: dd :: .ref 1 (0 + (v_r392_0).toNat * 6) :: dd :: .ref 3 0 :: .d (.v (.bool false)) :: (dds 30 (.d (.v (.bool (v_y409 != 0))) :: (dds 35 [])))), [.gh 0 (.ref 1 0), .box ((cS_open_Table v_r392_2).map FV.d), .box [.d (.v (.int .i64 0)), .d (.v (.int .i64 0)), .d (.v (.int .i64 0)), .d (.v (.bool false)), .d (.v (.int .i64 0))], .box [.d (.v (.int .i64 0)), .d (.v (.int .i64 0)), .d (.v (.int .i64 0)), .d (.v (.bool false)), .d (.v (.int .i64 0))]]⟩
def G_open_Table_Dup_h_C1 (n : Nat) (v_p389 : Int) (v_fd390 : Int) (v_to391 : Int) (v_r392_0 : Int) (v_y409 : Int) (v_r392_2 : S_open_Table) : Option G_open_Table_Dup_h_C1_R :=
  if v_y409 = 0 then
   some (.x2 false)
  else
   (G_open_Table_Close_h n v_r392_2 v_p389 v_to391).bind fun (v_r412 : (S_open_Thing × Bool × Int × S_open_Table)) =>
   if v_r412.2.1 = true then
    some (.x1 v_r412.2.1 v_r412.2.2.2 v_r412.1)
   else
    some (.x0 v_r412.2.1 v_r412.2.2.2)
theorem G_open_Table_Dup_h_C1_ok {Fi : Ex → PS → Prop} (hF : KC 81 Fi) (ks : List Fr) (n : Nat) (v_p389 : Int) (v_fd390 : Int) (v_to391 : Int) (v_r392_0 : Int) (v_y409 : Int) (v_r392_2 : S_open_Table)  (o : G_open_Table_Dup_h_C1_R) (h : G_open_Table_Dup_h_C1 n v_p389 v_fd390 v_to391 v_r392_0 v_y409 v_r392_2 = some o) (q : RunE Try.prog 81 Fi ks (G_open_Table_Dup_h_C1_ex o) (G_open_Table_Dup_h_C1_st v_p389 v_fd390 v_to391 v_r392_0 v_y409 v_r392_2 o)) : RunE Try.prog 81 Fi (.s (cR (cL (cR (cR (cR (cR (cR (cR (cR (bodyOf Try.f25)))))))))) :: ks) .normal (G_open_Table_Dup_h_C1_hd v_p389 v_fd390 v_to391 v_r392_0 v_y409 v_r392_2) := by
  unfold G_open_Table_Dup_h_C1 at h
  by_cases h343 : v_y409 = 0
  · rw [if_pos h343] at h
    cases h
    exact pkk_sound TTok mix hF 2 (hs := [.t false]) (ts := []) (s := [0, 1, 2, 3]) (l := [0, 1, 2, 3, 8, 11, 13, 14]) (by kernel_rfl) (by kernel_rfl) (.cons (nf h343) .nil) q
  · rw [if_neg h343] at h
    obtain ⟨v_r412, h344, h⟩ := bind_some h
    by_cases h345 : v_r412.2.1 = true
    · rw [if_pos h345] at h
      cases h
      exact pkk_sound TTok mix hF 7 (hs := [.t true, .h [1] [] [.box ((cS_open_Table v_r412.2.2.2).map FV.d)] (.tup [.d (.agg [.v (.int .i64 v_r412.1.fKind), .v (.int .i64 v_r412.1.fId), .v (.int .i64 v_r412.1.fMay), .v (.bool v_r412.1.fMore), .v (.int .i64 v_r412.1.fAt)]), .d (.v (.bool v_r412.2.1)), .d (.v (.int .i64 v_r412.2.2.1))]), .c, .t false]) (ts := []) (s := [0, 1, 2, 3]) (l := [0, 1, 2, 3, 8, 11, 13, 14]) (by kernel_rfl) (by kernel_rfl) (.cons (nt h343) (.cons (G_open_Table_Close_h_ok n v_r392_2 v_p389 v_to391 _ h344) (.cons (show 0 + 5 ≤ 5 by decide) (.cons (bnf h345) .nil)))) q
    · rw [if_neg h345] at h
      cases h
      exact pkk_sound TTok mix hF 7 (hs := [.t true, .h [1] [] [.box ((cS_open_Table v_r412.2.2.2).map FV.d)] (.tup [.d (.agg [.v (.int .i64 v_r412.1.fKind), .v (.int .i64 v_r412.1.fId), .v (.int .i64 v_r412.1.fMay), .v (.bool v_r412.1.fMore), .v (.int .i64 v_r412.1.fAt)]), .d (.v (.bool v_r412.2.1)), .d (.v (.int .i64 v_r412.2.2.1))]), .c, .t true, .c]) (ts := []) (s := [0, 1, 2, 3]) (l := [0, 1, 2, 3, 8, 11, 13, 14]) (by kernel_rfl) (by kernel_rfl) (.cons (nt h343) (.cons (G_open_Table_Close_h_ok n v_r392_2 v_p389 v_to391 _ h344) (.cons (show 0 + 5 ≤ 5 by decide) (.cons (bnt (vf h345)) (.cons (show 0 + 5 ≤ 5 by decide) .nil))))) q
/- (*ringhall/open.Table).Dup -/
def G_open_Table_Dup_h (n : Nat) (v_t388 : S_open_Table) (v_p389 : Int) (v_fd390 : Int) (v_to391 : Int) : Option (S_open_Thing × Bool × Int × S_open_Table) :=
  (G_open_Table_find_h n v_t388 v_p389 v_fd390).bind fun (v_r392 : (Option Int) × Int × S_open_Table) => match v_r392 with
  | (none, v_r392_1, v_r392_2) =>
    if v_r392_1 = 0 then
     if v_to391 < 0 then
      some ((S_open_Thing.mk 0 0 0 false 0), false, 1, v_r392_2)
     else
      if v_to391 ≥ 8 then
       some ((S_open_Thing.mk 0 0 0 false 0), false, 1, v_r392_2)
      else
       if v_to391 = v_fd390 then
        some ((S_open_Thing.mk 0 0 0 false 0), false, 0, v_r392_2)
       else
        if 0 ≤ v_p389 ∧ v_p389 < (17 : Int) then
         if 0 ≤ v_to391 ∧ v_to391 < (8 : Int) then
          (getA v_r392_2.ffds v_p389).bind fun (v_y393 : (Fin 8 → Int)) =>
          (getA v_y393 v_to391).bind fun (v_y394 : Int) =>
          if v_y394 = 0 then
           if 0 ≤ v_p389 ∧ v_p389 < (17 : Int) then
            if 0 ≤ v_fd390 ∧ v_fd390 < (8 : Int) then
             (getA v_r392_2.ffds v_p389).bind fun (v_y404 : (Fin 8 → Int)) =>
             (getA v_y404 v_fd390).bind fun (v_y405 : Int) =>
             if 0 ≤ v_p389 ∧ v_p389 < (17 : Int) then
              if 0 ≤ v_to391 ∧ v_to391 < (8 : Int) then
               (getA v_r392_2.ffds v_p389).bind fun (v_y406 : (Fin 8 → Int)) =>
               (getA v_y406 v_to391).bind fun (v_y407 : Int) =>
               none
              else none
             else none
            else none
           else none
          else
           (G_open_Table_Close_h n v_r392_2 v_p389 v_to391).bind fun (v_r395 : (S_open_Thing × Bool × Int × S_open_Table)) =>
           if v_r395.2.1 = true then
            if 0 ≤ v_p389 ∧ v_p389 < (17 : Int) then
             if 0 ≤ v_fd390 ∧ v_fd390 < (8 : Int) then
              (getA v_r395.2.2.2.ffds v_p389).bind fun (v_y400 : (Fin 8 → Int)) =>
              (getA v_y400 v_fd390).bind fun (v_y401 : Int) =>
              if 0 ≤ v_p389 ∧ v_p389 < (17 : Int) then
               if 0 ≤ v_to391 ∧ v_to391 < (8 : Int) then
                (getA v_r395.2.2.2.ffds v_p389).bind fun (v_y402 : (Fin 8 → Int)) =>
                (getA v_y402 v_to391).bind fun (v_y403 : Int) =>
                none
               else none
              else none
             else none
            else none
           else
            if 0 ≤ v_p389 ∧ v_p389 < (17 : Int) then
             if 0 ≤ v_fd390 ∧ v_fd390 < (8 : Int) then
              (getA v_r395.2.2.2.ffds v_p389).bind fun (v_y396 : (Fin 8 → Int)) =>
              (getA v_y396 v_fd390).bind fun (v_y397 : Int) =>
              if 0 ≤ v_p389 ∧ v_p389 < (17 : Int) then
               if 0 ≤ v_to391 ∧ v_to391 < (8 : Int) then
                (getA v_r395.2.2.2.ffds v_p389).bind fun (v_y398 : (Fin 8 → Int)) =>
                (getA v_y398 v_to391).bind fun (v_y399 : Int) =>
                none
               else none
              else none
             else none
            else none
         else none
        else none
    else
     some ((S_open_Thing.mk 0 0 0 false 0), false, v_r392_1, v_r392_2)
  | (some v_r392_0, v_r392_1, v_r392_2) =>
    if v_r392_1 = 0 then
     if v_to391 < 0 then
      some ((S_open_Thing.mk 0 0 0 false 0), false, 1, v_r392_2)
     else
      if v_to391 ≥ 8 then
       some ((S_open_Thing.mk 0 0 0 false 0), false, 1, v_r392_2)
      else
       if v_to391 = v_fd390 then
        some ((S_open_Thing.mk 0 0 0 false 0), false, 0, v_r392_2)
       else
        if 0 ≤ v_p389 ∧ v_p389 < (17 : Int) then
         if 0 ≤ v_to391 ∧ v_to391 < (8 : Int) then
          (getA v_r392_2.ffds v_p389).bind fun (v_y408 : (Fin 8 → Int)) =>
          (getA v_y408 v_to391).bind fun (v_y409 : Int) =>
          (G_open_Table_Dup_h_C1 n v_p389 v_fd390 v_to391 v_r392_0 v_y409 v_r392_2).bind fun v_o419 => match v_o419 with
          | .x0 v_z420 v_z421 =>
            if 0 ≤ v_p389 ∧ v_p389 < (17 : Int) then
             if 0 ≤ v_fd390 ∧ v_fd390 < (8 : Int) then
              (getA v_z421.ffds v_p389).bind fun (v_y422 : (Fin 8 → Int)) =>
              (getA v_y422 v_fd390).bind fun (v_y423 : Int) =>
              if 0 ≤ v_p389 ∧ v_p389 < (17 : Int) then
               if 0 ≤ v_to391 ∧ v_to391 < (8 : Int) then
                (getA v_z421.ffds v_p389).bind fun (v_y424 : (Fin 8 → Int)) =>
                (getA v_y424 v_to391).bind fun (v_y425 : Int) =>
                (getA v_z421.ffiles v_r392_0).bind fun (v_y426 : S_open_file) =>
                (getA v_z421.ffiles v_r392_0).bind fun (v_y427 : S_open_file) =>
                some ((S_open_Thing.mk 0 0 0 false 0), v_z420, 0, (S_open_Table.mk (setA v_z421.ffiles v_r392_0 (S_open_file.mk v_y427.fThing (wi .i64 (v_y426.fn + 1)))) (setA v_z421.ffds v_p389 (setA v_y424 v_to391 v_y423))))
               else none
              else none
             else none
            else none
          | .x1 v_z428 v_z429 v_z430 =>
            if 0 ≤ v_p389 ∧ v_p389 < (17 : Int) then
             if 0 ≤ v_fd390 ∧ v_fd390 < (8 : Int) then
              (getA v_z429.ffds v_p389).bind fun (v_y431 : (Fin 8 → Int)) =>
              (getA v_y431 v_fd390).bind fun (v_y432 : Int) =>
              if 0 ≤ v_p389 ∧ v_p389 < (17 : Int) then
               if 0 ≤ v_to391 ∧ v_to391 < (8 : Int) then
                (getA v_z429.ffds v_p389).bind fun (v_y433 : (Fin 8 → Int)) =>
                (getA v_y433 v_to391).bind fun (v_y434 : Int) =>
                (getA v_z429.ffiles v_r392_0).bind fun (v_y435 : S_open_file) =>
                (getA v_z429.ffiles v_r392_0).bind fun (v_y436 : S_open_file) =>
                some (v_z430, v_z428, 0, (S_open_Table.mk (setA v_z429.ffiles v_r392_0 (S_open_file.mk v_y436.fThing (wi .i64 (v_y435.fn + 1)))) (setA v_z429.ffds v_p389 (setA v_y433 v_to391 v_y432))))
               else none
              else none
             else none
            else none
          | .x2 v_z437 =>
            if 0 ≤ v_p389 ∧ v_p389 < (17 : Int) then
             if 0 ≤ v_fd390 ∧ v_fd390 < (8 : Int) then
              (getA v_r392_2.ffds v_p389).bind fun (v_y438 : (Fin 8 → Int)) =>
              (getA v_y438 v_fd390).bind fun (v_y439 : Int) =>
              if 0 ≤ v_p389 ∧ v_p389 < (17 : Int) then
               if 0 ≤ v_to391 ∧ v_to391 < (8 : Int) then
                (getA v_r392_2.ffds v_p389).bind fun (v_y440 : (Fin 8 → Int)) =>
                (getA v_y440 v_to391).bind fun (v_y441 : Int) =>
                (getA v_r392_2.ffiles v_r392_0).bind fun (v_y442 : S_open_file) =>
                (getA v_r392_2.ffiles v_r392_0).bind fun (v_y443 : S_open_file) =>
                some ((S_open_Thing.mk 0 0 0 false 0), v_z437, 0, (S_open_Table.mk (setA v_r392_2.ffiles v_r392_0 (S_open_file.mk v_y443.fThing (wi .i64 (v_y442.fn + 1)))) (setA v_r392_2.ffds v_p389 (setA v_y440 v_to391 v_y439))))
               else none
              else none
             else none
            else none
         else none
        else none
    else
     some ((S_open_Thing.mk 0 0 0 false 0), false, v_r392_1, v_r392_2)
theorem G_open_Table_Dup_h_ok (n : Nat) (v_t388 : S_open_Table) (v_p389 : Int) (v_fd390 : Int) (v_to391 : Int) (r : S_open_Thing × Bool × Int × S_open_Table) (h : G_open_Table_Dup_h n v_t388 v_p389 v_fd390 v_to391 = some r) : RetH Try.prog 25 [.ref 0 0, .d ((eI .i64) v_p389), .d ((eI .i64) v_fd390), .d ((eI .i64) v_to391)] [.box ((cS_open_Table v_t388).map FV.d)] (.tup [.d (eS_open_Thing r.1), .d (eB r.2.1), .d ((eI .i64) r.2.2.1)]) [.box ((cS_open_Table r.2.2.2).map FV.d)] := by
  refine retH_run (n := 81) (fn := Try.f25) (c := bodyOf Try.f25) (by kernel_rfl) (by kernel_rfl) (by kernel_rfl) (by kernel_rfl) ?_
  have hF : KC 81 (FinH Try.prog Try.f25 [.box ((cS_open_Table v_t388).map FV.d)] (.tup [.d (eS_open_Thing r.1), .d (eB r.2.1), .d ((eI .i64) r.2.2.1)]) [.box ((cS_open_Table r.2.2.2).map FV.d)]) := FinH.kc' (by kernel_rfl)
  unfold G_open_Table_Dup_h at h
  obtain ⟨v_r392, h293, h⟩ := bind_some h
  match v_r392, h293, h with
  | (none, v_r392_1, v_r392_2), h293, h =>
    try dsimp only at h
    by_cases h294 : v_r392_1 = 0
    · rw [if_pos h294] at h
      by_cases h295 : v_to391 < 0
      · rw [if_pos h295] at h
        obtain rfl := Option.some.inj h
        exact pendH_sound TTok mix 17 (hs := [.h [0] [] [.box ((cS_open_Table v_r392_2).map FV.d)] (.tup [.d (.v (.pointer none)), .d (.v (.int .i64 v_r392_1))]), .t false, .t true, .c, .c, .c]) [0] (by kernel_rfl) (by kernel_rfl) (by kernel_rfl) (.cons (G_open_Table_find_h_ok n v_t388 v_p389 v_fd390 _ h293) (.cons (nf h294) (.cons (dt h295) (.cons (show 0 + 5 ≤ 5 by decide) .nil))))
      · rw [if_neg h295] at h
        by_cases h296 : v_to391 ≥ 8
        · rw [if_pos h296] at h
          obtain rfl := Option.some.inj h
          exact pendH_sound TTok mix 17 (hs := [.h [0] [] [.box ((cS_open_Table v_r392_2).map FV.d)] (.tup [.d (.v (.pointer none)), .d (.v (.int .i64 v_r392_1))]), .t false, .t false, .c, .t true, .c]) [0] (by kernel_rfl) (by kernel_rfl) (by kernel_rfl) (.cons (G_open_Table_find_h_ok n v_t388 v_p389 v_fd390 _ h293) (.cons (nf h294) (.cons (df h295) (.cons (dt h296) (.cons (show 0 + 5 ≤ 5 by decide) .nil)))))
        · rw [if_neg h296] at h
          by_cases h297 : v_to391 = v_fd390
          · rw [if_pos h297] at h
            obtain rfl := Option.some.inj h
            exact pendH_sound TTok mix 22 (hs := [.h [0] [] [.box ((cS_open_Table v_r392_2).map FV.d)] (.tup [.d (.v (.pointer none)), .d (.v (.int .i64 v_r392_1))]), .t false, .t false, .c, .t false, .t true, .c]) [0] (by kernel_rfl) (by kernel_rfl) (by kernel_rfl) (.cons (G_open_Table_find_h_ok n v_t388 v_p389 v_fd390 _ h293) (.cons (nf h294) (.cons (df h295) (.cons (df h296) (.cons (bt h297) (.cons (show 0 + 5 ≤ 5 by decide) .nil))))))
          · rw [if_neg h297] at h
            by_cases h298 : 0 ≤ v_p389 ∧ v_p389 < (17 : Int)
            · rw [if_pos h298] at h
              by_cases h299 : 0 ≤ v_to391 ∧ v_to391 < (8 : Int)
              · rw [if_pos h299] at h
                obtain ⟨v_y393, h300, h⟩ := bind_some h
                obtain ⟨v_y394, h301, h⟩ := bind_some h
                by_cases h302 : v_y394 = 0
                · rw [if_pos h302] at h
                  by_cases h321 : 0 ≤ v_p389 ∧ v_p389 < (17 : Int)
                  · rw [if_pos h321] at h
                    by_cases h322 : 0 ≤ v_fd390 ∧ v_fd390 < (8 : Int)
                    · rw [if_pos h322] at h
                      obtain ⟨v_y404, h323, h⟩ := bind_some h
                      obtain ⟨v_y405, h324, h⟩ := bind_some h
                      by_cases h325 : 0 ≤ v_p389 ∧ v_p389 < (17 : Int)
                      · rw [if_pos h325] at h
                        by_cases h326 : 0 ≤ v_to391 ∧ v_to391 < (8 : Int)
                        · rw [if_pos h326] at h
                          obtain ⟨v_y406, h327, h⟩ := bind_some h
                          obtain ⟨v_y407, h328, h⟩ := bind_some h
                          cases h
                        · rw [if_neg h326] at h; cases h
                      · rw [if_neg h325] at h; cases h
                    · rw [if_neg h322] at h; cases h
                  · rw [if_neg h321] at h; cases h
                · rw [if_neg h302] at h
                  obtain ⟨v_r395, h303, h⟩ := bind_some h
                  by_cases h304 : v_r395.2.1 = true
                  · rw [if_pos h304] at h
                    by_cases h313 : 0 ≤ v_p389 ∧ v_p389 < (17 : Int)
                    · rw [if_pos h313] at h
                      by_cases h314 : 0 ≤ v_fd390 ∧ v_fd390 < (8 : Int)
                      · rw [if_pos h314] at h
                        obtain ⟨v_y400, h315, h⟩ := bind_some h
                        obtain ⟨v_y401, h316, h⟩ := bind_some h
                        by_cases h317 : 0 ≤ v_p389 ∧ v_p389 < (17 : Int)
                        · rw [if_pos h317] at h
                          by_cases h318 : 0 ≤ v_to391 ∧ v_to391 < (8 : Int)
                          · rw [if_pos h318] at h
                            obtain ⟨v_y402, h319, h⟩ := bind_some h
                            obtain ⟨v_y403, h320, h⟩ := bind_some h
                            cases h
                          · rw [if_neg h318] at h; cases h
                        · rw [if_neg h317] at h; cases h
                      · rw [if_neg h314] at h; cases h
                    · rw [if_neg h313] at h; cases h
                  · rw [if_neg h304] at h
                    by_cases h305 : 0 ≤ v_p389 ∧ v_p389 < (17 : Int)
                    · rw [if_pos h305] at h
                      by_cases h306 : 0 ≤ v_fd390 ∧ v_fd390 < (8 : Int)
                      · rw [if_pos h306] at h
                        obtain ⟨v_y396, h307, h⟩ := bind_some h
                        obtain ⟨v_y397, h308, h⟩ := bind_some h
                        by_cases h309 : 0 ≤ v_p389 ∧ v_p389 < (17 : Int)
                        · rw [if_pos h309] at h
                          by_cases h310 : 0 ≤ v_to391 ∧ v_to391 < (8 : Int)
                          · rw [if_pos h310] at h
                            obtain ⟨v_y398, h311, h⟩ := bind_some h
                            obtain ⟨v_y399, h312, h⟩ := bind_some h
                            cases h
                          · rw [if_neg h310] at h; cases h
                        · rw [if_neg h309] at h; cases h
                      · rw [if_neg h306] at h; cases h
                    · rw [if_neg h305] at h; cases h
              · rw [if_neg h299] at h; cases h
            · rw [if_neg h298] at h; cases h
    · rw [if_neg h294] at h
      obtain rfl := Option.some.inj h
      exact pendH_sound TTok mix 12 (hs := [.h [0] [] [.box ((cS_open_Table v_r392_2).map FV.d)] (.tup [.d (.v (.pointer none)), .d (.v (.int .i64 v_r392_1))]), .t true, .c]) [0] (by kernel_rfl) (by kernel_rfl) (by kernel_rfl) (.cons (G_open_Table_find_h_ok n v_t388 v_p389 v_fd390 _ h293) (.cons (nt h294) (.cons (show 0 + 5 ≤ 5 by decide) .nil)))
  | (some v_r392_0, v_r392_1, v_r392_2), h293, h =>
    try dsimp only at h
    by_cases h330 : v_r392_1 = 0
    · rw [if_pos h330] at h
      by_cases h331 : v_to391 < 0
      · rw [if_pos h331] at h
        obtain rfl := Option.some.inj h
        exact pendH_sound TTok mix 17 (hs := [.h [0] [] [.box ((cS_open_Table v_r392_2).map FV.d)] (.tup [.ref 0 (0 + (v_r392_0).toNat * 6), .d (.v (.int .i64 v_r392_1))]), .t false, .t true, .c, .c, .c]) [0] (by kernel_rfl) (by kernel_rfl) (by kernel_rfl) (.cons (G_open_Table_find_h_ok n v_t388 v_p389 v_fd390 _ h293) (.cons (nf h330) (.cons (dt h331) (.cons (show 0 + 5 ≤ 5 by decide) .nil))))
      · rw [if_neg h331] at h
        by_cases h333 : v_to391 ≥ 8
        · rw [if_pos h333] at h
          obtain rfl := Option.some.inj h
          exact pendH_sound TTok mix 17 (hs := [.h [0] [] [.box ((cS_open_Table v_r392_2).map FV.d)] (.tup [.ref 0 (0 + (v_r392_0).toNat * 6), .d (.v (.int .i64 v_r392_1))]), .t false, .t false, .c, .t true, .c]) [0] (by kernel_rfl) (by kernel_rfl) (by kernel_rfl) (.cons (G_open_Table_find_h_ok n v_t388 v_p389 v_fd390 _ h293) (.cons (nf h330) (.cons (df h331) (.cons (dt h333) (.cons (show 0 + 5 ≤ 5 by decide) .nil)))))
        · rw [if_neg h333] at h
          by_cases h335 : v_to391 = v_fd390
          · rw [if_pos h335] at h
            obtain rfl := Option.some.inj h
            exact pendH_sound TTok mix 22 (hs := [.h [0] [] [.box ((cS_open_Table v_r392_2).map FV.d)] (.tup [.ref 0 (0 + (v_r392_0).toNat * 6), .d (.v (.int .i64 v_r392_1))]), .t false, .t false, .c, .t false, .t true, .c]) [0] (by kernel_rfl) (by kernel_rfl) (by kernel_rfl) (.cons (G_open_Table_find_h_ok n v_t388 v_p389 v_fd390 _ h293) (.cons (nf h330) (.cons (df h331) (.cons (df h333) (.cons (bt h335) (.cons (show 0 + 5 ≤ 5 by decide) .nil))))))
          · rw [if_neg h335] at h
            by_cases h336 : 0 ≤ v_p389 ∧ v_p389 < (17 : Int)
            · rw [if_pos h336] at h
              by_cases h337 : 0 ≤ v_to391 ∧ v_to391 < (8 : Int)
              · rw [if_pos h337] at h
                obtain ⟨v_y408, h338, h⟩ := bind_some h
                obtain ⟨v_y409, h339, h⟩ := bind_some h
                obtain ⟨v_o419, h346, h⟩ := bind_some h
                refine pkk_sound TTok mix hF 26 (hs := [.h [0] [] [.box ((cS_open_Table v_r392_2).map FV.d)] (.tup [.ref 0 (0 + (v_r392_0).toNat * 6), .d (.v (.int .i64 v_r392_1))]), .t false, .t false, .c, .t false, .t false, .l (.d (.v (.int .i64 v_y409)))]) (ts := []) (s := [1, 0, 2, 117]) (l := [0, 1, 2, 3, 8, 11, 13, 14, 45]) (by kernel_rfl) (by kernel_rfl) (.cons (G_open_Table_find_h_ok n v_t388 v_p389 v_fd390 _ h293) (.cons (nf h330) (.cons (df h331) (.cons (df h333) (.cons (bf h335) (.cons h336 (.cons h337 (.cons (arr_cell2 (γ := FV) (sz := 8) (g := (fun x => [.d (.v (.int .i64 (x 0))), .d (.v (.int .i64 (x 1))), .d (.v (.int .i64 (x 2))), .d (.v (.int .i64 (x 3))), .d (.v (.int .i64 (x 4))), .d (.v (.int .i64 (x 5))), .d (.v (.int .i64 (x 6))), .d (.v (.int .i64 (x 7)))])) (pre := ((cA_t46 v_r392_2.ffiles).map FV.d)) (post := []) (P0 := 192) (o := 0 + (v_to391).toNat * 1 + 0) rfl (fun _ => rfl) h338 (arr_cell2 (γ := FV) (sz := 1) (g := (fun x => [.d (.v (.int .i64 x))])) (pre := []) (post := []) (P0 := 0) (o := 0) rfl (fun _ => rfl) h339 rfl (idx := 0 + (v_to391).toNat * 1 + 0) (by omega)) (idx := 192 + (v_p389).toNat * 8 + (v_to391).toNat * 1) (by omega)) .nil)))))))) (G_open_Table_Dup_h_C1_ok hF (.s (cR (cR (cR (cR (cR (cR (cR (cR (bodyOf Try.f25))))))))) :: []) n v_p389 v_fd390 v_to391 v_r392_0 v_y409 v_r392_2 _ h346 ?_)
                cases v_o419 with
                | x0 v_z420 v_z421 =>
                  try dsimp only at h
                  by_cases h347 : 0 ≤ v_p389 ∧ v_p389 < (17 : Int)
                  · rw [if_pos h347] at h
                    by_cases h348 : 0 ≤ v_fd390 ∧ v_fd390 < (8 : Int)
                    · rw [if_pos h348] at h
                      obtain ⟨v_y422, h349, h⟩ := bind_some h
                      obtain ⟨v_y423, h350, h⟩ := bind_some h
                      by_cases h351 : 0 ≤ v_p389 ∧ v_p389 < (17 : Int)
                      · rw [if_pos h351] at h
                        by_cases h352 : 0 ≤ v_to391 ∧ v_to391 < (8 : Int)
                        · rw [if_pos h352] at h
                          obtain ⟨v_y424, h353, h⟩ := bind_some h
                          obtain ⟨v_y425, h354, h⟩ := bind_some h
                          obtain ⟨v_y426, h355, h⟩ := bind_some h
                          obtain ⟨v_y427, h356, h⟩ := bind_some h
                          obtain rfl := Option.some.inj h
                          exact pendH_sound TTok mix 7 (hs := [.l (.d (.v (.int .i64 v_y423))), .x ((cS_open_Table (S_open_Table.mk v_z421.ffiles (setA v_z421.ffds v_p389 (setA v_y424 v_to391 v_y423)))).map FV.d), .c, .l (.d (.v (.int .i64 v_y426.fn))), .x ((cS_open_Table (S_open_Table.mk (setA v_z421.ffiles v_r392_0 (S_open_file.mk v_y427.fThing (wi .i64 (v_y426.fn + 1)))) (setA v_z421.ffds v_p389 (setA v_y424 v_to391 v_y423)))).map FV.d), .c, .c, .c]) [1] (by kernel_rfl) (by kernel_rfl) (by kernel_rfl) (.cons h347 (.cons h348 (.cons (arr_cell2 (γ := FV) (sz := 8) (g := (fun x => [.d (.v (.int .i64 (x 0))), .d (.v (.int .i64 (x 1))), .d (.v (.int .i64 (x 2))), .d (.v (.int .i64 (x 3))), .d (.v (.int .i64 (x 4))), .d (.v (.int .i64 (x 5))), .d (.v (.int .i64 (x 6))), .d (.v (.int .i64 (x 7)))])) (pre := ((cA_t46 v_z421.ffiles).map FV.d)) (post := []) (P0 := 192) (o := 0 + (v_fd390).toNat * 1 + 0) rfl (fun _ => rfl) h349 (arr_cell2 (γ := FV) (sz := 1) (g := (fun x => [.d (.v (.int .i64 x))])) (pre := []) (post := []) (P0 := 0) (o := 0) rfl (fun _ => rfl) h350 rfl (idx := 0 + (v_fd390).toNat * 1 + 0) (by omega)) (idx := 192 + (v_p389).toNat * 8 + (v_fd390).toNat * 1) (by omega)) (.cons h351 (.cons h352 (.cons (arr_store2 (γ := FV) (sz := 8) (g := (fun x => [.d (.v (.int .i64 (x 0))), .d (.v (.int .i64 (x 1))), .d (.v (.int .i64 (x 2))), .d (.v (.int .i64 (x 3))), .d (.v (.int .i64 (x 4))), .d (.v (.int .i64 (x 5))), .d (.v (.int .i64 (x 6))), .d (.v (.int .i64 (x 7)))])) (pre := ((cA_t46 v_z421.ffiles).map FV.d)) (post := []) (P0 := 192) (o := 0 + (v_to391).toNat * 1 + 0) (y := (setA v_y424 v_to391 v_y423)) (zs := [.d (.v (.int .i64 v_y423))]) rfl (fun _ => rfl) h353 (arr_store2 (γ := FV) (sz := 1) (g := (fun x => [.d (.v (.int .i64 x))])) (pre := []) (post := []) (P0 := 0) (o := 0) (y := v_y423) (zs := [.d (.v (.int .i64 v_y423))]) rfl (fun _ => rfl) h354 rfl (Nat.le_of_ble_eq_true rfl) (idx := 0 + (v_to391).toNat * 1 + 0) (by omega)).2 (arr_store2 (γ := FV) (sz := 1) (g := (fun x => [.d (.v (.int .i64 x))])) (pre := []) (post := []) (P0 := 0) (o := 0) (y := v_y423) (zs := [.d (.v (.int .i64 v_y423))]) rfl (fun _ => rfl) h354 rfl (Nat.le_of_ble_eq_true rfl) (idx := 0 + (v_to391).toNat * 1 + 0) (by omega)).1 (idx := 192 + (v_p389).toNat * 8 + (v_to391).toNat * 1) (by omega)).1 (.cons (arr_store2 (γ := FV) (sz := 8) (g := (fun x => [.d (.v (.int .i64 (x 0))), .d (.v (.int .i64 (x 1))), .d (.v (.int .i64 (x 2))), .d (.v (.int .i64 (x 3))), .d (.v (.int .i64 (x 4))), .d (.v (.int .i64 (x 5))), .d (.v (.int .i64 (x 6))), .d (.v (.int .i64 (x 7)))])) (pre := ((cA_t46 v_z421.ffiles).map FV.d)) (post := []) (P0 := 192) (o := 0 + (v_to391).toNat * 1 + 0) (y := (setA v_y424 v_to391 v_y423)) (zs := [.d (.v (.int .i64 v_y423))]) rfl (fun _ => rfl) h353 (arr_store2 (γ := FV) (sz := 1) (g := (fun x => [.d (.v (.int .i64 x))])) (pre := []) (post := []) (P0 := 0) (o := 0) (y := v_y423) (zs := [.d (.v (.int .i64 v_y423))]) rfl (fun _ => rfl) h354 rfl (Nat.le_of_ble_eq_true rfl) (idx := 0 + (v_to391).toNat * 1 + 0) (by omega)).2 (arr_store2 (γ := FV) (sz := 1) (g := (fun x => [.d (.v (.int .i64 x))])) (pre := []) (post := []) (P0 := 0) (o := 0) (y := v_y423) (zs := [.d (.v (.int .i64 v_y423))]) rfl (fun _ => rfl) h354 rfl (Nat.le_of_ble_eq_true rfl) (idx := 0 + (v_to391).toNat * 1 + 0) (by omega)).1 (idx := 192 + (v_p389).toNat * 8 + (v_to391).toNat * 1) (by omega)).2 (.cons (arr_cell (γ := FV) (sz := 6) (g := (fun x => [.d (.v (.int .i64 x.fThing.fKind)), .d (.v (.int .i64 x.fThing.fId)), .d (.v (.int .i64 x.fThing.fMay)), .d (.v (.bool x.fThing.fMore)), .d (.v (.int .i64 x.fThing.fAt)), .d (.v (.int .i64 x.fn))])) (pre := []) (post := ((cA_t36 (setA v_z421.ffds v_p389 (setA v_y424 v_to391 v_y423))).map FV.d)) (o := 5) (fun _ => rfl) h355 rfl) (.cons (arr_store (γ := FV) (sz := 6) (g := (fun x => [.d (.v (.int .i64 x.fThing.fKind)), .d (.v (.int .i64 x.fThing.fId)), .d (.v (.int .i64 x.fThing.fMay)), .d (.v (.bool x.fThing.fMore)), .d (.v (.int .i64 x.fThing.fAt)), .d (.v (.int .i64 x.fn))])) (pre := []) (post := ((cA_t36 (setA v_z421.ffds v_p389 (setA v_y424 v_to391 v_y423))).map FV.d)) (o := 5) (y := (S_open_file.mk v_y427.fThing (wi .i64 (v_y426.fn + 1)))) (zs := [.d (.v (.int .i64 (wi .i64 (v_y426.fn + 1))))]) (fun _ => rfl) h356 rfl (Nat.le_of_ble_eq_true rfl)).1 (.cons (arr_store (γ := FV) (sz := 6) (g := (fun x => [.d (.v (.int .i64 x.fThing.fKind)), .d (.v (.int .i64 x.fThing.fId)), .d (.v (.int .i64 x.fThing.fMay)), .d (.v (.bool x.fThing.fMore)), .d (.v (.int .i64 x.fThing.fAt)), .d (.v (.int .i64 x.fn))])) (pre := []) (post := ((cA_t36 (setA v_z421.ffds v_p389 (setA v_y424 v_to391 v_y423))).map FV.d)) (o := 5) (y := (S_open_file.mk v_y427.fThing (wi .i64 (v_y426.fn + 1)))) (zs := [.d (.v (.int .i64 (wi .i64 (v_y426.fn + 1))))]) (fun _ => rfl) h356 rfl (Nat.le_of_ble_eq_true rfl)).2 (.cons (show 0 + 5 ≤ 5 by decide) .nil)))))))))))
                        · rw [if_neg h352] at h; cases h
                      · rw [if_neg h351] at h; cases h
                    · rw [if_neg h348] at h; cases h
                  · rw [if_neg h347] at h; cases h
                | x1 v_z428 v_z429 v_z430 =>
                  try dsimp only at h
                  by_cases h357 : 0 ≤ v_p389 ∧ v_p389 < (17 : Int)
                  · rw [if_pos h357] at h
                    by_cases h358 : 0 ≤ v_fd390 ∧ v_fd390 < (8 : Int)
                    · rw [if_pos h358] at h
                      obtain ⟨v_y431, h359, h⟩ := bind_some h
                      obtain ⟨v_y432, h360, h⟩ := bind_some h
                      by_cases h361 : 0 ≤ v_p389 ∧ v_p389 < (17 : Int)
                      · rw [if_pos h361] at h
                        by_cases h362 : 0 ≤ v_to391 ∧ v_to391 < (8 : Int)
                        · rw [if_pos h362] at h
                          obtain ⟨v_y433, h363, h⟩ := bind_some h
                          obtain ⟨v_y434, h364, h⟩ := bind_some h
                          obtain ⟨v_y435, h365, h⟩ := bind_some h
                          obtain ⟨v_y436, h366, h⟩ := bind_some h
                          obtain rfl := Option.some.inj h
                          exact pendH_sound TTok mix 7 (hs := [.l (.d (.v (.int .i64 v_y432))), .x ((cS_open_Table (S_open_Table.mk v_z429.ffiles (setA v_z429.ffds v_p389 (setA v_y433 v_to391 v_y432)))).map FV.d), .c, .l (.d (.v (.int .i64 v_y435.fn))), .x ((cS_open_Table (S_open_Table.mk (setA v_z429.ffiles v_r392_0 (S_open_file.mk v_y436.fThing (wi .i64 (v_y435.fn + 1)))) (setA v_z429.ffds v_p389 (setA v_y433 v_to391 v_y432)))).map FV.d), .c, .c, .c]) [1] (by kernel_rfl) (by kernel_rfl) (by kernel_rfl) (.cons h357 (.cons h358 (.cons (arr_cell2 (γ := FV) (sz := 8) (g := (fun x => [.d (.v (.int .i64 (x 0))), .d (.v (.int .i64 (x 1))), .d (.v (.int .i64 (x 2))), .d (.v (.int .i64 (x 3))), .d (.v (.int .i64 (x 4))), .d (.v (.int .i64 (x 5))), .d (.v (.int .i64 (x 6))), .d (.v (.int .i64 (x 7)))])) (pre := ((cA_t46 v_z429.ffiles).map FV.d)) (post := []) (P0 := 192) (o := 0 + (v_fd390).toNat * 1 + 0) rfl (fun _ => rfl) h359 (arr_cell2 (γ := FV) (sz := 1) (g := (fun x => [.d (.v (.int .i64 x))])) (pre := []) (post := []) (P0 := 0) (o := 0) rfl (fun _ => rfl) h360 rfl (idx := 0 + (v_fd390).toNat * 1 + 0) (by omega)) (idx := 192 + (v_p389).toNat * 8 + (v_fd390).toNat * 1) (by omega)) (.cons h361 (.cons h362 (.cons (arr_store2 (γ := FV) (sz := 8) (g := (fun x => [.d (.v (.int .i64 (x 0))), .d (.v (.int .i64 (x 1))), .d (.v (.int .i64 (x 2))), .d (.v (.int .i64 (x 3))), .d (.v (.int .i64 (x 4))), .d (.v (.int .i64 (x 5))), .d (.v (.int .i64 (x 6))), .d (.v (.int .i64 (x 7)))])) (pre := ((cA_t46 v_z429.ffiles).map FV.d)) (post := []) (P0 := 192) (o := 0 + (v_to391).toNat * 1 + 0) (y := (setA v_y433 v_to391 v_y432)) (zs := [.d (.v (.int .i64 v_y432))]) rfl (fun _ => rfl) h363 (arr_store2 (γ := FV) (sz := 1) (g := (fun x => [.d (.v (.int .i64 x))])) (pre := []) (post := []) (P0 := 0) (o := 0) (y := v_y432) (zs := [.d (.v (.int .i64 v_y432))]) rfl (fun _ => rfl) h364 rfl (Nat.le_of_ble_eq_true rfl) (idx := 0 + (v_to391).toNat * 1 + 0) (by omega)).2 (arr_store2 (γ := FV) (sz := 1) (g := (fun x => [.d (.v (.int .i64 x))])) (pre := []) (post := []) (P0 := 0) (o := 0) (y := v_y432) (zs := [.d (.v (.int .i64 v_y432))]) rfl (fun _ => rfl) h364 rfl (Nat.le_of_ble_eq_true rfl) (idx := 0 + (v_to391).toNat * 1 + 0) (by omega)).1 (idx := 192 + (v_p389).toNat * 8 + (v_to391).toNat * 1) (by omega)).1 (.cons (arr_store2 (γ := FV) (sz := 8) (g := (fun x => [.d (.v (.int .i64 (x 0))), .d (.v (.int .i64 (x 1))), .d (.v (.int .i64 (x 2))), .d (.v (.int .i64 (x 3))), .d (.v (.int .i64 (x 4))), .d (.v (.int .i64 (x 5))), .d (.v (.int .i64 (x 6))), .d (.v (.int .i64 (x 7)))])) (pre := ((cA_t46 v_z429.ffiles).map FV.d)) (post := []) (P0 := 192) (o := 0 + (v_to391).toNat * 1 + 0) (y := (setA v_y433 v_to391 v_y432)) (zs := [.d (.v (.int .i64 v_y432))]) rfl (fun _ => rfl) h363 (arr_store2 (γ := FV) (sz := 1) (g := (fun x => [.d (.v (.int .i64 x))])) (pre := []) (post := []) (P0 := 0) (o := 0) (y := v_y432) (zs := [.d (.v (.int .i64 v_y432))]) rfl (fun _ => rfl) h364 rfl (Nat.le_of_ble_eq_true rfl) (idx := 0 + (v_to391).toNat * 1 + 0) (by omega)).2 (arr_store2 (γ := FV) (sz := 1) (g := (fun x => [.d (.v (.int .i64 x))])) (pre := []) (post := []) (P0 := 0) (o := 0) (y := v_y432) (zs := [.d (.v (.int .i64 v_y432))]) rfl (fun _ => rfl) h364 rfl (Nat.le_of_ble_eq_true rfl) (idx := 0 + (v_to391).toNat * 1 + 0) (by omega)).1 (idx := 192 + (v_p389).toNat * 8 + (v_to391).toNat * 1) (by omega)).2 (.cons (arr_cell (γ := FV) (sz := 6) (g := (fun x => [.d (.v (.int .i64 x.fThing.fKind)), .d (.v (.int .i64 x.fThing.fId)), .d (.v (.int .i64 x.fThing.fMay)), .d (.v (.bool x.fThing.fMore)), .d (.v (.int .i64 x.fThing.fAt)), .d (.v (.int .i64 x.fn))])) (pre := []) (post := ((cA_t36 (setA v_z429.ffds v_p389 (setA v_y433 v_to391 v_y432))).map FV.d)) (o := 5) (fun _ => rfl) h365 rfl) (.cons (arr_store (γ := FV) (sz := 6) (g := (fun x => [.d (.v (.int .i64 x.fThing.fKind)), .d (.v (.int .i64 x.fThing.fId)), .d (.v (.int .i64 x.fThing.fMay)), .d (.v (.bool x.fThing.fMore)), .d (.v (.int .i64 x.fThing.fAt)), .d (.v (.int .i64 x.fn))])) (pre := []) (post := ((cA_t36 (setA v_z429.ffds v_p389 (setA v_y433 v_to391 v_y432))).map FV.d)) (o := 5) (y := (S_open_file.mk v_y436.fThing (wi .i64 (v_y435.fn + 1)))) (zs := [.d (.v (.int .i64 (wi .i64 (v_y435.fn + 1))))]) (fun _ => rfl) h366 rfl (Nat.le_of_ble_eq_true rfl)).1 (.cons (arr_store (γ := FV) (sz := 6) (g := (fun x => [.d (.v (.int .i64 x.fThing.fKind)), .d (.v (.int .i64 x.fThing.fId)), .d (.v (.int .i64 x.fThing.fMay)), .d (.v (.bool x.fThing.fMore)), .d (.v (.int .i64 x.fThing.fAt)), .d (.v (.int .i64 x.fn))])) (pre := []) (post := ((cA_t36 (setA v_z429.ffds v_p389 (setA v_y433 v_to391 v_y432))).map FV.d)) (o := 5) (y := (S_open_file.mk v_y436.fThing (wi .i64 (v_y435.fn + 1)))) (zs := [.d (.v (.int .i64 (wi .i64 (v_y435.fn + 1))))]) (fun _ => rfl) h366 rfl (Nat.le_of_ble_eq_true rfl)).2 (.cons (show 0 + 5 ≤ 5 by decide) .nil)))))))))))
                        · rw [if_neg h362] at h; cases h
                      · rw [if_neg h361] at h; cases h
                    · rw [if_neg h358] at h; cases h
                  · rw [if_neg h357] at h; cases h
                | x2 v_z437 =>
                  try dsimp only at h
                  by_cases h367 : 0 ≤ v_p389 ∧ v_p389 < (17 : Int)
                  · rw [if_pos h367] at h
                    by_cases h368 : 0 ≤ v_fd390 ∧ v_fd390 < (8 : Int)
                    · rw [if_pos h368] at h
                      obtain ⟨v_y438, h369, h⟩ := bind_some h
                      obtain ⟨v_y439, h370, h⟩ := bind_some h
                      by_cases h371 : 0 ≤ v_p389 ∧ v_p389 < (17 : Int)
                      · rw [if_pos h371] at h
                        by_cases h372 : 0 ≤ v_to391 ∧ v_to391 < (8 : Int)
                        · rw [if_pos h372] at h
                          obtain ⟨v_y440, h373, h⟩ := bind_some h
                          obtain ⟨v_y441, h374, h⟩ := bind_some h
                          obtain ⟨v_y442, h375, h⟩ := bind_some h
                          obtain ⟨v_y443, h376, h⟩ := bind_some h
                          obtain rfl := Option.some.inj h
                          exact pendH_sound TTok mix 7 (hs := [.l (.d (.v (.int .i64 v_y439))), .x ((cS_open_Table (S_open_Table.mk v_r392_2.ffiles (setA v_r392_2.ffds v_p389 (setA v_y440 v_to391 v_y439)))).map FV.d), .c, .l (.d (.v (.int .i64 v_y442.fn))), .x ((cS_open_Table (S_open_Table.mk (setA v_r392_2.ffiles v_r392_0 (S_open_file.mk v_y443.fThing (wi .i64 (v_y442.fn + 1)))) (setA v_r392_2.ffds v_p389 (setA v_y440 v_to391 v_y439)))).map FV.d), .c, .c, .c]) [1] (by kernel_rfl) (by kernel_rfl) (by kernel_rfl) (.cons h367 (.cons h368 (.cons (arr_cell2 (γ := FV) (sz := 8) (g := (fun x => [.d (.v (.int .i64 (x 0))), .d (.v (.int .i64 (x 1))), .d (.v (.int .i64 (x 2))), .d (.v (.int .i64 (x 3))), .d (.v (.int .i64 (x 4))), .d (.v (.int .i64 (x 5))), .d (.v (.int .i64 (x 6))), .d (.v (.int .i64 (x 7)))])) (pre := ((cA_t46 v_r392_2.ffiles).map FV.d)) (post := []) (P0 := 192) (o := 0 + (v_fd390).toNat * 1 + 0) rfl (fun _ => rfl) h369 (arr_cell2 (γ := FV) (sz := 1) (g := (fun x => [.d (.v (.int .i64 x))])) (pre := []) (post := []) (P0 := 0) (o := 0) rfl (fun _ => rfl) h370 rfl (idx := 0 + (v_fd390).toNat * 1 + 0) (by omega)) (idx := 192 + (v_p389).toNat * 8 + (v_fd390).toNat * 1) (by omega)) (.cons h371 (.cons h372 (.cons (arr_store2 (γ := FV) (sz := 8) (g := (fun x => [.d (.v (.int .i64 (x 0))), .d (.v (.int .i64 (x 1))), .d (.v (.int .i64 (x 2))), .d (.v (.int .i64 (x 3))), .d (.v (.int .i64 (x 4))), .d (.v (.int .i64 (x 5))), .d (.v (.int .i64 (x 6))), .d (.v (.int .i64 (x 7)))])) (pre := ((cA_t46 v_r392_2.ffiles).map FV.d)) (post := []) (P0 := 192) (o := 0 + (v_to391).toNat * 1 + 0) (y := (setA v_y440 v_to391 v_y439)) (zs := [.d (.v (.int .i64 v_y439))]) rfl (fun _ => rfl) h373 (arr_store2 (γ := FV) (sz := 1) (g := (fun x => [.d (.v (.int .i64 x))])) (pre := []) (post := []) (P0 := 0) (o := 0) (y := v_y439) (zs := [.d (.v (.int .i64 v_y439))]) rfl (fun _ => rfl) h374 rfl (Nat.le_of_ble_eq_true rfl) (idx := 0 + (v_to391).toNat * 1 + 0) (by omega)).2 (arr_store2 (γ := FV) (sz := 1) (g := (fun x => [.d (.v (.int .i64 x))])) (pre := []) (post := []) (P0 := 0) (o := 0) (y := v_y439) (zs := [.d (.v (.int .i64 v_y439))]) rfl (fun _ => rfl) h374 rfl (Nat.le_of_ble_eq_true rfl) (idx := 0 + (v_to391).toNat * 1 + 0) (by omega)).1 (idx := 192 + (v_p389).toNat * 8 + (v_to391).toNat * 1) (by omega)).1 (.cons (arr_store2 (γ := FV) (sz := 8) (g := (fun x => [.d (.v (.int .i64 (x 0))), .d (.v (.int .i64 (x 1))), .d (.v (.int .i64 (x 2))), .d (.v (.int .i64 (x 3))), .d (.v (.int .i64 (x 4))), .d (.v (.int .i64 (x 5))), .d (.v (.int .i64 (x 6))), .d (.v (.int .i64 (x 7)))])) (pre := ((cA_t46 v_r392_2.ffiles).map FV.d)) (post := []) (P0 := 192) (o := 0 + (v_to391).toNat * 1 + 0) (y := (setA v_y440 v_to391 v_y439)) (zs := [.d (.v (.int .i64 v_y439))]) rfl (fun _ => rfl) h373 (arr_store2 (γ := FV) (sz := 1) (g := (fun x => [.d (.v (.int .i64 x))])) (pre := []) (post := []) (P0 := 0) (o := 0) (y := v_y439) (zs := [.d (.v (.int .i64 v_y439))]) rfl (fun _ => rfl) h374 rfl (Nat.le_of_ble_eq_true rfl) (idx := 0 + (v_to391).toNat * 1 + 0) (by omega)).2 (arr_store2 (γ := FV) (sz := 1) (g := (fun x => [.d (.v (.int .i64 x))])) (pre := []) (post := []) (P0 := 0) (o := 0) (y := v_y439) (zs := [.d (.v (.int .i64 v_y439))]) rfl (fun _ => rfl) h374 rfl (Nat.le_of_ble_eq_true rfl) (idx := 0 + (v_to391).toNat * 1 + 0) (by omega)).1 (idx := 192 + (v_p389).toNat * 8 + (v_to391).toNat * 1) (by omega)).2 (.cons (arr_cell (γ := FV) (sz := 6) (g := (fun x => [.d (.v (.int .i64 x.fThing.fKind)), .d (.v (.int .i64 x.fThing.fId)), .d (.v (.int .i64 x.fThing.fMay)), .d (.v (.bool x.fThing.fMore)), .d (.v (.int .i64 x.fThing.fAt)), .d (.v (.int .i64 x.fn))])) (pre := []) (post := ((cA_t36 (setA v_r392_2.ffds v_p389 (setA v_y440 v_to391 v_y439))).map FV.d)) (o := 5) (fun _ => rfl) h375 rfl) (.cons (arr_store (γ := FV) (sz := 6) (g := (fun x => [.d (.v (.int .i64 x.fThing.fKind)), .d (.v (.int .i64 x.fThing.fId)), .d (.v (.int .i64 x.fThing.fMay)), .d (.v (.bool x.fThing.fMore)), .d (.v (.int .i64 x.fThing.fAt)), .d (.v (.int .i64 x.fn))])) (pre := []) (post := ((cA_t36 (setA v_r392_2.ffds v_p389 (setA v_y440 v_to391 v_y439))).map FV.d)) (o := 5) (y := (S_open_file.mk v_y443.fThing (wi .i64 (v_y442.fn + 1)))) (zs := [.d (.v (.int .i64 (wi .i64 (v_y442.fn + 1))))]) (fun _ => rfl) h376 rfl (Nat.le_of_ble_eq_true rfl)).1 (.cons (arr_store (γ := FV) (sz := 6) (g := (fun x => [.d (.v (.int .i64 x.fThing.fKind)), .d (.v (.int .i64 x.fThing.fId)), .d (.v (.int .i64 x.fThing.fMay)), .d (.v (.bool x.fThing.fMore)), .d (.v (.int .i64 x.fThing.fAt)), .d (.v (.int .i64 x.fn))])) (pre := []) (post := ((cA_t36 (setA v_r392_2.ffds v_p389 (setA v_y440 v_to391 v_y439))).map FV.d)) (o := 5) (y := (S_open_file.mk v_y443.fThing (wi .i64 (v_y442.fn + 1)))) (zs := [.d (.v (.int .i64 (wi .i64 (v_y442.fn + 1))))]) (fun _ => rfl) h376 rfl (Nat.le_of_ble_eq_true rfl)).2 (.cons (show 0 + 5 ≤ 5 by decide) .nil)))))))))))
                        · rw [if_neg h372] at h; cases h
                      · rw [if_neg h371] at h; cases h
                    · rw [if_neg h368] at h; cases h
                  · rw [if_neg h367] at h; cases h
              · rw [if_neg h337] at h; cases h
            · rw [if_neg h336] at h; cases h
    · rw [if_neg h330] at h
      obtain rfl := Option.some.inj h
      exact pendH_sound TTok mix 12 (hs := [.h [0] [] [.box ((cS_open_Table v_r392_2).map FV.d)] (.tup [.ref 0 (0 + (v_r392_0).toNat * 6), .d (.v (.int .i64 v_r392_1))]), .t true, .c]) [0] (by kernel_rfl) (by kernel_rfl) (by kernel_rfl) (.cons (G_open_Table_find_h_ok n v_t388 v_p389 v_fd390 _ h293) (.cons (nt h330) (.cons (show 0 + 5 ≤ 5 by decide) .nil)))
inductive G_ringlaw5_dupped_h_C1_R where
  | x0 (v_x446 : Bool) (v_w447 : (List S_ringref5_Thing))
def G_ringlaw5_dupped_h_C1_ex : G_ringlaw5_dupped_h_C1_R → Ex
  | .x0 _ _ => .normal
def G_ringlaw5_dupped_h_C1_st (v_e387 : Int) (v_r444 : (S_open_Thing × Bool × Int × S_open_Table)) (v_r385 : S_ringref5_Open) (v_a386 : S_ringlaw5_Act) : G_ringlaw5_dupped_h_C1_R → PS
  | .x0 v_x446 v_w447 => ⟨(dd :: .ref 4 0 :: dd :: .d (.v (.int .i64 v_e387)) :: dd :: dd :: .ref 6 0 :: dd :: dd :: .ref 7 0 :: .d (.v (.bool v_r444.2.1)) :: .d (.v (.int .i64 v_r444.2.2.1)) :: (dds 25 (.d (.v (.bool v_x446)) :: (dds 65 [])))), [.gh 0 (.ref 3 0), .gh 1 (.ref 4 0), .gh 2 (.srf 5), .box ((cS_open_Table v_r444.2.2.2).map FV.d), .box ([.srf 5] ++ ((cA_t36 v_r385.fFds).map FV.d)), .row 39 5 (v_w447.map eS_ringref5_Thing), .box ((cS_ringlaw5_Act v_a386).map FV.d), .box [.d (.v (.int .i64 v_r444.1.fKind)), .d (.v (.int .i64 v_r444.1.fId)), .d (.v (.int .i64 v_r444.1.fMay)), .d (.v (.bool v_r444.1.fMore)), .d (.v (.int .i64 v_r444.1.fAt))]]⟩
def G_ringlaw5_dupped_h_C1_hd (v_e387 : Int) (v_r444 : (S_open_Thing × Bool × Int × S_open_Table)) (v_r385 : S_ringref5_Open) (v_a386 : S_ringlaw5_Act)  : PS := ⟨(dd :: .ref 4 0 :: dd :: .d (.v (.int .i64 v_e387)) :: dd :: dd :: .ref 6 0 :: dd :: dd :: .ref 7 0 :: .d (.v (.bool v_r444.2.1)) :: .d (.v (.int .i64 v_r444.2.2.1)) :: (dds 91 [])), [.gh 0 (.ref 3 0), .gh 1 (.ref 4 0), .gh 2 (.srf 5), .box ((cS_open_Table v_r444.2.2.2).map FV.d), .box ([.srf 5] ++ ((cA_t36 v_r385.fFds).map FV.d)), .row 39 5 (v_r385.fThings.map eS_ringref5_Thing), .box ((cS_ringlaw5_Act v_a386).map FV.d), .box [.d (.v (.int .i64 v_r444.1.fKind)), .d (.v (.int .i64 v_r444.1.fId)), .d (.v (.int .i64 v_r444.1.fMay)), .d (.v (.bool v_r444.1.fMore)), .d (.v (.int .i64 v_r444.1.fAt))]]⟩
def G_ringlaw5_dupped_h_C1 (n : Nat) (v_e387 : Int) (v_r444 : (S_open_Thing × Bool × Int × S_open_Table)) (v_r385 : S_ringref5_Open) (v_a386 : S_ringlaw5_Act) : Option G_ringlaw5_dupped_h_C1_R :=
  if v_e387 = 0 then
   if v_a386.fTo < 0 then
    some (.x0 true v_r385.fThings)
   else
    some (.x0 (decide (v_a386.fTo > 7)) v_r385.fThings)
  else
   some (.x0 false v_r385.fThings)
theorem G_ringlaw5_dupped_h_C1_ok {Fi : Ex → PS → Prop} (hF : KC 103 Fi) (ks : List Fr) (n : Nat) (v_e387 : Int) (v_r444 : (S_open_Thing × Bool × Int × S_open_Table)) (v_r385 : S_ringref5_Open) (v_a386 : S_ringlaw5_Act)  (o : G_ringlaw5_dupped_h_C1_R) (h : G_ringlaw5_dupped_h_C1 n v_e387 v_r444 v_r385 v_a386 = some o) (q : RunE Try.prog 103 Fi ks (G_ringlaw5_dupped_h_C1_ex o) (G_ringlaw5_dupped_h_C1_st v_e387 v_r444 v_r385 v_a386 o)) : RunE Try.prog 103 Fi (.s (cL (cL (cR (cR (bodyOf Try.f19))))) :: ks) .normal (G_ringlaw5_dupped_h_C1_hd v_e387 v_r444 v_r385 v_a386) := by
  unfold G_ringlaw5_dupped_h_C1 at h
  by_cases h380 : v_e387 = 0
  · rw [if_pos h380] at h
    by_cases h381 : v_a386.fTo < 0
    · rw [if_pos h381] at h
      cases h
      exact pkk_sound TTok mix hF 1 (hs := [.t true, .c, .c, .c, .c, .t true, .c, .c, .c]) (ts := []) (s := [0, 1, 2, 3, 4, 5, 6, 7]) (l := [1, 3, 6, 9, 10, 11, 37]) (by kernel_rfl) (by kernel_rfl) (.cons (bt h380) (.cons (dt h381) .nil)) q
    · rw [if_neg h381] at h
      cases h
      exact pkk_sound TTok mix hF 1 (hs := [.t true, .c, .c, .c, .c, .t false, .c, .c, .c, .c]) (ts := []) (s := [0, 1, 2, 3, 4, 5, 6, 7]) (l := [1, 3, 6, 9, 10, 11, 37]) (by kernel_rfl) (by kernel_rfl) (.cons (bt h380) (.cons (df h381) .nil)) q
  · rw [if_neg h380] at h
    cases h
    exact pkk_sound TTok mix hF 1 (hs := [.t false, .c, .c, .c, .c]) (ts := []) (s := [0, 1, 2, 3, 4, 5, 6, 7]) (l := [1, 3, 6, 9, 10, 11, 37]) (by kernel_rfl) (by kernel_rfl) (.cons (bf h380) .nil) q
inductive G_ringlaw5_dupped_h_C2_R where
  | x0 (v_x458 : Bool) (v_w459 : (List S_ringref5_Thing))
def G_ringlaw5_dupped_h_C2_ex : G_ringlaw5_dupped_h_C2_R → Ex
  | .x0 _ _ => .normal
def G_ringlaw5_dupped_h_C2_st (v_r444 : (S_open_Thing × Bool × Int × S_open_Table)) (v_r385 : S_ringref5_Open) (v_z454 : (List S_ringref5_Thing)) : G_ringlaw5_dupped_h_C2_R → PS
  | .x0 v_x458 v_w459 => ⟨(dds 8 (.d (.v (.bool v_x458)) :: (dds 94 []))), [.gh 0 (.ref 3 0), .gh 1 (.ref 4 0), .gh 2 (.srf 5), .box ((cS_open_Table v_r444.2.2.2).map FV.d), .box ([.srf 5] ++ ((cA_t36 v_r385.fFds).map FV.d)), .row 39 5 (v_w459.map eS_ringref5_Thing)]⟩
def G_ringlaw5_dupped_h_C2_hd (v_r444 : (S_open_Thing × Bool × Int × S_open_Table)) (v_r385 : S_ringref5_Open) (v_z454 : (List S_ringref5_Thing))  : PS := ⟨(dd :: dd :: dd :: .d (.v (.int .i64 1)) :: dd :: dd :: dd :: dd :: dd :: .ref 6 0 :: .d (.v (.bool v_r444.2.1)) :: .d (.v (.int .i64 v_r444.2.2.1)) :: .ref 7 0 :: .d (.v (.bool false)) :: (dds 89 [])), [.gh 0 (.ref 3 0), .gh 1 (.ref 4 0), .gh 2 (.srf 5), .box ((cS_open_Table v_r444.2.2.2).map FV.d), .box ([.srf 5] ++ ((cA_t36 v_r385.fFds).map FV.d)), .row 39 5 (v_z454.map eS_ringref5_Thing), .box [.d (.v (.int .i64 v_r444.1.fKind)), .d (.v (.int .i64 v_r444.1.fId)), .d (.v (.int .i64 v_r444.1.fMay)), .d (.v (.bool v_r444.1.fMore)), .d (.v (.int .i64 v_r444.1.fAt))], .box [.d (.v (.int .i64 0)), .d (.v (.int .i64 0)), .d (.v (.int .i64 0)), .d (.v (.bool false)), .d (.v (.int .i64 0))]]⟩
def G_ringlaw5_dupped_h_C2 (n : Nat) (v_r444 : (S_open_Thing × Bool × Int × S_open_Table)) (v_r385 : S_ringref5_Open) (v_z454 : (List S_ringref5_Thing)) : Option G_ringlaw5_dupped_h_C2_R :=
  if 1 = v_r444.2.2.1 then
   (G_ringlaw5_thing n (S_ringref5_Thing.mk 0 0 0 false 0)).bind fun (v_r457 : (S_open_Thing)) =>
   if (eqRes .eql (eqS_open_Thing v_r444.1 v_r457)) = true then
    some (.x0 (eqRes .eql (v_r444.2.1 == false)) v_z454)
   else
    some (.x0 false v_z454)
  else
   some (.x0 false v_z454)
theorem G_ringlaw5_dupped_h_C2_ok {Fi : Ex → PS → Prop} (hF : KC 103 Fi) (ks : List Fr) (n : Nat) (v_r444 : (S_open_Thing × Bool × Int × S_open_Table)) (v_r385 : S_ringref5_Open) (v_z454 : (List S_ringref5_Thing))  (o : G_ringlaw5_dupped_h_C2_R) (h : G_ringlaw5_dupped_h_C2 n v_r444 v_r385 v_z454 = some o) (q : RunE Try.prog 103 Fi ks (G_ringlaw5_dupped_h_C2_ex o) (G_ringlaw5_dupped_h_C2_st v_r444 v_r385 v_z454 o)) : RunE Try.prog 103 Fi (.s (cL (cR (cR (cR (cR (cR (cR (bodyOf Try.f19)))))))) :: ks) .normal (G_ringlaw5_dupped_h_C2_hd v_r444 v_r385 v_z454) := by
  unfold G_ringlaw5_dupped_h_C2 at h
  by_cases h387 : 1 = v_r444.2.2.1
  · rw [if_pos h387] at h
    obtain ⟨v_r457, h388, h⟩ := bind_some h
    by_cases h389 : (eqRes .eql (eqS_open_Thing v_r444.1 v_r457)) = true
    · rw [if_pos h389] at h
      cases h
      exact pkk_sound TTok mix hF 1 (hs := [.t true, .c, .c, .c, .c, .r (eS_open_Thing v_r457), .c, .q (eqS_open_Thing v_r444.1 v_r457), .t true, .c, .c]) (ts := []) (s := [0, 1, 2, 3, 4, 5]) (l := [8]) (by kernel_rfl) (by kernel_rfl) (.cons (bt h387) (.cons (G_ringlaw5_thing_ok n (S_ringref5_Thing.mk 0 0 0 false 0) _ h388) (.cons (eqS_open_Thing_ok v_r444.1 v_r457) (.cons h389 .nil)))) q
    · rw [if_neg h389] at h
      cases h
      exact pkk_sound TTok mix hF 1 (hs := [.t true, .c, .c, .c, .c, .r (eS_open_Thing v_r457), .c, .q (eqS_open_Thing v_r444.1 v_r457), .t false, .c, .c]) (ts := []) (s := [0, 1, 2, 3, 4, 5]) (l := [8]) (by kernel_rfl) (by kernel_rfl) (.cons (bt h387) (.cons (G_ringlaw5_thing_ok n (S_ringref5_Thing.mk 0 0 0 false 0) _ h388) (.cons (eqS_open_Thing_ok v_r444.1 v_r457) (.cons (vf h389) .nil)))) q
  · rw [if_neg h387] at h
    cases h
    exact pkk_sound TTok mix hF 1 (hs := [.t false, .c, .c, .c, .c, .c, .c]) (ts := []) (s := [0, 1, 2, 3, 4, 5]) (l := [8]) (by kernel_rfl) (by kernel_rfl) (.cons (bf h387) .nil) q
inductive G_ringlaw5_dupped_h_C3_R where
  | x0 (v_x468 : Bool) (v_w469 : (List S_ringref5_Thing))
def G_ringlaw5_dupped_h_C3_ex : G_ringlaw5_dupped_h_C3_R → Ex
  | .x0 _ _ => .normal
def G_ringlaw5_dupped_h_C3_st (v_e387 : Int) (v_r444 : (S_open_Thing × Bool × Int × S_open_Table)) (v_r385 : S_ringref5_Open) (v_z454 : (List S_ringref5_Thing)) (v_a386 : S_ringlaw5_Act) : G_ringlaw5_dupped_h_C3_R → PS
  | .x0 v_x468 v_w469 => ⟨(dd :: .ref 4 0 :: dd :: .d (.v (.int .i64 v_e387)) :: dd :: dd :: .ref 6 0 :: dd :: dd :: .ref 7 0 :: .d (.v (.bool v_r444.2.1)) :: .d (.v (.int .i64 v_r444.2.2.1)) :: .ref 8 0 :: .d (.v (.bool false)) :: (dds 32 (.d (.v (.bool v_x468)) :: (dds 56 [])))), [.gh 0 (.ref 3 0), .gh 1 (.ref 4 0), .gh 2 (.srf 5), .box ((cS_open_Table v_r444.2.2.2).map FV.d), .box ([.srf 5] ++ ((cA_t36 v_r385.fFds).map FV.d)), .row 39 5 (v_w469.map eS_ringref5_Thing), .box ((cS_ringlaw5_Act v_a386).map FV.d), .box [.d (.v (.int .i64 v_r444.1.fKind)), .d (.v (.int .i64 v_r444.1.fId)), .d (.v (.int .i64 v_r444.1.fMay)), .d (.v (.bool v_r444.1.fMore)), .d (.v (.int .i64 v_r444.1.fAt))], .box [.d (.v (.int .i64 0)), .d (.v (.int .i64 0)), .d (.v (.int .i64 0)), .d (.v (.bool false)), .d (.v (.int .i64 0))]]⟩
def G_ringlaw5_dupped_h_C3_hd (v_e387 : Int) (v_r444 : (S_open_Thing × Bool × Int × S_open_Table)) (v_r385 : S_ringref5_Open) (v_z454 : (List S_ringref5_Thing)) (v_a386 : S_ringlaw5_Act)  : PS := ⟨(dd :: .ref 4 0 :: dd :: .d (.v (.int .i64 v_e387)) :: dd :: dd :: .ref 6 0 :: dd :: dd :: .ref 7 0 :: .d (.v (.bool v_r444.2.1)) :: .d (.v (.int .i64 v_r444.2.2.1)) :: .ref 8 0 :: .d (.v (.bool false)) :: (dds 89 [])), [.gh 0 (.ref 3 0), .gh 1 (.ref 4 0), .gh 2 (.srf 5), .box ((cS_open_Table v_r444.2.2.2).map FV.d), .box ([.srf 5] ++ ((cA_t36 v_r385.fFds).map FV.d)), .row 39 5 (v_z454.map eS_ringref5_Thing), .box ((cS_ringlaw5_Act v_a386).map FV.d), .box [.d (.v (.int .i64 v_r444.1.fKind)), .d (.v (.int .i64 v_r444.1.fId)), .d (.v (.int .i64 v_r444.1.fMay)), .d (.v (.bool v_r444.1.fMore)), .d (.v (.int .i64 v_r444.1.fAt))], .box [.d (.v (.int .i64 0)), .d (.v (.int .i64 0)), .d (.v (.int .i64 0)), .d (.v (.bool false)), .d (.v (.int .i64 0))]]⟩
def G_ringlaw5_dupped_h_C3 (n : Nat) (v_e387 : Int) (v_r444 : (S_open_Thing × Bool × Int × S_open_Table)) (v_r385 : S_ringref5_Open) (v_z454 : (List S_ringref5_Thing)) (v_a386 : S_ringlaw5_Act) : Option G_ringlaw5_dupped_h_C3_R :=
  if v_e387 = 0 then
   some (.x0 (v_a386.fTo != v_a386.fFd) v_z454)
  else
   some (.x0 false v_z454)
theorem G_ringlaw5_dupped_h_C3_ok {Fi : Ex → PS → Prop} (hF : KC 103 Fi) (ks : List Fr) (n : Nat) (v_e387 : Int) (v_r444 : (S_open_Thing × Bool × Int × S_open_Table)) (v_r385 : S_ringref5_Open) (v_z454 : (List S_ringref5_Thing)) (v_a386 : S_ringlaw5_Act)  (o : G_ringlaw5_dupped_h_C3_R) (h : G_ringlaw5_dupped_h_C3 n v_e387 v_r444 v_r385 v_z454 v_a386 = some o) (q : RunE Try.prog 103 Fi ks (G_ringlaw5_dupped_h_C3_ex o) (G_ringlaw5_dupped_h_C3_st v_e387 v_r444 v_r385 v_z454 v_a386 o)) : RunE Try.prog 103 Fi (.s (cL (cL (cR (cR (cR (cR (cR (bodyOf Try.f19)))))))) :: ks) .normal (G_ringlaw5_dupped_h_C3_hd v_e387 v_r444 v_r385 v_z454 v_a386) := by
  unfold G_ringlaw5_dupped_h_C3 at h
  by_cases h392 : v_e387 = 0
  · rw [if_pos h392] at h
    cases h
    exact pkk_sound TTok mix hF 1 (hs := [.t true, .c, .c, .c, .c, .c, .c]) (ts := []) (s := [0, 1, 2, 3, 4, 5, 6, 7, 8]) (l := [1, 3, 6, 9, 10, 11, 12, 13, 46]) (by kernel_rfl) (by kernel_rfl) (.cons (bt h392) .nil) q
  · rw [if_neg h392] at h
    cases h
    exact pkk_sound TTok mix hF 1 (hs := [.t false, .c, .c, .c, .c]) (ts := []) (s := [0, 1, 2, 3, 4, 5, 6, 7, 8]) (l := [1, 3, 6, 9, 10, 11, 12, 13, 46]) (by kernel_rfl) (by kernel_rfl) (.cons (bf h392) .nil) q
inductive G_ringlaw5_dupped_h_C4_R where
  | x0 (v_gone517 : Bool) (v_b518 : (Fin 17 → (Fin 8 → Int))) (v_w519 : (List S_ringref5_Thing))
  | x1 (v_gone520 : Bool) (v_b521 : (Fin 17 → (Fin 8 → Int))) (v_w522 : (List S_ringref5_Thing)) (v_b523 : S_ringref5_Thing)
  | x2 (v_gone524 : Bool) (v_w525 : (List S_ringref5_Thing))
def G_ringlaw5_dupped_h_C4_ex : G_ringlaw5_dupped_h_C4_R → Ex
  | .x0 _ _ _ => .normal
  | .x1 _ _ _ _ => .normal
  | .x2 _ _ => .normal
def G_ringlaw5_dupped_h_C4_st (v_e387 : Int) (v_r444 : (S_open_Thing × Bool × Int × S_open_Table)) (v_y513 : Int) (v_r385 : S_ringref5_Open) (v_z474 : (List S_ringref5_Thing)) (v_a386 : S_ringlaw5_Act) : G_ringlaw5_dupped_h_C4_R → PS
  | .x0 v_gone517 v_b518 v_w519 => ⟨(dd :: .ref 4 0 :: dd :: .d (.v (.int .i64 v_e387)) :: dd :: dd :: .ref 7 0 :: dd :: dd :: .ref 8 0 :: .d (.v (.bool v_r444.2.1)) :: .d (.v (.int .i64 v_r444.2.2.1)) :: .ref 9 0 :: .d (.v (.bool v_gone517)) :: (dds 89 [])), [.gh 0 (.ref 3 0), .gh 1 (.ref 4 0), .gh 2 (.srf 6), .box ((cS_open_Table v_r444.2.2.2).map FV.d), .box ([.srf 5] ++ ((cA_t36 v_b518).map FV.d)), .row 39 5 (v_w519.map eS_ringref5_Thing), .none, .box ((cS_ringlaw5_Act v_a386).map FV.d), .box [.d (.v (.int .i64 v_r444.1.fKind)), .d (.v (.int .i64 v_r444.1.fId)), .d (.v (.int .i64 v_r444.1.fMay)), .d (.v (.bool v_r444.1.fMore)), .d (.v (.int .i64 v_r444.1.fAt))], .box [.d (.v (.int .i64 0)), .d (.v (.int .i64 0)), .d (.v (.int .i64 0)), .d (.v (.bool false)), .d (.v (.int .i64 0))]]⟩
  | .x1 v_gone520 v_b521 v_w522 v_b523 => ⟨(dd :: .ref 4 0 :: dd :: .d (.v (.int .i64 v_e387)) :: dd :: dd :: .ref 7 0 :: dd :: dd :: .ref 8 0 :: .d (.v (.bool v_r444.2.1)) :: .d (.v (.int .i64 v_r444.2.2.1)) :: .ref 9 0 :: .d (.v (.bool v_gone520)) :: (dds 89 [])), [.gh 0 (.ref 3 0), .gh 1 (.ref 4 0), .gh 2 (.srf 6), .box ((cS_open_Table v_r444.2.2.2).map FV.d), .box ([.srf 5] ++ ((cA_t36 v_b521).map FV.d)), .row 39 5 (v_w522.map eS_ringref5_Thing), .none, .box ((cS_ringlaw5_Act v_a386).map FV.d), .box [.d (.v (.int .i64 v_r444.1.fKind)), .d (.v (.int .i64 v_r444.1.fId)), .d (.v (.int .i64 v_r444.1.fMay)), .d (.v (.bool v_r444.1.fMore)), .d (.v (.int .i64 v_r444.1.fAt))], .box [.d (.v (.int .i64 v_b523.fKind)), .d (.v (.int .i64 v_b523.fId)), .d (.v (.int .i64 v_b523.fMay)), .d (.v (.bool v_b523.fMore)), .d (.v (.int .i64 v_b523.fAt))]]⟩
  | .x2 v_gone524 v_w525 => ⟨(dd :: .ref 4 0 :: dd :: .d (.v (.int .i64 v_e387)) :: dd :: dd :: .ref 6 0 :: dd :: dd :: .ref 7 0 :: .d (.v (.bool v_r444.2.1)) :: .d (.v (.int .i64 v_r444.2.2.1)) :: .ref 8 0 :: .d (.v (.bool v_gone524)) :: (dds 89 [])), [.gh 0 (.ref 3 0), .gh 1 (.ref 4 0), .gh 2 (.srf 5), .box ((cS_open_Table v_r444.2.2.2).map FV.d), .box ([.srf 5] ++ ((cA_t36 v_r385.fFds).map FV.d)), .row 39 5 (v_w525.map eS_ringref5_Thing), .box ((cS_ringlaw5_Act v_a386).map FV.d), .box [.d (.v (.int .i64 v_r444.1.fKind)), .d (.v (.int .i64 v_r444.1.fId)), .d (.v (.int .i64 v_r444.1.fMay)), .d (.v (.bool v_r444.1.fMore)), .d (.v (.int .i64 v_r444.1.fAt))], .box [.d (.v (.int .i64 0)), .d (.v (.int .i64 0)), .d (.v (.int .i64 0)), .d (.v (.bool false)), .d (.v (.int .i64 0))]]⟩
def G_ringlaw5_dupped_h_C4_hd (v_e387 : Int) (v_r444 : (S_open_Thing × Bool × Int × S_open_Table)) (v_y513 : Int) (v_r385 : S_ringref5_Open) (v_z474 : (List S_ringref5_Thing)) (v_a386 : S_ringlaw5_Act)  : PS := ⟨(dd :: .ref 4 0 :: dd :: .d (.v (.int .i64 v_e387)) :: dd :: dd :: .ref 6 0 :: dd :: dd :: .ref 7 0 :: .d (.v (.bool v_r444.2.1)) :: .d (.v (.int .i64 v_r444.2.2.1)) :: .ref 8 0 :: .d (.v (.bool false)) :: (dds 43 (.d (.v (.bool (decide (v_y513 > 0)))) :: (dds 45 [])))), [.gh 0 (.ref 3 0), .gh 1 (.ref 4 0), .gh 2 (.srf 5), .box ((cS_open_Table v_r444.2.2.2).map FV.d), .box ([.srf 5] ++ ((cA_t36 v_r385.fFds).map FV.d)), .row 39 5 (v_z474.map eS_ringref5_Thing), .box ((cS_ringlaw5_Act v_a386).map FV.d), .box [.d (.v (.int .i64 v_r444.1.fKind)), .d (.v (.int .i64 v_r444.1.fId)), .d (.v (.int .i64 v_r444.1.fMay)), .d (.v (.bool v_r444.1.fMore)), .d (.v (.int .i64 v_r444.1.fAt))], .box [.d (.v (.int .i64 0)), .d (.v (.int .i64 0)), .d (.v (.int .i64 0)), .d (.v (.bool false)), .d (.v (.int .i64 0))]]⟩
def G_ringlaw5_dupped_h_C4 (n : Nat) (v_e387 : Int) (v_r444 : (S_open_Thing × Bool × Int × S_open_Table)) (v_y513 : Int) (v_r385 : S_ringref5_Open) (v_z474 : (List S_ringref5_Thing)) (v_a386 : S_ringlaw5_Act) : Option G_ringlaw5_dupped_h_C4_R :=
  if v_y513 > 0 then
   (G_ringref5_Open_Less_h n (S_ringref5_Open.mk v_z474 v_r385.fFds) v_a386.fP v_a386.fTo).bind fun (v_r516 : (S_ringref5_Thing × Bool × S_ringref5_Open)) =>
   if v_r516.2.1 = true then
    some (.x1 v_r516.2.1 v_r516.2.2.fFds v_r516.2.2.fThings v_r516.1)
   else
    some (.x0 v_r516.2.1 v_r516.2.2.fFds v_r516.2.2.fThings)
  else
   some (.x2 false v_z474)
theorem G_ringlaw5_dupped_h_C4_ok {Fi : Ex → PS → Prop} (hF : KC 103 Fi) (ks : List Fr) (n : Nat) (v_e387 : Int) (v_r444 : (S_open_Thing × Bool × Int × S_open_Table)) (v_y513 : Int) (v_r385 : S_ringref5_Open) (v_z474 : (List S_ringref5_Thing)) (v_a386 : S_ringlaw5_Act)  (o : G_ringlaw5_dupped_h_C4_R) (h : G_ringlaw5_dupped_h_C4 n v_e387 v_r444 v_y513 v_r385 v_z474 v_a386 = some o) (q : RunE Try.prog 103 Fi ks (G_ringlaw5_dupped_h_C4_ex o) (G_ringlaw5_dupped_h_C4_st v_e387 v_r444 v_y513 v_r385 v_z474 v_a386 o)) : RunE Try.prog 103 Fi (.s (cR (cL (cT (cR (cL (cR (cR (cR (cR (cR (bodyOf Try.f19))))))))))) :: ks) .normal (G_ringlaw5_dupped_h_C4_hd v_e387 v_r444 v_y513 v_r385 v_z474 v_a386) := by
  unfold G_ringlaw5_dupped_h_C4 at h
  by_cases h438 : v_y513 > 0
  · rw [if_pos h438] at h
    obtain ⟨v_r516, h439, h⟩ := bind_some h
    by_cases h440 : v_r516.2.1 = true
    · rw [if_pos h440] at h
      cases h
      exact pkk_sound TTok mix hF 7 (hs := [.t true, .c, .c, .h [4, 5] [] [.box ([.srf 2] ++ ((cA_t36 v_r516.2.2.fFds).map FV.d)), .none, .row 39 5 (v_r516.2.2.fThings.map eS_ringref5_Thing)] (.tup [.d (.agg [.v (.int .i64 v_r516.1.fKind), .v (.int .i64 v_r516.1.fId), .v (.int .i64 v_r516.1.fMay), .v (.bool v_r516.1.fMore), .v (.int .i64 v_r516.1.fAt)]), .d (.v (.bool v_r516.2.1))]), .c, .t false]) (ts := []) (s := [0, 1, 2, 3, 4, 34, 5, 6, 7, 8]) (l := [1, 3, 6, 9, 10, 11, 12, 13]) (by kernel_rfl) (by kernel_rfl) (.cons (dt h438) (.cons (G_ringref5_Open_Less_h_ok n (S_ringref5_Open.mk v_z474 v_r385.fFds) v_a386.fP v_a386.fTo _ h439) (.cons (show 0 + 5 ≤ 5 by decide) (.cons (bnf h440) .nil)))) q
    · rw [if_neg h440] at h
      cases h
      exact pkk_sound TTok mix hF 7 (hs := [.t true, .c, .c, .h [4, 5] [] [.box ([.srf 2] ++ ((cA_t36 v_r516.2.2.fFds).map FV.d)), .none, .row 39 5 (v_r516.2.2.fThings.map eS_ringref5_Thing)] (.tup [.d (.agg [.v (.int .i64 v_r516.1.fKind), .v (.int .i64 v_r516.1.fId), .v (.int .i64 v_r516.1.fMay), .v (.bool v_r516.1.fMore), .v (.int .i64 v_r516.1.fAt)]), .d (.v (.bool v_r516.2.1))]), .c, .t true, .c]) (ts := []) (s := [0, 1, 2, 3, 4, 34, 5, 6, 7, 8]) (l := [1, 3, 6, 9, 10, 11, 12, 13]) (by kernel_rfl) (by kernel_rfl) (.cons (dt h438) (.cons (G_ringref5_Open_Less_h_ok n (S_ringref5_Open.mk v_z474 v_r385.fFds) v_a386.fP v_a386.fTo _ h439) (.cons (show 0 + 5 ≤ 5 by decide) (.cons (bnt (vf h440)) (.cons (show 0 + 5 ≤ 5 by decide) .nil))))) q
  · rw [if_neg h438] at h
    cases h
    exact pkk_sound TTok mix hF 2 (hs := [.t false]) (ts := []) (s := [0, 1, 2, 3, 4, 5, 6, 7, 8]) (l := [1, 3, 6, 9, 10, 11, 12, 13]) (by kernel_rfl) (by kernel_rfl) (.cons (df h438) .nil) q
inductive G_ringlaw5_dupped_h_C5_R where
  | x0 (v_gone534 : Bool) (v_b535 : (Fin 17 → (Fin 8 → Int))) (v_w536 : (List S_ringref5_Thing))
  | x1 (v_gone545 : Bool) (v_b546 : (Fin 17 → (Fin 8 → Int))) (v_w547 : (List S_ringref5_Thing)) (v_b548 : S_ringref5_Thing)
  | x2 (v_gone555 : Bool) (v_b556 : (Fin 17 → (Fin 8 → Int))) (v_w557 : (List S_ringref5_Thing))
  | x3 (v_gone558 : Bool) (v_w559 : (List S_ringref5_Thing))
def G_ringlaw5_dupped_h_C5_ex : G_ringlaw5_dupped_h_C5_R → Ex
  | .x0 _ _ _ => .normal
  | .x1 _ _ _ _ => .normal
  | .x2 _ _ _ => .normal
  | .x3 _ _ => .normal
def G_ringlaw5_dupped_h_C5_st (v_e387 : Int) (v_r444 : (S_open_Thing × Bool × Int × S_open_Table)) (v_z473 : Bool) (v_r385 : S_ringref5_Open) (v_z474 : (List S_ringref5_Thing)) (v_a386 : S_ringlaw5_Act) : G_ringlaw5_dupped_h_C5_R → PS
  | .x0 v_gone534 v_b535 v_w536 => ⟨(dd :: dd :: dd :: .d (.v (.int .i64 v_e387)) :: dd :: dd :: dd :: dd :: dd :: .ref 7 0 :: .d (.v (.bool v_r444.2.1)) :: .d (.v (.int .i64 v_r444.2.2.1)) :: .ref 8 0 :: .d (.v (.bool v_gone534)) :: (dds 89 [])), [.gh 0 (.ref 3 0), .gh 1 (.ref 4 0), .gh 2 (.srf 6), .box ((cS_open_Table v_r444.2.2.2).map FV.d), .box ([.srf 5] ++ ((cA_t36 v_b535).map FV.d)), .row 39 5 (v_w536.map eS_ringref5_Thing), .none, .box [.d (.v (.int .i64 v_r444.1.fKind)), .d (.v (.int .i64 v_r444.1.fId)), .d (.v (.int .i64 v_r444.1.fMay)), .d (.v (.bool v_r444.1.fMore)), .d (.v (.int .i64 v_r444.1.fAt))], .box [.d (.v (.int .i64 0)), .d (.v (.int .i64 0)), .d (.v (.int .i64 0)), .d (.v (.bool false)), .d (.v (.int .i64 0))]]⟩
  | .x1 v_gone545 v_b546 v_w547 v_b548 => ⟨(dd :: dd :: dd :: .d (.v (.int .i64 v_e387)) :: dd :: dd :: dd :: dd :: dd :: .ref 7 0 :: .d (.v (.bool v_r444.2.1)) :: .d (.v (.int .i64 v_r444.2.2.1)) :: .ref 8 0 :: .d (.v (.bool v_gone545)) :: (dds 89 [])), [.gh 0 (.ref 3 0), .gh 1 (.ref 4 0), .gh 2 (.srf 6), .box ((cS_open_Table v_r444.2.2.2).map FV.d), .box ([.srf 5] ++ ((cA_t36 v_b546).map FV.d)), .row 39 5 (v_w547.map eS_ringref5_Thing), .none, .box [.d (.v (.int .i64 v_r444.1.fKind)), .d (.v (.int .i64 v_r444.1.fId)), .d (.v (.int .i64 v_r444.1.fMay)), .d (.v (.bool v_r444.1.fMore)), .d (.v (.int .i64 v_r444.1.fAt))], .box [.d (.v (.int .i64 v_b548.fKind)), .d (.v (.int .i64 v_b548.fId)), .d (.v (.int .i64 v_b548.fMay)), .d (.v (.bool v_b548.fMore)), .d (.v (.int .i64 v_b548.fAt))]]⟩
  | .x2 v_gone555 v_b556 v_w557 => ⟨(dd :: dd :: dd :: .d (.v (.int .i64 v_e387)) :: dd :: dd :: dd :: dd :: dd :: .ref 6 0 :: .d (.v (.bool v_r444.2.1)) :: .d (.v (.int .i64 v_r444.2.2.1)) :: .ref 7 0 :: .d (.v (.bool v_gone555)) :: (dds 89 [])), [.gh 0 (.ref 3 0), .gh 1 (.ref 4 0), .gh 2 (.srf 5), .box ((cS_open_Table v_r444.2.2.2).map FV.d), .box ([.srf 5] ++ ((cA_t36 v_b556).map FV.d)), .row 39 5 (v_w557.map eS_ringref5_Thing), .box [.d (.v (.int .i64 v_r444.1.fKind)), .d (.v (.int .i64 v_r444.1.fId)), .d (.v (.int .i64 v_r444.1.fMay)), .d (.v (.bool v_r444.1.fMore)), .d (.v (.int .i64 v_r444.1.fAt))], .box [.d (.v (.int .i64 0)), .d (.v (.int .i64 0)), .d (.v (.int .i64 0)), .d (.v (.bool false)), .d (.v (.int .i64 0))]]⟩
  | .x3 v_gone558 v_w559 => ⟨(dd :: dd :: dd :: .d (.v (.int .i64 v_e387)) :: dd :: dd :: dd :: dd :: dd :: .ref 6 0 :: .d (.v (.bool v_r444.2.1)) :: .d (.v (.int .i64 v_r444.2.2.1)) :: .ref 7 0 :: .d (.v (.bool v_gone558)) :: (dds 89 [])), [.gh 0 (.ref 3 0), .gh 1 (.ref 4 0), .gh 2 (.srf 5), .box ((cS_open_Table v_r444.2.2.2).map FV.d), .box ([.srf 5] ++ ((cA_t36 v_r385.fFds).map FV.d)), .row 39 5 (v_w559.map eS_ringref5_Thing), .box [.d (.v (.int .i64 v_r444.1.fKind)), .d (.v (.int .i64 v_r444.1.fId)), .d (.v (.int .i64 v_r444.1.fMay)), .d (.v (.bool v_r444.1.fMore)), .d (.v (.int .i64 v_r444.1.fAt))], .box [.d (.v (.int .i64 0)), .d (.v (.int .i64 0)), .d (.v (.int .i64 0)), .d (.v (.bool false)), .d (.v (.int .i64 0))]]⟩
def G_ringlaw5_dupped_h_C5_hd (v_e387 : Int) (v_r444 : (S_open_Thing × Bool × Int × S_open_Table)) (v_z473 : Bool) (v_r385 : S_ringref5_Open) (v_z474 : (List S_ringref5_Thing)) (v_a386 : S_ringlaw5_Act)  : PS := ⟨(dd :: .ref 4 0 :: dd :: .d (.v (.int .i64 v_e387)) :: dd :: dd :: .ref 6 0 :: dd :: dd :: .ref 7 0 :: .d (.v (.bool v_r444.2.1)) :: .d (.v (.int .i64 v_r444.2.2.1)) :: .ref 8 0 :: .d (.v (.bool false)) :: (dds 32 (.d (.v (.bool v_z473)) :: (dds 56 [])))), [.gh 0 (.ref 3 0), .gh 1 (.ref 4 0), .gh 2 (.srf 5), .box ((cS_open_Table v_r444.2.2.2).map FV.d), .box ([.srf 5] ++ ((cA_t36 v_r385.fFds).map FV.d)), .row 39 5 (v_z474.map eS_ringref5_Thing), .box ((cS_ringlaw5_Act v_a386).map FV.d), .box [.d (.v (.int .i64 v_r444.1.fKind)), .d (.v (.int .i64 v_r444.1.fId)), .d (.v (.int .i64 v_r444.1.fMay)), .d (.v (.bool v_r444.1.fMore)), .d (.v (.int .i64 v_r444.1.fAt))], .box [.d (.v (.int .i64 0)), .d (.v (.int .i64 0)), .d (.v (.int .i64 0)), .d (.v (.bool false)), .d (.v (.int .i64 0))]]⟩
def G_ringlaw5_dupped_h_C5 (n : Nat) (v_e387 : Int) (v_r444 : (S_open_Thing × Bool × Int × S_open_Table)) (v_z473 : Bool) (v_r385 : S_ringref5_Open) (v_z474 : (List S_ringref5_Thing)) (v_a386 : S_ringlaw5_Act) : Option G_ringlaw5_dupped_h_C5_R :=
  if v_z473 = true then
   if 0 ≤ v_a386.fP ∧ v_a386.fP < (17 : Int) then
    if 0 ≤ v_a386.fTo ∧ v_a386.fTo < (8 : Int) then
     (getA v_r385.fFds v_a386.fP).bind fun (v_y512 : (Fin 8 → Int)) =>
     (getA v_y512 v_a386.fTo).bind fun (v_y513 : Int) =>
     (G_ringlaw5_dupped_h_C4 n v_e387 v_r444 v_y513 v_r385 v_z474 v_a386).bind fun v_o526 => match v_o526 with
     | .x0 v_z527 v_z528 v_z529 =>
       if 0 ≤ v_a386.fP ∧ v_a386.fP < (17 : Int) then
        if 0 ≤ v_a386.fFd ∧ v_a386.fFd < (8 : Int) then
         (getA v_z528 v_a386.fP).bind fun (v_y530 : (Fin 8 → Int)) =>
         (getA v_y530 v_a386.fFd).bind fun (v_y531 : Int) =>
         if 0 ≤ v_a386.fP ∧ v_a386.fP < (17 : Int) then
          if 0 ≤ v_a386.fTo ∧ v_a386.fTo < (8 : Int) then
           (getA v_z528 v_a386.fP).bind fun (v_y532 : (Fin 8 → Int)) =>
           (getA v_y532 v_a386.fTo).bind fun (v_y533 : Int) =>
           some (.x0 v_z527 (setA v_z528 v_a386.fP (setA v_y532 v_a386.fTo v_y531)) v_z529)
          else none
         else none
        else none
       else none
     | .x1 v_z537 v_z538 v_z539 v_z540 =>
       if 0 ≤ v_a386.fP ∧ v_a386.fP < (17 : Int) then
        if 0 ≤ v_a386.fFd ∧ v_a386.fFd < (8 : Int) then
         (getA v_z538 v_a386.fP).bind fun (v_y541 : (Fin 8 → Int)) =>
         (getA v_y541 v_a386.fFd).bind fun (v_y542 : Int) =>
         if 0 ≤ v_a386.fP ∧ v_a386.fP < (17 : Int) then
          if 0 ≤ v_a386.fTo ∧ v_a386.fTo < (8 : Int) then
           (getA v_z538 v_a386.fP).bind fun (v_y543 : (Fin 8 → Int)) =>
           (getA v_y543 v_a386.fTo).bind fun (v_y544 : Int) =>
           some (.x1 v_z537 (setA v_z538 v_a386.fP (setA v_y543 v_a386.fTo v_y542)) v_z539 v_z540)
          else none
         else none
        else none
       else none
     | .x2 v_z549 v_z550 =>
       if 0 ≤ v_a386.fP ∧ v_a386.fP < (17 : Int) then
        if 0 ≤ v_a386.fFd ∧ v_a386.fFd < (8 : Int) then
         (getA v_r385.fFds v_a386.fP).bind fun (v_y551 : (Fin 8 → Int)) =>
         (getA v_y551 v_a386.fFd).bind fun (v_y552 : Int) =>
         if 0 ≤ v_a386.fP ∧ v_a386.fP < (17 : Int) then
          if 0 ≤ v_a386.fTo ∧ v_a386.fTo < (8 : Int) then
           (getA v_r385.fFds v_a386.fP).bind fun (v_y553 : (Fin 8 → Int)) =>
           (getA v_y553 v_a386.fTo).bind fun (v_y554 : Int) =>
           some (.x2 v_z549 (setA v_r385.fFds v_a386.fP (setA v_y553 v_a386.fTo v_y552)) v_z550)
          else none
         else none
        else none
       else none
    else none
   else none
  else
   some (.x3 false v_z474)
theorem G_ringlaw5_dupped_h_C5_ok {Fi : Ex → PS → Prop} (hF : KC 103 Fi) (ks : List Fr) (n : Nat) (v_e387 : Int) (v_r444 : (S_open_Thing × Bool × Int × S_open_Table)) (v_z473 : Bool) (v_r385 : S_ringref5_Open) (v_z474 : (List S_ringref5_Thing)) (v_a386 : S_ringlaw5_Act)  (o : G_ringlaw5_dupped_h_C5_R) (h : G_ringlaw5_dupped_h_C5 n v_e387 v_r444 v_z473 v_r385 v_z474 v_a386 = some o) (q : RunE Try.prog 103 Fi ks (G_ringlaw5_dupped_h_C5_ex o) (G_ringlaw5_dupped_h_C5_st v_e387 v_r444 v_z473 v_r385 v_z474 v_a386 o)) : RunE Try.prog 103 Fi (.s (cR (cL (cR (cR (cR (cR (cR (bodyOf Try.f19)))))))) :: ks) .normal (G_ringlaw5_dupped_h_C5_hd v_e387 v_r444 v_z473 v_r385 v_z474 v_a386) := by
  unfold G_ringlaw5_dupped_h_C5 at h
  by_cases h430 : v_z473 = true
  · rw [if_pos h430] at h
    by_cases h431 : 0 ≤ v_a386.fP ∧ v_a386.fP < (17 : Int)
    · rw [if_pos h431] at h
      by_cases h432 : 0 ≤ v_a386.fTo ∧ v_a386.fTo < (8 : Int)
      · rw [if_pos h432] at h
        obtain ⟨v_y512, h433, h⟩ := bind_some h
        obtain ⟨v_y513, h434, h⟩ := bind_some h
        obtain ⟨v_o526, h441, h⟩ := bind_some h
        refine pkk_sound TTok mix hF 4 (hs := [.t true, .c, .c, .l (.d (.v (.int .i64 v_y513)))]) (ts := []) (s := [0, 1, 2, 3, 4, 5, 6, 7, 8]) (l := [1, 3, 6, 9, 10, 11, 12, 13, 57]) (by kernel_rfl) (by kernel_rfl) (.cons h430 (.cons h431 (.cons h432 (.cons (arr_cell2 (γ := FV) (sz := 8) (g := (fun x => [.d (.v (.int .i64 (x 0))), .d (.v (.int .i64 (x 1))), .d (.v (.int .i64 (x 2))), .d (.v (.int .i64 (x 3))), .d (.v (.int .i64 (x 4))), .d (.v (.int .i64 (x 5))), .d (.v (.int .i64 (x 6))), .d (.v (.int .i64 (x 7)))])) (pre := [.srf 5]) (post := []) (P0 := 1) (o := 0 + (v_a386.fTo).toNat * 1 + 0) rfl (fun _ => rfl) h433 (arr_cell2 (γ := FV) (sz := 1) (g := (fun x => [.d (.v (.int .i64 x))])) (pre := []) (post := []) (P0 := 0) (o := 0) rfl (fun _ => rfl) h434 rfl (idx := 0 + (v_a386.fTo).toNat * 1 + 0) (by omega)) (idx := 1 + (v_a386.fP).toNat * 8 + (v_a386.fTo).toNat * 1) (by omega)) .nil)))) (G_ringlaw5_dupped_h_C4_ok hF (.s (cR (cT (cR (cL (cR (cR (cR (cR (cR (bodyOf Try.f19)))))))))) :: ks) n v_e387 v_r444 v_y513 v_r385 v_z474 v_a386 _ h441 ?_)
        cases v_o526 with
        | x0 v_z527 v_z528 v_z529 =>
          try dsimp only at h
          by_cases h442 : 0 ≤ v_a386.fP ∧ v_a386.fP < (17 : Int)
          · rw [if_pos h442] at h
            by_cases h443 : 0 ≤ v_a386.fFd ∧ v_a386.fFd < (8 : Int)
            · rw [if_pos h443] at h
              obtain ⟨v_y530, h444, h⟩ := bind_some h
              obtain ⟨v_y531, h445, h⟩ := bind_some h
              by_cases h446 : 0 ≤ v_a386.fP ∧ v_a386.fP < (17 : Int)
              · rw [if_pos h446] at h
                by_cases h447 : 0 ≤ v_a386.fTo ∧ v_a386.fTo < (8 : Int)
                · rw [if_pos h447] at h
                  obtain ⟨v_y532, h448, h⟩ := bind_some h
                  obtain ⟨v_y533, h449, h⟩ := bind_some h
                  cases h
                  exact pkk_sound TTok mix hF 1 (hs := [.c, .c, .c, .c, .l (.d (.v (.int .i64 v_y531))), .x ([.srf 5] ++ ((cA_t36 (setA v_z528 v_a386.fP (setA v_y532 v_a386.fTo v_y531))).map FV.d)), .c]) (ts := []) (s := [0, 1, 2, 3, 4, 5, 6, 8, 9]) (l := [3, 9, 10, 11, 12, 13]) (by kernel_rfl) (by kernel_rfl) (.cons h442 (.cons h443 (.cons (arr_cell2 (γ := FV) (sz := 8) (g := (fun x => [.d (.v (.int .i64 (x 0))), .d (.v (.int .i64 (x 1))), .d (.v (.int .i64 (x 2))), .d (.v (.int .i64 (x 3))), .d (.v (.int .i64 (x 4))), .d (.v (.int .i64 (x 5))), .d (.v (.int .i64 (x 6))), .d (.v (.int .i64 (x 7)))])) (pre := [.srf 5]) (post := []) (P0 := 1) (o := 0 + (v_a386.fFd).toNat * 1 + 0) rfl (fun _ => rfl) h444 (arr_cell2 (γ := FV) (sz := 1) (g := (fun x => [.d (.v (.int .i64 x))])) (pre := []) (post := []) (P0 := 0) (o := 0) rfl (fun _ => rfl) h445 rfl (idx := 0 + (v_a386.fFd).toNat * 1 + 0) (by omega)) (idx := 1 + (v_a386.fP).toNat * 8 + (v_a386.fFd).toNat * 1) (by omega)) (.cons h446 (.cons h447 (.cons (arr_store2 (γ := FV) (sz := 8) (g := (fun x => [.d (.v (.int .i64 (x 0))), .d (.v (.int .i64 (x 1))), .d (.v (.int .i64 (x 2))), .d (.v (.int .i64 (x 3))), .d (.v (.int .i64 (x 4))), .d (.v (.int .i64 (x 5))), .d (.v (.int .i64 (x 6))), .d (.v (.int .i64 (x 7)))])) (pre := [.srf 5]) (post := []) (P0 := 1) (o := 0 + (v_a386.fTo).toNat * 1 + 0) (y := (setA v_y532 v_a386.fTo v_y531)) (zs := [.d (.v (.int .i64 v_y531))]) rfl (fun _ => rfl) h448 (arr_store2 (γ := FV) (sz := 1) (g := (fun x => [.d (.v (.int .i64 x))])) (pre := []) (post := []) (P0 := 0) (o := 0) (y := v_y531) (zs := [.d (.v (.int .i64 v_y531))]) rfl (fun _ => rfl) h449 rfl (Nat.le_of_ble_eq_true rfl) (idx := 0 + (v_a386.fTo).toNat * 1 + 0) (by omega)).2 (arr_store2 (γ := FV) (sz := 1) (g := (fun x => [.d (.v (.int .i64 x))])) (pre := []) (post := []) (P0 := 0) (o := 0) (y := v_y531) (zs := [.d (.v (.int .i64 v_y531))]) rfl (fun _ => rfl) h449 rfl (Nat.le_of_ble_eq_true rfl) (idx := 0 + (v_a386.fTo).toNat * 1 + 0) (by omega)).1 (idx := 1 + (v_a386.fP).toNat * 8 + (v_a386.fTo).toNat * 1) (by omega)).1 (.cons (arr_store2 (γ := FV) (sz := 8) (g := (fun x => [.d (.v (.int .i64 (x 0))), .d (.v (.int .i64 (x 1))), .d (.v (.int .i64 (x 2))), .d (.v (.int .i64 (x 3))), .d (.v (.int .i64 (x 4))), .d (.v (.int .i64 (x 5))), .d (.v (.int .i64 (x 6))), .d (.v (.int .i64 (x 7)))])) (pre := [.srf 5]) (post := []) (P0 := 1) (o := 0 + (v_a386.fTo).toNat * 1 + 0) (y := (setA v_y532 v_a386.fTo v_y531)) (zs := [.d (.v (.int .i64 v_y531))]) rfl (fun _ => rfl) h448 (arr_store2 (γ := FV) (sz := 1) (g := (fun x => [.d (.v (.int .i64 x))])) (pre := []) (post := []) (P0 := 0) (o := 0) (y := v_y531) (zs := [.d (.v (.int .i64 v_y531))]) rfl (fun _ => rfl) h449 rfl (Nat.le_of_ble_eq_true rfl) (idx := 0 + (v_a386.fTo).toNat * 1 + 0) (by omega)).2 (arr_store2 (γ := FV) (sz := 1) (g := (fun x => [.d (.v (.int .i64 x))])) (pre := []) (post := []) (P0 := 0) (o := 0) (y := v_y531) (zs := [.d (.v (.int .i64 v_y531))]) rfl (fun _ => rfl) h449 rfl (Nat.le_of_ble_eq_true rfl) (idx := 0 + (v_a386.fTo).toNat * 1 + 0) (by omega)).1 (idx := 1 + (v_a386.fP).toNat * 8 + (v_a386.fTo).toNat * 1) (by omega)).2 .nil))))))) q
                · rw [if_neg h447] at h; cases h
              · rw [if_neg h446] at h; cases h
            · rw [if_neg h443] at h; cases h
          · rw [if_neg h442] at h; cases h
        | x1 v_z537 v_z538 v_z539 v_z540 =>
          try dsimp only at h
          by_cases h450 : 0 ≤ v_a386.fP ∧ v_a386.fP < (17 : Int)
          · rw [if_pos h450] at h
            by_cases h451 : 0 ≤ v_a386.fFd ∧ v_a386.fFd < (8 : Int)
            · rw [if_pos h451] at h
              obtain ⟨v_y541, h452, h⟩ := bind_some h
              obtain ⟨v_y542, h453, h⟩ := bind_some h
              by_cases h454 : 0 ≤ v_a386.fP ∧ v_a386.fP < (17 : Int)
              · rw [if_pos h454] at h
                by_cases h455 : 0 ≤ v_a386.fTo ∧ v_a386.fTo < (8 : Int)
                · rw [if_pos h455] at h
                  obtain ⟨v_y543, h456, h⟩ := bind_some h
                  obtain ⟨v_y544, h457, h⟩ := bind_some h
                  cases h
                  exact pkk_sound TTok mix hF 1 (hs := [.c, .c, .c, .c, .l (.d (.v (.int .i64 v_y542))), .x ([.srf 5] ++ ((cA_t36 (setA v_z538 v_a386.fP (setA v_y543 v_a386.fTo v_y542))).map FV.d)), .c]) (ts := []) (s := [0, 1, 2, 3, 4, 5, 6, 8, 9]) (l := [3, 9, 10, 11, 12, 13]) (by kernel_rfl) (by kernel_rfl) (.cons h450 (.cons h451 (.cons (arr_cell2 (γ := FV) (sz := 8) (g := (fun x => [.d (.v (.int .i64 (x 0))), .d (.v (.int .i64 (x 1))), .d (.v (.int .i64 (x 2))), .d (.v (.int .i64 (x 3))), .d (.v (.int .i64 (x 4))), .d (.v (.int .i64 (x 5))), .d (.v (.int .i64 (x 6))), .d (.v (.int .i64 (x 7)))])) (pre := [.srf 5]) (post := []) (P0 := 1) (o := 0 + (v_a386.fFd).toNat * 1 + 0) rfl (fun _ => rfl) h452 (arr_cell2 (γ := FV) (sz := 1) (g := (fun x => [.d (.v (.int .i64 x))])) (pre := []) (post := []) (P0 := 0) (o := 0) rfl (fun _ => rfl) h453 rfl (idx := 0 + (v_a386.fFd).toNat * 1 + 0) (by omega)) (idx := 1 + (v_a386.fP).toNat * 8 + (v_a386.fFd).toNat * 1) (by omega)) (.cons h454 (.cons h455 (.cons (arr_store2 (γ := FV) (sz := 8) (g := (fun x => [.d (.v (.int .i64 (x 0))), .d (.v (.int .i64 (x 1))), .d (.v (.int .i64 (x 2))), .d (.v (.int .i64 (x 3))), .d (.v (.int .i64 (x 4))), .d (.v (.int .i64 (x 5))), .d (.v (.int .i64 (x 6))), .d (.v (.int .i64 (x 7)))])) (pre := [.srf 5]) (post := []) (P0 := 1) (o := 0 + (v_a386.fTo).toNat * 1 + 0) (y := (setA v_y543 v_a386.fTo v_y542)) (zs := [.d (.v (.int .i64 v_y542))]) rfl (fun _ => rfl) h456 (arr_store2 (γ := FV) (sz := 1) (g := (fun x => [.d (.v (.int .i64 x))])) (pre := []) (post := []) (P0 := 0) (o := 0) (y := v_y542) (zs := [.d (.v (.int .i64 v_y542))]) rfl (fun _ => rfl) h457 rfl (Nat.le_of_ble_eq_true rfl) (idx := 0 + (v_a386.fTo).toNat * 1 + 0) (by omega)).2 (arr_store2 (γ := FV) (sz := 1) (g := (fun x => [.d (.v (.int .i64 x))])) (pre := []) (post := []) (P0 := 0) (o := 0) (y := v_y542) (zs := [.d (.v (.int .i64 v_y542))]) rfl (fun _ => rfl) h457 rfl (Nat.le_of_ble_eq_true rfl) (idx := 0 + (v_a386.fTo).toNat * 1 + 0) (by omega)).1 (idx := 1 + (v_a386.fP).toNat * 8 + (v_a386.fTo).toNat * 1) (by omega)).1 (.cons (arr_store2 (γ := FV) (sz := 8) (g := (fun x => [.d (.v (.int .i64 (x 0))), .d (.v (.int .i64 (x 1))), .d (.v (.int .i64 (x 2))), .d (.v (.int .i64 (x 3))), .d (.v (.int .i64 (x 4))), .d (.v (.int .i64 (x 5))), .d (.v (.int .i64 (x 6))), .d (.v (.int .i64 (x 7)))])) (pre := [.srf 5]) (post := []) (P0 := 1) (o := 0 + (v_a386.fTo).toNat * 1 + 0) (y := (setA v_y543 v_a386.fTo v_y542)) (zs := [.d (.v (.int .i64 v_y542))]) rfl (fun _ => rfl) h456 (arr_store2 (γ := FV) (sz := 1) (g := (fun x => [.d (.v (.int .i64 x))])) (pre := []) (post := []) (P0 := 0) (o := 0) (y := v_y542) (zs := [.d (.v (.int .i64 v_y542))]) rfl (fun _ => rfl) h457 rfl (Nat.le_of_ble_eq_true rfl) (idx := 0 + (v_a386.fTo).toNat * 1 + 0) (by omega)).2 (arr_store2 (γ := FV) (sz := 1) (g := (fun x => [.d (.v (.int .i64 x))])) (pre := []) (post := []) (P0 := 0) (o := 0) (y := v_y542) (zs := [.d (.v (.int .i64 v_y542))]) rfl (fun _ => rfl) h457 rfl (Nat.le_of_ble_eq_true rfl) (idx := 0 + (v_a386.fTo).toNat * 1 + 0) (by omega)).1 (idx := 1 + (v_a386.fP).toNat * 8 + (v_a386.fTo).toNat * 1) (by omega)).2 .nil))))))) q
                · rw [if_neg h455] at h; cases h
              · rw [if_neg h454] at h; cases h
            · rw [if_neg h451] at h; cases h
          · rw [if_neg h450] at h; cases h
        | x2 v_z549 v_z550 =>
          try dsimp only at h
          by_cases h458 : 0 ≤ v_a386.fP ∧ v_a386.fP < (17 : Int)
          · rw [if_pos h458] at h
            by_cases h459 : 0 ≤ v_a386.fFd ∧ v_a386.fFd < (8 : Int)
            · rw [if_pos h459] at h
              obtain ⟨v_y551, h460, h⟩ := bind_some h
              obtain ⟨v_y552, h461, h⟩ := bind_some h
              by_cases h462 : 0 ≤ v_a386.fP ∧ v_a386.fP < (17 : Int)
              · rw [if_pos h462] at h
                by_cases h463 : 0 ≤ v_a386.fTo ∧ v_a386.fTo < (8 : Int)
                · rw [if_pos h463] at h
                  obtain ⟨v_y553, h464, h⟩ := bind_some h
                  obtain ⟨v_y554, h465, h⟩ := bind_some h
                  cases h
                  exact pkk_sound TTok mix hF 1 (hs := [.c, .c, .c, .c, .l (.d (.v (.int .i64 v_y552))), .x ([.srf 5] ++ ((cA_t36 (setA v_r385.fFds v_a386.fP (setA v_y553 v_a386.fTo v_y552))).map FV.d)), .c]) (ts := []) (s := [0, 1, 2, 3, 4, 5, 7, 8]) (l := [3, 9, 10, 11, 12, 13]) (by kernel_rfl) (by kernel_rfl) (.cons h458 (.cons h459 (.cons (arr_cell2 (γ := FV) (sz := 8) (g := (fun x => [.d (.v (.int .i64 (x 0))), .d (.v (.int .i64 (x 1))), .d (.v (.int .i64 (x 2))), .d (.v (.int .i64 (x 3))), .d (.v (.int .i64 (x 4))), .d (.v (.int .i64 (x 5))), .d (.v (.int .i64 (x 6))), .d (.v (.int .i64 (x 7)))])) (pre := [.srf 5]) (post := []) (P0 := 1) (o := 0 + (v_a386.fFd).toNat * 1 + 0) rfl (fun _ => rfl) h460 (arr_cell2 (γ := FV) (sz := 1) (g := (fun x => [.d (.v (.int .i64 x))])) (pre := []) (post := []) (P0 := 0) (o := 0) rfl (fun _ => rfl) h461 rfl (idx := 0 + (v_a386.fFd).toNat * 1 + 0) (by omega)) (idx := 1 + (v_a386.fP).toNat * 8 + (v_a386.fFd).toNat * 1) (by omega)) (.cons h462 (.cons h463 (.cons (arr_store2 (γ := FV) (sz := 8) (g := (fun x => [.d (.v (.int .i64 (x 0))), .d (.v (.int .i64 (x 1))), .d (.v (.int .i64 (x 2))), .d (.v (.int .i64 (x 3))), .d (.v (.int .i64 (x 4))), .d (.v (.int .i64 (x 5))), .d (.v (.int .i64 (x 6))), .d (.v (.int .i64 (x 7)))])) (pre := [.srf 5]) (post := []) (P0 := 1) (o := 0 + (v_a386.fTo).toNat * 1 + 0) (y := (setA v_y553 v_a386.fTo v_y552)) (zs := [.d (.v (.int .i64 v_y552))]) rfl (fun _ => rfl) h464 (arr_store2 (γ := FV) (sz := 1) (g := (fun x => [.d (.v (.int .i64 x))])) (pre := []) (post := []) (P0 := 0) (o := 0) (y := v_y552) (zs := [.d (.v (.int .i64 v_y552))]) rfl (fun _ => rfl) h465 rfl (Nat.le_of_ble_eq_true rfl) (idx := 0 + (v_a386.fTo).toNat * 1 + 0) (by omega)).2 (arr_store2 (γ := FV) (sz := 1) (g := (fun x => [.d (.v (.int .i64 x))])) (pre := []) (post := []) (P0 := 0) (o := 0) (y := v_y552) (zs := [.d (.v (.int .i64 v_y552))]) rfl (fun _ => rfl) h465 rfl (Nat.le_of_ble_eq_true rfl) (idx := 0 + (v_a386.fTo).toNat * 1 + 0) (by omega)).1 (idx := 1 + (v_a386.fP).toNat * 8 + (v_a386.fTo).toNat * 1) (by omega)).1 (.cons (arr_store2 (γ := FV) (sz := 8) (g := (fun x => [.d (.v (.int .i64 (x 0))), .d (.v (.int .i64 (x 1))), .d (.v (.int .i64 (x 2))), .d (.v (.int .i64 (x 3))), .d (.v (.int .i64 (x 4))), .d (.v (.int .i64 (x 5))), .d (.v (.int .i64 (x 6))), .d (.v (.int .i64 (x 7)))])) (pre := [.srf 5]) (post := []) (P0 := 1) (o := 0 + (v_a386.fTo).toNat * 1 + 0) (y := (setA v_y553 v_a386.fTo v_y552)) (zs := [.d (.v (.int .i64 v_y552))]) rfl (fun _ => rfl) h464 (arr_store2 (γ := FV) (sz := 1) (g := (fun x => [.d (.v (.int .i64 x))])) (pre := []) (post := []) (P0 := 0) (o := 0) (y := v_y552) (zs := [.d (.v (.int .i64 v_y552))]) rfl (fun _ => rfl) h465 rfl (Nat.le_of_ble_eq_true rfl) (idx := 0 + (v_a386.fTo).toNat * 1 + 0) (by omega)).2 (arr_store2 (γ := FV) (sz := 1) (g := (fun x => [.d (.v (.int .i64 x))])) (pre := []) (post := []) (P0 := 0) (o := 0) (y := v_y552) (zs := [.d (.v (.int .i64 v_y552))]) rfl (fun _ => rfl) h465 rfl (Nat.le_of_ble_eq_true rfl) (idx := 0 + (v_a386.fTo).toNat * 1 + 0) (by omega)).1 (idx := 1 + (v_a386.fP).toNat * 8 + (v_a386.fTo).toNat * 1) (by omega)).2 .nil))))))) q
                · rw [if_neg h463] at h; cases h
              · rw [if_neg h462] at h; cases h
            · rw [if_neg h459] at h; cases h
          · rw [if_neg h458] at h; cases h
      · rw [if_neg h432] at h; cases h
    · rw [if_neg h431] at h; cases h
  · rw [if_neg h430] at h
    cases h
    exact pkk_sound TTok mix hF 2 (hs := [.t false]) (ts := []) (s := [0, 1, 2, 3, 4, 5, 7, 8]) (l := [3, 9, 10, 11, 12, 13]) (by kernel_rfl) (by kernel_rfl) (.cons (vf h430) .nil) q
inductive G_ringlaw5_dupped_h_C6_R where
  | x0 (v_x567 : Bool) (v_w568 : (List S_ringref5_Thing))
def G_ringlaw5_dupped_h_C6_ex : G_ringlaw5_dupped_h_C6_R → Ex
  | .x0 _ _ => .normal
def G_ringlaw5_dupped_h_C6_st (v_e387 : Int) (v_r444 : (S_open_Thing × Bool × Int × S_open_Table)) (v_z561 : Bool) (v_z562 : (Fin 17 → (Fin 8 → Int))) (v_z563 : (List S_ringref5_Thing)) : G_ringlaw5_dupped_h_C6_R → PS
  | .x0 v_x567 v_w568 => ⟨(dds 8 (.d (.v (.bool v_x567)) :: (dds 94 []))), [.gh 0 (.ref 3 0), .gh 1 (.ref 4 0), .gh 2 (.srf 6), .box ((cS_open_Table v_r444.2.2.2).map FV.d), .box ([.srf 5] ++ ((cA_t36 v_z562).map FV.d)), .row 39 5 (v_w568.map eS_ringref5_Thing), .none]⟩
def G_ringlaw5_dupped_h_C6_hd (v_e387 : Int) (v_r444 : (S_open_Thing × Bool × Int × S_open_Table)) (v_z561 : Bool) (v_z562 : (Fin 17 → (Fin 8 → Int))) (v_z563 : (List S_ringref5_Thing))  : PS := ⟨(dd :: dd :: dd :: .d (.v (.int .i64 v_e387)) :: dd :: dd :: dd :: dd :: dd :: .ref 7 0 :: .d (.v (.bool v_r444.2.1)) :: .d (.v (.int .i64 v_r444.2.2.1)) :: .ref 8 0 :: .d (.v (.bool v_z561)) :: (dds 89 [])), [.gh 0 (.ref 3 0), .gh 1 (.ref 4 0), .gh 2 (.srf 6), .box ((cS_open_Table v_r444.2.2.2).map FV.d), .box ([.srf 5] ++ ((cA_t36 v_z562).map FV.d)), .row 39 5 (v_z563.map eS_ringref5_Thing), .none, .box [.d (.v (.int .i64 v_r444.1.fKind)), .d (.v (.int .i64 v_r444.1.fId)), .d (.v (.int .i64 v_r444.1.fMay)), .d (.v (.bool v_r444.1.fMore)), .d (.v (.int .i64 v_r444.1.fAt))], .box [.d (.v (.int .i64 0)), .d (.v (.int .i64 0)), .d (.v (.int .i64 0)), .d (.v (.bool false)), .d (.v (.int .i64 0))]]⟩
def G_ringlaw5_dupped_h_C6 (n : Nat) (v_e387 : Int) (v_r444 : (S_open_Thing × Bool × Int × S_open_Table)) (v_z561 : Bool) (v_z562 : (Fin 17 → (Fin 8 → Int))) (v_z563 : (List S_ringref5_Thing)) : Option G_ringlaw5_dupped_h_C6_R :=
  if v_e387 = v_r444.2.2.1 then
   (G_ringlaw5_thing n (S_ringref5_Thing.mk 0 0 0 false 0)).bind fun (v_r566 : (S_open_Thing)) =>
   if (eqRes .eql (eqS_open_Thing v_r444.1 v_r566)) = true then
    some (.x0 (eqRes .eql (v_r444.2.1 == v_z561)) v_z563)
   else
    some (.x0 false v_z563)
  else
   some (.x0 false v_z563)
theorem G_ringlaw5_dupped_h_C6_ok {Fi : Ex → PS → Prop} (hF : KC 103 Fi) (ks : List Fr) (n : Nat) (v_e387 : Int) (v_r444 : (S_open_Thing × Bool × Int × S_open_Table)) (v_z561 : Bool) (v_z562 : (Fin 17 → (Fin 8 → Int))) (v_z563 : (List S_ringref5_Thing))  (o : G_ringlaw5_dupped_h_C6_R) (h : G_ringlaw5_dupped_h_C6 n v_e387 v_r444 v_z561 v_z562 v_z563 = some o) (q : RunE Try.prog 103 Fi ks (G_ringlaw5_dupped_h_C6_ex o) (G_ringlaw5_dupped_h_C6_st v_e387 v_r444 v_z561 v_z562 v_z563 o)) : RunE Try.prog 103 Fi (.s (cL (cR (cR (cR (cR (cR (cR (bodyOf Try.f19)))))))) :: ks) .normal (G_ringlaw5_dupped_h_C6_hd v_e387 v_r444 v_z561 v_z562 v_z563) := by
  unfold G_ringlaw5_dupped_h_C6 at h
  by_cases h470 : v_e387 = v_r444.2.2.1
  · rw [if_pos h470] at h
    obtain ⟨v_r566, h471, h⟩ := bind_some h
    by_cases h472 : (eqRes .eql (eqS_open_Thing v_r444.1 v_r566)) = true
    · rw [if_pos h472] at h
      cases h
      exact pkk_sound TTok mix hF 1 (hs := [.t true, .c, .c, .c, .c, .r (eS_open_Thing v_r566), .c, .q (eqS_open_Thing v_r444.1 v_r566), .t true, .c, .c]) (ts := []) (s := [0, 1, 2, 3, 4, 5, 6]) (l := [8]) (by kernel_rfl) (by kernel_rfl) (.cons (bt h470) (.cons (G_ringlaw5_thing_ok n (S_ringref5_Thing.mk 0 0 0 false 0) _ h471) (.cons (eqS_open_Thing_ok v_r444.1 v_r566) (.cons h472 .nil)))) q
    · rw [if_neg h472] at h
      cases h
      exact pkk_sound TTok mix hF 1 (hs := [.t true, .c, .c, .c, .c, .r (eS_open_Thing v_r566), .c, .q (eqS_open_Thing v_r444.1 v_r566), .t false, .c, .c]) (ts := []) (s := [0, 1, 2, 3, 4, 5, 6]) (l := [8]) (by kernel_rfl) (by kernel_rfl) (.cons (bt h470) (.cons (G_ringlaw5_thing_ok n (S_ringref5_Thing.mk 0 0 0 false 0) _ h471) (.cons (eqS_open_Thing_ok v_r444.1 v_r566) (.cons (vf h472) .nil)))) q
  · rw [if_neg h470] at h
    cases h
    exact pkk_sound TTok mix hF 1 (hs := [.t false, .c, .c, .c, .c, .c, .c]) (ts := []) (s := [0, 1, 2, 3, 4, 5, 6]) (l := [8]) (by kernel_rfl) (by kernel_rfl) (.cons (bf h470) .nil) q
inductive G_ringlaw5_dupped_h_C7_R where
  | x0 (v_x583 : Bool) (v_w584 : (List S_ringref5_Thing))
def G_ringlaw5_dupped_h_C7_ex : G_ringlaw5_dupped_h_C7_R → Ex
  | .x0 _ _ => .normal
def G_ringlaw5_dupped_h_C7_st (v_e387 : Int) (v_r444 : (S_open_Thing × Bool × Int × S_open_Table)) (v_z576 : Bool) (v_z577 : (Fin 17 → (Fin 8 → Int))) (v_z578 : (List S_ringref5_Thing)) (v_z579 : S_ringref5_Thing) : G_ringlaw5_dupped_h_C7_R → PS
  | .x0 v_x583 v_w584 => ⟨(dds 8 (.d (.v (.bool v_x583)) :: (dds 94 []))), [.gh 0 (.ref 3 0), .gh 1 (.ref 4 0), .gh 2 (.srf 6), .box ((cS_open_Table v_r444.2.2.2).map FV.d), .box ([.srf 5] ++ ((cA_t36 v_z577).map FV.d)), .row 39 5 (v_w584.map eS_ringref5_Thing), .none]⟩
def G_ringlaw5_dupped_h_C7_hd (v_e387 : Int) (v_r444 : (S_open_Thing × Bool × Int × S_open_Table)) (v_z576 : Bool) (v_z577 : (Fin 17 → (Fin 8 → Int))) (v_z578 : (List S_ringref5_Thing)) (v_z579 : S_ringref5_Thing)  : PS := ⟨(dd :: dd :: dd :: .d (.v (.int .i64 v_e387)) :: dd :: dd :: dd :: dd :: dd :: .ref 7 0 :: .d (.v (.bool v_r444.2.1)) :: .d (.v (.int .i64 v_r444.2.2.1)) :: .ref 8 0 :: .d (.v (.bool v_z576)) :: (dds 89 [])), [.gh 0 (.ref 3 0), .gh 1 (.ref 4 0), .gh 2 (.srf 6), .box ((cS_open_Table v_r444.2.2.2).map FV.d), .box ([.srf 5] ++ ((cA_t36 v_z577).map FV.d)), .row 39 5 (v_z578.map eS_ringref5_Thing), .none, .box [.d (.v (.int .i64 v_r444.1.fKind)), .d (.v (.int .i64 v_r444.1.fId)), .d (.v (.int .i64 v_r444.1.fMay)), .d (.v (.bool v_r444.1.fMore)), .d (.v (.int .i64 v_r444.1.fAt))], .box [.d (.v (.int .i64 v_z579.fKind)), .d (.v (.int .i64 v_z579.fId)), .d (.v (.int .i64 v_z579.fMay)), .d (.v (.bool v_z579.fMore)), .d (.v (.int .i64 v_z579.fAt))]]⟩
def G_ringlaw5_dupped_h_C7 (n : Nat) (v_e387 : Int) (v_r444 : (S_open_Thing × Bool × Int × S_open_Table)) (v_z576 : Bool) (v_z577 : (Fin 17 → (Fin 8 → Int))) (v_z578 : (List S_ringref5_Thing)) (v_z579 : S_ringref5_Thing) : Option G_ringlaw5_dupped_h_C7_R :=
  if v_e387 = v_r444.2.2.1 then
   (G_ringlaw5_thing n v_z579).bind fun (v_r582 : (S_open_Thing)) =>
   if (eqRes .eql (eqS_open_Thing v_r444.1 v_r582)) = true then
    some (.x0 (eqRes .eql (v_r444.2.1 == v_z576)) v_z578)
   else
    some (.x0 false v_z578)
  else
   some (.x0 false v_z578)
theorem G_ringlaw5_dupped_h_C7_ok {Fi : Ex → PS → Prop} (hF : KC 103 Fi) (ks : List Fr) (n : Nat) (v_e387 : Int) (v_r444 : (S_open_Thing × Bool × Int × S_open_Table)) (v_z576 : Bool) (v_z577 : (Fin 17 → (Fin 8 → Int))) (v_z578 : (List S_ringref5_Thing)) (v_z579 : S_ringref5_Thing)  (o : G_ringlaw5_dupped_h_C7_R) (h : G_ringlaw5_dupped_h_C7 n v_e387 v_r444 v_z576 v_z577 v_z578 v_z579 = some o) (q : RunE Try.prog 103 Fi ks (G_ringlaw5_dupped_h_C7_ex o) (G_ringlaw5_dupped_h_C7_st v_e387 v_r444 v_z576 v_z577 v_z578 v_z579 o)) : RunE Try.prog 103 Fi (.s (cL (cR (cR (cR (cR (cR (cR (bodyOf Try.f19)))))))) :: ks) .normal (G_ringlaw5_dupped_h_C7_hd v_e387 v_r444 v_z576 v_z577 v_z578 v_z579) := by
  unfold G_ringlaw5_dupped_h_C7 at h
  by_cases h477 : v_e387 = v_r444.2.2.1
  · rw [if_pos h477] at h
    obtain ⟨v_r582, h478, h⟩ := bind_some h
    by_cases h479 : (eqRes .eql (eqS_open_Thing v_r444.1 v_r582)) = true
    · rw [if_pos h479] at h
      cases h
      exact pkk_sound TTok mix hF 1 (hs := [.t true, .c, .c, .c, .c, .r (eS_open_Thing v_r582), .c, .q (eqS_open_Thing v_r444.1 v_r582), .t true, .c, .c]) (ts := []) (s := [0, 1, 2, 3, 4, 5, 6]) (l := [8]) (by kernel_rfl) (by kernel_rfl) (.cons (bt h477) (.cons (G_ringlaw5_thing_ok n v_z579 _ h478) (.cons (eqS_open_Thing_ok v_r444.1 v_r582) (.cons h479 .nil)))) q
    · rw [if_neg h479] at h
      cases h
      exact pkk_sound TTok mix hF 1 (hs := [.t true, .c, .c, .c, .c, .r (eS_open_Thing v_r582), .c, .q (eqS_open_Thing v_r444.1 v_r582), .t false, .c, .c]) (ts := []) (s := [0, 1, 2, 3, 4, 5, 6]) (l := [8]) (by kernel_rfl) (by kernel_rfl) (.cons (bt h477) (.cons (G_ringlaw5_thing_ok n v_z579 _ h478) (.cons (eqS_open_Thing_ok v_r444.1 v_r582) (.cons (vf h479) .nil)))) q
  · rw [if_neg h477] at h
    cases h
    exact pkk_sound TTok mix hF 1 (hs := [.t false, .c, .c, .c, .c, .c, .c]) (ts := []) (s := [0, 1, 2, 3, 4, 5, 6]) (l := [8]) (by kernel_rfl) (by kernel_rfl) (.cons (bf h477) .nil) q
inductive G_ringlaw5_dupped_h_C8_R where
  | x0 (v_x598 : Bool) (v_w599 : (List S_ringref5_Thing))
def G_ringlaw5_dupped_h_C8_ex : G_ringlaw5_dupped_h_C8_R → Ex
  | .x0 _ _ => .normal
def G_ringlaw5_dupped_h_C8_st (v_e387 : Int) (v_r444 : (S_open_Thing × Bool × Int × S_open_Table)) (v_z592 : Bool) (v_z593 : (Fin 17 → (Fin 8 → Int))) (v_z594 : (List S_ringref5_Thing)) : G_ringlaw5_dupped_h_C8_R → PS
  | .x0 v_x598 v_w599 => ⟨(dds 8 (.d (.v (.bool v_x598)) :: (dds 94 []))), [.gh 0 (.ref 3 0), .gh 1 (.ref 4 0), .gh 2 (.srf 5), .box ((cS_open_Table v_r444.2.2.2).map FV.d), .box ([.srf 5] ++ ((cA_t36 v_z593).map FV.d)), .row 39 5 (v_w599.map eS_ringref5_Thing)]⟩
def G_ringlaw5_dupped_h_C8_hd (v_e387 : Int) (v_r444 : (S_open_Thing × Bool × Int × S_open_Table)) (v_z592 : Bool) (v_z593 : (Fin 17 → (Fin 8 → Int))) (v_z594 : (List S_ringref5_Thing))  : PS := ⟨(dd :: dd :: dd :: .d (.v (.int .i64 v_e387)) :: dd :: dd :: dd :: dd :: dd :: .ref 6 0 :: .d (.v (.bool v_r444.2.1)) :: .d (.v (.int .i64 v_r444.2.2.1)) :: .ref 7 0 :: .d (.v (.bool v_z592)) :: (dds 89 [])), [.gh 0 (.ref 3 0), .gh 1 (.ref 4 0), .gh 2 (.srf 5), .box ((cS_open_Table v_r444.2.2.2).map FV.d), .box ([.srf 5] ++ ((cA_t36 v_z593).map FV.d)), .row 39 5 (v_z594.map eS_ringref5_Thing), .box [.d (.v (.int .i64 v_r444.1.fKind)), .d (.v (.int .i64 v_r444.1.fId)), .d (.v (.int .i64 v_r444.1.fMay)), .d (.v (.bool v_r444.1.fMore)), .d (.v (.int .i64 v_r444.1.fAt))], .box [.d (.v (.int .i64 0)), .d (.v (.int .i64 0)), .d (.v (.int .i64 0)), .d (.v (.bool false)), .d (.v (.int .i64 0))]]⟩
def G_ringlaw5_dupped_h_C8 (n : Nat) (v_e387 : Int) (v_r444 : (S_open_Thing × Bool × Int × S_open_Table)) (v_z592 : Bool) (v_z593 : (Fin 17 → (Fin 8 → Int))) (v_z594 : (List S_ringref5_Thing)) : Option G_ringlaw5_dupped_h_C8_R :=
  if v_e387 = v_r444.2.2.1 then
   (G_ringlaw5_thing n (S_ringref5_Thing.mk 0 0 0 false 0)).bind fun (v_r597 : (S_open_Thing)) =>
   if (eqRes .eql (eqS_open_Thing v_r444.1 v_r597)) = true then
    some (.x0 (eqRes .eql (v_r444.2.1 == v_z592)) v_z594)
   else
    some (.x0 false v_z594)
  else
   some (.x0 false v_z594)
theorem G_ringlaw5_dupped_h_C8_ok {Fi : Ex → PS → Prop} (hF : KC 103 Fi) (ks : List Fr) (n : Nat) (v_e387 : Int) (v_r444 : (S_open_Thing × Bool × Int × S_open_Table)) (v_z592 : Bool) (v_z593 : (Fin 17 → (Fin 8 → Int))) (v_z594 : (List S_ringref5_Thing))  (o : G_ringlaw5_dupped_h_C8_R) (h : G_ringlaw5_dupped_h_C8 n v_e387 v_r444 v_z592 v_z593 v_z594 = some o) (q : RunE Try.prog 103 Fi ks (G_ringlaw5_dupped_h_C8_ex o) (G_ringlaw5_dupped_h_C8_st v_e387 v_r444 v_z592 v_z593 v_z594 o)) : RunE Try.prog 103 Fi (.s (cL (cR (cR (cR (cR (cR (cR (bodyOf Try.f19)))))))) :: ks) .normal (G_ringlaw5_dupped_h_C8_hd v_e387 v_r444 v_z592 v_z593 v_z594) := by
  unfold G_ringlaw5_dupped_h_C8 at h
  by_cases h484 : v_e387 = v_r444.2.2.1
  · rw [if_pos h484] at h
    obtain ⟨v_r597, h485, h⟩ := bind_some h
    by_cases h486 : (eqRes .eql (eqS_open_Thing v_r444.1 v_r597)) = true
    · rw [if_pos h486] at h
      cases h
      exact pkk_sound TTok mix hF 1 (hs := [.t true, .c, .c, .c, .c, .r (eS_open_Thing v_r597), .c, .q (eqS_open_Thing v_r444.1 v_r597), .t true, .c, .c]) (ts := []) (s := [0, 1, 2, 3, 4, 5]) (l := [8]) (by kernel_rfl) (by kernel_rfl) (.cons (bt h484) (.cons (G_ringlaw5_thing_ok n (S_ringref5_Thing.mk 0 0 0 false 0) _ h485) (.cons (eqS_open_Thing_ok v_r444.1 v_r597) (.cons h486 .nil)))) q
    · rw [if_neg h486] at h
      cases h
      exact pkk_sound TTok mix hF 1 (hs := [.t true, .c, .c, .c, .c, .r (eS_open_Thing v_r597), .c, .q (eqS_open_Thing v_r444.1 v_r597), .t false, .c, .c]) (ts := []) (s := [0, 1, 2, 3, 4, 5]) (l := [8]) (by kernel_rfl) (by kernel_rfl) (.cons (bt h484) (.cons (G_ringlaw5_thing_ok n (S_ringref5_Thing.mk 0 0 0 false 0) _ h485) (.cons (eqS_open_Thing_ok v_r444.1 v_r597) (.cons (vf h486) .nil)))) q
  · rw [if_neg h484] at h
    cases h
    exact pkk_sound TTok mix hF 1 (hs := [.t false, .c, .c, .c, .c, .c, .c]) (ts := []) (s := [0, 1, 2, 3, 4, 5]) (l := [8]) (by kernel_rfl) (by kernel_rfl) (.cons (bf h484) .nil) q
inductive G_ringlaw5_dupped_h_C9_R where
  | x0 (v_x612 : Bool) (v_w613 : (List S_ringref5_Thing))
def G_ringlaw5_dupped_h_C9_ex : G_ringlaw5_dupped_h_C9_R → Ex
  | .x0 _ _ => .normal
def G_ringlaw5_dupped_h_C9_st (v_e387 : Int) (v_r444 : (S_open_Thing × Bool × Int × S_open_Table)) (v_z607 : Bool) (v_r385 : S_ringref5_Open) (v_z608 : (List S_ringref5_Thing)) : G_ringlaw5_dupped_h_C9_R → PS
  | .x0 v_x612 v_w613 => ⟨(dds 8 (.d (.v (.bool v_x612)) :: (dds 94 []))), [.gh 0 (.ref 3 0), .gh 1 (.ref 4 0), .gh 2 (.srf 5), .box ((cS_open_Table v_r444.2.2.2).map FV.d), .box ([.srf 5] ++ ((cA_t36 v_r385.fFds).map FV.d)), .row 39 5 (v_w613.map eS_ringref5_Thing)]⟩
def G_ringlaw5_dupped_h_C9_hd (v_e387 : Int) (v_r444 : (S_open_Thing × Bool × Int × S_open_Table)) (v_z607 : Bool) (v_r385 : S_ringref5_Open) (v_z608 : (List S_ringref5_Thing))  : PS := ⟨(dd :: dd :: dd :: .d (.v (.int .i64 v_e387)) :: dd :: dd :: dd :: dd :: dd :: .ref 6 0 :: .d (.v (.bool v_r444.2.1)) :: .d (.v (.int .i64 v_r444.2.2.1)) :: .ref 7 0 :: .d (.v (.bool v_z607)) :: (dds 89 [])), [.gh 0 (.ref 3 0), .gh 1 (.ref 4 0), .gh 2 (.srf 5), .box ((cS_open_Table v_r444.2.2.2).map FV.d), .box ([.srf 5] ++ ((cA_t36 v_r385.fFds).map FV.d)), .row 39 5 (v_z608.map eS_ringref5_Thing), .box [.d (.v (.int .i64 v_r444.1.fKind)), .d (.v (.int .i64 v_r444.1.fId)), .d (.v (.int .i64 v_r444.1.fMay)), .d (.v (.bool v_r444.1.fMore)), .d (.v (.int .i64 v_r444.1.fAt))], .box [.d (.v (.int .i64 0)), .d (.v (.int .i64 0)), .d (.v (.int .i64 0)), .d (.v (.bool false)), .d (.v (.int .i64 0))]]⟩
def G_ringlaw5_dupped_h_C9 (n : Nat) (v_e387 : Int) (v_r444 : (S_open_Thing × Bool × Int × S_open_Table)) (v_z607 : Bool) (v_r385 : S_ringref5_Open) (v_z608 : (List S_ringref5_Thing)) : Option G_ringlaw5_dupped_h_C9_R :=
  if v_e387 = v_r444.2.2.1 then
   (G_ringlaw5_thing n (S_ringref5_Thing.mk 0 0 0 false 0)).bind fun (v_r611 : (S_open_Thing)) =>
   if (eqRes .eql (eqS_open_Thing v_r444.1 v_r611)) = true then
    some (.x0 (eqRes .eql (v_r444.2.1 == v_z607)) v_z608)
   else
    some (.x0 false v_z608)
  else
   some (.x0 false v_z608)
theorem G_ringlaw5_dupped_h_C9_ok {Fi : Ex → PS → Prop} (hF : KC 103 Fi) (ks : List Fr) (n : Nat) (v_e387 : Int) (v_r444 : (S_open_Thing × Bool × Int × S_open_Table)) (v_z607 : Bool) (v_r385 : S_ringref5_Open) (v_z608 : (List S_ringref5_Thing))  (o : G_ringlaw5_dupped_h_C9_R) (h : G_ringlaw5_dupped_h_C9 n v_e387 v_r444 v_z607 v_r385 v_z608 = some o) (q : RunE Try.prog 103 Fi ks (G_ringlaw5_dupped_h_C9_ex o) (G_ringlaw5_dupped_h_C9_st v_e387 v_r444 v_z607 v_r385 v_z608 o)) : RunE Try.prog 103 Fi (.s (cL (cR (cR (cR (cR (cR (cR (bodyOf Try.f19)))))))) :: ks) .normal (G_ringlaw5_dupped_h_C9_hd v_e387 v_r444 v_z607 v_r385 v_z608) := by
  unfold G_ringlaw5_dupped_h_C9 at h
  by_cases h491 : v_e387 = v_r444.2.2.1
  · rw [if_pos h491] at h
    obtain ⟨v_r611, h492, h⟩ := bind_some h
    by_cases h493 : (eqRes .eql (eqS_open_Thing v_r444.1 v_r611)) = true
    · rw [if_pos h493] at h
      cases h
      exact pkk_sound TTok mix hF 1 (hs := [.t true, .c, .c, .c, .c, .r (eS_open_Thing v_r611), .c, .q (eqS_open_Thing v_r444.1 v_r611), .t true, .c, .c]) (ts := []) (s := [0, 1, 2, 3, 4, 5]) (l := [8]) (by kernel_rfl) (by kernel_rfl) (.cons (bt h491) (.cons (G_ringlaw5_thing_ok n (S_ringref5_Thing.mk 0 0 0 false 0) _ h492) (.cons (eqS_open_Thing_ok v_r444.1 v_r611) (.cons h493 .nil)))) q
    · rw [if_neg h493] at h
      cases h
      exact pkk_sound TTok mix hF 1 (hs := [.t true, .c, .c, .c, .c, .r (eS_open_Thing v_r611), .c, .q (eqS_open_Thing v_r444.1 v_r611), .t false, .c, .c]) (ts := []) (s := [0, 1, 2, 3, 4, 5]) (l := [8]) (by kernel_rfl) (by kernel_rfl) (.cons (bt h491) (.cons (G_ringlaw5_thing_ok n (S_ringref5_Thing.mk 0 0 0 false 0) _ h492) (.cons (eqS_open_Thing_ok v_r444.1 v_r611) (.cons (vf h493) .nil)))) q
  · rw [if_neg h491] at h
    cases h
    exact pkk_sound TTok mix hF 1 (hs := [.t false, .c, .c, .c, .c, .c, .c]) (ts := []) (s := [0, 1, 2, 3, 4, 5]) (l := [8]) (by kernel_rfl) (by kernel_rfl) (.cons (bf h491) .nil) q
/- ringhall/ringlaw5.dupped -/
def G_ringlaw5_dupped_h (n : Nat) (v_t384 : S_open_Table) (v_r385 : S_ringref5_Open) (v_a386 : S_ringlaw5_Act) (v_e387 : Int) : Option (Bool × S_open_Table × S_ringref5_Open) :=
  (G_open_Table_Dup_h n v_t384 v_a386.fP v_a386.fFd v_a386.fTo).bind fun (v_r444 : (S_open_Thing × Bool × Int × S_open_Table)) =>
  (G_ringlaw5_dupped_h_C1 n v_e387 v_r444 v_r385 v_a386).bind fun v_o452 => match v_o452 with
  | .x0 v_z453 v_z454 =>
    if v_z453 = true then
     (G_ringlaw5_dupped_h_C2 n v_r444 v_r385 v_z454).bind fun v_o464 => match v_o464 with
     | .x0 v_z465 v_z466 =>
       some (v_z465, v_r444.2.2.2, (S_ringref5_Open.mk v_z466 v_r385.fFds))
    else
     (G_ringlaw5_dupped_h_C3 n v_e387 v_r444 v_r385 v_z454 v_a386).bind fun v_o472 => match v_o472 with
     | .x0 v_z473 v_z474 =>
       (G_ringlaw5_dupped_h_C5 n v_e387 v_r444 v_z473 v_r385 v_z474 v_a386).bind fun v_o560 => match v_o560 with
       | .x0 v_z561 v_z562 v_z563 =>
         (G_ringlaw5_dupped_h_C6 n v_e387 v_r444 v_z561 v_z562 v_z563).bind fun v_o573 => match v_o573 with
         | .x0 v_z574 v_z575 =>
           some (v_z574, v_r444.2.2.2, (S_ringref5_Open.mk v_z575 v_z562))
       | .x1 v_z576 v_z577 v_z578 v_z579 =>
         (G_ringlaw5_dupped_h_C7 n v_e387 v_r444 v_z576 v_z577 v_z578 v_z579).bind fun v_o589 => match v_o589 with
         | .x0 v_z590 v_z591 =>
           some (v_z590, v_r444.2.2.2, (S_ringref5_Open.mk v_z591 v_z577))
       | .x2 v_z592 v_z593 v_z594 =>
         (G_ringlaw5_dupped_h_C8 n v_e387 v_r444 v_z592 v_z593 v_z594).bind fun v_o604 => match v_o604 with
         | .x0 v_z605 v_z606 =>
           some (v_z605, v_r444.2.2.2, (S_ringref5_Open.mk v_z606 v_z593))
       | .x3 v_z607 v_z608 =>
         (G_ringlaw5_dupped_h_C9 n v_e387 v_r444 v_z607 v_r385 v_z608).bind fun v_o618 => match v_o618 with
         | .x0 v_z619 v_z620 =>
           some (v_z619, v_r444.2.2.2, (S_ringref5_Open.mk v_z620 v_r385.fFds))
theorem G_ringlaw5_dupped_h_ok (n : Nat) (v_t384 : S_open_Table) (v_r385 : S_ringref5_Open) (v_a386 : S_ringlaw5_Act) (v_e387 : Int) (r : Bool × S_open_Table × S_ringref5_Open) (h : G_ringlaw5_dupped_h n v_t384 v_r385 v_a386 v_e387 = some r) : RetH Try.prog 19 [.ref 0 0, .ref 1 0, .d (eS_ringlaw5_Act v_a386), .d ((eI .i64) v_e387)] [.box ((cS_open_Table v_t384).map FV.d), .box ([.srf 2] ++ ((cA_t36 v_r385.fFds).map FV.d)), .row 39 5 (v_r385.fThings.map eS_ringref5_Thing)] (.d (eB r.1)) [.box ((cS_open_Table r.2.1).map FV.d), .box ([.srf 3] ++ ((cA_t36 r.2.2.fFds).map FV.d)), .none, .row 39 5 (r.2.2.fThings.map eS_ringref5_Thing)] := by
  refine retH_run (n := 103) (fn := Try.f19) (c := bodyOf Try.f19) (by kernel_rfl) (by kernel_rfl) (by kernel_rfl) (by kernel_rfl) ?_
  have hF : KC 103 (FinH Try.prog Try.f19 [.box ((cS_open_Table v_t384).map FV.d), .box ([.srf 2] ++ ((cA_t36 v_r385.fFds).map FV.d)), .row 39 5 (v_r385.fThings.map eS_ringref5_Thing)] (.d (eB r.1)) [.box ((cS_open_Table r.2.1).map FV.d), .box ([.srf 3] ++ ((cA_t36 r.2.2.fFds).map FV.d)), .none, .row 39 5 (r.2.2.fThings.map eS_ringref5_Thing)]) := FinH.kc' (by kernel_rfl)
  unfold G_ringlaw5_dupped_h at h
  obtain ⟨v_r444, h377, h⟩ := bind_some h
  obtain ⟨v_o452, h382, h⟩ := bind_some h
  refine pkk_sound TTok mix hF 6 (hs := [.c, .c, .c, .h [0] [] [.box ((cS_open_Table v_r444.2.2.2).map FV.d)] (.tup [.d (.agg [.v (.int .i64 v_r444.1.fKind), .v (.int .i64 v_r444.1.fId), .v (.int .i64 v_r444.1.fMay), .v (.bool v_r444.1.fMore), .v (.int .i64 v_r444.1.fAt)]), .d (.v (.bool v_r444.2.1)), .d (.v (.int .i64 v_r444.2.2.1))]), .c]) (ts := []) (s := [3, 4, 5, 0, 1, 2, 6, 76]) (l := [1, 3, 6, 9, 10, 11]) (by kernel_rfl) (by kernel_rfl) (.cons (G_open_Table_Dup_h_ok n v_t384 v_a386.fP v_a386.fFd v_a386.fTo _ h377) (.cons (show 0 + 5 ≤ 5 by decide) .nil)) (G_ringlaw5_dupped_h_C1_ok hF (.s (cR (cL (cR (cR (bodyOf Try.f19))))) :: .s (cR (cR (cR (bodyOf Try.f19)))) :: []) n v_e387 v_r444 v_r385 v_a386 _ h382 ?_)
  cases v_o452 with
  | x0 v_z453 v_z454 =>
    try dsimp only at h
    by_cases h383 : v_z453 = true
    · rw [if_pos h383] at h
      obtain ⟨v_o464, h390, h⟩ := bind_some h
      refine pkk_sound TTok mix hF 12 (hs := [.t true, .c, .c, .c, .c, .c, .c]) (ts := []) (s := [0, 1, 2, 3, 4, 5, 7, 13]) (l := [3, 9, 10, 11, 12, 13]) (by kernel_rfl) (by kernel_rfl) (.cons h383 .nil) (G_ringlaw5_dupped_h_C2_ok hF (.s (cR (cR (cR (cR (cR (cR (cR (bodyOf Try.f19)))))))) :: []) n v_r444 v_r385 v_z454 _ h390 ?_)
      cases v_o464 with
      | x0 v_z465 v_z466 =>
        try dsimp only at h
        obtain rfl := Option.some.inj h
        exact pendH_sound TTok mix 2 (hs := [.dl 1, .mv 5]) [3, 4, 5, 6] (by kernel_rfl) (by kernel_rfl) (by kernel_rfl) .nil
    · rw [if_neg h383] at h
      obtain ⟨v_o472, h393, h⟩ := bind_some h
      refine pkk_sound TTok mix hF 8 (hs := [.t false]) (ts := []) (s := [0, 1, 2, 3, 4, 5, 6, 7, 8]) (l := [1, 3, 6, 9, 10, 11, 12, 13]) (by kernel_rfl) (by kernel_rfl) (.cons (vf h383) .nil) (G_ringlaw5_dupped_h_C3_ok hF (.s (cR (cL (cR (cR (cR (cR (cR (bodyOf Try.f19)))))))) :: .s (cR (cR (cR (cR (cR (cR (bodyOf Try.f19))))))) :: []) n v_e387 v_r444 v_r385 v_z454 v_a386 _ h393 ?_)
      cases v_o472 with
      | x0 v_z473 v_z474 =>
        try dsimp only at h
        obtain ⟨v_o560, h466, h⟩ := bind_some h
        refine pkk_sound TTok mix hF 0 (hs := []) (ts := []) (s := [0, 1, 2, 3, 4, 5, 6, 7, 8]) (l := [1, 3, 6, 9, 10, 11, 12, 13, 46]) (by kernel_rfl) (by kernel_rfl) .nil (G_ringlaw5_dupped_h_C5_ok hF (.s (cR (cR (cR (cR (cR (cR (bodyOf Try.f19))))))) :: []) n v_e387 v_r444 v_z473 v_r385 v_z474 v_a386 _ h466 ?_)
        cases v_o560 with
        | x0 v_z561 v_z562 v_z563 =>
          try dsimp only at h
          obtain ⟨v_o573, h473, h⟩ := bind_some h
          refine pkk_sound TTok mix hF 1 (hs := []) (ts := []) (s := [0, 1, 2, 3, 4, 5, 6, 7, 8]) (l := [3, 9, 10, 11, 12, 13]) (by kernel_rfl) (by kernel_rfl) .nil (G_ringlaw5_dupped_h_C6_ok hF (.s (cR (cR (cR (cR (cR (cR (cR (bodyOf Try.f19)))))))) :: []) n v_e387 v_r444 v_z561 v_z562 v_z563 _ h473 ?_)
          cases v_o573 with
          | x0 v_z574 v_z575 =>
            try dsimp only at h
            obtain rfl := Option.some.inj h
            exact pendH_sound TTok mix 1 (hs := []) [3, 4, 6, 5] (by kernel_rfl) (by kernel_rfl) (by kernel_rfl) .nil
        | x1 v_z576 v_z577 v_z578 v_z579 =>
          try dsimp only at h
          obtain ⟨v_o589, h480, h⟩ := bind_some h
          refine pkk_sound TTok mix hF 1 (hs := []) (ts := []) (s := [0, 1, 2, 3, 4, 5, 6, 7, 8]) (l := [3, 9, 10, 11, 12, 13]) (by kernel_rfl) (by kernel_rfl) .nil (G_ringlaw5_dupped_h_C7_ok hF (.s (cR (cR (cR (cR (cR (cR (cR (bodyOf Try.f19)))))))) :: []) n v_e387 v_r444 v_z576 v_z577 v_z578 v_z579 _ h480 ?_)
          cases v_o589 with
          | x0 v_z590 v_z591 =>
            try dsimp only at h
            obtain rfl := Option.some.inj h
            exact pendH_sound TTok mix 1 (hs := []) [3, 4, 6, 5] (by kernel_rfl) (by kernel_rfl) (by kernel_rfl) .nil
        | x2 v_z592 v_z593 v_z594 =>
          try dsimp only at h
          obtain ⟨v_o604, h487, h⟩ := bind_some h
          refine pkk_sound TTok mix hF 1 (hs := []) (ts := []) (s := [0, 1, 2, 3, 4, 5, 6, 7]) (l := [3, 9, 10, 11, 12, 13]) (by kernel_rfl) (by kernel_rfl) .nil (G_ringlaw5_dupped_h_C8_ok hF (.s (cR (cR (cR (cR (cR (cR (cR (bodyOf Try.f19)))))))) :: []) n v_e387 v_r444 v_z592 v_z593 v_z594 _ h487 ?_)
          cases v_o604 with
          | x0 v_z605 v_z606 =>
            try dsimp only at h
            obtain rfl := Option.some.inj h
            exact pendH_sound TTok mix 2 (hs := [.dl 1, .mv 5]) [3, 4, 5, 6] (by kernel_rfl) (by kernel_rfl) (by kernel_rfl) .nil
        | x3 v_z607 v_z608 =>
          try dsimp only at h
          obtain ⟨v_o618, h494, h⟩ := bind_some h
          refine pkk_sound TTok mix hF 1 (hs := []) (ts := []) (s := [0, 1, 2, 3, 4, 5, 6, 7]) (l := [3, 9, 10, 11, 12, 13]) (by kernel_rfl) (by kernel_rfl) .nil (G_ringlaw5_dupped_h_C9_ok hF (.s (cR (cR (cR (cR (cR (cR (cR (bodyOf Try.f19)))))))) :: []) n v_e387 v_r444 v_z607 v_r385 v_z608 _ h494 ?_)
          cases v_o618 with
          | x0 v_z619 v_z620 =>
            try dsimp only at h
            obtain rfl := Option.some.inj h
            exact pendH_sound TTok mix 2 (hs := [.dl 1, .mv 5]) [3, 4, 5, 6] (by kernel_rfl) (by kernel_rfl) (by kernel_rfl) .nil
/- ringhall/ringlaw5.forked$1 -/
def G_ringlaw5_forked_1 (n : Nat) (v_p1186 : Int) : Option (Bool) :=
  if v_p1186 ≥ 1 then
   some (decide (v_p1186 ≤ 16))
  else
   some false
theorem G_ringlaw5_forked_1_ok (n : Nat) (v_p1186 : Int) (r : Bool) (h : G_ringlaw5_forked_1 n v_p1186 = some r) : Ret Try.prog 26 [(eI .i64) v_p1186] (eB r) := by
  refine ret_run (n := 9) (fn := Try.f26) (c := bodyOf Try.f26) (by kernel_rfl) (by kernel_rfl) (by kernel_rfl) (by kernel_rfl) ?_
  have hF : KC 9 (FinR Try.prog Try.f26 (eB r)) := FinR.kc' (by kernel_rfl)
  unfold G_ringlaw5_forked_1 at h
  by_cases h920 : v_p1186 ≥ 1
  · rw [if_pos h920] at h
    obtain rfl := Option.some.inj h
    exact pend_sound TTok mix 5 (hs := [.t true, .c]) (by kernel_rfl) (by kernel_rfl) (by kernel_rfl) (.cons (dt h920) .nil)
  · rw [if_neg h920] at h
    obtain rfl := Option.some.inj h
    exact pend_sound TTok mix 5 (hs := [.t false, .c]) (by kernel_rfl) (by kernel_rfl) (by kernel_rfl) (.cons (df h920) .nil)
inductive G_open_Table_Fork_h_L1_R where
  | x0 (v_x1226 : Int)
  | x1 
def G_open_Table_Fork_h_L1_ex : G_open_Table_Fork_h_L1_R → Ex
  | .x0 _ => .ret
  | .x1  => .exit 0
def G_open_Table_Fork_h_L1_st (v_p1217 : Int) (v_child1218 : Int) (v_y1221 : (Fin 8 → Int)) (v_t1216 : S_open_Table) : G_open_Table_Fork_h_L1_R → PS
  | .x0 v_x1226 => ⟨(dd :: dd :: dd :: dd :: dd :: dd :: .d (.v (.int .i64 v_x1226)) :: (dds 63 [])), [.gh 0 (.ref 1 0), .box ((cS_open_Table v_t1216).map FV.d)]⟩
  | .x1  => ⟨(.ref 1 0 :: .d (.v (.int .i64 v_p1217)) :: .d (.v (.int .i64 v_child1218)) :: (dds 67 [])), [.gh 0 (.ref 1 0), .box ((cS_open_Table v_t1216).map FV.d)]⟩
def G_open_Table_Fork_h_L1_hd (v_p1217 : Int) (v_child1218 : Int) (v_y1221 : (Fin 8 → Int)) (v_t1216 : S_open_Table) (v_x1222 : Int) : PS := ⟨(.ref 1 0 :: .d (.v (.int .i64 v_p1217)) :: .d (.v (.int .i64 v_child1218)) :: (dds 21 (.d (.agg [.v (.int .i64 (v_y1221 0)), .v (.int .i64 (v_y1221 1)), .v (.int .i64 (v_y1221 2)), .v (.int .i64 (v_y1221 3)), .v (.int .i64 (v_y1221 4)), .v (.int .i64 (v_y1221 5)), .v (.int .i64 (v_y1221 6)), .v (.int .i64 (v_y1221 7))]) :: .d (.v (.int .i64 v_x1222)) :: (dds 44 [])))), [.gh 0 (.ref 1 0), .box ((cS_open_Table v_t1216).map FV.d)]⟩
def G_open_Table_Fork_h_L1 (n : Nat) (v_p1217 : Int) (v_child1218 : Int) (v_y1221 : (Fin 8 → Int)) (v_t1216 : S_open_Table) : Nat → Int → Option G_open_Table_Fork_h_L1_R
  | 0, _ => none
  | k + 1, v_x1222 =>
    if v_x1222 < 8 then
     (getA v_y1221 v_x1222).bind fun (v_y1225 : Int) =>
     if v_y1225 = 0 then
      G_open_Table_Fork_h_L1 n v_p1217 v_child1218 v_y1221 v_t1216 k (wi .i64 (v_x1222 + 1))
     else
      some (.x0 8)
    else
     some (.x1 )
theorem G_open_Table_Fork_h_L1_ok {Fi : Ex → PS → Prop} (hF : KC 70 Fi) (ks : List Fr) (n : Nat) (v_p1217 : Int) (v_child1218 : Int) (v_y1221 : (Fin 8 → Int)) (v_t1216 : S_open_Table)  : ∀ (k : Nat) (v_x1222 : Int) (o : G_open_Table_Fork_h_L1_R), G_open_Table_Fork_h_L1 n v_p1217 v_child1218 v_y1221 v_t1216 k v_x1222 = some o → RunE Try.prog 70 Fi ks (G_open_Table_Fork_h_L1_ex o) (G_open_Table_Fork_h_L1_st v_p1217 v_child1218 v_y1221 v_t1216 o) → RunE Try.prog 70 Fi (.l k (cP (cB (cR (cL (cR (cR (bodyOf Try.f27))))))) :: ks) .normal (G_open_Table_Fork_h_L1_hd v_p1217 v_child1218 v_y1221 v_t1216 v_x1222)
  | 0, v_x1222, o, h, q => by rw [G_open_Table_Fork_h_L1] at h; cases h
  | k + 1, v_x1222, o, h, q => by
    rw [G_open_Table_Fork_h_L1] at h
    by_cases h951 : v_x1222 < 8
    · rw [if_pos h951] at h
      obtain ⟨v_y1225, h954, h⟩ := bind_some h
      by_cases h955 : v_y1225 = 0
      · rw [if_pos h955] at h
        exact pkk_sound TTok mix hF 16 (hs := [.t true, .l (.d (.v (.int .i64 v_y1225))), .t false]) (ts := []) (s := [0, 1]) (l := [0, 1, 2, 24, 25]) (by kernel_rfl) (by kernel_rfl) (.cons (dt h951) (.cons (getA_ob0 (fun x => FV.d ((eI .i64) x)) h954) (.cons (nf h955) .nil))) (G_open_Table_Fork_h_L1_ok hF ks n v_p1217 v_child1218 v_y1221 v_t1216 k (wi .i64 (v_x1222 + 1)) _ h q)
      · rw [if_neg h955] at h
        cases h
        exact pkk_sound TTok mix hF 19 (hs := [.t true, .l (.d (.v (.int .i64 v_y1225))), .t true]) (ts := []) (s := [0, 1]) (l := [6]) (by kernel_rfl) (by kernel_rfl) (.cons (dt h951) (.cons (getA_ob0 (fun x => FV.d ((eI .i64) x)) h954) (.cons (nt h955) .nil))) q
    · rw [if_neg h951] at h
      cases h
      exact pkk_sound TTok mix hF 8 (hs := [.t false]) (ts := []) (s := [0, 1]) (l := [0, 1, 2]) (by kernel_rfl) (by kernel_rfl) (.cons (df h951) .nil) q
inductive G_open_Table_Fork_h_L2_R where
  | x0 (v_b1257 : S_open_Table)
def G_open_Table_Fork_h_L2_ex : G_open_Table_Fork_h_L2_R → Ex
  | .x0 _ => .exit 2
def G_open_Table_Fork_h_L2_st (v_y1231 : (Fin 8 → Int)) : G_open_Table_Fork_h_L2_R → PS
  | .x0 v_b1257 => ⟨(dds 70 []), [.gh 0 (.ref 1 0), .box ((cS_open_Table v_b1257).map FV.d)]⟩
def G_open_Table_Fork_h_L2_hd (v_y1231 : (Fin 8 → Int)) (v_x1244 : Int) (v_b1245 : S_open_Table) : PS := ⟨(.ref 1 0 :: (dds 49 (.d (.agg [.v (.int .i64 (v_y1231 0)), .v (.int .i64 (v_y1231 1)), .v (.int .i64 (v_y1231 2)), .v (.int .i64 (v_y1231 3)), .v (.int .i64 (v_y1231 4)), .v (.int .i64 (v_y1231 5)), .v (.int .i64 (v_y1231 6)), .v (.int .i64 (v_y1231 7))]) :: .d (.v (.int .i64 v_x1244)) :: (dds 18 [])))), [.gh 0 (.ref 1 0), .box ((cS_open_Table v_b1245).map FV.d)]⟩
def G_open_Table_Fork_h_L2 (n : Nat) (v_y1231 : (Fin 8 → Int)) : Nat → Int → S_open_Table → Option G_open_Table_Fork_h_L2_R
  | 0, _, _ => none
  | k + 1, v_x1244, v_b1245 =>
    if v_x1244 < 8 then
     (getA v_y1231 v_x1244).bind fun (v_y1252 : Int) =>
     if v_y1252 = 0 then
      G_open_Table_Fork_h_L2 n v_y1231 k (wi .i64 (v_x1244 + 1)) v_b1245
     else
      if 0 ≤ (wi .i64 (v_y1252 - 1)) ∧ (wi .i64 (v_y1252 - 1)) < (32 : Int) then
       (getA v_b1245.ffiles (wi .i64 (v_y1252 - 1))).bind fun (v_y1255 : S_open_file) =>
       if 0 ≤ (wi .i64 (v_y1252 - 1)) ∧ (wi .i64 (v_y1252 - 1)) < (32 : Int) then
        (getA v_b1245.ffiles (wi .i64 (v_y1252 - 1))).bind fun (v_y1256 : S_open_file) =>
        G_open_Table_Fork_h_L2 n v_y1231 k (wi .i64 (v_x1244 + 1)) (S_open_Table.mk (setA v_b1245.ffiles (wi .i64 (v_y1252 - 1)) (S_open_file.mk v_y1256.fThing (wi .i64 (v_y1255.fn + 1)))) v_b1245.ffds)
       else none
      else none
    else
     some (.x0 v_b1245)
theorem G_open_Table_Fork_h_L2_ok {Fi : Ex → PS → Prop} (hF : KC 70 Fi) (ks : List Fr) (n : Nat) (v_y1231 : (Fin 8 → Int))  : ∀ (k : Nat) (v_x1244 : Int) (v_b1245 : S_open_Table) (o : G_open_Table_Fork_h_L2_R), G_open_Table_Fork_h_L2 n v_y1231 k v_x1244 v_b1245 = some o → RunE Try.prog 70 Fi ks (G_open_Table_Fork_h_L2_ex o) (G_open_Table_Fork_h_L2_st v_y1231 o) → RunE Try.prog 70 Fi (.l k (cP (cB (cR (cL (cR (cR (cR (cR (cR (bodyOf Try.f27)))))))))) :: ks) .normal (G_open_Table_Fork_h_L2_hd v_y1231 v_x1244 v_b1245)
  | 0, v_x1244, v_b1245, o, h, q => by rw [G_open_Table_Fork_h_L2] at h; cases h
  | k + 1, v_x1244, v_b1245, o, h, q => by
    rw [G_open_Table_Fork_h_L2] at h
    by_cases h987 : v_x1244 < 8
    · rw [if_pos h987] at h
      obtain ⟨v_y1252, h999, h⟩ := bind_some h
      by_cases h1005 : v_y1252 = 0
      · rw [if_pos h1005] at h
        exact pkk_sound TTok mix hF 16 (hs := [.t true, .l (.d (.v (.int .i64 v_y1252))), .t false]) (ts := []) (s := [0, 1]) (l := [0, 50, 51]) (by kernel_rfl) (by kernel_rfl) (.cons (dt h987) (.cons (getA_ob0 (fun x => FV.d ((eI .i64) x)) h999) (.cons (nf h1005) .nil))) (G_open_Table_Fork_h_L2_ok hF ks n v_y1231 k (wi .i64 (v_x1244 + 1)) v_b1245 _ h q)
      · rw [if_neg h1005] at h
        by_cases h1006 : 0 ≤ (wi .i64 (v_y1252 - 1)) ∧ (wi .i64 (v_y1252 - 1)) < (32 : Int)
        · rw [if_pos h1006] at h
          obtain ⟨v_y1255, h1007, h⟩ := bind_some h
          by_cases h1008 : 0 ≤ (wi .i64 (v_y1252 - 1)) ∧ (wi .i64 (v_y1252 - 1)) < (32 : Int)
          · rw [if_pos h1008] at h
            obtain ⟨v_y1256, h1009, h⟩ := bind_some h
            exact pkk_sound TTok mix hF 16 (hs := [.t true, .l (.d (.v (.int .i64 v_y1252))), .t true, .l (.d (.v (.int .i64 v_y1255.fn))), .x ((cS_open_Table (S_open_Table.mk (setA v_b1245.ffiles (wi .i64 (v_y1252 - 1)) (S_open_file.mk v_y1256.fThing (wi .i64 (v_y1255.fn + 1)))) v_b1245.ffds)).map FV.d), .c]) (ts := []) (s := [0, 1]) (l := [0, 50, 51]) (by kernel_rfl) (by kernel_rfl) (.cons (dt h987) (.cons (getA_ob0 (fun x => FV.d ((eI .i64) x)) h999) (.cons (nt h1005) (.cons h1006 (.cons (arr_cell (γ := FV) (sz := 6) (g := (fun x => [.d (.v (.int .i64 x.fThing.fKind)), .d (.v (.int .i64 x.fThing.fId)), .d (.v (.int .i64 x.fThing.fMay)), .d (.v (.bool x.fThing.fMore)), .d (.v (.int .i64 x.fThing.fAt)), .d (.v (.int .i64 x.fn))])) (pre := []) (post := ((cA_t36 v_b1245.ffds).map FV.d)) (o := 5) (fun _ => rfl) h1007 rfl) (.cons h1008 (.cons (arr_store (γ := FV) (sz := 6) (g := (fun x => [.d (.v (.int .i64 x.fThing.fKind)), .d (.v (.int .i64 x.fThing.fId)), .d (.v (.int .i64 x.fThing.fMay)), .d (.v (.bool x.fThing.fMore)), .d (.v (.int .i64 x.fThing.fAt)), .d (.v (.int .i64 x.fn))])) (pre := []) (post := ((cA_t36 v_b1245.ffds).map FV.d)) (o := 5) (y := (S_open_file.mk v_y1256.fThing (wi .i64 (v_y1255.fn + 1)))) (zs := [.d (.v (.int .i64 (wi .i64 (v_y1255.fn + 1))))]) (fun _ => rfl) h1009 rfl (Nat.le_of_ble_eq_true rfl)).1 (.cons (arr_store (γ := FV) (sz := 6) (g := (fun x => [.d (.v (.int .i64 x.fThing.fKind)), .d (.v (.int .i64 x.fThing.fId)), .d (.v (.int .i64 x.fThing.fMay)), .d (.v (.bool x.fThing.fMore)), .d (.v (.int .i64 x.fThing.fAt)), .d (.v (.int .i64 x.fn))])) (pre := []) (post := ((cA_t36 v_b1245.ffds).map FV.d)) (o := 5) (y := (S_open_file.mk v_y1256.fThing (wi .i64 (v_y1255.fn + 1)))) (zs := [.d (.v (.int .i64 (wi .i64 (v_y1255.fn + 1))))]) (fun _ => rfl) h1009 rfl (Nat.le_of_ble_eq_true rfl)).2 .nil)))))))) (G_open_Table_Fork_h_L2_ok hF ks n v_y1231 k (wi .i64 (v_x1244 + 1)) (S_open_Table.mk (setA v_b1245.ffiles (wi .i64 (v_y1252 - 1)) (S_open_file.mk v_y1256.fThing (wi .i64 (v_y1255.fn + 1)))) v_b1245.ffds) _ h q)
          · rw [if_neg h1008] at h; cases h
        · rw [if_neg h1006] at h; cases h
    · rw [if_neg h987] at h
      cases h
      exact pkk_sound TTok mix hF 8 (hs := [.t false]) (ts := []) (s := [0, 1]) (l := []) (by kernel_rfl) (by kernel_rfl) (.cons (df h987) .nil) q

end Go.Proofs.Ytlnlhppaiagafaa.pv
