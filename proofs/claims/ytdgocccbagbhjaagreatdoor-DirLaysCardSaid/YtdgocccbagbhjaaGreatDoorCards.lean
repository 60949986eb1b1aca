/-
  DERIVED. GIVEN WITH THE SEED: THE CARDS: each row of YtdgocccbagbhjaaGreatDoorRows.lean that lists a variable, with what it lists TIED to the program's text (the seventh form; the later family's looks); each row that meets fmt, with fmt's text TOLD by the authors' own Lean function (tested against real Go, not proved from fmt's source: count such statements apart). THE CARD IS WHAT COUNTS. Prove the row's statement (the work); the ties are given (YtdgocccbagbhjaaGreatDoorTie.lean); close each card by the builder's one call (the guide's Derived/Test/ToyasCard.lean, 'card_holds'). Laid BY PROGRAM, IN A SANDBOX (cutbox-door.mjs). By AI agents, Wed Nov 11 2026. No macro, syntax, notation, axiom, sorry.
-/
import Derived.Test.YtdgocccbagbhjaaGreatDoorRows
import GoSem.ClaimSeven
namespace Go.Proofs.YtdgocccbagbhjaaGreatDoor
namespace Rows

/-- THE TIED CARD OF 'ringlaw3.DirLays'. -/
def dirLaysCard : Claim7 := { stood := { row := dirLaysRow, standIns := [], harness := (true, "aa11dbf8d1a63090065a9b03ace1d2747f5f8ae8a75fae15819de35ebd89a2fc"), looks := false }, kinds := [], alts := [], laidByText := true, laidKinds := [.data, .pinned], laidTests := true, laidLooks := .later }
def DirLaysCardSaid : Prop := Claim7.holds Tryz.pinned (.plain (OpenSpec.ofChange dirLaysSpec)) dirLaysCard

/-- THE TIED CARD OF 'ringlaw3.DirTurns'. -/
def dirTurnsCard : Claim7 := { stood := { row := dirTurnsRow, standIns := [], harness := (true, "aa11dbf8d1a63090065a9b03ace1d2747f5f8ae8a75fae15819de35ebd89a2fc"), looks := false }, kinds := [], alts := [], laidByText := true, laidKinds := [.data, .pinned], laidTests := true, laidLooks := .later }
def DirTurnsCardSaid : Prop := Claim7.holds Tryz.pinned (.plain (OpenSpec.ofChange dirTurnsSpec)) dirTurnsCard

/-- THE SECOND FORM's CARD OF 'ringlaw3.DirLays'. -/
def dirLaysUptoCard : Claim7 := { stood := { row := dirLaysUptoRow, standIns := [], harness := (true, "aa11dbf8d1a63090065a9b03ace1d2747f5f8ae8a75fae15819de35ebd89a2fc"), looks := false }, kinds := [], alts := [], laidByText := true, laidKinds := [.data, .pinned], laidTests := true, laidLooks := .later }
def DirLaysUptoCardSaid : Prop := Claim7.holds Tryz.pinned (.plain (OpenSpec.upto dirLaysSpec)) dirLaysUptoCard

/-- THE SECOND FORM's CARD OF 'ringlaw3.DirTurns'. -/
def dirTurnsUptoCard : Claim7 := { stood := { row := dirTurnsUptoRow, standIns := [], harness := (true, "aa11dbf8d1a63090065a9b03ace1d2747f5f8ae8a75fae15819de35ebd89a2fc"), looks := false }, kinds := [], alts := [], laidByText := true, laidKinds := [.data, .pinned], laidTests := true, laidLooks := .later }
def DirTurnsUptoCardSaid : Prop := Claim7.holds Tryz.pinned (.plain (OpenSpec.upto dirTurnsSpec)) dirTurnsUptoCard
end Rows
end Go.Proofs.YtdgocccbagbhjaaGreatDoor
