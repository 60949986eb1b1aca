/-
  DERIVED. GIVEN WITH THE SEED: THE CARDS: each row of YtnkdanobhgofbaaGreatDoorRows.lean that lists a variable, with what it lists TIED to the program's text (the seventh form; the later family's looks); each row that meets fmt, with fmt's text TOLD by the authors' own Lean function (tested against real Go, not proved from fmt's source: count such statements apart). THE CARD IS WHAT COUNTS. Prove the row's statement (the work); the ties are given (YtnkdanobhgofbaaGreatDoorTie.lean); close each card by the builder's one call (the guide's Derived/Test/ToyasCard.lean, 'card_holds'). Laid BY PROGRAM, IN A SANDBOX (cutbox-door.mjs). By AI agents, Wed Nov 11 2026. No macro, syntax, notation, axiom, sorry.
-/
import Derived.Test.YtnkdanobhgofbaaGreatDoorRows
import GoSem.ClaimSeven
namespace Go.Proofs.YtnkdanobhgofbaaGreatDoor
namespace Rows

/-- THE TIED CARD OF 'ringlaw5.KernelStarts'. -/
def kernelStartsCard : Claim7 := { stood := { row := kernelStartsRow, standIns := [], harness := (true, "fe5e14f7b661d42be87d05582dbc2cf69bfd2f66799950e6388ae67230011e8d"), looks := false }, kinds := [], alts := [], laidByText := true, laidKinds := [.data, .pinned], laidTests := true, laidLooks := .later }
def KernelStartsCardSaid : Prop := Claim7.holds Tryz.pinned (.plain (OpenSpec.ofChange kernelStartsSpec)) kernelStartsCard

/-- THE SECOND FORM's CARD OF 'ringlaw5.KernelStarts'. -/
def kernelStartsUptoCard : Claim7 := { stood := { row := kernelStartsUptoRow, standIns := [], harness := (true, "fe5e14f7b661d42be87d05582dbc2cf69bfd2f66799950e6388ae67230011e8d"), looks := false }, kinds := [], alts := [], laidByText := true, laidKinds := [.data, .pinned], laidTests := true, laidLooks := .later }
def KernelStartsUptoCardSaid : Prop := Claim7.holds Tryz.pinned (.plain (OpenSpec.upto kernelStartsSpec)) kernelStartsUptoCard
end Rows
end Go.Proofs.YtnkdanobhgofbaaGreatDoor
