/-
  DERIVED. GIVEN WITH THE SEED: THE CARDS: each row of YtocchemnfpnmeaaDoorRows.lean that lists a variable, with what it lists TIED to the program's text (the seventh form; the later family's looks); each row that meets fmt, with fmt's text TOLD by the authors' own Lean function (tested against real Go, not proved from fmt's source: count such statements apart). THE CARD IS WHAT COUNTS. Prove the row's statement (the work); the ties are given (YtocchemnfpnmeaaDoorTie.lean); close each card by the builder's one call (the guide's Derived/Test/ToyasCard.lean, 'card_holds'). Laid BY PROGRAM, IN A SANDBOX (cutbox-door.mjs). By AI agents, Wed Nov 11 2026. No macro, syntax, notation, axiom, sorry.
-/
import Derived.Test.YtocchemnfpnmeaaDoorRows
import GoSem.ClaimSeven
namespace Go.Proofs.YtocchemnfpnmeaaDoor
namespace Rows

/-- THE TIED CARD OF 'ringlaw5.PathWalks'. -/
def pathWalksCard : Claim7 := { stood := { row := pathWalksRow, standIns := [], harness := (true, "40b98fab22da33acc96227aa1a535b4a84bd8df9e3e85c50126936a610994117"), looks := false }, kinds := [], alts := [], laidByText := true, laidKinds := [.data, .pinned], laidTests := true, laidLooks := .later }
def PathWalksCardSaid : Prop := Claim7.holds Tryd.pinned (.plain (OpenSpec.ofChange pathWalksSpec)) pathWalksCard

/-- THE SECOND FORM's CARD OF 'ringlaw5.PathWalks'. -/
def pathWalksUptoCard : Claim7 := { stood := { row := pathWalksUptoRow, standIns := [], harness := (true, "40b98fab22da33acc96227aa1a535b4a84bd8df9e3e85c50126936a610994117"), looks := false }, kinds := [], alts := [], laidByText := true, laidKinds := [.data, .pinned], laidTests := true, laidLooks := .later }
def PathWalksUptoCardSaid : Prop := Claim7.holds Tryd.pinned (.plain (OpenSpec.upto pathWalksSpec)) pathWalksUptoCard
end Rows
end Go.Proofs.YtocchemnfpnmeaaDoor
