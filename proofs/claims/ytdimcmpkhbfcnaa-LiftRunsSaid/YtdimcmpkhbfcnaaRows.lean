/-
  No cell of these rows narrows 'for every input' (looked for: loops, veiled, ifaces, maps, wideKeys, modest, calm, conditions, laid).
  DERIVED. THE GIVEN ROWS OF THIS SEAT. 2 by the template 'for every input the law returns true; each argument reads behind the call as it read before'; 0 by the template 'total and deterministic' (their statements: YtdimcmpkhbfcnaaTotals.lean).
  GIVEN WITH THE SEED: the statements are not yours to turn. If you find one false, say at which input.
  Laid BY PROGRAM, IN A SANDBOX (cutbox-rows.mjs): the forced cells as the released guide's own fill.sh prints them over the translation cebc85dc9a1185c2… (all of the seat's roots in one cut). By AI agents, Wed Nov 11 2026. No macro, syntax, notation, axiom, sorry.
-/
import Derived.Test.YtdimcmpkhbfcnaaChecked
import GoSem.Claim
import GoSem.ClaimJoined
import GoSem.ClaimMapViews
import Derived.JoinedTies
import Derived.KernelRfl
namespace Go.Proofs.Ytdimcmpkhbfcnaa
/- THE CELL 'sum', in the pinned program and in every row, IS THE sha256 OF THE DUMP (.gsa) THAT YtdimcmpkhbfcnaaProg.lean LOADS. Nothing in Lean hashes anything: it is a label: what it is worth is what the hold of that sum in a sandbox is worth. -/
noncomputable def Try.pinned : Pinned := { name := "ytdimcmpkhbfcnaa", sum := "cebc85dc9a1185c29387cc9191ed301c19bc932b48ad7a0bc84601bf5249f055", checked := Try.checked }
namespace Rows
def none {H : Type} : Left H := { results := [], args := [] }

/-- 'ringlaw3.LiftOrders': WHATEVER THE INPUT: true; the input reads as it did. -/
def liftOrdersSpec : ChangeSpec := { name := "liftOrders", fn := fun _ => fun
  | [d1, d2] => { results := [.lit (.bool true)], args := [d1, d2] }
  | _ => none }
def liftOrdersRow : OpenClaim := { program := "ytdimcmpkhbfcnaa", sum := "cebc85dc9a1185c29387cc9191ed301c19bc932b48ad7a0bc84601bf5249f055", func := "ringhall/ringlaw3.LiftOrders", spec := "liftOrders", unfollowed := true, recurses := true, apart := false }
def LiftOrdersSaid : Prop := liftOrdersRow.holds Try.pinned (OpenSpec.ofChange liftOrdersSpec)

/-- ITS FALSE NEIGHBOUR: 'it returns false'. Refute it at one input. -/
def liftOrdersWrong : ChangeSpec := { name := "liftOrders", fn := fun _ => fun
  | [d1, d2] => { results := [.lit (.bool false)], args := [d1, d2] }
  | _ => none }
def LiftOrdersWrongFalsely : Prop := liftOrdersRow.holds Try.pinned (OpenSpec.ofChange liftOrdersWrong)

/-- 'ringlaw3.LiftRuns': WHATEVER THE INPUT: true; the input reads as it did. -/
def liftRunsSpec : ChangeSpec := { name := "liftRuns", fn := fun _ => fun
  | [d1, d2, d3] => { results := [.lit (.bool true)], args := [d1, d2, d3] }
  | _ => none }
def liftRunsRow : OpenClaim := { program := "ytdimcmpkhbfcnaa", sum := "cebc85dc9a1185c29387cc9191ed301c19bc932b48ad7a0bc84601bf5249f055", func := "ringhall/ringlaw3.LiftRuns", spec := "liftRuns", inPlace := ["internal/abi.NoEscape", "internal/bytealg.MakeNoZero"], unfollowed := true, recurses := true, apart := false }
def LiftRunsSaid : Prop := liftRunsRow.holds Try.pinned (OpenSpec.ofChange liftRunsSpec)

/-- ITS FALSE NEIGHBOUR: 'it returns false'. Refute it at one input. -/
def liftRunsWrong : ChangeSpec := { name := "liftRuns", fn := fun _ => fun
  | [d1, d2, d3] => { results := [.lit (.bool false)], args := [d1, d2, d3] }
  | _ => none }
def LiftRunsWrongFalsely : Prop := liftRunsRow.holds Try.pinned (OpenSpec.ofChange liftRunsWrong)

/- THE SECOND FORM. 'bulk': how many values and letters a reading holds, each counted each time it is reached (what is shared counts as often as it is met; a slice's spare places count too). A statement '..UptoSaid' is the law's where the arguments, and the package variables that the reading takes, are together of bulk at most 1048576: NARROWER than '..Said'. Prove '..Said' where nothing that the law and all that it calls make is longer than what came in: it says more and counts as full. Else prove '..UptoSaid'. A law counts once. -/
mutual
def uptoBulk {H : Type} : DataW H → Nat
  | .lit (.string bytes) => bytes.length + 1
  | .lit _ => 1
  | .nil => 1
  | .ptr d => uptoBulk d + 1
  | .slice elems spare => uptoBulkAll elems + uptoBulkAll spare + 1
  | .agg parts => uptoBulkAll parts + 1
  | .iface _ d => uptoBulk d + 1
  | .map entries => uptoBulkEntries entries + 1
  | .held _ => 1
def uptoBulkAll {H : Type} : List (DataW H) → Nat
  | [] => 0
  | d :: r => uptoBulk d + uptoBulkAll r
def uptoBulkEntries {H : Type} : List (Lit × DataW H) → Nat
  | [] => 0
  | x :: r => uptoBulkEntry x + uptoBulkEntries r
def uptoBulkEntry {H : Type} : Lit × DataW H → Nat
  | (.string bytes, d) => bytes.length + uptoBulk d + 1
  | (_, d) => uptoBulk d + 1
 end
def uptoSmall : (H : Type) → List (DataW H) → Bool := fun _ ds => decide (uptoBulkAll ds ≤ 1048576)
def OpenSpec.upto (s : _root_.Go.ChangeSpec) : _root_.Go.OpenSpec := { _root_.Go.OpenSpec.ofChange s with cond := some uptoSmall }

/-- 'ringlaw3.LiftOrders', WHERE WHAT IT READS IS OF BULK AT MOST 1048576: true; the input reads as it did. -/
def liftOrdersUptoRow : OpenClaim := { program := "ytdimcmpkhbfcnaa", sum := "cebc85dc9a1185c29387cc9191ed301c19bc932b48ad7a0bc84601bf5249f055", func := "ringhall/ringlaw3.LiftOrders", spec := "liftOrders", unfollowed := true, recurses := true, apart := false, narrowed := true }
def LiftOrdersUptoSaid : Prop := liftOrdersUptoRow.holds Try.pinned (OpenSpec.upto liftOrdersSpec)

/-- 'ringlaw3.LiftRuns', WHERE WHAT IT READS IS OF BULK AT MOST 1048576: true; the input reads as it did. -/
def liftRunsUptoRow : OpenClaim := { program := "ytdimcmpkhbfcnaa", sum := "cebc85dc9a1185c29387cc9191ed301c19bc932b48ad7a0bc84601bf5249f055", func := "ringhall/ringlaw3.LiftRuns", spec := "liftRuns", inPlace := ["internal/abi.NoEscape", "internal/bytealg.MakeNoZero"], unfollowed := true, recurses := true, apart := false, narrowed := true }
def LiftRunsUptoSaid : Prop := liftRunsUptoRow.holds Try.pinned (OpenSpec.upto liftRunsSpec)

end Rows
end Go.Proofs.Ytdimcmpkhbfcnaa
