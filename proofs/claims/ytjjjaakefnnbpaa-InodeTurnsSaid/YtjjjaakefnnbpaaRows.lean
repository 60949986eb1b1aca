/-
  No cell of these rows narrows 'for every input' (looked for: loops, veiled, ifaces, maps, wideKeys, modest, calm, conditions, laid).
  DERIVED. THE GIVEN ROWS OF THIS SEAT. 10 by the template 'for every input the law returns true; each argument reads behind the call as it read before'; 0 by the template 'total and deterministic' (their statements: YtjjjaakefnnbpaaTotals.lean).
  GIVEN WITH THE SEED: the statements are not yours to turn. If you find one false, say at which input.
  Laid BY PROGRAM, IN A SANDBOX (cutbox-rows.mjs): the forced cells as the released guide's own fill.sh prints them over the translation fa4c7e4b7976a0ab… (all of the seat's roots in one cut). By AI agents, Wed Nov 11 2026. No macro, syntax, notation, axiom, sorry.
-/
import Derived.Test.YtjjjaakefnnbpaaChecked
import GoSem.Claim
import GoSem.ClaimJoined
import GoSem.ClaimMapViews
import Derived.JoinedTies
import Derived.KernelRfl
namespace Go.Proofs.Ytjjjaakefnnbpaa
/- THE CELL 'sum', in the pinned program and in every row, IS THE sha256 OF THE DUMP (.gsa) THAT YtjjjaakefnnbpaaProg.lean LOADS. Nothing in Lean hashes anything: it is a label: what it is worth is what the hold of that sum in a sandbox is worth. -/
noncomputable def Try.pinned : Pinned := { name := "ytjjjaakefnnbpaa", sum := "fa4c7e4b7976a0ab020e1c2e7dd5cafded7732430e353a871f227ea2729c1718", checked := Try.checked }
namespace Rows
def none {H : Type} : Left H := { results := [], args := [] }

/-- 'ringlaw5.CredSays': WHATEVER THE INPUT: true; the input reads as it did. -/
def credSaysSpec : ChangeSpec := { name := "credSays", fn := fun _ => fun
  | [d1, d2] => { results := [.lit (.bool true)], args := [d1, d2] }
  | _ => none }
def credSaysRow : OpenClaim := { program := "ytjjjaakefnnbpaa", sum := "fa4c7e4b7976a0ab020e1c2e7dd5cafded7732430e353a871f227ea2729c1718", func := "ringhall/ringlaw5.CredSays", spec := "credSays", recurses := true, apart := false }
def CredSaysSaid : Prop := credSaysRow.holds Try.pinned (OpenSpec.ofChange credSaysSpec)

/-- ITS FALSE NEIGHBOUR: 'it returns false'. Refute it at one input. -/
def credSaysWrong : ChangeSpec := { name := "credSays", fn := fun _ => fun
  | [d1, d2] => { results := [.lit (.bool false)], args := [d1, d2] }
  | _ => none }
def CredSaysWrongFalsely : Prop := credSaysRow.holds Try.pinned (OpenSpec.ofChange credSaysWrong)

/-- 'ringlaw5.BoxSays': WHATEVER THE INPUT: true; the input reads as it did. -/
def boxSaysSpec : ChangeSpec := { name := "boxSays", fn := fun _ => fun
  | [d1, d2, d3] => { results := [.lit (.bool true)], args := [d1, d2, d3] }
  | _ => none }
def boxSaysRow : OpenClaim := { program := "ytjjjaakefnnbpaa", sum := "fa4c7e4b7976a0ab020e1c2e7dd5cafded7732430e353a871f227ea2729c1718", func := "ringhall/ringlaw5.BoxSays", spec := "boxSays", recurses := true, apart := false }
def BoxSaysSaid : Prop := boxSaysRow.holds Try.pinned (OpenSpec.ofChange boxSaysSpec)

/-- ITS FALSE NEIGHBOUR: 'it returns false'. Refute it at one input. -/
def boxSaysWrong : ChangeSpec := { name := "boxSays", fn := fun _ => fun
  | [d1, d2, d3] => { results := [.lit (.bool false)], args := [d1, d2, d3] }
  | _ => none }
def BoxSaysWrongFalsely : Prop := boxSaysRow.holds Try.pinned (OpenSpec.ofChange boxSaysWrong)

/-- 'ringlaw5.LabelRuns': WHATEVER THE INPUT: true; the input reads as it did. -/
def labelRunsSpec : ChangeSpec := { name := "labelRuns", fn := fun _ => fun
  | [d1, d2, d3, d4] => { results := [.lit (.bool true)], args := [d1, d2, d3, d4] }
  | _ => none }
def labelRunsRow : OpenClaim := { program := "ytjjjaakefnnbpaa", sum := "fa4c7e4b7976a0ab020e1c2e7dd5cafded7732430e353a871f227ea2729c1718", func := "ringhall/ringlaw5.LabelRuns", spec := "labelRuns", unfollowed := true, recurses := true, apart := false }
def LabelRunsSaid : Prop := labelRunsRow.holds Try.pinned (OpenSpec.ofChange labelRunsSpec)

/-- ITS FALSE NEIGHBOUR: 'it returns false'. Refute it at one input. -/
def labelRunsWrong : ChangeSpec := { name := "labelRuns", fn := fun _ => fun
  | [d1, d2, d3, d4] => { results := [.lit (.bool false)], args := [d1, d2, d3, d4] }
  | _ => none }
def LabelRunsWrongFalsely : Prop := labelRunsRow.holds Try.pinned (OpenSpec.ofChange labelRunsWrong)

/-- 'ringlaw3.OrphanCuts': WHATEVER THE INPUT: true; the input reads as it did. -/
def orphanCutsSpec : ChangeSpec := { name := "orphanCuts", fn := fun _ => fun
  | [d1, d2, d3, d4, d5, d6] => { results := [.lit (.bool true)], args := [d1, d2, d3, d4, d5, d6] }
  | _ => none }
def orphanCutsRow : OpenClaim := { program := "ytjjjaakefnnbpaa", sum := "fa4c7e4b7976a0ab020e1c2e7dd5cafded7732430e353a871f227ea2729c1718", func := "ringhall/ringlaw3.OrphanCuts", spec := "orphanCuts", recurses := true, apart := false }
def OrphanCutsSaid : Prop := orphanCutsRow.holds Try.pinned (OpenSpec.ofChange orphanCutsSpec)

/-- ITS FALSE NEIGHBOUR: 'it returns false'. Refute it at one input. -/
def orphanCutsWrong : ChangeSpec := { name := "orphanCuts", fn := fun _ => fun
  | [d1, d2, d3, d4, d5, d6] => { results := [.lit (.bool false)], args := [d1, d2, d3, d4, d5, d6] }
  | _ => none }
def OrphanCutsWrongFalsely : Prop := orphanCutsRow.holds Try.pinned (OpenSpec.ofChange orphanCutsWrong)

/-- 'ringlaw5.SigSays': WHATEVER THE INPUT: true; the input reads as it did. -/
def sigSaysSpec : ChangeSpec := { name := "sigSays", fn := fun _ => fun
  | [d1, d2, d3, d4] => { results := [.lit (.bool true)], args := [d1, d2, d3, d4] }
  | _ => none }
def sigSaysRow : OpenClaim := { program := "ytjjjaakefnnbpaa", sum := "fa4c7e4b7976a0ab020e1c2e7dd5cafded7732430e353a871f227ea2729c1718", func := "ringhall/ringlaw5.SigSays", spec := "sigSays", unfollowed := true, recurses := true, apart := false }
def SigSaysSaid : Prop := sigSaysRow.holds Try.pinned (OpenSpec.ofChange sigSaysSpec)

/-- ITS FALSE NEIGHBOUR: 'it returns false'. Refute it at one input. -/
def sigSaysWrong : ChangeSpec := { name := "sigSays", fn := fun _ => fun
  | [d1, d2, d3, d4] => { results := [.lit (.bool false)], args := [d1, d2, d3, d4] }
  | _ => none }
def SigSaysWrongFalsely : Prop := sigSaysRow.holds Try.pinned (OpenSpec.ofChange sigSaysWrong)

/-- 'ringlaw3.ExtentTurns': WHATEVER THE INPUT: true; the input reads as it did. -/
def extentTurnsSpec : ChangeSpec := { name := "extentTurns", fn := fun _ => fun
  | [d1, d2, d3, d4] => { results := [.lit (.bool true)], args := [d1, d2, d3, d4] }
  | _ => none }
def extentTurnsRow : OpenClaim := { program := "ytjjjaakefnnbpaa", sum := "fa4c7e4b7976a0ab020e1c2e7dd5cafded7732430e353a871f227ea2729c1718", func := "ringhall/ringlaw3.ExtentTurns", spec := "extentTurns", inPlace := ["internal/abi.NoEscape", "internal/bytealg.MakeNoZero"], apart := false }
def ExtentTurnsSaid : Prop := extentTurnsRow.holds Try.pinned (OpenSpec.ofChange extentTurnsSpec)

/-- ITS FALSE NEIGHBOUR: 'it returns false'. Refute it at one input. -/
def extentTurnsWrong : ChangeSpec := { name := "extentTurns", fn := fun _ => fun
  | [d1, d2, d3, d4] => { results := [.lit (.bool false)], args := [d1, d2, d3, d4] }
  | _ => none }
def ExtentTurnsWrongFalsely : Prop := extentTurnsRow.holds Try.pinned (OpenSpec.ofChange extentTurnsWrong)

/-- 'ringlaw3.InodeTurns': WHATEVER THE INPUT: true; the input reads as it did. -/
def inodeTurnsSpec : ChangeSpec := { name := "inodeTurns", fn := fun _ => fun
  | [d1, d2, d3] => { results := [.lit (.bool true)], args := [d1, d2, d3] }
  | _ => none }
def inodeTurnsRow : OpenClaim := { program := "ytjjjaakefnnbpaa", sum := "fa4c7e4b7976a0ab020e1c2e7dd5cafded7732430e353a871f227ea2729c1718", func := "ringhall/ringlaw3.InodeTurns", spec := "inodeTurns", inPlace := ["internal/abi.NoEscape", "internal/bytealg.MakeNoZero"], apart := false }
def InodeTurnsSaid : Prop := inodeTurnsRow.holds Try.pinned (OpenSpec.ofChange inodeTurnsSpec)

/-- ITS FALSE NEIGHBOUR: 'it returns false'. Refute it at one input. -/
def inodeTurnsWrong : ChangeSpec := { name := "inodeTurns", fn := fun _ => fun
  | [d1, d2, d3] => { results := [.lit (.bool false)], args := [d1, d2, d3] }
  | _ => none }
def InodeTurnsWrongFalsely : Prop := inodeTurnsRow.holds Try.pinned (OpenSpec.ofChange inodeTurnsWrong)

/-- 'ringlaw3.QuotaTurns': WHATEVER THE INPUT: true; the input reads as it did. -/
def quotaTurnsSpec : ChangeSpec := { name := "quotaTurns", fn := fun _ => fun
  | [d1, d2, d3, d4, d5, d6] => { results := [.lit (.bool true)], args := [d1, d2, d3, d4, d5, d6] }
  | _ => none }
def quotaTurnsRow : OpenClaim := { program := "ytjjjaakefnnbpaa", sum := "fa4c7e4b7976a0ab020e1c2e7dd5cafded7732430e353a871f227ea2729c1718", func := "ringhall/ringlaw3.QuotaTurns", spec := "quotaTurns", inPlace := ["slices.overlaps[ringhall/quota.Row]", "internal/abi.NoEscape", "internal/bytealg.MakeNoZero"], unfollowed := true, recurses := true, apart := false }
def QuotaTurnsSaid : Prop := quotaTurnsRow.holds Try.pinned (OpenSpec.ofChange quotaTurnsSpec)

/-- ITS FALSE NEIGHBOUR: 'it returns false'. Refute it at one input. -/
def quotaTurnsWrong : ChangeSpec := { name := "quotaTurns", fn := fun _ => fun
  | [d1, d2, d3, d4, d5, d6] => { results := [.lit (.bool false)], args := [d1, d2, d3, d4, d5, d6] }
  | _ => none }
def QuotaTurnsWrongFalsely : Prop := quotaTurnsRow.holds Try.pinned (OpenSpec.ofChange quotaTurnsWrong)

/-- 'ringlaw5.ProcPlays': WHATEVER THE INPUT: true; the input reads as it did. -/
def procPlaysSpec : ChangeSpec := { name := "procPlays", fn := fun _ => fun
  | [d] => { results := [.lit (.bool true)], args := [d] }
  | _ => none }
def procPlaysRow : OpenClaim := { program := "ytjjjaakefnnbpaa", sum := "fa4c7e4b7976a0ab020e1c2e7dd5cafded7732430e353a871f227ea2729c1718", func := "ringhall/ringlaw5.ProcPlays", spec := "procPlays", unfollowed := true, recurses := true, apart := false }
def ProcPlaysSaid : Prop := procPlaysRow.holds Try.pinned (OpenSpec.ofChange procPlaysSpec)

/-- ITS FALSE NEIGHBOUR: 'it returns false'. Refute it at one input. -/
def procPlaysWrong : ChangeSpec := { name := "procPlays", fn := fun _ => fun
  | [d] => { results := [.lit (.bool false)], args := [d] }
  | _ => none }
def ProcPlaysWrongFalsely : Prop := procPlaysRow.holds Try.pinned (OpenSpec.ofChange procPlaysWrong)

/-- 'ringlaw5.OpenPlays': WHATEVER THE INPUT: true; the input reads as it did. -/
def openPlaysSpec : ChangeSpec := { name := "openPlays", fn := fun _ => fun
  | [d] => { results := [.lit (.bool true)], args := [d] }
  | _ => none }
def openPlaysRow : OpenClaim := { program := "ytjjjaakefnnbpaa", sum := "fa4c7e4b7976a0ab020e1c2e7dd5cafded7732430e353a871f227ea2729c1718", func := "ringhall/ringlaw5.OpenPlays", spec := "openPlays", unfollowed := true, recurses := true, apart := false }
def OpenPlaysSaid : Prop := openPlaysRow.holds Try.pinned (OpenSpec.ofChange openPlaysSpec)

/-- ITS FALSE NEIGHBOUR: 'it returns false'. Refute it at one input. -/
def openPlaysWrong : ChangeSpec := { name := "openPlays", fn := fun _ => fun
  | [d] => { results := [.lit (.bool false)], args := [d] }
  | _ => none }
def OpenPlaysWrongFalsely : Prop := openPlaysRow.holds Try.pinned (OpenSpec.ofChange openPlaysWrong)

/- THE SECOND FORM. 'bulk': how many values and letters a reading holds, each counted each time it is reached (what is shared counts as often as it is met; a slice's spare places count too). A statement '..UptoSaid' is the law's where the arguments, and the package variables that the reading takes, are together of bulk at most 1048576: NARROWER than '..Said'. Prove '..Said' where nothing that the law and all that it calls make is longer than what came in: it says more and counts as full. Else prove '..UptoSaid'. A law counts once. -/
mutual
def uptoBulk {H : Type} : DataW H → Nat
  | .lit (.string bytes) => bytes.length + 1
  | .lit _ => 1
  | .nil => 1
  | .ptr d => uptoBulk d + 1
  | .slice elems spare => uptoBulkAll elems + uptoBulkAll spare + 1
  | .agg parts => uptoBulkAll parts + 1
  | .iface _ d => uptoBulk d + 1
  | .map entries => uptoBulkEntries entries + 1
  | .held _ => 1
def uptoBulkAll {H : Type} : List (DataW H) → Nat
  | [] => 0
  | d :: r => uptoBulk d + uptoBulkAll r
def uptoBulkEntries {H : Type} : List (Lit × DataW H) → Nat
  | [] => 0
  | x :: r => uptoBulkEntry x + uptoBulkEntries r
def uptoBulkEntry {H : Type} : Lit × DataW H → Nat
  | (.string bytes, d) => bytes.length + uptoBulk d + 1
  | (_, d) => uptoBulk d + 1
 end
def uptoSmall : (H : Type) → List (DataW H) → Bool := fun _ ds => decide (uptoBulkAll ds ≤ 1048576)
def OpenSpec.upto (s : _root_.Go.ChangeSpec) : _root_.Go.OpenSpec := { _root_.Go.OpenSpec.ofChange s with cond := some uptoSmall }

/-- 'ringlaw5.CredSays', WHERE WHAT IT READS IS OF BULK AT MOST 1048576: true; the input reads as it did. -/
def credSaysUptoRow : OpenClaim := { program := "ytjjjaakefnnbpaa", sum := "fa4c7e4b7976a0ab020e1c2e7dd5cafded7732430e353a871f227ea2729c1718", func := "ringhall/ringlaw5.CredSays", spec := "credSays", recurses := true, apart := false, narrowed := true }
def CredSaysUptoSaid : Prop := credSaysUptoRow.holds Try.pinned (OpenSpec.upto credSaysSpec)

/-- 'ringlaw5.BoxSays', WHERE WHAT IT READS IS OF BULK AT MOST 1048576: true; the input reads as it did. -/
def boxSaysUptoRow : OpenClaim := { program := "ytjjjaakefnnbpaa", sum := "fa4c7e4b7976a0ab020e1c2e7dd5cafded7732430e353a871f227ea2729c1718", func := "ringhall/ringlaw5.BoxSays", spec := "boxSays", recurses := true, apart := false, narrowed := true }
def BoxSaysUptoSaid : Prop := boxSaysUptoRow.holds Try.pinned (OpenSpec.upto boxSaysSpec)

/-- 'ringlaw5.LabelRuns', WHERE WHAT IT READS IS OF BULK AT MOST 1048576: true; the input reads as it did. -/
def labelRunsUptoRow : OpenClaim := { program := "ytjjjaakefnnbpaa", sum := "fa4c7e4b7976a0ab020e1c2e7dd5cafded7732430e353a871f227ea2729c1718", func := "ringhall/ringlaw5.LabelRuns", spec := "labelRuns", unfollowed := true, recurses := true, apart := false, narrowed := true }
def LabelRunsUptoSaid : Prop := labelRunsUptoRow.holds Try.pinned (OpenSpec.upto labelRunsSpec)

/-- 'ringlaw3.OrphanCuts', WHERE WHAT IT READS IS OF BULK AT MOST 1048576: true; the input reads as it did. -/
def orphanCutsUptoRow : OpenClaim := { program := "ytjjjaakefnnbpaa", sum := "fa4c7e4b7976a0ab020e1c2e7dd5cafded7732430e353a871f227ea2729c1718", func := "ringhall/ringlaw3.OrphanCuts", spec := "orphanCuts", recurses := true, apart := false, narrowed := true }
def OrphanCutsUptoSaid : Prop := orphanCutsUptoRow.holds Try.pinned (OpenSpec.upto orphanCutsSpec)

/-- 'ringlaw5.SigSays', WHERE WHAT IT READS IS OF BULK AT MOST 1048576: true; the input reads as it did. -/
def sigSaysUptoRow : OpenClaim := { program := "ytjjjaakefnnbpaa", sum := "fa4c7e4b7976a0ab020e1c2e7dd5cafded7732430e353a871f227ea2729c1718", func := "ringhall/ringlaw5.SigSays", spec := "sigSays", unfollowed := true, recurses := true, apart := false, narrowed := true }
def SigSaysUptoSaid : Prop := sigSaysUptoRow.holds Try.pinned (OpenSpec.upto sigSaysSpec)

/-- 'ringlaw3.ExtentTurns', WHERE WHAT IT READS IS OF BULK AT MOST 1048576: true; the input reads as it did. -/
def extentTurnsUptoRow : OpenClaim := { program := "ytjjjaakefnnbpaa", sum := "fa4c7e4b7976a0ab020e1c2e7dd5cafded7732430e353a871f227ea2729c1718", func := "ringhall/ringlaw3.ExtentTurns", spec := "extentTurns", inPlace := ["internal/abi.NoEscape", "internal/bytealg.MakeNoZero"], apart := false, narrowed := true }
def ExtentTurnsUptoSaid : Prop := extentTurnsUptoRow.holds Try.pinned (OpenSpec.upto extentTurnsSpec)

/-- 'ringlaw3.InodeTurns', WHERE WHAT IT READS IS OF BULK AT MOST 1048576: true; the input reads as it did. -/
def inodeTurnsUptoRow : OpenClaim := { program := "ytjjjaakefnnbpaa", sum := "fa4c7e4b7976a0ab020e1c2e7dd5cafded7732430e353a871f227ea2729c1718", func := "ringhall/ringlaw3.InodeTurns", spec := "inodeTurns", inPlace := ["internal/abi.NoEscape", "internal/bytealg.MakeNoZero"], apart := false, narrowed := true }
def InodeTurnsUptoSaid : Prop := inodeTurnsUptoRow.holds Try.pinned (OpenSpec.upto inodeTurnsSpec)

/-- 'ringlaw3.QuotaTurns', WHERE WHAT IT READS IS OF BULK AT MOST 1048576: true; the input reads as it did. -/
def quotaTurnsUptoRow : OpenClaim := { program := "ytjjjaakefnnbpaa", sum := "fa4c7e4b7976a0ab020e1c2e7dd5cafded7732430e353a871f227ea2729c1718", func := "ringhall/ringlaw3.QuotaTurns", spec := "quotaTurns", inPlace := ["slices.overlaps[ringhall/quota.Row]", "internal/abi.NoEscape", "internal/bytealg.MakeNoZero"], unfollowed := true, recurses := true, apart := false, narrowed := true }
def QuotaTurnsUptoSaid : Prop := quotaTurnsUptoRow.holds Try.pinned (OpenSpec.upto quotaTurnsSpec)

/-- 'ringlaw5.ProcPlays', WHERE WHAT IT READS IS OF BULK AT MOST 1048576: true; the input reads as it did. -/
def procPlaysUptoRow : OpenClaim := { program := "ytjjjaakefnnbpaa", sum := "fa4c7e4b7976a0ab020e1c2e7dd5cafded7732430e353a871f227ea2729c1718", func := "ringhall/ringlaw5.ProcPlays", spec := "procPlays", unfollowed := true, recurses := true, apart := false, narrowed := true }
def ProcPlaysUptoSaid : Prop := procPlaysUptoRow.holds Try.pinned (OpenSpec.upto procPlaysSpec)

/-- 'ringlaw5.OpenPlays', WHERE WHAT IT READS IS OF BULK AT MOST 1048576: true; the input reads as it did. -/
def openPlaysUptoRow : OpenClaim := { program := "ytjjjaakefnnbpaa", sum := "fa4c7e4b7976a0ab020e1c2e7dd5cafded7732430e353a871f227ea2729c1718", func := "ringhall/ringlaw5.OpenPlays", spec := "openPlays", unfollowed := true, recurses := true, apart := false, narrowed := true }
def OpenPlaysUptoSaid : Prop := openPlaysUptoRow.holds Try.pinned (OpenSpec.upto openPlaysSpec)

end Rows
end Go.Proofs.Ytjjjaakefnnbpaa
