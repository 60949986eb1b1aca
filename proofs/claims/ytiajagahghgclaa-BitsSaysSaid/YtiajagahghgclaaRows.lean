/-
  No cell of these rows narrows 'for every input' (looked for: loops, veiled, ifaces, maps, wideKeys, modest, calm, conditions, laid).
  DERIVED. THE GIVEN ROWS OF THIS SEAT. 4 by the template 'for every input the law returns true; each argument reads behind the call as it read before'; 0 by the template 'total and deterministic' (their statements: YtiajagahghgclaaTotals.lean).
  GIVEN WITH THE SEED: the statements are not yours to turn. If you find one false, say at which input.
  Laid BY PROGRAM, IN A SANDBOX (cutbox-rows.mjs): the forced cells as the released guide's own fill.sh prints them over the translation 47e8e0d935d7de33… (all of the seat's roots in one cut). By AI agents, Wed Nov 11 2026. No macro, syntax, notation, axiom, sorry.
-/
import Derived.Test.YtiajagahghgclaaChecked
import GoSem.Claim
import GoSem.ClaimJoined
import GoSem.ClaimMapViews
import Derived.JoinedTies
import Derived.KernelRfl
namespace Go.Proofs.Ytiajagahghgclaa
/- THE CELL 'sum', in the pinned program and in every row, IS THE sha256 OF THE DUMP (.gsa) THAT YtiajagahghgclaaProg.lean LOADS. Nothing in Lean hashes anything: it is a label: what it is worth is what the hold of that sum in a sandbox is worth. -/
noncomputable def Try.pinned : Pinned := { name := "ytiajagahghgclaa", sum := "47e8e0d935d7de331d4af43dec0ea34edc734e164bf120bf0d69d94db00d365b", checked := Try.checked }
namespace Rows
def none {H : Type} : Left H := { results := [], args := [] }

/-- 'ringlaw5.LabelSays': WHATEVER THE INPUT: true; the input reads as it did. -/
def labelSaysSpec : ChangeSpec := { name := "labelSays", fn := fun _ => fun
  | [d1, d2] => { results := [.lit (.bool true)], args := [d1, d2] }
  | _ => none }
def labelSaysRow : OpenClaim := { program := "ytiajagahghgclaa", sum := "47e8e0d935d7de331d4af43dec0ea34edc734e164bf120bf0d69d94db00d365b", func := "ringhall/ringlaw5.LabelSays", spec := "labelSays", apart := false }
def LabelSaysSaid : Prop := labelSaysRow.holds Try.pinned (OpenSpec.ofChange labelSaysSpec)

/-- ITS FALSE NEIGHBOUR: 'it returns false'. Refute it at one input. -/
def labelSaysWrong : ChangeSpec := { name := "labelSays", fn := fun _ => fun
  | [d1, d2] => { results := [.lit (.bool false)], args := [d1, d2] }
  | _ => none }
def LabelSaysWrongFalsely : Prop := labelSaysRow.holds Try.pinned (OpenSpec.ofChange labelSaysWrong)

/-- 'ringlaw2.EntryTells': WHATEVER THE INPUT: true; the input reads as it did. -/
def entryTellsSpec : ChangeSpec := { name := "entryTells", fn := fun _ => fun
  | [d1, d2, d3] => { results := [.lit (.bool true)], args := [d1, d2, d3] }
  | _ => none }
def entryTellsRow : OpenClaim := { program := "ytiajagahghgclaa", sum := "47e8e0d935d7de331d4af43dec0ea34edc734e164bf120bf0d69d94db00d365b", func := "ringhall/ringlaw2.EntryTells", spec := "entryTells", unfollowed := true, recurses := true, apart := false }
def EntryTellsSaid : Prop := entryTellsRow.holds Try.pinned (OpenSpec.ofChange entryTellsSpec)

/-- ITS FALSE NEIGHBOUR: 'it returns false'. Refute it at one input. -/
def entryTellsWrong : ChangeSpec := { name := "entryTells", fn := fun _ => fun
  | [d1, d2, d3] => { results := [.lit (.bool false)], args := [d1, d2, d3] }
  | _ => none }
def EntryTellsWrongFalsely : Prop := entryTellsRow.holds Try.pinned (OpenSpec.ofChange entryTellsWrong)

/-- 'ringlaw3.BitsSays': WHATEVER THE INPUT: true; the input reads as it did. -/
def bitsSaysSpec : ChangeSpec := { name := "bitsSays", fn := fun _ => fun
  | [d1, d2, d3, d4, d5] => { results := [.lit (.bool true)], args := [d1, d2, d3, d4, d5] }
  | _ => none }
def bitsSaysRow : OpenClaim := { program := "ytiajagahghgclaa", sum := "47e8e0d935d7de331d4af43dec0ea34edc734e164bf120bf0d69d94db00d365b", func := "ringhall/ringlaw3.BitsSays", spec := "bitsSays", apart := false }
def BitsSaysSaid : Prop := bitsSaysRow.holds Try.pinned (OpenSpec.ofChange bitsSaysSpec)

/-- ITS FALSE NEIGHBOUR: 'it returns false'. Refute it at one input. -/
def bitsSaysWrong : ChangeSpec := { name := "bitsSays", fn := fun _ => fun
  | [d1, d2, d3, d4, d5] => { results := [.lit (.bool false)], args := [d1, d2, d3, d4, d5] }
  | _ => none }
def BitsSaysWrongFalsely : Prop := bitsSaysRow.holds Try.pinned (OpenSpec.ofChange bitsSaysWrong)

/-- 'ringlaw5.BoxNests': WHATEVER THE INPUT: true; the input reads as it did. -/
def boxNestsSpec : ChangeSpec := { name := "boxNests", fn := fun _ => fun
  | [d1, d2] => { results := [.lit (.bool true)], args := [d1, d2] }
  | _ => none }
def boxNestsRow : OpenClaim := { program := "ytiajagahghgclaa", sum := "47e8e0d935d7de331d4af43dec0ea34edc734e164bf120bf0d69d94db00d365b", func := "ringhall/ringlaw5.BoxNests", spec := "boxNests", apart := false }
def BoxNestsSaid : Prop := boxNestsRow.holds Try.pinned (OpenSpec.ofChange boxNestsSpec)

/-- ITS FALSE NEIGHBOUR: 'it returns false'. Refute it at one input. -/
def boxNestsWrong : ChangeSpec := { name := "boxNests", fn := fun _ => fun
  | [d1, d2] => { results := [.lit (.bool false)], args := [d1, d2] }
  | _ => none }
def BoxNestsWrongFalsely : Prop := boxNestsRow.holds Try.pinned (OpenSpec.ofChange boxNestsWrong)

/- THE SECOND FORM. 'bulk': how many values and letters a reading holds, each counted each time it is reached (what is shared counts as often as it is met; a slice's spare places count too). A statement '..UptoSaid' is the law's where the arguments, and the package variables that the reading takes, are together of bulk at most 1048576: NARROWER than '..Said'. Prove '..Said' where nothing that the law and all that it calls make is longer than what came in: it says more and counts as full. Else prove '..UptoSaid'. A law counts once. -/
mutual
def uptoBulk {H : Type} : DataW H → Nat
  | .lit (.string bytes) => bytes.length + 1
  | .lit _ => 1
  | .nil => 1
  | .ptr d => uptoBulk d + 1
  | .slice elems spare => uptoBulkAll elems + uptoBulkAll spare + 1
  | .agg parts => uptoBulkAll parts + 1
  | .iface _ d => uptoBulk d + 1
  | .map entries => uptoBulkEntries entries + 1
  | .held _ => 1
def uptoBulkAll {H : Type} : List (DataW H) → Nat
  | [] => 0
  | d :: r => uptoBulk d + uptoBulkAll r
def uptoBulkEntries {H : Type} : List (Lit × DataW H) → Nat
  | [] => 0
  | x :: r => uptoBulkEntry x + uptoBulkEntries r
def uptoBulkEntry {H : Type} : Lit × DataW H → Nat
  | (.string bytes, d) => bytes.length + uptoBulk d + 1
  | (_, d) => uptoBulk d + 1
 end
def uptoSmall : (H : Type) → List (DataW H) → Bool := fun _ ds => decide (uptoBulkAll ds ≤ 1048576)
def OpenSpec.upto (s : _root_.Go.ChangeSpec) : _root_.Go.OpenSpec := { _root_.Go.OpenSpec.ofChange s with cond := some uptoSmall }

/-- 'ringlaw5.LabelSays', WHERE WHAT IT READS IS OF BULK AT MOST 1048576: true; the input reads as it did. -/
def labelSaysUptoRow : OpenClaim := { program := "ytiajagahghgclaa", sum := "47e8e0d935d7de331d4af43dec0ea34edc734e164bf120bf0d69d94db00d365b", func := "ringhall/ringlaw5.LabelSays", spec := "labelSays", apart := false, narrowed := true }
def LabelSaysUptoSaid : Prop := labelSaysUptoRow.holds Try.pinned (OpenSpec.upto labelSaysSpec)

/-- 'ringlaw2.EntryTells', WHERE WHAT IT READS IS OF BULK AT MOST 1048576: true; the input reads as it did. -/
def entryTellsUptoRow : OpenClaim := { program := "ytiajagahghgclaa", sum := "47e8e0d935d7de331d4af43dec0ea34edc734e164bf120bf0d69d94db00d365b", func := "ringhall/ringlaw2.EntryTells", spec := "entryTells", unfollowed := true, recurses := true, apart := false, narrowed := true }
def EntryTellsUptoSaid : Prop := entryTellsUptoRow.holds Try.pinned (OpenSpec.upto entryTellsSpec)

/-- 'ringlaw3.BitsSays', WHERE WHAT IT READS IS OF BULK AT MOST 1048576: true; the input reads as it did. -/
def bitsSaysUptoRow : OpenClaim := { program := "ytiajagahghgclaa", sum := "47e8e0d935d7de331d4af43dec0ea34edc734e164bf120bf0d69d94db00d365b", func := "ringhall/ringlaw3.BitsSays", spec := "bitsSays", apart := false, narrowed := true }
def BitsSaysUptoSaid : Prop := bitsSaysUptoRow.holds Try.pinned (OpenSpec.upto bitsSaysSpec)

/-- 'ringlaw5.BoxNests', WHERE WHAT IT READS IS OF BULK AT MOST 1048576: true; the input reads as it did. -/
def boxNestsUptoRow : OpenClaim := { program := "ytiajagahghgclaa", sum := "47e8e0d935d7de331d4af43dec0ea34edc734e164bf120bf0d69d94db00d365b", func := "ringhall/ringlaw5.BoxNests", spec := "boxNests", apart := false, narrowed := true }
def BoxNestsUptoSaid : Prop := boxNestsUptoRow.holds Try.pinned (OpenSpec.upto boxNestsSpec)

end Rows
end Go.Proofs.Ytiajagahghgclaa
