/-
  No cell of these rows narrows 'for every input' (looked for: loops, veiled, ifaces, maps, wideKeys, modest, calm, conditions, laid).
  DERIVED. THE GIVEN ROWS OF THIS SEAT. 7 by the template 'for every input the law returns true; each argument reads behind the call as it read before'; 0 by the template 'total and deterministic' (their statements: YtnmpnljjaoddhaaTotals.lean).
  GIVEN WITH THE SEED: the statements are not yours to turn. If you find one false, say at which input.
  Laid BY PROGRAM, IN A SANDBOX (cutbox-rows.mjs): the forced cells as the released guide's own fill.sh prints them over the translation f43c51a5d7683dfd… (all of the seat's roots in one cut). By AI agents, Wed Nov 11 2026. No macro, syntax, notation, axiom, sorry.
-/
import Derived.Test.YtnmpnljjaoddhaaChecked
import GoSem.Claim
import GoSem.ClaimJoined
import GoSem.ClaimMapViews
import Derived.JoinedTies
import Derived.KernelRfl
namespace Go.Proofs.Ytnmpnljjaoddhaa
/- THE CELL 'sum', in the pinned program and in every row, IS THE sha256 OF THE DUMP (.gsa) THAT YtnmpnljjaoddhaaProg.lean LOADS. Nothing in Lean hashes anything: it is a label: what it is worth is what the hold of that sum in a sandbox is worth. -/
noncomputable def Try.pinned : Pinned := { name := "ytnmpnljjaoddhaa", sum := "f43c51a5d7683dfd58ab091640e4f810137cfbdbfeedcd3c3ab2bdfc66a7ece7", checked := Try.checked }
namespace Rows
def none {H : Type} : Left H := { results := [], args := [] }

/-- 'ringlaw2.ReclaimCounts': WHATEVER THE INPUT: true; the input reads as it did. -/
def reclaimCountsSpec : ChangeSpec := { name := "reclaimCounts", fn := fun _ => fun
  | [d1, d2] => { results := [.lit (.bool true)], args := [d1, d2] }
  | _ => none }
def reclaimCountsRow : OpenClaim := { program := "ytnmpnljjaoddhaa", sum := "f43c51a5d7683dfd58ab091640e4f810137cfbdbfeedcd3c3ab2bdfc66a7ece7", func := "ringhall/ringlaw2.ReclaimCounts", spec := "reclaimCounts", unfollowed := true, recurses := true, apart := false }
def ReclaimCountsSaid : Prop := reclaimCountsRow.holds Try.pinned (OpenSpec.ofChange reclaimCountsSpec)

/-- ITS FALSE NEIGHBOUR: 'it returns false'. Refute it at one input. -/
def reclaimCountsWrong : ChangeSpec := { name := "reclaimCounts", fn := fun _ => fun
  | [d1, d2] => { results := [.lit (.bool false)], args := [d1, d2] }
  | _ => none }
def ReclaimCountsWrongFalsely : Prop := reclaimCountsRow.holds Try.pinned (OpenSpec.ofChange reclaimCountsWrong)

/-- 'ringlaw5.ModeSays': WHATEVER THE INPUT: true; the input reads as it did. -/
def modeSaysSpec : ChangeSpec := { name := "modeSays", fn := fun _ => fun
  | [d1, d2, d3, d4, d5] => { results := [.lit (.bool true)], args := [d1, d2, d3, d4, d5] }
  | _ => none }
def modeSaysRow : OpenClaim := { program := "ytnmpnljjaoddhaa", sum := "f43c51a5d7683dfd58ab091640e4f810137cfbdbfeedcd3c3ab2bdfc66a7ece7", func := "ringhall/ringlaw5.ModeSays", spec := "modeSays", apart := false }
def ModeSaysSaid : Prop := modeSaysRow.holds Try.pinned (OpenSpec.ofChange modeSaysSpec)

/-- ITS FALSE NEIGHBOUR: 'it returns false'. Refute it at one input. -/
def modeSaysWrong : ChangeSpec := { name := "modeSays", fn := fun _ => fun
  | [d1, d2, d3, d4, d5] => { results := [.lit (.bool false)], args := [d1, d2, d3, d4, d5] }
  | _ => none }
def ModeSaysWrongFalsely : Prop := modeSaysRow.holds Try.pinned (OpenSpec.ofChange modeSaysWrong)

/-- 'ringlaw2.TableTells': WHATEVER THE INPUT: true; the input reads as it did. -/
def tableTellsSpec : ChangeSpec := { name := "tableTells", fn := fun _ => fun
  | [d1, d2, d3, d4] => { results := [.lit (.bool true)], args := [d1, d2, d3, d4] }
  | _ => none }
def tableTellsRow : OpenClaim := { program := "ytnmpnljjaoddhaa", sum := "f43c51a5d7683dfd58ab091640e4f810137cfbdbfeedcd3c3ab2bdfc66a7ece7", func := "ringhall/ringlaw2.TableTells", spec := "tableTells", unfollowed := true, recurses := true, apart := false }
def TableTellsSaid : Prop := tableTellsRow.holds Try.pinned (OpenSpec.ofChange tableTellsSpec)

/-- ITS FALSE NEIGHBOUR: 'it returns false'. Refute it at one input. -/
def tableTellsWrong : ChangeSpec := { name := "tableTells", fn := fun _ => fun
  | [d1, d2, d3, d4] => { results := [.lit (.bool false)], args := [d1, d2, d3, d4] }
  | _ => none }
def TableTellsWrongFalsely : Prop := tableTellsRow.holds Try.pinned (OpenSpec.ofChange tableTellsWrong)

/-- 'ringlaw5.MountSays': WHATEVER THE INPUT: true; the input reads as it did. -/
def mountSaysSpec : ChangeSpec := { name := "mountSays", fn := fun _ => fun
  | [d1, d2, d3, d4] => { results := [.lit (.bool true)], args := [d1, d2, d3, d4] }
  | _ => none }
def mountSaysRow : OpenClaim := { program := "ytnmpnljjaoddhaa", sum := "f43c51a5d7683dfd58ab091640e4f810137cfbdbfeedcd3c3ab2bdfc66a7ece7", func := "ringhall/ringlaw5.MountSays", spec := "mountSays", unfollowed := true, recurses := true, apart := false }
def MountSaysSaid : Prop := mountSaysRow.holds Try.pinned (OpenSpec.ofChange mountSaysSpec)

/-- ITS FALSE NEIGHBOUR: 'it returns false'. Refute it at one input. -/
def mountSaysWrong : ChangeSpec := { name := "mountSays", fn := fun _ => fun
  | [d1, d2, d3, d4] => { results := [.lit (.bool false)], args := [d1, d2, d3, d4] }
  | _ => none }
def MountSaysWrongFalsely : Prop := mountSaysRow.holds Try.pinned (OpenSpec.ofChange mountSaysWrong)

/-- 'ringlaw2.ReclaimTells': WHATEVER THE INPUT: true; the input reads as it did. -/
def reclaimTellsSpec : ChangeSpec := { name := "reclaimTells", fn := fun _ => fun
  | [d1, d2] => { results := [.lit (.bool true)], args := [d1, d2] }
  | _ => none }
def reclaimTellsRow : OpenClaim := { program := "ytnmpnljjaoddhaa", sum := "f43c51a5d7683dfd58ab091640e4f810137cfbdbfeedcd3c3ab2bdfc66a7ece7", func := "ringhall/ringlaw2.ReclaimTells", spec := "reclaimTells", inPlace := ["slices.overlaps[ringhall/reclaim.Item]"], unfollowed := true, recurses := true, apart := false }
def ReclaimTellsSaid : Prop := reclaimTellsRow.holds Try.pinned (OpenSpec.ofChange reclaimTellsSpec)

/-- ITS FALSE NEIGHBOUR: 'it returns false'. Refute it at one input. -/
def reclaimTellsWrong : ChangeSpec := { name := "reclaimTells", fn := fun _ => fun
  | [d1, d2] => { results := [.lit (.bool false)], args := [d1, d2] }
  | _ => none }
def ReclaimTellsWrongFalsely : Prop := reclaimTellsRow.holds Try.pinned (OpenSpec.ofChange reclaimTellsWrong)

/-- 'ringlaw2.AreaTells': WHATEVER THE INPUT: true; the input reads as it did. -/
def areaTellsSpec : ChangeSpec := { name := "areaTells", fn := fun _ => fun
  | [d1, d2] => { results := [.lit (.bool true)], args := [d1, d2] }
  | _ => none }
def areaTellsRow : OpenClaim := { program := "ytnmpnljjaoddhaa", sum := "f43c51a5d7683dfd58ab091640e4f810137cfbdbfeedcd3c3ab2bdfc66a7ece7", func := "ringhall/ringlaw2.AreaTells", spec := "areaTells", inPlace := ["slices.overlaps[ringhall/area.Area]"], unfollowed := true, recurses := true, apart := false }
def AreaTellsSaid : Prop := areaTellsRow.holds Try.pinned (OpenSpec.ofChange areaTellsSpec)

/-- ITS FALSE NEIGHBOUR: 'it returns false'. Refute it at one input. -/
def areaTellsWrong : ChangeSpec := { name := "areaTells", fn := fun _ => fun
  | [d1, d2] => { results := [.lit (.bool false)], args := [d1, d2] }
  | _ => none }
def AreaTellsWrongFalsely : Prop := areaTellsRow.holds Try.pinned (OpenSpec.ofChange areaTellsWrong)

/-- 'ringlaw2.TwinTells': WHATEVER THE INPUT: true; the input reads as it did. -/
def twinTellsSpec : ChangeSpec := { name := "twinTells", fn := fun _ => fun
  | [d1, d2, d3] => { results := [.lit (.bool true)], args := [d1, d2, d3] }
  | _ => none }
def twinTellsRow : OpenClaim := { program := "ytnmpnljjaoddhaa", sum := "f43c51a5d7683dfd58ab091640e4f810137cfbdbfeedcd3c3ab2bdfc66a7ece7", func := "ringhall/ringlaw2.TwinTells", spec := "twinTells", inPlace := ["slices.overlaps[ringhall/twin.Room]"], unfollowed := true, recurses := true, apart := false }
def TwinTellsSaid : Prop := twinTellsRow.holds Try.pinned (OpenSpec.ofChange twinTellsSpec)

/-- ITS FALSE NEIGHBOUR: 'it returns false'. Refute it at one input. -/
def twinTellsWrong : ChangeSpec := { name := "twinTells", fn := fun _ => fun
  | [d1, d2, d3] => { results := [.lit (.bool false)], args := [d1, d2, d3] }
  | _ => none }
def TwinTellsWrongFalsely : Prop := twinTellsRow.holds Try.pinned (OpenSpec.ofChange twinTellsWrong)

/- THE SECOND FORM. 'bulk': how many values and letters a reading holds, each counted each time it is reached (what is shared counts as often as it is met; a slice's spare places count too). A statement '..UptoSaid' is the law's where the arguments, and the package variables that the reading takes, are together of bulk at most 1048576: NARROWER than '..Said'. Prove '..Said' where nothing that the law and all that it calls make is longer than what came in: it says more and counts as full. Else prove '..UptoSaid'. A law counts once. -/
mutual
def uptoBulk {H : Type} : DataW H → Nat
  | .lit (.string bytes) => bytes.length + 1
  | .lit _ => 1
  | .nil => 1
  | .ptr d => uptoBulk d + 1
  | .slice elems spare => uptoBulkAll elems + uptoBulkAll spare + 1
  | .agg parts => uptoBulkAll parts + 1
  | .iface _ d => uptoBulk d + 1
  | .map entries => uptoBulkEntries entries + 1
  | .held _ => 1
def uptoBulkAll {H : Type} : List (DataW H) → Nat
  | [] => 0
  | d :: r => uptoBulk d + uptoBulkAll r
def uptoBulkEntries {H : Type} : List (Lit × DataW H) → Nat
  | [] => 0
  | x :: r => uptoBulkEntry x + uptoBulkEntries r
def uptoBulkEntry {H : Type} : Lit × DataW H → Nat
  | (.string bytes, d) => bytes.length + uptoBulk d + 1
  | (_, d) => uptoBulk d + 1
 end
def uptoSmall : (H : Type) → List (DataW H) → Bool := fun _ ds => decide (uptoBulkAll ds ≤ 1048576)
def OpenSpec.upto (s : _root_.Go.ChangeSpec) : _root_.Go.OpenSpec := { _root_.Go.OpenSpec.ofChange s with cond := some uptoSmall }

/-- 'ringlaw2.ReclaimCounts', WHERE WHAT IT READS IS OF BULK AT MOST 1048576: true; the input reads as it did. -/
def reclaimCountsUptoRow : OpenClaim := { program := "ytnmpnljjaoddhaa", sum := "f43c51a5d7683dfd58ab091640e4f810137cfbdbfeedcd3c3ab2bdfc66a7ece7", func := "ringhall/ringlaw2.ReclaimCounts", spec := "reclaimCounts", unfollowed := true, recurses := true, apart := false, narrowed := true }
def ReclaimCountsUptoSaid : Prop := reclaimCountsUptoRow.holds Try.pinned (OpenSpec.upto reclaimCountsSpec)

/-- 'ringlaw5.ModeSays', WHERE WHAT IT READS IS OF BULK AT MOST 1048576: true; the input reads as it did. -/
def modeSaysUptoRow : OpenClaim := { program := "ytnmpnljjaoddhaa", sum := "f43c51a5d7683dfd58ab091640e4f810137cfbdbfeedcd3c3ab2bdfc66a7ece7", func := "ringhall/ringlaw5.ModeSays", spec := "modeSays", apart := false, narrowed := true }
def ModeSaysUptoSaid : Prop := modeSaysUptoRow.holds Try.pinned (OpenSpec.upto modeSaysSpec)

/-- 'ringlaw2.TableTells', WHERE WHAT IT READS IS OF BULK AT MOST 1048576: true; the input reads as it did. -/
def tableTellsUptoRow : OpenClaim := { program := "ytnmpnljjaoddhaa", sum := "f43c51a5d7683dfd58ab091640e4f810137cfbdbfeedcd3c3ab2bdfc66a7ece7", func := "ringhall/ringlaw2.TableTells", spec := "tableTells", unfollowed := true, recurses := true, apart := false, narrowed := true }
def TableTellsUptoSaid : Prop := tableTellsUptoRow.holds Try.pinned (OpenSpec.upto tableTellsSpec)

/-- 'ringlaw5.MountSays', WHERE WHAT IT READS IS OF BULK AT MOST 1048576: true; the input reads as it did. -/
def mountSaysUptoRow : OpenClaim := { program := "ytnmpnljjaoddhaa", sum := "f43c51a5d7683dfd58ab091640e4f810137cfbdbfeedcd3c3ab2bdfc66a7ece7", func := "ringhall/ringlaw5.MountSays", spec := "mountSays", unfollowed := true, recurses := true, apart := false, narrowed := true }
def MountSaysUptoSaid : Prop := mountSaysUptoRow.holds Try.pinned (OpenSpec.upto mountSaysSpec)

/-- 'ringlaw2.ReclaimTells', WHERE WHAT IT READS IS OF BULK AT MOST 1048576: true; the input reads as it did. -/
def reclaimTellsUptoRow : OpenClaim := { program := "ytnmpnljjaoddhaa", sum := "f43c51a5d7683dfd58ab091640e4f810137cfbdbfeedcd3c3ab2bdfc66a7ece7", func := "ringhall/ringlaw2.ReclaimTells", spec := "reclaimTells", inPlace := ["slices.overlaps[ringhall/reclaim.Item]"], unfollowed := true, recurses := true, apart := false, narrowed := true }
def ReclaimTellsUptoSaid : Prop := reclaimTellsUptoRow.holds Try.pinned (OpenSpec.upto reclaimTellsSpec)

/-- 'ringlaw2.AreaTells', WHERE WHAT IT READS IS OF BULK AT MOST 1048576: true; the input reads as it did. -/
def areaTellsUptoRow : OpenClaim := { program := "ytnmpnljjaoddhaa", sum := "f43c51a5d7683dfd58ab091640e4f810137cfbdbfeedcd3c3ab2bdfc66a7ece7", func := "ringhall/ringlaw2.AreaTells", spec := "areaTells", inPlace := ["slices.overlaps[ringhall/area.Area]"], unfollowed := true, recurses := true, apart := false, narrowed := true }
def AreaTellsUptoSaid : Prop := areaTellsUptoRow.holds Try.pinned (OpenSpec.upto areaTellsSpec)

/-- 'ringlaw2.TwinTells', WHERE WHAT IT READS IS OF BULK AT MOST 1048576: true; the input reads as it did. -/
def twinTellsUptoRow : OpenClaim := { program := "ytnmpnljjaoddhaa", sum := "f43c51a5d7683dfd58ab091640e4f810137cfbdbfeedcd3c3ab2bdfc66a7ece7", func := "ringhall/ringlaw2.TwinTells", spec := "twinTells", inPlace := ["slices.overlaps[ringhall/twin.Room]"], unfollowed := true, recurses := true, apart := false, narrowed := true }
def TwinTellsUptoSaid : Prop := twinTellsUptoRow.holds Try.pinned (OpenSpec.upto twinTellsSpec)

end Rows
end Go.Proofs.Ytnmpnljjaoddhaa
