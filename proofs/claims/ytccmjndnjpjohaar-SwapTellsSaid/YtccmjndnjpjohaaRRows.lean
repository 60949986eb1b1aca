/-
  No cell of these rows narrows 'for every input' (looked for: loops, veiled, ifaces, maps, wideKeys, modest, calm, conditions, laid).
  DERIVED. THE GIVEN ROWS OF THIS SEAT. 10 by the template 'for every input the law returns true; each argument reads behind the call as it read before'; 0 by the template 'total and deterministic' (their statements: YtccmjndnjpjohaaRTotals.lean).
  GIVEN WITH THE SEED: the statements are not yours to turn. If you find one false, say at which input.
  Laid BY PROGRAM, IN A SANDBOX (cutbox-rows.mjs): the forced cells as the released guide's own fill.sh prints them over the translation d5fd3f5b5e1941bd… (all of the seat's roots in one cut). By AI agents, Wed Nov 11 2026. No macro, syntax, notation, axiom, sorry.
-/
import Derived.Test.YtccmjndnjpjohaaRChecked
import GoSem.Claim
import GoSem.ClaimJoined
import GoSem.ClaimMapViews
import Derived.JoinedTies
import Derived.KernelRfl
namespace Go.Proofs.YtccmjndnjpjohaaR
/- THE CELL 'sum', in the pinned program and in every row, IS THE sha256 OF THE DUMP (.gsa) THAT YtccmjndnjpjohaaRProg.lean LOADS. Nothing in Lean hashes anything: it is a label: what it is worth is what the hold of that sum in a sandbox is worth. -/
noncomputable def Try.pinned : Pinned := { name := "ytccmjndnjpjohaar", sum := "d5fd3f5b5e1941bd73fd465516b7a17e1f9026e42ef37ff885416ecba4af61de", checked := Try.checked }
namespace Rows
def none {H : Type} : Left H := { results := [], args := [] }

/-- 'ringlaw5.IrqSays': WHATEVER THE INPUT: true; the input reads as it did. -/
def irqSaysSpec : ChangeSpec := { name := "irqSays", fn := fun _ => fun
  | [d1, d2, d3, d4, d5, d6] => { results := [.lit (.bool true)], args := [d1, d2, d3, d4, d5, d6] }
  | _ => none }
def irqSaysRow : OpenClaim := { program := "ytccmjndnjpjohaar", sum := "d5fd3f5b5e1941bd73fd465516b7a17e1f9026e42ef37ff885416ecba4af61de", func := "ringhall/ringlaw5.IrqSays", spec := "irqSays", unfollowed := true, recurses := true, plainKeys := false, apart := false }
def IrqSaysSaid : Prop := irqSaysRow.holds Try.pinned (OpenSpec.ofChange irqSaysSpec)

/-- ITS FALSE NEIGHBOUR: 'it returns false'. Refute it at one input. -/
def irqSaysWrong : ChangeSpec := { name := "irqSays", fn := fun _ => fun
  | [d1, d2, d3, d4, d5, d6] => { results := [.lit (.bool false)], args := [d1, d2, d3, d4, d5, d6] }
  | _ => none }
def IrqSaysWrongFalsely : Prop := irqSaysRow.holds Try.pinned (OpenSpec.ofChange irqSaysWrong)

/-- 'ringlaw2.ReclaimCounts': WHATEVER THE INPUT: true; the input reads as it did. -/
def reclaimCountsSpec : ChangeSpec := { name := "reclaimCounts", fn := fun _ => fun
  | [d1, d2] => { results := [.lit (.bool true)], args := [d1, d2] }
  | _ => none }
def reclaimCountsRow : OpenClaim := { program := "ytccmjndnjpjohaar", sum := "d5fd3f5b5e1941bd73fd465516b7a17e1f9026e42ef37ff885416ecba4af61de", func := "ringhall/ringlaw2.ReclaimCounts", spec := "reclaimCounts", unfollowed := true, recurses := true, plainKeys := false, apart := false }
def ReclaimCountsSaid : Prop := reclaimCountsRow.holds Try.pinned (OpenSpec.ofChange reclaimCountsSpec)

/-- ITS FALSE NEIGHBOUR: 'it returns false'. Refute it at one input. -/
def reclaimCountsWrong : ChangeSpec := { name := "reclaimCounts", fn := fun _ => fun
  | [d1, d2] => { results := [.lit (.bool false)], args := [d1, d2] }
  | _ => none }
def ReclaimCountsWrongFalsely : Prop := reclaimCountsRow.holds Try.pinned (OpenSpec.ofChange reclaimCountsWrong)

/-- 'ringlaw2.SwapTells': WHATEVER THE INPUT: true; the input reads as it did. -/
def swapTellsSpec : ChangeSpec := { name := "swapTells", fn := fun _ => fun
  | [d1, d2, d3, d4, d5, d6] => { results := [.lit (.bool true)], args := [d1, d2, d3, d4, d5, d6] }
  | _ => none }
def swapTellsRow : OpenClaim := { program := "ytccmjndnjpjohaar", sum := "d5fd3f5b5e1941bd73fd465516b7a17e1f9026e42ef37ff885416ecba4af61de", func := "ringhall/ringlaw2.SwapTells", spec := "swapTells", unfollowed := true, recurses := true, plainKeys := false, apart := false }
def SwapTellsSaid : Prop := swapTellsRow.holds Try.pinned (OpenSpec.ofChange swapTellsSpec)

/-- ITS FALSE NEIGHBOUR: 'it returns false'. Refute it at one input. -/
def swapTellsWrong : ChangeSpec := { name := "swapTells", fn := fun _ => fun
  | [d1, d2, d3, d4, d5, d6] => { results := [.lit (.bool false)], args := [d1, d2, d3, d4, d5, d6] }
  | _ => none }
def SwapTellsWrongFalsely : Prop := swapTellsRow.holds Try.pinned (OpenSpec.ofChange swapTellsWrong)

/-- 'ringlaw5.TurnPlays': WHATEVER THE INPUT: true; the input reads as it did. -/
def turnPlaysSpec : ChangeSpec := { name := "turnPlays", fn := fun _ => fun
  | [d1, d2, d3] => { results := [.lit (.bool true)], args := [d1, d2, d3] }
  | _ => none }
def turnPlaysRow : OpenClaim := { program := "ytccmjndnjpjohaar", sum := "d5fd3f5b5e1941bd73fd465516b7a17e1f9026e42ef37ff885416ecba4af61de", func := "ringhall/ringlaw5.TurnPlays", spec := "turnPlays", plainKeys := false, apart := false }
def TurnPlaysSaid : Prop := turnPlaysRow.holds Try.pinned (OpenSpec.ofChange turnPlaysSpec)

/-- ITS FALSE NEIGHBOUR: 'it returns false'. Refute it at one input. -/
def turnPlaysWrong : ChangeSpec := { name := "turnPlays", fn := fun _ => fun
  | [d1, d2, d3] => { results := [.lit (.bool false)], args := [d1, d2, d3] }
  | _ => none }
def TurnPlaysWrongFalsely : Prop := turnPlaysRow.holds Try.pinned (OpenSpec.ofChange turnPlaysWrong)

/-- 'ringlaw2.FrameTells': WHATEVER THE INPUT: true; the input reads as it did. -/
def frameTellsSpec : ChangeSpec := { name := "frameTells", fn := fun _ => fun
  | [d1, d2, d3, d4] => { results := [.lit (.bool true)], args := [d1, d2, d3, d4] }
  | _ => none }
def frameTellsRow : OpenClaim := { program := "ytccmjndnjpjohaar", sum := "d5fd3f5b5e1941bd73fd465516b7a17e1f9026e42ef37ff885416ecba4af61de", func := "ringhall/ringlaw2.FrameTells", spec := "frameTells", plainKeys := false, apart := false }
def FrameTellsSaid : Prop := frameTellsRow.holds Try.pinned (OpenSpec.ofChange frameTellsSpec)

/-- ITS FALSE NEIGHBOUR: 'it returns false'. Refute it at one input. -/
def frameTellsWrong : ChangeSpec := { name := "frameTells", fn := fun _ => fun
  | [d1, d2, d3, d4] => { results := [.lit (.bool false)], args := [d1, d2, d3, d4] }
  | _ => none }
def FrameTellsWrongFalsely : Prop := frameTellsRow.holds Try.pinned (OpenSpec.ofChange frameTellsWrong)

/-- 'ringlaw2.FaultTells': WHATEVER THE INPUT: true; the input reads as it did. -/
def faultTellsSpec : ChangeSpec := { name := "faultTells", fn := fun _ => fun
  | [d1, d2] => { results := [.lit (.bool true)], args := [d1, d2] }
  | _ => none }
def faultTellsRow : OpenClaim := { program := "ytccmjndnjpjohaar", sum := "d5fd3f5b5e1941bd73fd465516b7a17e1f9026e42ef37ff885416ecba4af61de", func := "ringhall/ringlaw2.FaultTells", spec := "faultTells", plainKeys := false, apart := false }
def FaultTellsSaid : Prop := faultTellsRow.holds Try.pinned (OpenSpec.ofChange faultTellsSpec)

/-- ITS FALSE NEIGHBOUR: 'it returns false'. Refute it at one input. -/
def faultTellsWrong : ChangeSpec := { name := "faultTells", fn := fun _ => fun
  | [d1, d2] => { results := [.lit (.bool false)], args := [d1, d2] }
  | _ => none }
def FaultTellsWrongFalsely : Prop := faultTellsRow.holds Try.pinned (OpenSpec.ofChange faultTellsWrong)

/-- 'ringlaw5.TurnSays': WHATEVER THE INPUT: true; the input reads as it did. -/
def turnSaysSpec : ChangeSpec := { name := "turnSays", fn := fun _ => fun
  | [d1, d2, d3] => { results := [.lit (.bool true)], args := [d1, d2, d3] }
  | _ => none }
def turnSaysRow : OpenClaim := { program := "ytccmjndnjpjohaar", sum := "d5fd3f5b5e1941bd73fd465516b7a17e1f9026e42ef37ff885416ecba4af61de", func := "ringhall/ringlaw5.TurnSays", spec := "turnSays", unfollowed := true, recurses := true, plainKeys := false, apart := false }
def TurnSaysSaid : Prop := turnSaysRow.holds Try.pinned (OpenSpec.ofChange turnSaysSpec)

/-- ITS FALSE NEIGHBOUR: 'it returns false'. Refute it at one input. -/
def turnSaysWrong : ChangeSpec := { name := "turnSays", fn := fun _ => fun
  | [d1, d2, d3] => { results := [.lit (.bool false)], args := [d1, d2, d3] }
  | _ => none }
def TurnSaysWrongFalsely : Prop := turnSaysRow.holds Try.pinned (OpenSpec.ofChange turnSaysWrong)

/-- 'ringlaw5.LimitSays': WHATEVER THE INPUT: true; the input reads as it did. -/
def limitSaysSpec : ChangeSpec := { name := "limitSays", fn := fun _ => fun
  | [d1, d2, d3] => { results := [.lit (.bool true)], args := [d1, d2, d3] }
  | _ => none }
def limitSaysRow : OpenClaim := { program := "ytccmjndnjpjohaar", sum := "d5fd3f5b5e1941bd73fd465516b7a17e1f9026e42ef37ff885416ecba4af61de", func := "ringhall/ringlaw5.LimitSays", spec := "limitSays", recurses := true, plainKeys := false, apart := false }
def LimitSaysSaid : Prop := limitSaysRow.holds Try.pinned (OpenSpec.ofChange limitSaysSpec)

/-- ITS FALSE NEIGHBOUR: 'it returns false'. Refute it at one input. -/
def limitSaysWrong : ChangeSpec := { name := "limitSays", fn := fun _ => fun
  | [d1, d2, d3] => { results := [.lit (.bool false)], args := [d1, d2, d3] }
  | _ => none }
def LimitSaysWrongFalsely : Prop := limitSaysRow.holds Try.pinned (OpenSpec.ofChange limitSaysWrong)

/-- 'ringlaw5.ModeLists': WHATEVER THE INPUT: true; the input reads as it did. -/
def modeListsSpec : ChangeSpec := { name := "modeLists", fn := fun _ => fun
  | [d1, d2, d3, d4] => { results := [.lit (.bool true)], args := [d1, d2, d3, d4] }
  | _ => none }
def modeListsRow : OpenClaim := { program := "ytccmjndnjpjohaar", sum := "d5fd3f5b5e1941bd73fd465516b7a17e1f9026e42ef37ff885416ecba4af61de", func := "ringhall/ringlaw5.ModeLists", spec := "modeLists", plainKeys := false, apart := false }
def ModeListsSaid : Prop := modeListsRow.holds Try.pinned (OpenSpec.ofChange modeListsSpec)

/-- ITS FALSE NEIGHBOUR: 'it returns false'. Refute it at one input. -/
def modeListsWrong : ChangeSpec := { name := "modeLists", fn := fun _ => fun
  | [d1, d2, d3, d4] => { results := [.lit (.bool false)], args := [d1, d2, d3, d4] }
  | _ => none }
def ModeListsWrongFalsely : Prop := modeListsRow.holds Try.pinned (OpenSpec.ofChange modeListsWrong)

/-- 'ringlaw5.IrqServes': WHATEVER THE INPUT: true; the input reads as it did. -/
def irqServesSpec : ChangeSpec := { name := "irqServes", fn := fun _ => fun
  | [d1, d2, d3] => { results := [.lit (.bool true)], args := [d1, d2, d3] }
  | _ => none }
def irqServesRow : OpenClaim := { program := "ytccmjndnjpjohaar", sum := "d5fd3f5b5e1941bd73fd465516b7a17e1f9026e42ef37ff885416ecba4af61de", func := "ringhall/ringlaw5.IrqServes", spec := "irqServes", unfollowed := true, recurses := true, plainKeys := false, apart := false }
def IrqServesSaid : Prop := irqServesRow.holds Try.pinned (OpenSpec.ofChange irqServesSpec)

/-- ITS FALSE NEIGHBOUR: 'it returns false'. Refute it at one input. -/
def irqServesWrong : ChangeSpec := { name := "irqServes", fn := fun _ => fun
  | [d1, d2, d3] => { results := [.lit (.bool false)], args := [d1, d2, d3] }
  | _ => none }
def IrqServesWrongFalsely : Prop := irqServesRow.holds Try.pinned (OpenSpec.ofChange irqServesWrong)

/- THE SECOND FORM. 'bulk': how many values and letters a reading holds, each counted each time it is reached (what is shared counts as often as it is met; a slice's spare places count too). A statement '..UptoSaid' is the law's where the arguments, and the package variables that the reading takes, are together of bulk at most 1048576: NARROWER than '..Said'. Prove '..Said' where nothing that the law and all that it calls make is longer than what came in: it says more and counts as full. Else prove '..UptoSaid'. A law counts once. -/
mutual
def uptoBulk {H : Type} : DataW H → Nat
  | .lit (.string bytes) => bytes.length + 1
  | .lit _ => 1
  | .nil => 1
  | .ptr d => uptoBulk d + 1
  | .slice elems spare => uptoBulkAll elems + uptoBulkAll spare + 1
  | .agg parts => uptoBulkAll parts + 1
  | .iface _ d => uptoBulk d + 1
  | .map entries => uptoBulkEntries entries + 1
  | .held _ => 1
def uptoBulkAll {H : Type} : List (DataW H) → Nat
  | [] => 0
  | d :: r => uptoBulk d + uptoBulkAll r
def uptoBulkEntries {H : Type} : List (Lit × DataW H) → Nat
  | [] => 0
  | x :: r => uptoBulkEntry x + uptoBulkEntries r
def uptoBulkEntry {H : Type} : Lit × DataW H → Nat
  | (.string bytes, d) => bytes.length + uptoBulk d + 1
  | (_, d) => uptoBulk d + 1
 end
def uptoSmall : (H : Type) → List (DataW H) → Bool := fun _ ds => decide (uptoBulkAll ds ≤ 1048576)
def OpenSpec.upto (s : _root_.Go.ChangeSpec) : _root_.Go.OpenSpec := { _root_.Go.OpenSpec.ofChange s with cond := some uptoSmall }

/-- 'ringlaw5.IrqSays', WHERE WHAT IT READS IS OF BULK AT MOST 1048576: true; the input reads as it did. -/
def irqSaysUptoRow : OpenClaim := { program := "ytccmjndnjpjohaar", sum := "d5fd3f5b5e1941bd73fd465516b7a17e1f9026e42ef37ff885416ecba4af61de", func := "ringhall/ringlaw5.IrqSays", spec := "irqSays", unfollowed := true, recurses := true, plainKeys := false, apart := false, narrowed := true }
def IrqSaysUptoSaid : Prop := irqSaysUptoRow.holds Try.pinned (OpenSpec.upto irqSaysSpec)

/-- 'ringlaw2.ReclaimCounts', WHERE WHAT IT READS IS OF BULK AT MOST 1048576: true; the input reads as it did. -/
def reclaimCountsUptoRow : OpenClaim := { program := "ytccmjndnjpjohaar", sum := "d5fd3f5b5e1941bd73fd465516b7a17e1f9026e42ef37ff885416ecba4af61de", func := "ringhall/ringlaw2.ReclaimCounts", spec := "reclaimCounts", unfollowed := true, recurses := true, plainKeys := false, apart := false, narrowed := true }
def ReclaimCountsUptoSaid : Prop := reclaimCountsUptoRow.holds Try.pinned (OpenSpec.upto reclaimCountsSpec)

/-- 'ringlaw2.SwapTells', WHERE WHAT IT READS IS OF BULK AT MOST 1048576: true; the input reads as it did. -/
def swapTellsUptoRow : OpenClaim := { program := "ytccmjndnjpjohaar", sum := "d5fd3f5b5e1941bd73fd465516b7a17e1f9026e42ef37ff885416ecba4af61de", func := "ringhall/ringlaw2.SwapTells", spec := "swapTells", unfollowed := true, recurses := true, plainKeys := false, apart := false, narrowed := true }
def SwapTellsUptoSaid : Prop := swapTellsUptoRow.holds Try.pinned (OpenSpec.upto swapTellsSpec)

/-- 'ringlaw5.TurnPlays', WHERE WHAT IT READS IS OF BULK AT MOST 1048576: true; the input reads as it did. -/
def turnPlaysUptoRow : OpenClaim := { program := "ytccmjndnjpjohaar", sum := "d5fd3f5b5e1941bd73fd465516b7a17e1f9026e42ef37ff885416ecba4af61de", func := "ringhall/ringlaw5.TurnPlays", spec := "turnPlays", plainKeys := false, apart := false, narrowed := true }
def TurnPlaysUptoSaid : Prop := turnPlaysUptoRow.holds Try.pinned (OpenSpec.upto turnPlaysSpec)

/-- 'ringlaw2.FrameTells', WHERE WHAT IT READS IS OF BULK AT MOST 1048576: true; the input reads as it did. -/
def frameTellsUptoRow : OpenClaim := { program := "ytccmjndnjpjohaar", sum := "d5fd3f5b5e1941bd73fd465516b7a17e1f9026e42ef37ff885416ecba4af61de", func := "ringhall/ringlaw2.FrameTells", spec := "frameTells", plainKeys := false, apart := false, narrowed := true }
def FrameTellsUptoSaid : Prop := frameTellsUptoRow.holds Try.pinned (OpenSpec.upto frameTellsSpec)

/-- 'ringlaw2.FaultTells', WHERE WHAT IT READS IS OF BULK AT MOST 1048576: true; the input reads as it did. -/
def faultTellsUptoRow : OpenClaim := { program := "ytccmjndnjpjohaar", sum := "d5fd3f5b5e1941bd73fd465516b7a17e1f9026e42ef37ff885416ecba4af61de", func := "ringhall/ringlaw2.FaultTells", spec := "faultTells", plainKeys := false, apart := false, narrowed := true }
def FaultTellsUptoSaid : Prop := faultTellsUptoRow.holds Try.pinned (OpenSpec.upto faultTellsSpec)

/-- 'ringlaw5.TurnSays', WHERE WHAT IT READS IS OF BULK AT MOST 1048576: true; the input reads as it did. -/
def turnSaysUptoRow : OpenClaim := { program := "ytccmjndnjpjohaar", sum := "d5fd3f5b5e1941bd73fd465516b7a17e1f9026e42ef37ff885416ecba4af61de", func := "ringhall/ringlaw5.TurnSays", spec := "turnSays", unfollowed := true, recurses := true, plainKeys := false, apart := false, narrowed := true }
def TurnSaysUptoSaid : Prop := turnSaysUptoRow.holds Try.pinned (OpenSpec.upto turnSaysSpec)

/-- 'ringlaw5.LimitSays', WHERE WHAT IT READS IS OF BULK AT MOST 1048576: true; the input reads as it did. -/
def limitSaysUptoRow : OpenClaim := { program := "ytccmjndnjpjohaar", sum := "d5fd3f5b5e1941bd73fd465516b7a17e1f9026e42ef37ff885416ecba4af61de", func := "ringhall/ringlaw5.LimitSays", spec := "limitSays", recurses := true, plainKeys := false, apart := false, narrowed := true }
def LimitSaysUptoSaid : Prop := limitSaysUptoRow.holds Try.pinned (OpenSpec.upto limitSaysSpec)

/-- 'ringlaw5.ModeLists', WHERE WHAT IT READS IS OF BULK AT MOST 1048576: true; the input reads as it did. -/
def modeListsUptoRow : OpenClaim := { program := "ytccmjndnjpjohaar", sum := "d5fd3f5b5e1941bd73fd465516b7a17e1f9026e42ef37ff885416ecba4af61de", func := "ringhall/ringlaw5.ModeLists", spec := "modeLists", plainKeys := false, apart := false, narrowed := true }
def ModeListsUptoSaid : Prop := modeListsUptoRow.holds Try.pinned (OpenSpec.upto modeListsSpec)

/-- 'ringlaw5.IrqServes', WHERE WHAT IT READS IS OF BULK AT MOST 1048576: true; the input reads as it did. -/
def irqServesUptoRow : OpenClaim := { program := "ytccmjndnjpjohaar", sum := "d5fd3f5b5e1941bd73fd465516b7a17e1f9026e42ef37ff885416ecba4af61de", func := "ringhall/ringlaw5.IrqServes", spec := "irqServes", unfollowed := true, recurses := true, plainKeys := false, apart := false, narrowed := true }
def IrqServesUptoSaid : Prop := irqServesUptoRow.holds Try.pinned (OpenSpec.upto irqServesSpec)

end Rows
end Go.Proofs.YtccmjndnjpjohaaR
