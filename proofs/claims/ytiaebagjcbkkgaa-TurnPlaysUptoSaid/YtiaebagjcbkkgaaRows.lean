/-
  No cell of these rows narrows 'for every input' (looked for: loops, veiled, ifaces, maps, wideKeys, modest, calm, conditions, laid).
  DERIVED. THE GIVEN ROWS OF THIS SEAT. 12 by the template 'for every input the law returns true; each argument reads behind the call as it read before'; 0 by the template 'total and deterministic' (their statements: YtiaebagjcbkkgaaTotals.lean).
  GIVEN WITH THE SEED: the statements are not yours to turn. If you find one false, say at which input.
  Laid BY PROGRAM, IN A SANDBOX (cutbox-rows.mjs): the forced cells as the released guide's own fill.sh prints them over the translation 8a3be8d3cb92c045… (all of the seat's roots in one cut). By AI agents, Wed Nov 11 2026. No macro, syntax, notation, axiom, sorry.
-/
import Derived.Test.YtiaebagjcbkkgaaChecked
import GoSem.Claim
import GoSem.ClaimJoined
import GoSem.ClaimMapViews
import Derived.JoinedTies
import Derived.KernelRfl
namespace Go.Proofs.Ytiaebagjcbkkgaa
/- THE CELL 'sum', in the pinned program and in every row, IS THE sha256 OF THE DUMP (.gsa) THAT YtiaebagjcbkkgaaProg.lean LOADS. Nothing in Lean hashes anything: it is a label: what it is worth is what the hold of that sum in a sandbox is worth. -/
noncomputable def Try.pinned : Pinned := { name := "ytiaebagjcbkkgaa", sum := "8a3be8d3cb92c045c67d17fdd09f38012fe9f0b701bb0eb07beb466818f9c495", checked := Try.checked }
namespace Rows
def none {H : Type} : Left H := { results := [], args := [] }

/-- 'ringlaw5.TurnPlays': WHATEVER THE INPUT: true; the input reads as it did. -/
def turnPlaysSpec : ChangeSpec := { name := "turnPlays", fn := fun _ => fun
  | [d1, d2, d3] => { results := [.lit (.bool true)], args := [d1, d2, d3] }
  | _ => none }
def turnPlaysRow : OpenClaim := { program := "ytiaebagjcbkkgaa", sum := "8a3be8d3cb92c045c67d17fdd09f38012fe9f0b701bb0eb07beb466818f9c495", func := "ringhall/ringlaw5.TurnPlays", spec := "turnPlays", plainKeys := false, apart := false }
def TurnPlaysSaid : Prop := turnPlaysRow.holds Try.pinned (OpenSpec.ofChange turnPlaysSpec)

/-- ITS FALSE NEIGHBOUR: 'it returns false'. Refute it at one input. -/
def turnPlaysWrong : ChangeSpec := { name := "turnPlays", fn := fun _ => fun
  | [d1, d2, d3] => { results := [.lit (.bool false)], args := [d1, d2, d3] }
  | _ => none }
def TurnPlaysWrongFalsely : Prop := turnPlaysRow.holds Try.pinned (OpenSpec.ofChange turnPlaysWrong)

/-- 'ringlaw5.TurnSays': WHATEVER THE INPUT: true; the input reads as it did. -/
def turnSaysSpec : ChangeSpec := { name := "turnSays", fn := fun _ => fun
  | [d1, d2, d3] => { results := [.lit (.bool true)], args := [d1, d2, d3] }
  | _ => none }
def turnSaysRow : OpenClaim := { program := "ytiaebagjcbkkgaa", sum := "8a3be8d3cb92c045c67d17fdd09f38012fe9f0b701bb0eb07beb466818f9c495", func := "ringhall/ringlaw5.TurnSays", spec := "turnSays", unfollowed := true, recurses := true, plainKeys := false, apart := false }
def TurnSaysSaid : Prop := turnSaysRow.holds Try.pinned (OpenSpec.ofChange turnSaysSpec)

/-- ITS FALSE NEIGHBOUR: 'it returns false'. Refute it at one input. -/
def turnSaysWrong : ChangeSpec := { name := "turnSays", fn := fun _ => fun
  | [d1, d2, d3] => { results := [.lit (.bool false)], args := [d1, d2, d3] }
  | _ => none }
def TurnSaysWrongFalsely : Prop := turnSaysRow.holds Try.pinned (OpenSpec.ofChange turnSaysWrong)

/-- 'ringlaw2.CowTells': WHATEVER THE INPUT: true; the input reads as it did. -/
def cowTellsSpec : ChangeSpec := { name := "cowTells", fn := fun _ => fun
  | [d1, d2, d3, d4] => { results := [.lit (.bool true)], args := [d1, d2, d3, d4] }
  | _ => none }
def cowTellsRow : OpenClaim := { program := "ytiaebagjcbkkgaa", sum := "8a3be8d3cb92c045c67d17fdd09f38012fe9f0b701bb0eb07beb466818f9c495", func := "ringhall/ringlaw2.CowTells", spec := "cowTells", plainKeys := false, apart := false }
def CowTellsSaid : Prop := cowTellsRow.holds Try.pinned (OpenSpec.ofChange cowTellsSpec)

/-- ITS FALSE NEIGHBOUR: 'it returns false'. Refute it at one input. -/
def cowTellsWrong : ChangeSpec := { name := "cowTells", fn := fun _ => fun
  | [d1, d2, d3, d4] => { results := [.lit (.bool false)], args := [d1, d2, d3, d4] }
  | _ => none }
def CowTellsWrongFalsely : Prop := cowTellsRow.holds Try.pinned (OpenSpec.ofChange cowTellsWrong)

/-- 'ringlaw2.TlbTells': WHATEVER THE INPUT: true; the input reads as it did. -/
def tlbTellsSpec : ChangeSpec := { name := "tlbTells", fn := fun _ => fun
  | [d1, d2, d3, d4, d5, d6, d7] => { results := [.lit (.bool true)], args := [d1, d2, d3, d4, d5, d6, d7] }
  | _ => none }
def tlbTellsRow : OpenClaim := { program := "ytiaebagjcbkkgaa", sum := "8a3be8d3cb92c045c67d17fdd09f38012fe9f0b701bb0eb07beb466818f9c495", func := "ringhall/ringlaw2.TlbTells", spec := "tlbTells", unfollowed := true, recurses := true, plainKeys := false, apart := false }
def TlbTellsSaid : Prop := tlbTellsRow.holds Try.pinned (OpenSpec.ofChange tlbTellsSpec)

/-- ITS FALSE NEIGHBOUR: 'it returns false'. Refute it at one input. -/
def tlbTellsWrong : ChangeSpec := { name := "tlbTells", fn := fun _ => fun
  | [d1, d2, d3, d4, d5, d6, d7] => { results := [.lit (.bool false)], args := [d1, d2, d3, d4, d5, d6, d7] }
  | _ => none }
def TlbTellsWrongFalsely : Prop := tlbTellsRow.holds Try.pinned (OpenSpec.ofChange tlbTellsWrong)

/-- 'ringlaw2.SlabTells': WHATEVER THE INPUT: true; the input reads as it did. -/
def slabTellsSpec : ChangeSpec := { name := "slabTells", fn := fun _ => fun
  | [d1, d2, d3, d4] => { results := [.lit (.bool true)], args := [d1, d2, d3, d4] }
  | _ => none }
def slabTellsRow : OpenClaim := { program := "ytiaebagjcbkkgaa", sum := "8a3be8d3cb92c045c67d17fdd09f38012fe9f0b701bb0eb07beb466818f9c495", func := "ringhall/ringlaw2.SlabTells", spec := "slabTells", inPlace := ["slices.overlaps[int]", "slices.overlaps[ringhall/slab.Box]"], unfollowed := true, recurses := true, plainKeys := false, apart := false }
def SlabTellsSaid : Prop := slabTellsRow.holds Try.pinned (OpenSpec.ofChange slabTellsSpec)

/-- ITS FALSE NEIGHBOUR: 'it returns false'. Refute it at one input. -/
def slabTellsWrong : ChangeSpec := { name := "slabTells", fn := fun _ => fun
  | [d1, d2, d3, d4] => { results := [.lit (.bool false)], args := [d1, d2, d3, d4] }
  | _ => none }
def SlabTellsWrongFalsely : Prop := slabTellsRow.holds Try.pinned (OpenSpec.ofChange slabTellsWrong)

/-- 'ringlaw2.TwinTells': WHATEVER THE INPUT: true; the input reads as it did. -/
def twinTellsSpec : ChangeSpec := { name := "twinTells", fn := fun _ => fun
  | [d1, d2, d3] => { results := [.lit (.bool true)], args := [d1, d2, d3] }
  | _ => none }
def twinTellsRow : OpenClaim := { program := "ytiaebagjcbkkgaa", sum := "8a3be8d3cb92c045c67d17fdd09f38012fe9f0b701bb0eb07beb466818f9c495", func := "ringhall/ringlaw2.TwinTells", spec := "twinTells", inPlace := ["slices.overlaps[ringhall/twin.Room]"], unfollowed := true, recurses := true, plainKeys := false, apart := false }
def TwinTellsSaid : Prop := twinTellsRow.holds Try.pinned (OpenSpec.ofChange twinTellsSpec)

/-- ITS FALSE NEIGHBOUR: 'it returns false'. Refute it at one input. -/
def twinTellsWrong : ChangeSpec := { name := "twinTells", fn := fun _ => fun
  | [d1, d2, d3] => { results := [.lit (.bool false)], args := [d1, d2, d3] }
  | _ => none }
def TwinTellsWrongFalsely : Prop := twinTellsRow.holds Try.pinned (OpenSpec.ofChange twinTellsWrong)

/-- 'ringlaw5.OpenPlays': WHATEVER THE INPUT: true; the input reads as it did. -/
def openPlaysSpec : ChangeSpec := { name := "openPlays", fn := fun _ => fun
  | [d] => { results := [.lit (.bool true)], args := [d] }
  | _ => none }
def openPlaysRow : OpenClaim := { program := "ytiaebagjcbkkgaa", sum := "8a3be8d3cb92c045c67d17fdd09f38012fe9f0b701bb0eb07beb466818f9c495", func := "ringhall/ringlaw5.OpenPlays", spec := "openPlays", unfollowed := true, recurses := true, plainKeys := false, apart := false }
def OpenPlaysSaid : Prop := openPlaysRow.holds Try.pinned (OpenSpec.ofChange openPlaysSpec)

/-- ITS FALSE NEIGHBOUR: 'it returns false'. Refute it at one input. -/
def openPlaysWrong : ChangeSpec := { name := "openPlays", fn := fun _ => fun
  | [d] => { results := [.lit (.bool false)], args := [d] }
  | _ => none }
def OpenPlaysWrongFalsely : Prop := openPlaysRow.holds Try.pinned (OpenSpec.ofChange openPlaysWrong)

/-- 'ringlaw3.QuotaTurns': WHATEVER THE INPUT: true; the input reads as it did. -/
def quotaTurnsSpec : ChangeSpec := { name := "quotaTurns", fn := fun _ => fun
  | [d1, d2, d3, d4, d5, d6] => { results := [.lit (.bool true)], args := [d1, d2, d3, d4, d5, d6] }
  | _ => none }
def quotaTurnsRow : OpenClaim := { program := "ytiaebagjcbkkgaa", sum := "8a3be8d3cb92c045c67d17fdd09f38012fe9f0b701bb0eb07beb466818f9c495", func := "ringhall/ringlaw3.QuotaTurns", spec := "quotaTurns", inPlace := ["slices.overlaps[ringhall/quota.Row]", "internal/abi.NoEscape", "internal/bytealg.MakeNoZero"], unfollowed := true, recurses := true, plainKeys := false, apart := false }
def QuotaTurnsSaid : Prop := quotaTurnsRow.holds Try.pinned (OpenSpec.ofChange quotaTurnsSpec)

/-- ITS FALSE NEIGHBOUR: 'it returns false'. Refute it at one input. -/
def quotaTurnsWrong : ChangeSpec := { name := "quotaTurns", fn := fun _ => fun
  | [d1, d2, d3, d4, d5, d6] => { results := [.lit (.bool false)], args := [d1, d2, d3, d4, d5, d6] }
  | _ => none }
def QuotaTurnsWrongFalsely : Prop := quotaTurnsRow.holds Try.pinned (OpenSpec.ofChange quotaTurnsWrong)

/-- 'ringlaw3.LiftOrders': WHATEVER THE INPUT: true; the input reads as it did. -/
def liftOrdersSpec : ChangeSpec := { name := "liftOrders", fn := fun _ => fun
  | [d1, d2] => { results := [.lit (.bool true)], args := [d1, d2] }
  | _ => none }
def liftOrdersRow : OpenClaim := { program := "ytiaebagjcbkkgaa", sum := "8a3be8d3cb92c045c67d17fdd09f38012fe9f0b701bb0eb07beb466818f9c495", func := "ringhall/ringlaw3.LiftOrders", spec := "liftOrders", unfollowed := true, recurses := true, plainKeys := false, apart := false }
def LiftOrdersSaid : Prop := liftOrdersRow.holds Try.pinned (OpenSpec.ofChange liftOrdersSpec)

/-- ITS FALSE NEIGHBOUR: 'it returns false'. Refute it at one input. -/
def liftOrdersWrong : ChangeSpec := { name := "liftOrders", fn := fun _ => fun
  | [d1, d2] => { results := [.lit (.bool false)], args := [d1, d2] }
  | _ => none }
def LiftOrdersWrongFalsely : Prop := liftOrdersRow.holds Try.pinned (OpenSpec.ofChange liftOrdersWrong)

/-- 'ringlaw2.OomTells': WHATEVER THE INPUT: true; the input reads as it did. -/
def oomTellsSpec : ChangeSpec := { name := "oomTells", fn := fun _ => fun
  | [d1, d2] => { results := [.lit (.bool true)], args := [d1, d2] }
  | _ => none }
def oomTellsRow : OpenClaim := { program := "ytiaebagjcbkkgaa", sum := "8a3be8d3cb92c045c67d17fdd09f38012fe9f0b701bb0eb07beb466818f9c495", func := "ringhall/ringlaw2.OomTells", spec := "oomTells", unfollowed := true, recurses := true, plainKeys := false, apart := false }
def OomTellsSaid : Prop := oomTellsRow.holds Try.pinned (OpenSpec.ofChange oomTellsSpec)

/-- ITS FALSE NEIGHBOUR: 'it returns false'. Refute it at one input. -/
def oomTellsWrong : ChangeSpec := { name := "oomTells", fn := fun _ => fun
  | [d1, d2] => { results := [.lit (.bool false)], args := [d1, d2] }
  | _ => none }
def OomTellsWrongFalsely : Prop := oomTellsRow.holds Try.pinned (OpenSpec.ofChange oomTellsWrong)

/-- 'ringlaw3.DiskPlays': WHATEVER THE INPUT: true; the input reads as it did. -/
def diskPlaysSpec : ChangeSpec := { name := "diskPlays", fn := fun _ => fun
  | [d1, d2] => { results := [.lit (.bool true)], args := [d1, d2] }
  | _ => none }
def diskPlaysRow : OpenClaim := { program := "ytiaebagjcbkkgaa", sum := "8a3be8d3cb92c045c67d17fdd09f38012fe9f0b701bb0eb07beb466818f9c495", func := "ringhall/ringlaw3.DiskPlays", spec := "diskPlays", inPlace := ["internal/abi.NoEscape", "internal/bytealg.MakeNoZero"], plainKeys := false, apart := false }
def DiskPlaysSaid : Prop := diskPlaysRow.holds Try.pinned (OpenSpec.ofChange diskPlaysSpec)

/-- ITS FALSE NEIGHBOUR: 'it returns false'. Refute it at one input. -/
def diskPlaysWrong : ChangeSpec := { name := "diskPlays", fn := fun _ => fun
  | [d1, d2] => { results := [.lit (.bool false)], args := [d1, d2] }
  | _ => none }
def DiskPlaysWrongFalsely : Prop := diskPlaysRow.holds Try.pinned (OpenSpec.ofChange diskPlaysWrong)

/-- 'ringlaw5.CpuSteps': WHATEVER THE INPUT: true; the input reads as it did. -/
def cpuStepsSpec : ChangeSpec := { name := "cpuSteps", fn := fun _ => fun
  | [d1, d2, d3] => { results := [.lit (.bool true)], args := [d1, d2, d3] }
  | _ => none }
def cpuStepsRow : OpenClaim := { program := "ytiaebagjcbkkgaa", sum := "8a3be8d3cb92c045c67d17fdd09f38012fe9f0b701bb0eb07beb466818f9c495", func := "ringhall/ringlaw5.CpuSteps", spec := "cpuSteps", unfollowed := true, recurses := true, plainKeys := false, apart := false }
def CpuStepsSaid : Prop := cpuStepsRow.holds Try.pinned (OpenSpec.ofChange cpuStepsSpec)

/-- ITS FALSE NEIGHBOUR: 'it returns false'. Refute it at one input. -/
def cpuStepsWrong : ChangeSpec := { name := "cpuSteps", fn := fun _ => fun
  | [d1, d2, d3] => { results := [.lit (.bool false)], args := [d1, d2, d3] }
  | _ => none }
def CpuStepsWrongFalsely : Prop := cpuStepsRow.holds Try.pinned (OpenSpec.ofChange cpuStepsWrong)

/- THE SECOND FORM. 'bulk': how many values and letters a reading holds, each counted each time it is reached (what is shared counts as often as it is met; a slice's spare places count too). A statement '..UptoSaid' is the law's where the arguments, and the package variables that the reading takes, are together of bulk at most 1048576: NARROWER than '..Said'. Prove '..Said' where nothing that the law and all that it calls make is longer than what came in: it says more and counts as full. Else prove '..UptoSaid'. A law counts once. -/
mutual
def uptoBulk {H : Type} : DataW H → Nat
  | .lit (.string bytes) => bytes.length + 1
  | .lit _ => 1
  | .nil => 1
  | .ptr d => uptoBulk d + 1
  | .slice elems spare => uptoBulkAll elems + uptoBulkAll spare + 1
  | .agg parts => uptoBulkAll parts + 1
  | .iface _ d => uptoBulk d + 1
  | .map entries => uptoBulkEntries entries + 1
  | .held _ => 1
def uptoBulkAll {H : Type} : List (DataW H) → Nat
  | [] => 0
  | d :: r => uptoBulk d + uptoBulkAll r
def uptoBulkEntries {H : Type} : List (Lit × DataW H) → Nat
  | [] => 0
  | x :: r => uptoBulkEntry x + uptoBulkEntries r
def uptoBulkEntry {H : Type} : Lit × DataW H → Nat
  | (.string bytes, d) => bytes.length + uptoBulk d + 1
  | (_, d) => uptoBulk d + 1
 end
def uptoSmall : (H : Type) → List (DataW H) → Bool := fun _ ds => decide (uptoBulkAll ds ≤ 1048576)
def OpenSpec.upto (s : _root_.Go.ChangeSpec) : _root_.Go.OpenSpec := { _root_.Go.OpenSpec.ofChange s with cond := some uptoSmall }

/-- 'ringlaw5.TurnPlays', WHERE WHAT IT READS IS OF BULK AT MOST 1048576: true; the input reads as it did. -/
def turnPlaysUptoRow : OpenClaim := { program := "ytiaebagjcbkkgaa", sum := "8a3be8d3cb92c045c67d17fdd09f38012fe9f0b701bb0eb07beb466818f9c495", func := "ringhall/ringlaw5.TurnPlays", spec := "turnPlays", plainKeys := false, apart := false, narrowed := true }
def TurnPlaysUptoSaid : Prop := turnPlaysUptoRow.holds Try.pinned (OpenSpec.upto turnPlaysSpec)

/-- 'ringlaw5.TurnSays', WHERE WHAT IT READS IS OF BULK AT MOST 1048576: true; the input reads as it did. -/
def turnSaysUptoRow : OpenClaim := { program := "ytiaebagjcbkkgaa", sum := "8a3be8d3cb92c045c67d17fdd09f38012fe9f0b701bb0eb07beb466818f9c495", func := "ringhall/ringlaw5.TurnSays", spec := "turnSays", unfollowed := true, recurses := true, plainKeys := false, apart := false, narrowed := true }
def TurnSaysUptoSaid : Prop := turnSaysUptoRow.holds Try.pinned (OpenSpec.upto turnSaysSpec)

/-- 'ringlaw2.CowTells', WHERE WHAT IT READS IS OF BULK AT MOST 1048576: true; the input reads as it did. -/
def cowTellsUptoRow : OpenClaim := { program := "ytiaebagjcbkkgaa", sum := "8a3be8d3cb92c045c67d17fdd09f38012fe9f0b701bb0eb07beb466818f9c495", func := "ringhall/ringlaw2.CowTells", spec := "cowTells", plainKeys := false, apart := false, narrowed := true }
def CowTellsUptoSaid : Prop := cowTellsUptoRow.holds Try.pinned (OpenSpec.upto cowTellsSpec)

/-- 'ringlaw2.TlbTells', WHERE WHAT IT READS IS OF BULK AT MOST 1048576: true; the input reads as it did. -/
def tlbTellsUptoRow : OpenClaim := { program := "ytiaebagjcbkkgaa", sum := "8a3be8d3cb92c045c67d17fdd09f38012fe9f0b701bb0eb07beb466818f9c495", func := "ringhall/ringlaw2.TlbTells", spec := "tlbTells", unfollowed := true, recurses := true, plainKeys := false, apart := false, narrowed := true }
def TlbTellsUptoSaid : Prop := tlbTellsUptoRow.holds Try.pinned (OpenSpec.upto tlbTellsSpec)

/-- 'ringlaw2.SlabTells', WHERE WHAT IT READS IS OF BULK AT MOST 1048576: true; the input reads as it did. -/
def slabTellsUptoRow : OpenClaim := { program := "ytiaebagjcbkkgaa", sum := "8a3be8d3cb92c045c67d17fdd09f38012fe9f0b701bb0eb07beb466818f9c495", func := "ringhall/ringlaw2.SlabTells", spec := "slabTells", inPlace := ["slices.overlaps[int]", "slices.overlaps[ringhall/slab.Box]"], unfollowed := true, recurses := true, plainKeys := false, apart := false, narrowed := true }
def SlabTellsUptoSaid : Prop := slabTellsUptoRow.holds Try.pinned (OpenSpec.upto slabTellsSpec)

/-- 'ringlaw2.TwinTells', WHERE WHAT IT READS IS OF BULK AT MOST 1048576: true; the input reads as it did. -/
def twinTellsUptoRow : OpenClaim := { program := "ytiaebagjcbkkgaa", sum := "8a3be8d3cb92c045c67d17fdd09f38012fe9f0b701bb0eb07beb466818f9c495", func := "ringhall/ringlaw2.TwinTells", spec := "twinTells", inPlace := ["slices.overlaps[ringhall/twin.Room]"], unfollowed := true, recurses := true, plainKeys := false, apart := false, narrowed := true }
def TwinTellsUptoSaid : Prop := twinTellsUptoRow.holds Try.pinned (OpenSpec.upto twinTellsSpec)

/-- 'ringlaw5.OpenPlays', WHERE WHAT IT READS IS OF BULK AT MOST 1048576: true; the input reads as it did. -/
def openPlaysUptoRow : OpenClaim := { program := "ytiaebagjcbkkgaa", sum := "8a3be8d3cb92c045c67d17fdd09f38012fe9f0b701bb0eb07beb466818f9c495", func := "ringhall/ringlaw5.OpenPlays", spec := "openPlays", unfollowed := true, recurses := true, plainKeys := false, apart := false, narrowed := true }
def OpenPlaysUptoSaid : Prop := openPlaysUptoRow.holds Try.pinned (OpenSpec.upto openPlaysSpec)

/-- 'ringlaw3.QuotaTurns', WHERE WHAT IT READS IS OF BULK AT MOST 1048576: true; the input reads as it did. -/
def quotaTurnsUptoRow : OpenClaim := { program := "ytiaebagjcbkkgaa", sum := "8a3be8d3cb92c045c67d17fdd09f38012fe9f0b701bb0eb07beb466818f9c495", func := "ringhall/ringlaw3.QuotaTurns", spec := "quotaTurns", inPlace := ["slices.overlaps[ringhall/quota.Row]", "internal/abi.NoEscape", "internal/bytealg.MakeNoZero"], unfollowed := true, recurses := true, plainKeys := false, apart := false, narrowed := true }
def QuotaTurnsUptoSaid : Prop := quotaTurnsUptoRow.holds Try.pinned (OpenSpec.upto quotaTurnsSpec)

/-- 'ringlaw3.LiftOrders', WHERE WHAT IT READS IS OF BULK AT MOST 1048576: true; the input reads as it did. -/
def liftOrdersUptoRow : OpenClaim := { program := "ytiaebagjcbkkgaa", sum := "8a3be8d3cb92c045c67d17fdd09f38012fe9f0b701bb0eb07beb466818f9c495", func := "ringhall/ringlaw3.LiftOrders", spec := "liftOrders", unfollowed := true, recurses := true, plainKeys := false, apart := false, narrowed := true }
def LiftOrdersUptoSaid : Prop := liftOrdersUptoRow.holds Try.pinned (OpenSpec.upto liftOrdersSpec)

/-- 'ringlaw2.OomTells', WHERE WHAT IT READS IS OF BULK AT MOST 1048576: true; the input reads as it did. -/
def oomTellsUptoRow : OpenClaim := { program := "ytiaebagjcbkkgaa", sum := "8a3be8d3cb92c045c67d17fdd09f38012fe9f0b701bb0eb07beb466818f9c495", func := "ringhall/ringlaw2.OomTells", spec := "oomTells", unfollowed := true, recurses := true, plainKeys := false, apart := false, narrowed := true }
def OomTellsUptoSaid : Prop := oomTellsUptoRow.holds Try.pinned (OpenSpec.upto oomTellsSpec)

/-- 'ringlaw3.DiskPlays', WHERE WHAT IT READS IS OF BULK AT MOST 1048576: true; the input reads as it did. -/
def diskPlaysUptoRow : OpenClaim := { program := "ytiaebagjcbkkgaa", sum := "8a3be8d3cb92c045c67d17fdd09f38012fe9f0b701bb0eb07beb466818f9c495", func := "ringhall/ringlaw3.DiskPlays", spec := "diskPlays", inPlace := ["internal/abi.NoEscape", "internal/bytealg.MakeNoZero"], plainKeys := false, apart := false, narrowed := true }
def DiskPlaysUptoSaid : Prop := diskPlaysUptoRow.holds Try.pinned (OpenSpec.upto diskPlaysSpec)

/-- 'ringlaw5.CpuSteps', WHERE WHAT IT READS IS OF BULK AT MOST 1048576: true; the input reads as it did. -/
def cpuStepsUptoRow : OpenClaim := { program := "ytiaebagjcbkkgaa", sum := "8a3be8d3cb92c045c67d17fdd09f38012fe9f0b701bb0eb07beb466818f9c495", func := "ringhall/ringlaw5.CpuSteps", spec := "cpuSteps", unfollowed := true, recurses := true, plainKeys := false, apart := false, narrowed := true }
def CpuStepsUptoSaid : Prop := cpuStepsUptoRow.holds Try.pinned (OpenSpec.upto cpuStepsSpec)

end Rows
end Go.Proofs.Ytiaebagjcbkkgaa
