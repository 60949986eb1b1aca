/-
  No cell of these rows narrows 'for every input' (looked for: loops, veiled, ifaces, maps, wideKeys, modest, calm, conditions, laid).
  DERIVED. THE GIVEN ROWS OF THIS SEAT. 4 by the template 'for every input the law returns true; each argument reads behind the call as it read before'; 0 by the template 'total and deterministic' (their statements: YtpeakaeblibfmaaTotals.lean).
  GIVEN WITH THE SEED: the statements are not yours to turn. If you find one false, say at which input.
  Laid BY PROGRAM, IN A SANDBOX (cutbox-rows.mjs): the forced cells as the released guide's own fill.sh prints them over the translation 8da2a4a39a73dce3… (all of the seat's roots in one cut). By AI agents, Wed Nov 11 2026. No macro, syntax, notation, axiom, sorry.
-/
import Derived.Test.YtpeakaeblibfmaaChecked
import GoSem.Claim
import GoSem.ClaimJoined
import GoSem.ClaimMapViews
import Derived.JoinedTies
import Derived.KernelRfl
namespace Go.Proofs.Ytpeakaeblibfmaa
/- THE CELL 'sum', in the pinned program and in every row, IS THE sha256 OF THE DUMP (.gsa) THAT YtpeakaeblibfmaaProg.lean LOADS. Nothing in Lean hashes anything: it is a label: what it is worth is what the hold of that sum in a sandbox is worth. -/
noncomputable def Try.pinned : Pinned := { name := "ytpeakaeblibfmaa", sum := "8da2a4a39a73dce3ce53a66d4716ede566b5f0fc413d673f6128d9577ec2ddf5", checked := Try.checked }
namespace Rows
def none {H : Type} : Left H := { results := [], args := [] }

/-- 'ringlaw2.CowTells': WHATEVER THE INPUT: true; the input reads as it did. -/
def cowTellsSpec : ChangeSpec := { name := "cowTells", fn := fun _ => fun
  | [d1, d2, d3, d4] => { results := [.lit (.bool true)], args := [d1, d2, d3, d4] }
  | _ => none }
def cowTellsRow : OpenClaim := { program := "ytpeakaeblibfmaa", sum := "8da2a4a39a73dce3ce53a66d4716ede566b5f0fc413d673f6128d9577ec2ddf5", func := "ringhall/ringlaw2.CowTells", spec := "cowTells", apart := false }
def CowTellsSaid : Prop := cowTellsRow.holds Try.pinned (OpenSpec.ofChange cowTellsSpec)

/-- ITS FALSE NEIGHBOUR: 'it returns false'. Refute it at one input. -/
def cowTellsWrong : ChangeSpec := { name := "cowTells", fn := fun _ => fun
  | [d1, d2, d3, d4] => { results := [.lit (.bool false)], args := [d1, d2, d3, d4] }
  | _ => none }
def CowTellsWrongFalsely : Prop := cowTellsRow.holds Try.pinned (OpenSpec.ofChange cowTellsWrong)

/-- 'ringlaw2.TlbTells': WHATEVER THE INPUT: true; the input reads as it did. -/
def tlbTellsSpec : ChangeSpec := { name := "tlbTells", fn := fun _ => fun
  | [d1, d2, d3, d4, d5, d6, d7] => { results := [.lit (.bool true)], args := [d1, d2, d3, d4, d5, d6, d7] }
  | _ => none }
def tlbTellsRow : OpenClaim := { program := "ytpeakaeblibfmaa", sum := "8da2a4a39a73dce3ce53a66d4716ede566b5f0fc413d673f6128d9577ec2ddf5", func := "ringhall/ringlaw2.TlbTells", spec := "tlbTells", unfollowed := true, recurses := true, apart := false }
def TlbTellsSaid : Prop := tlbTellsRow.holds Try.pinned (OpenSpec.ofChange tlbTellsSpec)

/-- ITS FALSE NEIGHBOUR: 'it returns false'. Refute it at one input. -/
def tlbTellsWrong : ChangeSpec := { name := "tlbTells", fn := fun _ => fun
  | [d1, d2, d3, d4, d5, d6, d7] => { results := [.lit (.bool false)], args := [d1, d2, d3, d4, d5, d6, d7] }
  | _ => none }
def TlbTellsWrongFalsely : Prop := tlbTellsRow.holds Try.pinned (OpenSpec.ofChange tlbTellsWrong)

/-- 'ringlaw2.SlabTells': WHATEVER THE INPUT: true; the input reads as it did. -/
def slabTellsSpec : ChangeSpec := { name := "slabTells", fn := fun _ => fun
  | [d1, d2, d3, d4] => { results := [.lit (.bool true)], args := [d1, d2, d3, d4] }
  | _ => none }
def slabTellsRow : OpenClaim := { program := "ytpeakaeblibfmaa", sum := "8da2a4a39a73dce3ce53a66d4716ede566b5f0fc413d673f6128d9577ec2ddf5", func := "ringhall/ringlaw2.SlabTells", spec := "slabTells", inPlace := ["slices.overlaps[int]", "slices.overlaps[ringhall/slab.Box]"], unfollowed := true, recurses := true, apart := false }
def SlabTellsSaid : Prop := slabTellsRow.holds Try.pinned (OpenSpec.ofChange slabTellsSpec)

/-- ITS FALSE NEIGHBOUR: 'it returns false'. Refute it at one input. -/
def slabTellsWrong : ChangeSpec := { name := "slabTells", fn := fun _ => fun
  | [d1, d2, d3, d4] => { results := [.lit (.bool false)], args := [d1, d2, d3, d4] }
  | _ => none }
def SlabTellsWrongFalsely : Prop := slabTellsRow.holds Try.pinned (OpenSpec.ofChange slabTellsWrong)

/-- 'ringlaw2.TwinTells': WHATEVER THE INPUT: true; the input reads as it did. -/
def twinTellsSpec : ChangeSpec := { name := "twinTells", fn := fun _ => fun
  | [d1, d2, d3] => { results := [.lit (.bool true)], args := [d1, d2, d3] }
  | _ => none }
def twinTellsRow : OpenClaim := { program := "ytpeakaeblibfmaa", sum := "8da2a4a39a73dce3ce53a66d4716ede566b5f0fc413d673f6128d9577ec2ddf5", func := "ringhall/ringlaw2.TwinTells", spec := "twinTells", inPlace := ["slices.overlaps[ringhall/twin.Room]"], unfollowed := true, recurses := true, apart := false }
def TwinTellsSaid : Prop := twinTellsRow.holds Try.pinned (OpenSpec.ofChange twinTellsSpec)

/-- ITS FALSE NEIGHBOUR: 'it returns false'. Refute it at one input. -/
def twinTellsWrong : ChangeSpec := { name := "twinTells", fn := fun _ => fun
  | [d1, d2, d3] => { results := [.lit (.bool false)], args := [d1, d2, d3] }
  | _ => none }
def TwinTellsWrongFalsely : Prop := twinTellsRow.holds Try.pinned (OpenSpec.ofChange twinTellsWrong)

/- THE SECOND FORM. 'bulk': how many values and letters a reading holds, each counted each time it is reached (what is shared counts as often as it is met; a slice's spare places count too). A statement '..UptoSaid' is the law's where the arguments, and the package variables that the reading takes, are together of bulk at most 1048576: NARROWER than '..Said'. Prove '..Said' where nothing that the law and all that it calls make is longer than what came in: it says more and counts as full. Else prove '..UptoSaid'. A law counts once. -/
mutual
def uptoBulk {H : Type} : DataW H → Nat
  | .lit (.string bytes) => bytes.length + 1
  | .lit _ => 1
  | .nil => 1
  | .ptr d => uptoBulk d + 1
  | .slice elems spare => uptoBulkAll elems + uptoBulkAll spare + 1
  | .agg parts => uptoBulkAll parts + 1
  | .iface _ d => uptoBulk d + 1
  | .map entries => uptoBulkEntries entries + 1
  | .held _ => 1
def uptoBulkAll {H : Type} : List (DataW H) → Nat
  | [] => 0
  | d :: r => uptoBulk d + uptoBulkAll r
def uptoBulkEntries {H : Type} : List (Lit × DataW H) → Nat
  | [] => 0
  | x :: r => uptoBulkEntry x + uptoBulkEntries r
def uptoBulkEntry {H : Type} : Lit × DataW H → Nat
  | (.string bytes, d) => bytes.length + uptoBulk d + 1
  | (_, d) => uptoBulk d + 1
 end
def uptoSmall : (H : Type) → List (DataW H) → Bool := fun _ ds => decide (uptoBulkAll ds ≤ 1048576)
def OpenSpec.upto (s : _root_.Go.ChangeSpec) : _root_.Go.OpenSpec := { _root_.Go.OpenSpec.ofChange s with cond := some uptoSmall }

/-- 'ringlaw2.CowTells', WHERE WHAT IT READS IS OF BULK AT MOST 1048576: true; the input reads as it did. -/
def cowTellsUptoRow : OpenClaim := { program := "ytpeakaeblibfmaa", sum := "8da2a4a39a73dce3ce53a66d4716ede566b5f0fc413d673f6128d9577ec2ddf5", func := "ringhall/ringlaw2.CowTells", spec := "cowTells", apart := false, narrowed := true }
def CowTellsUptoSaid : Prop := cowTellsUptoRow.holds Try.pinned (OpenSpec.upto cowTellsSpec)

/-- 'ringlaw2.TlbTells', WHERE WHAT IT READS IS OF BULK AT MOST 1048576: true; the input reads as it did. -/
def tlbTellsUptoRow : OpenClaim := { program := "ytpeakaeblibfmaa", sum := "8da2a4a39a73dce3ce53a66d4716ede566b5f0fc413d673f6128d9577ec2ddf5", func := "ringhall/ringlaw2.TlbTells", spec := "tlbTells", unfollowed := true, recurses := true, apart := false, narrowed := true }
def TlbTellsUptoSaid : Prop := tlbTellsUptoRow.holds Try.pinned (OpenSpec.upto tlbTellsSpec)

/-- 'ringlaw2.SlabTells', WHERE WHAT IT READS IS OF BULK AT MOST 1048576: true; the input reads as it did. -/
def slabTellsUptoRow : OpenClaim := { program := "ytpeakaeblibfmaa", sum := "8da2a4a39a73dce3ce53a66d4716ede566b5f0fc413d673f6128d9577ec2ddf5", func := "ringhall/ringlaw2.SlabTells", spec := "slabTells", inPlace := ["slices.overlaps[int]", "slices.overlaps[ringhall/slab.Box]"], unfollowed := true, recurses := true, apart := false, narrowed := true }
def SlabTellsUptoSaid : Prop := slabTellsUptoRow.holds Try.pinned (OpenSpec.upto slabTellsSpec)

/-- 'ringlaw2.TwinTells', WHERE WHAT IT READS IS OF BULK AT MOST 1048576: true; the input reads as it did. -/
def twinTellsUptoRow : OpenClaim := { program := "ytpeakaeblibfmaa", sum := "8da2a4a39a73dce3ce53a66d4716ede566b5f0fc413d673f6128d9577ec2ddf5", func := "ringhall/ringlaw2.TwinTells", spec := "twinTells", inPlace := ["slices.overlaps[ringhall/twin.Room]"], unfollowed := true, recurses := true, apart := false, narrowed := true }
def TwinTellsUptoSaid : Prop := twinTellsUptoRow.holds Try.pinned (OpenSpec.upto twinTellsSpec)

end Rows
end Go.Proofs.Ytpeakaeblibfmaa
