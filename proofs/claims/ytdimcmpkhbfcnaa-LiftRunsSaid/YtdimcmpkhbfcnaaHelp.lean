/- Small lemmas of my own, over any program: endings, worlds, blocks, the bit operations of int on small numbers. -/
import Derived.Test.YtdimcmpkhbfcnaaRows
import Derived.WalkKit
import Derived.ProofKit
import Derived.OpenShut
import Derived.Below
import Derived.ShutString
import Derived.ChangeOld
import Derived.Laws.BitsAllLaws
import Derived.Laws.Rows
import Derived.Deep.RegionHeld
import Derived.Deep.QuietTactic
import Derived.BigQuiet
import Derived.Lib.Hide
import Derived.WalkSpells
import Derived.Outline
namespace Go.Proofs.Ytdimcmpkhbfcnaa.help
set_option linter.all false
open Go.RowKit
/-- the call returns v and changes nothing that was there -/
def Ret (v : Value) (w : World) (e : Ending) (w' : World) : Prop := e = .returned v ∧ Below w.heap.size w w'
/-- block b of the world holds these cells, none of them frozen -/
def Blk (w : World) (b : Nat) (cs : Array Value) : Prop := ∃ t, w.heap[b]? = some (.cells cs t (0, 0))
def aggT (P : Program) (ty : TypeId) : Bool := match P.underlying ty with | some (.struct _) | some (.array _ _) => true | _ => false
/-- a later world, in which nothing that was there has changed -/
structure LaterW (w : World) where
  val : World
  prop : Below w.heap.size w val
instance (w : World) : Nonempty (LaterW w) := ⟨⟨w, Below.refl _ _⟩⟩
end Go.Proofs.Ytdimcmpkhbfcnaa.help
