/- Small lemmas of my own, over any program: endings, worlds, blocks, the bit operations of int on small numbers. -/
import Derived.Test.YtocchemnfpnmeaaDoorRows
import Derived.WalkKit
import Derived.ProofKit
import Derived.OpenShut
import Derived.Below
import Derived.ShutString
import Derived.ChangeOld
import Derived.Laws.BitsAllLaws
import Derived.Laws.Rows
import Derived.Deep.RegionHeld
import Derived.Deep.QuietTactic
import Derived.BigQuiet
import Derived.Lib.Hide
import Derived.WalkSpells
import Derived.Outline
namespace Go.Proofs.YtocchemnfpnmeaaDoor.help
set_option linter.all false
open Go.RowKit
def Ret (v:Value) (w:World) (e:Ending) (w':World):Prop:=e=.returned v∧Below w.heap.size w w'
def Blk (w:World) (b:Nat) (cs:Array Value):Prop:=∃ t,w.heap[b]?=some (.cells cs t (0,0))
theorem Blk.lt {w:World} {b:Nat} {cs:Array Value} (h:Blk w b cs):b<w.heap.size:=by
 obtain ⟨t,h⟩:=h; exact (Array.getElem?_eq_some_iff.1 h).1
def aggT (P:Program) (ty:TypeId):Bool:=match P.underlying ty with | some (.struct _) | some (.array _ _)=>true | _=>false
structure LaterW (w:World) where
 val:World
 prop:Below w.heap.size w val
instance (w:World):Nonempty (LaterW w):=⟨⟨w,Below.refl _ _⟩⟩
end Go.Proofs.YtocchemnfpnmeaaDoor.help
