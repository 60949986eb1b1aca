/- Structs and arrays of plain cells, compared. -/
import Derived.Test.YtocchemnfpnmeaaDoorQo
import Derived.Laws.StructEq
import Derived.ChangeKeysEq
namespace Go.Proofs.YtocchemnfpnmeaaDoor.pv
set_option linter.all false
open Go.RowKit
def mkv (T:List TI) (t:Nat) (xs:List Value):Option Value:=match tagg T t with
 | some true=>some (.agg xs.toArray)
 | some false=>(match xs with
  | [x]=>some x
  | _=>none)
 | none=>none
def okSt (P:Program) (t:Nat):Bool:=!(P.stoodInHeld t)&&((P.fieldsOf t).toList.all fun f=>f.name != "_")
def peqF (f:Nat→List Value→List Value→Option Bool) (T:List TI) (xs ys:List Value):List (Nat×Nat)→Option Bool
 | []=>some true
 | (o,ft)::r=>match tsz T ft with
  | some s=>bif Nat.ble (o+s) xs.length&&Nat.ble (o+s) ys.length then (match f ft ((xs.drop o).take s) ((ys.drop o).take s),peqF f T xs ys r with
   | some a,some b=>some (a&&b)
   | _,_=>none) else none
  | none=>none
def peqN (f:List Value→List Value→Option Bool) (s:Nat) (xs ys:List Value):List Nat→Option Bool
 | []=>some true
 | i::r=>bif Nat.ble (i*s+s) xs.length&&Nat.ble (i*s+s) ys.length then (match f ((xs.drop (i*s)).take s) ((ys.drop (i*s)).take s),peqN f s xs ys r with
  | some a,some b=>some (a&&b)
  | _,_=>none) else none
def peq (P:Program) (T:List TI):Nat→Nat→List Value→List Value→Option Bool
 | 0,_,_,_=>none
 | d+1,t,xs,ys=>match tk T t with
  | some .bool=>(match xs,ys with
   | [.bool a],[.bool b]=>some (a == b)
   | _,_=>none)
  | some .str=>(match xs,ys with
   | [.string a],[.string b]=>some (a == b)
   | _,_=>none)
  | some (.int _)=>(match xs,ys with
   | [.int k a],[.int k' b]=>if k=k' then some (a == b) else none
   | _,_=>none)
  | some (.st l)=>bif okSt P t then peqF (peq P T d) T xs ys l else none
  | some (.arr n e)=>(match tsz T e with
   | some s=>peqN (peq P T d e) s xs ys (List.range n)
   | none=>none)
  | _=>none
section
variable {P:Program} {T:List TI}
def EqD (P:Program) (T:List TI) (d t:Nat) (xs ys:List Value) (z:Bool):Prop:=∀ (k:Nat),∃ x y,mkv T t xs=some x∧mkv T t ys=some y∧∀ w:World,(Op.equalIn (d+k) t x y).run P w=.ok z w
end
theorem bnt {x:Bool} (h:x=false):(!x)=true:=by rw [h]; rfl
theorem bnf {x:Bool} (h:x=true):(!x)=false:=by rw [h]; rfl
end Go.Proofs.YtocchemnfpnmeaaDoor.pv
