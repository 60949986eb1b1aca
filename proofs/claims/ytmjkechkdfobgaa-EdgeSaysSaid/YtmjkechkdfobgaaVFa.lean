/- Short words for what g4.py prints. -/
import Derived.Test.YtmjkechkdfobgaaVF
namespace Go.Proofs.Ytmjkechkdfobgaa.pv
set_option linter.all false
open Go.RowKit
/-- maps by keys that are numbers -/
def mlI {ν : Type} (D : List (Int × ν)) (k : Int) : Option ν := mlook (κ := Int) (eqT (.i .i64)) D k
def mpI {ν : Type} (D : List (Int × ν)) (k : Int) (v : ν) : List (Int × ν) := mput (κ := Int) (eqT (.i .i64)) D k v
def mdI {ν : Type} (D : List (Int × ν)) (k : Int) : List (Int × ν) := mdel (κ := Int) (eqT (.i .i64)) D k
def za (a b : List Z) : List Z := a ++ b
def zr (n : Nat) (l : List Z) : List Z := (List.replicate n l).flatten
def al2 {β : Type} : List (Nat × Nat × β) → Nat → Nat → Option β
  | [], _, _ => none
  | (a, b, x) :: r, i, j => bif Nat.beq a i && Nat.beq b j then some x else al2 r i j
end Go.Proofs.Ytmjkechkdfobgaa.pv
