/- Typed values: codes, what they stand for, and what they are in a frame. -/
import Derived.Test.YtmjkechkdfobgaaSb
namespace Go.Proofs.Ytmjkechkdfobgaa.pv
set_option linter.all false
open Go.RowKit

inductive Step where
  | f (k o : Nat)
  | x (n s : Nat)
inductive Ty where
  | i (k : IntKind)
  | bl
  | str
  | un
  | pr (a b : Ty)
  | ar (n : Nat) (t : Ty)
  | sl (t : Ty)
  | ns
  | nz (z : Z)
  | vp (g : Nat)
  | np (g : Nat) (p : List Step)
  | vm (g : Nat)
  | rf (l : Nat) (p : List Step)
  | ep (l s : Nat) (p : List Step)
  | dp (t : Ty) (p : List Step)
  | sr (l : Nat)
  | ss (l s : Nat)
  | as (l : Nat) (p : List Step) (n s : Nat) (ag : Bool)
  | cl (f : FuncId) (t : Ty)
  | ic (tid : Nat) (t : Ty)
  | tp (t : Ty)
  | mc (a b : Ty)
  | sm (a b : Ty)
  | ud
  | dead
def denP : List Step → Type
  | [] => Unit
  | .f _ _ :: p => denP p
  | .x n _ :: p => Fin n × denP p
def Ar (n : Nat) (α : Type) : Type := {xs : List α // xs.length = n}
def Ty.den : Ty → Type
  | .i _ => Int
  | .bl => Bool
  | .str => List UInt8
  | .un => Unit
  | .pr a c => a.den × c.den
  | .ar n t => Ar n t.den
  | .sl t => List t.den
  | .ns => Unit
  | .nz _ => Unit
  | .vp _ => Option Nat
  | .np _ p => Nat × denP p
  | .vm _ => Option Nat
  | .rf _ p => denP p
  | .ep _ _ p => Nat × denP p
  | .dp t p => t.den × denP p
  | .sr _ => Unit
  | .ss _ _ => Nat × Nat
  | .as _ p _ _ _ => denP p × Nat × Nat
  | .cl _ t => t.den
  | .ic _ t => t.den
  | .tp t => t.den
  | .mc a b => List (a.den × b.den)
  | .sm a b => a.den ⊕ b.den
  | .ud => Unit
  | .dead => Unit
structure XV where
  t : Ty
  x : t.den
def p1 {a c : Ty} (x : (Ty.pr a c).den) : a.den := Prod.fst x
def p2 {a c : Ty} (x : (Ty.pr a c).den) : c.den := Prod.snd x
def pmk {a c : Ty} (x : a.den) (y : c.den) : (Ty.pr a c).den := Prod.mk x y
def gA {n : Nat} {α : Type} (x : Ar n α) (j : Fin n) : α := x.1.get ⟨j.1, by rw [x.2]; exact j.2⟩
def sA {n : Nat} {α : Type} (x : Ar n α) (j : Fin n) (v : α) : Ar n α := ⟨x.1.set j.1 v, by rw [List.length_set]; exact x.2⟩
def nA (n : Nat) {α : Type} (v : α) : Ar n α := ⟨List.replicate n v, List.length_replicate⟩
def dd : XV := ⟨.dead, ()⟩
def Ty.agg : Ty → Bool
  | .pr _ _ | .un | .ar _ _ => true
  | _ => false
/-- how many cells -/
def Ty.sz : Ty → Nat
  | .pr a b => a.sz + b.sz
  | .un => 0
  | .ar n t => n * t.sz
  | _ => 1
/-- where a pointer of such steps leads to, in cells -/
def offP : (p : List Step) → denP p → Nat
  | [], _ => 0
  | .f _ o :: p, d => o + offP p d
  | .x n s :: p, d => (Prod.fst (α := Fin n) (β := denP p) d).1 * s + offP p (Prod.snd (α := Fin n) (β := denP p) d)
def ofL (x : List UInt8) : ByteArray := ⟨x.toArray⟩
structure Rp where
  cells : List FV
  fv : FV
  parts : List FV
  pcs : List PV
  pv : PV
def Rp.one (x : FV) : Rp := ⟨[x], x, [], [], .v .nilFunc⟩
def Rp.dat (x : PV) : Rp := ⟨[.d x], .d x, [], [x], x⟩
def rep : (t : Ty) → t.den → Rp
  | .i k, x => .dat (.v (.int k x))
  | .bl, x => .dat (.v (.bool x))
  | .str, x => .dat (.v (.string (ofL x)))
  | .un, _ => ⟨[], .d (.agg []), [], [], .agg []⟩
  | .pr a b, x => ⟨(rep a (p1 x)).cells ++ (rep b (p2 x)).cells, mkAgg ((rep a (p1 x)).cells ++ (rep b (p2 x)).cells), (rep a (p1 x)).fv :: (rep b (p2 x)).parts, (rep a (p1 x)).pcs ++ (rep b (p2 x)).pcs, .agg ((rep a (p1 x)).pcs ++ (rep b (p2 x)).pcs)⟩
  | .ar n t, x => ⟨(Subtype.val (α := List t.den) x).flatMap fun y => (rep t y).cells, mkAgg ((Subtype.val (α := List t.den) x).flatMap fun y => (rep t y).cells), [], (Subtype.val (α := List t.den) x).flatMap fun y => (rep t y).pcs, .agg ((Subtype.val (α := List t.den) x).flatMap fun y => (rep t y).pcs)⟩
  | .sl t, x => .dat (.sl (List.map (fun y => (rep t y).pv) x))
  | .ns, _ => .dat vnil
  | .nz z, _ => .dat z.pv
  | .vp g, x => match (show Option Nat from x) with
    | some i => .dat (.vp g i 0)
    | none => .dat (.v (.pointer none))
  | .np g p, x => .dat (.vp g (Prod.fst (α := Nat) (β := denP p) x) (offP p (Prod.snd (α := Nat) (β := denP p) x)))
  | .vm g, x => match (show Option Nat from x) with
    | some i => .dat (.vm g i)
    | none => .dat (.v (.map none))
  | .rf l p, x => .one (.ref l (offP p x))
  | .ep l s p, x => .one (.ept l s (Prod.fst (α := Nat) (β := denP p) x) (offP p (Prod.snd (α := Nat) (β := denP p) x)))
  | .dp t p, x => .dat (.iptr (rep t (Prod.fst (α := t.den) (β := denP p) x)).pcs (offP p (Prod.snd (α := t.den) (β := denP p) x)))
  | .sr l, _ => .one (.srf l)
  | .ss l s, x => .one (.ssl l (Prod.fst (α := Nat) (β := Nat) x) (Prod.snd (α := Nat) (β := Nat) x) s)
  | .as l p n s ag, x => .one (.asl l (offP p (Prod.fst (α := denP p) (β := Nat × Nat) x) + (Prod.snd (α := denP p) (β := Nat × Nat) x).1 * s) ((Prod.snd (α := denP p) (β := Nat × Nat) x).2 - (Prod.snd (α := denP p) (β := Nat × Nat) x).1) (n - (Prod.snd (α := denP p) (β := Nat × Nat) x).1) s ag)
  | .cl f t, x => ⟨[mkClo f (rep t x).cells], mkClo f (rep t x).cells, [], [.clo f (rep t x).pcs], .clo f (rep t x).pcs⟩
  | .ic tid t, x => .one (.ifc tid (rep t x).fv)
  | .tp t, x => ⟨[], .tup (rep t x).parts, [], [], .v .nilFunc⟩
  | .mc _ _, _ => ⟨[], .dead, [], [], .v .nilFunc⟩
  | .sm _ _, _ => ⟨[], .dead, [], [], .v .nilFunc⟩
  | .ud, _ => ⟨[], .d (.tup []), [], [], .v .nilFunc⟩
  | .dead, _ => ⟨[], .dead, [], [], .v .nilFunc⟩
def XV.rep (v : XV) : Rp := pv.rep v.t v.x
def XV.fv (v : XV) : FV := v.rep.fv
def XV.cells (v : XV) : List FV := v.rep.cells
/-- data: no reference to a private object in it -/
def Ty.dat : Ty → Bool
  | .i _ | .bl | .str | .un | .ns | .nz _ | .vp _ | .np _ _ | .vm _ => true
  | .pr a b => a.dat && b.dat
  | .ar _ t => t.dat
  | .sl t => t.dat
  | .dp t _ => t.dat
  | .cl _ t => t.dat
  | _ => false
/-- a value that lies in cells -/
def Ty.cel : Ty → Bool
  | .pr a b => a.cel && b.cel
  | .ar _ t => t.cel
  | .tp _ | .mc _ _ | .sm _ _ | .ud | .dead => false
  | _ => true
end Go.Proofs.Ytmjkechkdfobgaa.pv
