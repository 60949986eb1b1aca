/- The interpreter: states, operations. -/
import Derived.Test.YtnkdanobhgofbaaGreatDoorVABC
namespace Go.Proofs.YtnkdanobhgofbaaGreatDoor.pv
set_option linter.all false
open Go.RowKit

/-- kinds of objects: a variable, a slice's own row, a map, all variables or maps of a group -/
inductive OK where
  | no
  | bx (t : Ty)
  | rw (e s : Nat) (t : Ty)
  | mp (a b : Ty)
  | ab (g : Nat) (t : Ty)
  | am (g : Nat) (a b : Ty)
def OK.code : OK → Ty
  | .no => .un
  | .bx t => t
  | .rw _ _ t => .sl t
  | .mp a b => .mc a b
  | .ab _ t => .sl t
  | .am _ a b => .sl (.mc a b)
/-- what a loop over a map has: the map as it is while the loop runs (one's own, or one of a group), what is known of its entries in the machine (told by a ghost), and the loop itself: the map (its place, or its group), the entries that are left, the one at hand, the one that is to come -/
inductive EX where
  | gs
  | lk (a b : Ty) (lg : Nat) (D : List (a.den × b.den))
  | ah (g : Nat) (a b : Ty) (i lg : Nat) (Ds : List (List (a.den × b.den)))
  | it (a b : Ty) (own : Bool) (l lg : Nat) (rest : List (a.den × b.den)) (cur : Option (a.den × b.den)) (pl : Option (Option (a.den × b.den)))
inductive XO where
  | free
  | none
  | gh (k : Nat) (v : XV)
  | ob (o : OK) (x : o.code.den)
  | ex (e : EX)
/-- slots, objects, how many places for objects there are -/
structure XS where
  f : List (Nat × XV)
  m : List (Nat × XO)
  n : Nat
def look : List (Nat × XV) → Nat → XV
  | [], _ => dd
  | (k, v) :: r, i => bif Nat.beq k i then v else look r i
def lom : List (Nat × XO) → Nat → XO
  | [], _ => .free
  | (k, o) :: r, l => bif Nat.beq k l then o else lom r l
def cvX : Value → XV
  | .int k n => ⟨.i k, n⟩
  | .bool b => ⟨.bl, b⟩
  | .string s => ⟨.str, s.data.toList⟩
  | .slice none 0 0 => ⟨.ns, ()⟩
  | .pointer none => ⟨.nz .np, ()⟩
  | .map none => ⟨.nz .nm, ()⟩
  | .nilFunc => ⟨.nz .nf, ()⟩
  | .nilIface => ⟨.nz .ni, ()⟩
  | _ => dd
def evX (f : List (Nat × XV)) : Operand → XV
  | .tmp t => look f t
  | .const v => cvX v
  | .func g => ⟨.cl g .un, ()⟩
  | .global _ => dd
/-- silent steps: freeze a row or a variable, nil slices in a variable or a slot as empty ones (of such a code), a nil slice in a slot or in a variable's part as an empty row of one's own -/
inductive Sil where
  | fz (l : Nat)
  | fs (i : Nat)
  | fb (l : Nat)
  | nb (l : Nat) (c : Ty)
  | ns (i : Nat) (c : Ty)
  | th (i e s : Nat) (t : Ty)
  | tb (l k e s : Nat) (t : Ty)
  | nbs (i : Nat) (c : Ty)
  | tbs (i k e s : Nat) (t : Ty)
structure Cut where
  sil : List Sil
  live : List Nat
structure Pol where
  sil : List (Nat × List Sil)
  cut : List (Nat × Cut)
  lop : List (Nat × Cut)
  fin : List Sil
  mrg : List (Nat × Nat)
  bd : List Nat
  cp : List Nat
def alst {α : Type} : List (Nat × α) → Nat → Option α
  | [], _ => none
  | (k, v) :: r, i => bif Nat.beq k i then some v else alst r i
/-- what is told of a program: types, their codes, what functions hand back (beyond what their types say), where to cut -/
structure Env where
  P : Program
  T : List TI
  cd : Nat → Option Ty
  sg : FuncId → Nat → Option (List (Ty × List OK))
  pol : FuncId → Nat → Pol
  ara : FuncId → List Nat
  gb : Nat → Option Nat
  mpc : Nat → Option (Ty × Ty)
  con : FuncId → Bool
  lk : FuncId → Bool
  kp : FuncId → Nat → List Nat
def wi (k : IntKind) (x : Int) : Int := k.wrap x
def inb (j : Int) (n : Nat) : Bool := decide (0 ≤ j) && Nat.blt j.toNat n
theorem inb_lt {j : Int} {n : Nat} (h : inb j n = true) : j.toNat < n := by
  unfold inb at h; simp at h; exact h.2
theorem inb_le {j : Int} {n : Nat} (h : inb j n = true) : 0 ≤ j ∧ j < n := by
  unfold inb at h; simp at h; omega
/-- a bound that a slice may have -/
def slOk (i h : Int) (n : Nat) : Bool := decide (0 ≤ i) && decide (i ≤ h) && decide (h ≤ n)
def lenOk (n b : Nat) : Bool := Nat.ble n maxLen && Nat.ble (n * b) 140737488355328
def mkOk (j : Int) (b : Nat) : Bool := decide (0 ≤ j) && Nat.ble j.toNat maxLen && Nat.ble (b * j.toNat) 281474976710656
def lget {α : Type} (xs : List α) (i : Nat) : Option α := xs[i]?
def lset {α : Type} (xs : List α) (i : Nat) (v : α) : List α := xs.set i v
def oc {α β : Type} (o : Option β) (n : Option α) (s : β → Option α) : Option α := match o with
  | some y => s y
  | none => n
/-- maps: entries, each key once -/
def mlook {κ ν : Type} (eq : κ → κ → Bool) : List (κ × ν) → κ → Option ν
  | [], _ => none
  | (k, v) :: r, x => bif eq k x then some v else mlook eq r x
/-- in the order of the keys: a map's entries are told in one way alone -/
def mput {κ ν : Type} (lt eq : κ → κ → Bool) : List (κ × ν) → κ → ν → List (κ × ν)
  | [], x, y => [(x, y)]
  | (k, v) :: r, x, y => bif eq k x then (k, y) :: r else bif lt x k then (x, y) :: (k, v) :: r else (k, v) :: mput lt eq r x y
def mdel {κ ν : Type} (eq : κ → κ → Bool) : List (κ × ν) → κ → List (κ × ν)
  | [], _ => []
  | (k, v) :: r, x => bif eq k x then r else (k, v) :: mdel eq r x
/-- are two alike? -/
def eqT : (t : Ty) → t.den → t.den → Bool
  | .i _, x, y => (show Int from x) == (show Int from y)
  | .bl, x, y => (show Bool from x) == (show Bool from y)
  | .str, x, y => (show List UInt8 from x) == (show List UInt8 from y)
  | .un, _, _ => true
  | .pr a b, x, y => eqT a (p1 x) (p1 y) && eqT b (p2 x) (p2 y)
  | .ar _ t, x, y => eqL (eqT t) (Subtype.val (α := List t.den) x) (Subtype.val (α := List t.den) y)
  | .vp _, x, y => (show Option Nat from x) == (show Option Nat from y)
  | _, _, _ => false
where eqL {α : Type} (f : α → α → Bool) : List α → List α → Bool
  | [], [] => true
  | x :: xs, y :: ys => f x y && eqL f xs ys
  | _, _ => false
def ltB : List UInt8 → List UInt8 → Bool
  | [], [] => false
  | [], _ :: _ => true
  | _ :: _, [] => false
  | x :: r, y :: t => bif x == y then ltB r t else decide (x.toNat < y.toNat)
/-- which key comes first -/
def ltT : (t : Ty) → t.den → t.den → Bool
  | .i _, x, y => decide ((show Int from x) < (show Int from y))
  | .str, x, y => ltB x y
  | _, _, _ => false
/-- a map's key -/
def Ty.ky : Ty → Bool
  | .i _ | .str => true
  | _ => false
/-- may it be compared so (and be a map's key)? -/
def Ty.eqs : Ty → Bool
  | .i _ | .bl | .str | .un => true
  | .pr a b => a.eqs && b.eqs
  | .ar _ t => t.eqs
  | _ => false
/-- a type's zero value: its code -/
def zcd : Ty → Ty
  | .sl _ => .ns
  | .pr a b => .pr (zcd a) (zcd b)
  | .ar n t => .ar n (zcd t)
  | t => t
/-- the codes that a zero value may have -/
def Ty.zok : Ty → Bool
  | .i _ | .bl | .str | .un | .sl _ | .ns | .nz _ | .vp _ | .vm _ => true
  | .pr a b => a.zok && b.zok
  | .ar _ t => t.zok
  | _ => false
def zP : (p : List Step) → Option (denP p)
  | [] => some ()
  | .f _ _ :: p => zP p
  | .x n _ :: p => if h : 0 < n then (match zP p with | some d => some (Prod.mk (⟨0, h⟩ : Fin n) d) | none => none) else none
def zv : (t : Ty) → t.zok = true → (zcd t).den
  | .i _, _ => (0 : Int)
  | .bl, _ => false
  | .str, _ => ([] : List UInt8)
  | .un, _ => ()
  | .pr a b, h => pmk (zv a (by simp [Ty.zok] at h; exact h.1)) (zv b (by simp [Ty.zok] at h; exact h.2))
  | .ar n t, h => nA n (zv t h)
  | .sl _, _ => ()
  | .ns, _ => ()
  | .nz _, _ => ()
  | .vp _, _ => (none : Option Nat)
  | .vm _, _ => (none : Option Nat)
/-- a type's zero value as data -/
def zd : (t : Ty) → t.zok = true → t.den
  | .i _, _ => (0 : Int)
  | .bl, _ => false
  | .str, _ => ([] : List UInt8)
  | .un, _ => ()
  | .pr a b, h => pmk (zd a (by simp [Ty.zok] at h; exact h.1)) (zd b (by simp [Ty.zok] at h; exact h.2))
  | .ar n t, h => nA n (zd t h)
  | .sl t, _ => ([] : List t.den)
  | .ns, _ => ()
  | .nz _, _ => ()
  | .vp _, _ => (none : Option Nat)
  | .vm _, _ => (none : Option Nat)
/-- nothing is nil for good in it, of slices -/
def Ty.zdk : Ty → Bool
  | .ns => false
  | .nz .sl => false
  | .pr a b => a.zdk && b.zdk
  | .ar _ t => t.zdk
  | _ => true
/-- the zero value's cells -/
def zl : Ty → List Z
  | .i k => [.i k]
  | .bl => [.b]
  | .str => [.s]
  | .pr a b => zl a ++ zl b
  | .ar n t => (List.replicate n (zl t)).flatten
  | .sl _ | .ns => [.sl]
  | .nz z => [z]
  | .vp _ => [.np]
  | .vm _ => [.nm]
  | _ => []
def zEqL : List Z → List Z → Bool
  | [], [] => true
  | x :: xs, y :: ys => zEq x y && zEqL xs ys
  | _, _ => false
/-- a type's code is right -/
def cdB (T : List TI) (t : Nat) (c : Ty) : Bool := match T[t]? with
  | some ti => zEqL ti.zero (zl c) && !ti.zero.isEmpty && (ti.kind.agg == c.agg) && Nat.beq ti.size c.sz
  | none => false
def zX (t : Ty) : Option XV := if h : t.zok = true then some ⟨zcd t, zv t h⟩ else none
/-- the same value as data: what is nil becomes an empty slice -/
def cvN : (t u : Ty) → t.den → Option u.den
  | .pr a b, .pr c d, x => match cvN a c (p1 x), cvN b d (p2 x) with
    | some y, some z => some (pmk y z)
    | _, _ => none
  | .ns, .sl t, _ => some ([] : List t.den)
  | t, u, x => conv t u x
/-- new names for places -/
def rnT (g : Nat → Nat) : Ty → Ty
  | .pr a b => .pr (rnT g a) (rnT g b)
  | .rf l p => .rf (g l) p
  | .ep l s p => .ep (g l) s p
  | .sr l => .sr (g l)
  | .ss l s => .ss (g l) s
  | .as l p n s ag => .as (g l) p n s ag
  | .cl f t => .cl f (rnT g t)
  | .ic i t => .ic i (rnT g t)
  | .tp t => .tp (rnT g t)
  | t => t
def rnX (g : Nat → Nat) : (t : Ty) → t.den → (rnT g t).den
  | .pr a b, x => pmk (rnX g a (p1 x)) (rnX g b (p2 x))
  | .rf _ _, x => x
  | .ep _ _ _, x => x
  | .sr _, x => x
  | .ss _ _, x => x
  | .as _ _ _ _ _, x => x
  | .cl _ t, x => rnX g t x
  | .ic _ t, x => rnX g t x
  | .tp t, x => rnX g t x
  | .i _, x | .bl, x | .str, x | .un, x | .ar _ _, x | .sl _, x | .ns, x | .nz _, x | .vp _, x | .np _ _, x | .vm _, x | .dp _ _, x | .mc _ _, x | .sm _ _, x | .ud, x | .dead, x => x
def rnV (g : Nat → Nat) (v : XV) : XV := ⟨rnT g v.t, rnX g v.t v.x⟩
def rnK (g : Nat → Nat) : OK → OK
  | .bx t => .bx (rnT g t)
  | o => o
def rnE (g : Nat → Nat) : EX → EX
  | .gs => .gs
  | .lk a b lg D => .lk a b (g lg) D
  | .ah q a b i lg Ds => .ah q a b i (g lg) Ds
  | .it a b own l lg rest cur pl => .it a b own (bif own then g l else l) (g lg) rest cur pl
def rnO (g : Nat → Nat) : XO → XO
  | .gh k v => .gh k (rnV g v)
  | .ex e => .ex (rnE g e)
  | .ob (.bx t) x => .ob (.bx (rnT g t)) (rnX g t x)
  | o => o
/-- the places that a value leads to -/
def locsT : Ty → List Nat
  | .pr a b => locsT a ++ locsT b
  | .rf l _ | .ep l _ _ | .sr l | .ss l _ | .as l _ _ _ _ => [l]
  | .cl _ t | .ic _ t | .tp t => locsT t
  | _ => []
/-- no reference in an array -/
def Ty.flt : Ty → Bool
  | .pr a b => a.flt && b.flt
  | .ar _ t => t.dat
  | .cl _ t | .ic _ t | .tp t => t.flt
  | _ => true
def locsE : EX → List Nat
  | .gs => []
  | .lk _ _ lg _ => [lg]
  | .ah _ _ _ _ lg _ => [lg]
  | .it _ _ own l lg _ _ _ => bif own then [l, lg] else [lg]
def memN (l : Nat) (ls : List Nat) : Bool := ls.any (Nat.beq l)
def reach (m : List (Nat × XO)) : Nat → List Nat → List Nat → List Nat
  | 0, acc, _ => acc
  | _, acc, [] => acc
  | n + 1, acc, l :: todo => bif memN l acc then reach m n acc todo else match lom m l with
    | .ob (.bx t) _ => reach m n (acc ++ [l]) (locsT t ++ todo)
    | .ob _ _ => reach m n (acc ++ [l]) todo
    | .ex e => reach m n (acc ++ [l]) (locsE e ++ todo)
    | _ => reach m n acc todo
def idxD (s : List Nat) (l : Nat) : Nat := match idx l s with
  | some j => j
  | none => 0
def kindsOf : List XO → List OK
  | [] => []
  | .ob o _ :: r => o :: kindsOf r
  | _ :: r => .no :: kindsOf r
/-- rows and maps that are handed over by a part of a variable alone are told anew when the call ends: behind all others, in the order in which variables lead to them -/
def isMv (kp ls : List Nat) (ks : List OK) (k : Nat) : Bool := match ks[k]? with
  | some (.rw _ _ _) | some (.mp _ _) => !memN k ls && !memN k kp
  | _ => false
def locsK : OK → List Nat
  | .bx t => locsT t
  | _ => []
def addL : List Nat → List Nat → List Nat
  | acc, [] => acc
  | acc, l :: r => bif memN l acc then addL acc r else addL (acc ++ [l]) r
def mvK (kp ls : List Nat) (ks : List OK) : List Nat := addL [] ((ks.flatMap locsK).filter (isMv kp ls ks))
def outK (kp ls : List Nat) (mv : List Nat) (h : Nat) (ks : List OK) : Nat → List OK → List OK
  | _, [] => []
  | k, o :: r => (bif isMv kp ls ks k then .no else match o with
    | .bx t => .bx (rnT (fun l => bif memN l mv then h + idxD mv l else l) t)
    | o => o) :: outK kp ls mv h ks (k + 1) r
def argL (E : Env) (g : FuncId) (vs : List XV) : List Nat := bif E.con g then [] else vs.flatMap fun v => locsT v.t
def ksOut (E : Env) (g : FuncId) (vs : List XV) (hs : List XO) : List OK := outK (E.kp g hs.length) (argL E g vs) (mvK (E.kp g hs.length) (argL E g vs) (kindsOf hs)) hs.length (kindsOf hs) 0 (kindsOf hs)
/-- a bundle of objects -/
def bun : List OK → Ty
  | [] => .un
  | .no :: r => bun r
  | o :: r => .pr o.code (bun r)
def unb : (os : List OK) → (bun os).den → List XO
  | [], _ => []
  | .no :: r, x => .none :: unb r x
  | .bx t :: r, x => .ob (.bx t) (p1 x) :: unb r (p2 x)
  | .rw e s t :: r, x => .ob (.rw e s t) (p1 x) :: unb r (p2 x)
  | .mp a b :: r, x => .ob (.mp a b) (p1 x) :: unb r (p2 x)
  | .ab g t :: r, x => .ob (.ab g t) (p1 x) :: unb r (p2 x)
  | .am g a b :: r, x => .ob (.am g a b) (p1 x) :: unb r (p2 x)
/-- what a function may hand back: the result's code, new objects -/
def altsOf (E : Env) (g : FuncId) (nh : Nat) : List (Ty × List OK) := match E.sg g nh with
  | some x => x
  | none => []
def altC (ks : List OK) : List (Ty × List OK) → Ty
  | [] => .un
  | (rt, new) :: r => match r with
    | [] => .pr rt (bun (ks ++ new))
    | _ :: _ => .sm (.pr rt (bun (ks ++ new))) (altC ks r)
/-- what a function never changes of what was handed over is not told -/
def dropK (kp : List Nat) : Nat → List OK → List OK
  | _, [] => []
  | k, o :: r => (bif memN k kp then .no else o) :: dropK kp (k + 1) r
def ksR (E : Env) (g : FuncId) (ks : List OK) : List OK := dropK (E.kp g ks.length) 0 ks
def outC (E : Env) (g : FuncId) (vs : List XV) (hs : List XO) : Ty := altC (ksR E g (ksOut E g vs hs)) (altsOf E g (ksOut E g vs hs).length)
/-- which of them it is -/
def altK {α : Type} (ks : List OK) : (as : List (Ty × List OK)) → (altC ks as).den → ((rt : Ty) → (new : List OK) → (Ty.pr rt (bun (ks ++ new))).den → Option α) → Option α
  | [], _, _ => none
  | (rt, new) :: [], x, K => K rt new x
  | (rt, new) :: b :: r, x, K => match (show (Ty.pr rt (bun (ks ++ new))).den ⊕ (altC ks (b :: r)).den from x) with
    | .inl y => K rt new y
    | .inr z => altK ks (b :: r) z K
abbrev CallT (E : Env) := (g : FuncId) → (vs : List XV) → (hs : List XO) → Option (outC E g vs hs).den
section
variable {α : Type}
def xbin (op : BinOp) (k : IntKind) (a b : Int) : Option XV :=
  match op with
  | .add => some ⟨.i k, wi k (a + b)⟩
  | .sub => some ⟨.i k, wi k (a - b)⟩
  | .mul => some ⟨.i k, wi k (a * b)⟩
  | .and => some ⟨.i k, bits .and k a b⟩
  | .or => some ⟨.i k, bits .or k a b⟩
  | .xor => some ⟨.i k, bits .xor k a b⟩
  | .andNot => some ⟨.i k, bits .andNot k a b⟩
  | .eql => some ⟨.bl, a == b⟩
  | .neq => some ⟨.bl, a != b⟩
  | .lss => some ⟨.bl, decide (a < b)⟩
  | .leq => some ⟨.bl, decide (a ≤ b)⟩
  | .gtr => some ⟨.bl, decide (a > b)⟩
  | .geq => some ⟨.bl, decide (a ≥ b)⟩
  | _ => none
def strLe (a b : List UInt8) : Bool := Op.bytesLess a b || a == b
def xbinS (op : BinOp) (a b : List UInt8) : Option XV :=
  match op with
  | .eql => some ⟨.bl, a == b⟩
  | .neq => some ⟨.bl, !(a == b)⟩
  | .lss => some ⟨.bl, Op.bytesLess a b⟩
  | .leq => some ⟨.bl, strLe a b⟩
  | .gtr => some ⟨.bl, !strLe a b⟩
  | .geq => some ⟨.bl, !Op.bytesLess a b⟩
  | _ => none
abbrev KT (α : Type) := XV → List (Nat × XO) → List Nat → Option α
def mkRf (l : Nat) (p : List Step) (d : denP p) : XV := ⟨.rf l p, d⟩
def mkEp (l s : Nat) (p : List Step) (i : Nat) (d : denP p) : XV := ⟨.ep l s p, Prod.mk i d⟩
def mkDp (t : Ty) (p : List Step) (x : t.den) (d : denP p) : XV := ⟨.dp t p, Prod.mk x d⟩
def mkNp (g : Nat) (p : List Step) (i : Nat) (d : denP p) : XV := ⟨.np g p, Prod.mk i d⟩
def addF (k o : Nat) : (p : List Step) → denP p → denP (p ++ [.f k o])
  | [], _ => ()
  | .f _ _ :: p, d => addF k o p d
  | .x n _ :: p, d => Prod.mk (Prod.fst (α := Fin n) (β := denP p) d) (addF k o p (Prod.snd (α := Fin n) (β := denP p) d))
def addI (n s : Nat) (e : Fin n) : (p : List Step) → denP p → denP (p ++ [.x n s])
  | [], _ => Prod.mk e ()
  | .f _ _ :: p, d => addI n s e p d
  | .x n' _ :: p, d => Prod.mk (Prod.fst (α := Fin n') (β := denP p) d) (addI n s e p (Prod.snd (α := Fin n') (β := denP p) d))
def asI : XV → Option (IntKind × Int)
  | ⟨.i k, x⟩ => some (k, x)
  | _ => none
/-- may a value of this code be loaded at this type? -/
def ldOk (T : List TI) (t : Nat) (c : Ty) : Bool := match tagg T t with
  | some true => c.agg && (match tsz T t with | some s => Nat.beq s c.sz | none => false)
  | some false => !c.agg && c.cel
  | none => false
/-- the group's object -/
def findB (g : Nat) : List (Nat × XO) → Option Nat
  | [] => none
  | (l, .ob (.ab g' _) _) :: r => bif Nat.beq g g' then some l else findB g r
  | (l, .ob (.am g' _ _) _) :: r => bif Nat.beq g g' then some l else findB g r
  | _ :: r => findB g r
def getB (m : List (Nat × XO)) (g : Nat) : Option (Nat × (t : Ty) × List t.den) := match findB g m with
  | some l => (match lom m l with
    | .ob (.ab g' t) xs => bif Nat.beq g g' then some (l, ⟨t, xs⟩) else none
    | _ => none)
  | none => none
def getM (m : List (Nat × XO)) (g : Nat) : Option (Nat × (a b : Ty) × List (List (a.den × b.den))) := match findB g m with
  | some l => (match lom m l with
    | .ob (.am g' a b) xs => bif Nat.beq g g' then some (l, ⟨a, b, xs⟩) else none
    | _ => none)
  | none => none
def xLoad (T : List TI) (m : List (Nat × XO)) (t : Nat) (v : XV) (K : KT α) : Option α := match v with
  | ⟨.rf l p, d⟩ => (match lom m l with
    | .ob (.bx c) x => (match getP p d ⟨c, x⟩ with
      | some r => bif ldOk T t r.t && c.cel then K r [] [l] else none
      | none => none)
    | _ => none)
  | ⟨.dp c p, d⟩ => (match getP p (Prod.snd (α := c.den) (β := denP p) d) ⟨c, Prod.fst (α := c.den) (β := denP p) d⟩ with
    | some r => bif ldOk T t r.t && c.dat then K r [] [] else none
    | none => none)
  | ⟨.ep l s p, d⟩ => (match lom m l with
    | .ob (.rw _ s' c) xs => bif Nat.beq s s' && Nat.beq s c.sz && c.dat then (lget (α := c.den) xs (Prod.fst (α := Nat) (β := denP p) d)).bind fun y => (match getP p (Prod.snd (α := Nat) (β := denP p) d) ⟨c, y⟩ with
      | some r => bif ldOk T t r.t then K r [] [l] else none
      | none => none) else none
    | _ => none)
  | ⟨.np g p, d⟩ => (match getB m g with
    | some (l, ⟨c, xs⟩) => (lget (α := c.den) xs (Prod.fst (α := Nat) (β := denP p) d)).bind fun y => (match getP p (Prod.snd (α := Nat) (β := denP p) d) ⟨c, y⟩ with
      | some r => bif ldOk T t r.t && c.dat then K r [] [l] else none
      | none => none)
    | none => none)
  | _ => none
def xStore (T : List TI) (m : List (Nat × XO)) (t : Nat) (v u : XV) (K : KT α) : Option α := bif u.t.cel && (match tsz T t with | some s => Nat.beq s u.t.sz | none => false) then (match v with
  | ⟨.rf l p, d⟩ => (match lom m l with
    | .ob (.bx c) x => (match getP p d ⟨c, x⟩, setP p d ⟨c, x⟩ u with
      | some _, some r => bif c.cel then K dd [(l, .ob (.bx r.t) r.x)] [l] else none
      | _, _ => none)
    | _ => none)
  | ⟨.ep l s p, d⟩ => (match lom m l with
    | .ob (.rw e s' c) xs => bif Nat.beq s s' && Nat.beq s c.sz && c.dat && u.t.dat then (lget (α := c.den) xs (Prod.fst (α := Nat) (β := denP p) d)).bind fun y => (match getP p (Prod.snd (α := Nat) (β := denP p) d) ⟨c, y⟩, setP p (Prod.snd (α := Nat) (β := denP p) d) ⟨c, y⟩ u with
      | some _, some r => (match conv r.t c r.x with
        | some z => K dd [(l, .ob (.rw e s' c) (lset (α := c.den) xs (Prod.fst (α := Nat) (β := denP p) d) z))] [l]
        | none => none)
      | _, _ => none) else none
    | _ => none)
  | ⟨.np g p, d⟩ => (match getB m g with
    | some (l, ⟨c, xs⟩) => bif c.dat && u.t.dat then (lget (α := c.den) xs (Prod.fst (α := Nat) (β := denP p) d)).bind fun y => (match getP p (Prod.snd (α := Nat) (β := denP p) d) ⟨c, y⟩, setP p (Prod.snd (α := Nat) (β := denP p) d) ⟨c, y⟩ u with
      | some _, some r => (match conv r.t c r.x with
        | some z => K dd [(l, .ob (.ab g c) (lset (α := c.den) xs (Prod.fst (α := Nat) (β := denP p) d) z))] [l]
        | none => none)
      | _, _ => none) else none
    | none => none)
  | _ => none) else none
end
end Go.Proofs.YtnkdanobhgofbaaGreatDoor.pv
