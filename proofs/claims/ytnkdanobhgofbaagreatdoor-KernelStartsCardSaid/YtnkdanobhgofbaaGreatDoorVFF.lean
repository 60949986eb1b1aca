/- The interpreter: regions, code, functions. -/
import Derived.Test.YtnkdanobhgofbaaGreatDoorVE
namespace Go.Proofs.YtnkdanobhgofbaaGreatDoor.pv
set_option linter.all false
open Go.RowKit
inductive Ex where
  | normal
  | exit (id : Nat)
  | ret
def Ex.exit' : Ex → Exit
  | .normal => .normal
  | .exit id => .exit id
  | .ret => .ret
/-- only one value -/
def Ty.uni : Ty → Bool
  | .un | .ns | .nz _ | .sr _ => true
  | .rf _ p => p.all fun s => match s with | .f _ _ => true | _ => false
  | .cl _ t => t.uni
  | _ => false
/-- a cell that is looked at -/
structure CX where
  l : Nat
  p : List Step
  d : denP p
  t : Ty
structure FpX where
  i : Nat
  V : List (Nat × XO)
  F : List Nat
  C : List CX
def cOkX (x y : FpX) : Bool := x.C.all fun c => y.V.all fun q => !Nat.beq q.1 c.l || (match q.2 with
  | .ob (.bx t) z => t.cel && (match getP c.p c.d ⟨t, z⟩ with
    | some r => r.t.beq c.t
    | none => false)
  | _ => false)
def apartX (x y : FpX) : Bool := (x.V.all fun q => !memB q.1 y.F) && (y.V.all fun q => !memB q.1 x.F) && (x.V.all fun q => !memB q.1 (y.C.map (·.l))) && cOkX x y
def indepX (ops : Array Oper) (x y : FpX) : Bool :=
  apartX x y && (match ops[x.i]?, ops[y.i]? with
    | some a, some b => a.apart ops b
    | _, _ => false)
def pairsX (ops : Array Oper) : List FpX → Bool
  | [] => true
  | x :: r => (r.all fun y => indepX ops x y || pre ops 8 x.i y.i) && pairsX ops r
def putX (f : List (Nat × XV)) (d : Option Nat) (v : XV) : List (Nat × XV) := match d with
  | some k => (k, v) :: f
  | none => f
/-- the same value of another code: as it is, or nil as empty -/
def idF (t u : Ty) : Option (t.den → u.den) := if h : t.beq u = true then some fun x => Ty.eq_of h ▸ x else none
def cvF : (t u : Ty) → Option (t.den → u.den)
  | .pr a b, .pr c d => match idF (.pr a b) (.pr c d) with
    | some f => some f
    | none => (match cvF a c, cvF b d with
      | some f, some g => some fun x => pmk (f (p1 x)) (g (p2 x))
      | _, _ => none)
  | .ns, .sl t => some fun _ => ([] : List t.den)
  | .nz .np, .vp _ => some fun _ => Option.none (α := Nat)
  | .nz .nm, .vm _ => some fun _ => Option.none (α := Nat)
  | .np g [], .vp g' => bif Nat.beq g g' then some fun x => some (Prod.fst (α := Nat) (β := Unit) x) else none
  | .ar n t, .ar m u => match idF (.ar n t) (.ar m u) with
    | some f => some f
    | none => if h : Nat.beq n m = true then (match cvF t u with
      | some f => some fun x => ⟨(Subtype.val (α := List t.den) x).map f, by
          rw [List.length_map]
          have := Subtype.property (p := fun xs : List t.den => xs.length = n) x
          rw [this]; exact Nat.eq_of_beq_eq_true h⟩
      | none => none) else none
  | .tp t, .tp u => (match cvF t u with
    | some f => some f
    | none => none)
  | t, u => idF t u
/-- leaf by leaf -/
def trV (f : (t : Ty) → t.den → XV) : (t : Ty) → t.den → XV
  | .pr a b, x => ⟨.pr (trV f a (p1 x)).t (trV f b (p2 x)).t, pmk (trV f a (p1 x)).x (trV f b (p2 x)).x⟩
  | .cl g t, x => ⟨.cl g (trV f t x).t, (trV f t x).x⟩
  | .ic i t, x => ⟨.ic i (trV f t x).t, (trV f t x).x⟩
  | .tp t, x => ⟨.tp (trV f t x).t, (trV f t x).x⟩
  | t, x => f t x
/-- a row given up: what was a reference to it is data -/
def lfz (l : Nat) (c : Ty) (xs : List c.den) : (t : Ty) → t.den → XV
  | .sr j, _ => bif Nat.beq j l then ⟨.sl c, xs⟩ else ⟨.sr j, ()⟩
  | t, x => ⟨t, x⟩
def fzV (l : Nat) (c : Ty) (xs : List c.den) : (t : Ty) → t.den → XV := trV (lfz l c xs)
def fzO (l : Nat) (c : Ty) (xs : List c.den) : XO → XO
  | .ob (.bx t) x => .ob (.bx (fzV l c xs t x).t) (fzV l c xs t x).x
  | o => o
/-- a variable given up: what was a pointer to it points at data -/
def lfb (l : Nat) (c : Ty) (y : c.den) : (t : Ty) → t.den → XV
  | .rf j p, d => bif Nat.beq j l then mkDp c p y d else mkRf j p d
  | t, x => ⟨t, x⟩
def fbV (l : Nat) (c : Ty) (y : c.den) : (t : Ty) → t.den → XV := trV (lfb l c y)
def fbO (l : Nat) (c : Ty) (y : c.den) : XO → XO
  | .ob (.bx t) x => .ob (.bx (fbV l c y t x).t) (fbV l c y t x).x
  | o => o
def mapM (g : XO → XO) (m : List (Nat × XO)) : List (Nat × XO) := m.map fun q => (q.1, g q.2)
/-- a row, or a map, at another place -/
def lmv (l n : Nat) : (t : Ty) → t.den → XV
  | .sr j, _ => bif Nat.beq j l then ⟨.sr n, ()⟩ else ⟨.sr j, ()⟩
  | .ep j s p, x => bif Nat.beq j l then ⟨.ep n s p, x⟩ else ⟨.ep j s p, x⟩
  | t, x => ⟨t, x⟩
def mvV (l n : Nat) : (t : Ty) → t.den → XV := trV (lmv l n)
def mvO (l n : Nat) : XO → XO
  | .ob (.bx t) x => .ob (.bx (mvV l n t x).t) (mvV l n t x).x
  | o => o
def mvS (st : XS) (l : Nat) : XS := match lom st.m l with
  | .ob (.rw e s c) xs => ⟨st.f.map fun q => (q.1, mvV l st.n q.2.t q.2.x), (st.n, .ob (.rw e s c) xs) :: (l, .none) :: mapM (mvO l st.n) st.m, st.n + 1⟩
  | .ob (.mp a b) D => ⟨st.f.map fun q => (q.1, mvV l st.n q.2.t q.2.x), (st.n, .ob (.mp a b) D) :: (l, .none) :: mapM (mvO l st.n) st.m, st.n + 1⟩
  | _ => st
def fzS (st : XS) (l : Nat) : XS := match lom st.m l with
  | .ob (.rw _ s c) xs => bif c.dat && Nat.beq s c.sz then ⟨st.f.map fun q => (q.1, fzV l c xs q.2.t q.2.x), (l, .none) :: mapM (fzO l c xs) st.m, st.n⟩ else st
  | _ => st
def nbS (st : XS) (l : Nat) (c : Ty) : XS := match lom st.m l with
    | .ob (.bx t) x => (match cvF t c with | some f => ⟨st.f, (l, .ob (.bx c) (f x)) :: st.m, st.n⟩ | none => st)
    | _ => st
def tbS (st : XS) (l k e s : Nat) (t : Ty) : XS := match lom st.m l with
    | .ob (.bx c) x => bif c.cel then (match getF k c x, setF k c x ⟨.sr st.n, ()⟩ with
      | some (_, ⟨.ns, _⟩), some r => ⟨st.f, (st.n, .ob (.rw e s t) ([] : List t.den)) :: (l, .ob (.bx r.t) r.x) :: st.m, st.n + 1⟩
      | _, _ => st) else st
    | _ => st
def sil1 (st : XS) : Sil → XS
  | .fz l => fzS st l
  | .fs i => (match (look st.f i).t with
    | .sr l => fzS st l
    | _ => st)
  | .fb l => (match lom st.m l with
    | .ob (.bx c) x => bif c.dat then ⟨st.f.map fun q => (q.1, fbV l c x q.2.t q.2.x), (l, .none) :: mapM (fbO l c x) st.m, st.n⟩ else st
    | _ => st)
  | .nb l c => nbS st l c
  | .ns i c => (match cvF (look st.f i).t c with | some f => ⟨(i, ⟨c, f (look st.f i).x⟩) :: st.f, st.m, st.n⟩ | none => st)
  | .th i e s t => (match (look st.f i).t with
    | .ns => ⟨(i, ⟨.sr st.n, ()⟩) :: st.f, (st.n, .ob (.rw e s t) ([] : List t.den)) :: st.m, st.n + 1⟩
    | _ => st)
  | .tb l k e s t => tbS st l k e s t
  | .nbs i c => (match (look st.f i).t with
    | .rf l _ => nbS st l c
    | _ => st)
  | .tbs i k e s t => (match (look st.f i).t with
    | .rf l _ => tbS st l k e s t
    | _ => st)
def locsO : XO → List Nat
  | .gh _ v => locsT v.t
  | .ex e => locsE e
  | .ob (.bx t) _ => locsT t
  | _ => []
/-- no kept object leads to it -/
def freeOf (kp : List Nat) (m : List (Nat × XO)) (l : Nat) : Bool := kp.all fun k => !Nat.beq k l && !memN l (locsO (lom m k))
/-- silent steps: never on what is kept -/
def silW (kp : List Nat) (st : XS) : Sil → Bool
  | .ns _ _ => true
  | .th _ _ _ _ => true
  | .fz l => freeOf kp st.m l
  | .fb l => freeOf kp st.m l
  | .nb l _ => !memN l kp
  | .tb l _ _ _ _ => !memN l kp
  | .nbs i _ => (match (look st.f i).t with
    | .rf l _ => !memN l kp
    | _ => true)
  | .tbs i _ _ _ _ => (match (look st.f i).t with
    | .rf l _ => !memN l kp
    | _ => true)
  | .fs i => (match (look st.f i).t with
    | .sr l => freeOf kp st.m l
    | _ => true)
def silS (kp : List Nat) : List Sil → XS → XS
  | [], st => st
  | a :: r, st => silS kp r (bif silW kp st a then sil1 st a else st)
def okV (s : List Nat) (v : XV) : Bool := v.t.flt && (locsT v.t).all (memN · s)
def okO (s : List Nat) : XO → Bool
  | .ex e => (locsE e).all (memN · s)
  | .gh _ v => okV s v
  | .ob (.bx t) _ => t.flt && (locsT t).all (memN · s)
  | .ob _ _ => true
  | .none => true
  | .free => true
def enumM : Nat → List XO → List (Nat × XO)
  | _, [] => []
  | i, o :: r => (i, o) :: enumM (i + 1) r
/-- what was handed over by parts alone is told anew -/
def mvAll (kp : List Nat) : Nat → List OK → XS → XS
  | _, [], st => st
  | k, .no :: r, st => mvAll kp (k + 1) r (bif freeOf kp st.m k then mvS st k else st)
  | k, _ :: r, st => mvAll kp (k + 1) r st
/-- only these slots, and the objects that they lead to -/
def canonX (kp : List Nat) (ks : List OK) (live : List Nat) (st0 : XS) : Option XS :=
  let st := mvAll kp 0 ks st0
  let hn := 2 * ks.length
  let f := live.map fun i => (i, look st.f i)
  let s := reach st.m 400 (List.range hn) ((List.range hn).flatMap (fun l => locsO (lom st.m l)) ++ f.flatMap fun q => locsT q.2.t)
  let g := idxD s
  bif (f.all fun q => okV s q.2) && (s.all fun l => okO s (lom st.m l)) && nodup s then some ⟨f.map fun q => (q.1, rnV g q.2), enumM 0 (s.map fun l => rnO g (lom st.m l)), s.length⟩ else none
def cutX (kp : List Nat) (ks : List OK) (c : Cut) (st : XS) : Option XS := canonX kp ks c.live (silS kp c.sil st)
section
variable {α : Type} (E : Env) (call : CallT E)
def xop (m : List (Nat × XO)) (nl : Nat) (ρ : Operand → XV) (ty : Nat) (op : Op) (K : KT α) : Option α := match op with
  | .move x => K (ρ x) [] []
  | .assign x => K (ρ x) [] []
  | .pick c a b => (match ρ c with
    | ⟨.bl, v⟩ => bif (show Bool from v) then K (ρ a) [] [] else K (ρ b) [] []
    | _ => none)
  | .alloc e => xAlloc E m nl e K
  | .box e x => xBox E m nl e (ρ x) K
  | .load t x => xLoad E.T m t (ρ x) K
  | .store t x y => xStore E.T m t (ρ x) (ρ y) K
  | .fieldAddr s x k => xFieldA E.T s (ρ x) k K
  | .field s x k => xField E.T s (ρ x) k K
  | .indexAddr t x i => xIdxA E.T m t (ρ x) (ρ i) K
  | .index t x i => xIdx E.T t (ρ x) (ρ i) K
  | .nilCheck x => xNil (ρ x) K
  | .binOp op t x y _ => xBin E m t op (ρ x) (ρ y) K
  | .unOp op _ x => xUn op (ρ x) K
  | .convert s t x => xConv E.T m s t (ρ x) K
  | .extract x k => xExtract (ρ x) k K
  | .slice t x lo hi none => xSlice E.T ρ m t (ρ x) lo hi K
  | .makeSlice t x y => bif opEq x y then xMkSl E nl t (ρ x) K else none
  | .buildSlice t len ps => xBuildS E nl t len (ps.toList.map fun p => (p.1, ρ p.2)) K
  | .build t ps => xBuild E t (ps.toList.map fun p => (p.1, ρ p.2)) K
  | .makeFunc (.func g) ⟨[]⟩ caps => xMkFn g (caps.toList.map ρ) K
  | .makeInterface t x => xIfc E t (ρ x) K
  | .makeMap t none => xMkMap E m nl t K
  | .lookup t x y ok => xLook E m t (ρ x) (ρ y) ok K
  | .mapUpdate t x y z => xMapUp E m t (ρ x) (ρ y) (ρ z) K
  | .range t x => xRange E m nl t (ρ x) K
  | .entry x => xEntry m (ρ x) K
  | .call c => (match c.callee with
    | .value f => (match ρ f with
      | ⟨.cl g t, cx⟩ => bif !capOk t then none else bif E.lk g then xLookCall E call m nl g (argsX E.cd (c.args.toList.map ρ) c.argTypes.toList) (capX t cx) K else xCall E call m nl g (E.ara g) (argsX E.cd (c.args.toList.map ρ) c.argTypes.toList) (capX t cx) K
      | _ => none)
    | .builtin b => (match b, c.args.toList, c.argTypes.toList with
      | .len, [x], [t] => (match E.mpc t with
        | some _ => xMapLen E m t (ρ x) K
        | none => xLen E.T m t (ρ x) K)
      | .append, [x, y], [t, t'] => bif Nat.beq t t' then xAppend E m nl t (ρ x) (ρ y) K else xAppZ E m nl t t' (ρ x) (ρ y) K
      | .copy, [x, y], [t, _] => xCopy E.T m t (ρ x) (ρ y) K
      | .clear, [x], [t] => xClear E m t (ρ x) K
      | .delete, [x, y], [t, _] => xMapDel E m t (ρ x) (ρ y) K
      | .min, [x, y], [_, _] => xMin2 minI (ρ x) (ρ y) K
      | .max, [x, y], [_, _] => xMin2 maxI (ρ x) (ρ y) K
      | .min, [x, y, z], [_, _, _] => xMin3 minI (ρ x) (ρ y) (ρ z) K
      | .max, [x, y, z], [_, _, _] => xMin3 maxI (ρ x) (ρ y) (ρ z) K
      | _, _, _ => none)
    | .invoke x name => xInv E call m nl name (ρ x) (argsX E.cd (c.args.toList.map ρ) c.argTypes.toList) K)
  | _ => none
def xguard (ops : Array Oper) (f : List (Nat × XV)) (o : Oper) (K : Bool → List (Nat × XV) → Option α) : Option α := match o.guard with
  | none => K true f
  | some (j, want) => match (ops[j]?).bind (·.dst) with
    | some d => (match look f d with
      | ⟨.bl, v⟩ => bif (show Bool from v) then K want ((d, ⟨.bl, true⟩) :: f) else K (!want) ((d, ⟨.bl, false⟩) :: f)
      | ⟨.ud, _⟩ => K false f
      | _ => none)
    | none => none
/-- a new row that is data at once -/
def asRow (l : Nat) : List (Nat × XO) → Option ((c : Ty) × List c.den)
  | [] => none
  | (k, .ob (.rw _ s c) xs) :: r => bif Nat.beq k l && Nat.beq s c.sz && c.dat && r.all (fun q => !Nat.beq q.1 l) then some ⟨c, xs⟩ else asRow l r
  | _ :: r => asRow l r
def asData (bd : List Nat) (d : Option Nat) (K : KT α) : KT α := fun v U F => match d with
  | some k => bif memN k bd then (match v with
    | ⟨.sr l, x⟩ => (match asRow l U with
      | some ⟨c, xs⟩ => K ⟨.sl c, xs⟩ (U ++ [(l, .none)]) F
      | none => K ⟨.sr l, x⟩ U F)
    | v => K v U F) else K v U F
  | none => K v U F
/-- the front of a row, the row itself given up -/
def asClip (cp : List Nat) (m : List (Nat × XO)) (nl : Nat) (d : Option Nat) (K : KT α) : KT α := fun v U F => match d with
  | some k => bif memN k cp then (match v, U with
    | ⟨.ss l s0, x⟩, [] => (match lom m l with
      | .ob (.rw e s c) xs => bif Nat.beq s s0 && Nat.beq (Prod.fst (α := Nat) (β := Nat) x) 0 && Nat.ble (Prod.snd (α := Nat) (β := Nat) x) (List.length (α := c.den) xs) then K ⟨.sr nl, ()⟩ [(l, .none), (nl, .ob (.rw e s c) (List.take (α := c.den) (Prod.snd (α := Nat) (β := Nat) x) xs))] (nl :: l :: F) else none
      | _ => none)
    | v, U => K v U F) else K v U F
  | none => K v U F
/-- what an operation looks at and changes -/
def fpx (T : List TI) (f : List (Nat × XV)) (m : List (Nat × XO)) (i : Nat) (op : Op) (v : XV) (U : List (Nat × XO)) (F : List Nat) : FpX := match op with
  | .load t x => (match evX f x with
    | ⟨.rf l p, d⟩ => (match lom m l with
      | .ob (.bx c) y => (match getP p d ⟨c, y⟩ with
        | some r => bif r.t.beq v.t && v.t.uni && U.isEmpty && ldOk T t r.t && c.cel && !r.t.agg then ⟨i, U, [], [⟨l, p, d, v.t⟩]⟩ else ⟨i, U, F, []⟩
        | none => ⟨i, U, F, []⟩)
      | _ => ⟨i, U, F, []⟩)
    | _ => ⟨i, U, F, []⟩)
  | _ => ⟨i, U, F, []⟩
def xops (kp : List Nat) (bd cp : List Nat) (ops : Array Oper) (base : Nat) : List Oper → Nat → List (Nat × XV) → List (Nat × XO) → List FpX → (List (Nat × XV) → List (Nat × XO) → List FpX → Option α) → Option α
  | [], _, f, m, L, K => K f m L
  | o :: r, i, f, m, L, K => xguard ops f o fun go f => match go with
    | true => xop E call m (base + 16 * i) (evX f) o.type o.op (asData bd o.dst <| asClip cp m (base + 16 * i) o.dst fun v U F => bif U.all (fun q => !memN q.1 kp) then xops kp bd cp ops base r (i + 1) (putX f o.dst v) (U.reverse ++ m) (fpx E.T f m i o.op v U F :: L) K else none)
    | false => xops kp bd cp ops base r (i + 1) (putX f o.dst ⟨.ud, ()⟩) m (⟨i, [], [], []⟩ :: L) K
def xregion (kp : List Nat) (bd cp : List Nat) (nt : Nat) (ops : Array Oper) (draw : Bool) (st : XS) (K : List (Nat × XV) → List (Nat × XO) → List FpX → Option α) : Option α :=
  bif dstOk nt ops then xops E call kp bd cp ops st.n ops.toList 0 st.f st.m [] fun f m L => bif !draw || (edgesOk ops && pairsX ops L.reverse) then K f m L else none else none
/-- a region that only finds a truth value: its ways are one again behind it -/
def xmerge (E : Env) (call : CallT E) (kp : List Nat) (bd cp : List Nat) (nt t : Nat) (ops : Array Oper) (draw : Bool) (st : XS) : Option Bool :=
  xregion (α := Bool) E call kp bd cp nt ops draw st fun f m L => match look f t with
    | ⟨.bl, v⟩ => bif L.all (fun q => q.V.isEmpty) then some v else none
    | _ => none
def deadS (ops : Array Oper) (f : List (Nat × XV)) : List (Nat × XV) := ops.toList.foldl (fun f o => match o.dst with
  | some d => (d, dd) :: f
  | none => f) f
/-- what is left to do behind a part, around a block, around a loop's body -/
def kS (xb : XS → (Ex → XS → Option α) → Option α) (cut : XS → Option XS) (K : Ex → XS → Option α) (ex : Ex) (st : XS) : Option α := match ex with
  | .normal => (match cut st with
    | some st' => xb st' K
    | none => none)
  | e => K e st
def kB (id : Nat) (K : Ex → XS → Option α) (ex : Ex) (st : XS) : Option α := match ex with
  | .exit j => K (bif Nat.beq j id then .normal else .exit j) st
  | e => K e st
def kL (it : XS → Option α) (cut : XS → Option XS) (K : Ex → XS → Option α) (ex : Ex) (st : XS) : Option α := match ex with
  | .normal => (match cut st with
    | some st' => it st'
    | none => none)
  | e => K e st
noncomputable def iterX (body : XS → (Ex → XS → Option α) → Option α) (cut : XS → Option XS) (K : Ex → XS → Option α) (n : Nat) : XS → Option α :=
  Nat.rec (motive := fun _ => XS → Option α) (fun _ => none) (fun _ ih st => body st (kL ih cut K)) n
/-- the region that asks for a loop's next entry: the loop's slot, a slot for the answer, a slot for 'there is one' -/
def ndOps (ops : Array Oper) : Bool → Option (Nat × Nat × Nat)
  | true => none
  | false => match ops.toList with
    | [⟨some d1, .next (.tmp it) false, _, _, _, none⟩, ⟨some d2, .extract (.tmp d1') 0, _, _, _, none⟩] => bif Nat.beq d1 d1' then some (it, d1, d2) else none
    | _ => none
/-- one object is another now -/
def repO (m : List (Nat × XO)) (l : Nat) (o : XO) : List (Nat × XO) := m.map fun q => bif Nat.beq q.1 l then (q.1, o) else q
/-- the map that a loop goes through, and what it is behind the loop -/
def lockOf (m : List (Nat × XO)) (own : Bool) (l lg : Nat) : Option (Nat × XO) := bif own then (match lom m l with
    | .ex (.lk a b lg' D) => bif Nat.beq lg lg' then some (l, .ob (.mp a b) D) else none
    | _ => none) else (match getA m l with
    | some (l', ⟨a, b, _, lg', Ds⟩) => bif Nat.beq lg lg' then some (l', .ob (.am l a b) Ds) else none
    | none => none)
def nextX {α : Type} (kp : List Nat) (nt it d1 d2 : Nat) (st : XS) (K : Ex → XS → Option α) : Option α := match look st.f it with
  | ⟨.sr li, _⟩ => (match lom st.m li with
    | .ex (.it a b own l lg rest _ (some e)) => (match lockOf st.m own l lg with
      | some (lq, oq) => bif a.ky && Nat.blt d1 nt && Nat.blt d2 nt && !memN li kp && !memN lq kp then (match e with
        | some p => K .normal ⟨(d2, ⟨.bl, true⟩) :: (d1, dd) :: st.f, repO st.m li (.ex (.it a b own l lg (mdel (eqT a) rest p.1) (some p) none)), st.n⟩
        | none => K .normal ⟨(d2, ⟨.bl, false⟩) :: (d1, dd) :: st.f, repO (repO st.m li .none) lq oq, st.n⟩) else none
      | none => none)
    | _ => none)
  | _ => none
/-- what stands ahead of a loop's step -/
def planX (st : XS) (li : Nat) (e : EX) : XS := ⟨st.f, repO st.m li (.ex e), st.n⟩
/-- a loop over a map, in one order -/
def Runs (xb : XS → (Ex → XS → Option XS) → Option XS) (cut : XS → Option XS) (it : Nat) (a b : Ty) : List (a.den × b.den) → List (a.den × b.den) → XS → XS → Prop
  | [], ρ, st, stE => ∃ li u own l lg cur, look st.f it = ⟨.sr li, u⟩ ∧ lom st.m li = .ex (.it a b own l lg ρ cur none) ∧ stE = planX st li (.it a b own l lg ρ none (some none))
  | p :: π, ρ, st, stE => ∃ li u own l lg cur st1, look st.f it = ⟨.sr li, u⟩ ∧ lom st.m li = .ex (.it a b own l lg ρ cur none) ∧
      xb (planX st li (.it a b own l lg ρ none (some (some p)))) (fun ex st => match ex with
        | .normal => cut st
        | _ => none) = some st1 ∧ Runs xb cut it a b π (mdel (eqT a) ρ p.1) st1 stE
/-- .. and in any: what comes behind it is the same -/
def RConf {α : Type} (xb : XS → (Ex → XS → Option XS) → Option XS) (xe : XS → Option α) (cut : XS → Option XS) (it : Nat) (st : XS) (r : α) : Prop := ∃ (a b : Ty) (ρ : List (a.den × b.den)),
  (∃ li u own l lg cur, look st.f it = ⟨.sr li, u⟩ ∧ lom st.m li = .ex (.it a b own l lg ρ cur none)) ∧ ∀ π : List (a.den × b.den), π.Perm ρ → ∃ stE, Runs xb cut it a b π ρ st stE ∧ xe stE = some r
/-- a loop over a map: its slot -/
def rngHead : Code → Option Nat
  | .seq (.region _ ops draw) _ => (match ndOps ops draw with
    | some (it, _, _) => some it
    | none => none)
  | _ => none
/-- the next entry is asked for at a loop's head alone -/
def noR : Code → Bool
  | .region _ ops draw => (ndOps ops draw).isNone
  | .seq a b => noR a && noR b
  | .cond _ a b => noR a && noR b
  | .block _ a => noR a
  | .loop (.seq (.region _ _ _) b) => noR b
  | .loop a => noR a
  | _ => true
/-- behind a loop over a map -/
def endK {α : Type} (K : Ex → XS → Option α) (ex : Ex) (st : XS) : Option α := match ex with
  | .normal => none
  | e => K e st
noncomputable def rngX {α : Type} (xb : XS → (Ex → XS → Option XS) → Option XS) (xa : XS → (Ex → XS → Option α) → Option α) (cut : XS → Option XS) (it : Nat) (K : Ex → XS → Option α) (st : XS) : Option α :=
  @dite _ (∃ r, RConf xb (fun st => xa st (endK K)) cut it st r) (Classical.propDecidable _) (fun h => some (Classical.choose h)) (fun _ => none)
def firstR : Code → Option Nat
  | .region id _ _ => some id
  | .seq a _ => firstR a
  | .block _ a => firstR a
  | .loop a => firstR a
  | _ => none
/-- ahead of a region -/
def atR (kp : List Nat) (pol : Pol) (r : Nat) (st : XS) : XS := match alst pol.sil r with
  | some l => silS kp l st
  | none => st
/-- ahead of the code behind a join -/
def atJ (kp : List Nat) (pol : Pol) (hn : List OK) (b : Code) (st : XS) : Option XS := match (firstR b).bind (alst pol.cut) with
  | some c => cutX kp hn c st
  | none => some st
def atL (kp : List Nat) (pol : Pol) (hn : List OK) (a : Code) (st : XS) : Option XS := match (firstR a).bind (alst pol.lop) with
  | some c => cutX kp hn c st
  | none => none
variable (kp : List Nat) (pol : Pol) (sm : Nat → Option (XS → Option XS)) (N nt : Nat) (hn : List OK)
/-- the interpreter, for answers of any kind -/
noncomputable def xcodeP (c : Code) : ∀ α : Type, XS → (Ex → XS → Option α) → Option α :=
  Code.rec (motive := fun _ => ∀ α : Type, XS → (Ex → XS → Option α) → Option α)
    (fun _ st K => K .normal st)
    (fun id ops draw _ st K => match ndOps ops draw with
      | some (it, d1, d2) => nextX kp nt it d1 d2 st K
      | none => match alst pol.mrg id with
        | some t => (xmerge E call kp pol.bd pol.cp nt t ops draw (atR kp pol id st)).bind fun b => K .normal ⟨(t, ⟨.bl, b⟩) :: deadS ops (atR kp pol id st).f, (atR kp pol id st).m, (atR kp pol id st).n + 16 * ops.size⟩
        | none => xregion E call kp pol.bd pol.cp nt ops draw (atR kp pol id st) fun f m _ => K .normal ⟨f, m, (atR kp pol id st).n + 16 * ops.size⟩)
    (fun _ b xa xb α st K => xa α st (kS (xb α) (atJ kp pol hn b) K))
    (fun c _ _ xa xb α st K => match evX st.f c with
      | ⟨.bl, v⟩ => bif (show Bool from v) then xa α st K else xb α st K
      | _ => none)
    (fun id _ xa α st K => xa α st (kB id K))
    (fun a xa α st K => match rngHead a with
      | some it => (match atL kp pol hn a st with
        | some st' => rngX (xa XS) (xa α) (atL kp pol hn a) it K st'
        | none => none)
      | none => match (firstR a).bind sm with
        | some F => (match F st with
          | some st' => K .normal st'
          | none => none)
        | none => (match atL kp pol hn a st with
          | some st' => iterX (xa α) (atL kp pol hn a) K N st'
          | none => none))
    (fun _ _ _ _ _ _ _ _ _ => none)
    (fun id _ st K => K (.exit id) st)
    (fun _ _ _ _ _ => none)
    (fun _ _ st K => K .normal st)
    (fun _ _ _ _ => none)
    (fun _ st K => K .ret st)
    (fun _ _ _ _ => none) c
noncomputable def xcode (c : Code) : XS → (Ex → XS → Option α) → Option α := xcodeP E call kp pol sm N nt hn c α
/-- what is left to do -/
inductive FrX where
  | s (c : Code)
  | b (id : Nat)
  | l (c : Code)
/-- the code behind a join whose first region is r, and what is left to do then -/
def focJ (r : Nat) : Code → List FrX → Option (Code × List FrX)
  | .seq a b, fs => (match focJ r a (.s b :: fs) with
    | some y => some y
    | none => (match firstR b with
      | some r' => bif Nat.beq r r' then some (b, fs) else focJ r b fs
      | none => focJ r b fs))
  | .cond _ a b, fs => (match focJ r a fs with | some y => some y | none => focJ r b fs)
  | .block id a, fs => focJ r a (.b id :: fs)
  | .loop a, fs => focJ r a (.l a :: fs)
  | _, _ => none
def focL (r : Nat) : Code → List FrX → Option (Code × List FrX)
  | .seq a b, fs => (match focL r a (.s b :: fs) with
    | some y => some y
    | none => focL r b fs)
  | .cond _ a b, fs => (match focL r a fs with | some y => some y | none => focL r b fs)
  | .block id a, fs => focL r a (.b id :: fs)
  | .loop a, fs => (match firstR a with
    | some r' => bif Nat.beq r r' then some (a, fs) else focL r a (.l a :: fs)
    | none => focL r a (.l a :: fs))
  | _, _ => none
/-- loops around -/
def nLs : List FrX → Nat
  | [] => 0
  | .l _ :: r => nLs r + 1
  | _ :: r => nLs r
/-- the loop whose first region is r, in so many loops -/
def focN (n r : Nat) : Code → List FrX → Option (Code × List FrX)
  | .seq a b, fs => (match focN n r a (.s b :: fs) with
    | some y => some y
    | none => focN n r b fs)
  | .cond _ a b, fs => (match focN n r a fs with | some y => some y | none => focN n r b fs)
  | .block id a, fs => focN n r a (.b id :: fs)
  | .loop a, fs => (match firstR a with
    | some r' => bif Nat.beq r r' && Nat.beq (nLs fs) n then some (a, fs) else focN n r a (.l a :: fs)
    | none => focN n r a (.l a :: fs))
  | _, _ => none
noncomputable def denF (F : Ex → XS → Option α) : List FrX → List Nat → Ex → XS → Option α
  | [], _ => F
  | .s b :: fs, ks => kS (xcode E call kp pol sm N nt hn b) (atJ kp pol hn b) (denF F fs ks)
  | .b id :: fs, ks => kB id (denF F fs ks)
  | .l a :: fs, k :: ks => kL (iterX (xcode E call kp pol sm N nt hn a) (atL kp pol hn a) (denF F fs ks) k) (atL kp pol hn a) (denF F fs ks)
  | .l _ :: _, [] => fun _ _ => none
end
/-- results -/
def resX (T : List TI) (st : XS) : List ResultVar → Option (List XV)
  | [] => some []
  | .tmp t :: r => (match resX T st r with | some vs => some (look st.f t :: vs) | none => none)
  | .cell a t :: r => (match look st.f a, resX T st r with
    | ⟨.rf l p, d⟩, some vs => (match lom st.m l with
      | .ob (.bx c) x => (match getP p d ⟨c, x⟩ with
        | some v => bif ldOk T t v.t && c.cel then some (v :: vs) else none
        | none => none)
      | _ => none)
    | _, _ => none)
def resV : List XV → XV
  | [v] => v
  | vs => ⟨.tp (capT vs).t, (capT vs).x⟩
/-- objects as they are promised -/
def bunX : (os : List OK) → List XO → Option (bun os).den
  | [], xs => (match xs with
    | [] => some ()
    | _ => none)
  | .no :: os, xs => (match xs with
    | .none :: r => bunX os r
    | _ => none)
  | .bx t :: os, xs => (match xs with
    | .ob (.bx t') x :: r => (match cvF t' t, bunX os r with
      | some f, some y => some (Prod.mk (f x) y)
      | _, _ => none)
    | _ => none)
  | .rw e s t :: os, xs => (match xs with
    | .ob (.rw e' s' t') x :: r => bif Nat.beq e e' && Nat.beq s s' then (match castT (.sl t') (.sl t) x, bunX os r with
      | some z, some y => some (Prod.mk z y)
      | _, _ => none) else none
    | _ => none)
  | .mp a b :: os, xs => (match xs with
    | .ob (.mp a' b') x :: r => (match castT (.mc a' b') (.mc a b) x, bunX os r with
      | some z, some y => some (Prod.mk z y)
      | _, _ => none)
    | _ => none)
  | .ab g t :: os, xs => (match xs with
    | .ob (.ab g' t') x :: r => bif Nat.beq g g' then (match castT (.sl t') (.sl t) x, bunX os r with
      | some z, some y => some (Prod.mk z y)
      | _, _ => none) else none
    | _ => none)
  | .am g a b :: os, xs => (match xs with
    | .ob (.am g' a' b') x :: r => bif Nat.beq g g' then (match castT (.sl (.mc a' b')) (.sl (.mc a b)) x, bunX os r with
      | some z, some y => some (Prod.mk z y)
      | _, _ => none) else none
    | _ => none)
/-- a group's object? -/
def tgd : Option OK → Bool
  | some (.ab _ _) => true
  | some (.am _ _ _) => true
  | _ => false
/-- an object that was handed over stands where it stood -/
def ghOkX (h : Nat) (ks : List OK) (m : List (Nat × XO)) (k : Nat) : Bool := bif tgd (ks[k]?) then true else match lom m (h + k), lom m k with
  | .gh k' ⟨.rf l [], _⟩, .ob (.bx _) _ => Nat.beq k k' && Nat.beq l k
  | .gh k' ⟨.sr l, _⟩, .ob (.bx _) _ => false
  | .gh k' ⟨.sr l, _⟩, .ob _ _ => Nat.beq k k' && Nat.beq l k
  | .gh k' ⟨.sr l, _⟩, .none => Nat.beq k k' && Nat.beq l k
  | _, _ => false
/-- a result as one of those that are promised -/
def altX (ks : List OK) (v : XV) (os : List XO) : (as : List (Ty × List OK)) → Option (altC ks as).den
  | [] => none
  | (rt, new) :: [] => (match cvF v.t rt, bunX (ks ++ new) os with
    | some f, some y => some (Prod.mk (f v.x) y)
    | _, _ => none)
  | (rt, new) :: b :: r => (match cvF v.t rt, bunX (ks ++ new) os with
    | some f, some y => some (Sum.inl (Prod.mk (f v.x) y))
    | _, _ => (match altX ks v os (b :: r) with
      | some z => some (Sum.inr z)
      | none => none))
/-- what is kept is not told -/
def hideK (kp : List Nat) : Nat → List XO → List XO
  | _, [] => []
  | k, o :: r => (bif memN k kp then .none else o) :: hideK kp (k + 1) r
def finX (E : Env) (fn : Func) (g : FuncId) (ks : List OK) (ex : Ex) (st0 : XS) : Option (altC (ksR E g ks) (altsOf E g ks.length)).den := match ex with
  | .exit _ => none
  | _ =>
    let st := mvAll (E.kp g ks.length) 0 ks (silS (E.kp g ks.length) (E.pol g ks.length).fin st0)
    match resX E.T st fn.results.toList with
    | some vs =>
      let v := resV vs
      let s := reach st.m 400 (List.range ks.length) ((List.range ks.length).flatMap (fun l => locsO (lom st.m l)) ++ locsT v.t)
      let g1 := idxD s
      bif (List.range ks.length).all (ghOkX ks.length ks st.m) && okV s v && (s.all fun l => okO s (lom st.m l)) && nodup s && Nat.blt vs.length 8 then
        altX (ksR E g ks) (rnV g1 v) (hideK (E.kp g ks.length) 0 (s.map fun l => rnO g1 (lom st.m l))) (altsOf E g ks.length)
      else none
    | none => none
def ghX (k : Nat) : XO → XO
  | .ob (.ab _ _) _ => .gh k dd
  | .ob (.am _ _ _) _ => .gh k dd
  | .ob (.bx _) _ => .gh k ⟨.rf k [], ()⟩
  | _ => .gh k ⟨.sr k, ()⟩
def ghsX : Nat → List XO → List XO
  | _, [] => []
  | k, o :: r => ghX k o :: ghsX (k + 1) r
def enumF : Nat → List XV → List (Nat × XV)
  | _, [] => []
  | i, v :: r => (i, v) :: enumF (i + 1) r
def startX (vs : List XV) (hs : List XO) : XS := ⟨enumF 0 vs, enumM 0 (hs ++ ghsX 0 hs), 2 * hs.length⟩
abbrev PrimT (E : Env) := (g : FuncId) → Option ((vs : List XV) → (hs : List XO) → Option (outC E g vs hs).den)
abbrev SumT := FuncId → Nat → Option (XS → Option XS)
/-- parts replaced -/
def u0 {A B : Type} (x : A × B) {A' : Type} (v : A') : A' × B := (v, x.2)
def u1 {A B C : Type} (x : A × B × C) {B' : Type} (v : B') : A × B' × C := (x.1, v, x.2.2)
def u2 {A B C D : Type} (x : A × B × C × D) {C' : Type} (v : C') : A × B × C' × D := (x.1, x.2.1, v, x.2.2.2)
def u3 {A B C D F : Type} (x : A × B × C × D × F) {D' : Type} (v : D') : A × B × C × D' × F := (x.1, x.2.1, x.2.2.1, v, x.2.2.2.2)
def u4 {A B C D F G : Type} (x : A × B × C × D × F × G) {F' : Type} (v : F') : A × B × C × D × F' × G := (x.1, x.2.1, x.2.2.1, x.2.2.2.1, v, x.2.2.2.2.2)
def u5 {A B C D F G H : Type} (x : A × B × C × D × F × G × H) {G' : Type} (v : G') : A × B × C × D × F × G' × H := (x.1, x.2.1, x.2.2.1, x.2.2.2.1, x.2.2.2.2.1, v, x.2.2.2.2.2.2)
def u6 {A B C D F G H I : Type} (x : A × B × C × D × F × G × H × I) {H' : Type} (v : H') : A × B × C × D × F × G × H' × I := (x.1, x.2.1, x.2.2.1, x.2.2.2.1, x.2.2.2.2.1, x.2.2.2.2.2.1, v, x.2.2.2.2.2.2.2)
def u7 {A B C D F G H I J : Type} (x : A × B × C × D × F × G × H × I × J) {I' : Type} (v : I') : A × B × C × D × F × G × H × I' × J := (x.1, x.2.1, x.2.2.1, x.2.2.2.1, x.2.2.2.2.1, x.2.2.2.2.2.1, x.2.2.2.2.2.2.1, v, x.2.2.2.2.2.2.2.2)
def u8 {A B C D F G H I J K : Type} (x : A × B × C × D × F × G × H × I × J × K) {J' : Type} (v : J') : A × B × C × D × F × G × H × I × J' × K := (x.1, x.2.1, x.2.2.1, x.2.2.2.1, x.2.2.2.2.1, x.2.2.2.2.2.1, x.2.2.2.2.2.2.1, x.2.2.2.2.2.2.2.1, v, x.2.2.2.2.2.2.2.2.2)
def untagK : OK → Bool
  | .ab _ _ => false
  | .am _ _ _ => false
  | _ => true
/-- may it be run so? -/
def startOk (E : Env) (fn : Func) (g : FuncId) (vs : List XV) (hs : List XO) : Bool :=
  !(fn.name == "runtime.NumGoroutine") && Nat.ble vs.length fn.ntmps && ((E.kp g hs.length).all fun k => match hs[k]? with
    | some o => (locsO o).all (Nat.blt · hs.length)
    | none => false) && (altsOf E g hs.length).all (fun q => q.2.all untagK) && (match fn.body with
    | some c => noR c
    | none => true)
/-- THE INTERPRETER: what a function hands back -/
noncomputable def R4 (E : Env) (prim : PrimT E) (sm : SumT) (N : Nat) (d : Nat) : CallT E :=
  Nat.rec (motive := fun _ => CallT E) (fun _ _ _ => none) (fun _ ih g vs hs => match prim g with
    | some p => p vs hs
    | none => match E.P.funcs[g]? with
      | some fn => (match fn.body with
        | some c => bif !startOk E fn g vs hs then none else xcode E ih (E.kp g hs.length) (E.pol g hs.length) (sm g) N fn.ntmps (ksOut E g vs hs) c (startX vs hs) (finX E fn g (ksOut E g vs hs))
        | none => none)
      | none => none) d
/-- from a join on -/
noncomputable def RJ (E : Env) (prim : PrimT E) (sm : SumT) (N d : Nat) (g r : Nat) (ks : List Nat) (os : List OK) (st : XS) : Option (altC (ksR E g os) (altsOf E g os.length)).den := match E.P.funcs[g]? with
  | some fn => (match fn.body with
    | some c => (match focJ r c [] with
      | some (b, fs) => xcode E (R4 E prim sm N d) (E.kp g os.length) (E.pol g os.length) (sm g) N fn.ntmps os b st (denF E (R4 E prim sm N d) (E.kp g os.length) (E.pol g os.length) (sm g) N fn.ntmps os (finX E fn g os) fs ks)
      | none => none)
    | none => none)
  | none => none
/-- from a loop on, with so many rounds left -/
noncomputable def RL4 (E : Env) (prim : PrimT E) (sm : SumT) (N d : Nat) (g r : Nat) (ks : List Nat) (os : List OK) (k : Nat) (st : XS) : Option (altC (ksR E g os) (altsOf E g os.length)).den := match E.P.funcs[g]? with
  | some fn => (match fn.body with
    | some c => (match focN ks.length r c [] with
      | some (a, fs) => iterX (xcode E (R4 E prim sm N d) (E.kp g os.length) (E.pol g os.length) (sm g) N fn.ntmps os a) (atL (E.kp g os.length) (E.pol g os.length) os a) (denF E (R4 E prim sm N d) (E.kp g os.length) (E.pol g os.length) (sm g) N fn.ntmps os (finX E fn g os) fs ks) k st
      | none => none)
    | none => none)
  | none => none
/-- a loop over a map, from its head on; one step of it; what comes behind it -/
noncomputable def RR4 (E : Env) (prim : PrimT E) (sm : SumT) (N d : Nat) (g r : Nat) (ks : List Nat) (os : List OK) (it : Nat) (st : XS) : Option (altC (ksR E g os) (altsOf E g os.length)).den := match E.P.funcs[g]? with
  | some fn => (match fn.body with
    | some c => (match focL r c [] with
      | some (a, fs) => rngX (xcodeP E (R4 E prim sm N d) (E.kp g os.length) (E.pol g os.length) (sm g) N fn.ntmps os a XS) (xcodeP E (R4 E prim sm N d) (E.kp g os.length) (E.pol g os.length) (sm g) N fn.ntmps os a _) (atL (E.kp g os.length) (E.pol g os.length) os a) it (denF E (R4 E prim sm N d) (E.kp g os.length) (E.pol g os.length) (sm g) N fn.ntmps os (finX E fn g os) fs ks) st
      | none => none)
    | none => none)
  | none => none
noncomputable def RS4 (E : Env) (prim : PrimT E) (sm : SumT) (N d : Nat) (g r : Nat) (os : List OK) (st : XS) : Option XS := match E.P.funcs[g]? with
  | some fn => (match fn.body with
    | some c => (match focL r c [] with
      | some (a, _) => xcodeP E (R4 E prim sm N d) (E.kp g os.length) (E.pol g os.length) (sm g) N fn.ntmps os a XS st fun ex st => match ex with
        | .normal => atL (E.kp g os.length) (E.pol g os.length) os a st
        | _ => none
      | none => none)
    | none => none)
  | none => none
noncomputable def RE4 (E : Env) (prim : PrimT E) (sm : SumT) (N d : Nat) (g r : Nat) (ks : List Nat) (os : List OK) (st : XS) : Option (altC (ksR E g os) (altsOf E g os.length)).den := match E.P.funcs[g]? with
  | some fn => (match fn.body with
    | some c => (match focL r c [] with
      | some (a, fs) => xcodeP E (R4 E prim sm N d) (E.kp g os.length) (E.pol g os.length) (sm g) N fn.ntmps os a _ st (endK (denF E (R4 E prim sm N d) (E.kp g os.length) (E.pol g os.length) (sm g) N fn.ntmps os (finX E fn g os) fs ks))
      | none => none)
    | none => none)
  | none => none
end Go.Proofs.YtnkdanobhgofbaaGreatDoor.pv
namespace Go.Proofs.YtnkdanobhgofbaaGreatDoor.pv
set_option linter.all false
open Go.RowKit
/-- maps by keys that are numbers -/
def mlI {ν : Type} (D : List (Int × ν)) (k : Int) : Option ν := mlook (κ := Int) (eqT (.i .i64)) D k
def mpI {ν : Type} (D : List (Int × ν)) (k : Int) (v : ν) : List (Int × ν) := mput (κ := Int) (ltT (.i .i64)) (eqT (.i .i64)) D k v
def mdI {ν : Type} (D : List (Int × ν)) (k : Int) : List (Int × ν) := mdel (κ := Int) (eqT (.i .i64)) D k
def za (a b : List Z) : List Z := a ++ b
def zr (n : Nat) (l : List Z) : List Z := (List.replicate n l).flatten
def al2 {β : Type} : List (Nat × Nat × β) → Nat → Nat → Option β
  | [], _, _ => none
  | (a, b, x) :: r, i, j => bif Nat.beq a i && Nat.beq b j then some x else al2 r i j
end Go.Proofs.YtnkdanobhgofbaaGreatDoor.pv
