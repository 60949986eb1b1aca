/- The interpreter: operations (continued). -/
import Derived.Test.YtnkdanobhgofbaaGreatDoorVMe
namespace Go.Proofs.YtnkdanobhgofbaaGreatDoor.pv
set_option linter.all false
open Go.RowKit
section
variable {α : Type}
def xFieldA (T : List TI) (s : Nat) (v : XV) (k : Nat) (K : KT α) : Option α := match tfo T s k with
  | some (o, _) => (match v with
    | ⟨.rf l p, d⟩ => K (mkRf l (p ++ [.f k o]) (addF k o p d)) [] []
    | ⟨.ep l s p, d⟩ => K (mkEp l s (p ++ [.f k o]) (Prod.fst (α := Nat) (β := denP p) d) (addF k o p (Prod.snd (α := Nat) (β := denP p) d))) [] []
    | ⟨.dp c p, d⟩ => K (mkDp c (p ++ [.f k o]) (Prod.fst (α := c.den) (β := denP p) d) (addF k o p (Prod.snd (α := c.den) (β := denP p) d))) [] []
    | ⟨.np g p, d⟩ => K (mkNp g (p ++ [.f k o]) (Prod.fst (α := Nat) (β := denP p) d) (addF k o p (Prod.snd (α := Nat) (β := denP p) d))) [] []
    | _ => none)
  | none => none
def xField (T : List TI) (s : Nat) (v : XV) (k : Nat) (K : KT α) : Option α := match tfo T s k, getF k v.t v.x with
  | some (o, ft), some (o', r) => bif Nat.beq o o' && ldOk T ft r.t && v.t.cel then K r [] [] else none
  | _, _ => none
def xIdxA (T : List TI) (m : List (Nat × XO)) (t : Nat) (v : XV) (i : XV) (K : KT α) : Option α := match asI i with
  | some (_, j) => (match v with
    | ⟨.rf l p, d⟩ => (match tarr T t with
      | some (n, _, s) => if h : inb j n = true then K (mkRf l (p ++ [.x n s]) (addI n s ⟨j.toNat, inb_lt h⟩ p d)) [] [] else none
      | none => none)
    | ⟨.ep l s0 p, d⟩ => (match tarr T t with
      | some (n, _, s) => if h : inb j n = true then K (mkEp l s0 (p ++ [.x n s]) (Prod.fst (α := Nat) (β := denP p) d) (addI n s ⟨j.toNat, inb_lt h⟩ p (Prod.snd (α := Nat) (β := denP p) d))) [] [] else none
      | none => none)
    | ⟨.dp c p, d⟩ => (match tarr T t with
      | some (n, _, s) => if h : inb j n = true then K (mkDp c (p ++ [.x n s]) (Prod.fst (α := c.den) (β := denP p) d) (addI n s ⟨j.toNat, inb_lt h⟩ p (Prod.snd (α := c.den) (β := denP p) d))) [] [] else none
      | none => none)
    | ⟨.np g p, d⟩ => (match tarr T t with
      | some (n, _, s) => if h : inb j n = true then K (mkNp g (p ++ [.x n s]) (Prod.fst (α := Nat) (β := denP p) d) (addI n s ⟨j.toNat, inb_lt h⟩ p (Prod.snd (α := Nat) (β := denP p) d))) [] [] else none
      | none => none)
    | ⟨.sl c, xs⟩ => (match tsl T t with
      | some (_, s) => bif Nat.beq s c.sz && c.dat && decide (0 ≤ j) then (lget (α := c.den) xs j.toNat).bind fun y => K (mkDp c [] y ()) [] [] else none
      | none => none)
    | ⟨.sr l, _⟩ => (match tsl T t, lom m l with
      | some (e, s), .ob (.rw e' s' c) xs => bif Nat.beq e e' && Nat.beq s s' && inb j (List.length (α := c.den) xs) then K (mkEp l s [] j.toNat ()) [] [l] else none
      | _, _ => none)
    | ⟨.as l p n s ag, d⟩ => (match tsl T t with
      | some (_, s') => if h : inb (j + (Prod.snd (α := denP p) (β := Nat × Nat) d).1) n = true then (bif Nat.beq s s' && inb j ((Prod.snd (α := denP p) (β := Nat × Nat) d).2 - (Prod.snd (α := denP p) (β := Nat × Nat) d).1) then K (mkRf l (p ++ [.x n s]) (addI n s ⟨(j + (Prod.snd (α := denP p) (β := Nat × Nat) d).1).toNat, inb_lt h⟩ p (Prod.fst (α := denP p) (β := Nat × Nat) d))) [] [] else none) else none
      | none => none)
    | _ => none)
  | none => none
def xIdx (T : List TI) (t : Nat) (v : XV) (i : XV) (K : KT α) : Option α := match asI i with
  | some (_, j) => (match v with
    | ⟨.ar m c, x⟩ => (match tarr T t with
      | some (n, e, s) => if h : (Nat.beq n m && Nat.beq s c.sz) = true then (if h' : inb j n = true then (bif ldOk T e c && c.cel then K ⟨c, gA (n := m) (α := c.den) x (finC h ⟨j.toNat, inb_lt h'⟩)⟩ [] [] else none) else none) else none
      | none => none)
    | ⟨.str, x⟩ => (match tk T t with
      | some .str => bif decide (0 ≤ j) then (lget (α := UInt8) x j.toNat).bind fun y => K ⟨.i .u8, ((y.toNat : Nat) : Int)⟩ [] [] else none
      | _ => none)
    | _ => none)
  | none => none
def isFr (m : List (Nat × XO)) (l : Nat) : Bool := match lom m l with
  | .free => true
  | _ => false
def xAlloc (E : Env) (m : List (Nat × XO)) (nl t : Nat) (K : KT α) : Option α := match (E.cd t).bind zX with
  | some z => (match E.gb t with
    | some g => (match getB m g with
      | some (l, ⟨c, xs⟩) => (match cvN z.t c z.x with
        | some y => bif c.dat then K (mkNp g [] xs.length ()) [(l, .ob (.ab g c) (xs ++ [y]))] [l] else none
        | none => none)
      | none => none)
    | none => K (mkRf nl [] ()) [(nl, .ob (.bx z.t) z.x)] [nl])
  | none => none
def xBox (E : Env) (m : List (Nat × XO)) (nl t : Nat) (v : XV) (K : KT α) : Option α := match E.gb t with
  | some g => (match getB m g with
    | some (l, ⟨c, xs⟩) => (match cvN v.t c v.x with
      | some y => bif v.t.dat && c.dat then K (mkNp g [] xs.length ()) [(l, .ob (.ab g c) (xs ++ [y]))] [l] else none
      | none => none)
    | none => none)
  | none => bif v.t.cel then K (mkRf nl [] ()) [(nl, .ob (.bx v.t) v.x)] [nl] else none
def xNil (v : XV) (K : KT α) : Option α := match v with
  | ⟨.rf l p, d⟩ => K ⟨.rf l p, d⟩ [] []
  | ⟨.ep l s p, d⟩ => K ⟨.ep l s p, d⟩ [] []
  | ⟨.dp c p, d⟩ => K ⟨.dp c p, d⟩ [] []
  | ⟨.np g p, d⟩ => K ⟨.np g p, d⟩ [] []
  | ⟨.cl f t, d⟩ => K ⟨.cl f t, d⟩ [] []
  | ⟨.vp g, x⟩ => (show Option Nat from x).bind fun i => K (mkNp g [] i ()) [] []
  | _ => none
/-- equal or not -/
def eqR (op : BinOp) (z : Bool) : Option XV := match op with
  | .eql => some ⟨.bl, z⟩
  | .neq => some ⟨.bl, !z⟩
  | _ => none
/-- a pointer or a map as a name or nothing -/
def asN : XV → Option (Option Nat × Option Nat)
  | ⟨.vp g, x⟩ => some (some g, x)
  | ⟨.np g [], x⟩ => some (some g, some (Prod.fst (α := Nat) (β := Unit) x))
  | ⟨.nz .np, _⟩ => some (none, none)
  | _ => none
def grpOk : Option Nat → Option Nat → Bool
  | some a, some b => Nat.beq a b
  | _, _ => true
/-- names compared: the group must be at hand -/
def nmEq (m : List (Nat × XO)) (op : BinOp) (g g' : Option Nat) (x y : Option Nat) (K : KT α) : Option α := match eqR op (x == y) with
  | some r => (match g, g' with
    | some g, some g' => bif Nat.beq g g' then (match getB m g with
      | some (l, _) => K r [] [l]
      | none => none) else none
    | _, _ => K r [] [])
  | none => none
def xEq (E : Env) (m : List (Nat × XO)) (t : Nat) (op : BinOp) (v u : XV) (K : KT α) : Option α := match v, u with
  | ⟨.bl, a⟩, ⟨.bl, b⟩ => (match tk E.T t, eqR op ((show Bool from a) == (show Bool from b)) with
    | some .bool, some r => K r [] []
    | _, _ => none)
  | ⟨.rf _ _, _⟩, ⟨.nz .np, _⟩ => (match tptr E.T t, eqR op false with | some _, some r => K r [] [] | _, _ => none)
  | ⟨.ep _ _ _, _⟩, ⟨.nz .np, _⟩ => (match tptr E.T t, eqR op false with | some _, some r => K r [] [] | _, _ => none)
  | ⟨.vm _, x⟩, ⟨.nz .nm, _⟩ => (match E.mpc t, eqR op ((show Option Nat from x).isNone) with | some _, some r => K r [] [] | _, _ => none)
  | ⟨.sr l, _⟩, ⟨.nz .nm, _⟩ => (match lom m l, E.mpc t, eqR op false with | .ob (.mp _ _) _, some _, some r => K r [] [l] | _, _, _ => none)
  | ⟨.nz .nm, _⟩, ⟨.nz .nm, _⟩ => (match E.mpc t, eqR op true with | some _, some r => K r [] [] | _, _ => none)
  | v, u => (match asN v, asN u with
    | some (g, x), some (g', y) => (match tptr E.T t with | some e => (match tsz E.T e with | some (_ + 1) => nmEq m op g g' x y K | _ => none) | none => none)
    | _, _ => none)
/-- structs and arrays compared -/
def xEqA (E : Env) (t : Nat) (op : BinOp) (v u : XV) (K : KT α) : Option α := match castT u.t v.t u.x with
  | some y => bif !(E.P.eqGuardType E.P.depth t) && (match tagg E.T t with | some true => true | _ => false) && ckEq E.P E.T 20 t v.t then (match eqR op (eqT v.t v.x y) with
    | some r => K r [] []
    | none => none) else none
  | none => none
def xBin (E : Env) (m : List (Nat × XO)) (t : Nat) (op : BinOp) (v u : XV) (K : KT α) : Option α := match asI v, asI u with
  | some (k, a), some (k', b) => (match op with
    | .shl => bif decide (0 ≤ b) then K ⟨.i k, wi k (a * 2 ^ (min b.toNat k.bits))⟩ [] [] else none
    | .shr => bif decide (0 ≤ b) then K ⟨.i k, a.fdiv (2 ^ (min b.toNat k.bits))⟩ [] [] else none
    | .quo => bif kEq k k' && (b != 0) then K ⟨.i k, wi k (a.tdiv b)⟩ [] [] else none
    | .rem => bif kEq k k' && (b != 0) then K ⟨.i k, a.tmod b⟩ [] [] else none
    | op => bif kEq k k' then (match xbin op k a b with | some r => K r [] [] | none => none) else none)
  | _, _ => (match v, u with
    | ⟨.str, a⟩, ⟨.str, b⟩ => (match op with
      | .add => bif Nat.ble (List.length (α := UInt8) a + List.length (α := UInt8) b) 9223372036854775807 then K ⟨.str, List.append (α := UInt8) a b⟩ [] [] else none
      | op => (match xbinS op a b with | some r => K r [] [] | none => none))
    | v, u => bif v.t.eqs && v.t.agg then xEqA E t op v u K else xEq E m t op v u K)
def xUn (op : UnOp) (v : XV) (K : KT α) : Option α := match op, v with
  | .neg, ⟨.i k, n⟩ => K ⟨.i k, wi k (0 - (show Int from n))⟩ [] []
  | .xor, ⟨.i k, n⟩ => K ⟨.i k, bits .xor k (if k.signed then -1 else k.max) n⟩ [] []
  | .not, ⟨.bl, b⟩ => K ⟨.bl, !(show Bool from b)⟩ [] []
  | _, _ => none
/-- elements to be read: whose code, the list, the places read -/
def elsX (m : List (Nat × XO)) : XV → Option (Nat × ((c : Ty) × List c.den) × List Nat)
  | ⟨.sl c, xs⟩ => bif c.dat then some (c.sz, ⟨c, xs⟩, []) else none
  | ⟨.sr l, _⟩ => (match lom m l with
    | .ob (.rw _ s c) xs => bif Nat.beq s c.sz && c.dat then some (s, ⟨c, xs⟩, [l]) else none
    | _ => none)
  | ⟨.as l p n s ag, d⟩ => (match lom m l with
    | .ob (.bx c) x => (match getP p (Prod.fst (α := denP p) (β := Nat × Nat) d) ⟨c, x⟩ with
      | some ⟨.ar n' e, y⟩ => bif Nat.beq n n' && Nat.beq s e.sz && e.dat && c.dat && (e.agg == ag) && Nat.ble (Prod.snd (α := denP p) (β := Nat × Nat) d).1 (Prod.snd (α := denP p) (β := Nat × Nat) d).2 && Nat.ble (Prod.snd (α := denP p) (β := Nat × Nat) d).2 n then some (s, ⟨e, (List.take (α := e.den) (Prod.snd (α := denP p) (β := Nat × Nat) d).2 (Subtype.val (p := fun xs : List e.den => xs.length = n') y)).drop (Prod.snd (α := denP p) (β := Nat × Nat) d).1⟩, [l]) else none
      | _ => none)
    | _ => none)
  | _ => none
def srcX (m : List (Nat × XO)) : XV → Option (Nat × ((c : Ty) × List c.den) × List Nat)
  | ⟨.ss l s, d⟩ => (match lom m l with
    | .ob (.rw _ s' c) xs => bif Nat.beq s s' && Nat.beq s c.sz && c.dat && Nat.ble (Prod.snd (α := Nat) (β := Nat) d) (List.length (α := c.den) xs) then some (s, ⟨c, (List.take (α := c.den) (Prod.snd (α := Nat) (β := Nat) d) xs).drop (Prod.fst (α := Nat) (β := Nat) d)⟩, [l]) else none
    | _ => none)
  | v => elsX m v
def u8i (L : List Int) : List UInt8 := L.map fun n => UInt8.ofNat n.toNat
def i8u (L : List UInt8) : List Int := L.map fun n => ((n.toNat : Nat) : Int)
def xConv (T : List TI) (m : List (Nat × XO)) (s t : Nat) (v : XV) (K : KT α) : Option α := match v with
  | ⟨.i _, n⟩ => (match T[s]?, tint T t with
    | some _, some k' => K ⟨.i k', wi k' n⟩ [] []
    | _, _ => none)
  | ⟨.ns, _⟩ => (match tsl T s, tk T t with
    | some (e, _), some .str => (match tint T e with
      | some .u8 => K ⟨.str, ([] : List UInt8)⟩ [] []
      | _ => none)
    | _, _ => none)
  | ⟨.sl (.i .u8), L⟩ => (match tsl T s, tk T t with
    | some (e, _), some .str => (match tint T e with
      | some .u8 => K ⟨.str, u8i L⟩ [] []
      | _ => none)
    | _, _ => none)
  | ⟨.sr l, _⟩ => (match tsl T s, tk T t, lom m l with
    | some (e, _), some .str, .ob (.rw e' 1 (.i .u8)) L => (match tint T e with
      | some .u8 => bif Nat.beq e e' then K ⟨.str, u8i L⟩ [] [l] else none
      | _ => none)
    | _, _, _ => none)
  | _ => none
def xExtract (v : XV) (k : Nat) (K : KT α) : Option α := match v with
  | ⟨.tp t, x⟩ => (match getF k t x with
    | some (_, r) => K r [] []
    | none => none)
  | _ => none
def xLen (T : List TI) (m : List (Nat × XO)) (t : Nat) (v : XV) (K : KT α) : Option α := match v with
  | ⟨.str, x⟩ => (match tk T t with
    | some .str => K ⟨.i .i64, ((List.length (α := UInt8) x : Nat) : Int)⟩ [] []
    | _ => none)
  | ⟨.ns, _⟩ => (match tsl T t with | some _ => K ⟨.i .i64, (0 : Int)⟩ [] [] | none => none)
  | ⟨.ss l s, d⟩ => (match tsl T t with
    | some (_, s') => bif Nat.beq s s' then K ⟨.i .i64, (((Prod.snd (α := Nat) (β := Nat) d) - (Prod.fst (α := Nat) (β := Nat) d) : Nat) : Int)⟩ [] [] else none
    | none => none)
  | ⟨.sl c, xs⟩ => (match tsl T t with
    | some _ => K ⟨.i .i64, ((List.length (α := c.den) xs : Nat) : Int)⟩ [] []
    | none => none)
  | ⟨.sr l, _⟩ => (match lom m l with
    | .ob (.rw _ _ c) xs => (match tsl T t with
      | some _ => K ⟨.i .i64, ((List.length (α := c.den) xs : Nat) : Int)⟩ [] [l]
      | none => none)
    | _ => none)
  | _ => none
/-- what is appended to: the elements so far, which row goes -/
def baseX (m : List (Nat × XO)) (e s : Nat) (c : Ty) : XV → Option (List c.den × List (Nat × XO) × List Nat)
  | ⟨.ns, _⟩ => some ([], [], [])
  | ⟨.sr l, _⟩ => (match lom m l with
    | .ob (.rw e' s' c') xs => bif Nat.beq e e' && Nat.beq s s' then (match castT (.sl c') (.sl c) xs with
      | some ys => some (ys, [(l, .none)], [l])
      | none => none) else none
    | _ => none)
  | ⟨.ss l s0, d⟩ => (match lom m l with
    | .ob (.rw e' s' c') xs => bif Nat.beq e e' && Nat.beq s s' && Nat.beq s s0 && Nat.beq (Prod.fst (α := Nat) (β := Nat) d) 0 && Nat.ble (Prod.snd (α := Nat) (β := Nat) d) (List.length (α := c'.den) xs) then (match castT (.sl c') (.sl c) (List.take (α := c'.den) (Prod.snd (α := Nat) (β := Nat) d) xs) with
      | some ys => some (ys, [(l, .none)], [l])
      | none => none) else none
    | _ => none)
  | _ => none
def xAppend (E : Env) (m : List (Nat × XO)) (nl t : Nat) (v u : XV) (K : KT α) : Option α := match tsl E.T t with
  | some (e, s) => (match E.cd e, E.T[e]? with
    | some c, some ti => bif Nat.beq s c.sz && Nat.beq ti.zero.length s && Nat.blt 0 s && c.dat then (match baseX m e s c v, elsX m u with
      | some (xs, U, ls), some (_, ⟨c', ys⟩, ks) => (match castT (.sl c') (.sl c) ys with
        | some ys => bif lenOk (xs.length + List.length (α := c.den) ys) ti.bytes then K ⟨.sr nl, ()⟩ (U ++ [(nl, .ob (.rw e s c) (xs ++ (show List c.den from ys)))]) (nl :: ls ++ ks) else none
        | none => none)
      | _, _ => none) else none
    | _, _ => none)
  | none => none
/-- zeros appended: so many -/
def xAppZ (E : Env) (m : List (Nat × XO)) (nl t t' : Nat) (v u : XV) (K : KT α) : Option α := match tsl E.T t, tint E.T t', asI u with
  | some (e, s), some _, some (_, j) => (match E.cd e, E.T[e]? with
    | some c, some ti => if h : c.zok = true then (bif c.zdk && Nat.beq s c.sz && Nat.beq ti.zero.length s && Nat.blt 0 s && c.dat && decide (0 < j) then (match baseX m e s c v with
      | some (xs, U, ls) => bif lenOk (xs.length + j.toNat) ti.bytes then K ⟨.sr nl, ()⟩ (U ++ [(nl, .ob (.rw e s c) (xs ++ List.replicate j.toNat (zd c h)))]) (nl :: ls) else none
      | none => none) else none) else none
    | _, _ => none)
  | _, _, _ => none
def optX (ρ : Operand → XV) (dflt : Int) : Option Operand → Option Int
  | none => some dflt
  | some x => (asI (ρ x)).map (·.2)
def xSlice (T : List TI) (ρ : Operand → XV) (m : List (Nat × XO)) (t : Nat) (v : XV) (lo hi : Option Operand) (K : KT α) : Option α := match v with
  | ⟨.sl c, xs⟩ => (match tsl T t, optX ρ 0 lo, optX ρ (List.length (α := c.den) xs) hi with
    | some (_, s), some i, some h => bif Nat.beq s c.sz && c.dat && slOk i h (List.length (α := c.den) xs) then K ⟨.sl c, (List.take (α := c.den) h.toNat xs).drop i.toNat⟩ [] [] else none
    | _, _, _ => none)
  | ⟨.sr l, _⟩ => (match tsl T t, lom m l with
    | some (e, s), .ob (.rw e' s' c) xs => (match optX ρ 0 lo, optX ρ (List.length (α := c.den) xs) hi with
      | some i, some h => bif Nat.beq e e' && Nat.beq s s' && slOk i h (List.length (α := c.den) xs) then K ⟨.ss l s, Prod.mk i.toNat h.toNat⟩ [] [l] else none
      | _, _ => none)
    | _, _ => none)
  | ⟨.ss l s0, d⟩ => (match tsl T t, lom m l with
    | some (e, s), .ob (.rw e' s' c) xs => (match optX ρ 0 lo, optX ρ (Prod.snd (α := Nat) (β := Nat) d : Nat) hi with
      | some i, some h => bif Nat.beq e e' && Nat.beq s s' && Nat.beq s s0 && Nat.beq (Prod.fst (α := Nat) (β := Nat) d) 0 && slOk i h (List.length (α := c.den) xs) then K ⟨.ss l s, Prod.mk i.toNat h.toNat⟩ [] [l] else none
      | _, _ => none)
    | _, _ => none)
  | ⟨.rf l p, d⟩ => (match tarr T t with
    | some (n, e, s) => (match tagg T e, optX ρ 0 lo, optX ρ n hi with
      | some ag, some i, some h => bif Nat.ble n maxLen && slOk i h n && decide (i < n) then K ⟨.as l p n s ag, Prod.mk d (Prod.mk i.toNat h.toNat)⟩ [] [] else none
      | _, _, _ => none)
    | none => none)
  | ⟨.ns, _⟩ => (match tsl T t, optX ρ 0 lo, optX ρ 0 hi with
    | some _, some i, some h => bif (i == 0) && (h == 0) then K ⟨.ns, ()⟩ [] [] else none
    | _, _, _ => none)
  | _ => none
/-- the same operand -/
def opEq : Operand → Operand → Bool
  | .tmp a, .tmp b => Nat.beq a b
  | .const (.int k a), .const (.int k' b) => kEq k k' && (a == b)
  | _, _ => false
def xMkSl (E : Env) (nl t : Nat) (v : XV) (K : KT α) : Option α := match tsl E.T t, asI v with
  | some (e, s), some (_, j) => (match E.cd e, E.T[e]? with
    | some c, some ti => if h : c.zok = true then (bif c.zdk && Nat.beq s c.sz && Nat.beq ti.zero.length s && Nat.blt 0 s && c.dat && mkOk j ti.bytes then K ⟨.sr nl, ()⟩ [(nl, .ob (.rw e s c) (List.replicate j.toNat (zd c h)))] [nl] else none) else none
    | _, _ => none)
  | _, _ => none
/-- parts by their places -/
def partsX (c : Ty) : Nat → List (Nat × XV) → Option (List c.den)
  | _, [] => some []
  | i, (k, v) :: r => bif Nat.beq i k && v.t.dat then (match cvN v.t c v.x, partsX c (i + 1) r with
    | some y, some ys => some (y :: ys)
    | _, _ => none) else none
def xBuildS (E : Env) (nl t len : Nat) (ps : List (Nat × XV)) (K : KT α) : Option α := match tsl E.T t with
  | some (e, s) => (match E.cd e, E.T[e]? with
    | some c, some ti => bif Nat.beq s c.sz && !ti.zero.isEmpty && Nat.blt 0 s && c.dat && c.zdk && Nat.beq len ps.length && Nat.ble (len * s) 16777216 then (match partsX c 0 ps with
      | some xs => K ⟨.sr nl, ()⟩ [(nl, .ob (.rw e s c) xs)] [nl]
      | none => none) else none
    | _, _ => none)
  | none => none
/-- parts laid into a zero value -/
def plB (pl : Nat → Option (Nat × Nat)) (k o s : Nat) : Bool := match pl k with
  | some (o', s') => Nat.beq o o' && Nat.beq s s'
  | none => false
def fill1 (pl : Nat → Option (Nat × Nat)) (k : Nat) (u : XV) : XV → Option XV
  | ⟨.ar n c, x⟩ => if h : Nat.blt k n = true then (match conv u.t c u.x with
      | some y => bif plB pl k (k * c.sz) c.sz && u.t.cel && c.cel then some ⟨.ar n c, sA (n := n) (α := c.den) x ⟨k, by simpa using h⟩ y⟩ else none
      | none => none) else none
  | v => (match getF k v.t v.x, setF k v.t v.x u with
      | some (o, w), some v' => bif plB pl k o w.t.sz && u.t.cel && Nat.beq u.t.sz w.t.sz then some v' else none
      | _, _ => none)
def fillX (pl : Nat → Option (Nat × Nat)) (v : XV) : List (Nat × XV) → Option XV
  | [] => some v
  | (k, u) :: r => (match fill1 pl k u v with
    | some v' => fillX pl v' r
    | none => none)
def xBuild (E : Env) (t : Nat) (ps : List (Nat × XV)) (K : KT α) : Option α := match (E.cd t).bind zX, tplaces E.T t with
  | some z, some pl => (match fillX pl z ps with
    | some r => bif r.t.agg then K r [] [] else none
    | none => none)
  | _, _ => none
/-- captured values, each in one cell -/
def capT : List XV → XV
  | [] => ⟨.un, ()⟩
  | v :: r => ⟨.pr v.t (capT r).t, pmk v.x (capT r).x⟩
def one1 (v : XV) : Bool := v.t.cel && !v.t.agg
def xMkFn (g : FuncId) (caps : List XV) (K : KT α) : Option α := bif caps.all one1 then K ⟨.cl g (capT caps).t, (capT caps).x⟩ [] [] else none
/-- the parts of a bundle of values -/
def capX : (t : Ty) → t.den → List XV
  | .pr a b, x => ⟨a, p1 x⟩ :: capX b (p2 x)
  | _, _ => []
/-- what a copy is taken from: also a text -/
def srcC (m : List (Nat × XO)) : XV → Option (Nat × ((c : Ty) × List c.den) × List Nat)
  | ⟨.str, L⟩ => some (1, ⟨.i .u8, i8u L⟩, [])
  | v => srcX m v
/-- a copy into a slice -/
def cpyR {α : Type} (L : List α) (i j : Nat) (Y : List α) : List α := L.take i ++ Y.take (j - i) ++ L.drop (i + Nat.min Y.length (j - i))
def xCopy (T : List TI) (m : List (Nat × XO)) (t : Nat) (v u : XV) (K : KT α) : Option α := match tsl T t with
  | some (e, s) => bif T[e]?.isSome then (match v with
    | ⟨.ss l s0, d⟩ => (match lom m l with
      | .ob (.rw e' s' c) xs => bif Nat.beq e e' && Nat.beq s s' && Nat.beq s s0 && c.dat && Nat.beq s c.sz && Nat.ble (Prod.snd (α := Nat) (β := Nat) d) (List.length (α := c.den) xs) then (match srcC m u with
        | some (_, ⟨c', ys⟩, ks) => (match castT (.sl c') (.sl c) ys with
          | some ys => K ⟨.i .i64, ((Nat.min (List.length (α := c.den) ys) (Prod.snd (α := Nat) (β := Nat) d - Prod.fst (α := Nat) (β := Nat) d) : Nat) : Int)⟩ [(l, .ob (.rw e' s' c) (cpyR (α := c.den) xs (Prod.fst (α := Nat) (β := Nat) d) (Prod.snd (α := Nat) (β := Nat) d) ys))] (l :: ks)
          | none => none)
        | none => none) else none
      | _ => none)
    | ⟨.sr l, _⟩ => (match lom m l with
      | .ob (.rw e' s' c) xs => bif Nat.beq e e' && Nat.beq s s' && c.dat && Nat.beq s c.sz then (match srcC m u with
        | some (_, ⟨c', ys⟩, ks) => (match castT (.sl c') (.sl c) ys with
          | some ys => K ⟨.i .i64, ((Nat.min (List.length (α := c.den) ys) (List.length (α := c.den) xs - 0) : Nat) : Int)⟩ [(l, .ob (.rw e' s' c) (cpyR (α := c.den) xs 0 (List.length (α := c.den) xs) ys))] (l :: ks)
          | none => none)
        | none => none) else none
      | _ => none)
    | ⟨.as l p n s0 ag, d⟩ => (match lom m l with
      | .ob (.bx c) x => (match getP p (Prod.fst (α := denP p) (β := Nat × Nat) d) ⟨c, x⟩ with
        | some ⟨.ar n' e, y⟩ => (match srcX m u with
          | some (_, ⟨c', ys⟩, ks) => (match castT (.sl c') (.sl e) ys with
            | some ys => if hl : (cpyR (α := e.den) (Subtype.val (α := List e.den) y) (Prod.snd (α := denP p) (β := Nat × Nat) d).1 (Prod.snd (α := denP p) (β := Nat × Nat) d).2 ys).length = n' then (match setP p (Prod.fst (α := denP p) (β := Nat × Nat) d) ⟨c, x⟩ ⟨.ar n' e, ⟨_, hl⟩⟩ with
              | some r => bif Nat.beq n n' && Nat.beq s s0 && Nat.beq s e.sz && e.dat && c.cel && !memN l ks && Nat.ble (Prod.snd (α := denP p) (β := Nat × Nat) d).1 (Prod.snd (α := denP p) (β := Nat × Nat) d).2 && Nat.ble (Prod.snd (α := denP p) (β := Nat × Nat) d).2 n then K ⟨.i .i64, ((Nat.min (List.length (α := e.den) ys) ((Prod.snd (α := denP p) (β := Nat × Nat) d).2 - (Prod.snd (α := denP p) (β := Nat × Nat) d).1) : Nat) : Int)⟩ [(l, .ob (.bx r.t) r.x)] (l :: ks) else none
              | none => none) else none
            | none => none)
          | none => none)
        | _ => none)
      | _ => none)
    | _ => none) else none
  | none => none
def clrR {α : Type} (L : List α) (i j : Nat) (z : α) : List α := L.take i ++ List.replicate (j - i) z ++ L.drop j
def xClear (E : Env) (m : List (Nat × XO)) (t : Nat) (v : XV) (K : KT α) : Option α := match tsl E.T t, v with
  | some (e, s), ⟨.ss l s0, d⟩ => (match lom m l, E.cd e, E.T[e]? with
    | .ob (.rw e' s' c) xs, some c', some ti => if h : c.zok = true then (bif c.zdk && c.beq c' && Nat.beq e e' && Nat.beq s s' && Nat.beq s s0 && Nat.beq s c.sz && Nat.beq ti.zero.length s && Nat.blt 0 s && c.dat && Nat.ble (Prod.fst (α := Nat) (β := Nat) d) (Prod.snd (α := Nat) (β := Nat) d) && Nat.ble (Prod.snd (α := Nat) (β := Nat) d) (List.length (α := c.den) xs) then K dd [(l, .ob (.rw e' s' c) (clrR (α := c.den) xs (Prod.fst (α := Nat) (β := Nat) d) (Prod.snd (α := Nat) (β := Nat) d) (zd c h)))] [l] else none) else none
    | _, _, _ => none)
  | _, _ => none
def xMin2 (f : Int → Int → Int) (v u : XV) (K : KT α) : Option α := match asI v, asI u with
  | some (k, a), some (k', b) => bif kEq k k' then K ⟨.i k, f a b⟩ [] [] else none
  | _, _ => none
def xMin3 (f : Int → Int → Int) (v u w : XV) (K : KT α) : Option α := match asI v, asI u, asI w with
  | some (k, a), some (k', b), some (k'', c) => bif kEq k k' && kEq k k'' then K ⟨.i k, f (f a b) c⟩ [] [] else none
  | _, _, _ => none
/-- maps -/
def xMkMap (E : Env) (m : List (Nat × XO)) (nl t : Nat) (K : KT α) : Option α := match E.cd t with
  | some (.vm g) => (match getM m g with
    | some (l, ⟨a, b, xs⟩) => K ⟨.vm g, some xs.length⟩ [(l, .ob (.am g a b) (xs ++ [[]]))] [l]
    | none => none)
  | _ => (match E.mpc t with
    | some (a, b) => K ⟨.sr nl, ()⟩ [(nl, .ob (.mp a b) ([] : List (a.den × b.den)))] [nl]
    | none => none)
/-- a map that is looked into: where it lies, keys and values, its entries (nothing: it is nil), how it is put back -/
def getMap (m : List (Nat × XO)) : XV → Option (Nat × ((a b : Ty) × (Option (List (a.den × b.den)) × (List (a.den × b.den) → XO))))
  | ⟨.sr l, _⟩ => (match lom m l with
    | .ob (.mp a b) D => some (l, ⟨a, b, some D, fun D => .ob (.mp a b) D⟩)
    | _ => none)
  | ⟨.vm g, x⟩ => (match getM m g with
    | some (l, ⟨a, b, xs⟩) => (match (show Option Nat from x) with
      | some i => (match lget xs i with
        | some D => some (l, ⟨a, b, some D, fun D => .ob (.am g a b) (lset xs i D)⟩)
        | none => none)
      | none => some (l, ⟨a, b, none, fun _ => .none⟩))
    | none => none)
  | _ => none
/-- a group while a loop goes through one of its maps -/
def findA (g : Nat) : List (Nat × XO) → Option Nat
  | [] => none
  | (l, .ex (.ah g' _ _ _ _ _)) :: r => bif Nat.beq g g' then some l else findA g r
  | _ :: r => findA g r
def getA (m : List (Nat × XO)) (g : Nat) : Option (Nat × (a b : Ty) × Nat × Nat × List (List (a.den × b.den))) := match findA g m with
  | some l => (match lom m l with
    | .ex (.ah g' a b i lg xs) => bif Nat.beq g g' then some (l, ⟨a, b, i, lg, xs⟩) else none
    | _ => none)
  | none => none
/-- in steps: a name's map -/
def withMap (m : List (Nat × XO)) (v : XV) (K : (l : Nat) → (a b : Ty) → Option (List (a.den × b.den)) → (List (a.den × b.den) → XO) → Option α) : Option α := match v with
  | ⟨.sr l, _⟩ => (match lom m l with
    | .ob (.mp a b) D => K l a b (some D) fun D => .ob (.mp a b) D
    | _ => none)
  | ⟨.vm g, x⟩ => (match getM m g with
    | some (l, ⟨a, b, xs⟩) => oc (show Option Nat from x) (K l a b none fun _ => .none) fun i => (lget xs i).bind fun D => K l a b (some D) fun D => .ob (.am g a b) (lset xs i D)
    | none => (match getA m g with
      | some (l, ⟨a, b, i, lg, xs⟩) => oc (show Option Nat from x) none fun j => bif Nat.beq j i then none else (lget xs j).bind fun D => K l a b (some D) fun D => .ex (.ah g a b i lg (lset xs j D))
      | none => none))
  | _ => none
/-- the map's type is this -/
def mtOk (E : Env) (t : Nat) (a b : Ty) : Bool := match E.mpc t with
  | some (a', b') => a.beq a' && b.beq b'
  | none => false
def xLook (E : Env) (m : List (Nat × XO)) (t : Nat) (v u : XV) (ok : Bool) (K : KT α) : Option α := withMap m v fun l a b D _ => match castT u.t a u.x, zX b with
  | some k, some z => bif mtOk E t a b && b.dat then (match D with
    | some D => if h : z.t.beq b = true then (bif ok then K ⟨.tp (.pr b (.pr .bl .un)), pmk ((mlook (eqT a) D k).getD (Ty.eq_of h ▸ z.x)) (pmk (mlook (eqT a) D k).isSome ())⟩ [] [l] else K ⟨b, (mlook (eqT a) D k).getD (Ty.eq_of h ▸ z.x)⟩ [] [l])
      else oc (mlook (eqT a) D k) (bif ok then K ⟨.tp (.pr z.t (.pr .bl .un)), pmk z.x (pmk false ())⟩ [] [l] else K z [] [l]) fun y => bif ok then K ⟨.tp (.pr b (.pr .bl .un)), pmk y (pmk true ())⟩ [] [l] else K ⟨b, y⟩ [] [l]
    | none => bif ok then K ⟨.tp (.pr z.t (.pr .bl .un)), pmk z.x (pmk false ())⟩ [] [l] else K z [] [l]) else none
  | _, _ => none
def xMapUp (E : Env) (m : List (Nat × XO)) (t : Nat) (v u w : XV) (K : KT α) : Option α := withMap m v fun l a b D f => match castT u.t a u.x, conv w.t b w.x with
  | some k, some y => bif mtOk E t a b && b.dat && w.t.dat then D.bind fun D => K dd [(l, f (mput (ltT a) (eqT a) D k y))] [l] else none
  | _, _ => none
def xMapDel (E : Env) (m : List (Nat × XO)) (t : Nat) (v u : XV) (K : KT α) : Option α := withMap m v fun l a b D f => match castT u.t a u.x with
  | some k => bif mtOk E t a b && b.dat then (match D with
    | some D => K dd [(l, f (mdel (eqT a) D k))] [l]
    | none => K dd [] [l]) else none
  | none => none
def xMapLen (E : Env) (m : List (Nat × XO)) (t : Nat) (v : XV) (K : KT α) : Option α := withMap m v fun l a b D _ => bif mtOk E t a b then (match D with
    | some D => K ⟨.i .i64, ((List.length (α := a.den × b.den) D : Nat) : Int)⟩ [] [l]
    | none => K ⟨.i .i64, (0 : Int)⟩ [] [l]) else none
/-- loops over maps: their begin, the entry at hand -/
def xRange (E : Env) (m : List (Nat × XO)) (nl t : Nat) (v : XV) (K : KT α) : Option α := match v with
  | ⟨.sr l, _⟩ => (match lom m l with
    | .ob (.mp a b) D => bif mtOk E t a b && b.dat then K ⟨.sr nl, ()⟩ [(nl + 1, .ex .gs), (nl, .ex (.it a b true l (nl + 1) D none none)), (l, .ex (.lk a b (nl + 1) D))] [nl + 1, nl, l] else none
    | _ => none)
  | ⟨.vm g, x⟩ => (match getM m g with
    | some (l, ⟨a, b, xs⟩) => (show Option Nat from x).bind fun i => (lget xs i).bind fun D => bif mtOk E t a b && b.dat then K ⟨.sr nl, ()⟩ [(nl + 1, .ex .gs), (nl, .ex (.it a b false g (nl + 1) D none none)), (l, .ex (.ah g a b i (nl + 1) xs))] [nl + 1, nl, l] else none
    | none => none)
  | _ => none
def xEntry (m : List (Nat × XO)) (v : XV) (K : KT α) : Option α := match v with
  | ⟨.sr li, _⟩ => (match lom m li with
    | .ex (.it a b own l lg _ (some p) none) => bif a.ky && b.dat then (bif own then (match lom m l with
        | .ex (.lk _ _ lg' _) => bif Nat.beq lg lg' then K ⟨.tp (.pr a (.pr b .un)), pmk p.1 (pmk p.2 ())⟩ [] [li, l] else none
        | _ => none) else (match getA m l with
        | some (l', ⟨_, _, _, lg', _⟩) => bif Nat.beq lg lg' then K ⟨.tp (.pr a (.pr b .un)), pmk p.1 (pmk p.2 ())⟩ [] [li, l'] else none
        | none => none)) else none
    | _ => none)
  | _ => none
/-- calls -/
def zipK (kp : List Nat) : Nat → List Nat → List XO → List (Nat × XO)
  | k, l :: r, o :: os => bif memN k kp then zipK kp (k + 1) r os else (l, o) :: zipK kp (k + 1) r os
  | _, _, _ => []
/-- an argument as what is declared: nil as an empty slice -/
def nslX : Ty → (t : Ty) → t.den → XV
  | .sl c, .ns, _ => ⟨.sl c, ([] : List c.den)⟩
  | _, .np g [], x => ⟨.vp g, some (Prod.fst (α := Nat) (β := Unit) x)⟩
  | _, .ns, _ => ⟨.sl .un, ([] : List Unit)⟩
  | .pr c d, .pr a b, x => ⟨.pr (nslX c a (p1 x)).t (nslX d b (p2 x)).t, pmk (nslX c a (p1 x)).x (nslX d b (p2 x)).x⟩
  | _, .pr a b, x => ⟨.pr (nslX .un a (p1 x)).t (nslX .un b (p2 x)).t, pmk (nslX .un a (p1 x)).x (nslX .un b (p2 x)).x⟩
  | _, t, x => ⟨t, x⟩
def argsX (cd : Nat → Option Ty) : List XV → List Nat → List XV
  | v :: r, t :: ts => nslX ((cd t).getD .un) v.t v.x :: argsX cd r ts
  | v :: r, [] => nslX .un v.t v.x :: argsX cd r []
  | [], _ => []
/-- a value as data, for a call that only looks -/
def viewX (m : List (Nat × XO)) : (t : Ty) → t.den → Option XV
  | .pr a b, x => match viewX m a (p1 x), viewX m b (p2 x) with
    | some v, some u => some ⟨.pr v.t u.t, pmk v.x u.x⟩
    | _, _ => none
  | .rf l p, d => (match lom m l with
    | .ob (.bx c) x => bif c.dat then some (mkDp c p x d) else none
    | _ => none)
  | .cl f t, x => (match viewX m t x with
    | some v => some ⟨.cl f v.t, v.x⟩
    | none => none)
  | .sr l, _ => (match lom m l with
    | .ob (.rw _ s c) xs => bif Nat.beq s c.sz && c.dat then some ⟨.sl c, xs⟩ else none
    | _ => none)
  | .ss l s, d => (match lom m l with
    | .ob (.rw _ s' c) xs => bif Nat.beq s s' && Nat.beq s c.sz && c.dat && Nat.ble (Prod.fst (α := Nat) (β := Nat) d) (Prod.snd (α := Nat) (β := Nat) d) && Nat.ble (Prod.snd (α := Nat) (β := Nat) d) (List.length (α := c.den) xs) then some ⟨.sl c, (List.take (α := c.den) (Prod.snd (α := Nat) (β := Nat) d) xs).drop (Prod.fst (α := Nat) (β := Nat) d)⟩ else none
    | _ => none)
  | t, x => bif t.dat then some ⟨t, x⟩ else none
def viewL (m : List (Nat × XO)) : List XV → Option (List XV)
  | [] => some []
  | v :: r => match viewX m v.t v.x, viewL m r with
    | some u, some us => some (u :: us)
    | _, _ => none
/-- a part of a row as an argument: its bounds are asked for ahead -/
def ssOk (m : List (Nat × XO)) : XV → Bool
  | ⟨.ss l _, d⟩ => (match lom m l with
    | .ob (.rw _ _ c) xs => Nat.ble (Prod.fst (α := Nat) (β := Nat) d) (Prod.snd (α := Nat) (β := Nat) d) && Nat.ble (Prod.snd (α := Nat) (β := Nat) d) (List.length (α := c.den) xs)
    | _ => false)
  | _ => true
def viewT (m : List (Nat × XO)) : XV → Option XV
  | ⟨.ss l s, d⟩ => (match lom m l with
    | .ob (.rw _ s' c) xs => bif Nat.beq s s' && Nat.beq s c.sz && c.dat then some ⟨.sl c, (List.take (α := c.den) (Prod.snd (α := Nat) (β := Nat) d) xs).drop (Prod.fst (α := Nat) (β := Nat) d)⟩ else none
    | _ => none)
  | v => viewX m v.t v.x
def viewL0 (m : List (Nat × XO)) : List XV → Option (List XV)
  | [] => some []
  | v :: r => match viewT m v, viewL0 m r with
    | some u, some us => some (u :: us)
    | _, _ => none
/-- only truth values, numbers, texts -/
def Ty.flatD : Ty → Bool
  | .i _ | .bl | .str | .un => true
  | .pr a b => a.flatD && b.flatD
  | _ => false
def Ty.flatP : Ty → Bool
  | .pr a b => a.flatD && b.flatP
  | .un => true
  | _ => false
def Ty.flatR : Ty → Bool
  | .tp t => t.flatP
  | t => t.flatD
/-- a look that hands back a new row of plain elements -/
def xLookRow (nl : Nat) (ls : List Nat) (rt : Ty) (os : List XO) (K : KT α) : Option α := match rt, os with
  | .sr 0, [.ob (.rw e s c) xs] => bif c.flatD then K ⟨.sr nl, ()⟩ [(nl, .ob (.rw e s c) xs)] (nl :: ls) else none
  | _, _ => none
def xLookCall (E : Env) (call : CallT E) (m : List (Nat × XO)) (nl : Nat) (g : FuncId) (vs cs : List XV) (K : KT α) : Option α := bif !(vs ++ cs).all (ssOk m) then none else match viewL0 m (vs ++ cs) with
  | some ws => (bif (altsOf E g (ksOut E g ws []).length).isEmpty then none else call g ws []).bind fun x => altK (ksR E g (ksOut E g ws [])) (altsOf E g (ksOut E g ws []).length) x fun rt new y =>
      bif new.isEmpty then (bif rt.flatR then K ⟨rt, p1 y⟩ [] ((vs ++ cs).flatMap fun v => locsT v.t) else none)
      else xLookRow nl ((vs ++ cs).flatMap fun v => locsT v.t) rt (unb (ksR E g (ksOut E g ws []) ++ new) (p2 y)) K
  | none => none
/-- may it be handed over? -/
def okH4 (s : List Nat) : XO → Bool
  | .ob (.bx t) _ => t.flt && (locsT t).all (memN · s)
  | .ob .no _ => false
  | .ob _ _ => true
  | _ => false
/-- captured values, one cell each -/
def capOk : Ty → Bool
  | .pr a b => a.cel && !a.agg && capOk b
  | .un => true
  | _ => false
def bxF : OK → Bool
  | .bx t => t.flt
  | _ => true
def xCall (E : Env) (call : CallT E) (m : List (Nat × XO)) (nl : Nat) (g : FuncId) (ara : List Nat) (vs cs : List XV) (K : KT α) : Option α :=
  let s := addL (reach m 200 [] ((vs ++ cs).flatMap fun v => locsT v.t)) (ara.filterMap fun t => findB t m)
  let g1 := idxD s
  let hs := s.map fun l => rnO g1 (lom m l)
  let ws := (vs ++ cs).map (rnV g1)
  let ks := ksOut E g ws hs
  bif ((vs ++ cs).all fun v => v.t.flt && (locsT v.t).all (memN · s)) && s.all (fun l => okH4 s (lom m l)) && nodup s && (E.kp g hs.length).all (fun k => Nat.blt k hs.length) then
    (bif (altsOf E g ks.length).isEmpty then none else call g ws hs).bind fun x => altK (ksR E g ks) (altsOf E g ks.length) x fun rt new y =>
      let τ := s ++ (List.range new.length).map (nl + ·)
      bif nodup τ && Nat.ble new.length 16 && rt.flt && (ksR E g ks ++ new).all bxF then
        K (rnV (τ.getD · 0) ⟨rt, p1 y⟩) (zipK (E.kp g hs.length) 0 τ ((unb (ksR E g ks ++ new) (p2 y)).map (rnO (τ.getD · 0)))) τ
      else none
  else none
/-- interface values: made of a value of one cell; a method of a pointer's type is called -/
def notIf : TypeDesc → Bool
  | .interface _ => false
  | _ => true
def methAt (P : Program) (t : TypeId) (name : String) : Option FuncId :=
  match P.info? t, P.underlying t with
  | some i, some (.pointer _) => (match i.methods.find? (·.name == name) with
    | some m => (match m.path.toList, m.func with
      | [], some (g, true) => some g
      | _, _ => none)
    | none => none)
  | _, _ => none
def xIfc (E : Env) (t : Nat) (v : XV) (K : KT α) : Option α := match E.P.underlying t with
  | some u => bif notIf u && one1 v then K ⟨.ic t v.t, v.x⟩ [] [] else none
  | none => none
def xInv (E : Env) (call : CallT E) (m : List (Nat × XO)) (nl : Nat) (name : String) (v : XV) (vs : List XV) (K : KT α) : Option α := match v with
  | ⟨.ic t u, x⟩ => (match methAt E.P t name with
    | some g => xCall E call m nl g (E.ara g) (⟨u, x⟩ :: vs) [] K
    | none => none)
  | _ => none
end
end Go.Proofs.YtnkdanobhgofbaaGreatDoor.pv
