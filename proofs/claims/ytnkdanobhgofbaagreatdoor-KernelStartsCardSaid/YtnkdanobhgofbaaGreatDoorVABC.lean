/- Typed values: codes, what they stand for, and what they are in a frame. -/
import Derived.Test.YtnkdanobhgofbaaGreatDoorSAB
namespace Go.Proofs.YtnkdanobhgofbaaGreatDoor.pv
set_option linter.all false
open Go.RowKit

inductive Step where
  | f (k o : Nat)
  | x (n s : Nat)
inductive Ty where
  | i (k : IntKind)
  | bl
  | str
  | un
  | pr (a b : Ty)
  | ar (n : Nat) (t : Ty)
  | sl (t : Ty)
  | ns
  | nz (z : Z)
  | vp (g : Nat)
  | np (g : Nat) (p : List Step)
  | vm (g : Nat)
  | rf (l : Nat) (p : List Step)
  | ep (l s : Nat) (p : List Step)
  | dp (t : Ty) (p : List Step)
  | sr (l : Nat)
  | ss (l s : Nat)
  | as (l : Nat) (p : List Step) (n s : Nat) (ag : Bool)
  | cl (f : FuncId) (t : Ty)
  | ic (tid : Nat) (t : Ty)
  | tp (t : Ty)
  | mc (a b : Ty)
  | sm (a b : Ty)
  | ud
  | dead
def denP : List Step → Type
  | [] => Unit
  | .f _ _ :: p => denP p
  | .x n _ :: p => Fin n × denP p
def Ar (n : Nat) (α : Type) : Type := {xs : List α // xs.length = n}
def Ty.den : Ty → Type
  | .i _ => Int
  | .bl => Bool
  | .str => List UInt8
  | .un => Unit
  | .pr a c => a.den × c.den
  | .ar n t => Ar n t.den
  | .sl t => List t.den
  | .ns => Unit
  | .nz _ => Unit
  | .vp _ => Option Nat
  | .np _ p => Nat × denP p
  | .vm _ => Option Nat
  | .rf _ p => denP p
  | .ep _ _ p => Nat × denP p
  | .dp t p => t.den × denP p
  | .sr _ => Unit
  | .ss _ _ => Nat × Nat
  | .as _ p _ _ _ => denP p × Nat × Nat
  | .cl _ t => t.den
  | .ic _ t => t.den
  | .tp t => t.den
  | .mc a b => List (a.den × b.den)
  | .sm a b => a.den ⊕ b.den
  | .ud => Unit
  | .dead => Unit
structure XV where
  t : Ty
  x : t.den
def p1 {a c : Ty} (x : (Ty.pr a c).den) : a.den := Prod.fst x
def p2 {a c : Ty} (x : (Ty.pr a c).den) : c.den := Prod.snd x
def pmk {a c : Ty} (x : a.den) (y : c.den) : (Ty.pr a c).den := Prod.mk x y
def gA {n : Nat} {α : Type} (x : Ar n α) (j : Fin n) : α := x.1.get ⟨j.1, by rw [x.2]; exact j.2⟩
def sA {n : Nat} {α : Type} (x : Ar n α) (j : Fin n) (v : α) : Ar n α := ⟨x.1.set j.1 v, by rw [List.length_set]; exact x.2⟩
def nA (n : Nat) {α : Type} (v : α) : Ar n α := ⟨List.replicate n v, List.length_replicate⟩
def dd : XV := ⟨.dead, ()⟩
def Ty.agg : Ty → Bool
  | .pr _ _ | .un | .ar _ _ => true
  | _ => false
/-- how many cells -/
def Ty.sz : Ty → Nat
  | .pr a b => a.sz + b.sz
  | .un => 0
  | .ar n t => n * t.sz
  | _ => 1
/-- where a pointer of such steps leads to, in cells -/
def offP : (p : List Step) → denP p → Nat
  | [], _ => 0
  | .f _ o :: p, d => o + offP p d
  | .x n s :: p, d => (Prod.fst (α := Fin n) (β := denP p) d).1 * s + offP p (Prod.snd (α := Fin n) (β := denP p) d)
def ofL (x : List UInt8) : ByteArray := ⟨x.toArray⟩
structure Rp where
  cells : List FV
  fv : FV
  parts : List FV
  pcs : List PV
  pv : PV
def Rp.one (x : FV) : Rp := ⟨[x], x, [], [], .v .nilFunc⟩
def Rp.dat (x : PV) : Rp := ⟨[.d x], .d x, [], [x], x⟩
def rep : (t : Ty) → t.den → Rp
  | .i k, x => .dat (.v (.int k x))
  | .bl, x => .dat (.v (.bool x))
  | .str, x => .dat (.v (.string (ofL x)))
  | .un, _ => ⟨[], .d (.agg []), [], [], .agg []⟩
  | .pr a b, x => ⟨(rep a (p1 x)).cells ++ (rep b (p2 x)).cells, mkAgg ((rep a (p1 x)).cells ++ (rep b (p2 x)).cells), (rep a (p1 x)).fv :: (rep b (p2 x)).parts, (rep a (p1 x)).pcs ++ (rep b (p2 x)).pcs, .agg ((rep a (p1 x)).pcs ++ (rep b (p2 x)).pcs)⟩
  | .ar n t, x => ⟨(Subtype.val (α := List t.den) x).flatMap fun y => (rep t y).cells, mkAgg ((Subtype.val (α := List t.den) x).flatMap fun y => (rep t y).cells), [], (Subtype.val (α := List t.den) x).flatMap fun y => (rep t y).pcs, .agg ((Subtype.val (α := List t.den) x).flatMap fun y => (rep t y).pcs)⟩
  | .sl t, x => .dat (.sl (List.map (fun y => (rep t y).pv) x))
  | .ns, _ => .dat vnil
  | .nz z, _ => .dat z.pv
  | .vp g, x => match (show Option Nat from x) with
    | some i => .dat (.vp g i 0)
    | none => .dat (.v (.pointer none))
  | .np g p, x => .dat (.vp g (Prod.fst (α := Nat) (β := denP p) x) (offP p (Prod.snd (α := Nat) (β := denP p) x)))
  | .vm g, x => match (show Option Nat from x) with
    | some i => .dat (.vm g i)
    | none => .dat (.v (.map none))
  | .rf l p, x => .one (.ref l (offP p x))
  | .ep l s p, x => .one (.ept l s (Prod.fst (α := Nat) (β := denP p) x) (offP p (Prod.snd (α := Nat) (β := denP p) x)))
  | .dp t p, x => .dat (.iptr (rep t (Prod.fst (α := t.den) (β := denP p) x)).pcs (offP p (Prod.snd (α := t.den) (β := denP p) x)))
  | .sr l, _ => .one (.srf l)
  | .ss l s, x => .one (.ssl l (Prod.fst (α := Nat) (β := Nat) x) (Prod.snd (α := Nat) (β := Nat) x) s)
  | .as l p n s ag, x => .one (.asl l (offP p (Prod.fst (α := denP p) (β := Nat × Nat) x) + (Prod.snd (α := denP p) (β := Nat × Nat) x).1 * s) ((Prod.snd (α := denP p) (β := Nat × Nat) x).2 - (Prod.snd (α := denP p) (β := Nat × Nat) x).1) (n - (Prod.snd (α := denP p) (β := Nat × Nat) x).1) s ag)
  | .cl f t, x => ⟨[mkClo f (rep t x).cells], mkClo f (rep t x).cells, [], [.clo f (rep t x).pcs], .clo f (rep t x).pcs⟩
  | .ic tid t, x => .one (.ifc tid (rep t x).fv)
  | .tp t, x => ⟨[], .tup (rep t x).parts, [], [], .v .nilFunc⟩
  | .mc _ _, _ => ⟨[], .dead, [], [], .v .nilFunc⟩
  | .sm _ _, _ => ⟨[], .dead, [], [], .v .nilFunc⟩
  | .ud, _ => ⟨[], .d (.tup []), [], [], .v .nilFunc⟩
  | .dead, _ => ⟨[], .dead, [], [], .v .nilFunc⟩
def XV.rep (v : XV) : Rp := pv.rep v.t v.x
def XV.fv (v : XV) : FV := v.rep.fv
def XV.cells (v : XV) : List FV := v.rep.cells
/-- data: no reference to a private object in it -/
def Ty.dat : Ty → Bool
  | .i _ | .bl | .str | .un | .ns | .nz _ | .vp _ | .np _ _ | .vm _ => true
  | .pr a b => a.dat && b.dat
  | .ar _ t => t.dat
  | .sl t => t.dat
  | .dp t _ => t.dat
  | .cl _ t => t.dat
  | _ => false
/-- a value that lies in cells -/
def Ty.cel : Ty → Bool
  | .pr a b => a.cel && b.cel
  | .ar _ t => t.cel
  | .tp _ | .mc _ _ | .sm _ _ | .ud | .dead => false
  | _ => true
end Go.Proofs.YtnkdanobhgofbaaGreatDoor.pv
namespace Go.Proofs.YtnkdanobhgofbaaGreatDoor.pv
set_option linter.all false
open Go.RowKit

theorem allD_map (xs : List PV) : allD (xs.map FV.d) = some xs := by
  induction xs with
  | nil => rfl
  | cons x xs ih => simp [allD, ih]
theorem mkAgg_d (xs : List PV) : mkAgg (xs.map FV.d) = .d (.agg xs) := by simp [mkAgg, allD_map]
theorem fcells_mkAgg (cs : List FV) : fcells (mkAgg cs) = some cs := by
  unfold mkAgg
  split
  · rename_i xs h
    rw [allD_eq h]; rfl
  · rfl
theorem aggCells_mkAgg (cs : List FV) : aggCells (mkAgg cs) = some cs := by
  unfold mkAgg
  split
  · rename_i xs h
    rw [allD_eq h]; rfl
  · rfl
theorem rep_one : ∀ (t : Ty) (x : t.den), t.cel = true → t.agg = false → (rep t x).cells = [(rep t x).fv] := by
  intro t x hc ha
  cases t <;> first | (simp [Ty.agg] at ha; done) | (simp [Ty.cel] at hc; done) | rfl | (simp only [rep]; split <;> rfl)
theorem rep_agg : ∀ (t : Ty) (x : t.den), t.agg = true → (rep t x).fv = mkAgg (rep t x).cells := by
  intro t x ha
  cases t <;> first | (simp [Ty.agg] at ha; done) | rfl
theorem rep_len : ∀ (t : Ty) (x : t.den), t.cel = true → (rep t x).cells.length = t.sz
  | .pr a b, x, h => by
    simp only [Ty.cel, Bool.and_eq_true] at h
    simp only [rep, List.length_append, Ty.sz, rep_len a _ h.1, rep_len b _ h.2]
  | .ar n t, x, h => by
    simp only [Ty.cel] at h
    have go : ∀ xs : List t.den, (xs.flatMap fun y => (rep t y).cells).length = xs.length * t.sz := by
      intro xs
      induction xs with
      | nil => simp
      | cons y ys ih => simp only [List.flatMap_cons, List.length_append, rep_len t y h, ih, List.length_cons, Nat.succ_mul]; omega
    simp only [rep, Ty.sz]
    rw [go, Subtype.property (p := fun xs : List t.den => xs.length = n) x]
  | .un, _, _ => rfl
  | .i _, _, _ | .bl, _, _ | .str, _, _ | .sl _, _, _ | .ns, _, _ | .nz _, _, _ | .np _ _, _, _ | .rf _ _, _, _ | .ep _ _ _, _, _ | .dp _ _, _, _ | .sr _, _, _ | .ss _ _, _, _ | .as _ _ _ _ _, _, _ | .cl _ _, _, _ | .ic _ _, _, _ => rfl
  | .vp _, x, _ => by simp only [rep]; split <;> rfl
  | .vm _, x, _ => by simp only [rep]; split <;> rfl
  | .tp _, _, h | .mc _ _, _, h | .sm _ _, _, h | .ud, _, h | .dead, _, h => by simp [Ty.cel] at h
theorem rep_fcells (t : Ty) (x : t.den) (h : t.cel = true) : fcells (rep t x).fv = some (rep t x).cells := by
  cases ha : t.agg with
  | true => rw [rep_agg t x ha, fcells_mkAgg]
  | false =>
    rw [rep_one t x h ha]
    cases t with
    | un => simp [Ty.agg] at ha
    | pr => simp [Ty.agg] at ha
    | ar => simp [Ty.agg] at ha
    | tp => simp [Ty.cel] at h
    | mc => simp [Ty.cel] at h
    | sm => simp [Ty.cel] at h
    | ud => simp [Ty.cel] at h
    | dead => simp [Ty.cel] at h
    | nz z => cases z <;> rfl
    | vp g => simp only [rep]; split <;> rfl
    | vm g => simp only [rep]; split <;> rfl
    | cl f t =>
      simp only [rep]
      unfold mkClo
      split <;> rfl
    | _ => rfl
theorem dat_cel : ∀ (t : Ty), t.dat = true → t.cel = true
  | .pr a b, h => by
    simp only [Ty.dat, Bool.and_eq_true] at h
    simp only [Ty.cel, dat_cel a h.1, dat_cel b h.2, Bool.and_self]
  | .ar n t, h => by simp only [Ty.dat] at h; simp only [Ty.cel]; exact dat_cel t h
  | .un, _ | .i _, _ | .bl, _ | .str, _ | .sl _, _ | .ns, _ | .nz _, _ | .np _ _, _ | .vp _, _ | .vm _, _ | .dp _ _, _ | .cl _ _, _ => rfl
  | .rf _ _, h | .ep _ _ _, h | .sr _, h | .ss _ _, h | .as _ _ _ _ _, h | .ic _ _, h | .tp _, h | .mc _ _, h | .sm _ _, h | .ud, h | .dead, h => by simp [Ty.dat] at h
theorem rep_dat : ∀ (t : Ty) (x : t.den), t.dat = true → (rep t x).cells = (rep t x).pcs.map FV.d ∧ (rep t x).fv = .d (rep t x).pv ∧ pcells (rep t x).pv = (rep t x).pcs ∧ isTup (rep t x).pv = false
  | .pr a b, x, h => by
    simp only [Ty.dat, Bool.and_eq_true] at h
    obtain ⟨a1, _, _, _⟩ := rep_dat a (p1 x) h.1
    obtain ⟨b1, _, _, _⟩ := rep_dat b (p2 x) h.2
    refine ⟨by simp only [rep, a1, b1, List.map_append], ?_, rfl, rfl⟩
    simp only [rep, a1, b1]
    rw [← List.map_append, mkAgg_d]
  | .ar n t, x, h => by
    simp only [Ty.dat] at h
    have go : ∀ xs : List t.den, (xs.flatMap fun y => (rep t y).cells) = (xs.flatMap fun y => (rep t y).pcs).map FV.d := by
      intro xs
      induction xs with
      | nil => rfl
      | cons y ys ih => simp only [List.flatMap_cons, List.map_append, (rep_dat t y h).1, ih]
    refine ⟨by simp only [rep]; exact go _, ?_, rfl, rfl⟩
    simp only [rep]
    rw [go, mkAgg_d]
  | .un, _, _ => ⟨rfl, rfl, rfl, rfl⟩
  | .i _, _, _ | .bl, _, _ | .str, _, _ | .sl _, _, _ | .ns, _, _ | .np _ _, _, _ | .dp _ _, _, _ => ⟨rfl, rfl, rfl, rfl⟩
  | .nz z, _, _ => by cases z <;> exact ⟨rfl, rfl, rfl, rfl⟩
  | .vp _, x, _ => by simp only [rep]; split <;> exact ⟨rfl, rfl, rfl, rfl⟩
  | .vm _, x, _ => by simp only [rep]; split <;> exact ⟨rfl, rfl, rfl, rfl⟩
  | .cl f t, x, h => by
    simp only [Ty.dat] at h
    simp only [rep]
    obtain ⟨a1, _, _, _⟩ := rep_dat t x h
    have e : mkClo f (rep t x).cells = .d (.clo f (rep t x).pcs) := by simp [mkClo, a1, allD_map]
    exact ⟨by rw [e]; rfl, e, rfl, rfl⟩
  | .rf _ _, _, h | .ep _ _ _, _, h | .sr _, _, h | .ss _ _, _, h | .as _ _ _ _ _, _, h | .ic _ _, _, h | .tp _, _, h | .mc _ _, _, h | .sm _ _, _, h | .ud, _, h | .dead, _, h => by simp [Ty.dat] at h
theorem rep_pcs_len (t : Ty) (x : t.den) (h : t.dat = true) : (rep t x).pcs.length = t.sz := by
  have := rep_len t x (dat_cel t h)
  rw [(rep_dat t x h).1, List.length_map] at this
  exact this
theorem rep_fits (t : Ty) (x : t.den) (h : t.dat = true) : fits t.sz (rep t x).pv = true := by
  have h1 := rep_dat t x h
  unfold fits
  rw [h1.2.2.2]
  have : psz (rep t x).pv = t.sz := by
    rw [← rep_pcs_len t x h, ← h1.2.2.1]
    generalize (rep t x).pv = y at *
    cases y <;> rfl
  simp [this]
end Go.Proofs.YtnkdanobhgofbaaGreatDoor.pv
namespace Go.Proofs.YtnkdanobhgofbaaGreatDoor.pv
set_option linter.all false
open Go.RowKit

/-- part k of a struct, and behind how many cells it lies -/
def getF : Nat → (t : Ty) → t.den → Option (Nat × XV)
  | 0, .pr a _, x => some (0, ⟨a, p1 x⟩)
  | k + 1, .pr a b, x => match getF k b (p2 x) with
    | some (o, v) => some (a.sz + o, v)
    | none => none
  | _, _, _ => none
def setF : Nat → (t : Ty) → t.den → XV → Option XV
  | 0, .pr a b, x, v => some ⟨.pr v.t b, pmk v.x (p2 x)⟩
  | k + 1, .pr a b, x, v => match setF k b (p2 x) v with
    | some r => some ⟨.pr a r.t, pmk (p1 x) r.x⟩
    | none => none
  | _, _, _, _ => none
def finC {n m : Nat} {s z : Nat} (h : (Nat.beq n m && Nat.beq s z) = true) (j : Fin n) : Fin m := ⟨j.1, by
  have := j.2
  simp only [Bool.and_eq_true] at h
  have := Nat.eq_of_beq_eq_true h.1
  omega⟩
def getP : (p : List Step) → denP p → XV → Option XV
  | [], _, v => some v
  | .f k o :: p, d, v => match getF k v.t v.x with
    | some (o', r) => bif Nat.beq o o' then getP p d r else none
    | none => none
  | .x n s :: p, d, v => match v with
    | ⟨.ar m t, x⟩ => if h : (Nat.beq n m && Nat.beq s t.sz) = true then getP p (Prod.snd (α := Fin n) (β := denP p) d) ⟨t, gA (n := m) x (finC h (Prod.fst (α := Fin n) (β := denP p) d))⟩ else none
    | _ => none
def kEq : IntKind → IntKind → Bool
  | .i8, .i8 | .i16, .i16 | .i32, .i32 | .i64, .i64 | .u8, .u8 | .u16, .u16 | .u32, .u32 | .u64, .u64 => true
  | _, _ => false
theorem kEq_eq {a b : IntKind} (h : kEq a b = true) : a = b := by cases a <;> cases b <;> first | rfl | (simp [kEq] at h)
def zEq : Z → Z → Bool
  | .i a, .i b => kEq a b
  | .b, .b | .s, .s | .sl, .sl | .nf, .nf | .np, .np | .ni, .ni | .nm, .nm => true
  | _, _ => false
theorem zEq_eq {a b : Z} (h : zEq a b = true) : a = b := by
  cases a <;> cases b <;> first | rfl | (simp [zEq] at h; done) | (simp only [zEq] at h; rw [kEq_eq h])
def pEq : List Step → List Step → Bool
  | [], [] => true
  | .f a b :: p, .f c d :: q => Nat.beq a c && Nat.beq b d && pEq p q
  | .x a b :: p, .x c d :: q => Nat.beq a c && Nat.beq b d && pEq p q
  | _, _ => false
theorem pEq_eq : ∀ {a b : List Step}, pEq a b = true → a = b
  | [], [], _ => rfl
  | .f a b :: p, .f c d :: q, h => by
    simp only [pEq, Bool.and_eq_true] at h
    rw [Nat.eq_of_beq_eq_true h.1.1, Nat.eq_of_beq_eq_true h.1.2, pEq_eq h.2]
  | .x a b :: p, .x c d :: q, h => by
    simp only [pEq, Bool.and_eq_true] at h
    rw [Nat.eq_of_beq_eq_true h.1.1, Nat.eq_of_beq_eq_true h.1.2, pEq_eq h.2]
  | [], .f _ _ :: _, h | [], .x _ _ :: _, h | .f _ _ :: _, [], h | .x _ _ :: _, [], h | .f _ _ :: _, .x _ _ :: _, h | .x _ _ :: _, .f _ _ :: _, h => by simp [pEq] at h
def Ty.beq : Ty → Ty → Bool
  | .i k, .i k' => kEq k k'
  | .bl, .bl | .str, .str | .un, .un | .ns, .ns | .ud, .ud | .dead, .dead => true
  | .pr a b, .pr c d => a.beq c && b.beq d
  | .ar n t, .ar m u => Nat.beq n m && t.beq u
  | .sl t, .sl u => t.beq u
  | .nz a, .nz b => zEq a b
  | .vp g, .vp g' => Nat.beq g g'
  | .np g p, .np g' p' => Nat.beq g g' && pEq p p'
  | .vm g, .vm g' => Nat.beq g g'
  | .rf l p, .rf l' p' => Nat.beq l l' && pEq p p'
  | .ep l s p, .ep l' s' p' => Nat.beq l l' && Nat.beq s s' && pEq p p'
  | .dp t p, .dp t' p' => t.beq t' && pEq p p'
  | .sr l, .sr l' => Nat.beq l l'
  | .ss l s, .ss l' s' => Nat.beq l l' && Nat.beq s s'
  | .as l p n s ag, .as l' p' n' s' ag' => Nat.beq l l' && pEq p p' && Nat.beq n n' && Nat.beq s s' && (ag == ag')
  | .cl f t, .cl g u => Nat.beq f g && t.beq u
  | .ic a t, .ic b u => Nat.beq a b && t.beq u
  | .tp t, .tp u => t.beq u
  | .mc a b, .mc c d => a.beq c && b.beq d
  | .sm a b, .sm c d => a.beq c && b.beq d
  | _, _ => false
theorem Ty.eq_of : ∀ {a b : Ty}, a.beq b = true → a = b := by
  intro a
  induction a <;> intro b h <;> cases b <;> first
    | rfl
    | (simp [Ty.beq] at h; done)
    | skip
  all_goals simp only [Ty.beq, Bool.and_eq_true, beq_iff_eq] at h
  case i.i => rw [kEq_eq h]
  case pr.pr ha hb _ _ => rw [ha h.1, hb h.2]
  case ar.ar ih _ _ => rw [Nat.eq_of_beq_eq_true h.1, ih h.2]
  case sl.sl ih _ => rw [ih h]
  case nz.nz => rw [zEq_eq h]
  case vp.vp => rw [Nat.eq_of_beq_eq_true h]
  case np.np => rw [Nat.eq_of_beq_eq_true h.1, pEq_eq h.2]
  case vm.vm => rw [Nat.eq_of_beq_eq_true h]
  case rf.rf => rw [Nat.eq_of_beq_eq_true h.1, pEq_eq h.2]
  case ep.ep => rw [Nat.eq_of_beq_eq_true h.1.1, Nat.eq_of_beq_eq_true h.1.2, pEq_eq h.2]
  case dp.dp ih _ _ => rw [ih h.1, pEq_eq h.2]
  case sr.sr => rw [Nat.eq_of_beq_eq_true h]
  case ss.ss => rw [Nat.eq_of_beq_eq_true h.1, Nat.eq_of_beq_eq_true h.2]
  case as.as => rw [Nat.eq_of_beq_eq_true h.1.1.1.1, pEq_eq h.1.1.1.2, Nat.eq_of_beq_eq_true h.1.1.2, Nat.eq_of_beq_eq_true h.1.2, h.2]
  case cl.cl ih _ _ => rw [show _ = _ from Nat.eq_of_beq_eq_true h.1, ih h.2]
  case ic.ic ih _ _ => rw [Nat.eq_of_beq_eq_true h.1, ih h.2]
  case tp.tp ih _ => rw [ih h]
  case mc.mc ha hb _ _ => rw [ha h.1, hb h.2]
  case sm.sm ha hb _ _ => rw [ha h.1, hb h.2]
def castT (t u : Ty) (x : t.den) : Option u.den := if h : t.beq u = true then some (Ty.eq_of h ▸ x) else none
theorem castT_spec {t u : Ty} {x : t.den} {y : u.den} (h : castT t u x = some y) : ∃ e : t = u, y = e ▸ x := by
  unfold castT at h
  split at h
  · rename_i hb
    exact ⟨Ty.eq_of hb, by cases h; rfl⟩
  · cases h
/-- the same value in other words: what is nil for good is a name that is nil, a name that is there may be nil -/
def conv : (t u : Ty) → t.den → Option u.den
  | .pr a b, .pr c d, x => match conv a c (p1 x), conv b d (p2 x) with
    | some y, some z => some (pmk y z)
    | _, _ => none
  | .nz .np, .vp _, _ => some (Option.none (α := Nat))
  | .nz .nm, .vm _, _ => some (Option.none (α := Nat))
  | .np g [], .vp g', x => bif Nat.beq g g' then some (some (Prod.fst (α := Nat) (β := Unit) x)) else none
  | t, u, x => castT t u x
theorem castT_rep {t u : Ty} {x : t.den} {y : u.den} (h : castT t u x = some y) : t = u ∧ rep u y = rep t x := by
  obtain ⟨e, rfl⟩ := castT_spec h
  subst e
  exact ⟨rfl, rfl⟩
theorem conv_spec : ∀ (t u : Ty) (x : t.den) (y : u.den), conv t u x = some y → rep u y = rep t x ∧ u.sz = t.sz ∧ u.cel = t.cel ∧ u.dat = t.dat ∧ u.agg = t.agg := by
  intro t
  have key : ∀ (t u : Ty) (x : t.den) (y : u.den), castT t u x = some y → rep u y = rep t x ∧ u.sz = t.sz ∧ u.cel = t.cel ∧ u.dat = t.dat ∧ u.agg = t.agg := by
    intro t u x y h
    obtain ⟨e, h⟩ := castT_rep h
    subst e
    exact ⟨h, rfl, rfl, rfl, rfl⟩
  induction t with
  | pr a b iha ihb =>
    intro u x y h
    cases u with
    | pr c d =>
      simp only [conv] at h
      split at h
      · rename_i y' z' h1 h2
        cases h
        obtain ⟨a1, a2, a3, a4, a5⟩ := iha _ _ _ h1
        obtain ⟨b1, b2, b3, b4, b5⟩ := ihb _ _ _ h2
        refine ⟨?_, by simp only [Ty.sz, a2, b2], by simp only [Ty.cel, a3, b3], by simp only [Ty.dat, a4, b4], rfl⟩
        show rep (.pr c d) (pmk y' z') = _
        simp only [rep]
        have e1 : p1 (pmk y' z') = y' := rfl
        have e2 : p2 (pmk y' z') = z' := rfl
        rw [e1, e2, a1, b1]
      · cases h
    | _ => simp only [conv] at h; exact key _ _ _ _ h
  | nz z =>
    intro u x y h
    cases z <;> cases u <;> first
      | (simp only [conv] at h; exact key _ _ _ _ h)
      | (simp only [conv] at h; cases h; exact ⟨rfl, rfl, rfl, rfl, rfl⟩)
  | np g p =>
    intro u x y h
    cases p with
    | nil =>
      cases u with
      | vp g' =>
        simp only [conv] at h
        obtain ⟨h1, h2⟩ := cond_some h
        cases h2
        have e := Nat.eq_of_beq_eq_true h1
        subst e
        exact ⟨rfl, rfl, rfl, rfl, rfl⟩
      | _ => simp only [conv] at h; exact key _ _ _ _ h
    | cons s p => cases u <;> (simp only [conv] at h; exact key _ _ _ _ h)
  | _ => intro u x y h; cases u <;> (simp only [conv] at h; exact key _ _ _ _ h)
/-- w lies in v, from there on -/
def Lies (v w : XV) (off : Nat) (pre post : List FV) : Prop := v.cells = pre ++ w.cells ++ post ∧ pre.length = off
theorem getF_spec : ∀ (k : Nat) (t : Ty) (x : t.den) (o : Nat) (v : XV), t.cel = true → getF k t x = some (o, v) → v.t.cel = true ∧ ∃ pre post, Lies ⟨t, x⟩ v o pre post ∧
    ∀ (u r : XV), u.t.cel = true → setF k t x u = some r → r.t.cel = true ∧ r.cells = pre ++ u.cells ++ post ∧ r.t.agg = true ∧ r.t.sz + v.t.sz = t.sz + u.t.sz
  | 0, .pr a b, x, o, v, h, hg => by
    simp only [Ty.cel, Bool.and_eq_true] at h
    simp only [getF] at hg
    cases hg
    refine ⟨h.1, [], (rep b (p2 x)).cells, ⟨by simp [XV.cells, XV.rep, rep], rfl⟩, fun u r hu hs => ?_⟩
    simp only [setF] at hs
    cases hs
    refine ⟨by simp [Ty.cel, hu, h.2], ?_, rfl, by simp only [Ty.sz]; omega⟩
    show (rep (.pr u.t b) (pmk u.x (p2 x))).cells = _
    simp only [rep, List.nil_append]
    rfl
  | k + 1, .pr a b, x, o, v, h, hg => by
    simp only [Ty.cel, Bool.and_eq_true] at h
    simp only [getF] at hg
    split at hg
    · rename_i o' v' hg'
      cases hg
      obtain ⟨h1, pre, post, ⟨h2, h3⟩, h4⟩ := getF_spec k b (p2 x) o' v h.2 hg'
      refine ⟨h1, (rep a (p1 x)).cells ++ pre, post, ⟨?_, ?_⟩, fun u r hu hs => ?_⟩
      · show (rep (.pr a b) x).cells = _
        have h2 : (rep b (p2 x)).cells = pre ++ v.cells ++ post := h2
        simp only [rep, h2, List.append_assoc]
      · rw [List.length_append, rep_len a _ h.1, h3]
      · simp only [setF] at hs
        split at hs
        · rename_i r' hr
          cases hs
          obtain ⟨q1, q2, _, q3⟩ := h4 u r' hu hr
          refine ⟨by simp [Ty.cel, q1, h.1], ?_, rfl, by simp only [Ty.sz]; omega⟩
          show (rep (.pr a r'.t) (pmk (p1 x) r'.x)).cells = _
          have q2 : (rep r'.t r'.x).cells = pre ++ u.cells ++ post := q2
          have e1 : p1 (c := r'.t) (pmk (p1 x) r'.x) = p1 x := rfl
          have e2 : p2 (a := a) (pmk (p1 x) r'.x) = r'.x := rfl
          simp only [rep, e1, e2, q2, List.append_assoc]
        · cases hs
    · cases hg
  | 0, .i _, x, o, v, h, hg | 0, .bl, x, o, v, h, hg | 0, .str, x, o, v, h, hg | 0, .un, x, o, v, h, hg | 0, .ar _ _, x, o, v, h, hg | 0, .sl _, x, o, v, h, hg | 0, .ns, x, o, v, h, hg | 0, .nz _, x, o, v, h, hg | 0, .vp _, x, o, v, h, hg
  | 0, .np _ _, x, o, v, h, hg | 0, .vm _, x, o, v, h, hg | 0, .rf _ _, x, o, v, h, hg | 0, .ep _ _ _, x, o, v, h, hg | 0, .dp _ _, x, o, v, h, hg | 0, .sr _, x, o, v, h, hg | 0, .ss _ _, x, o, v, h, hg | 0, .as _ _ _ _ _, x, o, v, h, hg
  | 0, .cl _ _, x, o, v, h, hg | 0, .ic _ _, x, o, v, h, hg | 0, .tp _, x, o, v, h, hg | 0, .mc _ _, x, o, v, h, hg | 0, .sm _ _, x, o, v, h, hg | 0, .ud, x, o, v, h, hg | 0, .dead, x, o, v, h, hg => by simp [getF] at hg
  | k + 1, .i _, x, o, v, h, hg | k + 1, .bl, x, o, v, h, hg | k + 1, .str, x, o, v, h, hg | k + 1, .un, x, o, v, h, hg | k + 1, .ar _ _, x, o, v, h, hg | k + 1, .sl _, x, o, v, h, hg | k + 1, .ns, x, o, v, h, hg | k + 1, .nz _, x, o, v, h, hg | k + 1, .vp _, x, o, v, h, hg
  | k + 1, .np _ _, x, o, v, h, hg | k + 1, .vm _, x, o, v, h, hg | k + 1, .rf _ _, x, o, v, h, hg | k + 1, .ep _ _ _, x, o, v, h, hg | k + 1, .dp _ _, x, o, v, h, hg | k + 1, .sr _, x, o, v, h, hg | k + 1, .ss _ _, x, o, v, h, hg | k + 1, .as _ _ _ _ _, x, o, v, h, hg
  | k + 1, .cl _ _, x, o, v, h, hg | k + 1, .ic _ _, x, o, v, h, hg | k + 1, .tp _, x, o, v, h, hg | k + 1, .mc _ _, x, o, v, h, hg | k + 1, .sm _ _, x, o, v, h, hg | k + 1, .ud, x, o, v, h, hg | k + 1, .dead, x, o, v, h, hg => by simp [getF] at hg
theorem flatMap_split {α β : Type} (f : α → List β) (xs : List α) (j : Nat) (h : j < xs.length) : xs.flatMap f = (xs.take j).flatMap f ++ f xs[j] ++ (xs.drop (j + 1)).flatMap f := by
  have e : xs = xs.take j ++ xs[j] :: xs.drop (j + 1) := by rw [List.getElem_cons_drop]; simp
  have e2 : xs.flatMap f = (xs.take j ++ xs[j] :: xs.drop (j + 1)).flatMap f := congrArg (List.flatMap f) e
  rw [e2, List.flatMap_append, List.flatMap_cons, List.append_assoc]
theorem flatMap_len {α β : Type} (f : α → List β) (s : Nat) (hf : ∀ a, (f a).length = s) (xs : List α) : (xs.flatMap f).length = xs.length * s := by
  induction xs with
  | nil => simp
  | cons x xs ih => simp only [List.flatMap_cons, List.length_append, hf, ih, List.length_cons, Nat.succ_mul]; omega
/-- put in -/
def setP : (p : List Step) → denP p → XV → XV → Option XV
  | [], _, v, u => bif Nat.beq v.t.sz u.t.sz then some u else none
  | .f k o :: p, d, v, u => match getF k v.t v.x with
    | some (o', r) => (match setP p d r u with
      | some r' => setF k v.t v.x r'
      | none => none)
    | none => none
  | .x n s :: p, d, v, u => match v with
    | ⟨.ar m t, x⟩ => if h : (Nat.beq n m && Nat.beq s t.sz) = true then (match setP p (Prod.snd (α := Fin n) (β := denP p) d) ⟨t, gA (n := m) x (finC h (Prod.fst (α := Fin n) (β := denP p) d))⟩ u with
        | some r => (match conv r.t t r.x with
          | some y => some ⟨.ar m t, sA (n := m) (α := t.den) x (finC h (Prod.fst (α := Fin n) (β := denP p) d)) y⟩
          | none => none)
        | none => none) else none
    | _ => none
theorem getP_spec : ∀ (p : List Step) (d : denP p) (v w : XV), v.t.cel = true → getP p d v = some w → w.t.cel = true ∧ ∃ pre post, Lies v w (offP p d) pre post ∧
    ∀ (u r : XV), u.t.cel = true → setP p d v u = some r → r.t.cel = true ∧ r.cells = pre ++ u.cells ++ post ∧ u.t.sz = w.t.sz ∧ r.t.sz = v.t.sz
  | [], d, v, w, h, hg => by
    simp only [getP] at hg
    cases hg
    refine ⟨h, [], [], ⟨by simp, rfl⟩, fun u r hu hs => ?_⟩
    simp only [setP] at hs
    obtain ⟨h1, h2⟩ := cond_some hs
    cases h2
    have := Nat.eq_of_beq_eq_true h1
    exact ⟨hu, by simp, this.symm, this.symm⟩
  | .f k o :: p, d, v, w, h, hg => by
    simp only [getP] at hg
    split at hg
    · rename_i o' r hr
      obtain ⟨h1, hg2⟩ := cond_some hg
      have e := Nat.eq_of_beq_eq_true h1
      subst e
      obtain ⟨a1, pre, post, ⟨a2, a3⟩, a4⟩ := getF_spec k v.t v.x o r h hr
      obtain ⟨b1, pre', post', ⟨b2, b3⟩, b4⟩ := getP_spec p d r w a1 hg2
      refine ⟨b1, pre ++ pre', post' ++ post, ⟨?_, ?_⟩, fun u z hu hs => ?_⟩
      · have a2 : v.cells = pre ++ r.cells ++ post := a2
        rw [a2, b2]; simp only [List.append_assoc]
      · rw [List.length_append, a3, b3]; rfl
      · simp only [setP, hr] at hs
        split at hs
        · rename_i r' hr'
          obtain ⟨c1, c2, c3, c4⟩ := b4 u r' hu hr'
          obtain ⟨q1, q2, _, q3⟩ := a4 r' z c1 hs
          exact ⟨q1, by rw [q2, c2]; simp only [List.append_assoc], c3, by omega⟩
        · cases hs
    · cases hg
  | .x n s :: p, d, ⟨.ar m t, x⟩, w, h, hg => by
    simp only [getP] at hg
    split at hg
    · rename_i hb
      have h : t.cel = true := h
      obtain ⟨b1, pre', post', ⟨b2, b3⟩, b4⟩ := getP_spec p _ _ w h hg
      have hb' := hb
      simp only [Bool.and_eq_true] at hb'
      have hn := Nat.eq_of_beq_eq_true hb'.1
      have hs := Nat.eq_of_beq_eq_true hb'.2
      let xs : List t.den := Subtype.val (p := fun xs : List t.den => xs.length = m) x
      have hxl : xs.length = m := Subtype.property (p := fun xs : List t.den => xs.length = m) x
      let j : Nat := (finC hb (Prod.fst (α := Fin n) (β := denP p) d)).1
      have hj : j < xs.length := by rw [hxl]; exact (finC hb (Prod.fst (α := Fin n) (β := denP p) d)).2
      have hsp := flatMap_split (fun y => (rep t y).cells) xs j hj
      have hge : gA (n := m) x (finC hb (Prod.fst (α := Fin n) (β := denP p) d)) = xs[j] := rfl
      have hcl : (XV.mk (.ar m t) x).cells = (xs.take j).flatMap (fun y => (rep t y).cells) ++ (rep t xs[j]).cells ++ (xs.drop (j + 1)).flatMap fun y => (rep t y).cells := hsp
      have hpl : ((xs.take j).flatMap fun y => (rep t y).cells).length = j * t.sz := by
        rw [flatMap_len _ t.sz (fun y => rep_len t y h), List.length_take]
        congr 1; omega
      have b2' : (rep t xs[j]).cells = pre' ++ w.cells ++ post' := b2
      refine ⟨b1, (xs.take j).flatMap (fun y => (rep t y).cells) ++ pre', post' ++ (xs.drop (j + 1)).flatMap (fun y => (rep t y).cells), ⟨?_, ?_⟩, fun u z hu hz => ?_⟩
      · rw [hcl, b2']; simp only [List.append_assoc]
      · rw [List.length_append, hpl, b3, hs]; rfl
      · simp only [setP] at hz
        rw [dif_pos hb] at hz
        split at hz
        · rename_i r hr
          split at hz
          · rename_i y hy
            cases hz
            obtain ⟨c1, c2, c3, c4⟩ := b4 u r hu hr
            obtain ⟨e1, e2, e3, _, _⟩ := conv_spec _ _ _ _ hy
            refine ⟨h, ?_, c3, rfl⟩
            show ((xs.set j y).flatMap fun y => (rep t y).cells) = _
            have hj' : j < (xs.set j y).length := by rw [List.length_set]; exact hj
            rw [flatMap_split _ (xs.set j y) j hj', List.take_set_of_le (Nat.le_refl _), List.drop_set_of_lt (Nat.lt_succ_self _), List.getElem_set_self]
            rw [e1]
            have c2 : (rep r.t r.x).cells = pre' ++ u.cells ++ post' := c2
            rw [c2]; simp only [List.append_assoc]
          · cases hz
        · cases hz
    · cases hg
  | .x n s :: p, d, ⟨.i _, x⟩, w, h, hg | .x n s :: p, d, ⟨.bl, x⟩, w, h, hg | .x n s :: p, d, ⟨.str, x⟩, w, h, hg | .x n s :: p, d, ⟨.un, x⟩, w, h, hg | .x n s :: p, d, ⟨.pr _ _, x⟩, w, h, hg | .x n s :: p, d, ⟨.sl _, x⟩, w, h, hg | .x n s :: p, d, ⟨.ns, x⟩, w, h, hg
  | .x n s :: p, d, ⟨.nz _, x⟩, w, h, hg | .x n s :: p, d, ⟨.vp _, x⟩, w, h, hg | .x n s :: p, d, ⟨.np _ _, x⟩, w, h, hg | .x n s :: p, d, ⟨.vm _, x⟩, w, h, hg | .x n s :: p, d, ⟨.rf _ _, x⟩, w, h, hg | .x n s :: p, d, ⟨.ep _ _ _, x⟩, w, h, hg
  | .x n s :: p, d, ⟨.dp _ _, x⟩, w, h, hg | .x n s :: p, d, ⟨.sr _, x⟩, w, h, hg | .x n s :: p, d, ⟨.ss _ _, x⟩, w, h, hg | .x n s :: p, d, ⟨.as _ _ _ _ _, x⟩, w, h, hg | .x n s :: p, d, ⟨.cl _ _, x⟩, w, h, hg | .x n s :: p, d, ⟨.ic _ _, x⟩, w, h, hg
  | .x n s :: p, d, ⟨.tp _, x⟩, w, h, hg | .x n s :: p, d, ⟨.mc _ _, x⟩, w, h, hg | .x n s :: p, d, ⟨.sm _ _, x⟩, w, h, hg | .x n s :: p, d, ⟨.ud, x⟩, w, h, hg | .x n s :: p, d, ⟨.dead, x⟩, w, h, hg => by simp [getP] at hg
theorem Lies.splice {v w u : XV} {off : Nat} {pre post : List FV} (h : Lies v w off pre post) (hw : w.t.cel = true) (hu : u.t.cel = true) (hs : u.t.sz = w.t.sz) : pv.splice v.cells off u.cells = pre ++ u.cells ++ post ∧ off + u.cells.length ≤ v.cells.length := by
  obtain ⟨h1, h2⟩ := h
  have l1 : w.cells.length = w.t.sz := rep_len _ _ hw
  have l2 : u.cells.length = u.t.sz := rep_len _ _ hu
  unfold pv.splice
  rw [h1]
  subst h2
  constructor
  · rw [List.append_assoc pre, List.take_left' rfl, ← List.drop_drop, List.drop_left' rfl, List.drop_left' (by omega)]
  · simp only [List.length_append]; omega
theorem Lies.drop {v w : XV} {off : Nat} {pre post : List FV} (h : Lies v w off pre post) : (v.cells.drop off).take w.cells.length = w.cells ∧ off + w.cells.length ≤ v.cells.length := by
  obtain ⟨h1, h2⟩ := h
  rw [h1]
  subst h2
  constructor
  · rw [List.append_assoc pre, List.drop_left' rfl, List.take_left' rfl]
  · simp only [List.length_append]; omega
end Go.Proofs.YtnkdanobhgofbaaGreatDoor.pv
