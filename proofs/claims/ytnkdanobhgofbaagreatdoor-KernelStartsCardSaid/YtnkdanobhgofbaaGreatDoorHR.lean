/- Small lemmas of my own, over any program: endings, worlds, blocks, the bit operations of int on small numbers. -/
import Derived.Test.YtnkdanobhgofbaaGreatDoorRows
import Derived.WalkKit
import Derived.ProofKit
import Derived.OpenShut
import Derived.Below
import Derived.ShutString
import Derived.ChangeOld
import Derived.Laws.BitsAllLaws
import Derived.Laws.Rows
import Derived.Deep.RegionHeld
import Derived.Deep.QuietTactic
import Derived.BigQuiet
import Derived.Lib.Hide
import Derived.WalkSpells
import Derived.Outline
import Derived.Deep.Slices
import Derived.DataReads
import Derived.SizedLaws
namespace Go.Proofs.YtnkdanobhgofbaaGreatDoor.help
set_option linter.all false
open Go.RowKit

/-- the call returns v and changes nothing that was there -/
def Ret (v : Value) (w : World) (e : Ending) (w' : World) : Prop := e = .returned v ∧ Below w.heap.size w w'
theorem ret_two {a b c d : Value} (h : a = c) (h' : b = d) : Ending.returned (.tuple #[a, b]) = .returned (.tuple #[c, d]) := by rw [h, h']
theorem ret_three {a b c d e f : Value} (h : a = d) (h' : b = e) (h2 : c = f) : Ending.returned (.tuple #[a, b, c]) = .returned (.tuple #[d, e, f]) := by rw [h, h', h2]
theorem v_int {k : IntKind} {a b : Int} (h : a = b) : Value.int k a = .int k b := by rw [h]
theorem v_bool {a b : Bool} (h : a = b) : Value.bool a = .bool b := by rw [h]
theorem ret_int {k : IntKind} {a b : Int} (h : a = b) : Ending.returned (.int k a) = .returned (.int k b) := by rw [h]
theorem ret_bool {a b : Bool} (h : a = b) : Ending.returned (.bool a) = .returned (.bool b) := by rw [h]
theorem ret_eq {a b : Value} (h : a = b) : Ending.returned a = .returned b := by rw [h]

theorem bel_alloc {a w : World} (h : Below a.heap.size a w) (o : Obj) : Below a.heap.size a (w.alloc o) := h.alloc h.size o
theorem bel_drewN {B : Nat} {a w : World} (h : Below B a w) (n : Nat) : Below B a (w.drewN n) := ⟨h.os, h.tape, h.output, h.size, h.block⟩
theorem bcell {W w1 : World} (hb : Below W.heap.size W w1) : (∀ b o, b < W.heap.size → w1.cell? ⟨b, o, none⟩ = W.cell? ⟨b, o, none⟩) ∧ (∀ b o, b < W.heap.size → w1.frozen? ⟨b, o, none⟩ = W.frozen? ⟨b, o, none⟩) :=
  ⟨fun b o h => hb.cell (p := ⟨b, o, none⟩) h, fun b o h => hb.frozen (p := ⟨b, o, none⟩) h⟩

/-- block b of the world holds these cells, none of them frozen -/
def Blk (w : World) (b : Nat) (cs : Array Value) : Prop := ∃ t, w.heap[b]? = some (.cells cs t (0, 0))
theorem Blk.lt {w : World} {b : Nat} {cs : Array Value} (h : Blk w b cs) : b < w.heap.size := by
  obtain ⟨t, h⟩ := h; exact (Array.getElem?_eq_some_iff.1 h).1
theorem Blk.cells {w : World} {b : Nat} {cs : Array Value} (h : Blk w b cs) (o : Nat) : w.cell? ⟨b, o, none⟩ = cs[o]? := by
  obtain ⟨t, h⟩ := h; unfold World.cell?; simp [h]
theorem Blk.frz {w : World} {b : Nat} {cs : Array Value} (h : Blk w b cs) (o : Nat) : w.frozen? ⟨b, o, none⟩ = false := by
  obtain ⟨t, h⟩ := h; unfold World.frozen?; simp [h]
theorem Blk.later {w w' : World} {b : Nat} {cs : Array Value} (hb : Below w.heap.size w w') (h : Blk w b cs) : Blk w' b cs := by
  have hl := h.lt
  obtain ⟨t, h⟩ := h; exact ⟨t, by rw [hb.block b hl, h]⟩
theorem Blk.new (w : World) (cs : Array Value) (t : TypeId) : Blk (w.alloc (.cells cs t)) w.heap.size cs := ⟨t, (MapKept.heap_alloc w _).1⟩
theorem Blk.alloc {w : World} {b : Nat} {cs : Array Value} (h : Blk w b cs) (o : Obj) : Blk (w.alloc o) b cs := by
  have hl := h.lt
  obtain ⟨t, h⟩ := h; exact ⟨t, by rw [Below.heap_alloc w o b hl, h]⟩
theorem Blk.cast {w : World} {b : Nat} {cs cs' : Array Value} (h : Blk w b cs) (e : cs = cs') : Blk w b cs' := e ▸ h
theorem Blk.drew {w : World} {b : Nat} {cs : Array Value} (h : Blk w b cs) : Blk w.drew b cs := h
theorem Blk.set {w : World} {b : Nat} {cs : Array Value} (h : Blk w b cs) (o : Nat) (v : Value) : Blk (w.setCell ⟨b, o, none⟩ v) b (cs.setIfInBounds o v) := by
  obtain ⟨t, h⟩ := h; exact ⟨t, by simp [World.setCell, Array.getElem?_modify, h]⟩
theorem Blk.far {w : World} {b : Nat} {cs : Array Value} (h : Blk w b cs) (a : Addr) (v : Value) (hn : b ≠ a.block) : Blk (w.setCell a v) b cs := by
  obtain ⟨t, h⟩ := h; exact ⟨t, by rw [Below.heap_setCell w a v b hn, h]⟩
theorem alloc_some (w : World) (p : Addr) (o : Obj) (h : (w.cell? p).isSome = true) : (w.alloc o).cell? p = w.cell? p := World.cell?_alloc_some w p o h
theorem alloc_frz (w : World) (p : Addr) (o : Obj) (h : (w.cell? p).isSome = true) : (w.alloc o).frozen? p = w.frozen? p := by
  obtain ⟨v, hv⟩ := Option.isSome_iff_exists.1 h
  exact World.frozen?_alloc_old w o p (Nat.ne_of_lt (World.block_lt_of_cell? _ _ hv))
theorem alloc_some2 (w : World) (p : Addr) (o1 o2 : Obj) (h : (w.cell? p).isSome = true) : ((w.alloc o1).alloc o2).cell? p = w.cell? p :=
  (alloc_some _ p o2 (by rw [alloc_some w p o1 h]; exact h)).trans (alloc_some w p o1 h)
theorem alloc_frz2 (w : World) (p : Addr) (o1 o2 : Obj) (h : (w.cell? p).isSome = true) : ((w.alloc o1).alloc o2).frozen? p = w.frozen? p :=
  (alloc_frz _ p o2 (by rw [alloc_some w p o1 h]; exact h)).trans (alloc_frz w p o1 h)
theorem alloc_some3 (w : World) (p : Addr) (o1 o2 o3 : Obj) (h : (w.cell? p).isSome = true) : (((w.alloc o1).alloc o2).alloc o3).cell? p = w.cell? p :=
  (alloc_some _ p o3 (by rw [alloc_some2 w p o1 o2 h]; exact h)).trans (alloc_some2 w p o1 o2 h)
theorem alloc_frz3 (w : World) (p : Addr) (o1 o2 o3 : Obj) (h : (w.cell? p).isSome = true) : (((w.alloc o1).alloc o2).alloc o3).frozen? p = w.frozen? p :=
  (alloc_frz _ p o3 (by rw [alloc_some2 w p o1 o2 h]; exact h)).trans (alloc_frz2 w p o1 o2 h)
theorem alloc_some4 (w : World) (p : Addr) (o1 o2 o3 o4 : Obj) (h : (w.cell? p).isSome = true) : ((((w.alloc o1).alloc o2).alloc o3).alloc o4).cell? p = w.cell? p :=
  (alloc_some _ p o4 (by rw [alloc_some3 w p o1 o2 o3 h]; exact h)).trans (alloc_some3 w p o1 o2 o3 h)
theorem alloc_frz4 (w : World) (p : Addr) (o1 o2 o3 o4 : Obj) (h : (w.cell? p).isSome = true) : ((((w.alloc o1).alloc o2).alloc o3).alloc o4).frozen? p = w.frozen? p :=
  (alloc_frz _ p o4 (by rw [alloc_some3 w p o1 o2 o3 h]; exact h)).trans (alloc_frz3 w p o1 o2 o3 h)
theorem alloc_some5 (w : World) (p : Addr) (o1 o2 o3 o4 o5 : Obj) (h : (w.cell? p).isSome = true) : (((((w.alloc o1).alloc o2).alloc o3).alloc o4).alloc o5).cell? p = w.cell? p :=
  (alloc_some _ p o5 (by rw [alloc_some4 w p o1 o2 o3 o4 h]; exact h)).trans (alloc_some4 w p o1 o2 o3 o4 h)
theorem alloc_frz5 (w : World) (p : Addr) (o1 o2 o3 o4 o5 : Obj) (h : (w.cell? p).isSome = true) : (((((w.alloc o1).alloc o2).alloc o3).alloc o4).alloc o5).frozen? p = w.frozen? p :=
  (alloc_frz _ p o5 (by rw [alloc_some4 w p o1 o2 o3 o4 h]; exact h)).trans (alloc_frz4 w p o1 o2 o3 o4 h)
def aggT (P : Program) (ty : TypeId) : Bool := match P.underlying ty with | some (.struct _) | some (.array _ _) => true | _ => false
theorem blk_load {P : Program} {w : World} {b : Nat} {cs : Array Value} {ty : TypeId} (h : Blk w b cs) (hu : aggT P ty = true) (hi : (P.info? ty).map (·.size) = some cs.size) :
    (loadVar ty ⟨b, 0, none⟩).run P w = .ok (.agg cs) w := by
  obtain ⟨t, h⟩ := h
  unfold aggT at hu
  cases hq : P.underlying ty with
  | none => simp [hq] at hu
  | some d => exact run_loadVar_row w b t ty cs (0, 0) d h hq (by rw [hq] at hu; cases d <;> simp_all) hi
/-- the end of a function whose one result is a struct or an array -/
theorem post_cell {P : Program} {fn : Func} {R : Ending → World → Prop} {a : Act} {w : World} {p : Tmp} {ty : TypeId} {g : Nat} {cs : Array Value} (hf : fn.results = #[.cell p ty]) (hd : a.defers = [])
    (hp : a.tmps.getD p undef = .pointer (some ⟨g, 0, none⟩)) (hg : Blk w g cs) (hu : aggT P ty = true) (hi : (P.info? ty).map (·.size) = some cs.size) (hR : R (.returned (.agg cs)) w) : bodyPost P fn R .ret a w := by
  refine bodyPost_ret (v := .agg cs) ?_ hd hR
  have hp' : a.tmps[p]?.getD undef = .pointer (some ⟨g, 0, none⟩) := by simpa using hp
  simp [results, hf, hp', asAddr, blk_load hg hu hi]
/-- .. whose two results are a struct or an array, and a plain value -/
theorem post_cell_tmp {P : Program} {fn : Func} {R : Ending → World → Prop} {a : Act} {w : World} {p u : Tmp} {ty : TypeId} {g : Nat} {cs : Array Value} (hf : fn.results = #[.cell p ty, .tmp u]) (hd : a.defers = [])
    (hp : a.tmps.getD p undef = .pointer (some ⟨g, 0, none⟩)) (hg : Blk w g cs) (hu : aggT P ty = true) (hi : (P.info? ty).map (·.size) = some cs.size) (hR : R (.returned (.tuple #[.agg cs, a.tmps.getD u undef])) w) : bodyPost P fn R .ret a w := by
  refine bodyPost_ret (v := .tuple #[.agg cs, a.tmps.getD u undef]) ?_ hd hR
  have hp' : a.tmps[p]?.getD undef = .pointer (some ⟨g, 0, none⟩) := by simpa using hp
  simp [results, hf, hp', asAddr, blk_load hg hu hi]
/-- a later world, in which nothing that was there has changed -/
structure LaterW (w : World) where
  val : World
  prop : Below w.heap.size w val
instance (w : World) : Nonempty (LaterW w) := ⟨⟨w, Below.refl _ _⟩⟩
theorem sub_of {P : Program} {f : FuncId} {args : Array Value} {w : World} {x : LaterW w} {v : Value} (h : Calls P f args x.val (Ret v x.val)) :
    Calls P f args x.val fun e w'' => e = .returned v ∧ ∃ y : LaterW w, w'' = y.val :=
  h.mono fun _ w'' ⟨he, hb⟩ => ⟨he, ⟨w'', x.prop.trans (hb.mono x.prop.size)⟩, rfl⟩
/-- a region that draws its order, whose operations only read and whose calls make memory but change none: one walk in the order of the text serves every order -/
theorem wp_region_sub {P : Program} {id : Nat} {Q : Exit → Act → World → Prop} {a : Act} {w : World} {l : List Oper} (hm : P.follows .mixedOrders = true) (hB : Region.lexB .any l.toArray = true)
    (h : wpQuiet P l.toArray (fun w' => ∃ x : LaterW w, w' = x.val) (fun a' => ∀ w', (∃ x : LaterW w, w' = x.val) → Q .normal a' w') l a) : (Code.region id l.toArray true).wp P Q a w :=
  wp_region_quiet (C := fun w' => ∃ x : LaterW w, w' = x.val) hm hB ⟨⟨_, (Below.refl _ _).drew⟩, rfl⟩ (by simpa using h)
theorem later_intro {w : World} {Q : World → Prop} (h : ∀ w1, Below w.heap.size w w1 → Q w1) : ∀ w', (∃ x : LaterW w, w' = x.val) → Q w' :=
  fun _ ⟨x, hx⟩ => hx ▸ h x.val x.prop
theorem ofInt64 (a : Nat) (ha : a < 9223372036854775808) : (BitVec.ofInt 64 (a : Int)).toNat = a := by
  rw [BitVec.ofInt_natCast, BitVec.toNat_ofNat]; exact Nat.mod_eq_of_lt (by omega)
theorem i64_and_nat (a b : Nat) (ha : a < 9223372036854775808) (hb : b < 9223372036854775808) : bits .and .i64 (a : Int) (b : Int) = ((a &&& b : Nat) : Int) := by
  have hx : a &&& b < 2 ^ 63 := Nat.and_lt_two_pow _ (by omega)
  show IntKind.i64.wrap ((BitVec.ofInt 64 (a : Int) &&& BitVec.ofInt 64 (b : Int)).toNat : Int) = _
  rw [BitVec.toNat_and, ofInt64 a ha, ofInt64 b hb, IntKind.wrap_i64]
  omega
theorem i64_or_nat (a b : Nat) (ha : a < 9223372036854775808) (hb : b < 9223372036854775808) : bits .or .i64 (a : Int) (b : Int) = ((a ||| b : Nat) : Int) := by
  have hx : a ||| b < 2 ^ 63 := Nat.or_lt_two_pow (by omega) (by omega)
  show IntKind.i64.wrap ((BitVec.ofInt 64 (a : Int) ||| BitVec.ofInt 64 (b : Int)).toNat : Int) = _
  rw [BitVec.toNat_or, ofInt64 a ha, ofInt64 b hb, IntKind.wrap_i64]
  omega
theorem i64_andNot_nat (a b : Nat) (ha : a < 9223372036854775808) (hb : b < 9223372036854775808) : bits .andNot .i64 (a : Int) (b : Int) = ((a &&& (18446744073709551615 - b) : Nat) : Int) := by
  have hx : a &&& (18446744073709551615 - b) < 2 ^ 63 := by
    rw [Nat.and_comm]; exact Nat.and_lt_two_pow _ (by omega)
  show IntKind.i64.wrap ((BitVec.ofInt 64 (a : Int) &&& ~~~(BitVec.ofInt 64 (b : Int))).toNat : Int) = _
  rw [BitVec.toNat_and, BitVec.toNat_not, ofInt64 a ha, ofInt64 b hb, IntKind.wrap_i64]
  have e : (2 ^ 64 - 1 - b) = (18446744073709551615 - b) := rfl
  rw [e]
  omega
theorem or_add_and (a : Nat) : ∀ b : Nat, (a ||| b) + (a &&& b) = a + b := by
  induction a using Nat.strongRecOn with
  | _ a ih =>
    intro b
    by_cases h0 : a = 0
    · subst h0; simp
    · have h := ih (a / 2) (by omega) (b / 2)
      have e1 : (a ||| b) / 2 = a / 2 ||| b / 2 := Nat.or_div_two
      have e2 : (a &&& b) / 2 = a / 2 &&& b / 2 := Nat.and_div_two
      have m1 := Nat.testBit_or a b 0
      have m2 := Nat.testBit_and a b 0
      simp only [Nat.testBit_zero] at m1 m2
      rw [← e1, ← e2] at h
      generalize (a ||| b) = x at *
      generalize (a &&& b) = y at *
      rcases Nat.mod_two_eq_zero_or_one a with ha | ha <;> rcases Nat.mod_two_eq_zero_or_one b with hb | hb <;> simp [ha, hb] at m1 m2 <;> omega
theorem andNot0 (a b : Nat) (ha : a < 256) (hb : b < 256) : ((a &&& (18446744073709551615 - b)) == 0) = !((List.range 8).any fun i => a.testBit i && !b.testBit i) := by
  have e : 18446744073709551615 - b = 2 ^ 64 - (b + 1) := by omega
  have ht : ∀ i, (a &&& (18446744073709551615 - b)).testBit i = (a.testBit i && (decide (i < 64) && !b.testBit i)) := by
    intro i; rw [e, Nat.testBit_and, Nat.testBit_two_pow_sub_succ (by omega)]
  rw [Bool.eq_iff_iff]
  simp only [beq_iff_eq, Bool.not_eq_true', List.any_eq_false, List.mem_range]
  constructor
  · intro h i hi
    have := ht i
    rw [h] at this
    simp at this
    simpa using fun hh => this hh (by omega)
  · intro h
    apply Nat.eq_of_testBit_eq
    intro i
    rw [ht]
    simp
    by_cases hi : i < 8
    · have := h i hi; simp at this; intro h1 _; exact this h1
    · have : a.testBit i = false := Nat.testBit_lt_two_pow (Nat.lt_of_lt_of_le ha (by have := Nat.pow_le_pow_right (n := 2) (by omega) (show 8 ≤ i by omega); omega))
      simp [this]
end Go.Proofs.YtnkdanobhgofbaaGreatDoor.help
namespace Go.Proofs.YtnkdanobhgofbaaGreatDoor.rep
set_option linter.all false
open Go.ChangeShapes Go.WideShapes Go.Deep Go.RowKit

/-- The shapes of plain data. A struct is a chain of pairs that ends in 'unit'. -/
inductive Sh where
  | int (k : IntKind) | bool | str | unit
  | pair (a b : Sh)
  | slice (b : Nat) (e : Sh)
  | arr (n : Nat) (e : Sh)

namespace Sh
def T : Sh → Type
  | int _ => Int
  | bool => Bool
  | str => ByteArray
  | unit => Unit
  | pair a b => a.T × b.T
  | slice _ e => List e.T
  | arr _ e => List e.T
def size : Sh → Nat
  | int _ | bool | str | slice _ _ => 1
  | unit => 0
  | pair a b => a.size + b.size
  | arr n e => n * e.size
def depth : Sh → Nat
  | int _ | bool | str | unit => 1
  | pair a b => a.depth + b.depth + 1
  | slice _ e | arr _ e => e.depth + 1
/-- is it laid out as an aggregate? -/
def isAgg : Sh → Bool
  | unit | pair _ _ | arr _ _ => true
  | _ => false
end Sh

def Rep (w : World) : (s : Sh) → s.T → List Value → Prop
  | .int k, (n : Int), cs => cs = [.int k n] ∧ (Lit.int k n).wf = true
  | .bool, (b : Bool), cs => cs = [.bool b]
  | .str, (s : ByteArray), cs => cs = [.string s] ∧ s.size ≤ 140737488351232
  | .unit, _, cs => cs = []
  | .pair a b, (x, y), cs => ∃ c1 c2, cs = c1 ++ c2 ∧ Rep w a x c1 ∧ Rep w b y c2
  | .slice by_ e, (xs : List e.T), cs => (cs = [.slice none 0 0] ∧ xs = []) ∨
      ∃ (b off cap : Nat) (sp : Option Nat), cs = [.slice (some ⟨b, off, sp⟩) xs.length cap] ∧ xs.length ≤ cap ∧ cap ≤ maxLen ∧ xs.length * by_ ≤ 140737488351232 ∧ (0 < xs.length → 0 < e.size → sp = none ∧ b < w.heap.size) ∧
        ∀ (i : Nat) (h : i < xs.length), ∃ cs' : List Value, cs'.length = e.size ∧ (∀ j, j < cs'.length → w.cell? ⟨b, off + (i * e.size + j), none⟩ = cs'[j]?) ∧ Rep w e xs[i] cs'
  | .arr n e, (xs : List e.T), cs => xs.length = n ∧ cs.length = n * e.size ∧ ∀ (i : Nat) (h : i < xs.length), Rep w e xs[i] ((cs.drop (i * e.size)).take e.size)

/-- does the type number t of the program have this shape? -/
def isInt (P : Program) (t : TypeId) (k : IntKind) : Bool := match P.underlying t with | some (.int k') => decide (k' = k) | _ => false
def isBool (P : Program) (t : TypeId) : Bool := match P.underlying t with | some .bool => true | _ => false
def isStr (P : Program) (t : TypeId) : Bool := match P.underlying t with | some .string => true | _ => false
def sliceOf (P : Program) (t : TypeId) : Option TypeId := match P.underlying t with | some (.slice e) => some e | _ => none
def arrOf (P : Program) (t : TypeId) : Option (Nat × TypeId) := match P.underlying t with | some (.array n e) => some (n, e) | _ => none
def fieldsOf (P : Program) (t : TypeId) : Option (List Field) := match P.underlying t with | some (.struct fs) => some fs.toList | _ => none

mutual
def fits (P : Program) : Sh → TypeId → Bool
  | .int k, t => isInt P t k
  | .bool, t => isBool P t
  | .str, t => isStr P t
  | .unit, t => match fieldsOf P t with | some [] => P.cellsOf t == 0 | _ => false
  | .pair a b, t => match fieldsOf P t with | some (f :: fs) => P.cellsOf t == a.size + b.size && f.offset == 0 && P.cellsOf f.type == a.size && fits P a f.type && fitsF P b fs a.size | _ => false
  | .slice by_ e, t => match sliceOf P t with | some u => P.cellsOf u == e.size && P.bytesOf u == by_ && fits P e u | _ => false
  | .arr n e, t => match arrOf P t with | some (m, u) => m == n && P.cellsOf t == n * e.size && P.cellsOf u == e.size && fits P e u | _ => false
def fitsF (P : Program) : Sh → List Field → Nat → Bool
  | .unit, [], _ => true
  | .pair a b, f :: fs, o => f.offset == o && P.cellsOf f.type == a.size && fits P a f.type && fitsF P b fs (o + a.size)
  | _, _, _ => false
end

theorem exists_list {α : Type} (n : Nat) (p : Nat → α → Prop) (h : ∀ i, i < n → ∃ x, p i x) : ∃ l : List α, l.length = n ∧ ∀ i (hi : i < l.length), p i l[i] := by
  induction n with
  | zero => exact ⟨[], rfl, fun i hi => absurd hi (by simp)⟩
  | succ n ih =>
    obtain ⟨l, hl, hp⟩ := ih fun i hi => h i (by omega)
    obtain ⟨x, hx⟩ := h n (by omega)
    refine ⟨l ++ [x], by simp [hl], fun i hi => ?_⟩
    by_cases e : i < l.length
    · rw [List.getElem_append_left e]; exact hp i e
    · have : i = n := by simp at hi; omega
      subst this
      rw [List.getElem_append_right (by omega)]
      simpa [hl] using hx

section
variable {H : Type} {enc : TypeId × Value → H} {P : Program} {w : World} {spare : Nat → Bool} {held : Bool}

theorem und_slice {t u : TypeId} (h : sliceOf P t = some u) : P.underlying t = some (.slice u) := by
  unfold sliceOf at h; split at h <;> simp_all
theorem und_arr {t : TypeId} {n : Nat} {u : TypeId} (h : arrOf P t = some (n, u)) : P.underlying t = some (.array n u) := by
  unfold arrOf at h; split at h <;> simp_all
theorem und_fields {t : TypeId} {fs : List Field} (h : fieldsOf P t = some fs) : P.underlying t = some (.struct fs.toArray) := by
  unfold fieldsOf at h; split at h <;> simp_all
  subst h; simp_all
theorem und_int {t : TypeId} {k : IntKind} (h : isInt P t k = true) : P.underlying t = some (.int k) := by
  unfold isInt at h; split at h <;> simp_all
theorem und_bool {t : TypeId} (h : isBool P t = true) : P.underlying t = some .bool := by
  unfold isBool at h; split at h <;> simp_all
theorem und_str {t : TypeId} (h : isStr P t = true) : P.underlying t = some .string := by
  unfold isStr at h; split at h <;> simp_all

/-- all that is met takes no more bytes than there are -/
def Small (P : Program) (t : TypeId) (d : DataW H) : Prop := ∀ n ∈ d.weights P t, n ≤ reachBytes
theorem small_all {e : TypeId} : ∀ {ds : List (DataW H)}, (∀ n ∈ DataW.weightsAll P e ds, n ≤ reachBytes) → ∀ d ∈ ds, Small P e d
  | [], _, d, hd => by simp at hd
  | d0 :: ds, h, d, hd => by
    simp only [DataW.weightsAll, List.mem_append] at h
    simp only [List.mem_cons] at hd
    rcases hd with rfl | hd
    · exact fun n hn => h n (.inl hn)
    · exact small_all (fun n hn => h n (.inr hn)) d hd
theorem small_each : ∀ {ts : List TypeId} {ds : List (DataW H)}, (∀ n ∈ DataW.weightsEach P ts ds, n ≤ reachBytes) → ∀ (j : Nat) (t : TypeId) (d : DataW H), ts[j]? = some t → ds[j]? = some d → Small P t d :=
  fun h j t d ht hd n hn => h n (DataW.weights_mem_each ht hd n hn)
theorem slice_rep (by_ : Nat) (e : Sh) (ih : ∀ (t : TypeId) (fuel : Nat) (cs : List Value) (x : DataW H × List MemPlace), fits P e t = true → DataW.trod enc P w 0 spare held fuel t cs = some x → Small P t x.1 → ∃ v : e.T, Rep w e v cs)
    (t : TypeId) (fuel : Nat) (cs : List Value) (x : DataW H × List MemPlace) (hf : fits P (.slice by_ e) t = true) (h : DataW.trod enc P w 0 spare held fuel t cs = some x) (hw : Small P t x.1) : ∃ v : (Sh.slice by_ e).T, Rep w (.slice by_ e) v cs := by
  simp only [fits] at hf
  split at hf
  · rename_i u hu
    simp only [Bool.and_eq_true, beq_iff_eq] at hf
    obtain ⟨⟨hsz, hby⟩, hfe⟩ := hf
    rcases open_slice (und_slice hu) h with ⟨rfl, _⟩ | ⟨a, len, cap, m, n, D, Pl, rfl, _, hl, hm, hmm, hx, hi⟩
    · exact ⟨([] : List e.T), .inl ⟨rfl, rfl⟩⟩
    · have hlm : len ≤ m := by rw [hmm]; split <;> omega
      have hwt : ∀ k ∈ (len + (m - len)) * P.bytesOf u :: (DataW.weightsAll P u ((List.range len).map D) ++ DataW.weightsAll P u ((List.range (m - len)).map fun j => D (len + j))), k ≤ reachBytes := by
        intro k hk
        refine hw k ?_
        rw [hx]
        simp only [DataW.weights, und_slice hu, List.length_map, List.length_range]
        exact hk
      have hbytes : len * by_ ≤ 140737488351232 := by
        have h1 := hwt _ (List.mem_cons_self ..)
        rw [hby] at h1
        have h2 : len * by_ ≤ (len + (m - len)) * by_ := Nat.mul_le_mul_right _ (by omega)
        have h3 : reachBytes = 140737488351232 := rfl
        omega
      have hsm : ∀ i, i < len → Small P u (D i) := fun i hi => small_all (ds := (List.range len).map D) (fun k hk => hwt k (by simp [hk])) _ (List.mem_map.2 ⟨i, List.mem_range.2 hi, rfl⟩)
      have hi' : ∀ i, i < len → ∃ (v : e.T), ∃ cs' : List Value, cs'.length = e.size ∧ (∀ j, j < e.size → w.cell? ((a.add (i * e.size)).add j) = cs'[j]?) ∧ Rep w e v cs' := by
        intro i hil
        obtain ⟨cs', hc, ht⟩ := hi i (by omega)
        obtain ⟨_, hcl, hat⟩ := World.cells?_some hc
        obtain ⟨v, hv⟩ := ih u n cs' _ hfe ht (hsm i hil)
        rw [hsz] at hcl hat
        exact ⟨v, cs', hcl, hat, hv⟩
      obtain ⟨xs, hxl, hxs⟩ := exists_list len _ hi'
      obtain ⟨b, off, sp⟩ := a
      have hsp : 0 < xs.length → 0 < e.size → sp = none ∧ b < w.heap.size := by
        intro h0 h1
        obtain ⟨cs', hcl, hat, _⟩ := hxs 0 h0
        have h2 := hat 0 h1
        have h3 : cs'[0]? = some (cs'[0]'(by omega)) := List.getElem?_eq_getElem (by omega)
        rw [h3] at h2
        have h4 := World.cell?_spot h2
        simp [Addr.add] at h4
        refine ⟨h4, ?_⟩
        unfold World.cell? at h2
        split at h2
        · rename_i hh
          have := (Array.getElem?_eq_some_iff.1 hh).1
          simpa [Addr.add] using this
        · simp at h2
      refine ⟨xs, .inr ⟨b, off, cap, sp, by rw [hxl], by omega, hm, by rw [hxl]; exact hbytes, hsp, fun i hil => ?_⟩⟩
      obtain ⟨cs', hcl, hat, hv⟩ := hxs i hil
      refine ⟨cs', hcl, fun j hj => ?_, hv⟩
      obtain ⟨hs, _⟩ := hsp (by omega) (by omega)
      subst hs
      rw [← hat j (by omega)]
      congr 1
      simp only [Addr.add]
      split <;> split <;> simp_all <;> omega
  · cases hf

theorem arr_rep (n : Nat) (e : Sh) (ih : ∀ (t : TypeId) (fuel : Nat) (cs : List Value) (x : DataW H × List MemPlace), fits P e t = true → DataW.trod enc P w 0 spare held fuel t cs = some x → Small P t x.1 → ∃ v : e.T, Rep w e v cs)
    (t : TypeId) (fuel : Nat) (cs : List Value) (x : DataW H × List MemPlace) (hf : fits P (.arr n e) t = true) (h : DataW.trod enc P w 0 spare held fuel t cs = some x) (hw : Small P t x.1) : ∃ v : (Sh.arr n e).T, Rep w (.arr n e) v cs := by
  simp only [fits] at hf
  split at hf
  · rename_i m u hu
    simp only [Bool.and_eq_true, beq_iff_eq] at hf
    obtain ⟨⟨⟨rfl, hct⟩, hsz⟩, hfe⟩ := hf
    obtain ⟨xs, k, _, hx, hlen, hxl, hi⟩ := DataW.trod_array (und_arr hu) h
    have hsm : ∀ d ∈ xs.map (·.1), Small P u d := small_all fun k hk => hw k (by rw [hx]; simp only [DataW.weights, und_arr hu]; exact hk)
    have hi' : ∀ i, i < m → ∃ (v : e.T), Rep w e v ((cs.drop (i * e.size)).take e.size) := by
      intro i hil
      have h1 := hi i hil
      rw [List.getElem?_eq_getElem (by omega), hsz] at h1
      exact ih u k _ _ hfe h1 (hsm _ (List.mem_map.2 ⟨_, List.getElem_mem (by omega), rfl⟩))
    obtain ⟨ys, hyl, hys⟩ := exists_list m _ hi'
    exact ⟨ys, hyl, by omega, hys⟩
  · cases hf

/-- the cells of a struct's fields from offset o on -/
theorem fields_rep (P : Program) (b : Sh) : ∀ (rest : List Field) (o : Nat) (cs : List Value) (fuel : Nat),
    (∀ f ∈ rest, ∃ y, DataW.trod enc P w 0 spare held fuel f.type ((cs.drop f.offset).take (P.cellsOf f.type)) = some y ∧ Small P f.type y.1) → fitsF P b rest o = true → cs.length = o + b.size →
    (∀ (s : Sh), s.depth < b.depth → ∀ (t : TypeId) (fuel : Nat) (cs : List Value) (x : DataW H × List MemPlace), fits P s t = true → DataW.trod enc P w 0 spare held fuel t cs = some x → Small P t x.1 → ∃ v : s.T, Rep w s v cs) →
    ∃ v : b.T, Rep w b v (cs.drop o) := by
  induction b with
  | unit =>
    intro rest o cs fuel _ hf hl _
    cases rest with
    | nil => exact ⟨(), by simp [Sh.size] at hl; simp [Rep, hl]⟩
    | cons f fs => simp [fitsF] at hf
  | pair a b _ ihb =>
    intro rest o cs fuel hy hf hl ih
    cases rest with
    | nil => simp [fitsF] at hf
    | cons f fs =>
      simp only [fitsF, Bool.and_eq_true, beq_iff_eq] at hf
      obtain ⟨⟨⟨ho, hsz⟩, hfa⟩, hfb⟩ := hf
      obtain ⟨y, hy1, hy2⟩ := hy f (by simp)
      obtain ⟨v1, hv1⟩ := ih a (by simp [Sh.depth]; omega) _ _ _ _ hfa hy1 hy2
      obtain ⟨v2, hv2⟩ := ihb fs (o + a.size) cs fuel (fun f hf => hy f (by simp [hf])) hfb (by simp [Sh.size] at hl; omega) (fun s hs => ih s (by simp [Sh.depth]; omega))
      refine ⟨(v1, v2), (cs.drop o).take a.size, cs.drop (o + a.size), ?_, ?_, hv2⟩
      · rw [← List.drop_drop, List.take_append_drop]
      · rw [ho, hsz] at hv1; exact hv1
  | int k => intro rest o cs fuel _ hf; simp [fitsF] at hf
  | bool => intro rest o cs fuel _ hf; simp [fitsF] at hf
  | str => intro rest o cs fuel _ hf; simp [fitsF] at hf
  | slice b e => intro rest o cs fuel _ hf; simp [fitsF] at hf
  | arr n e => intro rest o cs fuel _ hf; simp [fitsF] at hf

/-- WHAT CAN BE READ AT A TYPE OF SHAPE s REPRESENTS A VALUE OF s -/
theorem rep_of_trod : ∀ (s : Sh) (t : TypeId) (fuel : Nat) (cs : List Value) (x : DataW H × List MemPlace), fits P s t = true → DataW.trod enc P w 0 spare held fuel t cs = some x → Small P t x.1 → ∃ v : s.T, Rep w s v cs
  | .int k, t, fuel, cs, x, hf, h, hw => by
    obtain ⟨n, h1, _, h3⟩ := DataW.trod_int (und_int (by simpa [fits] using hf)) h
    exact ⟨n, h1, h3⟩
  | .bool, t, fuel, cs, x, hf, h, hw => by
    obtain ⟨n, h1, _⟩ := DataW.trod_bool (und_bool (by simpa [fits] using hf)) h
    exact ⟨n, h1⟩
  | .str, t, fuel, cs, x, hf, h, hw => by
    obtain ⟨n, h1, h2, h3⟩ := DataW.trod_string (und_str (by simpa [fits] using hf)) h
    refine ⟨n, h1, ?_⟩
    have h6 : n.data.toList.length ∈ x.1.weights P t := by rw [h2]; simp only [DataW.weights]; exact List.mem_singleton.2 rfl
    have h7 := hw _ h6
    have h4 : reachBytes = 140737488351232 := rfl
    have h5 : n.data.toList.length = n.size := rfl
    rw [h5, h4] at h7
    exact h7
  | .unit, t, fuel, cs, x, hf, h, hw => by
    simp only [fits] at hf
    split at hf
    · rename_i hu
      obtain ⟨xs, n, _, _, hl, _⟩ := DataW.trod_struct (und_fields hu) h
      simp at hf
      rw [hf] at hl
      exact ⟨(), by simpa [Rep] using hl⟩
    · cases hf
  | .pair a b, t, fuel, cs, x, hf, h, hw => by
    simp only [fits] at hf
    split at hf
    · rename_i f fs hu
      simp only [Bool.and_eq_true, beq_iff_eq] at hf
      obtain ⟨⟨⟨⟨hct, ho⟩, hsz⟩, hfa⟩, hfb⟩ := hf
      obtain ⟨xs, n, _, hx, hl, hxl, hi⟩ := DataW.trod_struct (und_fields hu) h
      have hsm : ∀ (j : Nat) (t : TypeId) (d : DataW H), ((f :: fs).map (·.type))[j]? = some t → (xs.map (·.1))[j]? = some d → Small P t d := small_each fun k hk => hw k (by rw [hx]; simp only [DataW.weights, und_fields hu]; exact hk)
      have hy : ∀ g ∈ f :: fs, ∃ y, DataW.trod enc P w 0 spare held n g.type ((cs.drop g.offset).take (P.cellsOf g.type)) = some y ∧ Small P g.type y.1 := by
        intro g hg
        obtain ⟨i, hi1, hi2⟩ := List.mem_iff_getElem.1 hg
        have h1 := hi i g (by simp only [List.getElem?_toArray]; rw [List.getElem?_eq_getElem hi1, hi2])
        have hxi : i < xs.length := by rw [hxl]; simpa using hi1
        rw [List.getElem?_eq_getElem hxi] at h1
        refine ⟨_, h1, hsm i g.type _ ?_ ?_⟩
        · rw [List.getElem?_map, List.getElem?_eq_getElem hi1, hi2]; rfl
        · rw [List.getElem?_map, List.getElem?_eq_getElem hxi]; rfl
      obtain ⟨y, hy1, hy2⟩ := hy f (by simp)
      obtain ⟨v1, hv1⟩ := rep_of_trod a _ _ _ _ hfa hy1 hy2
      obtain ⟨v2, hv2⟩ := fields_rep P b fs a.size cs n (fun g hg => hy g (by simp [hg])) hfb (by omega) (fun s hs => rep_of_trod s)
      refine ⟨(v1, v2), cs.take a.size, cs.drop a.size, by rw [List.take_append_drop], ?_, hv2⟩
      rw [ho, hsz] at hv1
      simpa using hv1
    · cases hf
  | .slice by_ e, t, fuel, cs, x, hf, h, hw => slice_rep by_ e (rep_of_trod e) t fuel cs x hf h hw
  | .arr n e, t, fuel, cs, x, hf, h, hw => arr_rep n e (rep_of_trod e) t fuel cs x hf h hw
termination_by s => s.depth
decreasing_by all_goals (simp [Sh.depth]; try omega)

/-- AN ARGUMENT OF A LAW: its value is a single cell, or an aggregate; its cells represent a value of the shape. -/
def Arg (w : World) (s : Sh) (v : Value) : Prop := ∃ (x : s.T) (cs : List Value), Rep w s x cs ∧ if s.isAgg then v = .agg cs.toArray else cs = [v]
theorem arg_of {base : Nat} {t : TypeId} {v : Value} {d : DataW H} {ps : List MemPlace} (s : Sh) (hf : fits P s t = true) (hval : Value.okWide P w .any base t v) (h : DataW.Trod enc P w 0 spare held t v d ps) (hw : Small P t d) : Arg w s v := by
  obtain ⟨fuel, ht⟩ := h
  obtain ⟨x, hx⟩ := rep_of_trod s t fuel _ _ hf ht hw
  refine ⟨x, _, hx, ?_⟩
  cases s with
  | int k => obtain ⟨n, rfl⟩ := okWide_int (und_int (by simpa [fits] using hf)) hval; simp [Sh.isAgg, Value.cells]
  | bool => obtain ⟨n, rfl⟩ := okWide_bool (und_bool (by simpa [fits] using hf)) hval; simp [Sh.isAgg, Value.cells]
  | str => obtain ⟨n, rfl⟩ := okWide_string (und_str (by simpa [fits] using hf)) hval; simp [Sh.isAgg, Value.cells]
  | slice by_ e =>
    simp only [fits] at hf
    split at hf
    · rename_i u hu
      obtain ⟨a, len, cap, rfl⟩ := okWide_slice (und_slice hu) hval
      simp [Sh.isAgg, Value.cells]
    · cases hf
  | unit =>
    simp only [fits] at hf
    split at hf
    · rename_i hu
      obtain ⟨cs, rfl, _⟩ := okWide_struct (und_fields hu) hval
      simp [Sh.isAgg, Value.cells]
    · cases hf
  | pair a b =>
    simp only [fits] at hf
    split at hf
    · rename_i f fs hu
      obtain ⟨cs, rfl, _⟩ := okWide_struct (und_fields hu) hval
      simp [Sh.isAgg, Value.cells]
    · cases hf
  | arr n e =>
    simp only [fits] at hf
    split at hf
    · rename_i m u hu
      simp only [Value.okWide, und_arr hu] at hval
      obtain ⟨cs, rfl, _⟩ := hval
      simp [Sh.isAgg, Value.cells]
    · cases hf
end

theorem cell_on {w w' : World} (hb : Below w.heap.size w w') {a : Addr} {v : Value} (h : w.cell? a = some v) : w'.cell? a = some v := cell_later hb h
/-- what represented a value represents it in every later world in which nothing that was there has changed -/
theorem Rep.later {w w' : World} (hb : Below w.heap.size w w') : ∀ (s : Sh) (x : s.T) (cs : List Value), Rep w s x cs → Rep w' s x cs
  | .int _, _, _, h => h
  | .bool, _, _, h => h
  | .str, _, _, h => h
  | .unit, _, _, h => h
  | .pair a b, (x, y), cs, ⟨c1, c2, h, h1, h2⟩ => ⟨c1, c2, h, Rep.later hb a x c1 h1, Rep.later hb b y c2 h2⟩
  | .slice _ e, xs, cs, h => by
    rcases h with h | ⟨b, off, cap, sp, hcs, hl, hm, hby, hsp, hi⟩
    · exact .inl h
    · refine .inr ⟨b, off, cap, sp, hcs, hl, hm, hby, fun h1 h2 => ⟨(hsp h1 h2).1, Nat.lt_of_lt_of_le (hsp h1 h2).2 hb.size⟩, fun i hil => ?_⟩
      obtain ⟨cs', hcl, hat, hv⟩ := hi i hil
      refine ⟨cs', hcl, fun j hj => ?_, Rep.later hb e _ _ hv⟩
      have h1 := hat j hj
      rw [List.getElem?_eq_getElem hj] at h1 ⊢
      exact cell_on hb h1
  | .arr n e, xs, cs, h => by
    obtain ⟨h1, h2, h3⟩ := h
    exact ⟨h1, h2, fun i hi => Rep.later hb e _ _ (h3 i hi)⟩
end Go.Proofs.YtnkdanobhgofbaaGreatDoor.rep
