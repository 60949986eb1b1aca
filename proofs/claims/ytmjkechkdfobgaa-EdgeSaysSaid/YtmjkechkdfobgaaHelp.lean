/- Small lemmas of my own, over any program: endings, worlds, blocks, the bit operations of int on small numbers. -/
import Derived.Test.YtmjkechkdfobgaaRows
import Derived.WalkKit
import Derived.ProofKit
import Derived.OpenShut
import Derived.Below
import Derived.ShutString
import Derived.ChangeOld
import Derived.Laws.BitsAllLaws
import Derived.Laws.Rows
import Derived.Deep.RegionHeld
import Derived.Deep.QuietTactic
import Derived.BigQuiet
import Derived.Lib.Hide
import Derived.WalkSpells
import Derived.Outline
namespace Go.Proofs.Ytmjkechkdfobgaa.help
set_option linter.all false
open Go.RowKit

/-- the call returns v and changes nothing that was there -/
def Ret (v : Value) (w : World) (e : Ending) (w' : World) : Prop := e = .returned v ∧ Below w.heap.size w w'
theorem ret_two {a b c d : Value} (h : a = c) (h' : b = d) : Ending.returned (.tuple #[a, b]) = .returned (.tuple #[c, d]) := by rw [h, h']
theorem ret_three {a b c d e f : Value} (h : a = d) (h' : b = e) (h2 : c = f) : Ending.returned (.tuple #[a, b, c]) = .returned (.tuple #[d, e, f]) := by rw [h, h', h2]
theorem v_int {k : IntKind} {a b : Int} (h : a = b) : Value.int k a = .int k b := by rw [h]
theorem v_bool {a b : Bool} (h : a = b) : Value.bool a = .bool b := by rw [h]
theorem ret_int {k : IntKind} {a b : Int} (h : a = b) : Ending.returned (.int k a) = .returned (.int k b) := by rw [h]
theorem ret_bool {a b : Bool} (h : a = b) : Ending.returned (.bool a) = .returned (.bool b) := by rw [h]
theorem ret_eq {a b : Value} (h : a = b) : Ending.returned a = .returned b := by rw [h]

theorem bel_alloc {a w : World} (h : Below a.heap.size a w) (o : Obj) : Below a.heap.size a (w.alloc o) := h.alloc h.size o
theorem bel_drewN {B : Nat} {a w : World} (h : Below B a w) (n : Nat) : Below B a (w.drewN n) := ⟨h.os, h.tape, h.output, h.size, h.block⟩
theorem bcell {W w1 : World} (hb : Below W.heap.size W w1) : (∀ b o, b < W.heap.size → w1.cell? ⟨b, o, none⟩ = W.cell? ⟨b, o, none⟩) ∧ (∀ b o, b < W.heap.size → w1.frozen? ⟨b, o, none⟩ = W.frozen? ⟨b, o, none⟩) :=
  ⟨fun b o h => hb.cell (p := ⟨b, o, none⟩) h, fun b o h => hb.frozen (p := ⟨b, o, none⟩) h⟩

/-- block b of the world holds these cells, none of them frozen -/
def Blk (w : World) (b : Nat) (cs : Array Value) : Prop := ∃ t, w.heap[b]? = some (.cells cs t (0, 0))
theorem Blk.lt {w : World} {b : Nat} {cs : Array Value} (h : Blk w b cs) : b < w.heap.size := by
  obtain ⟨t, h⟩ := h; exact (Array.getElem?_eq_some_iff.1 h).1
theorem Blk.cells {w : World} {b : Nat} {cs : Array Value} (h : Blk w b cs) (o : Nat) : w.cell? ⟨b, o, none⟩ = cs[o]? := by
  obtain ⟨t, h⟩ := h; unfold World.cell?; simp [h]
theorem Blk.frz {w : World} {b : Nat} {cs : Array Value} (h : Blk w b cs) (o : Nat) : w.frozen? ⟨b, o, none⟩ = false := by
  obtain ⟨t, h⟩ := h; unfold World.frozen?; simp [h]
theorem Blk.later {w w' : World} {b : Nat} {cs : Array Value} (hb : Below w.heap.size w w') (h : Blk w b cs) : Blk w' b cs := by
  have hl := h.lt
  obtain ⟨t, h⟩ := h; exact ⟨t, by rw [hb.block b hl, h]⟩
theorem Blk.new (w : World) (cs : Array Value) (t : TypeId) : Blk (w.alloc (.cells cs t)) w.heap.size cs := ⟨t, (MapKept.heap_alloc w _).1⟩
theorem Blk.alloc {w : World} {b : Nat} {cs : Array Value} (h : Blk w b cs) (o : Obj) : Blk (w.alloc o) b cs := by
  have hl := h.lt
  obtain ⟨t, h⟩ := h; exact ⟨t, by rw [Below.heap_alloc w o b hl, h]⟩
theorem Blk.cast {w : World} {b : Nat} {cs cs' : Array Value} (h : Blk w b cs) (e : cs = cs') : Blk w b cs' := e ▸ h
theorem Blk.drew {w : World} {b : Nat} {cs : Array Value} (h : Blk w b cs) : Blk w.drew b cs := h
theorem Blk.set {w : World} {b : Nat} {cs : Array Value} (h : Blk w b cs) (o : Nat) (v : Value) : Blk (w.setCell ⟨b, o, none⟩ v) b (cs.setIfInBounds o v) := by
  obtain ⟨t, h⟩ := h; exact ⟨t, by simp [World.setCell, Array.getElem?_modify, h]⟩
theorem Blk.far {w : World} {b : Nat} {cs : Array Value} (h : Blk w b cs) (a : Addr) (v : Value) (hn : b ≠ a.block) : Blk (w.setCell a v) b cs := by
  obtain ⟨t, h⟩ := h; exact ⟨t, by rw [Below.heap_setCell w a v b hn, h]⟩
theorem alloc_some (w : World) (p : Addr) (o : Obj) (h : (w.cell? p).isSome = true) : (w.alloc o).cell? p = w.cell? p := World.cell?_alloc_some w p o h
theorem alloc_frz (w : World) (p : Addr) (o : Obj) (h : (w.cell? p).isSome = true) : (w.alloc o).frozen? p = w.frozen? p := by
  obtain ⟨v, hv⟩ := Option.isSome_iff_exists.1 h
  exact World.frozen?_alloc_old w o p (Nat.ne_of_lt (World.block_lt_of_cell? _ _ hv))
theorem alloc_some2 (w : World) (p : Addr) (o1 o2 : Obj) (h : (w.cell? p).isSome = true) : ((w.alloc o1).alloc o2).cell? p = w.cell? p :=
  (alloc_some _ p o2 (by rw [alloc_some w p o1 h]; exact h)).trans (alloc_some w p o1 h)
theorem alloc_frz2 (w : World) (p : Addr) (o1 o2 : Obj) (h : (w.cell? p).isSome = true) : ((w.alloc o1).alloc o2).frozen? p = w.frozen? p :=
  (alloc_frz _ p o2 (by rw [alloc_some w p o1 h]; exact h)).trans (alloc_frz w p o1 h)
theorem alloc_some3 (w : World) (p : Addr) (o1 o2 o3 : Obj) (h : (w.cell? p).isSome = true) : (((w.alloc o1).alloc o2).alloc o3).cell? p = w.cell? p :=
  (alloc_some _ p o3 (by rw [alloc_some2 w p o1 o2 h]; exact h)).trans (alloc_some2 w p o1 o2 h)
theorem alloc_frz3 (w : World) (p : Addr) (o1 o2 o3 : Obj) (h : (w.cell? p).isSome = true) : (((w.alloc o1).alloc o2).alloc o3).frozen? p = w.frozen? p :=
  (alloc_frz _ p o3 (by rw [alloc_some2 w p o1 o2 h]; exact h)).trans (alloc_frz2 w p o1 o2 h)
theorem alloc_some4 (w : World) (p : Addr) (o1 o2 o3 o4 : Obj) (h : (w.cell? p).isSome = true) : ((((w.alloc o1).alloc o2).alloc o3).alloc o4).cell? p = w.cell? p :=
  (alloc_some _ p o4 (by rw [alloc_some3 w p o1 o2 o3 h]; exact h)).trans (alloc_some3 w p o1 o2 o3 h)
theorem alloc_frz4 (w : World) (p : Addr) (o1 o2 o3 o4 : Obj) (h : (w.cell? p).isSome = true) : ((((w.alloc o1).alloc o2).alloc o3).alloc o4).frozen? p = w.frozen? p :=
  (alloc_frz _ p o4 (by rw [alloc_some3 w p o1 o2 o3 h]; exact h)).trans (alloc_frz3 w p o1 o2 o3 h)
theorem alloc_some5 (w : World) (p : Addr) (o1 o2 o3 o4 o5 : Obj) (h : (w.cell? p).isSome = true) : (((((w.alloc o1).alloc o2).alloc o3).alloc o4).alloc o5).cell? p = w.cell? p :=
  (alloc_some _ p o5 (by rw [alloc_some4 w p o1 o2 o3 o4 h]; exact h)).trans (alloc_some4 w p o1 o2 o3 o4 h)
theorem alloc_frz5 (w : World) (p : Addr) (o1 o2 o3 o4 o5 : Obj) (h : (w.cell? p).isSome = true) : (((((w.alloc o1).alloc o2).alloc o3).alloc o4).alloc o5).frozen? p = w.frozen? p :=
  (alloc_frz _ p o5 (by rw [alloc_some4 w p o1 o2 o3 o4 h]; exact h)).trans (alloc_frz4 w p o1 o2 o3 o4 h)
def aggT (P : Program) (ty : TypeId) : Bool := match P.underlying ty with | some (.struct _) | some (.array _ _) => true | _ => false
theorem blk_load {P : Program} {w : World} {b : Nat} {cs : Array Value} {ty : TypeId} (h : Blk w b cs) (hu : aggT P ty = true) (hi : (P.info? ty).map (·.size) = some cs.size) :
    (loadVar ty ⟨b, 0, none⟩).run P w = .ok (.agg cs) w := by
  obtain ⟨t, h⟩ := h
  unfold aggT at hu
  cases hq : P.underlying ty with
  | none => simp [hq] at hu
  | some d => exact run_loadVar_row w b t ty cs (0, 0) d h hq (by rw [hq] at hu; cases d <;> simp_all) hi
/-- the end of a function whose one result is a struct or an array -/
theorem post_cell {P : Program} {fn : Func} {R : Ending → World → Prop} {a : Act} {w : World} {p : Tmp} {ty : TypeId} {g : Nat} {cs : Array Value} (hf : fn.results = #[.cell p ty]) (hd : a.defers = [])
    (hp : a.tmps.getD p undef = .pointer (some ⟨g, 0, none⟩)) (hg : Blk w g cs) (hu : aggT P ty = true) (hi : (P.info? ty).map (·.size) = some cs.size) (hR : R (.returned (.agg cs)) w) : bodyPost P fn R .ret a w := by
  refine bodyPost_ret (v := .agg cs) ?_ hd hR
  have hp' : a.tmps[p]?.getD undef = .pointer (some ⟨g, 0, none⟩) := by simpa using hp
  simp [results, hf, hp', asAddr, blk_load hg hu hi]
/-- .. whose two results are a struct or an array, and a plain value -/
theorem post_cell_tmp {P : Program} {fn : Func} {R : Ending → World → Prop} {a : Act} {w : World} {p u : Tmp} {ty : TypeId} {g : Nat} {cs : Array Value} (hf : fn.results = #[.cell p ty, .tmp u]) (hd : a.defers = [])
    (hp : a.tmps.getD p undef = .pointer (some ⟨g, 0, none⟩)) (hg : Blk w g cs) (hu : aggT P ty = true) (hi : (P.info? ty).map (·.size) = some cs.size) (hR : R (.returned (.tuple #[.agg cs, a.tmps.getD u undef])) w) : bodyPost P fn R .ret a w := by
  refine bodyPost_ret (v := .tuple #[.agg cs, a.tmps.getD u undef]) ?_ hd hR
  have hp' : a.tmps[p]?.getD undef = .pointer (some ⟨g, 0, none⟩) := by simpa using hp
  simp [results, hf, hp', asAddr, blk_load hg hu hi]
/-- a later world, in which nothing that was there has changed -/
structure LaterW (w : World) where
  val : World
  prop : Below w.heap.size w val
instance (w : World) : Nonempty (LaterW w) := ⟨⟨w, Below.refl _ _⟩⟩
theorem sub_of {P : Program} {f : FuncId} {args : Array Value} {w : World} {x : LaterW w} {v : Value} (h : Calls P f args x.val (Ret v x.val)) :
    Calls P f args x.val fun e w'' => e = .returned v ∧ ∃ y : LaterW w, w'' = y.val :=
  h.mono fun _ w'' ⟨he, hb⟩ => ⟨he, ⟨w'', x.prop.trans (hb.mono x.prop.size)⟩, rfl⟩
/-- a region that draws its order, whose operations only read and whose calls make memory but change none: one walk in the order of the text serves every order -/
theorem wp_region_sub {P : Program} {id : Nat} {Q : Exit → Act → World → Prop} {a : Act} {w : World} {l : List Oper} (hm : P.follows .mixedOrders = true) (hB : Region.lexB .any l.toArray = true)
    (h : wpQuiet P l.toArray (fun w' => ∃ x : LaterW w, w' = x.val) (fun a' => ∀ w', (∃ x : LaterW w, w' = x.val) → Q .normal a' w') l a) : (Code.region id l.toArray true).wp P Q a w :=
  wp_region_quiet (C := fun w' => ∃ x : LaterW w, w' = x.val) hm hB ⟨⟨_, (Below.refl _ _).drew⟩, rfl⟩ (by simpa using h)
theorem later_intro {w : World} {Q : World → Prop} (h : ∀ w1, Below w.heap.size w w1 → Q w1) : ∀ w', (∃ x : LaterW w, w' = x.val) → Q w' :=
  fun _ ⟨x, hx⟩ => hx ▸ h x.val x.prop
theorem ofInt64 (a : Nat) (ha : a < 9223372036854775808) : (BitVec.ofInt 64 (a : Int)).toNat = a := by
  rw [BitVec.ofInt_natCast, BitVec.toNat_ofNat]; exact Nat.mod_eq_of_lt (by omega)
theorem i64_and_nat (a b : Nat) (ha : a < 9223372036854775808) (hb : b < 9223372036854775808) : bits .and .i64 (a : Int) (b : Int) = ((a &&& b : Nat) : Int) := by
  have hx : a &&& b < 2 ^ 63 := Nat.and_lt_two_pow _ (by omega)
  show IntKind.i64.wrap ((BitVec.ofInt 64 (a : Int) &&& BitVec.ofInt 64 (b : Int)).toNat : Int) = _
  rw [BitVec.toNat_and, ofInt64 a ha, ofInt64 b hb, IntKind.wrap_i64]
  omega
theorem i64_or_nat (a b : Nat) (ha : a < 9223372036854775808) (hb : b < 9223372036854775808) : bits .or .i64 (a : Int) (b : Int) = ((a ||| b : Nat) : Int) := by
  have hx : a ||| b < 2 ^ 63 := Nat.or_lt_two_pow (by omega) (by omega)
  show IntKind.i64.wrap ((BitVec.ofInt 64 (a : Int) ||| BitVec.ofInt 64 (b : Int)).toNat : Int) = _
  rw [BitVec.toNat_or, ofInt64 a ha, ofInt64 b hb, IntKind.wrap_i64]
  omega
theorem i64_andNot_nat (a b : Nat) (ha : a < 9223372036854775808) (hb : b < 9223372036854775808) : bits .andNot .i64 (a : Int) (b : Int) = ((a &&& (18446744073709551615 - b) : Nat) : Int) := by
  have hx : a &&& (18446744073709551615 - b) < 2 ^ 63 := by
    rw [Nat.and_comm]; exact Nat.and_lt_two_pow _ (by omega)
  show IntKind.i64.wrap ((BitVec.ofInt 64 (a : Int) &&& ~~~(BitVec.ofInt 64 (b : Int))).toNat : Int) = _
  rw [BitVec.toNat_and, BitVec.toNat_not, ofInt64 a ha, ofInt64 b hb, IntKind.wrap_i64]
  have e : (2 ^ 64 - 1 - b) = (18446744073709551615 - b) := rfl
  rw [e]
  omega
theorem or_add_and (a : Nat) : ∀ b : Nat, (a ||| b) + (a &&& b) = a + b := by
  induction a using Nat.strongRecOn with
  | _ a ih =>
    intro b
    by_cases h0 : a = 0
    · subst h0; simp
    · have h := ih (a / 2) (by omega) (b / 2)
      have e1 : (a ||| b) / 2 = a / 2 ||| b / 2 := Nat.or_div_two
      have e2 : (a &&& b) / 2 = a / 2 &&& b / 2 := Nat.and_div_two
      have m1 := Nat.testBit_or a b 0
      have m2 := Nat.testBit_and a b 0
      simp only [Nat.testBit_zero] at m1 m2
      rw [← e1, ← e2] at h
      generalize (a ||| b) = x at *
      generalize (a &&& b) = y at *
      rcases Nat.mod_two_eq_zero_or_one a with ha | ha <;> rcases Nat.mod_two_eq_zero_or_one b with hb | hb <;> simp [ha, hb] at m1 m2 <;> omega
theorem andNot0 (a b : Nat) (ha : a < 256) (hb : b < 256) : ((a &&& (18446744073709551615 - b)) == 0) = !((List.range 8).any fun i => a.testBit i && !b.testBit i) := by
  have e : 18446744073709551615 - b = 2 ^ 64 - (b + 1) := by omega
  have ht : ∀ i, (a &&& (18446744073709551615 - b)).testBit i = (a.testBit i && (decide (i < 64) && !b.testBit i)) := by
    intro i; rw [e, Nat.testBit_and, Nat.testBit_two_pow_sub_succ (by omega)]
  rw [Bool.eq_iff_iff]
  simp only [beq_iff_eq, Bool.not_eq_true', List.any_eq_false, List.mem_range]
  constructor
  · intro h i hi
    have := ht i
    rw [h] at this
    simp at this
    simpa using fun hh => this hh (by omega)
  · intro h
    apply Nat.eq_of_testBit_eq
    intro i
    rw [ht]
    simp
    by_cases hi : i < 8
    · have := h i hi; simp at this; intro h1 _; exact this h1
    · have : a.testBit i = false := Nat.testBit_lt_two_pow (Nat.lt_of_lt_of_le ha (by have := Nat.pow_le_pow_right (n := 2) (by omega) (show 8 ≤ i by omega); omega))
      simp [this]
end Go.Proofs.Ytmjkechkdfobgaa.help
