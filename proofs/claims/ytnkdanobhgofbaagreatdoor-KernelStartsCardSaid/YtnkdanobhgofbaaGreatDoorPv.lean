/- Pure values and how they stand in memory: immutable data, frames of pure values, private objects; the relation between a pure state and the machine's. Over any program. -/
import Derived.WalkKit
import Derived.ProofKit
import Derived.OpenShut
import Derived.Below
import Derived.Deep.MidRow
import Derived.Deep.Quiet
import Derived.Laws.Tables
import Derived.Laws.AppendOwn
import Derived.Laws.OwnMore
import Derived.Laws.MakeOwn
namespace Go.Proofs.YtnkdanobhgofbaaGreatDoor.pv
set_option linter.all false
open Go.RowKit

/-- data that nobody changes any more -/
inductive PV where
  | v (x : Value)
  | sl (xs : List PV)
  | agg (cs : List PV)
  | tup (vs : List PV)
  | iptr (cs : List PV) (off : Nat)
  | clo (f : FuncId) (caps : List PV)
  | ifc (t : Nat) (x : PV)
  | vp (g i off : Nat)
  | vm (g i : Nat)

/-- who owns what; and, by groups, where the things are that are named by numbers -/
structure Ow where
  b : Nat → Bool
  phi : Nat → List Nat
instance : CoeFun Ow fun _ => Nat → Bool := ⟨Ow.b⟩
/-- other blocks are owned; names stay -/
def Ow.set (o : Ow) (f : Nat → Bool) : Ow := ⟨f, o.phi⟩
/-- nothing is owned; names stay -/
abbrev Ow.no (o : Ow) : Ow := o.set fun _ => false
def Ow.zero : Ow := ⟨fun _ => false, fun _ => []⟩
/-- one name more -/
def Ow.add (o : Ow) (f : Nat → Bool) (g c : Nat) : Ow := ⟨f, fun i => if i = g then o.phi g ++ [c] else o.phi i⟩
@[simp] theorem Ow.set_b (o : Ow) (f : Nat → Bool) (j : Nat) : (o.set f) j = f j := rfl
@[simp] theorem Ow.set_phi (o : Ow) (f : Nat → Bool) : (o.set f).phi = o.phi := rfl
/-- names stay, there may be more -/
class Ph (o o' : Ow) : Prop where
  phi : ∀ g i c : Nat, (o.phi g)[i]? = some c → (o'.phi g)[i]? = some c
/-- names stay -/
theorem Ph.of_eq {o o' : Ow} (h : o'.phi = o.phi) : Ph o o' := ⟨fun g i c e => by rw [h]; exact e⟩
instance Ph.refl (o : Ow) : Ph o o := ⟨fun _ _ _ h => h⟩
instance Ph.set (o : Ow) (f : Nat → Bool) : Ph o (o.set f) := ⟨fun _ _ _ h => h⟩
instance Ph.unset (o : Ow) (f : Nat → Bool) : Ph (o.set f) o := ⟨fun _ _ _ h => h⟩
instance Ph.zero (o : Ow) : Ph Ow.zero o := ⟨fun g i c h => by simp [Ow.zero] at h⟩
instance Ph.add (o : Ow) (f : Nat → Bool) (g c : Nat) : Ph o (o.add f g c) := ⟨fun g' i c' h => by
  show (if g' = g then o.phi g ++ [c] else o.phi g')[i]? = _
  split
  · rename_i e; subst e
    rw [List.getElem?_append_left (List.getElem?_eq_some_iff.1 h).1]; exact h
  · exact h⟩
theorem Ph.trans {o1 o2 o3 : Ow} (h : Ph o1 o2) (k : Ph o2 o3) : Ph o1 o3 := ⟨fun g i c e => k.phi g i c (h.phi g i c e)⟩
mutual
/-- the value u stands for x in the world w; 'ow b': the block b is private (it may still be written) -/
def R (ow : Ow) (w : World) : PV → Value → Prop
  | .v x, u => u = x ∧ x.oneCell' = true
  | .sl xs, u => ∃ (a : Option Addr) (cap : Nat), u = .slice a xs.length cap ∧ xs.length ≤ cap ∧ cap ≤ maxLen ∧
      (xs = [] ∨ ∃ (b off sz : Nat) (cells : List Value), a = some ⟨b, off, none⟩ ∧ b < w.heap.size ∧ ow b = false ∧ w.rangeAt b off cells ∧ RE ow w sz xs cells)
  | .agg cs, u => ∃ vs : List Value, u = .agg vs.toArray ∧ RL ow w cs vs
  | .tup xs, u => ∃ vs : List Value, u = .tuple vs.toArray ∧ RT ow w xs vs
  | .iptr cs off, u => ∃ (b o : Nat) (cells : List Value), u = .pointer (some ⟨b, o + off, none⟩) ∧ b < w.heap.size ∧ ow b = false ∧ w.rangeAt b o cells ∧ RL ow w cs cells
  | .clo f caps, u => ∃ vs : List Value, u = .func (.func f) #[] vs.toArray ∧ RL ow w caps vs
  | .ifc t x, u => ∃ v : Value, u = .iface t v ∧ R ow w x v
  | .vp g i off, u => ∃ b, (ow.phi g)[i]? = some b ∧ u = .pointer (some ⟨b, off, none⟩)
  | .vm g i, u => ∃ b, (ow.phi g)[i]? = some b ∧ u = .map (some b)
/-- cells, one value each -/
def RL (ow : Ow) (w : World) : List PV → List Value → Prop
  | [], vs => vs = []
  | x :: xs, vs => ∃ v r, vs = v :: r ∧ R ow w x v ∧ v.oneCell' = true ∧ RL ow w xs r
/-- arguments, results -/
def RT (ow : Ow) (w : World) : List PV → List Value → Prop
  | [], vs => vs = []
  | x :: xs, vs => ∃ v r, vs = v :: r ∧ R ow w x v ∧ RT ow w xs r
/-- elements of sz cells each -/
def RE (ow : Ow) (w : World) (sz : Nat) : List PV → List Value → Prop
  | [], cs => cs = []
  | x :: xs, cs => ∃ u r, cs = u.cells.toList ++ r ∧ u.cells.size = sz ∧ (∀ v ∈ u.cells.toList, v.oneCell' = true) ∧ R ow w x u ∧ RE ow w sz xs r
end

/-- what was shared is shared, and as it was -/
structure Kp (ow : Ow) (w : World) (ow' : Ow) (w' : World) : Prop where
  size : w.heap.size ≤ w'.heap.size
  pub : ∀ b, b < w.heap.size → ow b = false → ow' b = false
  same : ∀ b, b < w.heap.size → ow b = false → w'.heap[b]? = w.heap[b]?
  [ph : Ph ow ow']

theorem rangeAt_kp {w w' : World} {b off : Nat} {cells : List Value} (h : w'.heap[b]? = w.heap[b]?) (hr : w.rangeAt b off cells) : w'.rangeAt b off cells :=
  fun j v hv => by rw [World.cell?_of_block (w := w) (a := ⟨b, off + j, none⟩) h]; exact hr j v hv

mutual
theorem R.mono {ow ow' : Ow} {w w' : World} (k : Kp ow w ow' w') : ∀ (x : PV) (u : Value), R ow w x u → R ow' w' x u
  | .v _, _, h => by simpa only [R] using h
  | .sl xs, u, h => by
    simp only [R] at h ⊢
    obtain ⟨a, cap, e, h1, h2, h3⟩ := h
    refine ⟨a, cap, e, h1, h2, ?_⟩
    rcases h3 with h3 | ⟨b, off, sz, cells, ha, hb, ho, hr, he⟩
    · exact .inl h3
    · exact .inr ⟨b, off, sz, cells, ha, Nat.lt_of_lt_of_le hb k.size, k.pub b hb ho, rangeAt_kp (k.same b hb ho) hr, RE.mono k sz xs cells he⟩
  | .agg cs, u, h => by
    simp only [R] at h ⊢
    obtain ⟨vs, e, h1⟩ := h
    exact ⟨vs, e, RL.mono k cs vs h1⟩
  | .tup cs, u, h => by
    simp only [R] at h ⊢
    obtain ⟨vs, e, h1⟩ := h
    exact ⟨vs, e, RT.mono k cs vs h1⟩
  | .iptr cs off, u, h => by
    simp only [R] at h ⊢
    obtain ⟨b, o, cells, e, hb, ho, hr, hl⟩ := h
    exact ⟨b, o, cells, e, Nat.lt_of_lt_of_le hb k.size, k.pub b hb ho, rangeAt_kp (k.same b hb ho) hr, RL.mono k cs cells hl⟩
  | .clo f cs, u, h => by
    simp only [R] at h ⊢
    obtain ⟨vs, e, h1⟩ := h
    exact ⟨vs, e, RL.mono k cs vs h1⟩
  | .ifc t x, u, h => by
    simp only [R] at h ⊢
    obtain ⟨v, e, h1⟩ := h
    exact ⟨v, e, R.mono k x v h1⟩
  | .vp g i off, u, h => by
    simp only [R] at h ⊢
    obtain ⟨b, h1, h2⟩ := h
    exact ⟨b, k.ph.phi g i b h1, h2⟩
  | .vm g i, u, h => by
    simp only [R] at h ⊢
    obtain ⟨b, h1, h2⟩ := h
    exact ⟨b, k.ph.phi g i b h1, h2⟩
theorem RL.mono {ow ow' : Ow} {w w' : World} (k : Kp ow w ow' w') : ∀ (xs : List PV) (vs : List Value), RL ow w xs vs → RL ow' w' xs vs
  | [], _, h => by simpa only [RL] using h
  | x :: xs, vs, h => by
    simp only [RL] at h ⊢
    obtain ⟨v, r, e, h1, h2, h3⟩ := h
    exact ⟨v, r, e, R.mono k x v h1, h2, RL.mono k xs r h3⟩
theorem RT.mono {ow ow' : Ow} {w w' : World} (k : Kp ow w ow' w') : ∀ (xs : List PV) (vs : List Value), RT ow w xs vs → RT ow' w' xs vs
  | [], _, h => by simpa only [RT] using h
  | x :: xs, vs, h => by
    simp only [RT] at h ⊢
    obtain ⟨v, r, e, h1, h3⟩ := h
    exact ⟨v, r, e, R.mono k x v h1, RT.mono k xs r h3⟩
theorem RE.mono {ow ow' : Ow} {w w' : World} (k : Kp ow w ow' w') (sz : Nat) : ∀ (xs : List PV) (vs : List Value), RE ow w sz xs vs → RE ow' w' sz xs vs
  | [], _, h => by simpa only [RE] using h
  | x :: xs, vs, h => by
    simp only [RE] at h ⊢
    obtain ⟨u, r, e, h0, h1, h2, h3⟩ := h
    exact ⟨u, r, e, h0, h1, R.mono k x u h2, RE.mono k sz xs r h3⟩
end

/-- how many cells a value has; its cells -/
def psz : PV → Nat
  | .agg cs => cs.length
  | _ => 1
def pcells : PV → List PV
  | .agg cs => cs
  | x => [x]
def isTup : PV → Bool
  | .tup _ => true
  | _ => false
theorem RL.length {ow : Ow} {w : World} : ∀ {xs : List PV} {vs : List Value}, RL ow w xs vs → vs.length = xs.length
  | [], _, h => by simp only [RL] at h; simp [h]
  | x :: xs, vs, h => by
    simp only [RL] at h
    obtain ⟨v, r, e, _, _, h3⟩ := h
    subst e
    simp [RL.length h3]
theorem RL.one {ow : Ow} {w : World} : ∀ {xs : List PV} {vs : List Value}, RL ow w xs vs → ∀ v ∈ vs, v.oneCell' = true
  | [], _, h => by simp only [RL] at h; simp [h]
  | x :: xs, vs, h => by
    simp only [RL] at h
    obtain ⟨v, r, e, _, h2, h3⟩ := h
    subst e
    intro u hu
    simp only [List.mem_cons] at hu
    rcases hu with rfl | hu
    · exact h2
    · exact RL.one h3 u hu
theorem RL.get {ow : Ow} {w : World} : ∀ {xs : List PV} {vs : List Value}, RL ow w xs vs → ∀ (i : Nat) (x : PV), xs[i]? = some x → ∃ u, vs[i]? = some u ∧ R ow w x u ∧ u.oneCell' = true
  | [], _, h, i, x, hx => by simp at hx
  | y :: xs, vs, h, i, x, hx => by
    simp only [RL] at h
    obtain ⟨v, r, e, h1, h2, h3⟩ := h
    subst e
    cases i with
    | zero => simp at hx; subst hx; exact ⟨v, rfl, h1, h2⟩
    | succ i => simp at hx; simpa using RL.get h3 i x hx
theorem RT.get {ow : Ow} {w : World} : ∀ {xs : List PV} {vs : List Value}, RT ow w xs vs → ∀ (i : Nat) (x : PV), xs[i]? = some x → ∃ u, vs[i]? = some u ∧ R ow w x u
  | [], _, h, i, x, hx => by simp at hx
  | y :: xs, vs, h, i, x, hx => by
    simp only [RT] at h
    obtain ⟨v, r, e, h1, h3⟩ := h
    subst e
    cases i with
    | zero => simp at hx; subst hx; exact ⟨v, rfl, h1⟩
    | succ i => simp at hx; simpa using RT.get h3 i x hx
theorem RT.length {ow : Ow} {w : World} : ∀ {xs : List PV} {vs : List Value}, RT ow w xs vs → vs.length = xs.length
  | [], _, h => by simp only [RT] at h; simp [h]
  | x :: xs, vs, h => by
    simp only [RT] at h
    obtain ⟨v, r, e, _, h3⟩ := h
    subst e
    simp [RT.length h3]
theorem RL.append {ow : Ow} {w : World} : ∀ {xs ys : List PV} {vs us : List Value}, RL ow w xs vs → RL ow w ys us → RL ow w (xs ++ ys) (vs ++ us)
  | [], ys, vs, us, h, h' => by simp only [RL] at h; subst h; simpa using h'
  | x :: xs, ys, vs, us, h, h' => by
    simp only [RL] at h
    obtain ⟨v, r, e, h1, h2, h3⟩ := h
    subst e
    simp only [List.cons_append, RL]
    exact ⟨v, r ++ us, rfl, h1, h2, RL.append h3 h'⟩
theorem RL.take {ow : Ow} {w : World} : ∀ (n : Nat) {xs : List PV} {vs : List Value}, RL ow w xs vs → RL ow w (xs.take n) (vs.take n)
  | 0, xs, vs, h => by simp [RL]
  | n + 1, [], vs, h => by simp only [RL] at h; subst h; simp [RL]
  | n + 1, x :: xs, vs, h => by
    simp only [RL] at h
    obtain ⟨v, r, e, h1, h2, h3⟩ := h
    subst e
    simp only [List.take_succ_cons, RL]
    exact ⟨v, r.take n, rfl, h1, h2, RL.take n h3⟩
theorem RL.drop {ow : Ow} {w : World} : ∀ (n : Nat) {xs : List PV} {vs : List Value}, RL ow w xs vs → RL ow w (xs.drop n) (vs.drop n)
  | 0, xs, vs, h => by simpa using h
  | n + 1, [], vs, h => by simp only [RL] at h; subst h; simp [RL]
  | n + 1, x :: xs, vs, h => by
    simp only [RL] at h
    obtain ⟨v, r, e, h1, h2, h3⟩ := h
    subst e
    simpa using RL.drop n h3
theorem RE.append {ow : Ow} {w : World} {sz : Nat} : ∀ {xs ys : List PV} {vs us : List Value}, RE ow w sz xs vs → RE ow w sz ys us → RE ow w sz (xs ++ ys) (vs ++ us)
  | [], ys, vs, us, h, h' => by simp only [RE] at h; subst h; simpa using h'
  | x :: xs, ys, vs, us, h, h' => by
    simp only [RE] at h
    obtain ⟨v, r, e, h0, h1, h2, h3⟩ := h
    subst e
    simp only [List.cons_append, RE]
    exact ⟨v, r ++ us, by simp, h0, h1, h2, RE.append h3 h'⟩
theorem RE.length {ow : Ow} {w : World} {sz : Nat} : ∀ {xs : List PV} {vs : List Value}, RE ow w sz xs vs → vs.length = xs.length * sz
  | [], _, h => by simp only [RE] at h; simp [h]
  | x :: xs, vs, h => by
    simp only [RE] at h
    obtain ⟨u, r, e, h0, _, _, h3⟩ := h
    subst e
    rw [List.length_append, RE.length h3, List.length_cons, Nat.succ_mul, Array.length_toList, h0]
    omega
theorem RE.one {ow : Ow} {w : World} {sz : Nat} : ∀ {xs : List PV} {vs : List Value}, RE ow w sz xs vs → ∀ v ∈ vs, v.oneCell' = true
  | [], _, h => by simp only [RE] at h; simp [h]
  | x :: xs, vs, h => by
    simp only [RE] at h
    obtain ⟨u, r, e, _, h1, _, h3⟩ := h
    subst e
    intro v hv
    rw [List.mem_append] at hv
    rcases hv with hv | hv
    · exact h1 v hv
    · exact RE.one h3 v hv
/-- an element: its cells lie at i * sz -/
theorem RE.get {ow : Ow} {w : World} {sz : Nat} : ∀ {xs : List PV} {vs : List Value}, RE ow w sz xs vs → ∀ (i : Nat) (x : PV), xs[i]? = some x →
    ∃ u, u.cells.size = sz ∧ (∀ v ∈ u.cells.toList, v.oneCell' = true) ∧ R ow w x u ∧ (∀ j, j < sz → vs[i * sz + j]? = u.cells.toList[j]?)
  | [], _, h, i, x, hx => by simp at hx
  | y :: xs, vs, h, i, x, hx => by
    simp only [RE] at h
    obtain ⟨u, r, e, h0, h1, h2, h3⟩ := h
    subst e
    cases i with
    | zero =>
      simp at hx; subst hx
      exact ⟨u, h0, h1, h2, fun j hj => by rw [List.getElem?_append_left (by simpa [h0] using hj)]; simp⟩
    | succ i =>
      simp at hx
      obtain ⟨u', g0, g1, g2, g3⟩ := RE.get h3 i x hx
      refine ⟨u', g0, g1, g2, fun j hj => ?_⟩
      have hl : u.cells.toList.length = sz := by simpa using h0
      rw [List.getElem?_append_right (by rw [hl, Nat.succ_mul]; omega), hl, ← g3 j hj]
      congr 1
      rw [Nat.succ_mul]; omega
theorem RE.take {ow : Ow} {w : World} {sz : Nat} : ∀ (n : Nat) {xs : List PV} {vs : List Value}, RE ow w sz xs vs → RE ow w sz (xs.take n) (vs.take (n * sz))
  | 0, xs, vs, h => by simp [RE]
  | n + 1, [], vs, h => by simp only [RE] at h; subst h; simp [RE]
  | n + 1, x :: xs, vs, h => by
    simp only [RE] at h
    obtain ⟨u, r, e, h0, h1, h2, h3⟩ := h
    subst e
    simp only [List.take_succ_cons, RE]
    refine ⟨u, r.take (n * sz), ?_, h0, h1, h2, RE.take n h3⟩
    have hl : u.cells.toList.length = sz := by simpa using h0
    rw [List.take_append, hl, List.take_of_length_le (by rw [hl, Nat.succ_mul]; omega)]
    congr 2
    rw [Nat.succ_mul]; omega
theorem RE.drop {ow : Ow} {w : World} {sz : Nat} : ∀ (n : Nat) {xs : List PV} {vs : List Value}, RE ow w sz xs vs → RE ow w sz (xs.drop n) (vs.drop (n * sz))
  | 0, xs, vs, h => by simpa using h
  | n + 1, [], vs, h => by simp only [RE] at h; subst h; simp [RE]
  | n + 1, x :: xs, vs, h => by
    simp only [RE] at h
    obtain ⟨u, r, e, h0, h1, h2, h3⟩ := h
    subst e
    have hl : u.cells.toList.length = sz := by simpa using h0
    have := RE.drop n h3
    rw [List.drop_succ_cons, List.drop_append, List.drop_of_length_le (l := u.cells.toList) (by rw [hl, Nat.succ_mul]; omega), List.nil_append, hl]
    have e : (n + 1) * sz - sz = n * sz := by rw [Nat.succ_mul]; omega
    rw [e]; exact this

/-- a value's cells -/
theorem R.cells {ow : Ow} {w : World} {x : PV} {u : Value} (h : R ow w x u) (ht : isTup x = false) : RL ow w (pcells x) u.cells.toList := by
  cases x with
  | tup _ => simp [isTup] at ht
  | agg cs =>
    simp only [R] at h
    obtain ⟨vs, rfl, h⟩ := h
    simpa [Value.cells, pcells] using h
  | v y =>
    have h' := h
    simp only [R] at h
    obtain ⟨rfl, h1⟩ := h
    have : u.cells = #[u] := by cases u <;> simp_all [Value.cells, Value.oneCell']
    rw [this]
    simp only [pcells, RL]
    exact ⟨u, [], rfl, h', h1, rfl⟩
  | sl xs =>
    have h' := h
    simp only [R] at h
    obtain ⟨a, cap, rfl, _⟩ := h
    simp only [pcells, Value.cells, RL]
    exact ⟨_, [], rfl, h', rfl, rfl⟩
  | iptr xs _ =>
    have h' := h
    simp only [R] at h
    obtain ⟨a, cap, _, rfl, _⟩ := h
    simp only [pcells, Value.cells, RL]
    exact ⟨_, [], rfl, h', rfl, rfl⟩
  | clo f xs =>
    have h' := h
    simp only [R] at h
    obtain ⟨a, rfl, _⟩ := h
    simp only [pcells, Value.cells, RL]
    exact ⟨_, [], rfl, h', rfl, rfl⟩
  | ifc t y =>
    have h' := h
    simp only [R] at h
    obtain ⟨a, rfl, _⟩ := h
    simp only [pcells, Value.cells, RL]
    exact ⟨_, [], rfl, h', rfl, rfl⟩
  | vp g i off =>
    have h' := h
    simp only [R] at h
    obtain ⟨_, _, rfl⟩ := h
    simp only [pcells, Value.cells, RL]
    exact ⟨_, [], rfl, h', rfl, rfl⟩
  | vm g i =>
    have h' := h
    simp only [R] at h
    obtain ⟨_, _, rfl⟩ := h
    simp only [pcells, Value.cells, RL]
    exact ⟨_, [], rfl, h', rfl, rfl⟩
theorem R.size {ow : Ow} {w : World} {x : PV} {u : Value} (h : R ow w x u) (ht : isTup x = false) : u.cells.size = psz x := by
  have := (R.cells h ht).length
  rw [Array.length_toList] at this
  rw [this]
  cases x <;> rfl
end Go.Proofs.YtnkdanobhgofbaaGreatDoor.pv
