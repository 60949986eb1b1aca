/- The pure state of a running function (frame, private heap), and the relation to the machine's state. -/
import Derived.Test.YtnkdanobhgofbaaGreatDoorPv
namespace Go.Proofs.YtnkdanobhgofbaaGreatDoor.pv
set_option linter.all false
open Go.RowKit

/-- what a slot holds: immutable data, or values with references to private objects -/
inductive FV where
  | d (x : PV)
  | agg (cs : List FV)
  | tup (vs : List FV)
  | ref (l off : Nat)
  | ept (l sz i off : Nat)
  | asl (l off k c sz : Nat) (ag : Bool)
  | ssl (l i j sz : Nat)
  | srf (l : Nat)
  | clo (f : FuncId) (caps : List FV)
  | ifc (t : Nat) (x : FV)
  | dead
def blockOf : Value → Option Nat
  | .pointer (some a) => some a.block
  | .slice (some a) _ _ => some a.block
  | .map (some r) => some r
  | _ => none
/-- the blocks that a handle leads to: one, or those of all parts of a bundle -/
def blocksOf : Value → List Nat
  | .func _ _ caps => caps.toList.filterMap blockOf
  | v => (blockOf v).toList
theorem mem_bs {v : Value} {ad : Option Addr} {n c b : Nat} (h : v = .slice ad n c) : b ∈ blocksOf v ↔ blockOf v = some b := by subst h; simp [blocksOf, Option.mem_toList]
theorem mem_of_bo {v : Value} {b : Nat} (h : blockOf v = some b) : b ∈ blocksOf v := by
  cases v <;> first | (simp [blockOf] at h; done) | simp [blocksOf, Option.mem_toList, h]
/-- a kind of private object, told by what it is in memory: whose blocks are private, the world, the handle, the values of its references -/
structure Cust where
  tag : Option Nat := none
  I : Ow → World → Value → List Value → Prop
  lt : ∀ {ow : Ow} {w : World} {h : Value} {vs : List Value}, I ow w h vs → ∀ b, b ∈ blocksOf h → b < w.heap.size
  kp : ∀ {ow ow' : Ow} {w w' : World} {h : Value} {vs : List Value}, Kp ow w ow' w' → (∀ b, b ∈ blocksOf h → w'.heap[b]? = w.heap[b]? ∧ ow' b = ow b) → (∀ g, tag = some g → ow'.phi g = ow.phi g) → I ow w h vs → I ow' w' h vs
  one : ∀ {ow : Ow} {w : World} {h : Value} {vs : List Value}, I ow w h vs → h.oneCell' = true
  dat : Option (List PV) := none
  fz : ∀ {ow ow0 : Ow} {w : World} {h : Value} {vs : List Value} {xs : List PV}, dat = some xs → I ow w h vs → Kp ow w ow0 w → (∀ b, b ∈ blocksOf h → ow0 b = false) → R ow0 w (.sl xs) h := by intros; contradiction
/-- a private object: not yet made, gone, a variable's cells, a row that a slice owns -/
inductive PO where
  | free
  | none
  | box (cs : List FV)
  | row (ty sz : Nat) (xs : List PV)
  | gh (k : Nat) (x : FV)
  | cu (q : Cust) (fs : List FV)
def PO.live : PO → Bool
  | .box _ | .row _ _ _ | .cu _ _ => true
  | _ => false
/-- may it be named? (a group's object is never named) -/
def PO.made : PO → Bool
  | .free => false
  | .cu q _ => q.tag.isNone
  | _ => true
def PO.tag : PO → Option Nat
  | .cu q _ => q.tag
  | _ => Option.none
structure PS where
  f : List FV
  m : List PO
def al (m : List PO) (l : Nat) : Bool := match m[l]? with
  | some o => o.made
  | .none => false

def ofCell (x : Value) : PV := .v x
def cv : Value → FV
  | .agg cs => if cs.toList.all (·.oneCell') then .d (.agg (cs.toList.map ofCell)) else .dead
  | .tuple _ => .dead
  | x => .d (ofCell x)
def ev (f : List FV) : Operand → FV
  | .tmp t => f.getD t .dead
  | .const v => cv v
  | .global _ => .dead
  | .func g => .d (.clo g [])

section
variable (A : Nat → Bool) (hd : Nat → Value) (ow : Ow) (w : World)
mutual
def RF : FV → Value → Prop
  | .d x, u => R ow w x u
  | .agg cs, u => ∃ vs : List Value, u = .agg vs.toArray ∧ RFL cs vs
  | .tup xs, u => ∃ vs : List Value, u = .tuple vs.toArray ∧ RFT xs vs
  | .ref l off, u => A l = true ∧ ∃ b, hd l = .pointer (some ⟨b, 0, none⟩) ∧ u = .pointer (some ⟨b, off, none⟩)
  | .ept l sz i off, u => A l = true ∧ ∃ b n c, hd l = .slice (some ⟨b, 0, none⟩) n c ∧ u = .pointer (some ⟨b, i * sz + off, none⟩)
  | .asl l off k c _ _, u => A l = true ∧ ∃ b, hd l = .pointer (some ⟨b, 0, none⟩) ∧ u = .slice (some ⟨b, off, none⟩) k c ∧ k ≤ c ∧ c ≤ maxLen
  | .ssl l i j sz, u => A l = true ∧ ∃ ad n c, hd l = .slice ad n c ∧ i ≤ j ∧ j ≤ c ∧ u = .slice (if c = i then ad else ad.map (·.add (i * sz))) (j - i) (c - i)
  | .srf l, u => A l = true ∧ u = hd l ∧ (hd l).oneCell' = true
  | .clo f caps, u => ∃ vs : List Value, u = .func (.func f) #[] vs.toArray ∧ RFL caps vs
  | .ifc t x, u => ∃ v : Value, u = .iface t v ∧ RF x v
  | .dead, _ => True
def RFL : List FV → List Value → Prop
  | [], vs => vs = []
  | x :: xs, vs => ∃ v r, vs = v :: r ∧ RF x v ∧ v.oneCell' = true ∧ RFL xs r
def RFT : List FV → List Value → Prop
  | [], vs => vs = []
  | x :: xs, vs => ∃ v r, vs = v :: r ∧ RF x v ∧ RFT xs r
end
end

section
variable {A A' : Nat → Bool} {hd hd' : Nat → Value} {ow ow' : Ow} {w w' : World}
mutual
theorem RF.mono (k : Kp ow w ow' w') (ha : ∀ l, A l = true → A' l = true ∧ hd' l = hd l) : ∀ (x : FV) (u : Value), RF A hd ow w x u → RF A' hd' ow' w' x u
  | .d x, u, h => by simp only [RF] at h ⊢; exact R.mono k x u h
  | .agg cs, u, h => by
    simp only [RF] at h ⊢
    obtain ⟨vs, e, h⟩ := h
    exact ⟨vs, e, RFL.mono k ha cs vs h⟩
  | .tup cs, u, h => by
    simp only [RF] at h ⊢
    obtain ⟨vs, e, h⟩ := h
    exact ⟨vs, e, RFT.mono k ha cs vs h⟩
  | .ref l off, u, h => by
    simp only [RF] at h ⊢
    obtain ⟨h1, h2⟩ := h
    rw [(ha l h1).2]
    exact ⟨(ha l h1).1, h2⟩
  | .ept l sz i off, u, h => by
    simp only [RF] at h ⊢
    obtain ⟨h1, h2⟩ := h
    rw [(ha l h1).2]
    exact ⟨(ha l h1).1, h2⟩
  | .asl l off k' c sz ag, u, h => by
    simp only [RF] at h ⊢
    obtain ⟨h1, h2⟩ := h
    rw [(ha l h1).2]
    exact ⟨(ha l h1).1, h2⟩
  | .ssl l i j sz, u, h => by
    simp only [RF] at h ⊢
    obtain ⟨h1, h2⟩ := h
    rw [(ha l h1).2]
    exact ⟨(ha l h1).1, h2⟩
  | .srf l, u, h => by
    simp only [RF] at h ⊢
    obtain ⟨h1, h2⟩ := h
    rw [(ha l h1).2]
    exact ⟨(ha l h1).1, h2⟩
  | .clo f cs, u, h => by
    simp only [RF] at h ⊢
    obtain ⟨vs, e, h⟩ := h
    exact ⟨vs, e, RFL.mono k ha cs vs h⟩
  | .ifc t x, u, h => by
    simp only [RF] at h ⊢
    obtain ⟨v, e, h⟩ := h
    exact ⟨v, e, RF.mono k ha x v h⟩
  | .dead, u, h => by simp only [RF]
theorem RFL.mono (k : Kp ow w ow' w') (ha : ∀ l, A l = true → A' l = true ∧ hd' l = hd l) : ∀ (xs : List FV) (us : List Value), RFL A hd ow w xs us → RFL A' hd' ow' w' xs us
  | [], _, h => by simpa only [RFL] using h
  | x :: xs, us, h => by
    simp only [RFL] at h ⊢
    obtain ⟨v, r, e, h1, h2, h3⟩ := h
    exact ⟨v, r, e, RF.mono k ha x v h1, h2, RFL.mono k ha xs r h3⟩
theorem RFT.mono (k : Kp ow w ow' w') (ha : ∀ l, A l = true → A' l = true ∧ hd' l = hd l) : ∀ (xs : List FV) (us : List Value), RFT A hd ow w xs us → RFT A' hd' ow' w' xs us
  | [], _, h => by simpa only [RFT] using h
  | x :: xs, us, h => by
    simp only [RFT] at h ⊢
    obtain ⟨v, r, e, h1, h3⟩ := h
    exact ⟨v, r, e, RF.mono k ha x v h1, RFT.mono k ha xs r h3⟩
end
theorem Kp.refl (ow : Ow) (w : World) : Kp ow w ow w := ⟨Nat.le_refl _, fun _ _ h => h, fun _ _ _ => rfl⟩

theorem RFL.length : ∀ {xs : List FV} {vs : List Value}, RFL A hd ow w xs vs → vs.length = xs.length
  | [], _, h => by simp only [RFL] at h; simp [h]
  | x :: xs, vs, h => by
    simp only [RFL] at h
    obtain ⟨v, r, e, _, _, h3⟩ := h
    subst e
    simp [RFL.length h3]
theorem RFL.one : ∀ {xs : List FV} {vs : List Value}, RFL A hd ow w xs vs → ∀ v ∈ vs, v.oneCell' = true
  | [], _, h => by simp only [RFL] at h; simp [h]
  | x :: xs, vs, h => by
    simp only [RFL] at h
    obtain ⟨v, r, e, _, h2, h3⟩ := h
    subst e
    intro u hu
    simp only [List.mem_cons] at hu
    rcases hu with rfl | hu
    · exact h2
    · exact RFL.one h3 u hu
theorem RFL.get : ∀ {xs : List FV} {vs : List Value}, RFL A hd ow w xs vs → ∀ (i : Nat) (x : FV), xs[i]? = some x → ∃ u, vs[i]? = some u ∧ RF A hd ow w x u ∧ u.oneCell' = true
  | [], _, h, i, x, hx => by simp at hx
  | y :: xs, vs, h, i, x, hx => by
    simp only [RFL] at h
    obtain ⟨v, r, e, h1, h2, h3⟩ := h
    subst e
    cases i with
    | zero => simp at hx; subst hx; exact ⟨v, rfl, h1, h2⟩
    | succ i => simp at hx; simpa using RFL.get h3 i x hx
theorem RFT.get : ∀ {xs : List FV} {vs : List Value}, RFT A hd ow w xs vs → ∀ (i : Nat) (x : FV), xs[i]? = some x → ∃ u, vs[i]? = some u ∧ RF A hd ow w x u
  | [], _, h, i, x, hx => by simp at hx
  | y :: xs, vs, h, i, x, hx => by
    simp only [RFT] at h
    obtain ⟨v, r, e, h1, h3⟩ := h
    subst e
    cases i with
    | zero => simp at hx; subst hx; exact ⟨v, rfl, h1⟩
    | succ i => simp at hx; simpa using RFT.get h3 i x hx
theorem RFT.length : ∀ {xs : List FV} {vs : List Value}, RFT A hd ow w xs vs → vs.length = xs.length
  | [], _, h => by simp only [RFT] at h; simp [h]
  | x :: xs, vs, h => by
    simp only [RFT] at h
    obtain ⟨v, r, e, _, h3⟩ := h
    subst e
    simp [RFT.length h3]
theorem RFL.append : ∀ {xs ys : List FV} {vs us : List Value}, RFL A hd ow w xs vs → RFL A hd ow w ys us → RFL A hd ow w (xs ++ ys) (vs ++ us)
  | [], ys, vs, us, h, h' => by simp only [RFL] at h; subst h; simpa using h'
  | x :: xs, ys, vs, us, h, h' => by
    simp only [RFL] at h
    obtain ⟨v, r, e, h1, h2, h3⟩ := h
    subst e
    simp only [List.cons_append, RFL]
    exact ⟨v, r ++ us, rfl, h1, h2, RFL.append h3 h'⟩
theorem RFT.append : ∀ {xs ys : List FV} {vs us : List Value}, RFT A hd ow w xs vs → RFT A hd ow w ys us → RFT A hd ow w (xs ++ ys) (vs ++ us)
  | [], ys, vs, us, h, h' => by simp only [RFT] at h; subst h; simpa using h'
  | x :: xs, ys, vs, us, h, h' => by
    simp only [RFT] at h
    obtain ⟨v, r, e, h1, h3⟩ := h
    subst e
    simp only [List.cons_append, RFT]
    exact ⟨v, r ++ us, rfl, h1, RFT.append h3 h'⟩
theorem RFL.take : ∀ (n : Nat) {xs : List FV} {vs : List Value}, RFL A hd ow w xs vs → RFL A hd ow w (xs.take n) (vs.take n)
  | 0, xs, vs, h => by simp [RFL]
  | n + 1, [], vs, h => by simp only [RFL] at h; subst h; simp [RFL]
  | n + 1, x :: xs, vs, h => by
    simp only [RFL] at h
    obtain ⟨v, r, e, h1, h2, h3⟩ := h
    subst e
    simp only [List.take_succ_cons, RFL]
    exact ⟨v, r.take n, rfl, h1, h2, RFL.take n h3⟩
theorem RFL.drop : ∀ (n : Nat) {xs : List FV} {vs : List Value}, RFL A hd ow w xs vs → RFL A hd ow w (xs.drop n) (vs.drop n)
  | 0, xs, vs, h => by simpa using h
  | n + 1, [], vs, h => by simp only [RFL] at h; subst h; simp [RFL]
  | n + 1, x :: xs, vs, h => by
    simp only [RFL] at h
    obtain ⟨v, r, e, h1, h2, h3⟩ := h
    subst e
    simpa using RFL.drop n h3
theorem RFL.of_RL : ∀ {xs : List PV} {vs : List Value}, RL ow w xs vs → RFL A hd ow w (xs.map FV.d) vs
  | [], _, h => by simp only [RL] at h; simp [RFL, h]
  | x :: xs, vs, h => by
    simp only [RL] at h
    obtain ⟨v, r, e, h1, h2, h3⟩ := h
    simp only [List.map_cons, RFL]
    exact ⟨v, r, e, by simpa only [RF] using h1, h2, RFL.of_RL h3⟩
theorem RFT.of_RT : ∀ {xs : List PV} {vs : List Value}, RT ow w xs vs → RFT A hd ow w (xs.map FV.d) vs
  | [], _, h => by simp only [RT] at h; simp [RFT, h]
  | x :: xs, vs, h => by
    simp only [RT] at h
    obtain ⟨v, r, e, h1, h3⟩ := h
    simp only [List.map_cons, RFT]
    exact ⟨v, r, e, by simpa only [RF] using h1, RFT.of_RT h3⟩
theorem RFT.of_RFL : ∀ {xs : List FV} {vs : List Value}, RFL A hd ow w xs vs → RFT A hd ow w xs vs
  | [], _, h => by simp only [RFL] at h; simp [RFT, h]
  | x :: xs, vs, h => by
    simp only [RFL] at h
    obtain ⟨v, r, e, h1, h2, h3⟩ := h
    simp only [RFT]
    exact ⟨v, r, e, h1, RFT.of_RFL h3⟩

/-- all of them data -/
def allD : List FV → Option (List PV)
  | [] => some []
  | .d x :: r => match allD r with
    | some xs => some (x :: xs)
    | none => none
  | _ :: _ => none
theorem allD_eq : ∀ {cs : List FV} {xs : List PV}, allD cs = some xs → cs = xs.map FV.d
  | [], xs, h => by simp [allD] at h; subst h; rfl
  | .d x :: r, xs, h => by
    simp only [allD] at h
    split at h
    · rename_i ys hy
      simp at h; subst h
      rw [allD_eq hy]; rfl
    · cases h
  | .agg _ :: _, _, h | .tup _ :: _, _, h | .ref _ _ :: _, _, h | .ept _ _ _ _ :: _, _, h | .asl _ _ _ _ _ _ :: _, _, h | .srf _ :: _, _, h | .ssl _ _ _ _ :: _, _, h | .clo _ _ :: _, _, h | .ifc _ _ :: _, _, h | .dead :: _, _, h => by simp [allD] at h
theorem RFL.to_RL : ∀ {xs : List PV} {vs : List Value}, RFL A hd ow w (xs.map FV.d) vs → RL ow w xs vs
  | [], _, h => by simp only [List.map_nil, RFL] at h; simp [RL, h]
  | x :: xs, vs, h => by
    simp only [List.map_cons, RFL, RF] at h
    obtain ⟨v, r, e, h1, h2, h3⟩ := h
    simp only [RL]
    exact ⟨v, r, e, h1, h2, RFL.to_RL h3⟩
theorem RFT.to_RT : ∀ {xs : List PV} {vs : List Value}, RFT A hd ow w (xs.map FV.d) vs → RT ow w xs vs
  | [], _, h => by simp only [List.map_nil, RFT] at h; simp [RT, h]
  | x :: xs, vs, h => by
    simp only [List.map_cons, RFT, RF] at h
    obtain ⟨v, r, e, h1, h3⟩ := h
    simp only [RT]
    exact ⟨v, r, e, h1, RFT.to_RT h3⟩
def mkAgg (cs : List FV) : FV := match allD cs with
  | some xs => .d (.agg xs)
  | none => .agg cs
theorem RF.mkAgg {cs : List FV} {vs : List Value} (h : RFL A hd ow w cs vs) : RF A hd ow w (pv.mkAgg cs) (.agg vs.toArray) := by
  unfold pv.mkAgg
  split
  · rename_i xs hx
    rw [allD_eq hx] at h
    simp only [RF, R]
    exact ⟨vs, rfl, RFL.to_RL h⟩
  · simp only [RF]
    exact ⟨vs, rfl, h⟩
/-- a value's cells -/
def fcells : FV → Option (List FV)
  | .d x => bif isTup x then none else some ((pcells x).map FV.d)
  | .agg cs => some cs
  | .tup _ => none
  | .dead => none
  | x => some [x]
theorem RF.cells {x : FV} {u : Value} {cs : List FV} (h : RF A hd ow w x u) (hc : fcells x = some cs) : RFL A hd ow w cs u.cells.toList := by
  have h0 := h
  cases x with
  | d x =>
    simp only [fcells] at hc
    cases ht : isTup x with
    | true => simp [ht] at hc
    | false =>
      simp [ht] at hc
      subst hc
      exact RFL.of_RL (R.cells h ht)
  | agg cs' =>
    simp [fcells] at hc; subst hc
    simp only [RF] at h
    obtain ⟨vs, rfl, h⟩ := h
    simpa [Value.cells] using h
  | tup _ => simp [fcells] at hc
  | dead => simp [fcells] at hc
  | ref l off =>
    simp [fcells] at hc; subst hc
    simp only [RF] at h
    obtain ⟨h1, b, h2, rfl⟩ := h
    simp only [Value.cells, RFL]
    exact ⟨_, [], rfl, h0, rfl, rfl⟩
  | ept l sz i off =>
    simp [fcells] at hc; subst hc
    simp only [RF] at h
    obtain ⟨h1, b, n, c, h2, rfl⟩ := h
    simp only [Value.cells, RFL]
    exact ⟨_, [], rfl, h0, rfl, rfl⟩
  | asl l off k c sz ag =>
    simp [fcells] at hc; subst hc
    simp only [RF] at h
    obtain ⟨h1, b, h2, rfl, _⟩ := h
    simp only [Value.cells, RFL]
    exact ⟨_, [], rfl, h0, rfl, rfl⟩
  | ssl l i j sz =>
    simp [fcells] at hc; subst hc
    simp only [RF] at h
    obtain ⟨h1, ad, n, c, h2, _, _, rfl⟩ := h
    simp only [Value.cells, RFL]
    exact ⟨_, [], rfl, h0, rfl, rfl⟩
  | srf l =>
    simp [fcells] at hc; subst hc
    simp only [RF] at h
    obtain ⟨h1, h2, h3⟩ := h
    rw [← h2] at h3
    have hcc : u.cells = #[u] := by cases u <;> simp_all [Value.cells, Value.oneCell']
    rw [hcc]
    simp only [RFL]
    exact ⟨_, [], rfl, h0, h3, rfl⟩
  | clo f caps =>
    simp [fcells] at hc; subst hc
    simp only [RF] at h
    obtain ⟨vs, rfl, h2⟩ := h
    simp only [Value.cells, RFL]
    exact ⟨_, [], rfl, h0, rfl, rfl⟩
  | ifc t x =>
    simp [fcells] at hc; subst hc
    simp only [RF] at h
    obtain ⟨v, rfl, h2⟩ := h
    simp only [Value.cells, RFL]
    exact ⟨_, [], rfl, h0, rfl, rfl⟩

end

/-- what a call starts from: the world, the blocks that are lent to it, which blocks are private, values to be remembered -/
structure Cx where
  w : World
  own : Nat → Bool
  ow : Ow
  gs : Nat → Value
  gr : Nat → Bool
def Cx.New (c : Cx) (b : Nat) : Prop := c.w.heap.size ≤ b ∨ c.own b = true
/-- what was there and not lent is as it was -/
structure Kt (c : Cx) (w w' : World) : Prop where
  os : w'.os = w.os
  tape : w'.tape = w.tape
  output : w'.output = w.output
  size : w.heap.size ≤ w'.heap.size
  block : ∀ k, k < c.w.heap.size → c.own k = false → w'.heap[k]? = w.heap[k]?
theorem Kt.refl (c : Cx) (w : World) : Kt c w w := ⟨rfl, rfl, rfl, Nat.le_refl _, fun _ _ _ => rfl⟩
theorem Kt.trans {c : Cx} {a b d : World} (h : Kt c a b) (k : Kt c b d) : Kt c a d :=
  ⟨k.os.trans h.os, k.tape.trans h.tape, k.output.trans h.output, Nat.le_trans h.size k.size, fun i hi ho => (k.block i hi ho).trans (h.block i hi ho)⟩
theorem Kt.of_below {c : Cx} {B : Nat} {w w' : World} (h : Below B w w') (hB : c.w.heap.size ≤ B) : Kt c w w' :=
  ⟨h.os, h.tape, h.output, h.size, fun k hk _ => h.block k (Nat.lt_of_lt_of_le hk hB)⟩
/-- one block of those that may change has changed -/
theorem Kt.of_one {c : Cx} {B b : Nat} {w w' : World} (h : Below B w w') (hb : c.New b) (ho : ∀ j, j ≠ b → w'.heap[j]? = w.heap[j]?) : Kt c w w' :=
  ⟨h.os, h.tape, h.output, h.size, fun k hk hown => ho k (fun e => by
    subst e
    rcases hb with hb | hb
    · omega
    · rw [hb] at hown; cases hown)⟩
def RO (A : Nat → Bool) (hd : Nat → Value) (c : Cx) (ow : Ow) (w : World) (h : Value) : PO → Prop
  | .free => True
  | .none => True
  | .box cs => ∃ (b : Nat) (vals : Array Value) (t : TypeId), h = .pointer (some ⟨b, 0, none⟩) ∧ c.New b ∧ ow b = true ∧ w.heap[b]? = some (.cells vals t (0, 0)) ∧ RFL A hd ow w cs vals.toList
  | .row ty sz xs => ∃ cells : List Value, w.ownsRow 0 ty sz h xs.length cells ∧ (∀ b, b ∈ blocksOf h → c.New b ∧ ow b = true) ∧ RE ow w sz xs cells
  | .gh k x => RF A hd ow w x (c.gs k)
  | .cu q fs => (∀ b, b ∈ blocksOf h → c.New b ∧ ow b = true) ∧ ∃ vs : List Value, RFL A hd ow w fs vs ∧ q.I ow w h vs

/-- a group is one object's -/
def Tags (c : Cx) (m : List PO) : Prop := (∀ (l l' : Nat) (o o' : PO) (g : Nat), m[l]? = some o → m[l']? = some o' → o.tag = some g → o'.tag = some g → l = l') ∧ ∀ (l : Nat) (o : PO) (g : Nat), m[l]? = some o → o.tag = some g → c.gr g = true
theorem Tags.of {c : Cx} {m m' : List PO} (h : Tags c m) (σ : Nat → Nat) (hs : ∀ (j : Nat) (o : PO) (g : Nat), m'[j]? = some o → o.tag = some g → ∃ o', m[σ j]? = some o' ∧ o'.tag = some g)
    (hi : ∀ (j j' : Nat) (o o' : PO) (g : Nat), m'[j]? = some o → m'[j']? = some o' → o.tag = some g → o'.tag = some g → σ j = σ j' → j = j') : Tags c m' := by
  refine ⟨?_, fun l o g h1 h2 => by obtain ⟨p, p1, p2⟩ := hs l o g h1 h2; exact h.2 _ p g p1 p2⟩
  intro l l' o o' g h1 h2 h3 h4
  obtain ⟨p, p1, p2⟩ := hs l o g h1 h3
  obtain ⟨q, q1, q2⟩ := hs l' o' g h2 h4
  exact hi l l' o o' g h1 h2 h3 h4 (h.1 _ _ p q g p1 q1 p2 q2)
theorem Tags.id {c : Cx} {m m' : List PO} (h : Tags c m) (hs : ∀ (j : Nat) (o : PO) (g : Nat), m'[j]? = some o → o.tag = some g → ∃ o', m[j]? = some o' ∧ o'.tag = some g) : Tags c m' :=
  h.of (fun j => j) hs fun _ _ _ _ _ _ _ _ _ e => e
/-- private objects m of handles hd, in w -/
structure SimH (w0 : Cx) (m : List PO) (w : World) (ow : Ow) (hd : Nat → Value) : Prop where
  below : Kt w0 w0.w w
  fresh : ∀ b, w.heap.size ≤ b → ow b = false
  objs : ∀ l o, m[l]? = some o → RO (al m) hd w0 ow w (hd l) o
  dist : ∀ l l' o o' b, l ≠ l' → m[l]? = some o → m[l']? = some o' → o.live = true → o'.live = true → b ∈ blocksOf (hd l) → b ∉ blocksOf (hd l')
  tags : Tags w0 m
structure SimW (n : Nat) (w0 : Cx) (st : PS) (a : Act) (w : World) (ow : Ow) (hd : Nat → Value) : Prop extends SimH w0 st.m w ow hd where
  defers : a.defers = []
  size : a.tmps.size = n
  slots : ∀ i, RF (al st.m) hd ow w (st.f.getD i .dead) (a.tmps.getD i undef)
/-- the blocks that were there and not lent are private or not as they were -/
def Keep (c : Cx) (ow : Ow) : Prop := Ph c.ow ow ∧ (∀ b, b < c.w.heap.size → c.own b = false → ow b = c.ow b) ∧ ∀ g, c.gr g = false → ow.phi g = c.ow.phi g
theorem Keep.refl (c : Cx) : Keep c c.ow := ⟨Ph.refl _, fun _ _ _ => rfl, fun _ _ => rfl⟩
theorem Keep.step {c : Cx} {ow ow' : Ow} (h : Keep c ow) [p : Ph ow ow'] (ho : ∀ b, b < c.w.heap.size → c.own b = false → ow' b = ow b) (hp : ∀ g, c.gr g = false → ow'.phi g = ow.phi g := by intros; rfl) : Keep c ow' :=
  ⟨h.1.trans p, fun b hb hn => (ho b hb hn).trans (h.2.1 b hb hn), fun g hg => (hp g hg).trans (h.2.2 g hg)⟩
def Sim (n : Nat) (w0 : Cx) (st : PS) (a : Act) (w : World) : Prop :=
  ∃ ow hd, Keep w0 ow ∧ SimW n w0 st a w ow hd

section
variable {A : Nat → Bool} {hd : Nat → Value} {ow : Ow} {w : World}
theorem ofCell_R {x : Value} (h : x.oneCell' = true) : R ow w (ofCell x) x := by
  unfold ofCell
  simp only [R]; exact ⟨trivial, h⟩
theorem ofCells_RL : ∀ (cs : List Value), (∀ x ∈ cs, x.oneCell' = true) → RL ow w (cs.map ofCell) cs
  | [], _ => by simp [RL]
  | x :: cs, h => by
    simp only [List.map_cons, RL]
    exact ⟨x, cs, rfl, ofCell_R (h x (by simp)), h x (by simp), ofCells_RL cs fun y hy => h y (by simp [hy])⟩
theorem cv_R (x : Value) : RF A hd ow w (cv x) x := by
  cases x with
  | agg cs =>
    show RF A hd ow w (if cs.toList.all (·.oneCell') then .d (.agg (cs.toList.map ofCell)) else .dead) _
    by_cases h : cs.toList.all (·.oneCell') = true
    · rw [if_pos h]
      simp only [RF, R]
      exact ⟨cs.toList, by simp, ofCells_RL _ (List.all_eq_true.1 h)⟩
    · rw [if_neg h]; simp only [RF]
  | tuple _ => simp only [cv, RF]
  | _ => simp only [cv, RF]; exact ofCell_R rfl
end
section
variable {n : Nat} {w0 : Cx} {st : PS} {a : Act} {w : World} {ow : Ow} {hd : Nat → Value}
theorem SimW.eval (S : SimW n w0 st a w ow hd) (x : Operand) : RF (al st.m) hd ow w (ev st.f x) (a.eval x) := by
  cases x with
  | tmp t => exact S.slots t
  | const v => exact cv_R v
  | global g => simp only [ev, RF]
  | func f => simp only [ev, RF, R]; exact ⟨[], rfl, by simp [RL]⟩

theorem getD_put (a : Act) (d : Nat) (v : Value) (i : Nat) (h : d < a.tmps.size) : (a.put (some d) v).tmps.getD i undef = if i = d then v else a.tmps.getD i undef := by
  simp only [Act.put, Array.getD_eq_getD_getElem?, Array.getElem?_setIfInBounds]
  by_cases e : i = d
  · subst e; simp [h]
  · rw [if_neg (by omega), if_neg e]
def putF (f : List FV) (d : Option Nat) (x : FV) : List FV :=
  match d with
  | some k => f.set k x
  | none => f
theorem getD_set (f : List FV) (k : Nat) (x : FV) (i : Nat) : (f.set k x).getD i .dead = if i = k ∧ k < f.length then x else f.getD i .dead := by
  simp only [List.getD_eq_getElem?_getD, List.getElem?_set]
  by_cases e : k = i
  · subst e
    by_cases h : k < f.length
    · simp [h]
    · simp [h]
  · rw [if_neg e, if_neg (fun h => e h.1.symm)]
/-- an operation that changes no memory -/
theorem SimW.put (S : SimW n w0 st a w ow hd) {d : Option Nat} (hn : ∀ k, d = some k → k < n) {x : FV} {v : Value}
    (h : RF (al st.m) hd ow w x v) : SimW n w0 ⟨putF st.f d x, st.m⟩ (a.put d v) w ow hd := by
  cases d with
  | none => exact { S with }
  | some k =>
    have hk : k < a.tmps.size := by rw [S.size]; exact hn k rfl
    refine { S with size := by simp [Act.put, S.size], slots := fun i => ?_ }
    rw [getD_put a k v i hk]
    simp only [putF]
    rw [getD_set]
    by_cases e : i = k
    · subst e
      rw [if_pos rfl]
      by_cases hl : i < st.f.length
      · rw [if_pos ⟨rfl, hl⟩]; exact h
      · rw [if_neg (fun h => hl h.2), List.getD_eq_getElem?_getD, List.getElem?_eq_none (by omega)]; simp only [Option.getD_none, RF]
    · rw [if_neg e, if_neg (fun h => e h.1)]; exact S.slots i

theorem RO.lt {A : Nat → Bool} {c : Cx} {h : Value} {o : PO} (ho : RO A hd c ow w h o) (hl : o.live = true) : ∀ b, b ∈ blocksOf h → b < w.heap.size ∧ c.New b ∧ ow b = true := by
  intro b hb
  cases o with
  | free => simp [PO.live] at hl
  | none => simp [PO.live] at hl
  | gh => simp [PO.live] at hl
  | cu q fs =>
    obtain ⟨h1, vs, h2, h3⟩ := ho
    exact ⟨q.lt h3 b hb, h1 b hb⟩
  | box cs =>
    obtain ⟨b', vals, t, h1, h2, h3, h4, h5⟩ := ho
    rw [h1] at hb
    simp [blocksOf, blockOf] at hb
    subst hb
    exact ⟨(Array.getElem?_eq_some_iff.1 h4).1, h2, h3⟩
  | row ty sz xs =>
    obtain ⟨cells, h1, h2, h3⟩ := ho
    obtain ⟨_, h1⟩ := h1
    rcases h1 with ⟨rfl, _⟩ | ⟨g, cap, cur, hv, hg, hh, _⟩
    · simp [blocksOf, blockOf] at hb
    · have hb' := hb
      rw [hv] at hb
      simp [blocksOf, blockOf] at hb
      subst hb
      exact ⟨(Array.getElem?_eq_some_iff.1 hh).1, h2 _ hb'⟩
theorem ownsRow_kept {w w' : World} {base ty sz : Nat} {v : Value} {n : Nat} {cs : List Value} (h : w.ownsRow base ty sz v n cs) (hs : ∀ b, b ∈ blocksOf v → w'.heap[b]? = w.heap[b]?) : w'.ownsRow base ty sz v n cs := by
  obtain ⟨h1, h2⟩ := h
  refine ⟨h1, ?_⟩
  rcases h2 with h2 | ⟨g, cap, cur, hv, hb, hg, r⟩
  · exact .inl h2
  · exact .inr ⟨g, cap, cur, hv, hb, by rw [hs g (by rw [hv]; first | rfl | simp [blocksOf, blockOf])]; exact hg, r⟩
theorem RO.kp {A A' : Nat → Bool} {hd' : Nat → Value} {c : Cx} {ow' : Ow} {w' : World} (k : Kp ow w ow' w') (ha : ∀ l, A l = true → A' l = true ∧ hd' l = hd l) {h : Value} {o : PO} (hb : ∀ b, b ∈ blocksOf h → o.live = true → w'.heap[b]? = w.heap[b]? ∧ ow' b = ow b) (ht : ∀ g, o.tag = some g → ow'.phi g = ow.phi g) (ho : RO A hd c ow w h o) : RO A' hd' c ow' w' h o := by
  cases o with
  | free => trivial
  | none => trivial
  | gh j x => exact RF.mono k ha _ _ ho
  | cu q fs =>
    obtain ⟨h1, vs, h2, h3⟩ := ho
    exact ⟨fun b e => by rw [(hb b e rfl).2]; exact h1 b e, vs, RFL.mono k ha _ _ h2, q.kp k (fun b e => hb b e rfl) ht h3⟩
  | box cs =>
    obtain ⟨b, vals, t, h1, h2, h3, h4, h5⟩ := ho
    have hh := hb b (by rw [h1]; first | rfl | simp [blocksOf, blockOf]) rfl
    exact ⟨b, vals, t, h1, h2, by rw [hh.2, h3], by rw [hh.1, h4], RFL.mono k ha _ _ h5⟩
  | row ty sz xs =>
    obtain ⟨cells, h1, h2, h3⟩ := ho
    exact ⟨cells, ownsRow_kept h1 fun b e => (hb b e rfl).1, fun b e => by rw [(hb b e rfl).2]; exact h2 b e, RE.mono k _ _ _ h3⟩
/-- a later world in which nothing that was there has changed -/
theorem SimH.later {m : List PO} {w' : World} (S : SimH w0 m w ow hd) (hb : Below w.heap.size w w') : SimH w0 m w' ow hd := by
  have k : Kp ow w ow w' := ⟨hb.size, fun _ _ h => h, fun b h _ => hb.block b h⟩
  refine ⟨S.below.trans (Kt.of_below hb S.below.size), fun b h => S.fresh b (Nat.le_trans hb.size h), fun l o ho => ?_, S.dist, S.tags⟩
  exact (S.objs l o ho).kp k (fun l h => ⟨h, rfl⟩) (fun b h hl => ⟨hb.block b ((S.objs l o ho).lt hl b h).1, rfl⟩) fun _ _ => rfl
theorem SimW.later {w' : World} (S : SimW n w0 st a w ow hd) (hb : Below w.heap.size w w') : SimW n w0 st a w' ow hd := by
  have k : Kp ow w ow w' := ⟨hb.size, fun _ _ h => h, fun b h _ => hb.block b h⟩
  exact { S.toSimH.later hb with defers := S.defers, size := S.size, slots := fun i => RF.mono k (fun l h => ⟨h, rfl⟩) _ _ (S.slots i) }
theorem Sim.drew (S : Sim n w0 st a w) : Sim n w0 st a { w with drawn := w.drawn + 1 } := by
  obtain ⟨ow, hd, h, S⟩ := S
  exact ⟨ow, hd, h, S.later ((Below.refl _ _).drew)⟩
end
end Go.Proofs.YtnkdanobhgofbaaGreatDoor.pv
