/- Rows of one's own whose cells (some of them) hold rows of one's own: the outer row and the bag of the inner ones. -/
import Derived.Test.YtdimcmpkhbfcnaaSi
namespace Go.Proofs.Ytdimcmpkhbfcnaa.pv
set_option linter.all false
open Go.RowKit
/-- a row's cells -/
def fl (xs : List PV) : List PV := xs.flatMap pcells
section
variable {ow : Nat → Bool} {w : World}
end
/-- no block -/
def noB : Value := .bool false
/-- the inner rows of a row's cells: those of the cells k with q k; columns: which type, how many cells an element has -/
def bagI (ct : Nat → Nat × Nat) (q : Nat → Bool) (xs : List PV) (ow : Nat → Bool) (w : World) (v : Value) : Prop :=
  ∃ caps : Array Value, v = .func (.func 0) #[] caps ∧ caps.size = (fl xs).length ∧
    (∀ k : Nat, k < caps.size → q k = true → ∃ (ys : List PV) (cs : List Value) (u : Value), (fl xs)[k]? = some (.sl ys) ∧ caps[k]? = some u ∧ w.ownsRow 0 (ct k).1 (ct k).2 u ys.length cs ∧ RE ow w (ct k).2 ys cs) ∧
    (∀ (k : Nat) (u : Value), caps[k]? = some u → q k = false → u = noB) ∧
    (∀ (k k' : Nat) (u u' : Value) (b : Nat), k ≠ k' → caps[k]? = some u → caps[k']? = some u' → blockOf u = some b → blockOf u' ≠ some b)
theorem mem_caps {caps : Array Value} {b : Nat} (h : b ∈ blocksOf (.func (.func 0) #[] caps)) : ∃ (k : Nat) (u : Value), caps[k]? = some u ∧ blockOf u = some b := by
  simp only [blocksOf, List.mem_filterMap] at h
  obtain ⟨u, hu, hb⟩ := h
  obtain ⟨k, hk⟩ := List.getElem?_of_mem hu
  exact ⟨k, u, by simpa using hk, hb⟩
theorem caps_mem {caps : Array Value} {b k : Nat} {u : Value} (h : caps[k]? = some u) (hb : blockOf u = some b) : b ∈ blocksOf (.func (.func 0) #[] caps) := by
  simp only [blocksOf, List.mem_filterMap]
  exact ⟨u, by
    have : caps.toList[k]? = some u := by simpa using h
    exact List.mem_of_getElem? this, hb⟩
theorem owns_bo {w : World} {e s n : Nat} {u : Value} {cs : List Value} (h : w.ownsRow 0 e s u n cs) {b : Nat} (hb : b ∈ blocksOf u) : blockOf u = some b ∧ b < w.heap.size := by
  obtain ⟨_, h⟩ := h
  rcases h with ⟨rfl, _⟩ | ⟨g, cap, cur, rfl, _, h4, _⟩
  · simp [blocksOf, blockOf] at hb
  · simp [blocksOf, blockOf] at hb; subst hb
    exact ⟨rfl, (Array.getElem?_eq_some_iff.1 h4).1⟩
theorem owns_one {w : World} {e s n : Nat} {u : Value} {cs : List Value} (h : w.ownsRow 0 e s u n cs) : u.oneCell' = true := by
  obtain ⟨_, h⟩ := h
  rcases h with ⟨rfl, _⟩ | ⟨g, cap, cur, rfl, _, h4, _⟩ <;> rfl
def bagC (ct : Nat → Nat × Nat) (q : Nat → Bool) (xs : List PV) : Cust where
  I := fun ow w v _ => bagI ct q xs ow w v
  lt := by
    rintro ow w v vs ⟨caps, rfl, hs, h1, h2, h3⟩ b hb
    obtain ⟨k, u, hk, hb'⟩ := mem_caps hb
    have hlt : k < caps.size := (Array.getElem?_eq_some_iff.1 hk).1
    cases hq : q k with
    | false => rw [h2 k u hk hq] at hb'; simp [noB, blockOf] at hb'
    | true =>
      obtain ⟨ys, cs, u', g1, g2, g3, g4⟩ := h1 k hlt hq
      rw [hk] at g2; cases g2
      exact (owns_bo g3 (mem_of_bo hb')).2
  kp := by
    rintro ow ow' w w' v vs hk hb ⟨caps, rfl, hs, h1, h2, h3⟩
    refine ⟨caps, rfl, hs, fun k hlt hq => ?_, h2, h3⟩
    obtain ⟨ys, cs, u, g1, g2, g3, g4⟩ := h1 k hlt hq
    exact ⟨ys, cs, u, g1, g2, ownsRow_kept g3 fun b hb' => (hb b (caps_mem g2 (owns_bo g3 hb').1)).1, RE.mono hk _ _ _ g4⟩
  one := by
    rintro ow w v vs ⟨caps, rfl, _⟩
    rfl
/-- the outer row: the cells k with q k hold what is in the bag (the first part), the cells that hs names hold the other parts, the others data -/
def outI (ty sz : Nat) (q : Nat → Bool) (hs : List (Option Nat)) (xs : List PV) (ow : Nat → Bool) (w : World) (v : Value) (vs : List Value) : Prop :=
  ∃ (cells : List Value) (caps : Array Value), w.ownsRow 0 ty sz v xs.length cells ∧ vs[0]? = some (.func (.func 0) #[] caps) ∧
    ∀ (k : Nat) (p : PV), (fl xs)[k]? = some p → ∃ u : Value, cells[k]? = some u ∧ u.oneCell' = true ∧ (q k = true → caps[k]? = some u) ∧ (∀ j : Nat, hs[j]? = some (some k) → vs[j + 1]? = some u) ∧
      (q k = false → (∀ j : Nat, hs[j]? ≠ some (some k)) → R ow w p u)
def outC (ty sz : Nat) (q : Nat → Bool) (hs : List (Option Nat)) (xs : List PV) : Cust where
  I := outI ty sz q hs xs
  lt := by
    rintro ow w v vs ⟨cells, caps, h1, _⟩ b hb
    exact (owns_bo h1 hb).2
  kp := by
    rintro ow ow' w w' v vs hk hb ⟨cells, caps, h1, h2, h3⟩
    refine ⟨cells, caps, ownsRow_kept h1 fun b e => (hb b e).1, h2, fun k p hp => ?_⟩
    obtain ⟨u, g1, g2, g3, g4, g5⟩ := h3 k p hp
    exact ⟨u, g1, g2, g3, g4, fun a b => R.mono hk _ _ (g5 a b)⟩
  one := by
    rintro ow w v vs ⟨cells, caps, h1, _⟩
    exact owns_one h1
section
variable {P : Program} {T : List TI} {n : Nat} {w0 : Cx} {st : PS} {a : Act} {w : World} {ow : Nat → Bool} {hd : Nat → Value}
/-- another account of an object, in the same world; it may name others -/
theorem SimW.re (S : SimW n w0 st a w ow hd) {l : Nat} {o o' : PO} (hm : st.m[l]? = some o) (hl : o.live = true) (hl' : o'.live = true) (h : RO (al (st.m.set l o')) hd w0 ow w (hd l) o') : SimW n w0 ⟨st.f, st.m.set l o'⟩ a w ow hd := by
  have e : upd hd l (hd l) = hd := by funext j; by_cases e : j = l <;> simp [upd, e]
  have := S.obj (l := l) (hv := hd l) (o := o') (Kp.refl _ _) (Kt.refl _ _) S.fresh (.inr rfl) (PO.made_of_live hl') (by rw [e]; exact h)
    (fun j oj b' hne hj hlj hb' => ⟨rfl, rfl, fun _ eb => S.dist j l oj o b' hne hj hm hlj hl hb' eb⟩)
  rw [e] at this
  exact this
/-- a new object, in the same world, of blocks that no other has -/
theorem SimW.add (S : SimW n w0 st a w ow hd) {l : Nat} {o : PO} {hv : Value} (hm : st.m[l]? = some .free) (ho : o.made = true) (h : RO (al (st.m.set l o)) (upd hd l hv) w0 ow w hv o)
    (hk : ∀ j oj b, j ≠ l → st.m[j]? = some oj → oj.live = true → b ∈ blocksOf (hd j) → b ∉ blocksOf hv) :
    SimW n w0 ⟨st.f, st.m.set l o⟩ a w ow (upd hd l hv) ∧ (∀ j, al st.m j = true → al (st.m.set l o) j = true ∧ upd hd l hv j = hd j) ∧ al (st.m.set l o) l = true := by
  have hal : al st.m l = false := by simp [al, hm, PO.made]
  have hlt : l < st.m.length := (List.getElem?_eq_some_iff.1 hm).1
  refine ⟨S.obj (l := l) (hv := hv) (o := o) (Kp.refl _ _) (Kt.refl _ _) S.fresh (.inl hal) ho h (fun j oj b hne hj hlj hb => ⟨rfl, rfl, fun _ => hk j oj b hne hj hlj hb⟩), ?_, ?_⟩
  · intro j hj
    refine ⟨al_set_mono ho j hj, ?_⟩
    rw [upd_ne]
    intro e; rw [e, hal] at hj; cases hj
  · rw [al_set_same hlt]; exact ho
theorem get_set_ne {m : List PO} {l j : Nat} {o x : PO} (h : m[j]? = some x) (hne : j ≠ l) : (m.set l o)[j]? = some x := by
  rw [List.getElem?_set, if_neg (fun e => hne e.symm)]; exact h
end
end Go.Proofs.Ytdimcmpkhbfcnaa.pv
