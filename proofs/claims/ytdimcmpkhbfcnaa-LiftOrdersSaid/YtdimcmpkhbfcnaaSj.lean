/- Rows of one's own whose cells (some of them) hold rows of one's own: the outer row and the bag of the inner ones. -/
import Derived.Test.YtdimcmpkhbfcnaaSi
namespace Go.Proofs.Ytdimcmpkhbfcnaa.pv
set_option linter.all false
open Go.RowKit

/-- a row's cells -/
def fl (xs : List PV) : List PV := xs.flatMap pcells
theorem fl_cons (x : PV) (xs : List PV) : fl (x :: xs) = pcells x ++ fl xs := rfl
theorem fits_len {s : Nat} {x : PV} (h : fits s x = true) : (pcells x).length = s := by
  obtain ⟨h1, h2⟩ := fits_spec h
  rw [← h2]
  cases x <;> rfl
theorem fl_len {s : Nat} : ∀ {xs : List PV}, xs.all (fits s) = true → (fl xs).length = xs.length * s
  | [], _ => by simp [fl]
  | x :: xs, h => by
    simp only [List.all_cons, Bool.and_eq_true] at h
    rw [fl_cons, List.length_append, fits_len h.1, fl_len h.2, List.length_cons, Nat.succ_mul, Nat.add_comm]
theorem fl_get {s : Nat} : ∀ {xs : List PV} {i c : Nat} {y p : PV}, xs.all (fits s) = true → xs[i]? = some y → (pcells y)[c]? = some p → (fl xs)[i * s + c]? = some p
  | [], i, c, y, p, _, h, _ => by simp at h
  | x :: xs, 0, c, y, p, hf, h, hp => by
    simp at h; subst h
    rw [fl_cons, Nat.zero_mul, Nat.zero_add, List.getElem?_append_left (List.getElem?_eq_some_iff.1 hp).1]; exact hp
  | x :: xs, i + 1, c, y, p, hf, h, hp => by
    simp only [List.all_cons, Bool.and_eq_true] at hf
    simp at h
    have hl := fits_len hf.1
    rw [fl_cons, List.getElem?_append_right (by rw [hl, Nat.succ_mul]; omega), hl, show (i + 1) * s + c - s = i * s + c by rw [Nat.succ_mul]; omega]
    exact fl_get hf.2 h hp
theorem fl_set {s : Nat} : ∀ {xs : List PV} {i c : Nat} {y y' p : PV}, xs.all (fits s) = true → xs[i]? = some y → c < s → pcells y' = (pcells y).set c p → fl (xs.set i y') = (fl xs).set (i * s + c) p
  | [], i, c, y, y', p, _, h, _, _ => by simp at h
  | x :: xs, 0, c, y, y', p, hf, h, hc, hp => by
    simp only [List.all_cons, Bool.and_eq_true] at hf
    simp at h; subst h
    have hl := fits_len hf.1
    rw [List.set_cons_zero, fl_cons, fl_cons, hp, Nat.zero_mul, Nat.zero_add, List.set_append_left _ _ (by omega)]
  | x :: xs, i + 1, c, y, y', p, hf, h, hc, hp => by
    simp only [List.all_cons, Bool.and_eq_true] at hf
    simp at h
    have hl := fits_len hf.1
    rw [List.set_cons_succ, fl_cons, fl_cons, fl_set hf.2 h hc hp, List.set_append_right _ _ (by rw [hl, Nat.succ_mul]; omega), hl, show (i + 1) * s + c - s = i * s + c by rw [Nat.succ_mul]; omega]
theorem fits_set {s : Nat} {xs : List PV} {i : Nat} {y y' : PV} {c : Nat} {p : PV} (hf : xs.all (fits s) = true) (h : xs[i]? = some y) (hp : pcells y' = (pcells y).set c p) (ht : isTup y' = false) : (xs.set i y').all (fits s) = true := by
  rw [List.all_eq_true] at hf ⊢
  intro x hx
  rcases List.mem_or_eq_of_mem_set hx with hx | rfl
  · exact hf x hx
  · have hy := fits_len (hf y (List.mem_of_getElem? h))
    have hl : (pcells x).length = s := by rw [hp, List.length_set]; exact hy
    unfold fits
    rw [ht]
    have : psz x = (pcells x).length := by cases x <;> rfl
    rw [this, hl]; simp
section
variable {ow : Nat → Bool} {w : World}
theorem RL_get : ∀ {ps : List PV} {us : List Value}, RL ow w ps us → ∀ (k : Nat) (p : PV), ps[k]? = some p → ∃ u, us[k]? = some u ∧ u.oneCell' = true ∧ R ow w p u
  | [], us, h, k, p, hp => by simp at hp
  | x :: ps, us, h, k, p, hp => by
    simp only [RL] at h
    obtain ⟨v, r, rfl, h1, h2, h3⟩ := h
    cases k with
    | zero => simp at hp; subst hp; exact ⟨v, rfl, h2, h1⟩
    | succ k => simp at hp; simpa using RL_get h3 k p hp
theorem RL_of_get : ∀ {ps : List PV} {us : List Value}, us.length = ps.length → (∀ (k : Nat) (p : PV), ps[k]? = some p → ∃ u, us[k]? = some u ∧ u.oneCell' = true ∧ R ow w p u) → RL ow w ps us
  | [], us, hl, _ => by simp only [RL]; exact List.eq_nil_of_length_eq_zero hl
  | x :: ps, [], hl, _ => by simp at hl
  | x :: ps, u :: us, hl, h => by
    obtain ⟨v, h1, h2, h3⟩ := h 0 x rfl
    simp at h1; subst h1
    simp only [RL]
    exact ⟨u, us, rfl, h3, h2, RL_of_get (by simpa using hl) fun k p hp => by simpa using h (k + 1) p (by simpa using hp)⟩
theorem RE_RL {s : Nat} : ∀ {xs : List PV} {cells : List Value}, xs.all (fits s) = true → RE ow w s xs cells → RL ow w (fl xs) cells
  | [], cells, _, h => by simp only [RE] at h; subst h; simp [fl, RL]
  | x :: xs, cells, hf, h => by
    simp only [List.all_cons, Bool.and_eq_true] at hf
    simp only [RE] at h
    obtain ⟨u, r, rfl, h0, h1, h2, h3⟩ := h
    rw [fl_cons]
    exact RL.append (R.cells h2 (fits_spec hf.1).1) (RE_RL hf.2 h3)
theorem RL_RE {s : Nat} : ∀ {xs : List PV} {cells : List Value}, xs.all (fits s) = true → RL ow w (fl xs) cells → RE ow w s xs cells
  | [], cells, _, h => by simpa [fl, RL, RE] using h
  | x :: xs, cells, hf, h => by
    simp only [List.all_cons, Bool.and_eq_true] at hf
    have hl := fits_len hf.1
    have h1 := RL.take s h
    have h2 := RL.drop s h
    rw [fl_cons, List.take_append_of_le_length (by omega), List.take_of_length_le (by omega)] at h1
    rw [fl_cons, List.drop_append_of_le_length (by omega), List.drop_of_length_le (by omega), List.nil_append] at h2
    obtain ⟨u, v1, v2⟩ := R_of_cells h1 (fits_spec hf.1).1
    simp only [RE]
    refine ⟨u, cells.drop s, by rw [v1, List.take_append_drop], ?_, by rw [v1]; exact RL.one h1, v2, RL_RE hf.2 h2⟩
    have := RL.length h1
    rw [← Array.length_toList, v1, this, hl]
end
/-- no block -/
def noB : Value := .bool false
/-- the inner rows of a row's cells: those of the cells k with q k; columns: which type, how many cells an element has -/
def bagI (ct : Nat → Nat × Nat) (q : Nat → Bool) (xs : List PV) (ow : Nat → Bool) (w : World) (v : Value) : Prop :=
  ∃ caps : Array Value, v = .func (.func 0) #[] caps ∧ caps.size = (fl xs).length ∧
    (∀ k : Nat, k < caps.size → q k = true → ∃ (ys : List PV) (cs : List Value) (u : Value), (fl xs)[k]? = some (.sl ys) ∧ caps[k]? = some u ∧ w.ownsRow 0 (ct k).1 (ct k).2 u ys.length cs ∧ RE ow w (ct k).2 ys cs) ∧
    (∀ (k : Nat) (u : Value), caps[k]? = some u → q k = false → u = noB) ∧
    (∀ (k k' : Nat) (u u' : Value) (b : Nat), k ≠ k' → caps[k]? = some u → caps[k']? = some u' → blockOf u = some b → blockOf u' ≠ some b)
theorem mem_caps {caps : Array Value} {b : Nat} (h : b ∈ blocksOf (.func (.func 0) #[] caps)) : ∃ (k : Nat) (u : Value), caps[k]? = some u ∧ blockOf u = some b := by
  simp only [blocksOf, List.mem_filterMap] at h
  obtain ⟨u, hu, hb⟩ := h
  obtain ⟨k, hk⟩ := List.getElem?_of_mem hu
  exact ⟨k, u, by simpa using hk, hb⟩
theorem caps_mem {caps : Array Value} {b k : Nat} {u : Value} (h : caps[k]? = some u) (hb : blockOf u = some b) : b ∈ blocksOf (.func (.func 0) #[] caps) := by
  simp only [blocksOf, List.mem_filterMap]
  exact ⟨u, by
    have : caps.toList[k]? = some u := by simpa using h
    exact List.mem_of_getElem? this, hb⟩
theorem owns_bo {w : World} {e s n : Nat} {u : Value} {cs : List Value} (h : w.ownsRow 0 e s u n cs) {b : Nat} (hb : b ∈ blocksOf u) : blockOf u = some b ∧ b < w.heap.size := by
  obtain ⟨_, h⟩ := h
  rcases h with ⟨rfl, _⟩ | ⟨g, cap, cur, rfl, _, h4, _⟩
  · simp [blocksOf, blockOf] at hb
  · simp [blocksOf, blockOf] at hb; subst hb
    exact ⟨rfl, (Array.getElem?_eq_some_iff.1 h4).1⟩
theorem owns_one {w : World} {e s n : Nat} {u : Value} {cs : List Value} (h : w.ownsRow 0 e s u n cs) : u.oneCell' = true := by
  obtain ⟨_, h⟩ := h
  rcases h with ⟨rfl, _⟩ | ⟨g, cap, cur, rfl, _, h4, _⟩ <;> rfl
def bagC (ct : Nat → Nat × Nat) (q : Nat → Bool) (xs : List PV) : Cust where
  I := fun ow w v _ => bagI ct q xs ow w v
  lt := by
    rintro ow w v vs ⟨caps, rfl, hs, h1, h2, h3⟩ b hb
    obtain ⟨k, u, hk, hb'⟩ := mem_caps hb
    have hlt : k < caps.size := (Array.getElem?_eq_some_iff.1 hk).1
    cases hq : q k with
    | false => rw [h2 k u hk hq] at hb'; simp [noB, blockOf] at hb'
    | true =>
      obtain ⟨ys, cs, u', g1, g2, g3, g4⟩ := h1 k hlt hq
      rw [hk] at g2; cases g2
      exact (owns_bo g3 (mem_of_bo hb')).2
  kp := by
    rintro ow ow' w w' v vs hk hb ⟨caps, rfl, hs, h1, h2, h3⟩
    refine ⟨caps, rfl, hs, fun k hlt hq => ?_, h2, h3⟩
    obtain ⟨ys, cs, u, g1, g2, g3, g4⟩ := h1 k hlt hq
    exact ⟨ys, cs, u, g1, g2, ownsRow_kept g3 fun b hb' => (hb b (caps_mem g2 (owns_bo g3 hb').1)).1, RE.mono hk _ _ _ g4⟩
  one := by
    rintro ow w v vs ⟨caps, rfl, _⟩
    rfl
/-- the outer row: the cells k with q k hold what is in the bag (the first part), the cells that hs names hold the other parts, the others data -/
def outI (ty sz : Nat) (q : Nat → Bool) (hs : List (Option Nat)) (xs : List PV) (ow : Nat → Bool) (w : World) (v : Value) (vs : List Value) : Prop :=
  ∃ (cells : List Value) (caps : Array Value), w.ownsRow 0 ty sz v xs.length cells ∧ vs[0]? = some (.func (.func 0) #[] caps) ∧
    ∀ (k : Nat) (p : PV), (fl xs)[k]? = some p → ∃ u : Value, cells[k]? = some u ∧ u.oneCell' = true ∧ (q k = true → caps[k]? = some u) ∧ (∀ j : Nat, hs[j]? = some (some k) → vs[j + 1]? = some u) ∧
      (q k = false → (∀ j : Nat, hs[j]? ≠ some (some k)) → R ow w p u)
def outC (ty sz : Nat) (q : Nat → Bool) (hs : List (Option Nat)) (xs : List PV) : Cust where
  I := outI ty sz q hs xs
  lt := by
    rintro ow w v vs ⟨cells, caps, h1, _⟩ b hb
    exact (owns_bo h1 hb).2
  kp := by
    rintro ow ow' w w' v vs hk hb ⟨cells, caps, h1, h2, h3⟩
    refine ⟨cells, caps, ownsRow_kept h1 fun b e => (hb b e).1, h2, fun k p hp => ?_⟩
    obtain ⟨u, g1, g2, g3, g4, g5⟩ := h3 k p hp
    exact ⟨u, g1, g2, g3, g4, fun a b => R.mono hk _ _ (g5 a b)⟩
  one := by
    rintro ow w v vs ⟨cells, caps, h1, _⟩
    exact owns_one h1
section
variable {P : Program} {T : List TI} {n : Nat} {w0 : Cx} {st : PS} {a : Act} {w : World} {ow : Nat → Bool} {hd : Nat → Value}
/-- another account of an object, in the same world; it may name others -/
theorem SimW.re (S : SimW n w0 st a w ow hd) {l : Nat} {o o' : PO} (hm : st.m[l]? = some o) (hl : o.live = true) (hl' : o'.live = true) (h : RO (al (st.m.set l o')) hd w0 ow w (hd l) o') : SimW n w0 ⟨st.f, st.m.set l o'⟩ a w ow hd := by
  have e : upd hd l (hd l) = hd := by funext j; by_cases e : j = l <;> simp [upd, e]
  have := S.obj (l := l) (hv := hd l) (o := o') (Kp.refl _ _) (Kt.refl _ _) S.fresh (.inr rfl) (PO.made_of_live hl') (by rw [e]; exact h)
    (fun j oj b' hne hj hlj hb' => ⟨rfl, rfl, fun _ eb => S.dist j l oj o b' hne hj hm hlj hl hb' eb⟩)
  rw [e] at this
  exact this
/-- a new object, in the same world, of blocks that no other has -/
theorem SimW.add (S : SimW n w0 st a w ow hd) {l : Nat} {o : PO} {hv : Value} (hm : st.m[l]? = some .free) (ho : o.made = true) (h : RO (al (st.m.set l o)) (upd hd l hv) w0 ow w hv o)
    (hk : ∀ j oj b, j ≠ l → st.m[j]? = some oj → oj.live = true → b ∈ blocksOf (hd j) → b ∉ blocksOf hv) :
    SimW n w0 ⟨st.f, st.m.set l o⟩ a w ow (upd hd l hv) ∧ (∀ j, al st.m j = true → al (st.m.set l o) j = true ∧ upd hd l hv j = hd j) ∧ al (st.m.set l o) l = true := by
  have hal : al st.m l = false := by simp [al, hm, PO.made]
  have hlt : l < st.m.length := (List.getElem?_eq_some_iff.1 hm).1
  refine ⟨S.obj (l := l) (hv := hv) (o := o) (Kp.refl _ _) (Kt.refl _ _) S.fresh (.inl hal) ho h (fun j oj b hne hj hlj hb => ⟨rfl, rfl, fun _ => hk j oj b hne hj hlj hb⟩), ?_, ?_⟩
  · intro j hj
    refine ⟨al_set_mono ho j hj, ?_⟩
    rw [upd_ne]
    intro e; rw [e, hal] at hj; cases hj
  · rw [al_set_same hlt]; exact ho
theorem get_set_ne {m : List PO} {l j : Nat} {o x : PO} (h : m[j]? = some x) (hne : j ≠ l) : (m.set l o)[j]? = some x := by
  rw [List.getElem?_set, if_neg (fun e => hne e.symm)]; exact h
end
end Go.Proofs.Ytdimcmpkhbfcnaa.pv
