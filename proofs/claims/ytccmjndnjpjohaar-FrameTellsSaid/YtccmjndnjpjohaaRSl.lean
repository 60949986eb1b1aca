/- Slices whose elements are flat data: numbers, bools, strings, structs and arrays of these. -/
import Derived.Test.YtccmjndnjpjohaaRRep
import Derived.Laws.AppendOwn
namespace Go.Proofs.YtccmjndnjpjohaaR.rep
open Go.ChangeShapes Go.WideShapes Go.Deep Go.RowKit help
set_option linter.all false

namespace Sh
def flat : Sh → Bool
  | slice _ => false
  | pair a b => a.flat && b.flat
  | arr _ e => e.flat
  | _ => true
/-- the cells of a flat value -/
def enc : (s : Sh) → s.T → List Value
  | int k, (n : Int) => [.int k n]
  | bool, (b : Bool) => [.bool b]
  | str, (s : ByteArray) => [.string s]
  | unit, _ => []
  | pair a b, (x, y) => a.enc x ++ b.enc y
  | slice _, _ => []
  | arr _ e, (xs : List e.T) => xs.flatMap e.enc
def wf : (s : Sh) → s.T → Prop
  | int k, (n : Int) => (Lit.int k n).wf = true
  | bool, _ => True
  | str, (s : ByteArray) => s.size ≤ maxLen
  | unit, _ => True
  | pair a b, (x, y) => a.wf x ∧ b.wf y
  | slice _, _ => True
  | arr n e, (xs : List e.T) => xs.length = n ∧ ∀ x ∈ xs, e.wf x
end Sh

theorem flatMap_length {α : Type} (f : α → List Value) (sz : Nat) (xs : List α) (h : ∀ x ∈ xs, (f x).length = sz) : (xs.flatMap f).length = xs.length * sz := by
  induction xs with
  | nil => simp
  | cons x r ih =>
    rw [List.flatMap_cons, List.length_append, ih fun y hy => h y (by simp [hy]), h x (by simp), List.length_cons, Nat.succ_mul]
    omega
theorem flatMap_get {α : Type} (f : α → List Value) (sz : Nat) (xs : List α) (h : ∀ x ∈ xs, (f x).length = sz) (i j : Nat) (hi : i < xs.length) (hj : j < sz) : (xs.flatMap f)[i * sz + j]? = (f xs[i])[j]? := by
  induction xs generalizing i with
  | nil => simp at hi
  | cons x r ih =>
    rw [List.flatMap_cons]
    cases i with
    | zero =>
      rw [List.getElem?_append_left (by rw [h x (by simp)]; omega)]
      simp
    | succ i =>
      have hx : (f x).length = sz := h x (by simp)
      rw [List.getElem?_append_right (by rw [hx, Nat.succ_mul]; omega), hx]
      have e : (i + 1) * sz + j - sz = i * sz + j := by rw [Nat.succ_mul]; omega
      rw [e, ih (fun y hy => h y (by simp [hy])) i (by simpa using hi)]
      rfl
theorem enc_length : ∀ (s : Sh) (x : s.T), s.flat = true → s.wf x → (s.enc x).length = s.size
  | .int _, _, _, _ => rfl
  | .bool, _, _, _ => rfl
  | .str, _, _, _ => rfl
  | .unit, _, _, _ => rfl
  | .pair a b, (x, y), hf, hw => by
    simp only [Sh.flat, Bool.and_eq_true] at hf
    simp only [Sh.enc, List.length_append, Sh.size]
    rw [enc_length a x hf.1 hw.1, enc_length b y hf.2 hw.2]
  | .slice _, _, hf, _ => by simp [Sh.flat] at hf
  | .arr n e, (xs : List e.T), hf, hw => by
    obtain ⟨h1, h2⟩ := hw
    show (List.flatMap e.enc xs).length = n * e.size
    rw [flatMap_length e.enc e.size xs fun x hx => enc_length e x hf (h2 x hx), h1]

theorem flat_of_parts (e : Sh) (hf : e.flat = true) (sz : Nat) (hsz : e.size = sz) (xs : List e.T) (hw : ∀ x ∈ xs, e.wf x) (cs : List Value) (hl : cs.length = xs.length * sz)
    (hp : ∀ (i : Nat) (h : i < xs.length), (cs.drop (i * sz)).take sz = e.enc xs[i]) : cs = xs.flatMap e.enc := by
  have hlen : ∀ x ∈ xs, (e.enc x).length = sz := fun x hx => by rw [enc_length e x hf (hw x hx), hsz]
  apply List.ext_getElem?
  intro k
  by_cases hk : k < xs.length * sz
  · have hz : 0 < sz := by
      rcases Nat.eq_zero_or_pos sz with h | h
      · subst h; simp at hk
      · exact h
    have hi : k / sz < xs.length := Nat.div_lt_of_lt_mul (by rw [Nat.mul_comm]; exact hk)
    have hj : k % sz < sz := Nat.mod_lt _ hz
    have e1 : k = k / sz * sz + k % sz := by rw [Nat.mul_comm]; exact (Nat.div_add_mod k sz).symm
    have h1 := flatMap_get e.enc sz xs hlen (k / sz) (k % sz) hi hj
    rw [← e1] at h1
    rw [h1, ← hp (k / sz) hi, List.getElem?_take, if_pos hj, List.getElem?_drop, ← e1]
  · rw [List.getElem?_eq_none (by omega), List.getElem?_eq_none (by rw [flatMap_length e.enc sz xs hlen]; omega)]

/-- a flat value's cells are its encoding -/
theorem rep_flat {w : World} : ∀ (s : Sh) (x : s.T) (cs : List Value), s.flat = true → Rep w s x cs → cs = s.enc x ∧ s.wf x
  | .int _, _, _, _, h => ⟨h.1, h.2⟩
  | .bool, _, _, _, h => ⟨h, trivial⟩
  | .str, _, _, _, h => ⟨h.1, h.2⟩
  | .unit, _, _, _, h => ⟨h, trivial⟩
  | .pair a b, (x, y), cs, hf, ⟨c1, c2, hc, h1, h2⟩ => by
    simp only [Sh.flat, Bool.and_eq_true] at hf
    obtain ⟨e1, w1⟩ := rep_flat a x c1 hf.1 h1
    obtain ⟨e2, w2⟩ := rep_flat b y c2 hf.2 h2
    exact ⟨by rw [hc, e1, e2]; rfl, w1, w2⟩
  | .slice _, _, _, hf, _ => by simp [Sh.flat] at hf
  | .arr n e, (xs : List e.T), cs, hf, ⟨h1, h2, h3⟩ => by
    have hh : ∀ (i : Nat) (h : i < xs.length), (cs.drop (i * e.size)).take e.size = e.enc xs[i] ∧ e.wf xs[i] := fun i h => rep_flat e _ _ hf (h3 i h)
    have hw : ∀ x ∈ xs, e.wf x := fun x hx => by
      obtain ⟨i, hi, rfl⟩ := List.mem_iff_getElem.1 hx
      exact (hh i hi).2
    exact ⟨flat_of_parts e hf e.size rfl xs hw cs (by rw [h1]; exact h2) fun i h => (hh i h).1, h1, hw⟩

/-- THE SLICE VALUE v HOLDS THE LIST xs OF FLAT ELEMENTS IN THE WORLD w -/
def Sl (w : World) (e : Sh) (xs : List e.T) (v : Value) : Prop :=
  (v = .slice none 0 0 ∧ xs = []) ∨
  ∃ (b off cap : Nat) (sp : Option Nat), v = .slice (some ⟨b, off, sp⟩) xs.length cap ∧ xs.length ≤ cap ∧ cap ≤ maxLen ∧ (0 < xs.length → sp = none ∧ b < w.heap.size) ∧
    ∀ j u, (xs.flatMap e.enc)[j]? = some u → w.cell? ⟨b, off + j, none⟩ = some u

theorem Sl.later {w w' : World} {e : Sh} {xs : List e.T} {v : Value} (hb : Below w.heap.size w w') (h : Sl w e xs v) : Sl w' e xs v := by
  rcases h with h | ⟨b, off, cap, sp, hv, h1, h2, h3, h4⟩
  · exact .inl h
  · exact .inr ⟨b, off, cap, sp, hv, h1, h2, fun h => ⟨(h3 h).1, Nat.lt_of_lt_of_le (h3 h).2 hb.size⟩, fun j u hu => cell_on hb (h4 j u hu)⟩
theorem Sl.nil (w : World) (e : Sh) : Sl w e [] (.slice none 0 0) := .inl ⟨rfl, rfl⟩
theorem Sl.len {w : World} {e : Sh} {xs : List e.T} {v : Value} (h : Sl w e xs v) : ∃ a cap, v = .slice a xs.length cap ∧ xs.length ≤ maxLen := by
  rcases h with ⟨rfl, rfl⟩ | ⟨b, off, cap, sp, hv, h1, h2, h3, h4⟩
  · exact ⟨none, 0, rfl, by simp [maxLen]⟩
  · exact ⟨_, cap, hv, by omega⟩
/-- an argument that is a slice of flat elements -/
theorem sl_of_rep {w : World} {e : Sh} (hf : e.flat = true) (h0 : 0 < e.size) {xs : List e.T} {v : Value} (h : Rep w (.slice e) xs [v]) : Sl w e xs v ∧ ∀ x ∈ xs, e.wf x := by
  rcases h with ⟨hc, rfl⟩ | ⟨b, off, cap, sp, hc, hl, hm, hsp, hi⟩
  · simp at hc
    exact ⟨.inl ⟨hc, rfl⟩, by simp⟩
  · simp at hc
    have hh : ∀ (i : Nat) (h : i < xs.length), (∀ j, j < e.size → w.cell? ⟨b, off + (i * e.size + j), none⟩ = (e.enc xs[i])[j]?) ∧ e.wf xs[i] := by
      intro i h
      obtain ⟨cs', hcl, hat, hv⟩ := hi i h
      obtain ⟨e1, w1⟩ := rep_flat e _ _ hf hv
      subst e1
      exact ⟨fun j hj => hat j (by omega), w1⟩
    have hw : ∀ x ∈ xs, e.wf x := fun x hx => by
      obtain ⟨i, hi, rfl⟩ := List.mem_iff_getElem.1 hx
      exact (hh i hi).2
    refine ⟨.inr ⟨b, off, cap, sp, hc, hl, hm, fun h => hsp h h0, fun k u hu => ?_⟩, hw⟩
    have hlen : ∀ x ∈ xs, (e.enc x).length = e.size := fun x hx => enc_length e x hf (hw x hx)
    have hk : k < xs.length * e.size := by
      rw [← flatMap_length e.enc e.size xs hlen]
      exact (List.getElem?_eq_some_iff.1 hu).1
    have hi' : k / e.size < xs.length := Nat.div_lt_of_lt_mul (by rw [Nat.mul_comm]; exact hk)
    have hj : k % e.size < e.size := Nat.mod_lt _ h0
    have e1 : k = k / e.size * e.size + k % e.size := by rw [Nat.mul_comm]; exact (Nat.div_add_mod k e.size).symm
    have h1 := flatMap_get e.enc e.size xs hlen (k / e.size) (k % e.size) hi' hj
    have h2 := (hh _ hi').1 _ hj
    rw [← e1] at h1 h2
    rw [h2, ← h1, hu]
/-- a cell of an element -/
theorem Sl.cell {w : World} {e : Sh} {xs : List e.T} {a : Addr} {n cap : Nat} (h : Sl w e xs (.slice (some a) n cap)) (hf : e.flat = true) (hw : ∀ x ∈ xs, e.wf x) (i j : Nat) (hi : i < xs.length) (hj : j < e.size) :
    a.spot = none ∧ a.block < w.heap.size ∧ w.cell? ⟨a.block, a.off + (i * e.size + j), none⟩ = (e.enc xs[i])[j]? := by
  rcases h with ⟨hv, _⟩ | ⟨b, off, cap', sp, hv, h1, h2, h3, h4⟩
  · simp at hv
  · simp at hv
    obtain ⟨rfl, rfl, rfl⟩ := hv
    have hlen : ∀ x ∈ xs, (e.enc x).length = e.size := fun x hx => enc_length e x hf (hw x hx)
    have h5 := flatMap_get e.enc e.size xs hlen i j hi hj
    have h6 : (e.enc xs[i])[j]? = some ((e.enc xs[i])[j]'(by rw [hlen _ (List.getElem_mem hi)]; exact hj)) := List.getElem?_eq_getElem _
    refine ⟨(h3 (by omega)).1, (h3 (by omega)).2, ?_⟩
    rw [h6] at h5 ⊢
    exact h4 _ _ h5
/-- a row that the call owns, read as a slice of flat elements -/
theorem sl_of_owns {w : World} {base ty : Nat} {e : Sh} {xs : List e.T} {v : Value} {cells : List Value} (hc : cells = xs.flatMap e.enc) (h : w.ownsRow base ty e.size v xs.length cells) : Sl w e xs v := by
  subst hc
  obtain ⟨hlen, h⟩ := h
  rcases h with ⟨rfl, hn⟩ | ⟨g, cap, cur, rfl, hb, hg, hl, hm, hs, ht⟩
  · exact .inl ⟨rfl, List.length_eq_zero_iff.1 hn⟩
  · refine .inr ⟨g, 0, cap, none, rfl, hl, hm, fun _ => ⟨rfl, (Array.getElem?_eq_some_iff.1 hg).1⟩, fun j u hu => ?_⟩
    have : w.cell? ⟨g, 0 + j, none⟩ = cur[j]? := by unfold World.cell?; simp [hg]
    rw [this]
    rw [← ht] at hu
    rw [List.getElem?_take] at hu
    split at hu
    · simpa using hu
    · cases hu
end Go.Proofs.YtccmjndnjpjohaaR.rep
