/- How an argument of a law reads, in plain Lean data: a shape, the Lean type of its values, and 'Rep': the cells represent the value in the world. One theorem for every shape. -/
import Derived.Test.YtmjkechkdfobgaaHelp
import Derived.Deep.Slices
import Derived.OpenShut
import Derived.DataReads
import Derived.SizedLaws
namespace Go.Proofs.Ytmjkechkdfobgaa.rep
set_option linter.all false
open Go.ChangeShapes Go.WideShapes Go.Deep Go.RowKit

/-- The shapes of plain data. A struct is a chain of pairs that ends in 'unit'. -/
inductive Sh where
  | int (k : IntKind) | bool | str | unit
  | pair (a b : Sh)
  | slice (b : Nat) (e : Sh)
  | arr (n : Nat) (e : Sh)

namespace Sh
def T : Sh → Type
  | int _ => Int
  | bool => Bool
  | str => ByteArray
  | unit => Unit
  | pair a b => a.T × b.T
  | slice _ e => List e.T
  | arr _ e => List e.T
def size : Sh → Nat
  | int _ | bool | str | slice _ _ => 1
  | unit => 0
  | pair a b => a.size + b.size
  | arr n e => n * e.size
def depth : Sh → Nat
  | int _ | bool | str | unit => 1
  | pair a b => a.depth + b.depth + 1
  | slice _ e | arr _ e => e.depth + 1
/-- is it laid out as an aggregate? -/
def isAgg : Sh → Bool
  | unit | pair _ _ | arr _ _ => true
  | _ => false
end Sh

def Rep (w : World) : (s : Sh) → s.T → List Value → Prop
  | .int k, (n : Int), cs => cs = [.int k n] ∧ (Lit.int k n).wf = true
  | .bool, (b : Bool), cs => cs = [.bool b]
  | .str, (s : ByteArray), cs => cs = [.string s] ∧ s.size ≤ 140737488351232
  | .unit, _, cs => cs = []
  | .pair a b, (x, y), cs => ∃ c1 c2, cs = c1 ++ c2 ∧ Rep w a x c1 ∧ Rep w b y c2
  | .slice by_ e, (xs : List e.T), cs => (cs = [.slice none 0 0] ∧ xs = []) ∨
      ∃ (b off cap : Nat) (sp : Option Nat), cs = [.slice (some ⟨b, off, sp⟩) xs.length cap] ∧ xs.length ≤ cap ∧ cap ≤ maxLen ∧ xs.length * by_ ≤ 140737488351232 ∧ (0 < xs.length → 0 < e.size → sp = none ∧ b < w.heap.size) ∧
        ∀ (i : Nat) (h : i < xs.length), ∃ cs' : List Value, cs'.length = e.size ∧ (∀ j, j < cs'.length → w.cell? ⟨b, off + (i * e.size + j), none⟩ = cs'[j]?) ∧ Rep w e xs[i] cs'
  | .arr n e, (xs : List e.T), cs => xs.length = n ∧ cs.length = n * e.size ∧ ∀ (i : Nat) (h : i < xs.length), Rep w e xs[i] ((cs.drop (i * e.size)).take e.size)

/-- does the type number t of the program have this shape? -/
def isInt (P : Program) (t : TypeId) (k : IntKind) : Bool := match P.underlying t with | some (.int k') => decide (k' = k) | _ => false
def isBool (P : Program) (t : TypeId) : Bool := match P.underlying t with | some .bool => true | _ => false
def isStr (P : Program) (t : TypeId) : Bool := match P.underlying t with | some .string => true | _ => false
def sliceOf (P : Program) (t : TypeId) : Option TypeId := match P.underlying t with | some (.slice e) => some e | _ => none
def arrOf (P : Program) (t : TypeId) : Option (Nat × TypeId) := match P.underlying t with | some (.array n e) => some (n, e) | _ => none
def fieldsOf (P : Program) (t : TypeId) : Option (List Field) := match P.underlying t with | some (.struct fs) => some fs.toList | _ => none

mutual
def fits (P : Program) : Sh → TypeId → Bool
  | .int k, t => isInt P t k
  | .bool, t => isBool P t
  | .str, t => isStr P t
  | .unit, t => match fieldsOf P t with | some [] => P.cellsOf t == 0 | _ => false
  | .pair a b, t => match fieldsOf P t with | some (f :: fs) => P.cellsOf t == a.size + b.size && f.offset == 0 && P.cellsOf f.type == a.size && fits P a f.type && fitsF P b fs a.size | _ => false
  | .slice by_ e, t => match sliceOf P t with | some u => P.cellsOf u == e.size && P.bytesOf u == by_ && fits P e u | _ => false
  | .arr n e, t => match arrOf P t with | some (m, u) => m == n && P.cellsOf t == n * e.size && P.cellsOf u == e.size && fits P e u | _ => false
def fitsF (P : Program) : Sh → List Field → Nat → Bool
  | .unit, [], _ => true
  | .pair a b, f :: fs, o => f.offset == o && P.cellsOf f.type == a.size && fits P a f.type && fitsF P b fs (o + a.size)
  | _, _, _ => false
end

theorem exists_list {α : Type} (n : Nat) (p : Nat → α → Prop) (h : ∀ i, i < n → ∃ x, p i x) : ∃ l : List α, l.length = n ∧ ∀ i (hi : i < l.length), p i l[i] := by
  induction n with
  | zero => exact ⟨[], rfl, fun i hi => absurd hi (by simp)⟩
  | succ n ih =>
    obtain ⟨l, hl, hp⟩ := ih fun i hi => h i (by omega)
    obtain ⟨x, hx⟩ := h n (by omega)
    refine ⟨l ++ [x], by simp [hl], fun i hi => ?_⟩
    by_cases e : i < l.length
    · rw [List.getElem_append_left e]; exact hp i e
    · have : i = n := by simp at hi; omega
      subst this
      rw [List.getElem_append_right (by omega)]
      simpa [hl] using hx

section
variable {H : Type} {enc : TypeId × Value → H} {P : Program} {w : World} {spare : Nat → Bool} {held : Bool}

theorem und_slice {t u : TypeId} (h : sliceOf P t = some u) : P.underlying t = some (.slice u) := by
  unfold sliceOf at h; split at h <;> simp_all
theorem und_arr {t : TypeId} {n : Nat} {u : TypeId} (h : arrOf P t = some (n, u)) : P.underlying t = some (.array n u) := by
  unfold arrOf at h; split at h <;> simp_all
theorem und_fields {t : TypeId} {fs : List Field} (h : fieldsOf P t = some fs) : P.underlying t = some (.struct fs.toArray) := by
  unfold fieldsOf at h; split at h <;> simp_all
  subst h; simp_all
theorem und_int {t : TypeId} {k : IntKind} (h : isInt P t k = true) : P.underlying t = some (.int k) := by
  unfold isInt at h; split at h <;> simp_all
theorem und_bool {t : TypeId} (h : isBool P t = true) : P.underlying t = some .bool := by
  unfold isBool at h; split at h <;> simp_all
theorem und_str {t : TypeId} (h : isStr P t = true) : P.underlying t = some .string := by
  unfold isStr at h; split at h <;> simp_all

/-- all that is met takes no more bytes than there are -/
def Small (P : Program) (t : TypeId) (d : DataW H) : Prop := ∀ n ∈ d.weights P t, n ≤ reachBytes
theorem small_all {e : TypeId} : ∀ {ds : List (DataW H)}, (∀ n ∈ DataW.weightsAll P e ds, n ≤ reachBytes) → ∀ d ∈ ds, Small P e d
  | [], _, d, hd => by simp at hd
  | d0 :: ds, h, d, hd => by
    simp only [DataW.weightsAll, List.mem_append] at h
    simp only [List.mem_cons] at hd
    rcases hd with rfl | hd
    · exact fun n hn => h n (.inl hn)
    · exact small_all (fun n hn => h n (.inr hn)) d hd
theorem small_each : ∀ {ts : List TypeId} {ds : List (DataW H)}, (∀ n ∈ DataW.weightsEach P ts ds, n ≤ reachBytes) → ∀ (j : Nat) (t : TypeId) (d : DataW H), ts[j]? = some t → ds[j]? = some d → Small P t d :=
  fun h j t d ht hd n hn => h n (DataW.weights_mem_each ht hd n hn)
theorem slice_rep (by_ : Nat) (e : Sh) (ih : ∀ (t : TypeId) (fuel : Nat) (cs : List Value) (x : DataW H × List MemPlace), fits P e t = true → DataW.trod enc P w 0 spare held fuel t cs = some x → Small P t x.1 → ∃ v : e.T, Rep w e v cs)
    (t : TypeId) (fuel : Nat) (cs : List Value) (x : DataW H × List MemPlace) (hf : fits P (.slice by_ e) t = true) (h : DataW.trod enc P w 0 spare held fuel t cs = some x) (hw : Small P t x.1) : ∃ v : (Sh.slice by_ e).T, Rep w (.slice by_ e) v cs := by
  simp only [fits] at hf
  split at hf
  · rename_i u hu
    simp only [Bool.and_eq_true, beq_iff_eq] at hf
    obtain ⟨⟨hsz, hby⟩, hfe⟩ := hf
    rcases open_slice (und_slice hu) h with ⟨rfl, _⟩ | ⟨a, len, cap, m, n, D, Pl, rfl, _, hl, hm, hmm, hx, hi⟩
    · exact ⟨([] : List e.T), .inl ⟨rfl, rfl⟩⟩
    · have hlm : len ≤ m := by rw [hmm]; split <;> omega
      have hwt : ∀ k ∈ (len + (m - len)) * P.bytesOf u :: (DataW.weightsAll P u ((List.range len).map D) ++ DataW.weightsAll P u ((List.range (m - len)).map fun j => D (len + j))), k ≤ reachBytes := by
        intro k hk
        refine hw k ?_
        rw [hx]
        simp only [DataW.weights, und_slice hu, List.length_map, List.length_range]
        exact hk
      have hbytes : len * by_ ≤ 140737488351232 := by
        have h1 := hwt _ (List.mem_cons_self ..)
        rw [hby] at h1
        have h2 : len * by_ ≤ (len + (m - len)) * by_ := Nat.mul_le_mul_right _ (by omega)
        have h3 : reachBytes = 140737488351232 := rfl
        omega
      have hsm : ∀ i, i < len → Small P u (D i) := fun i hi => small_all (ds := (List.range len).map D) (fun k hk => hwt k (by simp [hk])) _ (List.mem_map.2 ⟨i, List.mem_range.2 hi, rfl⟩)
      have hi' : ∀ i, i < len → ∃ (v : e.T), ∃ cs' : List Value, cs'.length = e.size ∧ (∀ j, j < e.size → w.cell? ((a.add (i * e.size)).add j) = cs'[j]?) ∧ Rep w e v cs' := by
        intro i hil
        obtain ⟨cs', hc, ht⟩ := hi i (by omega)
        obtain ⟨_, hcl, hat⟩ := World.cells?_some hc
        obtain ⟨v, hv⟩ := ih u n cs' _ hfe ht (hsm i hil)
        rw [hsz] at hcl hat
        exact ⟨v, cs', hcl, hat, hv⟩
      obtain ⟨xs, hxl, hxs⟩ := exists_list len _ hi'
      obtain ⟨b, off, sp⟩ := a
      have hsp : 0 < xs.length → 0 < e.size → sp = none ∧ b < w.heap.size := by
        intro h0 h1
        obtain ⟨cs', hcl, hat, _⟩ := hxs 0 h0
        have h2 := hat 0 h1
        have h3 : cs'[0]? = some (cs'[0]'(by omega)) := List.getElem?_eq_getElem (by omega)
        rw [h3] at h2
        have h4 := World.cell?_spot h2
        simp [Addr.add] at h4
        refine ⟨h4, ?_⟩
        unfold World.cell? at h2
        split at h2
        · rename_i hh
          have := (Array.getElem?_eq_some_iff.1 hh).1
          simpa [Addr.add] using this
        · simp at h2
      refine ⟨xs, .inr ⟨b, off, cap, sp, by rw [hxl], by omega, hm, by rw [hxl]; exact hbytes, hsp, fun i hil => ?_⟩⟩
      obtain ⟨cs', hcl, hat, hv⟩ := hxs i hil
      refine ⟨cs', hcl, fun j hj => ?_, hv⟩
      obtain ⟨hs, _⟩ := hsp (by omega) (by omega)
      subst hs
      rw [← hat j (by omega)]
      congr 1
      simp only [Addr.add]
      split <;> split <;> simp_all <;> omega
  · cases hf

theorem arr_rep (n : Nat) (e : Sh) (ih : ∀ (t : TypeId) (fuel : Nat) (cs : List Value) (x : DataW H × List MemPlace), fits P e t = true → DataW.trod enc P w 0 spare held fuel t cs = some x → Small P t x.1 → ∃ v : e.T, Rep w e v cs)
    (t : TypeId) (fuel : Nat) (cs : List Value) (x : DataW H × List MemPlace) (hf : fits P (.arr n e) t = true) (h : DataW.trod enc P w 0 spare held fuel t cs = some x) (hw : Small P t x.1) : ∃ v : (Sh.arr n e).T, Rep w (.arr n e) v cs := by
  simp only [fits] at hf
  split at hf
  · rename_i m u hu
    simp only [Bool.and_eq_true, beq_iff_eq] at hf
    obtain ⟨⟨⟨rfl, hct⟩, hsz⟩, hfe⟩ := hf
    obtain ⟨xs, k, _, hx, hlen, hxl, hi⟩ := DataW.trod_array (und_arr hu) h
    have hsm : ∀ d ∈ xs.map (·.1), Small P u d := small_all fun k hk => hw k (by rw [hx]; simp only [DataW.weights, und_arr hu]; exact hk)
    have hi' : ∀ i, i < m → ∃ (v : e.T), Rep w e v ((cs.drop (i * e.size)).take e.size) := by
      intro i hil
      have h1 := hi i hil
      rw [List.getElem?_eq_getElem (by omega), hsz] at h1
      exact ih u k _ _ hfe h1 (hsm _ (List.mem_map.2 ⟨_, List.getElem_mem (by omega), rfl⟩))
    obtain ⟨ys, hyl, hys⟩ := exists_list m _ hi'
    exact ⟨ys, hyl, by omega, hys⟩
  · cases hf

/-- the cells of a struct's fields from offset o on -/
theorem fields_rep (P : Program) (b : Sh) : ∀ (rest : List Field) (o : Nat) (cs : List Value) (fuel : Nat),
    (∀ f ∈ rest, ∃ y, DataW.trod enc P w 0 spare held fuel f.type ((cs.drop f.offset).take (P.cellsOf f.type)) = some y ∧ Small P f.type y.1) → fitsF P b rest o = true → cs.length = o + b.size →
    (∀ (s : Sh), s.depth < b.depth → ∀ (t : TypeId) (fuel : Nat) (cs : List Value) (x : DataW H × List MemPlace), fits P s t = true → DataW.trod enc P w 0 spare held fuel t cs = some x → Small P t x.1 → ∃ v : s.T, Rep w s v cs) →
    ∃ v : b.T, Rep w b v (cs.drop o) := by
  induction b with
  | unit =>
    intro rest o cs fuel _ hf hl _
    cases rest with
    | nil => exact ⟨(), by simp [Sh.size] at hl; simp [Rep, hl]⟩
    | cons f fs => simp [fitsF] at hf
  | pair a b _ ihb =>
    intro rest o cs fuel hy hf hl ih
    cases rest with
    | nil => simp [fitsF] at hf
    | cons f fs =>
      simp only [fitsF, Bool.and_eq_true, beq_iff_eq] at hf
      obtain ⟨⟨⟨ho, hsz⟩, hfa⟩, hfb⟩ := hf
      obtain ⟨y, hy1, hy2⟩ := hy f (by simp)
      obtain ⟨v1, hv1⟩ := ih a (by simp [Sh.depth]; omega) _ _ _ _ hfa hy1 hy2
      obtain ⟨v2, hv2⟩ := ihb fs (o + a.size) cs fuel (fun f hf => hy f (by simp [hf])) hfb (by simp [Sh.size] at hl; omega) (fun s hs => ih s (by simp [Sh.depth]; omega))
      refine ⟨(v1, v2), (cs.drop o).take a.size, cs.drop (o + a.size), ?_, ?_, hv2⟩
      · rw [← List.drop_drop, List.take_append_drop]
      · rw [ho, hsz] at hv1; exact hv1
  | int k => intro rest o cs fuel _ hf; simp [fitsF] at hf
  | bool => intro rest o cs fuel _ hf; simp [fitsF] at hf
  | str => intro rest o cs fuel _ hf; simp [fitsF] at hf
  | slice b e => intro rest o cs fuel _ hf; simp [fitsF] at hf
  | arr n e => intro rest o cs fuel _ hf; simp [fitsF] at hf

/-- WHAT CAN BE READ AT A TYPE OF SHAPE s REPRESENTS A VALUE OF s -/
theorem rep_of_trod : ∀ (s : Sh) (t : TypeId) (fuel : Nat) (cs : List Value) (x : DataW H × List MemPlace), fits P s t = true → DataW.trod enc P w 0 spare held fuel t cs = some x → Small P t x.1 → ∃ v : s.T, Rep w s v cs
  | .int k, t, fuel, cs, x, hf, h, hw => by
    obtain ⟨n, h1, _, h3⟩ := DataW.trod_int (und_int (by simpa [fits] using hf)) h
    exact ⟨n, h1, h3⟩
  | .bool, t, fuel, cs, x, hf, h, hw => by
    obtain ⟨n, h1, _⟩ := DataW.trod_bool (und_bool (by simpa [fits] using hf)) h
    exact ⟨n, h1⟩
  | .str, t, fuel, cs, x, hf, h, hw => by
    obtain ⟨n, h1, h2, h3⟩ := DataW.trod_string (und_str (by simpa [fits] using hf)) h
    refine ⟨n, h1, ?_⟩
    have h6 : n.data.toList.length ∈ x.1.weights P t := by rw [h2]; simp only [DataW.weights]; exact List.mem_singleton.2 rfl
    have h7 := hw _ h6
    have h4 : reachBytes = 140737488351232 := rfl
    have h5 : n.data.toList.length = n.size := rfl
    rw [h5, h4] at h7
    exact h7
  | .unit, t, fuel, cs, x, hf, h, hw => by
    simp only [fits] at hf
    split at hf
    · rename_i hu
      obtain ⟨xs, n, _, _, hl, _⟩ := DataW.trod_struct (und_fields hu) h
      simp at hf
      rw [hf] at hl
      exact ⟨(), by simpa [Rep] using hl⟩
    · cases hf
  | .pair a b, t, fuel, cs, x, hf, h, hw => by
    simp only [fits] at hf
    split at hf
    · rename_i f fs hu
      simp only [Bool.and_eq_true, beq_iff_eq] at hf
      obtain ⟨⟨⟨⟨hct, ho⟩, hsz⟩, hfa⟩, hfb⟩ := hf
      obtain ⟨xs, n, _, hx, hl, hxl, hi⟩ := DataW.trod_struct (und_fields hu) h
      have hsm : ∀ (j : Nat) (t : TypeId) (d : DataW H), ((f :: fs).map (·.type))[j]? = some t → (xs.map (·.1))[j]? = some d → Small P t d := small_each fun k hk => hw k (by rw [hx]; simp only [DataW.weights, und_fields hu]; exact hk)
      have hy : ∀ g ∈ f :: fs, ∃ y, DataW.trod enc P w 0 spare held n g.type ((cs.drop g.offset).take (P.cellsOf g.type)) = some y ∧ Small P g.type y.1 := by
        intro g hg
        obtain ⟨i, hi1, hi2⟩ := List.mem_iff_getElem.1 hg
        have h1 := hi i g (by simp only [List.getElem?_toArray]; rw [List.getElem?_eq_getElem hi1, hi2])
        have hxi : i < xs.length := by rw [hxl]; simpa using hi1
        rw [List.getElem?_eq_getElem hxi] at h1
        refine ⟨_, h1, hsm i g.type _ ?_ ?_⟩
        · rw [List.getElem?_map, List.getElem?_eq_getElem hi1, hi2]; rfl
        · rw [List.getElem?_map, List.getElem?_eq_getElem hxi]; rfl
      obtain ⟨y, hy1, hy2⟩ := hy f (by simp)
      obtain ⟨v1, hv1⟩ := rep_of_trod a _ _ _ _ hfa hy1 hy2
      obtain ⟨v2, hv2⟩ := fields_rep P b fs a.size cs n (fun g hg => hy g (by simp [hg])) hfb (by omega) (fun s hs => rep_of_trod s)
      refine ⟨(v1, v2), cs.take a.size, cs.drop a.size, by rw [List.take_append_drop], ?_, hv2⟩
      rw [ho, hsz] at hv1
      simpa using hv1
    · cases hf
  | .slice by_ e, t, fuel, cs, x, hf, h, hw => slice_rep by_ e (rep_of_trod e) t fuel cs x hf h hw
  | .arr n e, t, fuel, cs, x, hf, h, hw => arr_rep n e (rep_of_trod e) t fuel cs x hf h hw
termination_by s => s.depth
decreasing_by all_goals (simp [Sh.depth]; try omega)

/-- AN ARGUMENT OF A LAW: its value is a single cell, or an aggregate; its cells represent a value of the shape. -/
def Arg (w : World) (s : Sh) (v : Value) : Prop := ∃ (x : s.T) (cs : List Value), Rep w s x cs ∧ if s.isAgg then v = .agg cs.toArray else cs = [v]
theorem arg_of {base : Nat} {t : TypeId} {v : Value} {d : DataW H} {ps : List MemPlace} (s : Sh) (hf : fits P s t = true) (hval : Value.okWide P w .any base t v) (h : DataW.Trod enc P w 0 spare held t v d ps) (hw : Small P t d) : Arg w s v := by
  obtain ⟨fuel, ht⟩ := h
  obtain ⟨x, hx⟩ := rep_of_trod s t fuel _ _ hf ht hw
  refine ⟨x, _, hx, ?_⟩
  cases s with
  | int k => obtain ⟨n, rfl⟩ := okWide_int (und_int (by simpa [fits] using hf)) hval; simp [Sh.isAgg, Value.cells]
  | bool => obtain ⟨n, rfl⟩ := okWide_bool (und_bool (by simpa [fits] using hf)) hval; simp [Sh.isAgg, Value.cells]
  | str => obtain ⟨n, rfl⟩ := okWide_string (und_str (by simpa [fits] using hf)) hval; simp [Sh.isAgg, Value.cells]
  | slice by_ e =>
    simp only [fits] at hf
    split at hf
    · rename_i u hu
      obtain ⟨a, len, cap, rfl⟩ := okWide_slice (und_slice hu) hval
      simp [Sh.isAgg, Value.cells]
    · cases hf
  | unit =>
    simp only [fits] at hf
    split at hf
    · rename_i hu
      obtain ⟨cs, rfl, _⟩ := okWide_struct (und_fields hu) hval
      simp [Sh.isAgg, Value.cells]
    · cases hf
  | pair a b =>
    simp only [fits] at hf
    split at hf
    · rename_i f fs hu
      obtain ⟨cs, rfl, _⟩ := okWide_struct (und_fields hu) hval
      simp [Sh.isAgg, Value.cells]
    · cases hf
  | arr n e =>
    simp only [fits] at hf
    split at hf
    · rename_i m u hu
      simp only [Value.okWide, und_arr hu] at hval
      obtain ⟨cs, rfl, _⟩ := hval
      simp [Sh.isAgg, Value.cells]
    · cases hf
end

theorem cell_on {w w' : World} (hb : Below w.heap.size w w') {a : Addr} {v : Value} (h : w.cell? a = some v) : w'.cell? a = some v := cell_later hb h
/-- what represented a value represents it in every later world in which nothing that was there has changed -/
theorem Rep.later {w w' : World} (hb : Below w.heap.size w w') : ∀ (s : Sh) (x : s.T) (cs : List Value), Rep w s x cs → Rep w' s x cs
  | .int _, _, _, h => h
  | .bool, _, _, h => h
  | .str, _, _, h => h
  | .unit, _, _, h => h
  | .pair a b, (x, y), cs, ⟨c1, c2, h, h1, h2⟩ => ⟨c1, c2, h, Rep.later hb a x c1 h1, Rep.later hb b y c2 h2⟩
  | .slice _ e, xs, cs, h => by
    rcases h with h | ⟨b, off, cap, sp, hcs, hl, hm, hby, hsp, hi⟩
    · exact .inl h
    · refine .inr ⟨b, off, cap, sp, hcs, hl, hm, hby, fun h1 h2 => ⟨(hsp h1 h2).1, Nat.lt_of_lt_of_le (hsp h1 h2).2 hb.size⟩, fun i hil => ?_⟩
      obtain ⟨cs', hcl, hat, hv⟩ := hi i hil
      refine ⟨cs', hcl, fun j hj => ?_, Rep.later hb e _ _ hv⟩
      have h1 := hat j hj
      rw [List.getElem?_eq_getElem hj] at h1 ⊢
      exact cell_on hb h1
  | .arr n e, xs, cs, h => by
    obtain ⟨h1, h2, h3⟩ := h
    exact ⟨h1, h2, fun i hi => Rep.later hb e _ _ (h3 i hi)⟩
end Go.Proofs.Ytmjkechkdfobgaa.rep
