/- How an argument of a law reads in plain data, where what is read is of bulk at most 1048576: every slice has fewer than 2^20 elements. Written by mkup.py. -/
import Derived.Test.YtiaebagjcbkkgaaRep
import Derived.Test.YtiaebagjcbkkgaaRows
namespace Go.Proofs.Ytiaebagjcbkkgaa.bulks
set_option linter.all false
theorem one_le {H : Type} (d : DataW H) : 1 ≤ Rows.uptoBulk d := by
  cases d with
  | lit l => cases l <;> simp [Rows.uptoBulk]
  | _ => simp [Rows.uptoBulk]
theorem part_le {H : Type} {d : DataW H} {l : List (DataW H)} (h : d ∈ l) : Rows.uptoBulk d ≤ Rows.uptoBulkAll l := by
  induction l with
  | nil => cases h
  | cons x r ih =>
    simp only [Rows.uptoBulkAll]
    cases List.mem_cons.1 h with
    | inl e => subst e; omega
    | inr e => have := ih e; omega
theorem length_le {H : Type} (l : List (DataW H)) : l.length ≤ Rows.uptoBulkAll l := by
  induction l with
  | nil => simp [Rows.uptoBulkAll]
  | cons x r ih => have := one_le x; simp only [Rows.uptoBulkAll, List.length_cons]; omega
theorem slice_le {H : Type} (elems spare : List (DataW H)) : elems.length + spare.length + 1 ≤ Rows.uptoBulk (.slice elems spare) := by
  have h1 := length_le elems
  have h2 := length_le spare
  simp only [Rows.uptoBulk]
  omega
theorem slice_elems {H : Type} (elems spare : List (DataW H)) : Rows.uptoBulkAll elems + 1 ≤ Rows.uptoBulk (.slice elems spare) := by
  simp only [Rows.uptoBulk]
  omega
theorem string_eq {H : Type} (bytes : List UInt8) : Rows.uptoBulk (DataW.lit (H := H) (.string bytes)) = bytes.length + 1 := by
  simp [Rows.uptoBulk]
theorem bound {H : Type} {l : List (DataW H)} (hk : Rows.uptoSmall H l = true) : Rows.uptoBulkAll l ≤ 1048576 := of_decide_eq_true hk
theorem append {H : Type} (l r : List (DataW H)) : Rows.uptoBulkAll (l ++ r) = Rows.uptoBulkAll l + Rows.uptoBulkAll r := by
  induction l with
  | nil => simp [Rows.uptoBulkAll]
  | cons x l ih => simp only [List.cons_append, Rows.uptoBulkAll, ih]; omega
end Go.Proofs.Ytiaebagjcbkkgaa.bulks
namespace Go.Proofs.Ytiaebagjcbkkgaa.rep
set_option linter.all false
open Go.ChangeShapes Go.WideShapes Go.Deep Go.RowKit

mutual
def fitsU (P : Program) : Sh → TypeId → Bool
  | .int k, t => isInt P t k
  | .bool, t => isBool P t
  | .str, t => isStr P t
  | .unit, t => match fieldsOf P t with | some [] => P.cellsOf t == 0 | _ => false
  | .pair a b, t => match fieldsOf P t with | some (f :: fs) => P.cellsOf t == a.size + b.size && f.offset == 0 && P.cellsOf f.type == a.size && fitsU P a f.type && fitsUF P b fs a.size | _ => false
  | .slice by_ e, t => match sliceOf P t with | some u => P.cellsOf u == e.size && by_ == 134217728 && fitsU P e u | _ => false
  | .arr n e, t => match arrOf P t with | some (m, u) => m == n && P.cellsOf t == n * e.size && P.cellsOf u == e.size && fitsU P e u | _ => false
def fitsUF (P : Program) : Sh → List Field → Nat → Bool
  | .unit, [], _ => true
  | .pair a b, f :: fs, o => f.offset == o && P.cellsOf f.type == a.size && fitsU P a f.type && fitsUF P b fs (o + a.size)
  | _, _, _ => false
end


section
variable {H : Type} {enc : TypeId × Value → H} {P : Program} {w : World} {spare : Nat → Bool} {held : Bool}
/-- all that is met is of small bulk -/
def SmallU (d : DataW H) : Prop := Rows.uptoBulk d ≤ 1048576
theorem small_argU {l : List (DataW H)} (hk : Rows.uptoSmall H l = true) {d : DataW H} (h : d ∈ l) : SmallU d := by
  have h1 := bulks.part_le h
  have h2 := bulks.bound hk
  unfold SmallU; omega
theorem slice_repU (by_ : Nat) (e : Sh) (ih : ∀ (t : TypeId) (fuel : Nat) (cs : List Value) (x : DataW H × List MemPlace), fitsU P e t = true → DataW.trod enc P w 0 spare held fuel t cs = some x → SmallU x.1 → ∃ v : e.T, Rep w e v cs)
    (t : TypeId) (fuel : Nat) (cs : List Value) (x : DataW H × List MemPlace) (hf : fitsU P (.slice by_ e) t = true) (h : DataW.trod enc P w 0 spare held fuel t cs = some x) (hw : SmallU x.1) : ∃ v : (Sh.slice by_ e).T, Rep w (.slice by_ e) v cs := by
  simp only [fitsU] at hf
  split at hf
  · rename_i u hu
    simp only [Bool.and_eq_true, beq_iff_eq] at hf
    obtain ⟨⟨hsz, hby⟩, hfe⟩ := hf
    rcases open_slice (und_slice hu) h with ⟨rfl, _⟩ | ⟨a, len, cap, m, n, D, Pl, rfl, _, hl, hm, hmm, hx, hi⟩
    · exact ⟨([] : List e.T), .inl ⟨rfl, rfl⟩⟩
    · have hlm : len ≤ m := by rw [hmm]; split <;> omega
      have hbk : Rows.uptoBulk (DataW.slice ((List.range len).map D) ((List.range (m - len)).map fun j => D (len + j))) ≤ 1048576 := by
        have h0 := hw
        unfold SmallU at h0
        rw [hx] at h0
        exact h0
      have hbl := bulks.slice_le ((List.range len).map D) ((List.range (m - len)).map fun j => D (len + j))
      have hbe := bulks.slice_elems ((List.range len).map D) ((List.range (m - len)).map fun j => D (len + j))
      simp only [List.length_map, List.length_range] at hbl
      have hbytes : len * by_ ≤ 140737488351232 := by
        rw [hby]
        have : len ≤ 1048575 := by omega
        omega
      have hsm : ∀ i, i < len → SmallU (D i) := fun i hi => by
        have := bulks.part_le (List.mem_map.2 ⟨i, List.mem_range.2 hi, rfl⟩ : D i ∈ (List.range len).map D)
        unfold SmallU; omega
      have hi' : ∀ i, i < len → ∃ (v : e.T), ∃ cs' : List Value, cs'.length = e.size ∧ (∀ j, j < e.size → w.cell? ((a.add (i * e.size)).add j) = cs'[j]?) ∧ Rep w e v cs' := by
        intro i hil
        obtain ⟨cs', hc, ht⟩ := hi i (by omega)
        obtain ⟨_, hcl, hat⟩ := World.cells?_some hc
        obtain ⟨v, hv⟩ := ih u n cs' _ hfe ht (hsm i hil)
        rw [hsz] at hcl hat
        exact ⟨v, cs', hcl, hat, hv⟩
      obtain ⟨xs, hxl, hxs⟩ := exists_list len _ hi'
      obtain ⟨b, off, sp⟩ := a
      have hsp : 0 < xs.length → 0 < e.size → sp = none ∧ b < w.heap.size := by
        intro h0 h1
        obtain ⟨cs', hcl, hat, _⟩ := hxs 0 h0
        have h2 := hat 0 h1
        have h3 : cs'[0]? = some (cs'[0]'(by omega)) := List.getElem?_eq_getElem (by omega)
        rw [h3] at h2
        have h4 := World.cell?_spot h2
        simp [Addr.add] at h4
        refine ⟨h4, ?_⟩
        unfold World.cell? at h2
        split at h2
        · rename_i hh
          have := (Array.getElem?_eq_some_iff.1 hh).1
          simpa [Addr.add] using this
        · simp at h2
      refine ⟨xs, .inr ⟨b, off, cap, sp, by rw [hxl], by omega, hm, by rw [hxl]; exact hbytes, hsp, fun i hil => ?_⟩⟩
      obtain ⟨cs', hcl, hat, hv⟩ := hxs i hil
      refine ⟨cs', hcl, fun j hj => ?_, hv⟩
      obtain ⟨hs, _⟩ := hsp (by omega) (by omega)
      subst hs
      rw [← hat j (by omega)]
      congr 1
      simp only [Addr.add]
      split <;> split <;> simp_all <;> omega
  · cases hf

theorem arr_repU (n : Nat) (e : Sh) (ih : ∀ (t : TypeId) (fuel : Nat) (cs : List Value) (x : DataW H × List MemPlace), fitsU P e t = true → DataW.trod enc P w 0 spare held fuel t cs = some x → SmallU x.1 → ∃ v : e.T, Rep w e v cs)
    (t : TypeId) (fuel : Nat) (cs : List Value) (x : DataW H × List MemPlace) (hf : fitsU P (.arr n e) t = true) (h : DataW.trod enc P w 0 spare held fuel t cs = some x) (hw : SmallU x.1) : ∃ v : (Sh.arr n e).T, Rep w (.arr n e) v cs := by
  simp only [fitsU] at hf
  split at hf
  · rename_i m u hu
    simp only [Bool.and_eq_true, beq_iff_eq] at hf
    obtain ⟨⟨⟨rfl, hct⟩, hsz⟩, hfe⟩ := hf
    obtain ⟨xs, k, _, hx, hlen, hxl, hi⟩ := DataW.trod_array (und_arr hu) h
    have hsm : ∀ d ∈ xs.map (·.1), SmallU d := fun d hd => by
      have h1 := bulks.part_le hd
      have h2 : Rows.uptoBulk x.1 ≤ 1048576 := hw
      rw [hx] at h2
      simp only [Rows.uptoBulk] at h2
      unfold SmallU; omega
    have hi' : ∀ i, i < m → ∃ (v : e.T), Rep w e v ((cs.drop (i * e.size)).take e.size) := by
      intro i hil
      have h1 := hi i hil
      rw [List.getElem?_eq_getElem (by omega), hsz] at h1
      exact ih u k _ _ hfe h1 (hsm _ (List.mem_map.2 ⟨_, List.getElem_mem (by omega), rfl⟩))
    obtain ⟨ys, hyl, hys⟩ := exists_list m _ hi'
    exact ⟨ys, hyl, by omega, hys⟩
  · cases hf

/-- the cells of a struct's fields from offset o on -/
theorem fields_repU (P : Program) (b : Sh) : ∀ (rest : List Field) (o : Nat) (cs : List Value) (fuel : Nat),
    (∀ f ∈ rest, ∃ y, DataW.trod enc P w 0 spare held fuel f.type ((cs.drop f.offset).take (P.cellsOf f.type)) = some y ∧ SmallU y.1) → fitsUF P b rest o = true → cs.length = o + b.size →
    (∀ (s : Sh), s.depth < b.depth → ∀ (t : TypeId) (fuel : Nat) (cs : List Value) (x : DataW H × List MemPlace), fitsU P s t = true → DataW.trod enc P w 0 spare held fuel t cs = some x → SmallU x.1 → ∃ v : s.T, Rep w s v cs) →
    ∃ v : b.T, Rep w b v (cs.drop o) := by
  induction b with
  | unit =>
    intro rest o cs fuel _ hf hl _
    cases rest with
    | nil => exact ⟨(), by simp [Sh.size] at hl; simp [Rep, hl]⟩
    | cons f fs => simp [fitsUF] at hf
  | pair a b _ ihb =>
    intro rest o cs fuel hy hf hl ih
    cases rest with
    | nil => simp [fitsUF] at hf
    | cons f fs =>
      simp only [fitsUF, Bool.and_eq_true, beq_iff_eq] at hf
      obtain ⟨⟨⟨ho, hsz⟩, hfa⟩, hfb⟩ := hf
      obtain ⟨y, hy1, hy2⟩ := hy f (by simp)
      obtain ⟨v1, hv1⟩ := ih a (by simp [Sh.depth]; omega) _ _ _ _ hfa hy1 hy2
      obtain ⟨v2, hv2⟩ := ihb fs (o + a.size) cs fuel (fun f hf => hy f (by simp [hf])) hfb (by simp [Sh.size] at hl; omega) (fun s hs => ih s (by simp [Sh.depth]; omega))
      refine ⟨(v1, v2), (cs.drop o).take a.size, cs.drop (o + a.size), ?_, ?_, hv2⟩
      · rw [← List.drop_drop, List.take_append_drop]
      · rw [ho, hsz] at hv1; exact hv1
  | int k => intro rest o cs fuel _ hf; simp [fitsUF] at hf
  | bool => intro rest o cs fuel _ hf; simp [fitsUF] at hf
  | str => intro rest o cs fuel _ hf; simp [fitsUF] at hf
  | slice b e => intro rest o cs fuel _ hf; simp [fitsUF] at hf
  | arr n e => intro rest o cs fuel _ hf; simp [fitsUF] at hf

/-- WHAT CAN BE READ AT A TYPE OF SHAPE s REPRESENTS A VALUE OF s -/
theorem rep_of_trodU : ∀ (s : Sh) (t : TypeId) (fuel : Nat) (cs : List Value) (x : DataW H × List MemPlace), fitsU P s t = true → DataW.trod enc P w 0 spare held fuel t cs = some x → SmallU x.1 → ∃ v : s.T, Rep w s v cs
  | .int k, t, fuel, cs, x, hf, h, hw => by
    obtain ⟨n, h1, _, h3⟩ := DataW.trod_int (und_int (by simpa [fitsU] using hf)) h
    exact ⟨n, h1, h3⟩
  | .bool, t, fuel, cs, x, hf, h, hw => by
    obtain ⟨n, h1, _⟩ := DataW.trod_bool (und_bool (by simpa [fitsU] using hf)) h
    exact ⟨n, h1⟩
  | .str, t, fuel, cs, x, hf, h, hw => by
    obtain ⟨n, h1, h2, h3⟩ := DataW.trod_string (und_str (by simpa [fitsU] using hf)) h
    refine ⟨n, h1, ?_⟩
    have h6 : Rows.uptoBulk x.1 ≤ 1048576 := hw
    rw [h2, bulks.string_eq] at h6
    have h5 : n.data.toList.length = n.size := rfl
    omega
  | .unit, t, fuel, cs, x, hf, h, hw => by
    simp only [fitsU] at hf
    split at hf
    · rename_i hu
      obtain ⟨xs, n, _, _, hl, _⟩ := DataW.trod_struct (und_fields hu) h
      simp at hf
      rw [hf] at hl
      exact ⟨(), by simpa [Rep] using hl⟩
    · cases hf
  | .pair a b, t, fuel, cs, x, hf, h, hw => by
    simp only [fitsU] at hf
    split at hf
    · rename_i f fs hu
      simp only [Bool.and_eq_true, beq_iff_eq] at hf
      obtain ⟨⟨⟨⟨hct, ho⟩, hsz⟩, hfa⟩, hfb⟩ := hf
      obtain ⟨xs, n, _, hx, hl, hxl, hi⟩ := DataW.trod_struct (und_fields hu) h
      have hsm : ∀ d ∈ xs.map (·.1), SmallU d := fun d hd => by
        have h1 := bulks.part_le hd
        have h2 : Rows.uptoBulk x.1 ≤ 1048576 := hw
        rw [hx] at h2
        simp only [Rows.uptoBulk] at h2
        unfold SmallU; omega
      have hy : ∀ g ∈ f :: fs, ∃ y, DataW.trod enc P w 0 spare held n g.type ((cs.drop g.offset).take (P.cellsOf g.type)) = some y ∧ SmallU y.1 := by
        intro g hg
        obtain ⟨i, hi1, hi2⟩ := List.mem_iff_getElem.1 hg
        have h1 := hi i g (by simp only [List.getElem?_toArray]; rw [List.getElem?_eq_getElem hi1, hi2])
        have hxi : i < xs.length := by rw [hxl]; simpa using hi1
        rw [List.getElem?_eq_getElem hxi] at h1
        exact ⟨_, h1, hsm _ (List.mem_map.2 ⟨_, List.getElem_mem hxi, rfl⟩)⟩
      obtain ⟨y, hy1, hy2⟩ := hy f (by simp)
      obtain ⟨v1, hv1⟩ := rep_of_trodU a _ _ _ _ hfa hy1 hy2
      obtain ⟨v2, hv2⟩ := fields_repU P b fs a.size cs n (fun g hg => hy g (by simp [hg])) hfb (by omega) (fun s hs => rep_of_trodU s)
      refine ⟨(v1, v2), cs.take a.size, cs.drop a.size, by rw [List.take_append_drop], ?_, hv2⟩
      rw [ho, hsz] at hv1
      simpa using hv1
    · cases hf
  | .slice by_ e, t, fuel, cs, x, hf, h, hw => slice_repU by_ e (rep_of_trodU e) t fuel cs x hf h hw
  | .arr n e, t, fuel, cs, x, hf, h, hw => arr_repU n e (rep_of_trodU e) t fuel cs x hf h hw
termination_by s => s.depth
decreasing_by all_goals (simp [Sh.depth]; try omega)

theorem arg_ofU {base : Nat} {t : TypeId} {v : Value} {d : DataW H} {ps : List MemPlace} (s : Sh) (hf : fitsU P s t = true) (hval : Value.okWide P w .any base t v) (h : DataW.Trod enc P w 0 spare held t v d ps) (hw : SmallU d) : Arg w s v := by
  obtain ⟨fuel, ht⟩ := h
  obtain ⟨x, hx⟩ := rep_of_trodU s t fuel _ _ hf ht hw
  refine ⟨x, _, hx, ?_⟩
  cases s with
  | int k => obtain ⟨n, rfl⟩ := okWide_int (und_int (by simpa [fitsU] using hf)) hval; simp [Sh.isAgg, Value.cells]
  | bool => obtain ⟨n, rfl⟩ := okWide_bool (und_bool (by simpa [fitsU] using hf)) hval; simp [Sh.isAgg, Value.cells]
  | str => obtain ⟨n, rfl⟩ := okWide_string (und_str (by simpa [fitsU] using hf)) hval; simp [Sh.isAgg, Value.cells]
  | slice by_ e =>
    simp only [fitsU] at hf
    split at hf
    · rename_i u hu
      obtain ⟨a, len, cap, rfl⟩ := okWide_slice (und_slice hu) hval
      simp [Sh.isAgg, Value.cells]
    · cases hf
  | unit =>
    simp only [fitsU] at hf
    split at hf
    · rename_i hu
      obtain ⟨cs, rfl, _⟩ := okWide_struct (und_fields hu) hval
      simp [Sh.isAgg, Value.cells]
    · cases hf
  | pair a b =>
    simp only [fitsU] at hf
    split at hf
    · rename_i f fs hu
      obtain ⟨cs, rfl, _⟩ := okWide_struct (und_fields hu) hval
      simp [Sh.isAgg, Value.cells]
    · cases hf
  | arr n e =>
    simp only [fitsU] at hf
    split at hf
    · rename_i m u hu
      simp only [Value.okWide, und_arr hu] at hval
      obtain ⟨cs, rfl, _⟩ := hval
      simp [Sh.isAgg, Value.cells]
    · cases hf
end

end Go.Proofs.Ytiaebagjcbkkgaa.rep
