/- The private heap: new objects, changed objects, dead ones; renaming. -/
import Derived.Test.YtnkdanobhgofbaaGreatDoorQb
namespace Go.Proofs.YtnkdanobhgofbaaGreatDoor.pv
set_option linter.all false
open Go.RowKit

def upd {α : Type} (f : Nat → α) (k : Nat) (x : α) : Nat → α := fun i => if i = k then x else f i
theorem upd_same {α : Type} (f : Nat → α) (k : Nat) (x : α) : upd f k x k = x := by simp [upd]
theorem upd_ne {α : Type} (f : Nat → α) {k i : Nat} (x : α) (h : i ≠ k) : upd f k x i = f i := by simp [upd, h]
theorem al_set_same {m : List PO} {l : Nat} {o : PO} (h : l < m.length) : al (m.set l o) l = o.made := by simp [al, List.getElem?_set, h]
theorem al_set_ne {m : List PO} {l l' : Nat} {o : PO} (h : l' ≠ l) : al (m.set l o) l' = al m l' := by simp [al, List.getElem?_set, Ne.symm h]
theorem al_set_mono {m : List PO} {l : Nat} {o : PO} (ho : al m l = false ∨ o.made = true) : ∀ l', al m l' = true → al (m.set l o) l' = true := by
  intro l' h
  by_cases e : l' = l
  · subst e
    have ho := ho.resolve_left (by rw [h]; simp)
    have : l' < m.length := by
      unfold al at h
      rcases Nat.lt_or_ge l' m.length with h' | h'
      · exact h'
      · rw [List.getElem?_eq_none h'] at h; cases h
    rw [al_set_same this, ho]
  · rw [al_set_ne e]; exact h
theorem PO.made_of_live {o : PO} (h : o.live = true) (ht : o.tag = Option.none) : o.made = true := by cases o <;> simp_all [PO.live, PO.made, PO.tag]
theorem al_tag {m : List PO} {l g : Nat} {o : PO} (h : m[l]? = some o) (ht : o.tag = some g) : al m l = false := by
  unfold al
  rw [h]
  cases o <;> simp_all [PO.tag, PO.made]

section
variable {n : Nat} {w0 : Cx} {st : PS} {m : List PO} {a : Act} {w : World} {ow : Ow} {hd : Nat → Value}

/-- an object at l, new or changed, in a later world: everything else stays -/
theorem SimH.obj (S : SimH w0 m w ow hd) {l : Nat} {w' : World} {ow' : Ow} {hv : Value} {o : PO} (k : Kp ow w ow' w') (hb : Kt w0 w w')
    (hfr : ∀ b, w'.heap.size ≤ b → ow' b = false) (hc : al m l = false ∨ hv = hd l) (ho : al m l = false ∨ o.made = true) (hob : RO (al (m.set l o)) (upd hd l hv) w0 ow' w' hv o)
    (hkeep : ∀ j oj b, j ≠ l → m[j]? = some oj → oj.live = true → b ∈ blocksOf (hd j) → w'.heap[b]? = w.heap[b]? ∧ ow' b = ow b ∧ (o.live = true → b ∉ blocksOf hv))
    (hph : ∀ (j : Nat) (oj : PO) (g : Nat), j ≠ l → m[j]? = some oj → oj.tag = some g → ow'.phi g = ow.phi g := by intros; rfl) (hta : ∀ g, o.tag = some g → ∃ o', m[l]? = some o' ∧ o'.tag = some g := by intro g e; cases e) :
    SimH w0 (m.set l o) w' ow' (upd hd l hv) ∧ ∀ j, al m j = true → al (m.set l o) j = true ∧ upd hd l hv j = hd j := by
  have ha : ∀ j, al m j = true → al (m.set l o) j = true ∧ upd hd l hv j = hd j := by
    intro j hj
    refine ⟨al_set_mono ho j hj, ?_⟩
    by_cases e : j = l
    · subst e
      rcases hc with hc | hc
      · rw [hc] at hj; cases hj
      · rw [upd_same, hc]
    · rw [upd_ne _ _ e]
  refine ⟨⟨S.below.trans hb, hfr, fun j oj hj => ?_, ?_, S.tags.id fun j oj g hj hg => ?_⟩, ha⟩
  · by_cases e : j = l
    · subst e
      rw [List.getElem?_set] at hj
      simp at hj
      obtain ⟨_, rfl⟩ := hj
      rw [upd_same]; exact hob
    · rw [List.getElem?_set, if_neg (Ne.symm e)] at hj
      rw [upd_ne _ _ e]
      exact (S.objs j oj hj).kp k ha (fun b hbk hl => ⟨(hkeep j oj b e hj hl hbk).1, (hkeep j oj b e hj hl hbk).2.1⟩) fun g hg => hph j oj g e hj hg
  · intro j j' oj oj' b hne hj hj' hl hl' hbj hbj'
    by_cases e : j = l
    · subst e
      have e' : j' ≠ j := Ne.symm hne
      rw [List.getElem?_set, if_neg (Ne.symm e')] at hj'
      rw [List.getElem?_set] at hj
      simp at hj
      obtain ⟨_, rfl⟩ := hj
      rw [upd_same] at hbj
      rw [upd_ne _ _ e'] at hbj'
      exact (hkeep j' oj' b e' hj' hl' hbj').2.2 hl hbj
    · rw [List.getElem?_set, if_neg (Ne.symm e)] at hj
      rw [upd_ne _ _ e] at hbj
      by_cases e' : j' = l
      · subst e'
        rw [List.getElem?_set] at hj'
        simp at hj'
        obtain ⟨_, rfl⟩ := hj'
        rw [upd_same] at hbj'
        exact (hkeep j oj b e hj hl hbj).2.2 hl' hbj'
      · rw [List.getElem?_set, if_neg (Ne.symm e')] at hj'
        rw [upd_ne _ _ e'] at hbj'
        exact S.dist j j' oj oj' b hne hj hj' hl hl' hbj hbj'
  · by_cases e : j = l
    · subst e
      rw [List.getElem?_set] at hj
      simp at hj
      obtain ⟨_, rfl⟩ := hj
      exact hta g hg
    · rw [List.getElem?_set, if_neg (Ne.symm e)] at hj
      exact ⟨oj, hj, hg⟩
theorem SimW.obj (S : SimW n w0 st a w ow hd) {l : Nat} {w' : World} {ow' : Ow} {hv : Value} {o : PO} (k : Kp ow w ow' w') (hb : Kt w0 w w')
    (hfr : ∀ b, w'.heap.size ≤ b → ow' b = false) (hc : al st.m l = false ∨ hv = hd l) (ho : al st.m l = false ∨ o.made = true) (hob : RO (al (st.m.set l o)) (upd hd l hv) w0 ow' w' hv o)
    (hkeep : ∀ j oj b, j ≠ l → st.m[j]? = some oj → oj.live = true → b ∈ blocksOf (hd j) → w'.heap[b]? = w.heap[b]? ∧ ow' b = ow b ∧ (o.live = true → b ∉ blocksOf hv))
    (hph : ∀ (j : Nat) (oj : PO) (g : Nat), j ≠ l → st.m[j]? = some oj → oj.tag = some g → ow'.phi g = ow.phi g := by intros; rfl) (hta : ∀ g, o.tag = some g → ∃ o', st.m[l]? = some o' ∧ o'.tag = some g := by intro g e; cases e) :
    SimW n w0 ⟨st.f, st.m.set l o⟩ a w' ow' (upd hd l hv) := by
  obtain ⟨H, ha⟩ := S.toSimH.obj k hb hfr hc ho hob hkeep hph hta
  exact { H with defers := S.defers, size := S.size, slots := fun i => RF.mono k ha _ _ (S.slots i) }
/-- an object is given up -/
theorem SimH.kill (S : SimH w0 m w ow hd) (l : Nat) : SimH w0 (m.set l .none) w ow hd ∧ ∀ j, al m j = true → al (m.set l .none) j = true ∧ hd j = hd j := by
  have ha : ∀ j, al m j = true → al (m.set l .none) j = true ∧ hd j = hd j := fun j hj => ⟨al_set_mono (.inr rfl) j hj, rfl⟩
  refine ⟨⟨S.below, S.fresh, fun j oj hj => ?_, ?_, S.tags.id fun j oj g hj hg => ?_⟩, ha⟩
  · rw [List.getElem?_set] at hj
    split at hj
    · split at hj
      · cases hj; trivial
      · cases hj
    · exact (S.objs j oj hj).kp (Kp.refl _ _) ha (fun b hbk hl => ⟨rfl, rfl⟩) fun _ _ => rfl
  · intro j j' oj oj' b hne hj hj' hl hl'
    have go : ∀ {i : Nat} {oi : PO}, (m.set l .none)[i]? = some oi → oi.live = true → m[i]? = some oi := by
      intro i oi hi hl
      rw [List.getElem?_set] at hi
      split at hi
      · split at hi
        · cases hi; simp [PO.live] at hl
        · cases hi
      · exact hi
    exact S.dist j j' oj oj' b hne (go hj hl) (go hj' hl') hl hl'
  · rw [List.getElem?_set] at hj
    split at hj
    · split at hj
      · cases hj; cases hg
      · cases hj
    · exact ⟨oj, hj, hg⟩
theorem SimW.kill (S : SimW n w0 st a w ow hd) (l : Nat) : SimW n w0 ⟨st.f, st.m.set l .none⟩ a w ow hd := by
  obtain ⟨H, ha⟩ := S.toSimH.kill l
  exact { H with defers := S.defers, size := S.size, slots := fun i => RF.mono (Kp.refl _ _) ha _ _ (S.slots i) }
theorem kill_live {m : List PO} {l j : Nat} {oj : PO} (h : (m.set l .none)[j]? = some oj) (hl : oj.live = true) : m[j]? = some oj ∧ j ≠ l := by
  rw [List.getElem?_set] at h
  split at h
  · split at h
    · cases h; simp [PO.live] at hl
    · cases h
  · rename_i e; exact ⟨h, Ne.symm e⟩

/-- a new variable -/
theorem SimW.new (S : SimW n w0 st a w ow hd) {l : Nat} (hl : st.m[l]? = some .free) {cs : List FV} {vals : Array Value} {t : TypeId} (h : RFL (al st.m) hd ow w cs vals.toList) :
    ∃ ow' hd', ((ow'.phi = ow.phi ∧ ∀ b, b < w.heap.size → ow' b = ow b) ∧ ∀ j, al st.m j = true → al (st.m.set l (.box cs)) j = true ∧ hd' j = hd j) ∧ SimW n w0 ⟨st.f, st.m.set l (.box cs)⟩ a (w.alloc (.cells vals t)) ow' hd' ∧ RF (al (st.m.set l (.box cs))) hd' ow' (w.alloc (.cells vals t)) (.ref l 0) (.pointer (some ⟨w.heap.size, 0, none⟩)) := by
  have hsz : (w.alloc (.cells vals t)).heap.size = w.heap.size + 1 := by simp
  have hk : Kp ow w (ow.set fun b => if b = w.heap.size then true else ow b) (w.alloc (.cells vals t)) :=
    ⟨by rw [hsz]; omega, fun b hb h => by show (if b = w.heap.size then true else ow b) = false; rw [if_neg (by omega)]; exact h, fun b hb _ => Below.heap_alloc w _ b hb⟩
  have hal : al st.m l = false := by simp [al, hl, PO.made]
  have hlt : l < st.m.length := (List.getElem?_eq_some_iff.1 hl).1
  have ha : ∀ j, al st.m j = true → al (st.m.set l (.box cs)) j = true ∧ upd hd l (.pointer (some ⟨w.heap.size, 0, none⟩)) j = hd j := by
    intro j hj
    refine ⟨al_set_mono (.inr rfl) j hj, ?_⟩
    rw [upd_ne]
    intro e; rw [e, hal] at hj; cases hj
  have S' := S.obj (l := l) (hv := .pointer (some ⟨w.heap.size, 0, none⟩)) (o := .box cs) hk (Kt.of_below ((Below.refl _ _).alloc S.below.size _) (Nat.le_refl _))
    (fun b hb => by rw [hsz] at hb; show (if b = w.heap.size then true else ow b) = false; rw [if_neg (by omega)]; exact S.fresh b (by omega)) (.inl hal) (.inr rfl)
    ⟨w.heap.size, vals, t, rfl, .inl S.below.size, by simp, heap_alloc_new w _, RFL.mono hk ha _ _ h⟩
    (fun j oj b e hj hl hbk => by
      have := ((S.objs j oj hj).lt hl b hbk).1
      refine ⟨Below.heap_alloc w _ b this, if_neg (by omega), fun _ he => ?_⟩
      simp [blocksOf, blockOf] at he
      omega)
  refine ⟨ow.set fun b => if b = w.heap.size then true else ow b, _, ⟨⟨rfl, ?_⟩, ha⟩, S', ?_⟩
  · intro b hb
    show (if b = w.heap.size then true else ow b) = ow b
    rw [if_neg (by omega)]
  · simp only [RF]
    exact ⟨by rw [al_set_same hlt]; rfl, w.heap.size, by rw [upd_same], rfl⟩
/-- an object's block changed, its handle not -/
theorem SimW.set (S : SimW n w0 st a w ow hd) {l b : Nat} {o o' : PO} {w' : World} (hm : st.m[l]? = some o) (hlive : o.live = true) (hlive' : o'.live = true) (hk : b ∈ blocksOf (hd l))
    (ho : ∀ j, j ≠ b → w'.heap[j]? = w.heap[j]?) (hsz : w'.heap.size = w.heap.size) (hbl : Kt w0 w w')
    (hn : RO (al (st.m.set l o')) hd w0 ow w' (hd l) o') (hta : ∀ g, o'.tag = some g → o.tag = some g := by intro g e; cases e) : SimW n w0 ⟨st.f, st.m.set l o'⟩ a w' ow hd := by
  have hpr := ((S.objs l o hm).lt hlive b hk).2.2
  have hkp : Kp ow w ow w' := ⟨by omega, fun _ _ h => h, fun j _ hj => ho j (fun e => by rw [e, hpr] at hj; cases hj)⟩
  have e : upd hd l (hd l) = hd := by funext j; by_cases e : j = l <;> simp [upd, e]
  have := S.obj (l := l) (hv := hd l) (o := o') hkp hbl (fun j hj => S.fresh j (by omega)) (.inr rfl) (by
      cases ht : o'.tag with
      | none => exact .inr (PO.made_of_live hlive' ht)
      | some g => exact .inl (al_tag hm (hta g ht))) (by rw [e]; exact hn)
    (fun j oj b' hne hj hl hb' => ⟨ho b' (fun eb => by subst eb; exact S.dist j l oj o b' hne hj hm hl hlive hb' hk), rfl, fun _ eb => S.dist j l oj o b' hne hj hm hl hlive hb' eb⟩) (by intros; rfl) (fun g hg => ⟨o, hm, hta g hg⟩)
  rw [e] at this
  exact this
/-- room for new objects -/
theorem al_app {m t : List PO} (h : ∀ o ∈ t, o = PO.free) (l : Nat) : al (m ++ t) l = al m l := by
  unfold al
  rw [List.getElem?_append]
  by_cases hlt : l < m.length
  · rw [if_pos hlt]
  · rw [if_neg hlt, List.getElem?_eq_none (l := m) (by omega)]
    cases hx : t[l - m.length]? with
    | none => rfl
    | some o => rw [h o (List.mem_of_getElem? hx)]; rfl
theorem SimW.room (S : SimW n w0 st a w ow hd) (k : Nat) : SimW n w0 ⟨st.f, st.m ++ List.replicate k .free⟩ a w ow hd := by
  have hf : ∀ o ∈ List.replicate k PO.free, o = PO.free := fun o ho => (List.mem_replicate.1 ho).2
  have ha : ∀ j, al st.m j = true → al (st.m ++ List.replicate k .free) j = true ∧ hd j = hd j := fun j hj => ⟨by rw [al_app hf]; exact hj, rfl⟩
  have back : ∀ {j : Nat} {oj : PO}, (st.m ++ List.replicate k PO.free)[j]? = some oj → st.m[j]? = some oj ∨ oj = .free := by
    intro j oj hj
    rw [List.getElem?_append] at hj
    split at hj
    · exact .inl hj
    · exact .inr (hf _ (List.mem_of_getElem? hj))
  refine { below := S.below, fresh := S.fresh, objs := fun j oj hj => ?_, dist := ?_, tags := S.tags.id fun j oj g hj hg => ?_, defers := S.defers, size := S.size, slots := fun i => RF.mono (Kp.refl _ _) ha _ _ (S.slots i) }
  · rcases back hj with hj | rfl
    · exact (S.objs j oj hj).kp (Kp.refl _ _) ha (fun b _ _ => ⟨rfl, rfl⟩) fun _ _ => rfl
    · trivial
  · intro j j' oj oj' b hne hj hj' hl hl'
    rcases back hj with hj | rfl
    · rcases back hj' with hj' | rfl
      · exact S.dist j j' oj oj' b hne hj hj' hl hl'
      · simp [PO.live] at hl'
    · simp [PO.live] at hl
  · rcases back hj with hj | rfl
    · exact ⟨oj, hj, hg⟩
    · cases hg
end

/-- other names for the objects: the object σ[j] is j now; a reference to one that is not among them is dead -/
def idx (l : Nat) : List Nat → Option Nat
  | [] => none
  | x :: r => bif Nat.beq x l then some 0 else (idx l r).map (· + 1)
theorem idx_get {l : Nat} : ∀ {s : List Nat} {j : Nat}, idx l s = some j → s[j]? = some l
  | [], j, h => by simp [idx] at h
  | x :: r, j, h => by
    simp only [idx] at h
    cases hx : Nat.beq x l with
    | true => rw [hx] at h; simp at h; subst h; simp [Nat.eq_of_beq_eq_true hx]
    | false =>
      rw [hx] at h
      simp at h
      obtain ⟨i, h1, rfl⟩ := h
      simpa using idx_get h1
mutual
def ren (s : List Nat) : FV → FV
  | .d x => .d x
  | .agg cs => .agg (renL s cs)
  | .tup cs => .tup (renL s cs)
  | .ref l off => match idx l s with | some j => .ref j off | none => .dead
  | .ept l sz i off => match idx l s with | some j => .ept j sz i off | none => .dead
  | .asl l off k c sz ag => match idx l s with | some j => .asl j off k c sz ag | none => .dead
  | .ssl l i j sz => match idx l s with | some p => .ssl p i j sz | none => .dead
  | .srf l => match idx l s with | some j => .srf j | none => .dead
  | .clo f cs => .clo f (renL s cs)
  | .ifc t x => .ifc t (ren s x)
  | .dead => .dead
def renL (s : List Nat) : List FV → List FV
  | [] => []
  | x :: xs => ren s x :: renL s xs
end
def renO (s : List Nat) : PO → PO
  | .box cs => .box (renL s cs)
  | .gh k x => .gh k (ren s x)
  | .cu q fs => .cu q (renL s fs)
  | o => o
def renM (m : List PO) (s : List Nat) : List Nat → List PO
  | [] => []
  | l :: r => renO s (m.getD l .free) :: renM m s r
theorem renM_get (m : List PO) (s : List Nat) : ∀ (r : List Nat) (j : Nat) (o : PO), (renM m s r)[j]? = some o → ∃ l, r[j]? = some l ∧ o = renO s (m.getD l .free)
  | [], j, o, h => by simp [renM] at h
  | l :: r, j, o, h => by
    cases j with
    | zero => simp [renM] at h; exact ⟨l, rfl, h.symm⟩
    | succ j => simp [renM] at h; simpa using renM_get m s r j o h
theorem renM_at (m : List PO) (s : List Nat) : ∀ (r : List Nat) (j l : Nat), r[j]? = some l → (renM m s r)[j]? = some (renO s (m.getD l .free))
  | [], j, l, h => by simp at h
  | x :: r, j, l, h => by
    cases j with
    | zero => simp at h; subst h; simp [renM]
    | succ j => simp at h; simpa [renM] using renM_at m s r j l h
theorem renL_get (s : List Nat) : ∀ (xs : List FV) (i : Nat), (renL s xs)[i]? = (xs[i]?).map (ren s)
  | [], i => by simp [renL]
  | x :: xs, i => by
    cases i with
    | zero => simp [renL]
    | succ i => simpa [renL] using renL_get s xs i
theorem renO_made (s : List Nat) (o : PO) : (renO s o).made = o.made := by cases o <;> rfl
theorem renO_live (s : List Nat) (o : PO) : (renO s o).live = o.live := by cases o <;> rfl
section
variable {m : List PO} {s : List Nat} {hd : Nat → Value} {ow : Ow} {w : World}
def hren (hd : Nat → Value) (s : List Nat) : Nat → Value := fun j => hd (s.getD j 0)
theorem ren_al {l j : Nat} (h : idx l s = some j) (ha : al m l = true) : al (renM m s s) j = true ∧ hren hd s j = hd l := by
  have hj := idx_get h
  unfold al
  rw [renM_at m s s j l hj]
  simp only [renO_made]
  refine ⟨?_, by simp [hren, List.getD_eq_getElem?_getD, hj]⟩
  unfold al at ha
  rw [List.getD_eq_getElem?_getD]
  cases hm : m[l]? with
  | none => simp [hm] at ha
  | some o => simpa [hm] using ha
mutual
theorem RF.ren : ∀ (x : FV) (u : Value), RF (al m) hd ow w x u → RF (al (renM m s s)) (hren hd s) ow w (pv.ren s x) u
  | .d x, u, h => by simpa only [pv.ren, RF] using h
  | .agg cs, u, h => by
    simp only [pv.ren, RF] at h ⊢
    obtain ⟨vs, e, h⟩ := h
    exact ⟨vs, e, RFL.ren cs vs h⟩
  | .tup cs, u, h => by
    simp only [pv.ren, RF] at h ⊢
    obtain ⟨vs, e, h⟩ := h
    exact ⟨vs, e, RFT.ren cs vs h⟩
  | .ref l off, u, h => by
    simp only [pv.ren]
    cases hx : idx l s with
    | none => simp only [RF]
    | some j =>
      simp only [RF] at h ⊢
      obtain ⟨h1, h2⟩ := h
      have := ren_al (hd := hd) hx h1
      rw [this.2]; exact ⟨this.1, h2⟩
  | .ept l sz i off, u, h => by
    simp only [pv.ren]
    cases hx : idx l s with
    | none => simp only [RF]
    | some j =>
      simp only [RF] at h ⊢
      obtain ⟨h1, h2⟩ := h
      have := ren_al (hd := hd) hx h1
      rw [this.2]; exact ⟨this.1, h2⟩
  | .asl l off k' c sz ag, u, h => by
    simp only [pv.ren]
    cases hx : idx l s with
    | none => simp only [RF]
    | some j =>
      simp only [RF] at h ⊢
      obtain ⟨h1, h2⟩ := h
      have := ren_al (hd := hd) hx h1
      rw [this.2]; exact ⟨this.1, h2⟩
  | .ssl l i' j' sz, u, h => by
    simp only [pv.ren]
    cases hx : idx l s with
    | none => simp only [RF]
    | some j =>
      simp only [RF] at h ⊢
      obtain ⟨h1, h2⟩ := h
      have := ren_al (hd := hd) hx h1
      rw [this.2]; exact ⟨this.1, h2⟩
  | .srf l, u, h => by
    simp only [pv.ren]
    cases hx : idx l s with
    | none => simp only [RF]
    | some j =>
      simp only [RF] at h ⊢
      obtain ⟨h1, h2⟩ := h
      have := ren_al (hd := hd) hx h1
      rw [this.2]; exact ⟨this.1, h2⟩
  | .clo f cs, u, h => by
    simp only [pv.ren, RF] at h ⊢
    obtain ⟨vs, e, h⟩ := h
    exact ⟨vs, e, RFL.ren cs vs h⟩
  | .ifc t x, u, h => by
    simp only [pv.ren, RF] at h ⊢
    obtain ⟨v, e, h⟩ := h
    exact ⟨v, e, RF.ren x v h⟩
  | .dead, u, h => by simp only [pv.ren, RF]
theorem RFL.ren : ∀ (xs : List FV) (us : List Value), RFL (al m) hd ow w xs us → RFL (al (renM m s s)) (hren hd s) ow w (renL s xs) us
  | [], _, h => by simpa only [renL, RFL] using h
  | x :: xs, us, h => by
    simp only [renL, RFL] at h ⊢
    obtain ⟨v, r, e, h1, h2, h3⟩ := h
    exact ⟨v, r, e, RF.ren x v h1, h2, RFL.ren xs r h3⟩
theorem RFT.ren : ∀ (xs : List FV) (us : List Value), RFT (al m) hd ow w xs us → RFT (al (renM m s s)) (hren hd s) ow w (renL s xs) us
  | [], _, h => by simpa only [renL, RFT] using h
  | x :: xs, us, h => by
    simp only [renL, RFT] at h ⊢
    obtain ⟨v, r, e, h1, h3⟩ := h
    exact ⟨v, r, e, RF.ren x v h1, RFT.ren xs r h3⟩
end
def nodup : List Nat → Bool
  | [] => true
  | x :: r => !(r.any (Nat.beq x)) && nodup r
theorem nodup_get : ∀ {s : List Nat}, nodup s = true → ∀ (i j l : Nat), s[i]? = some l → s[j]? = some l → i = j
  | [], _, i, j, l, h, _ => by simp at h
  | x :: r, hn, i, j, l, hi, hj => by
    simp only [nodup, Bool.and_eq_true, Bool.not_eq_true'] at hn
    have hx : ∀ k : Nat, r[k]? = some x → False := by
      intro k hk
      have := List.any_eq_false.1 hn.1 x (List.mem_of_getElem? hk)
      simp at this
    cases i with
    | zero =>
      simp at hi; subst hi
      cases j with
      | zero => rfl
      | succ j => simp at hj; exact (hx j hj).elim
    | succ i =>
      simp at hi
      cases j with
      | zero => simp at hj; subst hj; exact (hx i hi).elim
      | succ j => simp at hj; rw [nodup_get hn.2 i j l hi hj]
end
/-- forget: only some slots, only some objects, renamed -/
def keepF (s ks : List Nat) : Nat → List FV → List FV
  | _, [] => []
  | i, x :: xs => (bif ks.any (Nat.beq i) then ren s x else .dead) :: keepF s ks (i + 1) xs
theorem keepF_get (s ks : List Nat) : ∀ (xs : List FV) (k i : Nat), (keepF s ks k xs)[i]? = (xs[i]?).map fun x => bif ks.any (Nat.beq (k + i)) then ren s x else .dead
  | [], k, i => by simp [keepF]
  | x :: xs, k, i => by
    cases i with
    | zero => simp [keepF]
    | succ i =>
      simp only [keepF, List.getElem?_cons_succ]
      rw [keepF_get s ks xs (k + 1) i]
      congr 2
      funext x
      rw [show k + 1 + i = k + (i + 1) by omega]
def PS.keep (st : PS) (s ks : List Nat) : PS := ⟨keepF s ks 0 st.f, renM st.m s s⟩
theorem SimH.keep {w0 : Cx} {m : List PO} {w : World} {ow : Ow} {hd : Nat → Value} {s : List Nat} (S : SimH w0 m w ow hd) (hs : nodup s = true) : SimH w0 (renM m s s) w ow (hren hd s) := by
  refine ⟨S.below, S.fresh, fun j o hj => ?_, ?_, S.tags.of (fun j => s.getD j 0) (fun j o g hj hg => ?_) fun j j' o o' g hj hj' hg hg' he => ?_⟩
  · obtain ⟨l, hl, rfl⟩ := renM_get _ _ _ _ _ hj
    have e : hren hd s j = hd l := by simp [hren, List.getD_eq_getElem?_getD, hl]
    rw [e]
    cases hm : m[l]? with
    | none => rw [List.getD_eq_getElem?_getD, hm]; trivial
    | some o =>
      have ho := S.objs l o hm
      rw [List.getD_eq_getElem?_getD, hm, Option.getD_some]
      cases o with
      | free => trivial
      | none => trivial
      | box cs =>
        obtain ⟨b, vals, t, h1, h2, h3, h4, h5⟩ := ho
        exact ⟨b, vals, t, h1, h2, h3, h4, RFL.ren _ _ h5⟩
      | gh k x => exact RF.ren _ _ ho
      | cu q fs =>
        obtain ⟨h1, vs, h2, h3⟩ := ho
        exact ⟨h1, vs, RFL.ren _ _ h2, h3⟩
      | row ty sz xs => exact ho
  · intro j j' o o' b hne hj hj' hlv hlv' hb hb'
    obtain ⟨l, hl, rfl⟩ := renM_get _ _ _ _ _ hj
    obtain ⟨l', hl', rfl⟩ := renM_get _ _ _ _ _ hj'
    have e : hren hd s j = hd l := by simp [hren, List.getD_eq_getElem?_getD, hl]
    have e' : hren hd s j' = hd l' := by simp [hren, List.getD_eq_getElem?_getD, hl']
    rw [e] at hb
    rw [e'] at hb'
    rw [renO_live, List.getD_eq_getElem?_getD] at hlv hlv'
    cases hm : m[l]? with
    | none => simp [hm, PO.live] at hlv
    | some o =>
      cases hm' : m[l']? with
      | none => simp [hm', PO.live] at hlv'
      | some o' =>
        simp only [hm, hm', Option.getD_some] at hlv hlv'
        refine S.dist l l' o o' b (fun e => ?_) hm hm' hlv hlv' hb hb'
        subst e
        exact hne (nodup_get hs j j' l hl hl')
  · obtain ⟨l, hl, rfl⟩ := renM_get _ _ _ _ _ hj
    have e : s.getD j 0 = l := by rw [List.getD_eq_getElem?_getD, hl]; rfl
    show ∃ o', m[s.getD j 0]? = some o' ∧ _
    rw [e]
    rw [List.getD_eq_getElem?_getD] at hg
    cases hm : m[l]? with
    | none => rw [hm] at hg; cases hg
    | some o => rw [hm] at hg; exact ⟨o, rfl, by cases o <;> first | exact hg | cases hg⟩
  · obtain ⟨l, hl, rfl⟩ := renM_get _ _ _ _ _ hj
    obtain ⟨l', hl', rfl⟩ := renM_get _ _ _ _ _ hj'
    have he : s.getD j 0 = s.getD j' 0 := he
    rw [List.getD_eq_getElem?_getD, List.getD_eq_getElem?_getD, hl, hl'] at he
    simp only [Option.getD_some] at he
    subst he
    exact nodup_get hs _ _ _ hl hl'
theorem Sim.keep {n : Nat} {w0 : Cx} {st : PS} {a : Act} {w : World} (S : Sim n w0 st a w) (s ks : List Nat) (hs : nodup s = true) : Sim n w0 (st.keep s ks) a w := by
  obtain ⟨ow, hd, h0, S⟩ := S
  refine ⟨ow, hren hd s, h0, { S.toSimH.keep hs with defers := S.defers, size := S.size, slots := fun i => ?_ }⟩
  show RF _ _ _ _ ((keepF s ks 0 st.f).getD i .dead) _
  rw [List.getD_eq_getElem?_getD, keepF_get]
  have hsl := S.slots i
  rw [List.getD_eq_getElem?_getD] at hsl
  cases hf : st.f[i]? with
  | none => simp only [Option.map_none, Option.getD_none, RF]
  | some x =>
    simp only [Option.map_some, Option.getD_some]
    rw [hf] at hsl
    cases hk : ks.any (Nat.beq (0 + i)) with
    | true => simp only [cond_true]; exact RF.ren _ _ hsl
    | false => simp only [cond_false, RF]
mutual
/-- a row given up for good: what was a reference to it is a slice at rest -/
def sfz (l : Nat) (xs : List PV) : FV → FV
  | .agg cs => .agg (sfzL l xs cs)
  | .tup cs => .tup (sfzL l xs cs)
  | .srf j => bif Nat.beq j l then .d (.sl xs) else .srf j
  | .clo f cs => .clo f (sfzL l xs cs)
  | .ifc t x => .ifc t (sfz l xs x)
  | x => x
def sfzL (l : Nat) (xs : List PV) : List FV → List FV
  | [] => []
  | x :: r => sfz l xs x :: sfzL l xs r
end
def sfzO (l : Nat) (xs : List PV) : PO → PO
  | .box cs => .box (sfzL l xs cs)
  | .cu q cs => .cu q (sfzL l xs cs)
  | o => o
theorem sfzL_get (l : Nat) (zs : List PV) : ∀ (xs : List FV) (i : Nat), (sfzL l zs xs)[i]? = (xs[i]?).map (sfz l zs)
  | [], i => by simp [sfzL]
  | x :: xs, i => by
    cases i with
    | zero => simp [sfzL]
    | succ i => simpa [sfzL] using sfzL_get l zs xs i
theorem sfzL_length (l : Nat) (zs : List PV) : ∀ (xs : List FV), (sfzL l zs xs).length = xs.length
  | [] => rfl
  | x :: xs => by simp [sfzL, sfzL_length l zs xs]
section
variable {A : Nat → Bool} {hd : Nat → Value} {ow : Ow} {w : World} {l : Nat} {xs : List PV}
mutual
theorem RF.sfz (h : R ow w (.sl xs) (hd l)) : ∀ (x : FV) (u : Value), RF A hd ow w x u → RF A hd ow w (pv.sfz l xs x) u
  | .d x, u, hr => by simpa only [pv.sfz] using hr
  | .agg cs, u, hr => by
    simp only [pv.sfz, RF] at hr ⊢
    obtain ⟨vs, e, hr⟩ := hr
    exact ⟨vs, e, RFL.sfz h cs vs hr⟩
  | .tup cs, u, hr => by
    simp only [pv.sfz, RF] at hr ⊢
    obtain ⟨vs, e, hr⟩ := hr
    exact ⟨vs, e, RFT.sfz h cs vs hr⟩
  | .ref _ _, u, hr => by simpa only [pv.sfz] using hr
  | .ept _ _ _ _, u, hr => by simpa only [pv.sfz] using hr
  | .asl _ _ _ _ _ _, u, hr => by simpa only [pv.sfz] using hr
  | .ssl _ _ _ _, u, hr => by simpa only [pv.sfz] using hr
  | .srf j, u, hr => by
    simp only [pv.sfz]
    cases hb : Nat.beq j l with
    | false => exact hr
    | true =>
      have e := Nat.eq_of_beq_eq_true hb
      subst e
      simp only [cond_true, RF] at hr ⊢
      rw [hr.2.1]; exact h
  | .clo f cs, u, hr => by
    simp only [pv.sfz, RF] at hr ⊢
    obtain ⟨vs, e, hr⟩ := hr
    exact ⟨vs, e, RFL.sfz h cs vs hr⟩
  | .ifc t x, u, hr => by
    simp only [pv.sfz, RF] at hr ⊢
    obtain ⟨v, e, hr⟩ := hr
    exact ⟨v, e, RF.sfz h x v hr⟩
  | .dead, u, hr => by simpa only [pv.sfz] using hr
theorem RFL.sfz (h : R ow w (.sl xs) (hd l)) : ∀ (ys : List FV) (us : List Value), RFL A hd ow w ys us → RFL A hd ow w (sfzL l xs ys) us
  | [], us, hr => by simpa only [sfzL] using hr
  | y :: ys, us, hr => by
    simp only [sfzL, RFL] at hr ⊢
    obtain ⟨v, r, e, h1, h2, h3⟩ := hr
    exact ⟨v, r, e, RF.sfz h y v h1, h2, RFL.sfz h ys r h3⟩
theorem RFT.sfz (h : R ow w (.sl xs) (hd l)) : ∀ (ys : List FV) (us : List Value), RFT A hd ow w ys us → RFT A hd ow w (sfzL l xs ys) us
  | [], us, hr => by simpa only [sfzL] using hr
  | y :: ys, us, hr => by
    simp only [sfzL, RFT] at hr ⊢
    obtain ⟨v, r, e, h1, h3⟩ := hr
    exact ⟨v, r, e, RF.sfz h y v h1, RFT.sfz h ys r h3⟩
end
end
def sfzS (st : PS) (l : Nat) : Option PS := match st.m[l]? with
  | some (.row _ _ xs) => some ⟨sfzL l xs st.f, (st.m.map (sfzO l xs)).set l .none⟩
  | _ => none
theorem al_sfz {m : List PO} {l : Nat} {xs : List PV} (j : Nat) (h : al m j = true) : al ((m.map (sfzO l xs)).set l .none) j = true := by
  have h1 : al (m.map (sfzO l xs)) j = true := by
    unfold al at h ⊢
    rw [List.getElem?_map]
    cases hq : m[j]? with
    | none => simp [hq] at h
    | some o => rw [hq] at h; cases o <;> simpa [sfzO, PO.made] using h
  exact al_set_mono (.inr rfl) j h1
theorem Sim.sfz {n : Nat} {w0 : Cx} {st st' : PS} {a : Act} {w : World} {l : Nat} (S : Sim n w0 st a w) (h : sfzS st l = some st') : Sim n w0 st' a w := by
  unfold sfzS at h
  split at h
  · rename_i ty sz xs hm
    simp at h; subst h
    obtain ⟨ow, hd, hold, S⟩ := S
    have hlt := (S.objs l _ hm).lt rfl
    let ow' : Ow := ow.set fun b => if b ∈ blocksOf (hd l) then false else ow b
    haveI hph : Ph ow ow' := Ph.set _ _
    have hk : Kp ow w ow' w := by
      refine ⟨Nat.le_refl _, fun b _ hb => ?_, fun _ _ _ => rfl⟩
      show (if b ∈ blocksOf (hd l) then false else ow b) = false
      split
      · rfl
      · exact hb
    have hfz : R ow' w (.sl xs) (hd l) := by
      obtain ⟨cells, ⟨h1, h1'⟩, h2, h3⟩ := S.objs l _ hm
      simp only [R]
      rcases h1' with ⟨e2, e3⟩ | ⟨gb, cap, cur, e2, e3, e4, e5, e6, e7, e8⟩
      · rw [e2]; exact ⟨none, 0, by rw [e3], by omega, by simp [maxLen], .inl (List.eq_nil_of_length_eq_zero e3)⟩
      · refine ⟨some ⟨gb, 0, none⟩, cap, e2, e5, e6, .inr ⟨gb, 0, sz, cells, rfl, (Array.getElem?_eq_some_iff.1 e4).1, ?_, fun j v hv => ?_, RE.mono hk _ _ _ h3⟩⟩
        · show (if gb ∈ blocksOf (hd l) then false else ow gb) = false
          rw [if_pos (by rw [e2]; first | rfl | simp [blocksOf, blockOf])]
        · rw [← e8, List.getElem?_take] at hv
          split at hv
          · unfold World.cell?
            simp only [e4]
            simpa using hv
          · cases hv
    have ha : ∀ j, al st.m j = true → al ((st.m.map (sfzO l xs)).set l .none) j = true ∧ hd j = hd j := fun j hj => ⟨al_sfz j hj, rfl⟩
    have back : ∀ {j : Nat} {o : PO}, ((st.m.map (sfzO l xs)).set l .none)[j]? = some o → (j = l ∧ o = .none) ∨ (j ≠ l ∧ ∃ o', st.m[j]? = some o' ∧ o = sfzO l xs o') := by
      intro j o hj
      rw [List.getElem?_set] at hj
      split at hj
      · rename_i e; subst e
        split at hj
        · simp at hj; exact .inl ⟨rfl, hj.symm⟩
        · cases hj
      · rename_i e
        rw [List.getElem?_map] at hj
        cases hq : st.m[j]? with
        | none => simp [hq] at hj
        | some o' => simp [hq] at hj; exact .inr ⟨Ne.symm e, o', rfl, hj.symm⟩
    have hlv : ∀ o : PO, (sfzO l xs o).live = o.live := by intro o; cases o <;> rfl
    refine ⟨ow', hd, hold.step fun b hb hn => ?_, { below := S.below, fresh := fun b hb => ?_, objs := fun j o hj => ?_, dist := ?_, tags := S.tags.id fun j o g hj hg => ?_, defers := S.defers, size := S.size, slots := fun i => ?_ }⟩
    · show (if b ∈ blocksOf (hd l) then false else ow b) = ow b
      rw [if_neg]
      · intro e
        rcases (hlt b e).2.1 with h' | h'
        · omega
        · rw [h'] at hn; cases hn
    · show (if b ∈ blocksOf (hd l) then false else ow b) = false
      split
      · rfl
      · exact S.fresh b hb
    · rcases back hj with ⟨rfl, rfl⟩ | ⟨hne, o', ho', rfl⟩
      · trivial
      · have ho := (S.objs j o' ho').kp hk ha (fun b hb hl => ⟨rfl, by
          show (if b ∈ blocksOf (hd l) then false else ow b) = ow b
          rw [if_neg]
          exact S.dist j l o' _ b hne ho' hm hl rfl hb⟩) fun _ _ => rfl
        cases o' with
        | box cs =>
          obtain ⟨b, vals, t, g1, g2, g3, g4, g5⟩ := ho
          exact ⟨b, vals, t, g1, g2, g3, g4, RFL.sfz hfz _ _ g5⟩
        | row ty sz xs => exact ho
        | gh k x => exact ho
        | cu q fs =>
          obtain ⟨h1, vs, h2, h3⟩ := ho
          exact ⟨h1, vs, RFL.sfz hfz _ _ h2, h3⟩
        | free => trivial
        | none => trivial
    · intro j j' o o' b hne hj hj' hl hl' hb hb'
      rcases back hj with ⟨rfl, rfl⟩ | ⟨_, p, hp, rfl⟩
      · simp [PO.live] at hl
      · rcases back hj' with ⟨rfl, rfl⟩ | ⟨_, p', hp', rfl⟩
        · simp [PO.live] at hl'
        · exact S.dist j j' p p' b hne hp hp' (by rw [← hlv]; exact hl) (by rw [← hlv]; exact hl') hb hb'
    · rcases back hj with ⟨rfl, rfl⟩ | ⟨_, p, hp, rfl⟩
      · cases hg
      · exact ⟨p, hp, by cases p <;> first | exact hg | cases hg⟩
    · show RF _ _ _ _ ((sfzL l xs st.f).getD i .dead) _
      rw [List.getD_eq_getElem?_getD, sfzL_get]
      have hsl := RF.mono hk ha _ _ (S.slots i)
      rw [List.getD_eq_getElem?_getD] at hsl
      cases hf : st.f[i]? with
      | none => simp only [Option.map_none, Option.getD_none, RF]
      | some x =>
        simp only [Option.map_some, Option.getD_some]
        rw [hf] at hsl
        exact RF.sfz hfz _ _ hsl
  · cases h
/-- a nil slice in a cell as an empty row of one's own -/
def thawB (st : PS) (l off e s : Nat) : Option PS := match st.m[l]? with
  | some (.box cs) => (match cs[off]? with
    | some (.d (.v (.slice none 0 0))) => some ⟨st.f, st.m.set l (.box (cs.set off (.srf st.m.length))) ++ [.row e s []]⟩
    | _ => none)
  | _ => none
theorem Sim.thawB {n : Nat} {w0 : Cx} {st st' : PS} {a : Act} {w : World} {l off e s : Nat} (S : Sim n w0 st a w) (h : pv.thawB st l off e s = some st') : Sim n w0 st' a w := by
  unfold pv.thawB at h
  split at h
  · rename_i cs hm
    split at h
    · rename_i hc
      simp at h; subst h
      obtain ⟨ow, hd, hold, S⟩ := S
      have hl : l < st.m.length := (List.getElem?_eq_some_iff.1 hm).1
      have hlen : (st.m.set l (.box (cs.set off (.srf st.m.length)))).length = st.m.length := by simp
      let m1 := st.m.set l (.box (cs.set off (.srf st.m.length)))
      let m' := m1 ++ [PO.row e s []]
      let hd' := upd hd st.m.length (.slice none 0 0)
      have halL : al m' st.m.length = true := by
        show al (m1 ++ [PO.row e s []]) st.m.length = true
        unfold al
        rw [List.getElem?_append_right (by rw [hlen]; exact Nat.le_refl _), hlen]
        simp [PO.made]
      have ha : ∀ j, al st.m j = true → al m' j = true ∧ hd' j = hd j := by
        intro j hj
        have hlt : j < st.m.length := by
          unfold al at hj
          rcases Nat.lt_or_ge j st.m.length with h' | h'
          · exact h'
          · rw [List.getElem?_eq_none h'] at hj; cases hj
        refine ⟨?_, upd_ne _ _ (by omega)⟩
        have h1 : al m1 j = true := al_set_mono (.inr rfl) j hj
        show al (m1 ++ [PO.row e s []]) j = true
        unfold al at h1 ⊢
        rw [List.getElem?_append_left (by rw [hlen]; exact hlt)]; exact h1
      have back : ∀ {j : Nat} {oj : PO}, m'[j]? = some oj → (j = l ∧ oj = .box (cs.set off (.srf st.m.length))) ∨ (j ≠ l ∧ j < st.m.length ∧ st.m[j]? = some oj) ∨ (j = st.m.length ∧ oj = .row e s []) := by
        intro j oj hj
        have hj2 : (m1 ++ [PO.row e s []])[j]? = some oj := hj
        clear hj
        rw [List.getElem?_append] at hj2
        split at hj2
        · rename_i hlt
          rw [hlen] at hlt
          by_cases e' : j = l
          · subst e'
            rw [List.getElem?_set, if_pos rfl, if_pos hlt] at hj2
            simp at hj2; exact .inl ⟨rfl, hj2.symm⟩
          · rw [List.getElem?_set, if_neg (Ne.symm e')] at hj2
            exact .inr (.inl ⟨e', hlt, hj2⟩)
        · rename_i hge
          right; right
          rw [hlen] at hge hj2
          cases hk : j - st.m.length with
          | zero => rw [hk] at hj2; simp at hj2; exact ⟨by omega, hj2.symm⟩
          | succ k => rw [hk] at hj2; simp at hj2
      refine ⟨ow, hd', hold, { below := S.below, fresh := S.fresh, objs := fun j oj hj => ?_, dist := ?_, tags := S.tags.id fun j oj g hj hg => ?_, defers := S.defers, size := S.size, slots := fun i => RF.mono (Kp.refl _ _) ha _ _ (S.slots i) }⟩
      · rcases back hj with ⟨rfl, rfl⟩ | ⟨hne, hlt, hj⟩ | ⟨rfl, rfl⟩
        · obtain ⟨b, vals, t, g1, g2, g3, g4, g5⟩ := S.objs j _ hm
          have e1 : hd' j = hd j := upd_ne _ _ (by omega)
          rw [e1]
          refine ⟨b, vals, t, g1, g2, g3, g4, ?_⟩
          have g6 := RFL.mono (Kp.refl _ _) ha _ _ g5
          -- one cell in other words
          have go : ∀ (cs : List FV) (vs : List Value) (i : Nat), RFL (al m') hd' ow w cs vs → cs[i]? = some (.d (.v (.slice none 0 0))) → RFL (al m') hd' ow w (cs.set i (.srf st.m.length)) vs := by
            intro cs
            induction cs with
            | nil => intro vs i h hi; simp at hi
            | cons x cs ih =>
              intro vs i h hi
              simp only [RFL] at h
              obtain ⟨v, r, e2, h1, h2, h3⟩ := h
              cases i with
              | zero =>
                simp at hi; subst hi
                simp only [List.set_cons_zero, RFL]
                refine ⟨v, r, e2, ?_, h2, h3⟩
                simp only [RF, R] at h1 ⊢
                have e4 : hd' st.m.length = .slice none 0 0 := upd_same _ _ _
                exact ⟨halL, by rw [e4]; exact h1.1, by rw [e4]; rfl⟩
              | succ i =>
                simp at hi
                simp only [List.set_cons_succ, RFL]
                exact ⟨v, r, e2, h1, h2, ih r i h3 hi⟩
          exact go cs _ off g6 hc
        · have e1 : hd' j = hd j := upd_ne _ _ (by omega)
          rw [e1]
          exact (S.objs j oj hj).kp (Kp.refl _ _) ha (fun b _ _ => ⟨rfl, rfl⟩) fun _ _ => rfl
        · have e1 : hd' st.m.length = .slice none 0 0 := upd_same _ _ _
          rw [e1]
          exact ⟨[], World.ownsRow_nil _ _ _ _, fun b hb => by simp [blocksOf, blockOf] at hb, by simp [RE]⟩
      · have e1 : hd' st.m.length = .slice none 0 0 := upd_same _ _ _
        have live : ∀ {j : Nat} {oj : PO} {b : Nat}, m'[j]? = some oj → oj.live = true → b ∈ blocksOf (hd' j) → ∃ o', st.m[j]? = some o' ∧ o'.live = true ∧ hd' j = hd j := by
          intro j oj b hj hlv hb
          rcases back hj with ⟨rfl, rfl⟩ | ⟨hne, hlt, hj⟩ | ⟨rfl, rfl⟩
          · exact ⟨_, hm, rfl, upd_ne _ _ (by omega)⟩
          · exact ⟨_, hj, hlv, upd_ne _ _ (by omega)⟩
          · rw [e1] at hb; simp [blocksOf, blockOf] at hb
        intro j j' oj oj' b hne hj hj' hl hl' hb hb'
        obtain ⟨p, p1, p2, p3⟩ := live hj hl hb
        obtain ⟨q, q1, q2, q3⟩ := live hj' hl' hb'
        rw [p3] at hb
        rw [q3] at hb'
        exact S.dist j j' p q b hne p1 q1 p2 q2 hb hb'
      · rcases back hj with ⟨rfl, rfl⟩ | ⟨hne, hlt, hj⟩ | ⟨rfl, rfl⟩
        · cases hg
        · exact ⟨oj, hj, hg⟩
        · cases hg
    · cases h
  · cases h
/-- under what is known (C), an object may be told so -/
structure ImO (C : (Nat → Bool) → (Nat → Value) → Ow → World → Prop) (o o' : PO) : Prop where
  made : o'.made = o.made
  live : o'.live = true → o.live = true
  tag : ∀ g, o'.tag = some g → o.tag = some g
  ro : ∀ (A : Nat → Bool) (hd : Nat → Value) (c : Cx) (ow : Ow) (w : World) (h : Value), C A hd ow w → RO A hd c ow w h o → RO A hd c ow w h o'
section
variable {C : (Nat → Bool) → (Nat → Value) → Ow → World → Prop}
theorem ImO.refl (o : PO) : ImO C o o := ⟨rfl, fun h => h, fun _ h => h, fun _ _ _ _ _ _ _ h => h⟩
theorem ImO.box {cs cs' : List FV} (h : ∀ (A : Nat → Bool) (hd : Nat → Value) (ow : Ow) (w : World) (us : List Value), C A hd ow w → RFL A hd ow w cs us → RFL A hd ow w cs' us) : ImO C (.box cs) (.box cs') :=
  ⟨rfl, fun _ => rfl, fun _ h => (by cases h), fun A hd c ow w hv hC ho => by
    obtain ⟨b, vals, t, h1, h2, h3, h4, h5⟩ := ho
    exact ⟨b, vals, t, h1, h2, h3, h4, h _ _ _ _ _ hC h5⟩⟩
theorem ImO.gh {k : Nat} {x y : FV} (h : ∀ (A : Nat → Bool) (hd : Nat → Value) (ow : Ow) (w : World) (u : Value), C A hd ow w → RF A hd ow w x u → RF A hd ow w y u) : ImO C (.gh k x) (.gh k y) :=
  ⟨rfl, fun h => (by cases h), fun _ h => (by cases h), fun A hd c ow w hv hC ho => h _ _ _ _ _ hC ho⟩
end
section
variable {n : Nat} {w0 : Cx} {st st' : PS} {a : Act} {w : World} {ow : Ow} {hd : Nat → Value}
theorem al_made {m m' : List PO} (hl : m'.length = m.length) (hm : ∀ (l : Nat) (o o' : PO), m[l]? = some o → m'[l]? = some o' → o'.made = o.made) (l : Nat) : al m' l = al m l := by
  unfold al
  cases h : m[l]? with
  | none =>
    have : m'[l]? = none := by rw [List.getElem?_eq_none_iff] at h ⊢; omega
    rw [this]
  | some o =>
    have hlt := (List.getElem?_eq_some_iff.1 h).1
    have h' : m'[l]? = some m'[l] := List.getElem?_eq_getElem (by omega)
    rw [h']
    exact hm l o _ h h'
theorem back_of {m m' : List PO} (hl : m'.length = m.length) {l : Nat} {o' : PO} (h : m'[l]? = some o') : ∃ o, m[l]? = some o := by
  have hlt := (List.getElem?_eq_some_iff.1 h).1
  exact ⟨m[l], List.getElem?_eq_getElem (by omega)⟩
/-- the state in other words, under what is known -/
theorem SimW.tell {C : (Nat → Bool) → (Nat → Value) → Ow → World → Prop} (S : SimW n w0 st a w ow hd) (hC : C (al st.m) hd ow w) (hl : st'.m.length = st.m.length)
    (hf : ∀ (i : Nat) (u : Value), RF (al st.m) hd ow w (st.f.getD i .dead) u → RF (al st.m) hd ow w (st'.f.getD i .dead) u)
    (hm : ∀ (l : Nat) (o o' : PO), st.m[l]? = some o → st'.m[l]? = some o' → ImO C o o') : SimW n w0 st' a w ow hd := by
  have hal : al st'.m = al st.m := funext fun l => al_made hl (fun l o o' h h' => (hm l o o' h h').made) l
  refine { below := S.below, fresh := S.fresh, objs := fun l o' ho' => ?_, dist := ?_, tags := S.tags.id fun j o' g hj hg => ?_, defers := S.defers, size := S.size, slots := fun i => ?_ }
  · obtain ⟨o, ho⟩ := back_of hl ho'
    rw [hal]
    exact (hm l o o' ho ho').ro _ _ _ _ _ _ hC (S.objs l o ho)
  · intro l l' o o' b hne h h' hlv hlv' hb hb'
    obtain ⟨p, hp⟩ := back_of hl h
    obtain ⟨p', hp'⟩ := back_of hl h'
    exact S.dist l l' p p' b hne hp hp' ((hm l p o hp h).live hlv) ((hm l' p' o' hp' h').live hlv') hb hb'
  · obtain ⟨o, ho⟩ := back_of hl hj
    exact ⟨o, ho, (hm j o o' ho hj).tag g hg⟩
  · rw [hal]; exact hf i _ (S.slots i)
/-- an object is given up: its blocks are everybody's from now on -/
theorem SimW.gone {C : (Nat → Bool) → (Nat → Value) → Ow → World → Prop} (S : SimW n w0 st a w ow hd) {l : Nat} {o0 : PO} (hm0 : st.m[l]? = some o0) (hlv0 : o0.live = true)
    (hC : C (al st'.m) hd (ow.set fun b => if b ∈ blocksOf (hd l) then false else ow b) w) (hl : st'.m.length = st.m.length) (hn : st'.m[l]? = some .none)
    (hf : ∀ (i : Nat) (u : Value), RF (al st'.m) hd (ow.set fun b => if b ∈ blocksOf (hd l) then false else ow b) w (st.f.getD i .dead) u → RF (al st'.m) hd (ow.set fun b => if b ∈ blocksOf (hd l) then false else ow b) w (st'.f.getD i .dead) u)
    (hm : ∀ (j : Nat) (o o' : PO), j ≠ l → st.m[j]? = some o → st'.m[j]? = some o' → ImO C o o') : SimW n w0 st' a w (ow.set fun b => if b ∈ blocksOf (hd l) then false else ow b) hd := by
  have hlt := (S.objs l _ hm0).lt hlv0
  let ow' : Ow := ow.set fun b => if b ∈ blocksOf (hd l) then false else ow b
  haveI hph : Ph ow ow' := Ph.set _ _
  have hk : Kp ow w ow' w := by
    refine ⟨Nat.le_refl _, fun b _ hb => ?_, fun _ _ _ => rfl⟩
    show (if b ∈ blocksOf (hd l) then false else ow b) = false
    split
    · rfl
    · exact hb
  have ha : ∀ j, al st.m j = true → al st'.m j = true ∧ hd j = hd j := by
    intro j hj
    refine ⟨?_, rfl⟩
    unfold al at hj ⊢
    by_cases e : j = l
    · subst e; rw [hn]; rfl
    · cases h : st.m[j]? with
      | none => rw [h] at hj; cases hj
      | some o =>
        have hlt := (List.getElem?_eq_some_iff.1 h).1
        have h' : st'.m[j]? = some st'.m[j] := List.getElem?_eq_getElem (by omega)
        rw [h']
        rw [h] at hj
        exact (hm j o _ e h h').made.trans hj
  refine { below := S.below, fresh := fun b hb => ?_, objs := fun j o' ho' => ?_, dist := ?_, tags := S.tags.id fun j o' g hj hg => ?_, defers := S.defers, size := S.size, slots := fun i => ?_ }
  · show (if b ∈ blocksOf (hd l) then false else ow b) = false
    split
    · rfl
    · exact S.fresh b hb
  · by_cases e : j = l
    · subst e; rw [hn] at ho'; cases ho'; trivial
    · obtain ⟨o, ho⟩ := back_of hl ho'
      refine (hm j o o' e ho ho').ro _ _ _ _ _ _ hC ?_
      exact (S.objs j o ho).kp hk ha (fun b hb hlv => ⟨rfl, by
        show (if b ∈ blocksOf (hd l) then false else ow b) = ow b
        rw [if_neg]
        exact S.dist j l o _ b e ho hm0 hlv hlv0 hb⟩) fun _ _ => rfl
  · intro j j' o o' b hne h h' hlv hlv' hb hb'
    by_cases e : j = l
    · subst e; rw [hn] at h; cases h; simp [PO.live] at hlv
    · by_cases e' : j' = l
      · subst e'; rw [hn] at h'; cases h'; simp [PO.live] at hlv'
      · obtain ⟨p, hp⟩ := back_of hl h
        obtain ⟨p', hp'⟩ := back_of hl h'
        exact S.dist j j' p p' b hne hp hp' ((hm j p o e hp h).live hlv) ((hm j' p' o' e' hp' h').live hlv') hb hb'
  · by_cases e : j = l
    · subst e; rw [hn] at hj; cases hj; cases hg
    · obtain ⟨o, ho⟩ := back_of hl hj
      exact ⟨o, ho, (hm j o o' e ho hj).tag g hg⟩
  · exact hf i _ (RF.mono hk ha _ _ (S.slots i))
/-- the names stay -/
theorem SimW.gone_keep (S : SimW n w0 st a w ow hd) {l : Nat} {o0 : PO} (hm0 : st.m[l]? = some o0) (hlv0 : o0.live = true) (h : Keep w0 ow) : Keep w0 (ow.set fun b => if b ∈ blocksOf (hd l) then false else ow b) := by
  have hlt := (S.objs l _ hm0).lt hlv0
  refine h.step fun b hb hn => ?_
  show (if b ∈ blocksOf (hd l) then false else ow b) = ow b
  rw [if_neg]
  intro e
  rcases (hlt b e).2.1 with h' | h'
  · omega
  · rw [h'] at hn; cases hn
/-- a row given up is a slice at rest -/
theorem RO.row_rest {A : Nat → Bool} {l ty sz : Nat} {xs : List PV} (h : RO A hd w0 ow w (hd l) (.row ty sz xs)) : R (ow.set fun b => if b ∈ blocksOf (hd l) then false else ow b) w (.sl xs) (hd l) := by
  haveI hph : Ph ow (ow.set fun b => if b ∈ blocksOf (hd l) then false else ow b) := Ph.set _ _
  have hk : Kp ow w (ow.set fun b => if b ∈ blocksOf (hd l) then false else ow b) w := by
    refine ⟨Nat.le_refl _, fun b _ hb => ?_, fun _ _ _ => rfl⟩
    show (if b ∈ blocksOf (hd l) then false else ow b) = false
    split
    · rfl
    · exact hb
  obtain ⟨cells, ⟨h1, h1'⟩, h2, h3⟩ := h
  simp only [R]
  rcases h1' with ⟨e2, e3⟩ | ⟨gb, cap, cur, e2, e3, e4, e5, e6, e7, e8⟩
  · rw [e2]; exact ⟨none, 0, by rw [e3], by omega, by simp [maxLen], .inl (List.eq_nil_of_length_eq_zero e3)⟩
  · refine ⟨some ⟨gb, 0, none⟩, cap, e2, e5, e6, .inr ⟨gb, 0, sz, cells, rfl, (Array.getElem?_eq_some_iff.1 e4).1, ?_, fun j v hv => ?_, RE.mono hk _ _ _ h3⟩⟩
    · show (if gb ∈ blocksOf (hd l) then false else ow gb) = false
      rw [if_pos (by rw [e2]; first | rfl | simp [blocksOf, blockOf])]
    · rw [← e8, List.getElem?_take] at hv
      split at hv
      · unfold World.cell?
        simp only [e4]
        simpa using hv
      · cases hv
end
end Go.Proofs.YtnkdanobhgofbaaGreatDoor.pv
