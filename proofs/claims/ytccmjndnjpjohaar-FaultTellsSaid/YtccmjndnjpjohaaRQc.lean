/- The private heap: new objects, changed objects, dead ones; renaming. -/
import Derived.Test.YtccmjndnjpjohaaRQb
namespace Go.Proofs.YtccmjndnjpjohaaR.pv
set_option linter.all false
open Go.RowKit

def upd {α : Type} (f : Nat → α) (k : Nat) (x : α) : Nat → α := fun i => if i = k then x else f i
theorem upd_same {α : Type} (f : Nat → α) (k : Nat) (x : α) : upd f k x k = x := by simp [upd]
theorem upd_ne {α : Type} (f : Nat → α) {k i : Nat} (x : α) (h : i ≠ k) : upd f k x i = f i := by simp [upd, h]
theorem al_set_same {m : List PO} {l : Nat} {o : PO} (h : l < m.length) : al (m.set l o) l = o.made := by simp [al, List.getElem?_set, h]
theorem al_set_ne {m : List PO} {l l' : Nat} {o : PO} (h : l' ≠ l) : al (m.set l o) l' = al m l' := by simp [al, List.getElem?_set, Ne.symm h]
theorem al_set_mono {m : List PO} {l : Nat} {o : PO} (ho : o.made = true) : ∀ l', al m l' = true → al (m.set l o) l' = true := by
  intro l' h
  by_cases e : l' = l
  · subst e
    have : l' < m.length := by
      unfold al at h
      rcases Nat.lt_or_ge l' m.length with h' | h'
      · exact h'
      · rw [List.getElem?_eq_none h'] at h; cases h
    rw [al_set_same this, ho]
  · rw [al_set_ne e]; exact h
theorem PO.made_of_live {o : PO} (h : o.live = true) : o.made = true := by cases o <;> simp_all [PO.live, PO.made]

section
variable {n : Nat} {w0 : World} {ow0 : Nat → Bool} {st : PS} {m : List PO} {a : Act} {w : World} {ow : Nat → Bool} {hd : Nat → Value}

/-- an object at l, new or changed, in a later world: everything else stays -/
theorem SimH.obj (S : SimH w0 m w ow hd) {l : Nat} {w' : World} {ow' : Nat → Bool} {hv : Value} {o : PO} (k : Kp ow w ow' w') (hb : Below w0.heap.size w w')
    (hfr : ∀ b, w'.heap.size ≤ b → ow' b = false) (hc : al m l = false ∨ hv = hd l) (ho : o.made = true) (hob : RO (al (m.set l o)) (upd hd l hv) w0.heap.size ow' w' hv o)
    (hkeep : ∀ j oj b, j ≠ l → m[j]? = some oj → oj.live = true → blockOf (hd j) = some b → w'.heap[b]? = w.heap[b]? ∧ ow' b = ow b ∧ (o.live = true → blockOf hv ≠ some b)) :
    SimH w0 (m.set l o) w' ow' (upd hd l hv) ∧ ∀ j, al m j = true → al (m.set l o) j = true ∧ upd hd l hv j = hd j := by
  have ha : ∀ j, al m j = true → al (m.set l o) j = true ∧ upd hd l hv j = hd j := by
    intro j hj
    refine ⟨al_set_mono ho j hj, ?_⟩
    by_cases e : j = l
    · subst e
      rcases hc with hc | hc
      · rw [hc] at hj; cases hj
      · rw [upd_same, hc]
    · rw [upd_ne _ _ e]
  refine ⟨⟨S.below.trans hb, hfr, fun j oj hj => ?_, ?_⟩, ha⟩
  · by_cases e : j = l
    · subst e
      rw [List.getElem?_set] at hj
      simp at hj
      obtain ⟨_, rfl⟩ := hj
      rw [upd_same]; exact hob
    · rw [List.getElem?_set, if_neg (Ne.symm e)] at hj
      rw [upd_ne _ _ e]
      exact (S.objs j oj hj).kp k ha fun b hbk hl => ⟨(hkeep j oj b e hj hl hbk).1, (hkeep j oj b e hj hl hbk).2.1⟩
  · intro j j' oj oj' b hne hj hj' hl hl' hbj hbj'
    by_cases e : j = l
    · subst e
      have e' : j' ≠ j := Ne.symm hne
      rw [List.getElem?_set, if_neg (Ne.symm e')] at hj'
      rw [List.getElem?_set] at hj
      simp at hj
      obtain ⟨_, rfl⟩ := hj
      rw [upd_same] at hbj
      rw [upd_ne _ _ e'] at hbj'
      exact (hkeep j' oj' b e' hj' hl' hbj').2.2 hl hbj
    · rw [List.getElem?_set, if_neg (Ne.symm e)] at hj
      rw [upd_ne _ _ e] at hbj
      by_cases e' : j' = l
      · subst e'
        rw [List.getElem?_set] at hj'
        simp at hj'
        obtain ⟨_, rfl⟩ := hj'
        rw [upd_same] at hbj'
        exact (hkeep j oj b e hj hl hbj).2.2 hl' hbj'
      · rw [List.getElem?_set, if_neg (Ne.symm e')] at hj'
        rw [upd_ne _ _ e'] at hbj'
        exact S.dist j j' oj oj' b hne hj hj' hl hl' hbj hbj'
theorem SimW.obj (S : SimW n w0 st a w ow hd) {l : Nat} {w' : World} {ow' : Nat → Bool} {hv : Value} {o : PO} (k : Kp ow w ow' w') (hb : Below w0.heap.size w w')
    (hfr : ∀ b, w'.heap.size ≤ b → ow' b = false) (hc : al st.m l = false ∨ hv = hd l) (ho : o.made = true) (hob : RO (al (st.m.set l o)) (upd hd l hv) w0.heap.size ow' w' hv o)
    (hkeep : ∀ j oj b, j ≠ l → st.m[j]? = some oj → oj.live = true → blockOf (hd j) = some b → w'.heap[b]? = w.heap[b]? ∧ ow' b = ow b ∧ (o.live = true → blockOf hv ≠ some b)) :
    SimW n w0 ⟨st.f, st.m.set l o⟩ a w' ow' (upd hd l hv) := by
  obtain ⟨H, ha⟩ := S.toSimH.obj k hb hfr hc ho hob hkeep
  exact { H with defers := S.defers, size := S.size, slots := fun i => RF.mono k ha _ _ (S.slots i) }
/-- an object is given up -/
theorem SimH.kill (S : SimH w0 m w ow hd) (l : Nat) : SimH w0 (m.set l .none) w ow hd ∧ ∀ j, al m j = true → al (m.set l .none) j = true ∧ hd j = hd j := by
  have ha : ∀ j, al m j = true → al (m.set l .none) j = true ∧ hd j = hd j := fun j hj => ⟨al_set_mono rfl j hj, rfl⟩
  refine ⟨⟨S.below, S.fresh, fun j oj hj => ?_, ?_⟩, ha⟩
  · rw [List.getElem?_set] at hj
    split at hj
    · split at hj
      · cases hj; trivial
      · cases hj
    · exact (S.objs j oj hj).kp (Kp.refl _ _) ha fun b hbk hl => ⟨rfl, rfl⟩
  · intro j j' oj oj' b hne hj hj' hl hl'
    have go : ∀ {i : Nat} {oi : PO}, (m.set l .none)[i]? = some oi → oi.live = true → m[i]? = some oi := by
      intro i oi hi hl
      rw [List.getElem?_set] at hi
      split at hi
      · split at hi
        · cases hi; simp [PO.live] at hl
        · cases hi
      · exact hi
    exact S.dist j j' oj oj' b hne (go hj hl) (go hj' hl') hl hl'
theorem SimW.kill (S : SimW n w0 st a w ow hd) (l : Nat) : SimW n w0 ⟨st.f, st.m.set l .none⟩ a w ow hd := by
  obtain ⟨H, ha⟩ := S.toSimH.kill l
  exact { H with defers := S.defers, size := S.size, slots := fun i => RF.mono (Kp.refl _ _) ha _ _ (S.slots i) }
theorem kill_live {m : List PO} {l j : Nat} {oj : PO} (h : (m.set l .none)[j]? = some oj) (hl : oj.live = true) : m[j]? = some oj ∧ j ≠ l := by
  rw [List.getElem?_set] at h
  split at h
  · split at h
    · cases h; simp [PO.live] at hl
    · cases h
  · rename_i e; exact ⟨h, Ne.symm e⟩

/-- a new variable -/
theorem SimW.new (S : SimW n w0 st a w ow hd) {l : Nat} (hl : st.m[l]? = some .free) {cs : List FV} {vals : Array Value} {t : TypeId} (h : RFL (al st.m) hd ow w cs vals.toList) :
    ∃ ow' hd', (∀ b, b < w0.heap.size → ow' b = ow b) ∧ SimW n w0 ⟨st.f, st.m.set l (.box cs)⟩ a (w.alloc (.cells vals t)) ow' hd' ∧ RF (al (st.m.set l (.box cs))) hd' ow' (w.alloc (.cells vals t)) (.ref l 0) (.pointer (some ⟨w.heap.size, 0, none⟩)) := by
  have hsz : (w.alloc (.cells vals t)).heap.size = w.heap.size + 1 := by simp
  have hk : Kp ow w (fun b => if b = w.heap.size then true else ow b) (w.alloc (.cells vals t)) :=
    ⟨by rw [hsz]; omega, fun b hb h => by show (if b = w.heap.size then true else ow b) = false; rw [if_neg (by omega)]; exact h, fun b hb _ => Below.heap_alloc w _ b hb⟩
  have hal : al st.m l = false := by simp [al, hl, PO.made]
  have hlt : l < st.m.length := (List.getElem?_eq_some_iff.1 hl).1
  have ha : ∀ j, al st.m j = true → al (st.m.set l (.box cs)) j = true ∧ upd hd l (.pointer (some ⟨w.heap.size, 0, none⟩)) j = hd j := by
    intro j hj
    refine ⟨al_set_mono rfl j hj, ?_⟩
    rw [upd_ne]
    intro e; rw [e, hal] at hj; cases hj
  have S' := S.obj (l := l) (hv := .pointer (some ⟨w.heap.size, 0, none⟩)) (o := .box cs) hk ((Below.refl _ _).alloc S.below.size _)
    (fun b hb => by rw [hsz] at hb; show (if b = w.heap.size then true else ow b) = false; rw [if_neg (by omega)]; exact S.fresh b (by omega)) (.inl hal) rfl
    ⟨w.heap.size, vals, t, rfl, S.below.size, by simp, heap_alloc_new w _, RFL.mono hk ha _ _ h⟩
    (fun j oj b e hj hl hbk => by
      have := ((S.objs j oj hj).lt hl b hbk).1
      refine ⟨Below.heap_alloc w _ b this, if_neg (by omega), fun _ he => ?_⟩
      simp [blockOf] at he
      omega)
  refine ⟨_, _, ?_, S', ?_⟩
  · intro b hb
    have := S.below.size
    show (if b = w.heap.size then true else ow b) = ow b
    rw [if_neg (by omega)]
  · simp only [RF]
    exact ⟨by rw [al_set_same hlt]; rfl, w.heap.size, by rw [upd_same], rfl⟩
/-- an object's block changed, its handle not -/
theorem SimW.set (S : SimW n w0 st a w ow hd) {l b : Nat} {o o' : PO} {w' : World} (hm : st.m[l]? = some o) (hlive : o.live = true) (hlive' : o'.live = true) (hk : blockOf (hd l) = some b)
    (ho : ∀ j, j ≠ b → w'.heap[j]? = w.heap[j]?) (hsz : w'.heap.size = w.heap.size) (hbl : Below w0.heap.size w w')
    (hn : RO (al (st.m.set l o')) hd w0.heap.size ow w' (hd l) o') : SimW n w0 ⟨st.f, st.m.set l o'⟩ a w' ow hd := by
  have hpr := ((S.objs l o hm).lt hlive b hk).2.2
  have hkp : Kp ow w ow w' := ⟨by omega, fun _ _ h => h, fun j _ hj => ho j (fun e => by rw [e, hpr] at hj; cases hj)⟩
  have e : upd hd l (hd l) = hd := by funext j; by_cases e : j = l <;> simp [upd, e]
  have := S.obj (l := l) (hv := hd l) (o := o') hkp hbl (fun j hj => S.fresh j (by omega)) (.inr rfl) (PO.made_of_live hlive') (by rw [e]; exact hn)
    (fun j oj b' hne hj hl hb' => ⟨ho b' (fun eb => by subst eb; exact S.dist j l oj o b' hne hj hm hl hlive hb' hk), rfl, fun _ eb => S.dist j l oj o b' hne hj hm hl hlive hb' eb⟩)
  rw [e] at this
  exact this
/-- room for new objects -/
theorem al_app {m t : List PO} (h : ∀ o ∈ t, o = PO.free) (l : Nat) : al (m ++ t) l = al m l := by
  unfold al
  rw [List.getElem?_append]
  by_cases hlt : l < m.length
  · rw [if_pos hlt]
  · rw [if_neg hlt, List.getElem?_eq_none (l := m) (by omega)]
    cases hx : t[l - m.length]? with
    | none => rfl
    | some o => rw [h o (List.mem_of_getElem? hx)]; rfl
theorem SimW.room (S : SimW n w0 st a w ow hd) (k : Nat) : SimW n w0 ⟨st.f, st.m ++ List.replicate k .free⟩ a w ow hd := by
  have hf : ∀ o ∈ List.replicate k PO.free, o = PO.free := fun o ho => (List.mem_replicate.1 ho).2
  have ha : ∀ j, al st.m j = true → al (st.m ++ List.replicate k .free) j = true ∧ hd j = hd j := fun j hj => ⟨by rw [al_app hf]; exact hj, rfl⟩
  have back : ∀ {j : Nat} {oj : PO}, (st.m ++ List.replicate k PO.free)[j]? = some oj → st.m[j]? = some oj ∨ oj = .free := by
    intro j oj hj
    rw [List.getElem?_append] at hj
    split at hj
    · exact .inl hj
    · exact .inr (hf _ (List.mem_of_getElem? hj))
  refine { below := S.below, fresh := S.fresh, objs := fun j oj hj => ?_, dist := ?_, defers := S.defers, size := S.size, slots := fun i => RF.mono (Kp.refl _ _) ha _ _ (S.slots i) }
  · rcases back hj with hj | rfl
    · exact (S.objs j oj hj).kp (Kp.refl _ _) ha fun b _ _ => ⟨rfl, rfl⟩
    · trivial
  · intro j j' oj oj' b hne hj hj' hl hl'
    rcases back hj with hj | rfl
    · rcases back hj' with hj' | rfl
      · exact S.dist j j' oj oj' b hne hj hj' hl hl'
      · simp [PO.live] at hl'
    · simp [PO.live] at hl
end

/-- other names for the objects: the object σ[j] is j now; a reference to one that is not among them is dead -/
def idx (l : Nat) : List Nat → Option Nat
  | [] => none
  | x :: r => bif Nat.beq x l then some 0 else (idx l r).map (· + 1)
theorem idx_get {l : Nat} : ∀ {s : List Nat} {j : Nat}, idx l s = some j → s[j]? = some l
  | [], j, h => by simp [idx] at h
  | x :: r, j, h => by
    simp only [idx] at h
    cases hx : Nat.beq x l with
    | true => rw [hx] at h; simp at h; subst h; simp [Nat.eq_of_beq_eq_true hx]
    | false =>
      rw [hx] at h
      simp at h
      obtain ⟨i, h1, rfl⟩ := h
      simpa using idx_get h1
mutual
def ren (s : List Nat) : FV → FV
  | .d x => .d x
  | .agg cs => .agg (renL s cs)
  | .tup cs => .tup (renL s cs)
  | .ref l off => match idx l s with | some j => .ref j off | none => .dead
  | .ept l sz i off => match idx l s with | some j => .ept j sz i off | none => .dead
  | .srf l => match idx l s with | some j => .srf j | none => .dead
  | .clo f cs => .clo f (renL s cs)
  | .dead => .dead
def renL (s : List Nat) : List FV → List FV
  | [] => []
  | x :: xs => ren s x :: renL s xs
end
def renO (s : List Nat) : PO → PO
  | .box cs => .box (renL s cs)
  | o => o
def renM (m : List PO) (s : List Nat) : List Nat → List PO
  | [] => []
  | l :: r => renO s (m.getD l .free) :: renM m s r
theorem renM_get (m : List PO) (s : List Nat) : ∀ (r : List Nat) (j : Nat) (o : PO), (renM m s r)[j]? = some o → ∃ l, r[j]? = some l ∧ o = renO s (m.getD l .free)
  | [], j, o, h => by simp [renM] at h
  | l :: r, j, o, h => by
    cases j with
    | zero => simp [renM] at h; exact ⟨l, rfl, h.symm⟩
    | succ j => simp [renM] at h; simpa using renM_get m s r j o h
theorem renM_at (m : List PO) (s : List Nat) : ∀ (r : List Nat) (j l : Nat), r[j]? = some l → (renM m s r)[j]? = some (renO s (m.getD l .free))
  | [], j, l, h => by simp at h
  | x :: r, j, l, h => by
    cases j with
    | zero => simp at h; subst h; simp [renM]
    | succ j => simp at h; simpa [renM] using renM_at m s r j l h
theorem renL_get (s : List Nat) : ∀ (xs : List FV) (i : Nat), (renL s xs)[i]? = (xs[i]?).map (ren s)
  | [], i => by simp [renL]
  | x :: xs, i => by
    cases i with
    | zero => simp [renL]
    | succ i => simpa [renL] using renL_get s xs i
theorem renO_made (s : List Nat) (o : PO) : (renO s o).made = o.made := by cases o <;> rfl
theorem renO_live (s : List Nat) (o : PO) : (renO s o).live = o.live := by cases o <;> rfl
section
variable {m : List PO} {s : List Nat} {hd : Nat → Value} {ow : Nat → Bool} {w : World}
def hren (hd : Nat → Value) (s : List Nat) : Nat → Value := fun j => hd (s.getD j 0)
theorem ren_al {l j : Nat} (h : idx l s = some j) (ha : al m l = true) : al (renM m s s) j = true ∧ hren hd s j = hd l := by
  have hj := idx_get h
  unfold al
  rw [renM_at m s s j l hj]
  simp only [renO_made]
  refine ⟨?_, by simp [hren, List.getD_eq_getElem?_getD, hj]⟩
  unfold al at ha
  rw [List.getD_eq_getElem?_getD]
  cases hm : m[l]? with
  | none => simp [hm] at ha
  | some o => simpa [hm] using ha
mutual
theorem RF.ren : ∀ (x : FV) (u : Value), RF (al m) hd ow w x u → RF (al (renM m s s)) (hren hd s) ow w (pv.ren s x) u
  | .d x, u, h => by simpa only [pv.ren, RF] using h
  | .agg cs, u, h => by
    simp only [pv.ren, RF] at h ⊢
    obtain ⟨vs, e, h⟩ := h
    exact ⟨vs, e, RFL.ren cs vs h⟩
  | .tup cs, u, h => by
    simp only [pv.ren, RF] at h ⊢
    obtain ⟨vs, e, h⟩ := h
    exact ⟨vs, e, RFT.ren cs vs h⟩
  | .ref l off, u, h => by
    simp only [pv.ren]
    cases hx : idx l s with
    | none => simp only [RF]
    | some j =>
      simp only [RF] at h ⊢
      obtain ⟨h1, h2⟩ := h
      have := ren_al (hd := hd) hx h1
      rw [this.2]; exact ⟨this.1, h2⟩
  | .ept l sz i off, u, h => by
    simp only [pv.ren]
    cases hx : idx l s with
    | none => simp only [RF]
    | some j =>
      simp only [RF] at h ⊢
      obtain ⟨h1, h2⟩ := h
      have := ren_al (hd := hd) hx h1
      rw [this.2]; exact ⟨this.1, h2⟩
  | .srf l, u, h => by
    simp only [pv.ren]
    cases hx : idx l s with
    | none => simp only [RF]
    | some j =>
      simp only [RF] at h ⊢
      obtain ⟨h1, h2⟩ := h
      have := ren_al (hd := hd) hx h1
      rw [this.2]; exact ⟨this.1, h2⟩
  | .clo f cs, u, h => by
    simp only [pv.ren, RF] at h ⊢
    obtain ⟨vs, e, h⟩ := h
    exact ⟨vs, e, RFL.ren cs vs h⟩
  | .dead, u, h => by simp only [pv.ren, RF]
theorem RFL.ren : ∀ (xs : List FV) (us : List Value), RFL (al m) hd ow w xs us → RFL (al (renM m s s)) (hren hd s) ow w (renL s xs) us
  | [], _, h => by simpa only [renL, RFL] using h
  | x :: xs, us, h => by
    simp only [renL, RFL] at h ⊢
    obtain ⟨v, r, e, h1, h2, h3⟩ := h
    exact ⟨v, r, e, RF.ren x v h1, h2, RFL.ren xs r h3⟩
theorem RFT.ren : ∀ (xs : List FV) (us : List Value), RFT (al m) hd ow w xs us → RFT (al (renM m s s)) (hren hd s) ow w (renL s xs) us
  | [], _, h => by simpa only [renL, RFT] using h
  | x :: xs, us, h => by
    simp only [renL, RFT] at h ⊢
    obtain ⟨v, r, e, h1, h3⟩ := h
    exact ⟨v, r, e, RF.ren x v h1, RFT.ren xs r h3⟩
end
def nodup : List Nat → Bool
  | [] => true
  | x :: r => !(r.any (Nat.beq x)) && nodup r
theorem nodup_get : ∀ {s : List Nat}, nodup s = true → ∀ (i j l : Nat), s[i]? = some l → s[j]? = some l → i = j
  | [], _, i, j, l, h, _ => by simp at h
  | x :: r, hn, i, j, l, hi, hj => by
    simp only [nodup, Bool.and_eq_true, Bool.not_eq_true'] at hn
    have hx : ∀ k : Nat, r[k]? = some x → False := by
      intro k hk
      have := List.any_eq_false.1 hn.1 x (List.mem_of_getElem? hk)
      simp at this
    cases i with
    | zero =>
      simp at hi; subst hi
      cases j with
      | zero => rfl
      | succ j => simp at hj; exact (hx j hj).elim
    | succ i =>
      simp at hi
      cases j with
      | zero => simp at hj; subst hj; exact (hx i hi).elim
      | succ j => simp at hj; rw [nodup_get hn.2 i j l hi hj]
end
/-- forget: only some slots, only some objects, renamed -/
def keepF (s ks : List Nat) : Nat → List FV → List FV
  | _, [] => []
  | i, x :: xs => (bif ks.any (Nat.beq i) then ren s x else .dead) :: keepF s ks (i + 1) xs
theorem keepF_get (s ks : List Nat) : ∀ (xs : List FV) (k i : Nat), (keepF s ks k xs)[i]? = (xs[i]?).map fun x => bif ks.any (Nat.beq (k + i)) then ren s x else .dead
  | [], k, i => by simp [keepF]
  | x :: xs, k, i => by
    cases i with
    | zero => simp [keepF]
    | succ i =>
      simp only [keepF, List.getElem?_cons_succ]
      rw [keepF_get s ks xs (k + 1) i]
      congr 2
      funext x
      rw [show k + 1 + i = k + (i + 1) by omega]
def PS.keep (st : PS) (s ks : List Nat) : PS := ⟨keepF s ks 0 st.f, renM st.m s s⟩
theorem Sim.keep {n : Nat} {w0 : World} {ow0 : Nat → Bool} {st : PS} {a : Act} {w : World} (S : Sim n w0 ow0 st a w) (s ks : List Nat) (hs : nodup s = true) : Sim n w0 ow0 (st.keep s ks) a w := by
  obtain ⟨ow, hd, h0, S⟩ := S
  refine ⟨ow, hren hd s, h0, { below := S.below, fresh := S.fresh, objs := fun j o hj => ?_, dist := ?_, defers := S.defers, size := S.size, slots := fun i => ?_ }⟩
  · obtain ⟨l, hl, rfl⟩ := renM_get _ _ _ _ _ hj
    have e : hren hd s j = hd l := by simp [hren, List.getD_eq_getElem?_getD, hl]
    rw [e]
    cases hm : st.m[l]? with
    | none => rw [List.getD_eq_getElem?_getD, hm]; trivial
    | some o =>
      have ho := S.objs l o hm
      rw [List.getD_eq_getElem?_getD, hm, Option.getD_some]
      cases o with
      | free => trivial
      | none => trivial
      | box cs =>
        obtain ⟨b, vals, t, h1, h2, h3, h4, h5⟩ := ho
        exact ⟨b, vals, t, h1, h2, h3, h4, RFL.ren _ _ h5⟩
      | row ty sz xs => exact ho
  · intro j j' o o' b hne hj hj' hlv hlv' hb hb'
    obtain ⟨l, hl, rfl⟩ := renM_get _ _ _ _ _ hj
    obtain ⟨l', hl', rfl⟩ := renM_get _ _ _ _ _ hj'
    have e : hren hd s j = hd l := by simp [hren, List.getD_eq_getElem?_getD, hl]
    have e' : hren hd s j' = hd l' := by simp [hren, List.getD_eq_getElem?_getD, hl']
    rw [e] at hb
    rw [e'] at hb'
    rw [renO_live, List.getD_eq_getElem?_getD] at hlv hlv'
    cases hm : st.m[l]? with
    | none => simp [hm, PO.live] at hlv
    | some o =>
      cases hm' : st.m[l']? with
      | none => simp [hm', PO.live] at hlv'
      | some o' =>
        simp only [hm, hm', Option.getD_some] at hlv hlv'
        refine S.dist l l' o o' b (fun e => ?_) hm hm' hlv hlv' hb hb'
        subst e
        exact hne (nodup_get hs j j' l hl hl')
  · show RF _ _ _ _ ((keepF s ks 0 st.f).getD i .dead) _
    rw [List.getD_eq_getElem?_getD, keepF_get]
    have hsl := S.slots i
    rw [List.getD_eq_getElem?_getD] at hsl
    cases hf : st.f[i]? with
    | none => simp only [Option.map_none, Option.getD_none, RF]
    | some x =>
      simp only [Option.map_some, Option.getD_some]
      rw [hf] at hsl
      cases hk : ks.any (Nat.beq (0 + i)) with
      | true => simp only [cond_true]; exact RF.ren _ _ hsl
      | false => simp only [cond_false, RF]
end Go.Proofs.YtccmjndnjpjohaaR.pv
