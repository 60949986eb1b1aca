/- The interpreter's regions. -/
import Derived.Test.YtnkdanobhgofbaaGreatDoorVV
namespace Go.Proofs.YtnkdanobhgofbaaGreatDoor.pv
set_option linter.all false
open Go.RowKit

inductive All2 {α β : Type} (R : α → β → Prop) : List α → List β → Prop where
  | nil : All2 R [] []
  | cons {x : α} {y : β} {xs : List α} {ys : List β} : R x y → All2 R xs ys → All2 R (x :: xs) (y :: ys)
structure FpRel (x : FpX) (y : Fp) : Prop where
  i : x.i = y.i
  U : y.U = absU x.V
  F : ∀ l ∈ y.F, l ∈ x.F
  C : ∀ c ∈ y.C, ∃ q ∈ x.C, q.l = c.1 ∧ offP q.p q.d = c.2.1 ∧ q.t.uni = true ∧ q.t.cel = true ∧ q.t.agg = false ∧ ∃ z : q.t.den, c.2.2 = (rep q.t z).fv
theorem memB_sub {l : Nat} {F G : List Nat} (h : memB l G = false) (hs : ∀ x ∈ F, x ∈ G) : memB l F = false := by
  unfold memB at h ⊢
  rw [List.any_eq_false] at h ⊢
  exact fun x hx => h x (hs x hx)
theorem uni_eq : ∀ (t : Ty), t.uni = true → ∀ x y : t.den, x = y
  | .un, _, x, y => rfl
  | .ns, _, x, y => rfl
  | .nz _, _, x, y => rfl
  | .sr _, _, x, y => rfl
  | .rf l p, h, x, y => by
    have go : ∀ (p : List Step), (p.all fun s => match s with | .f _ _ => true | _ => false) = true → ∀ x y : denP p, x = y := by
      intro p
      induction p with
      | nil => intro _ x y; rfl
      | cons s p ih =>
        intro h x y
        rw [List.all_cons, Bool.and_eq_true] at h
        cases s with
        | f k o => exact ih h.2 x y
        | x n s => exact absurd h.1 (by simp)
    exact go p h x y
  | .cl _ t, h, x, y => uni_eq t h x y
  | .i _, h, _, _ | .bl, h, _, _ | .str, h, _, _ | .pr _ _, h, _, _ | .ar _ _, h, _, _ | .sl _, h, _, _ | .vp _, h, _, _ | .np _ _, h, _, _ | .vm _, h, _, _ | .ep _ _ _, h, _, _ | .dp _ _, h, _, _ | .ss _ _, h, _, _ | .as _ _ _ _ _, h, _, _ | .ic _ _, h, _, _ | .tp _, h, _, _ | .mc _ _, h, _, _ | .sm _ _, h, _, _ | .ud, h, _, _ | .dead, h, _, _ => by simp [Ty.uni] at h
theorem uni_told {t : Ty} (h : t.uni = true) : t.told = true := by cases t <;> first | rfl | simp [Ty.uni] at h
theorem cOkX_spec {x y : FpX} {x' y' : Fp} (hx : FpRel x x') (hy : FpRel y y') (h : cOkX x y = true) : cKeep x' y' := by
  intro c hc q hq e
  obtain ⟨k, hk, k1, k2, k3, k4, k5, z, hz⟩ := hx.C c hc
  rw [hy.U] at hq
  obtain ⟨q0, hq0, rfl⟩ := List.mem_map.1 hq
  have h1 := List.all_eq_true.1 (List.all_eq_true.1 h k hk) q0 hq0
  rw [k1, ← e] at h1
  simp only [Nat.beq_refl, Bool.not_true, Bool.false_or] at h1
  split at h1
  · rename_i t y0 ho
    rw [Bool.and_eq_true] at h1
    obtain ⟨h2, h3⟩ := h1
    split at h3
    · rename_i r hr
      obtain ⟨hc1, pre, post, hlies, _⟩ := getP_spec k.p k.d ⟨t, y0⟩ r h2 hr
      have e1 := Ty.eq_of h3
      obtain ⟨rt, rx⟩ := r
      simp only at e1
      subst e1
      refine ⟨(rep t y0).cells, by simp only; rw [ho]; rfl, ?_⟩
      rw [← k2, hz, uni_eq _ k3 z rx]
      exact hlies.one k5 k4
    · cases h3
  · cases h1
theorem apartX_spec {x y : FpX} {x' y' : Fp} (hx : FpRel x x') (hy : FpRel y y') (h : apartX x y = true) : apartLocs x' y' = true := by
  simp only [apartX, apartLocs, Bool.and_eq_true, List.all_eq_true, Bool.not_eq_true'] at h ⊢
  obtain ⟨⟨⟨h1, h2⟩, h3⟩, h4⟩ := h
  refine ⟨⟨⟨fun q hq => ?_, fun q hq => ?_⟩, fun q hq => ?_⟩, @decide_eq_true _ (Classical.propDecidable _) (cOkX_spec hx hy h4)⟩
  · rw [hx.U] at hq
    obtain ⟨q0, hq0, rfl⟩ := List.mem_map.1 hq
    exact memB_sub (h1 q0 hq0) hy.F
  · rw [hy.U] at hq
    obtain ⟨q0, hq0, rfl⟩ := List.mem_map.1 hq
    exact memB_sub (h2 q0 hq0) hx.F
  · rw [hx.U] at hq
    obtain ⟨q0, hq0, rfl⟩ := List.mem_map.1 hq
    refine memB_sub (h3 q0 hq0) fun l hl => ?_
    obtain ⟨c, hc, rfl⟩ := List.mem_map.1 hl
    obtain ⟨k, hk, k1, _⟩ := hy.C c hc
    exact List.mem_map.2 ⟨k, hk, k1⟩
theorem pairsX_spec {ops : Array Oper} {L : List FpX} {L' : List Fp} (h : All2 FpRel L L') : pairsX ops L = true → pairs ops L' = true := by
  induction h with
  | nil => intro _; rfl
  | @cons x x' r r' hx hr ih =>
    intro hp
    simp only [pairsX, pairs, Bool.and_eq_true] at hp ⊢
    refine ⟨?_, ih hp.2⟩
    have h1 := hp.1
    clear hp ih
    induction hr with
    | nil => rfl
    | @cons y y' s s' hy hs ih2 =>
      simp only [List.all_cons, Bool.and_eq_true, Bool.or_eq_true] at h1 ⊢
      refine ⟨?_, ih2 h1.2⟩
      rcases h1.1 with h | h
      · left
        simp only [indepX, indep, Bool.and_eq_true] at h ⊢
        exact ⟨apartX_spec hx hy h.1, by rw [← hx.i, ← hy.i]; exact h.2⟩
      · right
        rw [← hx.i, ← hy.i]; exact h
theorem All2.app {α β : Type} {R : α → β → Prop} {xs xs' : List α} {ys ys' : List β} (h : All2 R xs ys) (h' : All2 R xs' ys') : All2 R (xs ++ xs') (ys ++ ys') := by
  induction h with
  | nil => exact h'
  | cons h _ ih => exact .cons h ih
section
variable {N : Nat} {f : List (Nat × XV)} {m : List (Nat × XO)} {ps : PS}
theorem look_cons (k : Nat) (v : XV) (f : List (Nat × XV)) (i : Nat) : look ((k, v) :: f) i = if k = i then v else look f i := by
  simp only [look]
  by_cases e : k = i
  · subst e; simp
  · rw [if_neg e]
    have : Nat.beq k i = false := by rw [← Bool.not_eq_true]; intro h; exact e (Nat.eq_of_beq_eq_true h)
    rw [this]; rfl
theorem lom_cons (k : Nat) (o : XO) (m : List (Nat × XO)) (l : Nat) : lom ((k, o) :: m) l = if k = l then o else lom m l := by
  simp only [lom]
  by_cases e : k = l
  · subst e; simp
  · rw [if_neg e]
    have : Nat.beq k l = false := by rw [← Bool.not_eq_true]; intro h; exact e (Nat.eq_of_beq_eq_true h)
    rw [this]; rfl
theorem Abs.set (A : Abs N f m ps) {l : Nat} (hl : l < ps.m.length) (o : XO) : Abs N f ((l, o) :: m) ⟨ps.f, ps.m.set l (absO o)⟩ := by
  refine ⟨A.fl, A.sl, fun j hj => ?_, fun j hj => ?_⟩
  · simp only [List.length_set] at hj
    rw [lom_cons, List.getElem?_set]
    by_cases e : l = j
    · subst e; simp [hl]
    · rw [if_neg e, if_neg e]; exact A.ob j hj
  · simp only [List.length_set] at hj
    rw [lom_cons, if_neg (by omega)]; exact A.fr j hj
theorem Abs.upd : ∀ (U : List (Nat × XO)) {m : List (Nat × XO)} {ps : PS}, Abs N f m ps → (∀ q ∈ U, q.1 < ps.m.length) → Abs N f (U.reverse ++ m) ⟨ps.f, updM ps.m (absU U)⟩
  | [], m, ps, A, _ => A
  | (l, o) :: U, m, ps, A, h => by
    have := Abs.upd U (A.set (h (l, o) (by simp)) o) (fun q hq => by simp only [List.length_set]; exact h q (by simp [hq]))
    rw [List.reverse_cons, List.append_assoc]
    exact this
theorem Abs.put (A : Abs N f m ps) {d : Option Nat} (hd : ∀ k, d = some k → k < N) {v : XV} {r : FV} (h : Le v.fv r) : Abs N (putX f d v) m ⟨putF ps.f d r, ps.m⟩ := by
  refine ⟨by simp only; cases d <;> simp [putF, A.fl], fun i => ?_, A.ob, A.fr⟩
  cases d with
  | none => exact A.sl i
  | some k =>
    simp only [putX, putF, look_cons]
    have hk := hd k rfl
    by_cases e : k = i
    · subst e
      have hk : k < ps.f.length := Nat.lt_of_lt_of_le hk A.fl
      rw [if_pos rfl, List.getD_eq_getElem?_getD, List.getElem?_set]
      simp [hk]
      exact h
    · rw [if_neg e, List.getD_eq_getElem?_getD, List.getElem?_set, if_neg e, ← List.getD_eq_getElem?_getD]
      exact A.sl i
theorem Abs.room (A : Abs N f m ps) (k : Nat) : Abs N f m ⟨ps.f, ps.m ++ List.replicate k .free⟩ := by
  refine ⟨A.fl, A.sl, fun j hj => ?_, fun j hj => ?_⟩
  · simp only [List.length_append, List.length_replicate] at hj
    show (ps.m ++ List.replicate k .free)[j]? = _
    rw [List.getElem?_append]
    split
    · exact A.ob j ‹_›
    · rw [A.fr j (by omega), List.getElem?_replicate, if_pos (by omega)]; rfl
  · simp only [List.length_append, List.length_replicate] at hj
    exact A.fr j (by omega)
theorem lom_app {U m : List (Nat × XO)} {l : Nat} (h : ∀ q ∈ U, q.1 ≠ l) : lom (U ++ m) l = lom m l := by
  induction U with
  | nil => rfl
  | cons q U ih =>
    obtain ⟨k, o⟩ := q
    rw [List.cons_append, lom_cons, if_neg (h (k, o) (by simp))]
    exact ih fun q hq => h q (by simp [hq])
theorem PRun.mem {P : Program} {T : List TI} {ops : Array Oper} {base : Nat} {st st2 : PS} {L : List Fp} (h : PRun P T ops base st L st2) : (∀ x ∈ L, x.U = []) → st2.m = st.m := by
  induction h with
  | nil => intro _; rfl
  | @cons st st1 st2 x r h1 h2 ih =>
    intro hU
    rw [ih fun y hy => hU y (by simp [hy])]
    obtain ⟨o, ho, e⟩ := h1.eq
    rw [e, hU x (by simp)]; rfl
theorem PRun.len {P : Program} {T : List TI} {ops : Array Oper} {base : Nat} {st st2 : PS} {L : List Fp} (h : PRun P T ops base st L st2) : st2.m.length = st.m.length := by
  induction h with
  | nil => rfl
  | @cons st st1 st2 x r h1 h2 ih =>
    obtain ⟨o, ho, e⟩ := h1.eq
    rw [ih, e]; exact updM_length _ _
theorem PRun.slots {P : Program} {T : List TI} {ops : Array Oper} {base : Nat} {st st2 : PS} {L : List Fp} (h : PRun P T ops base st L st2) {i : Nat} (hi : ∀ o ∈ ops.toList, o.dst ≠ some i) : st2.f.getD i .dead = st.f.getD i .dead := by
  induction h with
  | nil => rfl
  | @cons st st1 st2 x r h1 h2 ih =>
    obtain ⟨o, ho, e⟩ := h1.eq
    rw [ih, e]
    have ho := hi o (by simpa using Array.mem_of_getElem? ho)
    simp only [PS.act]
    cases hd : o.dst with
    | none => rfl
    | some k =>
      simp only [putF]
      rw [List.getD_eq_getElem?_getD, List.getElem?_set, if_neg (fun e => ho (by rw [hd, e])), ← List.getD_eq_getElem?_getD]
end
section
variable {α : Type} {E : Env} {N : Nat} {f : List (Nat × XV)} {m : List (Nat × XO)} {ps : PS} {nl : Nat} {K : KT α} {out : α} {call : CallT E}
theorem asRow_spec {l : Nat} : ∀ {U : List (Nat × XO)} {c : Ty} {xs : List c.den}, asRow l U = some ⟨c, xs⟩ → ∃ U1 e s U2, U = U1 ++ (l, .ob (.rw e s c) xs) :: U2 ∧ s = c.sz ∧ c.dat = true ∧ ∀ q ∈ U2, q.1 ≠ l
  | [], c, xs, h => by simp [asRow] at h
  | (k, o) :: r, c, xs, h => by
    have go : asRow l r = some ⟨c, xs⟩ → ∃ U1 e s U2, (k, o) :: r = U1 ++ (l, .ob (.rw e s c) xs) :: U2 ∧ s = c.sz ∧ c.dat = true ∧ ∀ q ∈ U2, q.1 ≠ l := fun h => by
      obtain ⟨U1, e, s, U2, h1, h2⟩ := asRow_spec h
      exact ⟨(k, o) :: U1, e, s, U2, by rw [h1]; rfl, h2⟩
    cases o with
    | ob q x =>
      cases q with
      | rw e s c' =>
        simp only [asRow] at h
        cases hb : (Nat.beq k l && Nat.beq s c'.sz && c'.dat && r.all (fun q => !Nat.beq q.1 l)) with
        | false => rw [hb] at h; exact go h
        | true =>
          rw [hb] at h
          simp only [cond_true, Option.some.injEq] at h
          simp only [Bool.and_eq_true, List.all_eq_true, Bool.not_eq_true'] at hb
          cases h
          refine ⟨[], e, s, r, by rw [Nat.eq_of_beq_eq_true hb.1.1.1]; rfl, Nat.eq_of_beq_eq_true hb.1.1.2, hb.1.2, fun q hq e => ?_⟩
          have := hb.2 q hq
          rw [e] at this; simp at this
      | _ => exact go h
    | _ => exact go h
theorem asData_act (C : Ctx E N f m ps nl) {op : Op} {bd : List Nat} {d : Option Nat} {v : XV} {U : List (Nat × XO)} {F : List Nat} (hA : Act1 E ps nl op v U F) (h : asData bd d K v U F = some out) : ∃ v' U' F', Act1 E ps nl op v' U' F' ∧ K v' U' F' = some out := by
  unfold asData at h
  split at h
  · rename_i k
    cases hk : memN k bd with
    | false => rw [hk] at h; exact ⟨_, _, _, hA, h⟩
    | true =>
      rw [hk] at h
      simp only [cond_true] at h
      split at h
      · rename_i l x
        split at h
        · rename_i c xs hr
          refine ⟨_, _, _, ?_, h⟩
          obtain ⟨U1, e, s, U2, hU, hs, hd, hne⟩ := asRow_spec hr
          obtain ⟨⟨r, F', hp, hle, hF⟩, hlt⟩ := hA
          have hr : r = .srf l := hle.resolve_left (told_fv (.sr l) x rfl)
          subst hr
          have hll : l < ps.m.length := by
            have := hlt (l, .ob (.rw e s c) xs) (by rw [hU]; simp)
            have h2 := C.room
            simp only at this
            omega
          have eU : absU U = absU U1 ++ (l, .row e s (List.map (fun y : c.den => (rep c y).pv) xs)) :: absU U2 := by
            rw [hU]; simp only [absU, List.map_append, List.map_cons, absO]
          refine ⟨⟨.d (.sl (List.map (fun y : c.den => (rep c y).pv) xs)), F', ?_, .inr rfl, hF⟩, fun q hq => ?_⟩
          · have e2 : absU (U ++ [(l, XO.none)]) = absU U1 ++ (l, .row e s (List.map (fun y : c.den => (rep c y).pv) xs)) :: absU U2 ++ [(l, .none)] := by
              rw [show absU (U ++ [(l, XO.none)]) = absU U ++ [(l, .none)] by simp [absU, absO], eU]
            rw [e2]
            refine .fz hll (fun q hq => ?_) (by rw [← eU]; exact hp)
            obtain ⟨q', hq', rfl⟩ := List.mem_map.1 hq
            exact hne q' hq'
          · rcases List.mem_append.1 hq with hq | hq
            · exact hlt q hq
            · rw [List.mem_singleton.1 hq]
              exact hlt (l, .ob (.rw e s c) xs) (by rw [hU]; simp)
        · exact ⟨_, _, _, hA, h⟩
      · exact ⟨_, _, _, hA, h⟩
  · exact ⟨_, _, _, hA, h⟩
theorem asClip_act (C : Ctx E N f m ps nl) {op : Op} {cp : List Nat} {d : Option Nat} {v : XV} {U : List (Nat × XO)} {F : List Nat} (hA : Act1 E ps nl op v U F) (h : asClip cp m nl d K v U F = some out) : ∃ v' U' F', Act1 E ps nl op v' U' F' ∧ K v' U' F' = some out := by
  unfold asClip at h
  split at h
  · rename_i k
    cases hk : memN k cp with
    | false => rw [hk] at h; exact ⟨_, _, _, hA, h⟩
    | true =>
      rw [hk] at h
      simp only [cond_true] at h
      split at h
      · rename_i l s0 x
        split at h
        · rename_i e s c xs ho
          obtain ⟨hb, h⟩ := cond_some h
          simp only [Bool.and_eq_true] at hb
          obtain ⟨⟨b1, b2⟩, b3⟩ := hb
          refine ⟨_, _, _, ?_, h⟩
          obtain ⟨⟨r, F', hp, hle, hF⟩, hlt⟩ := hA
          have hr : r = _ := hle.resolve_left (told_fv (.ss l s0) x rfl)
          subst hr
          have hm := C.at ho (by simp)
          have e1 := Nat.eq_of_beq_eq_true b1
          have e2 := Nat.eq_of_beq_eq_true b2
          have b3 := Nat.le_of_ble_eq_true b3
          subst e1
          have hp : PAct E.P E.T (ev ps.f) ps.m nl op (.ssl l (Prod.fst (α := Nat) (β := Nat) x) (Prod.snd (α := Nat) (β := Nat) x) s) [] F' := hp
          rw [e2] at hp
          refine ⟨⟨.srf nl, nl :: l :: F', ?_, .inr rfl, fun q hq => ?_⟩, fun q hq => ?_⟩
          · have e3 : absU [(l, XO.none), (nl, .ob (.rw e s c) (List.take (α := c.den) (Prod.snd (α := Nat) (β := Nat) x) xs))] = [(l, .none), (nl, .row e s ((List.map (fun y : c.den => (rep c y).pv) xs).take (Prod.snd (α := Nat) (β := Nat) x)))] := by
              exact congrArg (fun L => [(l, PO.none), (nl, PO.row e s L)]) (List.map_take (f := fun y : c.den => (rep c y).pv) (l := xs) (i := Prod.snd (α := Nat) (β := Nat) x))
            rw [e3]
            exact PAct.cp hm C.free0 (Nat.le_trans b3 (Nat.le_of_eq (List.length_map (as := (xs : List c.den)) (fun y : c.den => (rep c y).pv)).symm)) hp
          · simp only [List.mem_cons] at hq ⊢
            rcases hq with h | h | h
            · exact .inl h
            · exact .inr (.inl h)
            · exact .inr (.inr (hF q h))
          · simp only [List.mem_cons, List.not_mem_nil, or_false] at hq
            rcases hq with rfl | rfl
            · exact C.old ho (by simp)
            · simp
        · cases h
      · exact ⟨_, _, _, hA, h⟩
  · exact ⟨_, _, _, hA, h⟩
theorem xguard_spec (A : Abs N f m ps) {ops : Array Oper} {o : Oper} {K : Bool → List (Nat × XV) → Option α} (h : xguard ops f o K = some out) : ∃ b f', wantedP ops ps.f o = some b ∧ Abs N f' m ps ∧ K b f' = some out := by
  unfold xguard at h
  unfold wantedP
  split at h
  · rename_i hg; rw [hg]; exact ⟨true, f, rfl, A, h⟩
  · rename_i j want hg
    rw [hg]
    simp only
    split at h
    · rename_i d hd
      rw [hd]
      simp only
      have hs := A.sl d
      split at h
      · rename_i v hv
        rw [hv] at hs
        have hs := hs.resolve_left (told_fv .bl v rfl)
        have hs : ps.f.getD d .dead = .d (.v (.bool v)) := hs
        rw [hs]
        have A' : Abs N ((d, ⟨.bl, v⟩) :: f) m ps := by
          refine ⟨A.fl, fun i => ?_, A.ob, A.fr⟩
          rw [look_cons]
          by_cases e : d = i
          · subst e; rw [if_pos rfl, ← hv]; exact A.sl d
          · rw [if_neg e]; exact A.sl i
        cases v with
        | true => exact ⟨want, _, by cases want <;> rfl, A', h⟩
        | false => exact ⟨!want, _, by cases want <;> rfl, A', h⟩
      · rename_i v hv
        rw [hv] at hs
        have hs := hs.resolve_left (told_fv .ud v rfl)
        have hs : ps.f.getD d .dead = .d (.tup []) := hs
        rw [hs]
        exact ⟨false, f, rfl, A, h⟩
      · cases h
    · cases h
theorem fpx_spec (C : Ctx E N f m ps nl) {ops : Array Oper} {base : Nat} {o : Oper} {i : Nat} {v : XV} {U : List (Nat × XO)} {F F' : List Nat} {rr : FV} (hnl : nl = base + 16 * i) (ho : ops[i]? = some o) (hw : wantedP ops ps.f o = some true) (hp : PAct E.P E.T (ev ps.f) ps.m nl o.op rr (absU U) F') (hle : Le v.fv rr) (hF : ∀ l ∈ F', l ∈ F) :
    ∃ y : Fp, FpRel (fpx E.T f m i o.op v U F) y ∧ PStep E.P E.T ops base ps y (ps.act o.dst rr (absU U)) ∧ y.i = i := by
  have dflt : ∃ y : Fp, FpRel ⟨i, U, F, []⟩ y ∧ PStep E.P E.T ops base ps y (ps.act o.dst rr (absU U)) ∧ y.i = i := by
    subst hnl
    exact ⟨⟨i, true, rr, absU U, F', []⟩, ⟨rfl, rfl, hF, fun c hc => by cases hc⟩, .act ps i o rr (absU U) F' ho hw hp, rfl⟩
  unfold fpx
  split
  · rename_i t x hop
    split
    · rename_i l p d hx
      split
      · rename_i c y hy
        split
        · rename_i r hr
          cases hb : (r.t.beq v.t && v.t.uni && U.isEmpty && ldOk E.T t r.t && c.cel && !r.t.agg) with
          | false => exact dflt
          | true =>
            simp only [Bool.and_eq_true, Bool.not_eq_true'] at hb
            obtain ⟨⟨⟨⟨⟨b1, b2⟩, b3⟩, b4⟩, b5⟩, b6⟩ := hb
            have hU : U = [] := by simpa using b3
            subst hU
            obtain ⟨vt, vx⟩ := v
            obtain ⟨rt, rx⟩ := r
            have e1 : rt = vt := Ty.eq_of b1
            subst e1
            have hrr : rr = (rep rt vx).fv := hle.resolve_left (told_fv rt vx (uni_told b2))
            subst hrr
            obtain ⟨hc1, pre, post, hlies, _⟩ := getP_spec p d ⟨c, y⟩ ⟨rt, rx⟩ b5 hr
            have hm := C.at hy (by simp)
            have htg : tagg E.T t = some false := by
              rcases ldOk_cases b4 with ⟨h1, _⟩ | ⟨_, h2, _⟩
              · exact h1
              · rw [b6] at h2; cases h2
            refine ⟨⟨i, true, (rep rt vx).fv, [], [], [(l, offP p d, (rep rt vx).fv)]⟩, ⟨rfl, rfl, fun l hl => (by cases hl), fun q hq => ?_⟩, ?_, rfl⟩
            · rw [List.mem_singleton.1 hq]
              exact ⟨⟨l, p, d, rt⟩, by simp, rfl, rfl, b2, hc1, b6, vx, rfl⟩
            · refine .ld ps i o _ t x l (offP p d) _ ho hw hop htg (ev_of C.toAbs hx rfl) hm ?_
              rw [uni_eq rt b2 vx rx]
              exact hlies.one b6 hc1
        · exact dflt
      · exact dflt
    · exact dflt
  · exact dflt
theorem xops_good (hE : EnvOk E) (hc : CallOk E call) {kp bd cp : List Nat} {ops : Array Oper} {base : Nat} (hdst : dstOk N ops = true) : ∀ (os : List Oper) (i : Nat) (f : List (Nat × XV)) (m : List (Nat × XO)) (L : List FpX) (K : List (Nat × XV) → List (Nat × XO) → List FpX → Option α) (ps : PS),
    xops E call kp bd cp ops base os i f m L K = some out → (∀ j, ops[i + j]? = os[j]?) → Abs N f m ps → base + 16 * (i + os.length) ≤ ps.m.length → (∀ l, base + 16 * i ≤ l → lom m l = .free) →
    ∃ Lp ps2 f' m' Lx, PRun E.P E.T ops base ps Lp ps2 ∧ Lp.map (·.i) = List.range' i os.length ∧ All2 FpRel Lx Lp ∧ Abs N f' m' ps2 ∧ (∀ k ∈ kp, lom m' k = lom m k) ∧ K f' m' (Lx.reverse ++ L) = some out
  | [], i, f, m, L, K, ps, h, hl, A, hr, hf => ⟨[], ps, f, m, [], .nil _, rfl, .nil, A, fun _ _ => rfl, h⟩
  | o :: r, i, f, m, L, K, ps, h, hl, A, hr, hf => by
    have ho : ops[i]? = some o := by have := hl 0; simpa using this
    have hl' : ∀ j, ops[i + 1 + j]? = r[j]? := fun j => by have := hl (j + 1); rw [Nat.add_assoc, Nat.add_comm 1 j]; simpa using this
    simp only [xops] at h
    obtain ⟨b, f1, hw, A1, h⟩ := xguard_spec A h
    simp only [List.length_cons] at hr
    have hdo := dstOk_spec hdst ho
    cases b with
    | true =>
      simp only at h
      have C : Ctx E N f1 m ps (base + 16 * i) := { A1 with hE := hE, room := by omega, fresh := hf }
      obtain ⟨v, U, F, hA, h⟩ := xop_good C hc h
      obtain ⟨v, U, F, hA, h⟩ := asData_act C hA h
      obtain ⟨v, U, F, hA, h⟩ := asClip_act C hA h
      obtain ⟨hkp, h⟩ := cond_some h
      obtain ⟨⟨rr, F', hp, hle, hF⟩, hlt⟩ := hA
      have hkp : ∀ q ∈ U, memN q.1 kp = false := by
        intro q hq
        have := List.all_eq_true.1 hkp q hq
        simpa using this
      obtain ⟨y, hy1, hy2, hy3⟩ := fpx_spec C rfl ho hw hp hle hF
      have A2 := (A1.upd U fun q hq => by have := hlt q hq; omega).put hdo hle
      have hlen : (updM ps.m (absU U)).length = ps.m.length := updM_length _ _
      obtain ⟨Lp, ps2, f', m', Lx, r1, r2, r3, r4, r5, r6⟩ := xops_good hE hc hdst r (i + 1) _ _ _ K _ h hl' A2 (by simp only [hlen]; omega) (fun l hl => by
        rw [lom_app fun q hq => by have := hlt q (by simpa using hq); omega]
        exact hf l (by omega))
      refine ⟨y :: Lp, ps2, f', m', _ :: Lx, .cons hy2 r1, by simp [r2, List.range', hy3], .cons hy1 r3, r4, fun k hk => ?_, ?_⟩
      · rw [r5 k hk, lom_app fun q hq e => ?_]
        have := hkp q (by simpa using hq)
        rw [e] at this
        have h2 := memN_iff.2 hk
        rw [this] at h2; cases h2
      · rw [List.reverse_cons, List.append_assoc]; exact r6
    | false =>
      simp only at h
      have A2 : Abs N (putX f1 o.dst ⟨.ud, ()⟩) m ⟨putF ps.f o.dst fundef, ps.m⟩ := A1.put hdo (.inr rfl)
      obtain ⟨Lp, ps2, f', m', Lx, r1, r2, r3, r4, r5, r6⟩ := xops_good hE hc hdst r (i + 1) _ _ _ K _ h hl' A2 (by simp only; omega) (fun l hl => hf l (by omega))
      refine ⟨⟨i, false, fundef, [], [], []⟩ :: Lp, ps2, f', m', ⟨i, [], [], []⟩ :: Lx, .cons (.pass ps i o ho hw) r1, by simp [r2, List.range'], .cons ⟨rfl, rfl, by simp, fun c hc => by cases hc⟩ r3, r4, r5, ?_⟩
      rw [List.reverse_cons, List.append_assoc]; exact r6
/-- the machine in this state of the interpreter -/
def Sim4 (N : Nat) (w0 : Cx) (st : XS) (a : Act) (w : World) : Prop := ∃ ps, Abs N st.f st.m ps ∧ ps.m.length = st.n ∧ Sim N w0 ps a w
/-- a region -/
theorem xregion_good (hE : EnvOk E) (hc : CallOk E call) {kp bd cp : List Nat} {id : Nat} {ops : Array Oper} {draw : Bool} {st : XS} {K : List (Nat × XV) → List (Nat × XO) → List FpX → Option α} (h : xregion E call kp bd cp N ops draw st K = some out)
    {w0 : Cx} {a : Act} {w : World} (S : Sim4 N w0 st a w) {Q : Exit → Act → World → Prop} (hQ : ∀ f' m' L a' w', (∃ ps ps2, Abs N st.f st.m ps ∧ ps.m.length = st.n + 16 * ops.size ∧ Abs N f' m' ps2 ∧ Sim N w0 ps2 a' w' ∧ (L.all (fun q => q.V.isEmpty) = true → ps2.m = ps.m) ∧ ps2.m.length = ps.m.length ∧ ∀ i, (∀ o ∈ ops.toList, o.dst ≠ some i) → ps2.f.getD i .dead = ps.f.getD i .dead) → (∀ k ∈ kp, lom m' k = lom st.m k) → K f' m' L = some out → Q .normal a' w') :
    (Code.region id ops draw).wp E.P Q a w := by
  obtain ⟨ps, A, hn, S⟩ := S
  unfold xregion at h
  obtain ⟨hdst, h⟩ := cond_some h
  have A1 := A.room (16 * ops.size)
  obtain ⟨Lp, ps2, f', m', Lx, r1, r2, r3, r4, r5, r6⟩ := xops_good hE hc hdst ops.toList 0 st.f st.m [] _ _ h (fun j => by simp) A1 (by simp [hn]) (fun l hl => A.fr l (by omega))
  obtain ⟨hb, hK⟩ := cond_some r6
  rw [List.append_nil] at hb hK
  refine region_wp hE.hT hdst S (by rw [hn]; exact r1) (by rw [r2]; simp [List.range_eq_range']) (fun e => ?_) (fun a' w' S' => ?_)
  · subst e
    simp only [Bool.not_true, Bool.false_or, Bool.and_eq_true, List.reverse_reverse] at hb
    exact ⟨hE.hm, hb.1, pairsX_spec r3 hb.2⟩
  · refine hQ f' m' _ a' w' ⟨_, ps2, A1, by simp [hn], r4, S', fun hU => r1.mem ?_, r1.len, fun i hi => r1.slots hi⟩ r5 hK
    have : Lx.all (fun q => q.V.isEmpty) = true := by rw [List.all_reverse] at hU; exact hU
    clear hK hb r6 r2 r1 hU hQ h
    induction r3 with
    | nil => intro z hz; cases hz
    | @cons x y xs ys hx hr ih =>
      rw [List.all_cons, Bool.and_eq_true] at this
      intro z hz
      rcases List.mem_cons.1 hz with rfl | hz
      · have h1 := hx.U
        have h2 : x.V = [] := by simpa using this.1
        rw [h2] at h1
        exact h1
      · exact ih this.2 z hz
end
end Go.Proofs.YtnkdanobhgofbaaGreatDoor.pv
