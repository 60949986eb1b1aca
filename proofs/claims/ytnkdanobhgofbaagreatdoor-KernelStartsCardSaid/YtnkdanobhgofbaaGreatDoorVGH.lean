/- Values retold: what is known of a value may be told in other words. -/
import Derived.Test.YtnkdanobhgofbaaGreatDoorVFF
namespace Go.Proofs.YtnkdanobhgofbaaGreatDoor.pv
set_option linter.all false
open Go.RowKit

section
variable {A : Nat → Bool} {hd : Nat → Value} {ow : Ow} {w : World}
theorem RF_mkAgg {cs : List FV} {u : Value} : RF A hd ow w (mkAgg cs) u ↔ ∃ vs : List Value, u = .agg vs.toArray ∧ RFL A hd ow w cs vs := by
  constructor
  · intro h
    unfold mkAgg at h
    split at h
    · rename_i xs hx
      rw [allD_eq hx]
      simp only [RF, R] at h
      obtain ⟨vs, e, h⟩ := h
      exact ⟨vs, e, RFL.of_RL h⟩
    · simpa only [RF] using h
  · rintro ⟨vs, rfl, h⟩
    exact RF.mkAgg h
theorem RF_mkClo {f : FuncId} {cs : List FV} {u : Value} : RF A hd ow w (mkClo f cs) u ↔ ∃ vs : List Value, u = .func (.func f) #[] vs.toArray ∧ RFL A hd ow w cs vs := by
  constructor
  · intro h
    unfold mkClo at h
    split at h
    · rename_i xs hx
      rw [allD_eq hx]
      simp only [RF, R] at h
      obtain ⟨vs, e, h⟩ := h
      exact ⟨vs, e, RFL.of_RL h⟩
    · simpa only [RF] using h
  · rintro ⟨vs, rfl, h⟩
    exact RF.mkClo h
theorem RFL_append {xs ys : List FV} {vs : List Value} : RFL A hd ow w (xs ++ ys) vs ↔ ∃ a b, vs = a ++ b ∧ RFL A hd ow w xs a ∧ RFL A hd ow w ys b := by
  constructor
  · intro h
    induction xs generalizing vs with
    | nil => exact ⟨[], vs, rfl, by simp [RFL], h⟩
    | cons x xs ih =>
      simp only [List.cons_append, RFL] at h
      obtain ⟨v, r, rfl, h1, h2, h3⟩ := h
      obtain ⟨a, b, rfl, h4, h5⟩ := ih h3
      exact ⟨v :: a, b, rfl, by simp only [RFL]; exact ⟨v, a, rfl, h1, h2, h4⟩, h5⟩
  · rintro ⟨a, b, rfl, h1, h2⟩
    exact RFL.append h1 h2
theorem RFL_one {x : FV} {vs : List Value} : RFL A hd ow w [x] vs ↔ ∃ v, vs = [v] ∧ RF A hd ow w x v ∧ v.oneCell' = true := by
  constructor
  · intro h
    simp only [RFL] at h
    obtain ⟨v, r, rfl, h1, h2, rfl⟩ := h
    exact ⟨v, rfl, h1, h2⟩
  · rintro ⟨v, rfl, h1, h2⟩
    simp only [RFL]
    exact ⟨v, [], rfl, h1, h2, rfl⟩
/-- what is known of a value, in other words -/
structure ImR (A : Nat → Bool) (hd : Nat → Value) (ow : Ow) (w : World) (p q : Rp) : Prop where
  f : ∀ u, RF A hd ow w p.fv u → RF A hd ow w q.fv u
  c : ∀ us, RFL A hd ow w p.cells us → RFL A hd ow w q.cells us
  p : ∀ us, RFT A hd ow w p.parts us → RFT A hd ow w q.parts us
theorem ImR.refl (p : Rp) : ImR A hd ow w p p := ⟨fun _ h => h, fun _ h => h, fun _ h => h⟩
theorem ImR.one {x y : FV} (h : ∀ u, RF A hd ow w x u → RF A hd ow w y u) : ImR A hd ow w (Rp.one x) (Rp.one y) :=
  ⟨h, fun us hu => by
    obtain ⟨v, rfl, h1, h2⟩ := RFL_one.1 hu
    exact RFL_one.2 ⟨v, rfl, h v h1, h2⟩, fun us hu => hu⟩
theorem ImR.one' {p q : Rp} (hp : p.cells = [p.fv]) (hq : q.cells = [q.fv]) (he : p.parts = q.parts) (h : ∀ u, RF A hd ow w p.fv u → RF A hd ow w q.fv u) : ImR A hd ow w p q :=
  ⟨h, fun us hu => by
    rw [hp] at hu
    rw [hq]
    obtain ⟨v, rfl, h1, h2⟩ := RFL_one.1 hu
    exact RFL_one.2 ⟨v, rfl, h v h1, h2⟩, fun us hu => by rw [← he]; exact hu⟩
theorem ImR.pr {a b c d : Ty} {x : a.den} {y : b.den} {z : c.den} {t : d.den} (h : ImR A hd ow w (rep a x) (rep c z)) (k : ImR A hd ow w (rep b y) (rep d t)) :
    ImR A hd ow w (rep (.pr a b) (pmk x y)) (rep (.pr c d) (pmk z t)) := by
  have hc : ∀ us, RFL A hd ow w ((rep a x).cells ++ (rep b y).cells) us → RFL A hd ow w ((rep c z).cells ++ (rep d t).cells) us := fun us hu => by
    obtain ⟨p, q, rfl, h1, h2⟩ := RFL_append.1 hu
    exact RFL_append.2 ⟨p, q, rfl, h.c _ h1, k.c _ h2⟩
  refine ⟨fun u hu => ?_, hc, fun us hu => ?_⟩
  · have hu : RF A hd ow w (mkAgg ((rep a x).cells ++ (rep b y).cells)) u := hu
    obtain ⟨vs, rfl, h1⟩ := RF_mkAgg.1 hu
    exact RF_mkAgg.2 ⟨vs, rfl, hc vs h1⟩
  · have hu : RFT A hd ow w ((rep a x).fv :: (rep b y).parts) us := hu
    simp only [RFT] at hu
    obtain ⟨v, r, rfl, h1, h2⟩ := hu
    show RFT A hd ow w ((rep c z).fv :: (rep d t).parts) _
    simp only [RFT]
    exact ⟨v, r, rfl, h.f _ h1, k.p _ h2⟩
theorem ImR.cl {t u : Ty} {x : t.den} {y : u.den} (f : FuncId) (h : ImR A hd ow w (rep t x) (rep u y)) : ImR A hd ow w (rep (.cl f t) x) (rep (.cl f u) y) :=
  ImR.one' rfl rfl rfl fun v hv => by
    have hv : RF A hd ow w (mkClo f (rep t x).cells) v := hv
    obtain ⟨vs, rfl, h1⟩ := RF_mkClo.1 hv
    exact RF_mkClo.2 ⟨vs, rfl, h.c _ h1⟩
theorem ImR.ic {t u : Ty} {x : t.den} {y : u.den} (i : Nat) (h : ImR A hd ow w (rep t x) (rep u y)) : ImR A hd ow w (rep (.ic i t) x) (rep (.ic i u) y) :=
  ImR.one' rfl rfl rfl fun v hv => by
    have hv : RF A hd ow w (.ifc i (rep t x).fv) v := hv
    show RF A hd ow w (.ifc i (rep u y).fv) v
    simp only [RF] at hv ⊢
    obtain ⟨z, rfl, h1⟩ := hv
    exact ⟨z, rfl, h.f _ h1⟩
theorem ImR.tp {t u : Ty} {x : t.den} {y : u.den} (h : ImR A hd ow w (rep t x) (rep u y)) : ImR A hd ow w (rep (.tp t) x) (rep (.tp u) y) :=
  ⟨fun v hv => by
    have hv : RF A hd ow w (.tup (rep t x).parts) v := hv
    show RF A hd ow w (.tup (rep u y).parts) v
    simp only [RF] at hv ⊢
    obtain ⟨vs, rfl, h1⟩ := hv
    exact ⟨vs, rfl, h.p _ h1⟩, fun us h => h, fun us h => h⟩
theorem ImR.ar {n m : Nat} {t u : Ty} {x : (Ty.ar n t).den} {y : (Ty.ar m u).den} (f : t.den → u.den) (hy : Subtype.val (p := fun xs : List u.den => xs.length = m) y = (Subtype.val (p := fun xs : List t.den => xs.length = n) x).map f) (h : ∀ z, ImR A hd ow w (rep t z) (rep u (f z))) :
    ImR A hd ow w (rep (.ar n t) x) (rep (.ar m u) y) := by
  have hc : ∀ (xs : List t.den) (us : List Value), RFL A hd ow w (xs.flatMap fun z => (rep t z).cells) us → RFL A hd ow w ((xs.map f).flatMap fun z => (rep u z).cells) us := by
    intro xs
    induction xs with
    | nil => intro us h; exact h
    | cons z zs ih =>
      intro us hu
      simp only [List.flatMap_cons, List.map_cons] at hu ⊢
      obtain ⟨p, q, rfl, h1, h2⟩ := RFL_append.1 hu
      exact RFL_append.2 ⟨p, q, rfl, (h z).c _ h1, ih _ h2⟩
  have hc' : ∀ us, RFL A hd ow w (rep (.ar n t) x).cells us → RFL A hd ow w (rep (.ar m u) y).cells us := fun us hu => by
    show RFL A hd ow w ((Subtype.val (p := fun xs : List u.den => xs.length = m) y).flatMap fun z => (rep u z).cells) us
    rw [hy]
    exact hc _ us hu
  exact ⟨fun v hv => by
    have hv : RF A hd ow w (mkAgg (rep (.ar n t) x).cells) v := hv
    obtain ⟨vs, rfl, h1⟩ := RF_mkAgg.1 hv
    show RF A hd ow w (mkAgg (rep (.ar m u) y).cells) _
    exact RF_mkAgg.2 ⟨vs, rfl, hc' _ h1⟩, hc', fun us h => h⟩
end
/-- leaves, as far as references go -/
def Ty.leaf : Ty → Bool
  | .pr _ _ | .cl _ _ | .ic _ _ | .tp _ => false
  | _ => true
section
variable {A : Nat → Bool} {hd : Nat → Value} {ow : Ow} {w : World}
theorem trV_im {f : (t : Ty) → t.den → XV} (hf : ∀ t x, t.leaf = true → ImR A hd ow w (rep t x) (f t x).rep) : ∀ (t : Ty) (x : t.den), ImR A hd ow w (rep t x) (trV f t x).rep
  | .pr a b, x => ImR.pr (trV_im hf a (p1 x)) (trV_im hf b (p2 x))
  | .cl g t, x => ImR.cl g (trV_im hf t x)
  | .ic i t, x => ImR.ic i (trV_im hf t x)
  | .tp t, x => ImR.tp (trV_im hf t x)
  | .i _, x | .bl, x | .str, x | .un, x | .ar _ _, x | .sl _, x | .ns, x | .nz _, x | .vp _, x | .np _ _, x | .vm _, x | .rf _ _, x | .ep _ _ _, x | .dp _ _, x | .sr _, x | .ss _ _, x | .as _ _ _ _ _, x | .mc _ _, x | .sm _ _, x | .ud, x | .dead, x => hf _ x rfl
theorem idF_spec {t u : Ty} {f : t.den → u.den} (h : idF t u = some f) : ∃ e : t = u, ∀ x, f x = e ▸ x := by
  unfold idF at h
  split at h
  · rename_i hb
    cases h
    exact ⟨Ty.eq_of hb, fun _ => rfl⟩
  · cases h
theorem idF_im {t u : Ty} {f : t.den → u.den} (h : idF t u = some f) : (∀ x, ImR A hd ow w (rep t x) (rep u (f x))) ∧ u.sz = t.sz ∧ u.cel = t.cel ∧ u.agg = t.agg := by
  obtain ⟨e, hf⟩ := idF_spec h
  subst e
  exact ⟨fun x => by rw [hf]; exact ImR.refl _, rfl, rfl, rfl⟩
theorem cvF_im : ∀ (t u : Ty) (f : t.den → u.den), cvF t u = some f → (∀ x, ImR A hd ow w (rep t x) (rep u (f x))) ∧ u.sz = t.sz ∧ u.cel = t.cel ∧ u.agg = t.agg := by
  intro t
  induction t with
  | pr a b iha ihb =>
    intro u f h
    cases u with
    | pr c d =>
      simp only [cvF] at h
      split at h
      · cases h; exact idF_im ‹_›
      · split at h
        · rename_i g k hg hk
          cases h
          obtain ⟨a1, a2, a3, a4⟩ := iha _ _ hg
          obtain ⟨b1, b2, b3, b4⟩ := ihb _ _ hk
          exact ⟨fun x => ImR.pr (a1 (p1 x)) (b1 (p2 x)), by simp only [Ty.sz, a2, b2], by simp only [Ty.cel, a3, b3], rfl⟩
        · cases h
    | _ => simp only [cvF] at h; exact idF_im h
  | ar n t ih =>
    intro u f h
    cases u with
    | ar m u =>
      simp only [cvF] at h
      split at h
      · cases h; exact idF_im ‹_›
      · split at h
        · rename_i hb
          have e := Nat.eq_of_beq_eq_true hb
          subst e
          split at h
          · rename_i g hg
            cases h
            obtain ⟨a1, a2, a3, a4⟩ := ih _ _ hg
            exact ⟨fun x => ImR.ar g rfl a1, by simp only [Ty.sz, a2], by simp only [Ty.cel, a3], rfl⟩
          · cases h
        · cases h
    | _ => simp only [cvF] at h; exact idF_im h
  | tp t ih =>
    intro u f h
    cases u with
    | tp u =>
      simp only [cvF] at h
      split at h
      · rename_i g hg
        cases h
        exact ⟨fun x => ImR.tp ((ih _ _ hg).1 x), rfl, rfl, rfl⟩
      · cases h
    | _ => simp only [cvF] at h; exact idF_im h
  | ns =>
    intro u f h
    cases u with
    | sl u =>
      simp only [cvF] at h
      cases h
      refine ⟨fun x => ImR.one' rfl rfl rfl fun v hv => ?_, rfl, rfl, rfl⟩
      have hv : RF A hd ow w (.d vnil) v := hv
      show RF A hd ow w (.d (.sl [])) v
      simp only [RF] at hv ⊢
      exact R.nsl _ _ hv
    | _ => simp only [cvF] at h; exact idF_im h
  | nz z =>
    intro u f h
    cases z <;> cases u <;> first
      | (simp only [cvF] at h; exact idF_im h)
      | (simp only [cvF] at h; cases h; exact ⟨fun x => ImR.refl _, rfl, rfl, rfl⟩)
  | np g p =>
    intro u f h
    cases p with
    | nil =>
      cases u with
      | vp g' =>
        simp only [cvF] at h
        obtain ⟨h1, h2⟩ := cond_some h
        cases h2
        have e := Nat.eq_of_beq_eq_true h1
        subst e
        exact ⟨fun x => ImR.refl _, rfl, rfl, rfl⟩
      | _ => simp only [cvF] at h; exact idF_im h
    | cons s p => cases u <;> (simp only [cvF] at h; exact idF_im h)
  | _ => intro u f h; cases u <;> (simp only [cvF] at h; exact idF_im h)
end
end Go.Proofs.YtnkdanobhgofbaaGreatDoor.pv
namespace Go.Proofs.YtnkdanobhgofbaaGreatDoor.pv
set_option linter.all false
open Go.RowKit

section
variable {n : Nat} {w0 : Cx} {st st' : PS} {a : Act} {w : World} {ow : Ow} {hd : Nat → Value}
/-- a variable given up is a pointer to data at rest -/
theorem RO.box_rest {A : Nat → Bool} {l : Nat} {xs : List PV} (h : RO A hd w0 ow w (hd l) (.box (xs.map .d))) : ∃ b, hd l = .pointer (some ⟨b, 0, none⟩) ∧ ∀ off, R (ow.set fun b => if b ∈ blocksOf (hd l) then false else ow b) w (.iptr xs off) (.pointer (some ⟨b, off, none⟩)) := by
  haveI hph : Ph ow (ow.set fun b => if b ∈ blocksOf (hd l) then false else ow b) := Ph.set _ _
  have hk : Kp ow w (ow.set fun b => if b ∈ blocksOf (hd l) then false else ow b) w := by
    refine ⟨Nat.le_refl _, fun b _ hb => ?_, fun _ _ _ => rfl⟩
    show (if b ∈ blocksOf (hd l) then false else ow b) = false
    split
    · rfl
    · exact hb
  obtain ⟨b, vals, t, h1, h2, h3, h4, h5⟩ := h
  refine ⟨b, h1, fun off => ?_⟩
  simp only [R]
  refine ⟨b, 0, vals.toList, by simp, (Array.getElem?_eq_some_iff.1 h4).1, ?_, fun j v hv => ?_, RL.mono hk _ _ (RFL.to_RL h5)⟩
  · show (if b ∈ blocksOf (hd l) then false else ow b) = false
    rw [if_pos (by rw [h1]; simp [blocksOf, blockOf])]
  · unfold World.cell?
    simp only [h4]
    simpa using hv
/-- an object at another place -/
theorem SimW.shift (S : SimW n w0 st a w ow hd) {l nl : Nat} {o : PO} (hm : st.m[l]? = some o) (hlv : o.live = true) (ht : o.tag = none) (hl : st.m[nl]? = some .free) (ho : ∀ c ow w h A A' hd', (∀ j, A j = true → A' j = true ∧ hd' j = hd j) → RO A hd c ow w h o → RO A' hd' c ow w h o) :
    SimW n w0 ⟨st.f, (st.m.set l .none).set nl o⟩ a w ow (upd hd nl (hd l)) ∧ (∀ j, al st.m j = true → al ((st.m.set l .none).set nl o) j = true ∧ upd hd nl (hd l) j = hd j) ∧ al ((st.m.set l .none).set nl o) nl = true ∧ upd hd nl (hd l) nl = upd hd nl (hd l) l := by
  have hne : nl ≠ l := by intro e'; subst e'; rw [hm] at hl; cases hl; cases hlv
  have S1 := S.kill l
  have hlen : nl < (st.m.set l PO.none).length := by simp; exact (List.getElem?_eq_some_iff.1 hl).1
  have hal : al (st.m.set l .none) nl = false := by rw [al_set_ne hne]; simp [al, hl, PO.made]
  have hmd : o.made = true := PO.made_of_live hlv ht
  have hmono : ∀ j, al st.m j = true → al ((st.m.set l .none).set nl o) j = true ∧ upd hd nl (hd l) j = hd j := by
    intro j hj
    refine ⟨al_set_mono (.inr hmd) j (al_set_mono (.inr rfl) j hj), upd_ne _ _ ?_⟩
    intro e'; subst e'; simp [al, hl, PO.made] at hj
  have S2 := S1.obj (l := nl) (hv := hd l) (o := o) (Kp.refl _ _) (Kt.refl _ _) S.fresh (.inl hal) (.inr hmd)
    (ho _ _ _ _ _ _ _ hmono (S.objs l o hm))
    (fun j oj b hne' hj hlv' hbk => by
      obtain ⟨hj', hjl⟩ := kill_live hj hlv'
      exact ⟨rfl, rfl, fun _ hb' => S.dist j l oj _ b hjl hj' hm hlv' hlv hbk hb'⟩) (by intros; rfl) (fun g hg => by rw [ht] at hg; cases hg)
  exact ⟨S2, hmono, by rw [al_set_same hlen]; exact hmd, by rw [upd_same, upd_ne _ _ (Ne.symm hne)]⟩
end
end Go.Proofs.YtnkdanobhgofbaaGreatDoor.pv
