/- Silent steps: the same state of the machine, told in other words. -/
import Derived.Test.YtmjkechkdfobgaaVG
namespace Go.Proofs.Ytmjkechkdfobgaa.pv
set_option linter.all false
open Go.RowKit

section
variable {n : Nat} {w0 : Cx} {st st' : PS} {a : Act} {w : World} {ow : Ow} {hd : Nat → Value}
/-- a variable given up is a pointer to data at rest -/
theorem RO.box_rest {A : Nat → Bool} {l : Nat} {xs : List PV} (h : RO A hd w0 ow w (hd l) (.box (xs.map .d))) : ∃ b, hd l = .pointer (some ⟨b, 0, none⟩) ∧ ∀ off, R (ow.set fun b => if b ∈ blocksOf (hd l) then false else ow b) w (.iptr xs off) (.pointer (some ⟨b, off, none⟩)) := by
  haveI hph : Ph ow (ow.set fun b => if b ∈ blocksOf (hd l) then false else ow b) := Ph.set _ _
  have hk : Kp ow w (ow.set fun b => if b ∈ blocksOf (hd l) then false else ow b) w := by
    refine ⟨Nat.le_refl _, fun b _ hb => ?_, fun _ _ _ => rfl⟩
    show (if b ∈ blocksOf (hd l) then false else ow b) = false
    split
    · rfl
    · exact hb
  obtain ⟨b, vals, t, h1, h2, h3, h4, h5⟩ := h
  refine ⟨b, h1, fun off => ?_⟩
  simp only [R]
  refine ⟨b, 0, vals.toList, by simp, (Array.getElem?_eq_some_iff.1 h4).1, ?_, fun j v hv => ?_, RL.mono hk _ _ (RFL.to_RL h5)⟩
  · show (if b ∈ blocksOf (hd l) then false else ow b) = false
    rw [if_pos (by rw [h1]; simp [blocksOf, blockOf])]
  · unfold World.cell?
    simp only [h4]
    simpa using hv
/-- an object at another place -/
theorem SimW.shift (S : SimW n w0 st a w ow hd) {l nl : Nat} {o : PO} (hm : st.m[l]? = some o) (hlv : o.live = true) (ht : o.tag = none) (hl : st.m[nl]? = some .free) (ho : ∀ c ow w h A A' hd', (∀ j, A j = true → A' j = true ∧ hd' j = hd j) → RO A hd c ow w h o → RO A' hd' c ow w h o) :
    SimW n w0 ⟨st.f, (st.m.set l .none).set nl o⟩ a w ow (upd hd nl (hd l)) ∧ (∀ j, al st.m j = true → al ((st.m.set l .none).set nl o) j = true ∧ upd hd nl (hd l) j = hd j) ∧ al ((st.m.set l .none).set nl o) nl = true ∧ upd hd nl (hd l) nl = upd hd nl (hd l) l := by
  have hne : nl ≠ l := by intro e'; subst e'; rw [hm] at hl; cases hl; cases hlv
  have S1 := S.kill l
  have hlen : nl < (st.m.set l PO.none).length := by simp; exact (List.getElem?_eq_some_iff.1 hl).1
  have hal : al (st.m.set l .none) nl = false := by rw [al_set_ne hne]; simp [al, hl, PO.made]
  have hmd : o.made = true := PO.made_of_live hlv ht
  have hmono : ∀ j, al st.m j = true → al ((st.m.set l .none).set nl o) j = true ∧ upd hd nl (hd l) j = hd j := by
    intro j hj
    refine ⟨al_set_mono (.inr hmd) j (al_set_mono (.inr rfl) j hj), upd_ne _ _ ?_⟩
    intro e'; subst e'; simp [al, hl, PO.made] at hj
  have S2 := S1.obj (l := nl) (hv := hd l) (o := o) (Kp.refl _ _) (Kt.refl _ _) S.fresh (.inl hal) (.inr hmd)
    (ho _ _ _ _ _ _ _ hmono (S.objs l o hm))
    (fun j oj b hne' hj hlv' hbk => by
      obtain ⟨hj', hjl⟩ := kill_live hj hlv'
      exact ⟨rfl, rfl, fun _ hb' => S.dist j l oj _ b hjl hj' hm hlv' hlv hbk hb'⟩) (by intros; rfl) (fun g hg => by rw [ht] at hg; cases hg)
  exact ⟨S2, hmono, by rw [al_set_same hlen]; exact hmd, by rw [upd_same, upd_ne _ _ (Ne.symm hne)]⟩
end
end Go.Proofs.Ytmjkechkdfobgaa.pv
