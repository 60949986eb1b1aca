/- Rows of rows: a hole is closed; calls that look at them; a slice's length that is still wanted. -/
import Derived.Test.YtdimcmpkhbfcnaaSn
namespace Go.Proofs.Ytdimcmpkhbfcnaa.pv
set_option linter.all false
open Go.RowKit
section
variable {P : Program} {T : List TI} {n : Nat} {w0 : Cx} {st : PS} {a : Act} {w : World} {ow : Nat → Bool} {hd : Nat → Value}
/-- the row that was taken out of the hole j is in its cell again -/
def nClose (l B L ty sz : Nat) (ct : Nat → Nat × Nat) (q' : Nat → Bool) (hs' : List (Option Nat)) (xs' : List PV) (fs : List FV) (j : Nat) (st : PS) : PS :=
  ⟨st.f, ((st.m.set B .none).set L .none).set l (.cu (outC ty sz q' hs' xs') ((fs.set 0 (.srf st.m.length)).set (j + 1) (.d (.v noB)))) ++ [.cu (bagC ct q' xs') []]⟩
/-- the mask in other words -/
def nSame (l B ty sz : Nat) (ct : Nat → Nat × Nat) (q' : Nat → Bool) (hs : List (Option Nat)) (xs : List PV) (fs : List FV) (st : PS) : PS := ⟨st.f, (st.m.set l (.cu (outC ty sz q' hs xs) fs)).set B (.cu (bagC ct q' xs) [])⟩
/-- what an object is as data, for as long as a call looks at it -/
inductive Lend (m0 : List (Nat × PO)) : Nat → PV → Prop where
  | row (l e s : Nat) (ys : List PV) : (l, .row e s ys) ∈ m0 → Lend m0 l (.sl ys)
  | nst (l B ty sz : Nat) (ct : Nat → Nat × Nat) (q : Nat → Bool) (hs : List (Option Nat)) (xs : List PV) (fs : List FV) : (l, .cu (outC ty sz q hs xs) fs) ∈ m0 → (B, .cu (bagC ct q xs) []) ∈ m0 → fs[0]? = some (.srf B) → xs.all (fits sz) = true →
      (∀ (j k : Nat), hs[j]? = some (some k) → ∃ L e s ys, fs[j + 1]? = some (.srf L) ∧ (L, .row e s ys) ∈ m0 ∧ (fl xs)[k]? = some (.sl ys)) → Lend m0 l (.sl xs)
mutual
def lendF (E : List (Nat × PV)) : FV → Option PV
  | .d x => some x
  | .agg cs => (match lendL E cs with | some xs => some (.agg xs) | none => none)
  | .srf l => (match E.find? (fun p => Nat.beq p.1 l) with | some p => some p.2 | none => none)
  | .clo f cs => (match lendL E cs with | some xs => some (.clo f xs) | none => none)
  | _ => none
def lendL (E : List (Nat × PV)) : List FV → Option (List PV)
  | [] => some []
  | x :: xs => match lendF E x, lendL E xs with
    | some y, some ys => some (y :: ys)
    | _, _ => none
end
mutual
theorem lend_sound {E : List (Nat × PV)} (S : SimW n w0 st a w ow hd) (hE : ∀ q ∈ E, R (fun _ => false) w q.2 (hd q.1)) : ∀ (x : FV) (u : Value) (y : PV), lendF E x = some y → RF (al st.m) hd ow w x u → R (fun _ => false) w y u
  | .d x, u, y, h, hr => by
    simp [lendF] at h; subst h
    exact R.mono ⟨Nat.le_refl _, fun _ _ _ => rfl, fun _ _ _ => rfl⟩ _ _ (by simpa only [RF] using hr)
  | .agg cs, u, y, h, hr => by
    simp only [lendF] at h
    split at h
    · rename_i xs hx
      simp at h; subst h
      simp only [RF] at hr
      obtain ⟨vs, e, hr⟩ := hr
      simp only [R]
      exact ⟨vs, e, lendL_sound S hE cs vs xs hx hr⟩
    · cases h
  | .clo f cs, u, y, h, hr => by
    simp only [lendF] at h
    split at h
    · rename_i xs hx
      simp at h; subst h
      simp only [RF] at hr
      obtain ⟨vs, e, hr⟩ := hr
      simp only [R]
      exact ⟨vs, e, lendL_sound S hE cs vs xs hx hr⟩
    · cases h
  | .srf l, u, y, h, hr => by
    simp only [lendF] at h
    split at h
    · rename_i p hp
      simp at h; subst h
      have h1 := hE p (List.mem_of_find?_eq_some hp)
      have h2 := List.find?_some hp
      have h3 : p.1 = l := by simpa using h2
      simp only [RF] at hr
      rw [hr.2.1, ← h3]; exact h1
    · cases h
  | .tup _, _, _, h, _ => by simp [lendF] at h
  | .ref _ _, _, _, h, _ => by simp [lendF] at h
  | .ept _ _ _ _, _, _, h, _ => by simp [lendF] at h
  | .asl _ _ _ _ _ _, _, _, h, _ => by simp [lendF] at h
  | .ssl _ _ _ _, _, _, h, _ => by simp [lendF] at h
  | .dead, _, _, h, _ => by simp [lendF] at h
theorem lendL_sound {E : List (Nat × PV)} (S : SimW n w0 st a w ow hd) (hE : ∀ q ∈ E, R (fun _ => false) w q.2 (hd q.1)) : ∀ (xs : List FV) (us : List Value) (ys : List PV), lendL E xs = some ys → RFL (al st.m) hd ow w xs us → RL (fun _ => false) w ys us
  | [], us, ys, h, hr => by simp [lendL] at h; subst h; simpa only [RFL, RL] using hr
  | x :: xs, us, ys, h, hr => by
    simp only [lendL] at h
    split at h
    · rename_i z zs h1 h2
      simp at h; subst h
      simp only [RFL] at hr
      obtain ⟨v, r, e, g1, g2, g3⟩ := hr
      simp only [RL]
      exact ⟨v, r, e, lend_sound S hE x v z h1 g1, g2, lendL_sound S hE xs r zs h2 g3⟩
    · cases h
theorem lendT_sound {E : List (Nat × PV)} (S : SimW n w0 st a w ow hd) (hE : ∀ q ∈ E, R (fun _ => false) w q.2 (hd q.1)) : ∀ (xs : List FV) (us : List Value) (ys : List PV), lendL E xs = some ys → RFT (al st.m) hd ow w xs us → RT (fun _ => false) w ys us
  | [], us, ys, h, hr => by simp [lendL] at h; subst h; simpa only [RFT, RT] using hr
  | x :: xs, us, ys, h, hr => by
    simp only [lendL] at h
    split at h
    · rename_i z zs h1 h2
      simp at h; subst h
      simp only [RFT] at hr
      obtain ⟨v, r, e, g1, g3⟩ := hr
      simp only [RT]
      exact ⟨v, r, e, lend_sound S hE x v z h1 g1, lendT_sound S hE xs r zs h2 g3⟩
    · cases h
end
end
end Go.Proofs.Ytdimcmpkhbfcnaa.pv
