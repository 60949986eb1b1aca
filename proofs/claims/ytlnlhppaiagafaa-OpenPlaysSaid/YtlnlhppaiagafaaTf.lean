/- Calls that look at what a pointer leads to: a variable of one's own with one row in it. -/
import Derived.Test.YtlnlhppaiagafaaSv
import Derived.Test.YtlnlhppaiagafaaTe
namespace Go.Proofs.Ytlnlhppaiagafaa.pv
set_option linter.all false
open Go.RowKit

section
variable {P : Program} {T : List TI} {n : Nat} {w0 : Cx} {st : PS} {a : Act} {w : World} {ow : Nat → Bool} {hd : Nat → Value}
theorem row_R {A : Nat → Bool} {L e s : Nat} {xs : List PV} {u : Value} (S : SimW n w0 st a w ow hd) (hm : st.m[L]? = some (.row e s xs)) (hx : RF A hd ow w (.srf L) u) : R (fun _ => false) w (.sl xs) u := by
  have hk : Kp ow w (fun _ => false) w := ⟨Nat.le_refl _, fun _ _ _ => rfl, fun _ _ _ => rfl⟩
  simp only [RF] at hx
  obtain ⟨_, rfl, _⟩ := hx
  obtain ⟨cells, r1, _, r3⟩ := S.objs L _ hm
  have hx' := r1
  rcases r1.2 with ⟨q, q2⟩ | ⟨g, cap, cur, q, q1, q2, q3, q4, q5, q6⟩
  · rw [q]
    simp only [R]
    refine ⟨none, 0, by rw [q2], by omega, by simp [maxLen], .inl (List.eq_nil_of_length_eq_zero q2)⟩
  · rw [q]
    simp only [R]
    refine ⟨_, cap, rfl, by omega, by unfold maxLen; unfold maxLen at *; omega, ?_⟩
    right
    exact ⟨g, 0, s, cells, rfl, (Array.getElem?_eq_some_iff.1 q2).1, trivial, fun k v hv => by rw [Nat.zero_add]; exact cell_at q2 q6 hv, RE.mono hk _ _ _ r3⟩
theorem RFL.split {A : Nat → Bool} {hd : Nat → Value} {ow : Nat → Bool} {w : World} : ∀ {x y : List FV} {vs : List Value}, RFL A hd ow w (x ++ y) vs → ∃ a b, vs = a ++ b ∧ RFL A hd ow w x a ∧ RFL A hd ow w y b
  | [], y, vs, h => ⟨[], vs, rfl, by simp only [RFL], h⟩
  | q :: x, y, vs, h => by
    simp only [List.cons_append, RFL] at h
    obtain ⟨v, r, rfl, h1, h2, h3⟩ := h
    obtain ⟨a, b, rfl, h4, h5⟩ := RFL.split h3
    exact ⟨v :: a, b, rfl, by simp only [RFL]; exact ⟨v, a, rfl, h1, h2, h4⟩, h5⟩
theorem RL.join {ow : Nat → Bool} {w : World} : ∀ {x y : List PV} {a b : List Value}, RL ow w x a → RL ow w y b → RL ow w (x ++ y) (a ++ b)
  | [], y, a, b, h, k => by simp only [RL] at h; subst h; exact k
  | q :: x, y, a, b, h, k => by
    simp only [RL] at h
    obtain ⟨v, r, rfl, h1, h2, h3⟩ := h
    simp only [List.cons_append, RL]
    exact ⟨v, r ++ b, rfl, h1, h2, RL.join h3 k⟩
theorem box_R {l L e s : Nat} {cs : List FV} {pre post xs : List PV} {u : Value} (S : SimW n w0 st a w ow hd) (hm : st.m[l]? = some (.box cs)) (hL : st.m[L]? = some (.row e s xs)) (hcs : cs = pre.map .d ++ .srf L :: post.map .d) (hx : RF (al st.m) hd ow w (.ref l 0) u) : R (fun _ => false) w (.iptr (pre ++ .sl xs :: post) 0) u := by
  have hk : Kp ow w (fun _ => false) w := ⟨Nat.le_refl _, fun _ _ _ => rfl, fun _ _ _ => rfl⟩
  subst hcs
  simp only [RF] at hx
  obtain ⟨_, b, x1, rfl⟩ := hx
  obtain ⟨b', vals, t, h1, h2, h3, h4, h5⟩ := S.objs l _ hm
  rw [x1] at h1
  simp at h1
  subst h1
  obtain ⟨va, vb, e1, k1, k2⟩ := RFL.split h5
  simp only [RFL] at k2
  obtain ⟨v, vc, rfl, k3, k4, k5⟩ := k2
  simp only [R]
  refine ⟨b, 0, vals.toList, rfl, (Array.getElem?_eq_some_iff.1 h4).1, trivial, fun j y hv => ?_, ?_⟩
  · unfold World.cell?
    simp only [h4]
    simpa using hv
  · rw [e1]
    refine RL.join (RL.mono hk _ _ (RFL.to_RL k1)) ?_
    simp only [RL]
    exact ⟨v, vc, rfl, row_R S hL k3, k4, RL.mono hk _ _ (RFL.to_RL k5)⟩
theorem lcall {f : Operand} {args : Array Operand} {tys : Array Nat} {g : FuncId} {l L e s : Nat} {cs : List FV} {pre post xs ds ps : List PV} {r : PV} (hcs : cs = pre.map .d ++ .srf L :: post.map .d) (hds : pre ++ .sl xs :: post = ds) (hr : Ret P g (.iptr ds 0 :: nslL ps) r) (hfl : flat r = true) :
    Ext P T (.call ⟨.value f, args, tys⟩) (.d (.clo g []) :: .ref l 0 :: ps.map .d) [(l, .box cs), (L, .row e s xs)] (.d r) [] := by
  subst hds
  intro n w0 st a w o hT hS ho hn hvs hm K Q hK
  obtain ⟨ow, hd, hold, S⟩ := hS
  obtain ⟨d, op, tyo, pos, af, gd⟩ := o
  simp only at ho hn hK
  subst ho
  have hml := hm (l, .box cs) (by simp)
  have hmL := hm (L, .row e s xs) (by simp)
  simp only at hml hmL
  have hρ' : ev st.f f :: args.toList.map (ev st.f) = .d (.clo g []) :: .ref l 0 :: ps.map .d := by
    rw [← hvs]; simp [Op.operands, Call.operands]
  obtain ⟨e1, e2⟩ := List.cons.inj hρ'
  have h1 := S.eval f
  rw [e1] at h1
  simp only [RF, R] at h1
  obtain ⟨us, hc1, hc2⟩ := h1
  simp only [RL] at hc2
  subst hc2
  have hk : Kp ow w (fun _ => false) w := ⟨Nat.le_refl _, fun _ _ _ => rfl, fun _ _ _ => rfl⟩
  have h2 : RT (fun _ => false) w (.iptr (pre ++ .sl xs :: post) 0 :: ps) (args.toList.map a.eval) := by
    have h3 := RFT_of_eval S args.toList
    rw [e2] at h3
    simp only [RFT] at h3
    obtain ⟨v, q, h4, h5, h6⟩ := h3
    rw [h4]
    simp only [RT]
    exact ⟨v, q, rfl, box_R S hml hmL hcs h5, RT.mono hk _ _ (RFT.to_RT h6)⟩
  unfold Oper.wp
  rw [run_call hc1 hr.1]
  show Calls P g (args.map a.eval ++ #[]) w _
  have harr : args.map a.eval ++ #[] = (args.toList.map a.eval).toArray := by
    apply Array.toList_inj.1; simp
  rw [harr]
  have h7 := RT.nsl _ _ h2
  refine (hr.2 (fun _ => false) w _ (fun _ _ => rfl) (by simpa only [nslL, nsl] using h7)).mono fun e w' ⟨v, he, hb, hr⟩ => ?_
  subst he
  exact hK _ _ ⟨ow, hd, hold, (S.later hb).put hn (x := .d r) (by simp only [RF]; exact R.flat _ _ hfl hr)⟩
theorem box_R0 {l : Nat} {cs : List FV} {ds : List PV} {u : Value} (S : SimW n w0 st a w ow hd) (hm : st.m[l]? = some (.box cs)) (hcs : cs = ds.map .d) (hx : RF (al st.m) hd ow w (.ref l 0) u) : R (fun _ => false) w (.iptr ds 0) u := by
  have hk : Kp ow w (fun _ => false) w := ⟨Nat.le_refl _, fun _ _ _ => rfl, fun _ _ _ => rfl⟩
  subst hcs
  simp only [RF] at hx
  obtain ⟨_, b, x1, rfl⟩ := hx
  obtain ⟨b', vals, t, h1, h2, h3, h4, h5⟩ := S.objs l _ hm
  rw [x1] at h1
  simp at h1
  subst h1
  simp only [R]
  refine ⟨b, 0, vals.toList, rfl, (Array.getElem?_eq_some_iff.1 h4).1, trivial, fun j y hv => ?_, RL.mono hk _ _ (RFL.to_RL h5)⟩
  unfold World.cell?
  simp only [h4]
  simpa using hv
theorem lcall0 {f : Operand} {args : Array Operand} {tys : Array Nat} {g : FuncId} {l : Nat} {cs : List FV} {ds ps : List PV} {r : PV} (hcs : cs = ds.map .d) (hr : Ret P g (.iptr ds 0 :: nslL ps) r) (hfl : flat r = true) :
    Ext P T (.call ⟨.value f, args, tys⟩) (.d (.clo g []) :: .ref l 0 :: ps.map .d) [(l, .box cs)] (.d r) [] := by
  intro n w0 st a w o hT hS ho hn hvs hm K Q hK
  obtain ⟨ow, hd, hold, S⟩ := hS
  obtain ⟨d, op, tyo, pos, af, gd⟩ := o
  simp only at ho hn hK
  subst ho
  have hml := hm (l, .box cs) (by simp)
  simp only at hml
  have hρ' : ev st.f f :: args.toList.map (ev st.f) = .d (.clo g []) :: .ref l 0 :: ps.map .d := by
    rw [← hvs]; simp [Op.operands, Call.operands]
  obtain ⟨e1, e2⟩ := List.cons.inj hρ'
  have h1 := S.eval f
  rw [e1] at h1
  simp only [RF, R] at h1
  obtain ⟨us, hc1, hc2⟩ := h1
  simp only [RL] at hc2
  subst hc2
  have hk : Kp ow w (fun _ => false) w := ⟨Nat.le_refl _, fun _ _ _ => rfl, fun _ _ _ => rfl⟩
  have h2 : RT (fun _ => false) w (.iptr ds 0 :: ps) (args.toList.map a.eval) := by
    have h3 := RFT_of_eval S args.toList
    rw [e2] at h3
    simp only [RFT] at h3
    obtain ⟨v, q, h4, h5, h6⟩ := h3
    rw [h4]
    simp only [RT]
    exact ⟨v, q, rfl, box_R0 S hml hcs h5, RT.mono hk _ _ (RFT.to_RT h6)⟩
  unfold Oper.wp
  rw [run_call hc1 hr.1]
  show Calls P g (args.map a.eval ++ #[]) w _
  have harr : args.map a.eval ++ #[] = (args.toList.map a.eval).toArray := by
    apply Array.toList_inj.1; simp
  rw [harr]
  have h7 := RT.nsl _ _ h2
  refine (hr.2 (fun _ => false) w _ (fun _ _ => rfl) (by simpa only [nslL, nsl] using h7)).mono fun e w' ⟨v, he, hb, hr⟩ => ?_
  subst he
  exact hK _ _ ⟨ow, hd, hold, (S.later hb).put hn (x := .d r) (by simp only [RF]; exact R.flat _ _ hfl hr)⟩
end
end Go.Proofs.Ytlnlhppaiagafaa.pv
