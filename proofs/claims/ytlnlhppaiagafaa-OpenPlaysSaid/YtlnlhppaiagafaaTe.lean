/- Calls that look at a part of a box: an array in a variable, from a place on. -/
import Derived.Test.YtlnlhppaiagafaaSv
import Derived.Test.YtlnlhppaiagafaaSg
namespace Go.Proofs.Ytlnlhppaiagafaa.pv
set_option linter.all false
open Go.RowKit

section
variable {P : Program} {T : List TI} {n : Nat} {w0 : Cx} {st : PS} {a : Act} {w : World} {ow : Nat → Bool} {hd : Nat → Value}
theorem RL_RE1 {ow : Nat → Bool} {w : World} : ∀ {ys : List PV} {cells : List Value}, ys.all (fits 1) = true → RL ow w ys cells → RE ow w 1 ys cells
  | [], cells, _, h => by simp only [RL] at h; subst h; simp [RE]
  | y :: ys, cells, hf, h => by
    simp only [List.all_cons, Bool.and_eq_true] at hf
    simp only [RL] at h
    obtain ⟨v, r, rfl, h1, h2, h3⟩ := h
    have hc : v.cells = #[v] := by cases v <;> simp_all [Value.cells, Value.oneCell']
    simp only [RE]
    exact ⟨v, r, by rw [hc]; rfl, by rw [hc]; rfl, by rw [hc]; intro u hu; simp at hu; subst hu; exact h2, h1, RL_RE1 hf.2 h3⟩
theorem asl_R {l off k c : Nat} {cs : List FV} {ys : List PV} {u : Value} (S : SimW n w0 st a w ow hd) (hm : st.m[l]? = some (.box cs)) (hx : RF (al st.m) hd ow w (.asl l off k c 1 false) u) (hcs : (cs.drop off).take k = ys.map .d) (hl : off + k ≤ cs.length) (hf : ys.all (fits 1) = true) : R (fun _ => false) w (.sl ys) u := by
  have hk : Kp ow w (fun _ => false) w := ⟨Nat.le_refl _, fun _ _ _ => rfl, fun _ _ _ => rfl⟩
  simp only [RF] at hx
  obtain ⟨_, b, x1, rfl, x2, x3⟩ := hx
  obtain ⟨b', vals, t, h1, h2, h3, h4, h5⟩ := S.objs l _ hm
  rw [x1] at h1
  simp at h1
  subst h1
  have h6 := RFL.take k (RFL.drop off h5)
  rw [hcs] at h6
  have h7 := RL_RE1 hf (RFL.to_RL h6)
  have hyl : ys.length = k := by
    have := congrArg List.length hcs
    simp only [List.length_take, List.length_drop, List.length_map] at this
    omega
  simp only [R]
  refine ⟨some ⟨b, off, none⟩, c, by rw [hyl], by rw [hyl]; exact x2, x3, ?_⟩
  right
  refine ⟨b, off, 1, _, rfl, (Array.getElem?_eq_some_iff.1 h4).1, trivial, fun j v hv => ?_, RE.mono hk _ _ _ h7⟩
  rw [List.getElem?_take] at hv
  split at hv
  · rw [List.getElem?_drop] at hv
    unfold World.cell?
    simp only [h4]
    simpa using hv
  · cases hv
theorem acall {f : Operand} {args : Array Operand} {tys : Array Nat} {g : FuncId} {l off k c : Nat} {cs : List FV} {ys ps : List PV} {r : PV} (hcs : (cs.drop off).take k = ys.map .d ∧ off + k ≤ cs.length) (hf : ys.all (fits 1) = true) (hr : Ret P g (.sl ys :: nslL ps) r) (hfl : flat r = true) :
    Ext P T (.call ⟨.value f, args, tys⟩) (.d (.clo g []) :: .asl l off k c 1 false :: ps.map .d) [(l, .box cs)] (.d r) [] := by
  intro n w0 st a w o hT hS ho hn hvs hm K Q hK
  obtain ⟨ow, hd, hold, S⟩ := hS
  obtain ⟨d, op, tyo, pos, af, gd⟩ := o
  simp only at ho hn hK
  subst ho
  have hml := hm (l, .box cs) (by simp)
  simp only at hml
  have hρ' : ev st.f f :: args.toList.map (ev st.f) = .d (.clo g []) :: .asl l off k c 1 false :: ps.map .d := by
    rw [← hvs]; simp [Op.operands, Call.operands]
  obtain ⟨e1, e2⟩ := List.cons.inj hρ'
  have h1 := S.eval f
  rw [e1] at h1
  simp only [RF, R] at h1
  obtain ⟨us, hc1, hc2⟩ := h1
  simp only [RL] at hc2
  subst hc2
  have hk : Kp ow w (fun _ => false) w := ⟨Nat.le_refl _, fun _ _ _ => rfl, fun _ _ _ => rfl⟩
  have h2 : RT (fun _ => false) w (.sl ys :: ps) (args.toList.map a.eval) := by
    have h3 := RFT_of_eval S args.toList
    rw [e2] at h3
    simp only [RFT] at h3
    obtain ⟨v, q, h4, h5, h6⟩ := h3
    rw [h4]
    simp only [RT]
    exact ⟨v, q, rfl, asl_R S hml h5 hcs.1 hcs.2 hf, RT.mono hk _ _ (RFT.to_RT h6)⟩
  unfold Oper.wp
  rw [run_call hc1 hr.1]
  show Calls P g (args.map a.eval ++ #[]) w _
  have harr : args.map a.eval ++ #[] = (args.toList.map a.eval).toArray := by
    apply Array.toList_inj.1; simp
  rw [harr]
  have h7 := RT.nsl _ _ h2
  refine (hr.2 (fun _ => false) w _ (fun _ _ => rfl) (by simpa only [nslL, nsl] using h7)).mono fun e w' ⟨v, he, hb, hr⟩ => ?_
  subst he
  exact hK _ _ ⟨ow, hd, hold, (S.later hb).put hn (x := .d r) (by simp only [RF]; exact R.flat _ _ hfl hr)⟩
end
end Go.Proofs.Ytlnlhppaiagafaa.pv
