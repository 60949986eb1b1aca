/- Copies of a row of one's own, and of a part of it. -/
import Derived.Test.YtdimcmpkhbfcnaaTc
import Derived.Test.YtdimcmpkhbfcnaaSz
namespace Go.Proofs.Ytdimcmpkhbfcnaa.pv
set_option linter.all false
open Go.RowKit
section
variable {P : Program} {T : List TI} {n : Nat} {w0 : Cx} {st : PS} {a : Act} {w : World} {ow : Nat → Bool} {hd : Nat → Value}
theorem copied {f : Operand} {args : Array Operand} {tys : Array Nat} {x : FV} {g : FuncId} {l e s e' s' nl : Nat} {xs ys rs : List PV} (hx : ∀ (n : Nat) (w0 : Cx) (st : PS) (a : Act) (w : World) (ow : Nat → Bool) (hd : Nat → Value) (u : Value), SimW n w0 st a w ow hd → st.m[l]? = some (.row e s xs) → RF (al st.m) hd ow w x u → R (fun _ => false) w (.sl ys) u)
    (hret : RetH P g [.d (.sl ys)] [] (.srf 0) [.row e' s' rs]) (hfl : rs.all flat = true) : Ext P T (.call ⟨.value f, args, tys⟩) [.d (.clo g []), x] [(l, .row e s xs), (nl, .free)] (.srf nl) [(nl, .row e' s' rs)] := by
  intro n w0 st a w o hT hS ho hn hvs hm K Q hK
  obtain ⟨ow, hd, hold, S⟩ := hS
  obtain ⟨d, op, tyo, pos, af, gd⟩ := o
  simp only at ho hn hK
  subst ho
  have hml := hm (l, .row e s xs) (by simp)
  have hnl := hm (nl, .free) (by simp)
  simp only at hml hnl
  have hρ' : ev st.f f :: args.toList.map (ev st.f) = [.d (.clo g []), x] := by
    rw [← hvs]; simp [Op.operands, Call.operands]
  obtain ⟨e1, e2⟩ := List.cons.inj hρ'
  have h1 := S.eval f
  rw [e1] at h1
  simp only [RF, R] at h1
  obtain ⟨us, hc1, hc2⟩ := h1
  simp only [RL] at hc2
  subst hc2
  obtain ⟨y, rfl⟩ : ∃ y, args = #[y] := by
    have : args.toList.length = 1 := by simpa using congrArg List.length e2
    cases hq : args.toList with
    | nil => rw [hq] at this; simp at this
    | cons y r =>
      rw [hq] at this
      have : r = [] := by cases r with | nil => rfl | cons _ _ => simp at this
      subst this
      exact ⟨y, by apply Array.toList_inj.1; simpa using hq⟩
  simp at e2
  have h3 : RT (fun _ => false) w [.sl ys] [a.eval y] := by
    simp only [RT]
    exact ⟨_, [], rfl, hx n w0 st a w ow hd _ S hml (by rw [← e2]; exact S.eval y), rfl⟩
  unfold Oper.wp
  rw [run_call hc1 hret.1]
  show Calls P g (#[y].map a.eval ++ #[]) w _
  have harr : #[y].map a.eval ++ #[] = [a.eval y].toArray := by simp
  rw [harr]
  refine (S.callN (τ := [nl]) (nl := nl) (m2 := [.row e' s' rs]) (r := .srf 0) hold h3 rfl (by simp) (fun k hk => by simp at hk; subst hk; exact hnl) ?_ (fun A hd ow ow' w v h => by simpa only [RF] using h) hret).mono fun e w' ⟨v, ow', hd', he, hold', S', hr⟩ => ?_
  · intro o ho
    simp at ho
    subst ho
    exact hfl
  subst he
  exact hK _ _ ⟨ow', hd', hold', S'.put hn hr⟩
theorem cwhole {f : Operand} {args : Array Operand} {tys : Array Nat} {g : FuncId} {l e s e' s' nl : Nat} {xs rs : List PV} (hret : RetH P g [.d (.sl xs)] [] (.srf 0) [.row e' s' rs]) (hfl : rs.all flat = true) :
    Ext P T (.call ⟨.value f, args, tys⟩) [.d (.clo g []), .srf l] [(l, .row e s xs), (nl, .free)] (.srf nl) [(nl, .row e' s' rs)] :=
  copied (fun n w0 st a w ow hd u S hm hx => by
    simp only [RF] at hx
    obtain ⟨cells, r1, r2, r3⟩ := S.objs l _ hm
    rw [hx.2.1]
    exact own_R r1 r3 ⟨Nat.le_refl _, fun _ _ _ => rfl, fun _ _ _ => rfl⟩ fun _ _ => rfl) hret hfl
theorem flat_map {α : Type} {f : α → PV} (l : List α) (h : ∀ x, flat (f x) = true) : (l.map f).all flat = true := by
  rw [List.all_eq_true]
  intro x hx
  obtain ⟨y, _, rfl⟩ := List.mem_map.1 hx
  exact h y
/-- s[:b] of a row that may be a clipped head -/
theorem fsl01 {t l e s : Nat} {xs : List PV} {x hi : Operand} {ka : IntKind} {i : Int} (h1 : tsl T t = some (e, s)) (c : 0 ≤ i ∧ i ≤ xs.length) : Ext P T (.slice t x none (some hi) none) [.srf l, .d (.v (.int ka i))] [(l, .cu (rowF e s xs) [])] (.ssl l 0 i.toNat s) [] := by
  intro n w0 st a w oo hT hS ho hn hv hm K Q hK
  obtain ⟨ow, hd, hold, S⟩ := hS
  obtain ⟨d, op, ty, pos, af, gd⟩ := oo
  simp only at ho hn hK
  subst ho
  simp [Op.operands] at hv
  have hml := hm (l, .cu (rowF e s xs) []) (by simp)
  simp only at hml
  obtain ⟨ad, cap, hh, hle, hcm⟩ := rowF_hd (S.objs l _ hml)
  have hx := S.eval x
  rw [hv.1] at hx
  simp only [RF] at hx
  obtain ⟨hx0, hx1, _⟩ := hx
  obtain ⟨hu, hs⟩ := tsl_und hT h1
  have hb := sliceBounds_opt (P := P) (w := w) (len := xs.length) (cap := cap) (lo := none) (hi := some hi) (i := 0) (h := i) S (by simp [optInt]) (by simp [optInt, hv.2]) (by omega) c.1 (by omega)
  simp only [Option.map_some, Option.map_none, Int.toNat_zero] at hb
  refine wp_val (v := .slice (if cap = 0 then ad else ad.map (·.add (0 * s))) (i.toNat - 0) (cap - 0)) (by simp [execOp, Instr.sliceAt, Instr.slice, run_underlying hu, hx1, hh, hb, tsz_run hT hs]) (hK _ _ ⟨ow, hd, hold, S.put hn ?_⟩)
  simp only [RF]
  exact ⟨hx0, ad, xs.length, cap, hh, by omega, by omega, rfl⟩
theorem part_RF {l e s i j : Nat} {xs : List PV} {A : Nat → Bool} {u : Value} (S : SimW n w0 st a w ow hd) (hm : st.m[l]? = some (.cu (rowF e s xs) [])) (hx : RF A hd ow w (.ssl l i j s) u) (hij : i ≤ j ∧ j ≤ xs.length) : R (fun _ => false) w (.sl ((xs.take j).drop i)) u := by
  have hk : Kp ow w (fun _ => false) w := ⟨Nat.le_refl _, fun _ _ _ => rfl, fun _ _ _ => rfl⟩
  simp only [RF] at hx
  obtain ⟨_, ad, nn, c, x1, x2, x3, rfl⟩ := hx
  have hO := S.objs l _ hm
  obtain ⟨ad', cap', hh, hle, hcm'⟩ := rowF_hd hO
  have hlen : ((xs.take j).drop i).length = j - i := by rw [List.length_drop, List.length_take]; omega
  have hcm : c ≤ maxLen := by rw [x1] at hh; simp at hh; omega
  simp only [R]
  refine ⟨_, c - i, by rw [hlen], by rw [hlen]; omega, by omega, ?_⟩
  by_cases h0 : i = j
  · left; apply List.eq_nil_of_length_eq_zero; rw [hlen]; omega
  · right
    have hb : ∃ b cells, ad = some ⟨b, 0, none⟩ ∧ b < w.heap.size ∧ w.rangeAt b 0 cells ∧ RE ow w s xs cells := by
      obtain ⟨_, vs, _, ⟨cells, r1, r3⟩ | ⟨g, cells, q1, q2, q3, q4, q5⟩⟩ := hO
      · rcases r1.2 with ⟨q, q2⟩ | ⟨g, cap, cur, q, q1, q2, q3, q4, q5, q6⟩
        · omega
        · rw [x1] at q
          simp at q
          exact ⟨g, cells, q.1, (Array.getElem?_eq_some_iff.1 q2).1, fun k v hv => by rw [Nat.zero_add]; exact cell_at q2 q6 hv, r3⟩
      · rw [x1] at q1
        simp at q1
        exact ⟨g, cells, q1.1, q3, q4, q5⟩
    obtain ⟨g, cells, rfl, k1, k2, k3⟩ := hb
    rw [if_neg (by omega), Option.map_some, Addr.add_mid, Nat.zero_add]
    have hj := RE_drop i (RE.take j (RE.mono hk _ _ _ k3))
    refine ⟨g, i * s, s, _, rfl, k1, trivial, fun k v hv => ?_, hj⟩
    rw [List.getElem?_drop, List.getElem?_take] at hv
    split at hv
    · have := k2 _ v hv
      rw [Nat.zero_add] at this; exact this
    · cases hv
/-- a call that looks at a part of such a row -/
theorem pcall {f : Operand} {args : Array Operand} {tys : Array Nat} {g : FuncId} {l e s i j : Nat} {xs ys ps : List PV} {r : PV} (hy : (xs.take j).drop i = ys) (hij : i ≤ j ∧ j ≤ xs.length) (hr : Ret P g (.sl ys :: nslL ps) r) (hfl : flat r = true) :
    Ext P T (.call ⟨.value f, args, tys⟩) (.d (.clo g []) :: .ssl l i j s :: ps.map .d) [(l, .cu (rowF e s xs) [])] (.d r) [] := by
  subst hy
  intro n w0 st a w o hT hS ho hn hvs hm K Q hK
  obtain ⟨ow, hd, hold, S⟩ := hS
  obtain ⟨d, op, tyo, pos, af, gd⟩ := o
  simp only at ho hn hK
  subst ho
  have hml := hm (l, .cu (rowF e s xs) []) (by simp)
  simp only at hml
  have hρ' : ev st.f f :: args.toList.map (ev st.f) = .d (.clo g []) :: .ssl l i j s :: ps.map .d := by
    rw [← hvs]; simp [Op.operands, Call.operands]
  obtain ⟨e1, e2⟩ := List.cons.inj hρ'
  have h1 := S.eval f
  rw [e1] at h1
  simp only [RF, R] at h1
  obtain ⟨us, hc1, hc2⟩ := h1
  simp only [RL] at hc2
  subst hc2
  have hk : Kp ow w (fun _ => false) w := ⟨Nat.le_refl _, fun _ _ _ => rfl, fun _ _ _ => rfl⟩
  have h2 : RT (fun _ => false) w (.sl ((xs.take j).drop i) :: ps) (args.toList.map a.eval) := by
    have h3 := RFT_of_eval S args.toList
    rw [e2] at h3
    simp only [RFT] at h3
    obtain ⟨v, q, h4, h5, h6⟩ := h3
    rw [h4]
    simp only [RT]
    exact ⟨v, q, rfl, part_RF S hml h5 hij, RT.mono hk _ _ (RFT.to_RT h6)⟩
  unfold Oper.wp
  rw [run_call hc1 hr.1]
  show Calls P g (args.map a.eval ++ #[]) w _
  have harr : args.map a.eval ++ #[] = (args.toList.map a.eval).toArray := by
    apply Array.toList_inj.1; simp
  rw [harr]
  have h7 := RT.nsl _ _ h2
  refine (hr.2 (fun _ => false) w _ (fun _ _ => rfl) (by simpa only [nslL, nsl] using h7)).mono fun e w' ⟨v, he, hb, hr⟩ => ?_
  subst he
  exact hK _ _ ⟨ow, hd, hold, (S.later hb).put hn (x := .d r) (by simp only [RF]; exact R.flat _ _ hfl hr)⟩
end
end Go.Proofs.Ytdimcmpkhbfcnaa.pv
