/- Rows of rows: the acts that take an inner row out and put one in, and the step that closes a hole. -/
import Derived.Test.YtdimcmpkhbfcnaaSm
namespace Go.Proofs.Ytdimcmpkhbfcnaa.pv
set_option linter.all false
open Go.RowKit

section
variable {P : Program} {T : List TI} {n : Nat} {w0 : Cx} {st : PS} {a : Act} {w : World} {ow : Nat → Bool} {hd : Nat → Value}
/-- an inner row is read: it is an own row from now on, and its cell a hole -/
theorem ntake {t l B nl ty sz i off j e s : Nat} {ct : Nat → Nat × Nat} {q : Nat → Bool} {hs : List (Option Nat)} {xs ys : List PV} {fs : List FV} {x : Operand} {y : PV} (h1 : tagg T t = some false) (hf : xs.all (fits sz) = true) (hy : xs[i]? = some y) (hp : (pcells y)[off]? = some (.sl ys)) (hq : q (i * sz + off) = true)
    (hj : hs[j]? = some none) (h0 : fs[0]? = some (.srf B)) (hfl : j + 1 < fs.length) (hct : ct (i * sz + off) = (e, s)) (hlB : l ≠ B) :
    Ext P T (.load t x) [.ept l sz i off] [(l, .cu (outC ty sz q hs xs) fs), (B, .cu (bagC ct q xs) []), (nl, .free), (nl + 1, .free)] (.srf nl)
      [(B, .none), (nl, .row e s ys), (nl + 1, .cu (bagC ct (minus q (i * sz + off)) xs) []), (l, .cu (outC ty sz (minus q (i * sz + off)) (hs.set j (some (i * sz + off))) xs) ((fs.set 0 (.srf (nl + 1))).set (j + 1) (.srf nl)))] := by
  intro n w0 st a w o hT hS ho hn hv hm K Q hK
  obtain ⟨ow, hd, hold, S⟩ := hS
  obtain ⟨d, op, tyo, pos, af, gd⟩ := o
  simp only at ho hn hK
  subst ho
  simp [Op.operands] at hv
  have hml := hm (l, .cu (outC ty sz q hs xs) fs) (by simp)
  have hmb := hm (B, .cu (bagC ct q xs) []) (by simp)
  have hm1 := hm (nl, .free) (by simp)
  have hm2 := hm (nl + 1, .free) (by simp)
  simp only at hml hmb hm1 hm2
  obtain ⟨hd', u, cells, S', ha, hr, hu, g1, g2, _⟩ := S.take hml hmb hm1 hm2 hlB (by omega) (fl_get hf hy hp) hq hj h0 hfl hct
  have hx := S.eval x
  rw [hv] at hx
  simp only [RF] at hx
  obtain ⟨_, b, nn, c, k1, k2⟩ := hx
  obtain ⟨cur, q1, q2, q3, q4, q5, q6, q7⟩ := owns_at g1 k1
  exact wp_val (v := u) (by simp [execOp, k2, run_loadAt_one hT h1 (cell_at q1 q6 g2)]) (hK _ _ ⟨ow, hd', hold, S'.put hn (x := .srf nl) hr⟩)
/-- an element with one inner row is read -/
theorem ntakeA {t l B nl ty sz i j e s : Nat} {ct : Nat → Nat × Nat} {q : Nat → Bool} {hs : List (Option Nat)} {xs ys pre post : List PV} {fs : List FV} {x : Operand} {y : PV} (h1 : tagg T t = some true) (h2 : tsz T t = some sz) (hf : xs.all (fits sz) = true) (hy : xs[i]? = some y) (hp : pcells y = pre ++ .sl ys :: post) (hq : q (i * sz + pre.length) = true)
    (hd : ∀ c : Nat, c < sz → c ≠ pre.length → q (i * sz + c) = false ∧ ∀ j : Nat, hs[j]? ≠ some (some (i * sz + c)))
    (hj : hs[j]? = some none) (h0 : fs[0]? = some (.srf B)) (hfl : j + 1 < fs.length) (hct : ct (i * sz + pre.length) = (e, s)) (hlB : l ≠ B) :
    Ext P T (.load t x) [.ept l sz i 0] [(l, .cu (outC ty sz q hs xs) fs), (B, .cu (bagC ct q xs) []), (nl, .free), (nl + 1, .free)] (.agg (pre.map .d ++ .srf nl :: post.map .d))
      [(B, .none), (nl, .row e s ys), (nl + 1, .cu (bagC ct (minus q (i * sz + pre.length)) xs) []), (l, .cu (outC ty sz (minus q (i * sz + pre.length)) (hs.set j (some (i * sz + pre.length))) xs) ((fs.set 0 (.srf (nl + 1))).set (j + 1) (.srf nl)))] := by
  intro n w0 st a w o hT hS ho hn hv hm K Q hK
  obtain ⟨ow, hd0, hold, S⟩ := hS
  obtain ⟨dst, op, tyo, pos, af, gd⟩ := o
  simp only at ho hn hK
  subst ho
  simp [Op.operands] at hv
  have hml := hm (l, .cu (outC ty sz q hs xs) fs) (by simp)
  have hmb := hm (B, .cu (bagC ct q xs) []) (by simp)
  have hm1 := hm (nl, .free) (by simp)
  have hm2 := hm (nl + 1, .free) (by simp)
  simp only at hml hmb hm1 hm2
  have hpc : (pcells y)[pre.length]? = some (.sl ys) := by rw [hp, List.getElem?_append_right (Nat.le_refl _), Nat.sub_self]; rfl
  obtain ⟨hd', u, cells, S', ha, hr, hu, g1, g2, g3⟩ := S.take hml hmb hm1 hm2 hlB (by omega) (fl_get hf hy hpc) hq hj h0 hfl hct
  have hx := S.eval x
  rw [hv] at hx
  simp only [RF] at hx
  obtain ⟨_, b, nn, c, k1, k2⟩ := hx
  obtain ⟨cur, q1, q2, q3, q4, q5, q6, q7⟩ := owns_at g1 k1
  have hfy := List.all_eq_true.1 hf y (List.mem_of_getElem? hy)
  have hly := fits_len hfy
  have hlt : i < xs.length := (List.getElem?_eq_some_iff.1 hy).1
  have hmul : i * sz + sz ≤ xs.length * sz := by rw [← Nat.succ_mul]; exact Nat.mul_le_mul_right _ hlt
  have hlen : ((cells.drop (i * sz)).take sz).length = sz := by simp [q7]; omega
  have hrange : w.rangeAt b (i * sz) ((cells.drop (i * sz)).take sz) := by
    intro j' v hv'
    rw [List.getElem?_take] at hv'
    split at hv'
    · rw [List.getElem?_drop] at hv'
      exact cell_at q1 q6 hv'
    · cases hv'
  refine wp_val (v := .agg ((cells.drop (i * sz)).take sz).toArray) (by simp [execOp, k2, run_loadAt_agg hT h1 h2 hrange hlen]) (hK _ _ ⟨ow, hd', hold, S'.put hn (x := .agg _) ?_⟩)
  simp only [RF]
  refine ⟨_, rfl, RFL_of_get ?_ fun k f hk => ?_⟩
  · rw [hlen, ← hly, hp]; simp
  · have hget : ∀ c v, c < sz → cells[i * sz + c]? = some v → ((cells.drop (i * sz)).take sz)[c]? = some v := by
      intro c v hc hv'
      rw [List.getElem?_take, if_pos hc, List.getElem?_drop]; exact hv'
    have hks : k < sz := by
      have := (List.getElem?_eq_some_iff.1 hk).1
      rw [← hly, hp]; simpa using this
    by_cases e : k = pre.length
    · subst e
      rw [List.getElem?_append_right (by simp), List.length_map, Nat.sub_self] at hk
      simp at hk; subst hk
      exact ⟨u, hget _ _ hks g2, hu, hr⟩
    · obtain ⟨z1, z2⟩ := hd k hks e
      have hpk : ∃ p, (pcells y)[k]? = some p ∧ f = .d p := by
        rw [hp]
        rcases Nat.lt_or_ge k pre.length with c | c
        · rw [List.getElem?_append_left (by simpa using c), List.getElem?_map] at hk
          rw [List.getElem?_append_left c]
          cases h : pre[k]? with
          | none => rw [h] at hk; cases hk
          | some p => rw [h] at hk; simp at hk; exact ⟨p, rfl, hk.symm⟩
        · have hk' : k - pre.length = (k - pre.length - 1) + 1 := by omega
          rw [List.getElem?_append_right (by simpa using c), List.length_map, hk', List.getElem?_cons_succ, List.getElem?_map] at hk
          rw [List.getElem?_append_right c, hk', List.getElem?_cons_succ]
          cases h : post[k - pre.length - 1]? with
          | none => rw [h] at hk; cases hk
          | some p => rw [h] at hk; simp at hk; exact ⟨p, rfl, hk.symm⟩
      obtain ⟨p, hp1, rfl⟩ := hpk
      obtain ⟨v, v1, v2, v3⟩ := g3 _ p (fl_get hf hy hp1) z1 z2
      refine ⟨v, hget _ _ hks v1, v2, ?_⟩
      simp only [RF]
      exact v3
/-- a row of one's own is stored into a hole, or into a cell that held data -/
theorem nput {t l L ty sz i off j : Nat} {q : Nat → Bool} {hs : List (Option Nat)} {xs : List PV} {fs : List FV} {x z : Operand} (h1 : tsz T t = some 1) (hi : i < xs.length) (ho : off < sz) (hf : xs.all (fits sz) = true) (hq : q (i * sz + off) = false)
    (hj : hs[j]? = some none ∨ hs[j]? = some (some (i * sz + off))) (hu : ∀ j' : Nat, j' ≠ j → hs[j']? ≠ some (some (i * sz + off))) (h0 : ∃ B, fs[0]? = some (.srf B)) (hfl : j + 1 < fs.length) :
    Ext P T (.store t x z) [.ept l sz i off, .srf L] [(l, .cu (outC ty sz q hs xs) fs)] .dead [(l, .cu (outC ty sz q (hs.set j (some (i * sz + off))) xs) (fs.set (j + 1) (.srf L)))] := by
  intro n w0 st a w o hT hS hop hn hv hm K Q hK
  obtain ⟨ow, hd, hold, S⟩ := hS
  obtain ⟨dst, op, tyo, pos, af, gd⟩ := o
  simp only at hop hn hK
  subst hop
  simp [Op.operands] at hv
  obtain ⟨hv1, hv2⟩ := hv
  have hml := hm (l, .cu (outC ty sz q hs xs) fs) (by simp)
  simp only at hml
  obtain ⟨b, cap, cur, cells, caps, vs, e1, e2, e3, e4, e5, e6, e7, e8, e9, e10, e11, e12, e13⟩ := S.orow hv1 hml
  have hz := S.eval z
  rw [hv2] at hz
  simp only [RF] at hz
  obtain ⟨z1, z2, z3⟩ := hz
  rw [← z2] at z3
  have hcz : (a.eval z).cells = #[a.eval z] := by
    generalize a.eval z = v at z3
    cases v <;> simp_all [Value.cells, Value.oneCell']
  have hmul : i * sz + sz ≤ xs.length * sz := by rw [← Nat.succ_mul]; exact Nat.mul_le_mul_right _ hi
  have hmul2 : xs.length * sz ≤ cap * sz := Nat.mul_le_mul_right _ e6
  have hst := run_storeAt_any (P := P) (w := w) hT (t := t) (b := b) (off := i * sz + off) (v := a.eval z) (by rw [hcz]; exact h1) (there_of_block e5 (by rw [hcz]; simp; omega)) (by rw [hcz]; simpa using z3)
  unfold Oper.wp
  simp only [execOp, e2, Sem.run_bind, hst, Result.andThen_ok, Sem.run_pure]
  refine hK _ _ ?_
  obtain ⟨cur', k1, k2, k3⟩ := setCells_block b ty (0, 0) (a.eval z).cells.toList (i * sz + off) w cur e5 (by rw [hcz]; simp; omega)
  have hoth := fun j hj => setCells_other b (a.eval z).cells.toList (i * sz + off) w j hj
  have hkp : Kp ow w ow (w.setCells b (i * sz + off) (a.eval z).cells.toList) := ⟨by rw [setCells_size]; exact Nat.le_refl _, fun _ _ h => h, fun j _ hj => hoth j (fun e => by rw [e, e4] at hj; cases hj)⟩
  have hcur : ∀ k : Nat, cur'.toList[k]? = if k = i * sz + off then some (a.eval z) else cur.toList[k]? := by
    intro k
    have hsize : cur.toList.length = cap * sz := by simpa using e8
    rw [k2, hcz]
    simp only [List.append_assoc, List.singleton_append, List.length_cons, List.length_nil]
    have htl : (cur.toList.take (i * sz + off)).length = i * sz + off := by rw [List.length_take]; omega
    rcases Nat.lt_trichotomy k (i * sz + off) with c | c | c
    · rw [if_neg (by omega), List.getElem?_append_left (by omega), List.getElem?_take, if_pos c]
    · subst c
      rw [if_pos rfl, List.getElem?_append_right (by omega), htl, Nat.sub_self]; rfl
    · rw [if_neg (by omega), List.getElem?_append_right (by omega), htl, show k - (i * sz + off) = (k - (i * sz + off) - 1) + 1 by omega]
      simp only [List.getElem?_cons_succ, List.getElem?_drop]
      congr 1; omega
  have hvl : j + 1 < vs.length ∧ 0 < vs.length := by
    have := RFL.length e11
    omega
  have hjl : j < hs.length := by
    rcases hj with h | h <;> exact (List.getElem?_eq_some_iff.1 h).1
  have S' := S.set (o' := .cu (outC ty sz q (hs.set j (some (i * sz + off))) xs) (fs.set (j + 1) (.srf L))) hml rfl rfl (b := b) (by rw [e1]; first | rfl | simp [blocksOf, blockOf]) hoth (setCells_size b _ _ w) (Kt.of_one (setCells_below b _ (Nat.le_refl _) _ _ w) e3 hoth)
    ⟨fun b' hb' => by rw [e1] at hb'; simp [blocksOf, blockOf] at hb'; rw [hb']; exact ⟨e3, e4⟩, vs.set (j + 1) (a.eval z), by
        have hb := RFL.mono (A' := al (st.m.set l (.cu (outC ty sz q (hs.set j (some (i * sz + off))) xs) (fs.set (j + 1) (.srf L))))) (hd' := hd) hkp (fun i hi => ⟨al_set_mono rfl _ hi, rfl⟩) _ _ e11
        refine RFL.set' _ _ _ hb ?_ z3
        simp only [RF]
        exact ⟨al_set_mono rfl _ z1, z2, by rw [← z2]; exact z3⟩,
      cur'.toList.take (xs.length * sz), caps, ⟨by simp only [List.length_take, Array.length_toList, k3, e8]; omega, .inr ⟨b, cap, cur', e1, Nat.zero_le _, k1, e6, e7, by rw [k3]; exact e8, rfl⟩⟩, by rw [List.getElem?_set_ne (by omega)]; exact e12, fun k p hp => ?_⟩
  · exact ⟨ow, hd, hold, S'.put hn (x := .dead) (by simp only [RF])⟩
  · obtain ⟨u, u1, u2, u3, u4, u5⟩ := e13 k p hp
    have hk : k < xs.length * sz := by rw [← fl_len hf]; exact (List.getElem?_eq_some_iff.1 hp).1
    rw [List.getElem?_take, if_pos hk, hcur]
    by_cases e : k = i * sz + off
    · subst e
      rw [if_pos rfl]
      refine ⟨_, rfl, z3, (fun h => by rw [hq] at h; cases h), fun j' hj' => ?_, fun _ hno => ?_⟩
      · have : j' = j := by
          apply Classical.byContradiction
          intro hne
          rw [List.getElem?_set_ne (Ne.symm hne)] at hj'
          exact hu j' hne hj'
        subst this
        rw [List.getElem?_set_self hvl.1]
      · exact absurd (by rw [List.getElem?_set_self hjl]) (hno j)
    · rw [if_neg e]
      refine ⟨u, ?_, u2, u3, fun j' hj' => ?_, fun hqk hno => R.mono hkp _ _ (u5 hqk fun j' hj' => ?_)⟩
      · rw [← e9, List.getElem?_take, if_pos hk] at u1; exact u1
      · by_cases ej : j = j'
        · subst ej
          rw [List.getElem?_set_self hjl] at hj'
          simp at hj'; omega
        · rw [List.getElem?_set_ne ej] at hj'
          rw [List.getElem?_set_ne (by omega)]
          exact u4 j' hj'
      · refine hno j' ?_
        by_cases ej : j = j'
        · subst ej
          rcases hj with h | h
          · rw [h] at hj'; cases hj'
          · rw [h] at hj'; simp at hj'; omega
        · rw [List.getElem?_set_ne ej]; exact hj'
end
end Go.Proofs.Ytdimcmpkhbfcnaa.pv
