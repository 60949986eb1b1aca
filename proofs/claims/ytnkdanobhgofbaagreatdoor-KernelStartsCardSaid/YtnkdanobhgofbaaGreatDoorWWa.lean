/- From an argument of a law to typed values; from the interpreter's word to a law's statement. -/
import Derived.Test.YtnkdanobhgofbaaGreatDoorWCa
import Derived.Test.YtnkdanobhgofbaaGreatDoorHR
namespace Go.Proofs.YtnkdanobhgofbaaGreatDoor.pv
set_option linter.all false
open Go.RowKit Go.Proofs.YtnkdanobhgofbaaGreatDoor.rep

/-- a shape and a code -/
def shT : Sh → Ty → Bool
  | .int k, .i k' => kEq k k'
  | .bool, .bl => true
  | .str, .str => true
  | .unit, .un => true
  | .pair a b, .pr c d => shT a c && shT b d
  | .slice _ e, .sl t => shT e t && t.dat && Nat.beq e.size t.sz && Nat.blt 0 e.size
  | .arr n e, .ar m t => shT e t && t.dat && Nat.beq n m && Nat.beq e.size t.sz
  | _, _ => false
/-- what is known of an argument: its numbers are within their kinds, what it has is not too much for a memory -/
def okT : (s : Sh) → (t : Ty) → t.den → Prop
  | .int k, .i _, x => (Lit.int k (show Int from x)).wf = true
  | .str, .str, x => List.length (α := UInt8) x ≤ 140737488351232
  | .pair a b, .pr c d, x => okT a c (p1 x) ∧ okT b d (p2 x)
  | .slice by_ e, .sl t, x => List.length (α := t.den) x * by_ ≤ 140737488351232 ∧ ∀ y ∈ (show List t.den from x), okT e t y
  | .arr _ e, .ar _ t, x => ∀ y ∈ Subtype.val (α := List t.den) x, okT e t y
  | _, _, _ => True
theorem rep_sl_rep {w : World} {by_ : Nat} {e : Sh} {t : Ty} (ht : t.dat = true) (hz : e.size = t.sz) (hs : 0 < e.size)
    (h : ∀ (x : e.T) (cs : List Value), Rep w e x cs → ∃ a : t.den, okT e t a ∧ RL Ow.zero w (pv.rep t a).pcs cs) {xs : (Sh.slice by_ e).T} {cs : List Value} (hr : Rep w (.slice by_ e) xs cs) :
    ∃ a : (Ty.sl t).den, okT (.slice by_ e) (.sl t) a ∧ RL Ow.zero w (pv.rep (.sl t) a).pcs cs := by
  rcases hr with ⟨rfl, rfl⟩ | ⟨b, off, cap, sp, rfl, hl, hm, hby, hsp, hi⟩
  · refine ⟨([] : List t.den), ⟨by simp, by simp⟩, ?_⟩
    simp only [pv.rep, Rp.dat, List.map_nil, RL, R]
    exact ⟨_, _, rfl, ⟨none, 0, rfl, by simp, by simp, .inl trivial⟩, rfl, rfl⟩
  · have xsL : List e.T := xs
    have hx : ∀ i, i < List.length (α := e.T) xs → ∃ a : t.den, ∃ cs' : List Value, cs'.length = e.size ∧ (∀ j, j < cs'.length → w.cell? ⟨b, off + (i * e.size + j), none⟩ = cs'[j]?) ∧ okT e t a ∧ RL Ow.zero w (pv.rep t a).pcs cs' := by
      intro i hil
      obtain ⟨cs', h1, h2, h3⟩ := hi i hil
      obtain ⟨a, o, q⟩ := h _ cs' h3
      exact ⟨a, cs', h1, h2, o, q⟩
    obtain ⟨l, hll, hp⟩ := exists_list (List.length (α := e.T) xs) _ hx
    refine ⟨l, ⟨by rw [hll]; exact hby, fun a ha => ?_⟩, ?_⟩
    · obtain ⟨i, hi1, rfl⟩ := List.mem_iff_getElem.1 ha
      obtain ⟨_, _, _, o, _⟩ := hp i hi1
      exact o
    · simp only [pv.rep, Rp.dat, RL, R]
      refine ⟨_, _, rfl, ⟨some ⟨b, off, sp⟩, cap, by rw [List.length_map, hll], by rw [List.length_map, hll]; exact hl, hm, ?_⟩, rfl, rfl⟩
      by_cases h0 : l = []
      · left; simp [h0]
      · right
        have hpos : 0 < List.length (α := e.T) xs := by rw [← hll]; exact List.length_pos_iff.2 h0
        obtain ⟨rfl, hb⟩ := hsp hpos hs
        have go : ∀ (l' : List t.den) (k : Nat), (∀ i (hi : i < l'.length), ∃ cs' : List Value, cs'.length = e.size ∧ (∀ j, j < cs'.length → w.cell? ⟨b, off + ((k + i) * e.size + j), none⟩ = cs'[j]?) ∧ okT e t l'[i] ∧ RL Ow.zero w (pv.rep t l'[i]).pcs cs') →
            ∃ cells : List Value, w.rangeAt b (off + k * e.size) cells ∧ RE Ow.zero w e.size (l'.map fun y => (pv.rep t y).pv) cells := by
          intro l'
          induction l' with
          | nil => intro k _; exact ⟨[], fun j v hv => by simp at hv, by simp [RE]⟩
          | cons a l' ih =>
            intro k hp
            obtain ⟨cs', h1, h2, h3, h4⟩ := hp 0 (by simp)
            obtain ⟨cells, r1, r2⟩ := ih (k + 1) (fun i hi => by
              obtain ⟨cs', q1, q2, q3, q4⟩ := hp (i + 1) (by simpa using hi)
              refine ⟨cs', q1, fun j hj => ?_, by simpa using q3, by simpa using q4⟩
              rw [show k + 1 + i = k + (i + 1) by omega]; exact q2 j hj)
            refine ⟨cs' ++ cells, fun j v hv => ?_, ?_⟩
            · rw [List.getElem?_append] at hv
              split at hv
              · rename_i hj
                have := h2 j hj
                rw [hv] at this
                rw [← this]
                simp [Nat.add_assoc]
              · rename_i hj
                have := r1 (j - cs'.length) v hv
                rw [← this]
                congr 2
                rw [Nat.succ_mul]; omega
            · simp only [List.map_cons, RE]
              simp only [List.getElem_cons_zero] at h4
              have hd := rep_dat t a ht
              obtain ⟨u, u1, u2⟩ := R_of_cells (y := (pv.rep t a).pv) (by rw [hd.2.2.1]; exact h4) hd.2.2.2
              refine ⟨u, cells, by rw [u1], by rw [← Array.length_toList, u1]; exact h1, by rw [u1]; exact RL.one h4, u2, r2⟩
        obtain ⟨cells, r1, r2⟩ := go l 0 (fun i hi => by obtain ⟨cs', q⟩ := hp i hi; exact ⟨cs', by simpa using q⟩)
        exact ⟨b, off, e.size, cells, rfl, hb, rfl, by simpa using r1, r2⟩
theorem rep_ar_rep {w : World} {e : Sh} {t : Ty}
    (h : ∀ (x : e.T) (cs : List Value), Rep w e x cs → ∃ a : t.den, okT e t a ∧ RL Ow.zero w (pv.rep t a).pcs cs) :
    ∀ (xs : List e.T) (cs : List Value), cs.length = xs.length * e.size → (∀ (i : Nat) (hi : i < xs.length), Rep w e xs[i] ((cs.drop (i * e.size)).take e.size)) →
    ∃ l : List t.den, l.length = xs.length ∧ (∀ y ∈ l, okT e t y) ∧ RL Ow.zero w (l.flatMap fun y => (pv.rep t y).pcs) cs := by
  intro xs
  induction xs with
  | nil => intro cs hc _; exact ⟨[], rfl, by simp, by simp at hc; subst hc; simp [RL]⟩
  | cons x xs ih =>
    intro cs hc hi
    have h0 := hi 0 (by simp)
    simp only [Nat.zero_mul, List.drop_zero, List.getElem_cons_zero] at h0
    obtain ⟨a, o, q⟩ := h x _ h0
    obtain ⟨l, l1, l2, l3⟩ := ih (cs.drop e.size) (by rw [List.length_drop, hc, List.length_cons, Nat.succ_mul]; omega) (fun i hil => by
      have := hi (i + 1) (by simpa using hil)
      rw [List.drop_drop]
      rw [show e.size + i * e.size = (i + 1) * e.size by rw [Nat.succ_mul]; omega]
      simpa using this)
    refine ⟨a :: l, by simp [l1], fun y hy => ?_, ?_⟩
    · rcases List.mem_cons.1 hy with rfl | hy
      · exact o
      · exact l2 y hy
    · rw [List.flatMap_cons, ← List.take_append_drop e.size cs]
      exact q.append l3
theorem rep_typed {w : World} : ∀ (s : Sh) (t : Ty), shT s t = true → ∀ (x : s.T) (cs : List Value), Rep w s x cs → ∃ a : t.den, okT s t a ∧ RL Ow.zero w (pv.rep t a).pcs cs
  | .int k, .i k', h, x, cs, hr => by
    have e := kEq_eq h
    subst e
    obtain ⟨rfl, h2⟩ := hr
    exact ⟨x, h2, by simp only [pv.rep, Rp.dat, RL, R]; exact ⟨_, _, rfl, ⟨rfl, rfl⟩, rfl, rfl⟩⟩
  | .bool, .bl, h, x, cs, hr => by
    have : cs = [.bool x] := hr
    subst this
    exact ⟨x, trivial, by simp only [pv.rep, Rp.dat, RL, R]; exact ⟨_, _, rfl, ⟨rfl, rfl⟩, rfl, rfl⟩⟩
  | .str, .str, h, x, cs, hr => by
    obtain ⟨rfl, h2⟩ := hr
    refine ⟨(show ByteArray from x).data.toList, ?_, ?_⟩
    · show List.length _ ≤ _
      rw [Array.length_toList]; exact h2
    · simp only [pv.rep, Rp.dat, RL, R]
      exact ⟨_, _, rfl, ⟨rfl, rfl⟩, rfl, rfl⟩
  | .unit, .un, h, x, cs, hr => by
    have : cs = [] := hr
    subst this
    exact ⟨(), trivial, by simp [pv.rep, RL]⟩
  | .pair a b, .pr c d, h, x, cs, hr => by
    simp only [shT, Bool.and_eq_true] at h
    obtain ⟨c1, c2, rfl, r1, r2⟩ := hr
    obtain ⟨p, o1, q1⟩ := rep_typed a c h.1 _ c1 r1
    obtain ⟨q, o2, q2⟩ := rep_typed b d h.2 _ c2 r2
    exact ⟨pmk p q, ⟨o1, o2⟩, q1.append q2⟩
  | .slice by_ e, .sl t, h, x, cs, hr => by
    simp only [shT, Bool.and_eq_true] at h
    exact rep_sl_rep h.1.1.2 (Nat.eq_of_beq_eq_true h.1.2) (Nat.lt_of_lt_of_le Nat.zero_lt_one (Nat.le_of_ble_eq_true h.2)) (rep_typed e t h.1.1.1) hr
  | .arr n e, .ar m t, h, x, cs, hr => by
    simp only [shT, Bool.and_eq_true] at h
    obtain ⟨h1, h2, h3⟩ := hr
    obtain ⟨l, l1, l2, l3⟩ := rep_ar_rep (rep_typed e t h.1.1.1) x cs (by rw [h2, h1]) h3
    exact ⟨⟨l, by rw [l1, h1]; exact Nat.eq_of_beq_eq_true h.1.2⟩, l2, l3⟩
/-- an argument of a law -/
theorem arg_typed {s : Sh} {t : Ty} (h : shT s t = true) (hd : t.dat = true) (ha : s.isAgg = t.agg) {w : World} {v : Value} (hv : Arg w s v) : ∃ a : t.den, okT s t a ∧ R Ow.zero w (pv.rep t a).pv v := by
  obtain ⟨x, cs, hr, hv⟩ := hv
  obtain ⟨a, o, q⟩ := rep_typed s t h x cs hr
  refine ⟨a, o, ?_⟩
  have hd1 := rep_dat t a hd
  rw [ha] at hv
  cases hg : t.agg with
  | true =>
    rw [hg] at hv
    simp at hv
    subst hv
    have e : (pv.rep t a).pv = .agg (pv.rep t a).pcs := by cases t <;> first | rfl | (simp [Ty.agg] at hg; done)
    rw [e]
    simp only [R]
    exact ⟨cs, rfl, q⟩
  | false =>
    rw [hg] at hv
    simp at hv
    subst hv
    have e : (pv.rep t a).pcs = [(pv.rep t a).pv] := by
      have h1 := rep_one t a (dat_cel t hd) hg
      rw [hd1.1, hd1.2.1] at h1
      generalize (pv.rep t a).pcs = ps at h1
      cases ps with
      | nil => simp at h1
      | cons p r => simp at h1; rw [h1.1, h1.2]
    rw [e] at q
    simp only [RL] at q
    obtain ⟨v', r, e, q, _⟩ := q
    simp at e
    obtain ⟨rfl, _⟩ := e
    exact q
theorem RT0_nil {w : World} : RT Ow.zero w [] [] := by simp only [RT]
theorem RT0_cons {w : World} {x : PV} {xs : List PV} {v : Value} {vs : List Value} (h : R Ow.zero w x v) (h' : RT Ow.zero w xs vs) : RT Ow.zero w (x :: xs) (v :: vs) := by simp only [RT]; exact ⟨_, _, rfl, h, h'⟩
/-- groups of which there is none yet -/
def emp : OK → XO
  | .ab g t => .ob (.ab g t) ([] : List t.den)
  | .am g a b => .ob (.am g a b) ([] : List (List (a.den × b.den)))
  | _ => .none
def isGrp : OK → Option Nat
  | .ab g _ => some g
  | .am g _ _ => some g
  | _ => none
theorem emp_cu {o : OK} (h : (isGrp o).isSome = true) : ∃ q : Cust, absO (emp o) = .cu q [] ∧ q.tag = isGrp o ∧ liveX (emp o) = true ∧ ∀ w, q.I Ow.zero w (bunH []) [] := by
  cases o <;> first | (simp [isGrp] at h; done) | skip
  · exact ⟨_, rfl, rfl, rfl, fun w => ⟨[], rfl, rfl, List.nodup_nil, rfl, fun i b c hi => by simp at hi⟩⟩
  · exact ⟨_, rfl, rfl, rfl, fun w => ⟨[], rfl, rfl, List.nodup_nil, rfl, fun i b c hi => by simp at hi⟩⟩
theorem nodup_inj {α : Type} {l : List α} (h : l.Nodup) {i j : Nat} (hi : i < l.length) (hj : j < l.length) (e : l[i] = l[j]) : i = j := by
  have hp := List.pairwise_iff_getElem.1 h
  rcases Nat.lt_trichotomy i j with q | q | q
  · exact absurd e (hp i j hi hj q)
  · exact q
  · exact absurd e.symm (hp j i hj hi q)
theorem emp_sim {ks : List OK} (h1 : ks.all (fun o => (isGrp o).isSome) = true) (h2 : (ks.map isGrp).Nodup) (w : World) :
    SimH ⟨w, fun _ => false, Ow.zero, fun _ => bunH [], fun _ => true⟩ ((ks.map emp).map absO) w Ow.zero (fun _ => bunH []) where
  below := Kt.refl _ _
  fresh _ _ := rfl
  objs l o ho := by
    rw [List.map_map, List.getElem?_map] at ho
    cases hk : ks[l]? with
    | none => rw [hk] at ho; cases ho
    | some k =>
      rw [hk] at ho
      obtain ⟨q, e, _, _, hI⟩ := emp_cu (List.all_eq_true.1 h1 k (List.mem_of_getElem? hk))
      have : o = absO (emp k) := by cases ho; rfl
      rw [this, e]
      exact ⟨fun b hb => by rw [bunH_blocks] at hb; simp at hb, [], by simp [RFL], hI w⟩
  dist l l' o o' b _ _ _ _ _ hb := by rw [bunH_blocks] at hb; simp at hb
  tags := by
    refine ⟨?_, fun _ _ _ _ _ => rfl⟩
    intro l l' o o' g ho ho' ht ht'
    rw [List.map_map, List.getElem?_map] at ho ho'
    cases hk : ks[l]? with
    | none => rw [hk] at ho; cases ho
    | some k =>
      cases hk' : ks[l']? with
      | none => rw [hk'] at ho'; cases ho'
      | some k' =>
        rw [hk] at ho; rw [hk'] at ho'
        obtain ⟨q, e, t1, _, _⟩ := emp_cu (List.all_eq_true.1 h1 k (List.mem_of_getElem? hk))
        obtain ⟨q', e', t1', _, _⟩ := emp_cu (List.all_eq_true.1 h1 k' (List.mem_of_getElem? hk'))
        have a1 : o = absO (emp k) := by cases ho; rfl
        have a2 : o' = absO (emp k') := by cases ho'; rfl
        rw [a1, e] at ht; rw [a2, e'] at ht'
        have b1 : isGrp k = some g := by rw [← t1]; exact ht
        have b2 : isGrp k' = some g := by rw [← t1']; exact ht'
        have hl := (List.getElem?_eq_some_iff.1 hk).1
        have hl' := (List.getElem?_eq_some_iff.1 hk').1
        refine nodup_inj h2 (i := l) (j := l') (by simpa using hl) (by simpa using hl') ?_
        rw [List.getElem_map, List.getElem_map, (List.getElem?_eq_some_iff.1 hk).2, (List.getElem?_eq_some_iff.1 hk').2, b1, b2]
theorem fvs_dat : ∀ (vs : List XV), vs.all (fun v => v.t.dat) = true → vs.map XV.fv = (vs.map fun v => v.rep.pv).map FV.d
  | [], _ => rfl
  | v :: vs, h => by
    simp only [List.all_cons, Bool.and_eq_true] at h
    simp only [List.map_cons, fvs_dat vs h.2]
    have := (rep_dat v.t v.x h.1).2.1
    rw [show XV.fv v = FV.d v.rep.pv from this]
/-- a law that returns true -/
theorem law_of {E : Env} {call : CallT E} (hc : CallOk E call) {g : FuncId} {vs : List XV} {ks : List OK} (h1 : ks.all (fun o => (isGrp o).isSome) = true) (h2 : (ks.map isGrp).Nodup) (hd : vs.all (fun v => v.t.dat) = true)
    {x : (outC E g vs (ks.map emp)).den} (h : call g vs (ks.map emp) = some x) {new : List OK} {y : (Ty.pr .bl (bun (kalt E g vs (ks.map emp) ++ new))).den}
    (hg : altG (kalt E g vs (ks.map emp)) (altsOf E g (ksOut E g vs (ks.map emp)).length) x = some ⟨.bl, new, y⟩) (ht : (show Bool from p1 y) = true)
    {w : World} {us : List Value} (ha : RT Ow.zero w (vs.map fun v => v.rep.pv) us) : Calls E.P g us.toArray w (help.Ret (.bool true) w) := by
  have hl : (ks.map emp).all liveX = true := by
    rw [List.all_map, List.all_eq_true]
    intro o ho
    obtain ⟨_, _, _, h3, _⟩ := emp_cu (List.all_eq_true.1 h1 o ho)
    exact h3
  obtain ⟨_, _, hr⟩ := hc g vs (ks.map emp) x h hl .bl new y hg
  have ha' : RFT (al ((ks.map emp).map absO)) (fun _ => bunH []) Ow.zero w (vs.map XV.fv) us := by rw [fvs_dat vs hd]; exact RFT.of_RT ha
  refine (hr ⟨w, fun _ => false, Ow.zero, fun _ => bunH [], fun _ => true⟩ (fun _ => bunH []) us (emp_sim h1 h2 w) ha').mono fun e w' he => ?_
  obtain ⟨v, ow', hd', rfl, _, _, S, _, hv⟩ := he
  have e : p1 y = true := ht
  rw [e] at hv
  simp only [pv.rep, Rp.dat, RF, R] at hv
  obtain ⟨rfl, _⟩ := hv
  have b := S.below
  exact ⟨rfl, ⟨b.os, b.tape, b.output, b.size, fun k hk => b.block k hk rfl⟩⟩
end Go.Proofs.YtnkdanobhgofbaaGreatDoor.pv
