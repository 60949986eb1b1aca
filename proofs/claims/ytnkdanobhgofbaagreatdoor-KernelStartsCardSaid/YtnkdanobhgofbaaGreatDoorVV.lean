/- Calls that only look; all operations. -/
import Derived.Test.YtnkdanobhgofbaaGreatDoorVU
namespace Go.Proofs.YtnkdanobhgofbaaGreatDoor.pv
set_option linter.all false
open Go.RowKit
theorem pub_kp (ow : Ow) (w : World) : Kp ow w ow.no w := ⟨Nat.le_refl _, fun _ _ _ => rfl, fun _ _ _ => rfl⟩
/-- a value as data is what it was -/
theorem RE_tk {ow : Ow} {w : World} {s : Nat} : ∀ (j : Nat) {xs : List PV} {cs : List Value}, RE ow w s xs cs → RE ow w s (xs.take j) (cs.take (j * s))
  | 0, xs, cs, _ => by simp only [List.take_zero, Nat.zero_mul, RE]
  | j + 1, [], cs, h => by
    simp only [RE] at h
    subst h
    simp only [List.take_nil, RE]
  | j + 1, x :: xs, cs, h => by
    simp only [RE] at h
    obtain ⟨u, r, e, h1, h2, h3, h4⟩ := h
    subst e
    simp only [List.take_succ_cons, RE]
    refine ⟨u, r.take (j * s), ?_, h1, h2, h3, RE_tk j h4⟩
    have hl : u.cells.toList.length = s := by simpa using h1
    rw [List.take_append, hl, List.take_of_length_le (by rw [hl, Nat.succ_mul]; omega), show (j + 1) * s - s = j * s by rw [Nat.succ_mul]; omega]
theorem RE_dp {ow : Ow} {w : World} {s : Nat} : ∀ (i : Nat) {xs : List PV} {cs : List Value}, RE ow w s xs cs → RE ow w s (xs.drop i) (cs.drop (i * s))
  | 0, xs, cs, h => by simpa using h
  | i + 1, [], cs, h => by
    simp only [RE] at h
    subst h
    simp only [List.drop_nil, RE]
  | i + 1, x :: xs, cs, h => by
    simp only [RE] at h
    obtain ⟨u, r, e, h1, h2, h3, h4⟩ := h
    subst e
    have hl : u.cells.toList.length = s := by simpa using h1
    have hz : List.drop ((i + 1) * s) u.cells.toList = [] := List.drop_of_length_le (by rw [hl, Nat.succ_mul]; omega)
    rw [List.drop_succ_cons, List.drop_append, hl, hz, List.nil_append, show (i + 1) * s - s = i * s by rw [Nat.succ_mul]; omega]
    exact RE_dp i h4
theorem part_R {n : Nat} {w0 : Cx} {st : PS} {a : Act} {w : World} {ow : Ow} {hd : Nat → Value} {l e s i j : Nat} {xs : List PV} {A : Nat → Bool} {u : Value} (S : SimW n w0 st a w ow hd) (hm : st.m[l]? = some (.row e s xs)) (hx : RF A hd ow w (.ssl l i j s) u) (hij : i ≤ j ∧ j ≤ xs.length) : R ow.no w (.sl ((xs.take j).drop i)) u := by
  have hk : Kp ow w ow.no w := pub_kp ow w
  simp only [RF] at hx
  obtain ⟨_, ad, nn, c, x1, x2, x3, rfl⟩ := hx
  obtain ⟨cells, r1, r2, r3⟩ := S.objs l _ hm
  have hlen : ((xs.take j).drop i).length = j - i := by rw [List.length_drop, List.length_take]; omega
  have hcm : c ≤ maxLen := by
    rcases r1.2 with ⟨q, _⟩ | ⟨g, cap, cur, q, _, _, _, q2, _⟩
    · rw [x1] at q; simp at q; simp [maxLen, q.2.2]
    · rw [x1] at q; simp at q; omega
  simp only [R]
  refine ⟨_, c - i, by rw [hlen], by rw [hlen]; omega, by omega, ?_⟩
  by_cases h0 : i = j
  · left; apply List.eq_nil_of_length_eq_zero; rw [hlen]; omega
  · right
    rcases r1.2 with ⟨q, q2⟩ | ⟨g, cap, cur, q, q1, q2, q3, q4, q5, q6⟩
    · omega
    · rw [x1] at q
      simp at q
      obtain ⟨rfl, rfl, rfl⟩ := q
      have had : (⟨g, 0, none⟩ : Addr).add (i * s) = ⟨g, i * s, none⟩ := by unfold Addr.add; split <;> simp_all
      rw [if_neg (by omega), Option.map_some, had]
      have hj := RE_dp i (RE_tk j (RE.mono hk _ _ _ r3))
      refine ⟨g, i * s, s, _, rfl, (Array.getElem?_eq_some_iff.1 q2).1, rfl, fun k v hv => ?_, hj⟩
      rw [List.getElem?_drop, List.getElem?_take] at hv
      split at hv
      · have h7 : (cur.toList.take (xs.length * s))[i * s + k]? = some v := by rw [q6]; exact hv
        rw [List.getElem?_take] at h7
        split at h7
        · unfold World.cell?
          simp only [q2]
          simpa using h7
        · cases h7
      · cases hv
theorem view_spec {N : Nat} {f : List (Nat × XV)} {m : List (Nat × XO)} {ps : PS} (A : Abs N f m ps) : ∀ (t : Ty) (x : t.den) (v : XV), viewX m t x = some v → v.t.dat = true ∧ t.agg = v.t.agg ∧ ∃ mo : List (Nat × PO), (∀ q ∈ mo, ps.m[q.1]? = some q.2 ∧ q.1 ∈ locsT t) ∧
    ∀ {n : Nat} {w0 : Cx} {st : PS} {a : Act} {w : World} {ow : Ow} {hd : Nat → Value}, SimW n w0 st a w ow hd → (∀ q ∈ mo, st.m[q.1]? = some q.2) → (∀ u, RF (al st.m) hd ow w (rep t x).fv u → R ow.no w (rep v.t v.x).pv u) ∧ ∀ us, RFL (al st.m) hd ow w (rep t x).cells us → RL ow.no w (rep v.t v.x).pcs us := by
  have key : ∀ (t : Ty) (x : t.den) (v : XV), (bif t.dat then some (⟨t, x⟩ : XV) else none) = some v → v.t.dat = true ∧ t.agg = v.t.agg ∧ ∃ mo : List (Nat × PO), (∀ q ∈ mo, ps.m[q.1]? = some q.2 ∧ q.1 ∈ locsT t) ∧
      ∀ {n : Nat} {w0 : Cx} {st : PS} {a : Act} {w : World} {ow : Ow} {hd : Nat → Value}, SimW n w0 st a w ow hd → (∀ q ∈ mo, st.m[q.1]? = some q.2) → (∀ u, RF (al st.m) hd ow w (rep t x).fv u → R ow.no w (rep v.t v.x).pv u) ∧ ∀ us, RFL (al st.m) hd ow w (rep t x).cells us → RL ow.no w (rep v.t v.x).pcs us := by
    intro t x v h
    obtain ⟨hd, h⟩ := cond_some h
    cases h
    have hr := rep_dat t x hd
    refine ⟨hd, rfl, [], by simp, fun {n w0 st a w ow hd'} S _ => ⟨fun u hu => ?_, fun us hu => ?_⟩⟩
    · rw [hr.2.1] at hu
      simp only [RF] at hu
      exact R.mono (pub_kp ow w) _ _ hu
    · rw [hr.1] at hu
      exact RL.mono (pub_kp ow w) _ _ (RFL.to_RL hu)
  intro t
  induction t with
  | pr a b iha ihb =>
    intro x v h
    simp only [viewX] at h
    split at h
    · rename_i va vb h1 h2
      cases h
      obtain ⟨a1, _, moa, a2, a3⟩ := iha _ _ h1
      obtain ⟨b1, _, mob, b2, b3⟩ := ihb _ _ h2
      have hd : (Ty.pr va.t vb.t).dat = true := by simp only [Ty.dat, a1, b1, Bool.and_self]
      refine ⟨hd, rfl, moa ++ mob, fun q hq => ?_, fun {n w0 st ac w ow hd'} S hm => ?_⟩
      · rcases List.mem_append.1 hq with hq | hq
        · exact ⟨(a2 q hq).1, List.mem_append.2 (.inl (a2 q hq).2)⟩
        · exact ⟨(b2 q hq).1, List.mem_append.2 (.inr (b2 q hq).2)⟩
      · obtain ⟨_, a4⟩ := a3 S fun q hq => hm q (List.mem_append.2 (.inl hq))
        obtain ⟨_, b4⟩ := b3 S fun q hq => hm q (List.mem_append.2 (.inr hq))
        have hc : ∀ us, RFL (al st.m) hd' ow w ((rep a (p1 x)).cells ++ (rep b (p2 x)).cells) us → RL ow.no w ((rep va.t va.x).pcs ++ (rep vb.t vb.x).pcs) us := by
          intro us hu
          obtain ⟨p, q, rfl, h1, h2⟩ := RFL_append.1 hu
          exact RL.append (a4 _ h1) (b4 _ h2)
        refine ⟨fun u hu => ?_, hc⟩
        have hu : RF (al st.m) hd' ow w (mkAgg ((rep a (p1 x)).cells ++ (rep b (p2 x)).cells)) u := hu
        obtain ⟨vs, rfl, h1⟩ := RF_mkAgg.1 hu
        show R ow.no w (.agg ((rep va.t va.x).pcs ++ (rep vb.t vb.x).pcs)) _
        simp only [R]
        exact ⟨vs, rfl, hc _ h1⟩
    · cases h
  | cl g t ih =>
    intro x v h
    simp only [viewX] at h
    split at h
    · rename_i vt h1
      cases h
      obtain ⟨a1, _, mo, a2, a3⟩ := ih _ _ h1
      refine ⟨a1, rfl, mo, a2, fun {n w0 st ac w ow hd'} S hm => ?_⟩
      obtain ⟨_, a4⟩ := a3 S hm
      have hf : ∀ u, RF (al st.m) hd' ow w (mkClo g (rep t x).cells) u → R ow.no w (.clo g (rep vt.t vt.x).pcs) u := by
        intro u hu
        obtain ⟨vs, rfl, h1⟩ := RF_mkClo.1 hu
        simp only [R]
        exact ⟨vs, rfl, a4 _ h1⟩
      refine ⟨hf, fun us hu => ?_⟩
      have hu : RFL (al st.m) hd' ow w [mkClo g (rep t x).cells] us := hu
      obtain ⟨u, rfl, h1, h2⟩ := RFL_one.1 hu
      show RL ow.no w [.clo g (rep vt.t vt.x).pcs] _
      simp only [RL]
      exact ⟨u, [], rfl, hf u h1, h2, rfl⟩
    · cases h
  | rf l p =>
    intro d v h
    simp only [viewX] at h
    split at h
    · rename_i c y ho
      obtain ⟨hd, h⟩ := cond_some h
      cases h
      have hm0 := A.at ho (by simp)
      refine ⟨hd, rfl, [(l, .box (rep c y).cells)], fun q hq => by rw [List.mem_singleton.1 hq]; exact ⟨hm0, by simp [locsT]⟩, fun {n w0 st ac w ow hd'} S hm => ?_⟩
      have hml := hm (l, .box (rep c y).cells) (by simp)
      simp only at hml
      have hf : ∀ u, RF (al st.m) hd' ow w (.ref l (offP p d)) u → R ow.no w (.iptr (rep c y).pcs (offP p d)) u := by
        intro u hu
        simp only [RF] at hu
        obtain ⟨_, b, e1, e2⟩ := hu
        obtain ⟨b', vals, t, h1, h2, h3, h4, h5⟩ := S.objs l _ hml
        rw [e1] at h1
        simp at h1
        subst h1
        rw [(rep_dat c y hd).1] at h5
        rw [e2]
        simp only [R]
        refine ⟨b, 0, vals.toList, by simp, (Array.getElem?_eq_some_iff.1 h4).1, rfl, fun j v hv => ?_, RL.mono (pub_kp ow w) _ _ (RFL.to_RL h5)⟩
        unfold World.cell?
        simp only [h4]
        simpa using hv
      refine ⟨hf, fun us hu => ?_⟩
      have hu : RFL (al st.m) hd' ow w [.ref l (offP p d)] us := hu
      obtain ⟨u, rfl, h1, h2⟩ := RFL_one.1 hu
      show RL ow.no w [.iptr (rep c y).pcs (offP p d)] _
      simp only [RL]
      exact ⟨u, [], rfl, hf u h1, h2, rfl⟩
    · cases h
  | sr l =>
    intro d v h
    simp only [viewX] at h
    split at h
    · rename_i e s c xs ho
      obtain ⟨hb, h⟩ := cond_some h
      simp only [Bool.and_eq_true] at hb
      cases h
      have hm0 := A.at ho (by simp)
      refine ⟨hb.2, rfl, [(l, .row e s (List.map (fun y : c.den => (rep c y).pv) xs))], fun q hq => by rw [List.mem_singleton.1 hq]; exact ⟨hm0, by simp [locsT]⟩, fun {n w0 st ac w ow hd'} S hm => ?_⟩
      have hml := hm (l, .row e s (List.map (fun y : c.den => (rep c y).pv) xs)) (by simp)
      simp only at hml
      have hf : ∀ u, RF (al st.m) hd' ow w (.srf l) u → R ow.no w (.sl (List.map (fun y : c.den => (rep c y).pv) xs)) u := fun u hu => frz_sound S.toSimH (pub_kp ow w) (fun _ _ => rfl) (.srf l) u (.sl (List.map (fun y : c.den => (rep c y).pv) xs)) (by simp only [frz, hml]) hu
      refine ⟨hf, fun us hu => ?_⟩
      have hu : RFL (al st.m) hd' ow w [.srf l] us := hu
      obtain ⟨u, rfl, h1, h2⟩ := RFL_one.1 hu
      show RL ow.no w [.sl (List.map (fun y : c.den => (rep c y).pv) xs)] _
      simp only [RL]
      exact ⟨u, [], rfl, hf u h1, h2, rfl⟩
    · cases h
  | ss l s =>
    intro d v h
    simp only [viewX] at h
    split at h
    · rename_i e s' c xs ho
      obtain ⟨hb, h⟩ := cond_some h
      simp only [Bool.and_eq_true] at hb
      obtain ⟨⟨⟨⟨h1, h2⟩, h3⟩, h4⟩, h5⟩ := hb
      have h1 := Nat.eq_of_beq_eq_true h1
      subst h1
      have h4 := Nat.le_of_ble_eq_true h4
      have h5 := Nat.le_of_ble_eq_true h5
      cases h
      have hm0 := A.at ho (by simp)
      refine ⟨h3, rfl, [(l, .row e s (List.map (fun y : c.den => (rep c y).pv) xs))], fun q hq => by rw [List.mem_singleton.1 hq]; exact ⟨hm0, by simp [locsT]⟩, fun {n w0 st ac w ow hd'} S hm => ?_⟩
      have hml := hm (l, .row e s (List.map (fun y : c.den => (rep c y).pv) xs)) (by simp)
      simp only at hml
      have hf : ∀ u, RF (al st.m) hd' ow w (.ssl l (Prod.fst (α := Nat) (β := Nat) d) (Prod.snd (α := Nat) (β := Nat) d) s) u → R ow.no w (.sl (List.map (fun y : c.den => (rep c y).pv) ((List.take (α := c.den) (Prod.snd (α := Nat) (β := Nat) d) xs).drop (Prod.fst (α := Nat) (β := Nat) d)))) u := fun u hu => by
        rw [lm_td c xs]
        exact part_R S hml hu ⟨h4, by rw [lm c xs]; exact h5⟩
      refine ⟨hf, fun us hu => ?_⟩
      have hu : RFL (al st.m) hd' ow w [.ssl l (Prod.fst (α := Nat) (β := Nat) d) (Prod.snd (α := Nat) (β := Nat) d) s] us := hu
      obtain ⟨u, rfl, h1, h2⟩ := RFL_one.1 hu
      show RL ow.no w [.sl (List.map (fun y : c.den => (rep c y).pv) ((List.take (α := c.den) (Prod.snd (α := Nat) (β := Nat) d) xs).drop (Prod.fst (α := Nat) (β := Nat) d)))] _
      simp only [RL]
      exact ⟨u, [], rfl, hf u h1, h2, rfl⟩
    · cases h
  | _ => intro x v h; exact key _ x v h
theorem viewL_spec {N : Nat} {f : List (Nat × XV)} {m : List (Nat × XO)} {ps : PS} (A : Abs N f m ps) : ∀ (vs ws : List XV), viewL m vs = some ws → ws.all (fun v => v.t.dat) = true ∧ ∃ mo : List (Nat × PO), (∀ q ∈ mo, ps.m[q.1]? = some q.2 ∧ q.1 ∈ vs.flatMap fun v => locsT v.t) ∧
    ∀ {n : Nat} {w0 : Cx} {st : PS} {a : Act} {w : World} {ow : Ow} {hd : Nat → Value}, SimW n w0 st a w ow hd → (∀ q ∈ mo, st.m[q.1]? = some q.2) → ∀ us, RFT (al st.m) hd ow w (vs.map XV.fv) us → RT ow.no w (ws.map fun v => (rep v.t v.x).pv) us
  | [], ws, h => by
    simp only [viewL] at h
    cases h
    exact ⟨rfl, [], by simp, fun S _ us hu => hu⟩
  | v :: vs, ws, h => by
    simp only [viewL] at h
    split at h
    · rename_i u us h1 h2
      cases h
      obtain ⟨a1, _, moa, a2, a3⟩ := view_spec A v.t v.x u h1
      obtain ⟨b1, mob, b2, b3⟩ := viewL_spec A vs us h2
      refine ⟨by simp only [List.all_cons, a1, b1, Bool.and_self], moa ++ mob, fun q hq => ?_, fun {n w0 st ac w ow hd'} S hm us' hu => ?_⟩
      · rw [List.flatMap_cons]
        rcases List.mem_append.1 hq with hq | hq
        · exact ⟨(a2 q hq).1, List.mem_append.2 (.inl (a2 q hq).2)⟩
        · exact ⟨(b2 q hq).1, List.mem_append.2 (.inr (b2 q hq).2)⟩
      · simp only [List.map_cons, RFT] at hu
        obtain ⟨z, zs, rfl, h3, h4⟩ := hu
        simp only [List.map_cons, RT]
        exact ⟨z, zs, rfl, (a3 S fun q hq => hm q (List.mem_append.2 (.inl hq))).1 z h3, b3 S (fun q hq => hm q (List.mem_append.2 (.inr hq))) zs h4⟩
    · cases h
theorem flatL_app : ∀ xs ys : List PV, flatL xs = true → flatL ys = true → flatL (xs ++ ys) = true
  | [], ys, _, h => h
  | x :: xs, ys, h1, h2 => by
    simp only [flatL, Bool.and_eq_true] at h1
    simp only [List.cons_append, flatL, Bool.and_eq_true]
    exact ⟨h1.1, flatL_app xs ys h1.2 h2⟩
theorem flatD_dat : ∀ (t : Ty) (x : t.den), t.flatD = true → t.dat = true ∧ flat (rep t x).pv = true ∧ flatL (rep t x).pcs = true
  | .pr a b, x, h => by
    simp only [Ty.flatD, Bool.and_eq_true] at h
    obtain ⟨a1, a2, a3⟩ := flatD_dat a (p1 x) h.1
    obtain ⟨b1, b2, b3⟩ := flatD_dat b (p2 x) h.2
    have hc : flatL ((rep a (p1 x)).pcs ++ (rep b (p2 x)).pcs) = true := flatL_app _ _ a3 b3
    refine ⟨by simp only [Ty.dat, a1, b1, Bool.and_self], ?_, hc⟩
    show flat (.agg _) = true
    simp only [flat]; exact hc
  | .i _, _, _ | .bl, _, _ | .str, _, _ | .un, _, _ => ⟨rfl, rfl, rfl⟩
  | .ar _ _, _, h | .sl _, _, h | .ns, _, h | .nz _, _, h | .vp _, _, h | .np _ _, _, h | .vm _, _, h | .rf _ _, _, h | .ep _ _ _, _, h | .dp _ _, _, h | .sr _, _, h | .ss _ _, _, h | .as _ _ _ _ _, _, h | .cl _ _, _, h | .ic _ _, _, h | .tp _, _, h | .mc _ _, _, h | .sm _ _, _, h | .ud, _, h | .dead, _, h => by simp [Ty.flatD] at h
theorem flat_RF {A B : Nat → Bool} {hd hd' : Nat → Value} {ow ow' : Ow} {w w' : World} {t : Ty} {x : t.den} (hd0 : t.dat = true) (hf : flat (rep t x).pv = true) {v : Value} (h : RF A hd ow w (rep t x).fv v) : RF B hd' ow' w' (rep t x).fv v := by
  rw [(rep_dat t x hd0).2.1] at h ⊢
  simp only [RF] at h ⊢
  exact R.flat _ _ hf h
theorem flat_parts {A B : Nat → Bool} {hd hd' : Nat → Value} {ow ow' : Ow} {w w' : World} : ∀ (t : Ty) (x : t.den), t.flatP = true → ∀ us, RFT A hd ow w (rep t x).parts us → RFT B hd' ow' w' (rep t x).parts us
  | .pr a b, x, h, us, hr => by
    simp only [Ty.flatP, Bool.and_eq_true] at h
    have hr : RFT A hd ow w ((rep a (p1 x)).fv :: (rep b (p2 x)).parts) us := hr
    show RFT B hd' ow' w' ((rep a (p1 x)).fv :: (rep b (p2 x)).parts) us
    simp only [RFT] at hr ⊢
    obtain ⟨v, r, rfl, h1, h2⟩ := hr
    refine ⟨v, r, rfl, ?_, flat_parts b (p2 x) h.2 r h2⟩
    obtain ⟨a1, a2, _⟩ := flatD_dat a (p1 x) h.1
    exact flat_RF a1 a2 h1
  | .un, x, _, us, hr => hr
  | .i _, _, h, _, _ | .bl, _, h, _, _ | .str, _, h, _, _ | .ar _ _, _, h, _, _ | .sl _, _, h, _, _ | .ns, _, h, _, _ | .nz _, _, h, _, _ | .vp _, _, h, _, _ | .np _ _, _, h, _, _ | .vm _, _, h, _, _ | .rf _ _, _, h, _, _ | .ep _ _ _, _, h, _, _ | .dp _ _, _, h, _, _ | .sr _, _, h, _, _ | .ss _ _, _, h, _, _ | .as _ _ _ _ _, _, h, _, _ | .cl _ _, _, h, _, _ | .ic _ _, _, h, _, _ | .tp _, _, h, _, _ | .mc _ _, _, h, _, _ | .sm _ _, _, h, _, _ | .ud, _, h, _, _ | .dead, _, h, _, _ => by simp [Ty.flatP] at h
theorem flat_res {A B : Nat → Bool} {hd hd' : Nat → Value} {ow ow' : Ow} {w w' : World} {t : Ty} {x : t.den} (h : t.flatR = true) {v : Value} (hr : RF A hd ow w (rep t x).fv v) : RF B hd' ow' w' (rep t x).fv v := by
  cases t with
  | tp u =>
    have hr : RF A hd ow w (.tup (rep u x).parts) v := hr
    show RF B hd' ow' w' (.tup (rep u x).parts) v
    simp only [RF] at hr ⊢
    obtain ⟨vs, rfl, h1⟩ := hr
    exact ⟨vs, rfl, flat_parts u x h _ h1⟩
  | _ =>
    obtain ⟨a1, a2, _⟩ := flatD_dat _ x h
    exact flat_RF a1 a2 hr
theorem RE_flat {ow ow' : Ow} {w : World} {s : Nat} : ∀ {xs : List PV} {cs : List Value}, xs.all flat = true → RE ow w s xs cs → RE ow' w s xs cs
  | [], cs, _, h => by simpa only [RE] using h
  | x :: xs, cs, hf, h => by
    simp only [List.all_cons, Bool.and_eq_true] at hf
    simp only [RE] at h ⊢
    obtain ⟨u, r, e, h0, h1, h2, h3⟩ := h
    exact ⟨u, r, e, h0, h1, R.flat _ _ hf.1 h2, RE_flat hf.2 h3⟩
/-- what a look has made -/
theorem SimW.addRow {n : Nat} {w0 : Cx} {st : PS} {a : Act} {w : World} {ow : Ow} {hd : Nat → Value} (S : SimW n w0 st a w ow hd) (hold : Keep w0 ow) {nl : Nat} (hf : st.m[nl]? = some .free) {w' : World} {ow2 : Ow} {hd2 : Nat → Value} {e s : Nat} {rs : List PV}
    (S2 : SimH ⟨w, fun _ => false, ow.no, fun _ => undef, fun _ => false⟩ [.row e s rs] w' ow2 hd2) (hfl : rs.all flat = true) {v : Value} (hr : RF (al [.row e s rs]) hd2 ow2 w' (.srf 0) v) :
    ∃ ow3 hd3, Keep w0 ow3 ∧ SimW n w0 ⟨st.f, st.m.set nl (.row e s rs)⟩ a w' ow3 hd3 ∧ RF (al (st.m.set nl (.row e s rs))) hd3 ow3 w' (.srf nl) v := by
  have hlen : nl < st.m.length := (List.getElem?_eq_some_iff.1 hf).1
  have hal : al st.m nl = false := by simp [al, hf, PO.made]
  have hblk : ∀ b, b < w.heap.size → w'.heap[b]? = w.heap[b]? := fun b hb => S2.below.block b hb rfl
  have hsz0 := S.below.size
  have hsz2 : w.heap.size ≤ w'.heap.size := S2.below.size
  have hKp : Kp ow w (ow.set fun b => if b < w.heap.size then ow b else ow2 b) w' := ⟨hsz2, fun b hb h => by
    show (if b < w.heap.size then ow b else ow2 b) = false
    rw [if_pos hb]; exact h, fun b hb _ => hblk b hb⟩
  have hKt : Kt w0 w w' := ⟨S2.below.os, S2.below.tape, S2.below.output, hsz2, fun k hk _ => hblk k (Nat.lt_of_lt_of_le hk hsz0)⟩
  obtain ⟨cells, g1, g2, g3⟩ := S2.objs 0 _ rfl
  have hnew : ∀ b, b ∈ blocksOf (hd2 0) → w.heap.size ≤ b ∧ ow2 b = true := fun b hb => by
    obtain ⟨h1, h2⟩ := g2 b hb
    rcases h1 with h1 | h1
    · exact ⟨h1, h2⟩
    · cases h1
  have hS := S.obj (l := nl) (hv := hd2 0) (o := .row e s rs) hKp hKt
    (fun b hb => by
      show (if b < w.heap.size then ow b else ow2 b) = false
      rw [if_neg (by omega)]; exact S2.fresh b hb)
    (.inl hal) (.inl hal)
    ⟨cells, g1, fun b hb => ⟨.inl (by have := (hnew b hb).1; omega), by
      show (if b < w.heap.size then ow b else ow2 b) = true
      rw [if_neg (by have := (hnew b hb).1; omega)]; exact (hnew b hb).2⟩, RE_flat hfl g3⟩
    (fun j oj b hne hj hlv hb => by
      have hbj := ((S.objs j oj hj).lt hlv b hb).1
      exact ⟨hblk b hbj, if_pos hbj, fun _ hb' => by have := (hnew b hb').1; omega⟩)
  refine ⟨_, _, hold.step (ow' := ow.set fun b => if b < w.heap.size then ow b else ow2 b) (fun b hb _ => if_pos (Nat.lt_of_lt_of_le hb hsz0)), hS, ?_⟩
  simp only [RF] at hr ⊢
  obtain ⟨_, h2, h3⟩ := hr
  refine ⟨by rw [al_set_same hlen]; rfl, by rw [upd_same]; exact h2, ?_⟩
  simpa only [upd_same] using h3
section
variable {α : Type} {E : Env} {N : Nat} {f : List (Nat × XV)} {m : List (Nat × XO)} {ps : PS} {nl : Nat} {K : KT α} {out : α} {call : CallT E}
theorem viewT_eq {m : List (Nat × XO)} : ∀ {v u : XV}, ssOk m v = true → viewT m v = some u → viewX m v.t v.x = some u := by
  intro v u h1 h2
  unfold viewT at h2
  split at h2
  · rename_i l s d
    simp only [ssOk] at h1
    split at h2
    · rename_i e s' c xs ho
      rw [ho] at h1
      simp only [Bool.and_eq_true] at h1
      obtain ⟨hb, hK⟩ := cond_some h2
      simp only [viewX, ho]
      rw [hb, h1.1, h1.2]
      exact hK
    · cases h2
  · exact h2
theorem viewL0_eq {m : List (Nat × XO)} : ∀ {vs us : List XV}, vs.all (ssOk m) = true → viewL0 m vs = some us → viewL m vs = some us
  | [], us, _, h => h
  | v :: vs, us, h1, h2 => by
    simp only [List.all_cons, Bool.and_eq_true] at h1
    simp only [viewL0] at h2
    split at h2
    · rename_i u us' g1 g2
      simp only [viewL, viewT_eq h1.1 g1, viewL0_eq h1.2 g2]
      exact h2
    · cases h2
theorem xLookCall_good (C : Ctx E N f m ps nl) (hc : CallOk E call) {fo : Operand} {args : Array Operand} {tys : Array Nat} {g : FuncId} {t : Ty} {cx : t.den} (hf : evX f fo = ⟨.cl g t, cx⟩) (hcap : capOk t = true)
    (h : xLookCall E call m nl g (argsX E.cd (args.toList.map (evX f)) tys.toList) (capX t cx) K = some out) : Good E ps nl (.call ⟨.value fo, args, tys⟩) K out := by
  unfold xLookCall at h
  generalize hvs : argsX E.cd (args.toList.map (evX f)) tys.toList = vs at h
  cases hss : (vs ++ capX t cx).all (ssOk m) with
  | false => rw [hss] at h; cases h
  | true =>
  rw [hss, Bool.not_true, cond_false] at h
  split at h
  · rename_i ws hws
    have hws := viewL0_eq hss hws
    obtain ⟨x, hx, h1⟩ := bind_some h
    clear h
    have hx := cut_some hx
    have h1 := (altK_eq _ _ _ _).symm.trans h1
    obtain ⟨q, hq, h1⟩ := bind_some h1
    obtain ⟨rt, new, y⟩ := q
    obtain ⟨w1, mo, w2, w3⟩ := viewL_spec C.toAbs _ _ hws
    have hkl : kalt E g ws [] = [] := List.eq_nil_of_length_eq_zero (kalt_length E g ws [])
    have hret := hc g ws [] x hx rfl rt new y hq
    simp only at h1
    have hcf : ev ps.f fo = mkClo g (rep t cx).cells := ev_of (t := .cl g t) (y := cx) C.toAbs hf rfl
    cases hne : new.isEmpty with
    | true =>
      rw [hne, cond_true] at h1
      obtain ⟨hb2, hK⟩ := cond_some h1
      rw [List.isEmpty_iff] at hne
      subst hne
      have hm2 : keepM (E.kp g ([] : List XO).length) 0 (([] : List XO).map absO) ((unb (kalt E g ws [] ++ []) (p2 y)).map absO) = [] := by
        apply List.eq_nil_of_length_eq_zero
        simp only [List.map_nil, keepM]
        rw [List.length_map, unb_length, List.length_append, kalt_length]; rfl
      rw [hm2] at hret
      refine good_ext (v := ⟨rt, p1 y⟩) (r := (rep rt (p1 y)).fv) mo (fun q hq => (w2 q hq).1) (by simp [absU]) ?_ (Le.refl _) (fun q hq => (w2 q hq).2) (by simp) hK
      intro n w0 st a w oo hT hS ho hn hv hm K Q hK
      obtain ⟨ow, hd, hold, S⟩ := hS
      obtain ⟨dst, op, ty, pos, af, gd⟩ := oo
      simp only at ho hn hK
      subst ho
      simp only [Op.operands, Call.operands, Array.toList_append, List.cons_append, List.nil_append, List.map_cons, List.cons.injEq] at hv
      obtain ⟨hv1, hv2⟩ := hv
      obtain ⟨cvs, hf1, hf2⟩ := cloOf_run S hv1 (by rw [hcf]; exact clo_of)
      have hargs := RFT_of_eval S args.toList
      rw [hv2] at hargs
      unfold Oper.wp
      rw [run_call hf1 hret.1]
      show Calls E.P g (args.map a.eval ++ cvs.toArray) w _
      have harr : args.map a.eval ++ cvs.toArray = (args.toList.map a.eval ++ cvs).toArray := by
        apply Array.toList_inj.1; simp
      rw [harr]
      have hall : RFT (al st.m) hd ow w ((vs ++ capX t cx).map XV.fv) (args.toList.map a.eval ++ cvs) := by
        rw [List.map_append]
        refine RFT.append ?_ ?_
        · rw [← hvs]
          exact args_im _ _ _ (rft_le C.toAbs _ _ hargs)
        · rw [← cap_cells t cx hcap]
          exact RFT.of_RFL hf2
      have hRT := w3 S hm _ hall
      let c1 : Cx := ⟨w, fun _ => false, ow.no, fun _ => undef, fun _ => false⟩
      have S1 : SimH c1 [] w ow.no (fun _ => undef) := ⟨Kt.refl _ _, fun _ _ => rfl, fun l o hl => by simp at hl, fun l l' o o' b _ hl => by simp at hl, ⟨fun l l' o o' g hl => by simp at hl, fun l o g hl => by simp at hl⟩⟩
      have hws2 : RFT (al []) (fun _ => undef) ow.no w (ws.map XV.fv) (args.toList.map a.eval ++ cvs) := by
        have e : ws.map XV.fv = (ws.map fun v => (rep v.t v.x).pv).map FV.d := by
          rw [List.map_map]
          apply List.map_congr_left
          intro v hv
          exact (rep_dat v.t v.x (List.all_eq_true.1 w1 v hv)).2.1
        rw [e]
        exact RFT.of_RT hRT
      refine (hret.2.2 c1 (fun _ => undef) _ S1 hws2).mono fun e w' ⟨v, ow', hd', he, k', kt, S', _, hr⟩ => ?_
      subst he
      have hbel : Below w.heap.size w w' := ⟨S'.below.os, S'.below.tape, S'.below.output, S'.below.size, fun k hk => S'.below.block k hk rfl⟩
      exact hK _ _ ⟨ow, hd, hold, (S.later hbel).put hn (flat_res hb2 hr)⟩
    | false =>
      rw [hne, cond_false] at h1
      unfold xLookRow at h1
      split at h1
      · rename_i e s c xs hos
        obtain ⟨hb2, hK⟩ := cond_some h1
        have hm2 : keepM (E.kp g ([] : List XO).length) 0 (([] : List XO).map absO) ((unb (kalt E g ws [] ++ new) (p2 y)).map absO) = [.row e s ((show List c.den from xs).map fun z => (rep c z).pv)] := by
          simp only [List.map_nil, keepM]
          have hos' : unb (kalt E g ws [] ++ new) (p2 y) = [.ob (.rw e s c) xs] := hos
          rw [hos']
          rfl
        rw [hm2] at hret
        have hfl : ((show List c.den from xs).map fun z => (rep c z).pv).all flat = true := by
          rw [List.all_eq_true]
          intro z hz
          obtain ⟨q, _, rfl⟩ := List.mem_map.1 hz
          exact (flatD_dat c q hb2).2.1
        refine good_ext (v := ⟨.sr nl, ()⟩) (r := .srf nl) (mo ++ [(nl, .free)]) (fun q hq => ?_) (by
            intro q hq
            have : q.1 = nl := by simpa [absU] using congrArg Prod.fst (List.mem_singleton.1 hq)
            rw [this]; simp) ?_ (.inr rfl) (fun q hq => ?_) (fun q hq => by rw [List.mem_singleton.1 hq]; show nl < nl + 16; omega) hK
        · rcases List.mem_append.1 hq with hq | hq
          · exact (w2 q hq).1
          · rw [List.mem_singleton.1 hq]
            show ps.m[nl + 0]? = some .free
            exact C.free (by omega)
        · intro n w0 st a w oo hT hS ho hn hv hm K Q hK
          obtain ⟨ow, hd, hold, S⟩ := hS
          obtain ⟨dst, op, ty, pos, af, gd⟩ := oo
          simp only at ho hn hK
          subst ho
          simp only [Op.operands, Call.operands, Array.toList_append, List.cons_append, List.nil_append, List.map_cons, List.cons.injEq] at hv
          obtain ⟨hv1, hv2⟩ := hv
          obtain ⟨cvs, hf1, hf2⟩ := cloOf_run S hv1 (by rw [hcf]; exact clo_of)
          have hargs := RFT_of_eval S args.toList
          rw [hv2] at hargs
          unfold Oper.wp
          rw [run_call hf1 hret.1]
          show Calls E.P g (args.map a.eval ++ cvs.toArray) w _
          have harr : args.map a.eval ++ cvs.toArray = (args.toList.map a.eval ++ cvs).toArray := by
            apply Array.toList_inj.1; simp
          rw [harr]
          have hall : RFT (al st.m) hd ow w ((vs ++ capX t cx).map XV.fv) (args.toList.map a.eval ++ cvs) := by
            rw [List.map_append]
            refine RFT.append ?_ ?_
            · rw [← hvs]
              exact args_im _ _ _ (rft_le C.toAbs _ _ hargs)
            · rw [← cap_cells t cx hcap]
              exact RFT.of_RFL hf2
          have hRT := w3 S (fun q hq => hm q (List.mem_append.2 (.inl hq))) _ hall
          let c1 : Cx := ⟨w, fun _ => false, ow.no, fun _ => undef, fun _ => false⟩
          have S1 : SimH c1 [] w ow.no (fun _ => undef) := ⟨Kt.refl _ _, fun _ _ => rfl, fun l o hl => by simp at hl, fun l l' o o' b _ hl => by simp at hl, ⟨fun l l' o o' g hl => by simp at hl, fun l o g hl => by simp at hl⟩⟩
          have hws2 : RFT (al []) (fun _ => undef) ow.no w (ws.map XV.fv) (args.toList.map a.eval ++ cvs) := by
            have e : ws.map XV.fv = (ws.map fun v => (rep v.t v.x).pv).map FV.d := by
              rw [List.map_map]
              apply List.map_congr_left
              intro v hv
              exact (rep_dat v.t v.x (List.all_eq_true.1 w1 v hv)).2.1
            rw [e]
            exact RFT.of_RT hRT
          refine (hret.2.2 c1 (fun _ => undef) _ S1 hws2).mono fun e w' ⟨v, ow', hd', he, k', kt, S', _, hr⟩ => ?_
          subst he
          obtain ⟨ow3, hd3, k3, S3, r3⟩ := S.addRow hold (nl := nl) (hm (nl, .free) (List.mem_append.2 (.inr (List.mem_singleton.2 rfl)))) S' hfl hr
          exact hK _ _ ⟨ow3, hd3, k3, S3.put hn r3⟩
        · rcases List.mem_append.1 hq with hq | hq
          · exact List.mem_cons_of_mem _ ((w2 q hq).2)
          · rw [List.mem_singleton.1 hq]; exact List.mem_cons_self ..
      · cases h1
  · cases h
theorem move_good (C : Ctx E N f m ps nl) {op : Op} {x : Operand} (hp : PAct0 E.P E.T (ev ps.f) ps.m nl op (ev ps.f x) [] []) (h : K (evX f x) [] [] = some out) : Good E ps nl op K out :=
  good_base (F' := []) hp (evX_le C.toAbs x) (fun _ h => h) (by simp) h
theorem arr1 {β : Type} {xs : Array β} {a : β} (h : xs.toList = [a]) : xs = #[a] := by cases xs; simp_all
theorem arr2 {β : Type} {xs : Array β} {a b : β} (h : xs.toList = [a, b]) : xs = #[a, b] := by cases xs; simp_all
theorem arr3 {β : Type} {xs : Array β} {a b c : β} (h : xs.toList = [a, b, c]) : xs = #[a, b, c] := by cases xs; simp_all
/-- ALL OPERATIONS -/
theorem xop_good (C : Ctx E N f m ps nl) (hc : CallOk E call) {ty : Nat} {op : Op} (h : xop E call m nl (evX f) ty op K = some out) : Good E ps nl op K out := by
  unfold xop at h
  split at h
  · exact move_good C (.move _) h
  · exact move_good C (.assign _) h
  · rename_i c a b
    generalize hv : evX f c = v at h
    split at h
    · rename_i z
      have hx : ev ps.f c = .d (.v (.bool z)) := ev_of (t := .bl) (y := z) C.toAbs hv rfl
      have hp := PAct0.pick (P := E.P) (T := E.T) (m := ps.m) (nl := nl) c a b z hx
      cases z with
      | true => exact move_good C hp h
      | false => exact move_good C hp h
    · cases h
  · exact xAlloc_good C h
  · exact xBox_good C h
  · exact xLoad_good C h
  · exact xStore_good C h
  · exact xFieldA_good C h
  · exact xField_good C h
  · exact xIdxA_good C h
  · exact xIdx_good C h
  · exact xNil_good C h
  · exact xBin_good C h
  · exact xUn_good C h
  · exact xConv_good C h
  · exact xExtract_good C h
  · exact xSlice_good C h
  · obtain ⟨h1, h2⟩ := cond_some h
    exact xMkSl_good C h1 h2
  · exact xBuildS_good C h
  · exact xBuild_good C h
  · exact xMkFn_good C h
  · exact xIfc_good C h
  · exact xMkMap_good C h
  · exact xLook_good C h
  · exact xMapUp_good C h
  · exact xRange_good C h
  · exact xEntry_good C h
  · rename_i c
    obtain ⟨callee, args, tys⟩ := c
    split at h
    · rename_i fo hcal
      simp only at hcal
      subst hcal
      generalize hf : evX f fo = v at h
      split at h
      · rename_i g t cx
        cases hcp : capOk t with
        | false => rw [hcp] at h; cases h
        | true =>
          rw [hcp] at h
          simp only [Bool.not_true, cond_false] at h
          cases hl : E.lk g with
          | true => rw [hl] at h; exact xLookCall_good C hc hf hcp h
          | false => rw [hl] at h; exact xCall_good C hc hf hcp h
      · cases h
    · rename_i b hcal
      simp only at hcal
      subst hcal
      split at h
      · rename_i x t ha ht
        have ha := arr1 (show args.toList = _ from ha)
        have ht := arr1 (show tys.toList = _ from ht)
        rw [ha, ht]
        split at h
        · exact xMapLen_good C h
        · exact xLen_good C h
      · rename_i x y t t' ha ht
        have ha := arr2 (show args.toList = _ from ha)
        have ht := arr2 (show tys.toList = _ from ht)
        rw [ha, ht]
        cases hb : Nat.beq t t' with
        | true =>
          rw [hb, cond_true] at h
          have e := Nat.eq_of_beq_eq_true hb
          subst e
          exact xAppend_good C h
        | false =>
          rw [hb, cond_false] at h
          exact xAppZ_good C h
      · rename_i x y t t' ha ht
        have ha := arr2 (show args.toList = _ from ha)
        have ht := arr2 (show tys.toList = _ from ht)
        rw [ha, ht]; exact xCopy_good C h
      · rename_i x t ha ht
        have ha := arr1 (show args.toList = _ from ha)
        have ht := arr1 (show tys.toList = _ from ht)
        rw [ha, ht]; exact xClear_good C h
      · rename_i x y t t' ha ht
        have ha := arr2 (show args.toList = _ from ha)
        have ht := arr2 (show tys.toList = _ from ht)
        rw [ha, ht]; exact xMapDel_good C h
      · rename_i x y t t' ha ht
        have ha := arr2 (show args.toList = _ from ha)
        have ht := arr2 (show tys.toList = _ from ht)
        rw [ha, ht]; exact xMin2_good C h
      · rename_i x y t t' ha ht
        have ha := arr2 (show args.toList = _ from ha)
        have ht := arr2 (show tys.toList = _ from ht)
        rw [ha, ht]; exact xMax2_good C h
      · rename_i x y z t t' t'' ha ht
        have ha := arr3 (show args.toList = _ from ha)
        have ht := arr3 (show tys.toList = _ from ht)
        rw [ha, ht]; exact xMin3_good C h
      · rename_i x y z t t' t'' ha ht
        have ha := arr3 (show args.toList = _ from ha)
        have ht := arr3 (show tys.toList = _ from ht)
        rw [ha, ht]; exact xMax3_good C h
      · cases h
    · rename_i x name hcal
      simp only at hcal
      subst hcal
      exact xInv_good C hc h
  · cases h
end
end Go.Proofs.YtnkdanobhgofbaaGreatDoor.pv
