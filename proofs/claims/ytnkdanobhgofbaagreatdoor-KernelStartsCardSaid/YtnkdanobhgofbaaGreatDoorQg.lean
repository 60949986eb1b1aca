/- Memory: new variables, stores, append, calls; the one theorem on acts. -/
import Derived.Test.YtnkdanobhgofbaaGreatDoorQf
import Derived.Great.BuildSlice
import Derived.Lib.AppendZerosOnto
namespace Go.Proofs.YtnkdanobhgofbaaGreatDoor.pv
set_option linter.all false
open Go.RowKit

section
variable {P : Program} {T : List TI} {n : Nat} {w0 : Cx} {st : PS} {a : Act} {w : World} {ow : Ow} {hd : Nat → Value}

theorem RT.append {xs ys : List PV} {us vs : List Value} (h : RT ow w xs us) (h' : RT ow w ys vs) : RT ow w (xs ++ ys) (us ++ vs) := by
  induction xs generalizing us with
  | nil => simp only [RT] at h; subst h; simpa using h'
  | cons x xs ih =>
    simp only [RT] at h
    obtain ⟨v, r, e, h1, h2⟩ := h
    subst e
    simp only [List.cons_append, RT]
    exact ⟨v, r ++ vs, rfl, h1, ih h2⟩
theorem RT_of_RL : ∀ {xs : List PV} {us : List Value}, RL ow w xs us → RT ow w xs us
  | [], us, h => by simp only [RL] at h; simp [RT, h]
  | x :: xs, us, h => by
    simp only [RL] at h
    obtain ⟨v, r, e, h1, _, h2⟩ := h
    simp only [RT]
    exact ⟨v, r, e, h1, RT_of_RL h2⟩
theorem RT_of_args (S : SimW n w0 st a w ow hd) : ∀ (args : List Operand) (ps : List PV), args.map (ev st.f) = ps.map FV.d → RT ow w ps (args.map a.eval)
  | [], [], _ => by simp [RT]
  | x :: xs, p :: ps, h => by
    simp only [List.map_cons, List.cons.injEq] at h
    simp only [List.map_cons, RT]
    exact ⟨_, _, rfl, S.d h.1, RT_of_args S xs ps h.2⟩
  | [], _ :: _, h => by simp at h
  | _ :: _, [], h => by simp at h
theorem RFT_of_eval (S : SimW n w0 st a w ow hd) : ∀ (args : List Operand), RFT (al st.m) hd ow w (args.map (ev st.f)) (args.map a.eval)
  | [] => by simp [RFT]
  | x :: xs => by
    simp only [List.map_cons, RFT]
    exact ⟨_, _, rfl, S.eval x, RFT_of_eval S xs⟩
theorem run_call {f : Operand} {args : Array Operand} {tys : Array Nat} {g : FuncId} {vs : Array Value} (hf : a.eval f = .func (.func g) #[] vs) (hg : FnOk P g) (d : Option Nat) (ty : TypeId) (pos : String) (af : Array Edge) (gd : Option (Nat × Bool)) :
    (execOp a.eval ⟨d, .call ⟨.value f, args, tys⟩, ty, pos, af, gd⟩).run P w = .ok (.enter g (args.map a.eval ++ vs)) w := by
  obtain ⟨fn, h1, h2, h3⟩ := hg
  simp [execOp, resolve, Deferred.ofValue, hf, invoke, callFunc, h1]
  rw [if_neg (by simpa using h2), if_neg (by cases hb : fn.body <;> simp [hb] at h3 ⊢)]
theorem asl_spec (S : SimW n w0 st a w ow hd) {x : Operand} {l off k c sz : Nat} {ag : Bool} {xs : List PV} (hx : ev st.f x = .asl l off k c sz ag) (hz : frz st.m (.asl l off k c sz ag) = some (.sl xs)) :
    ∃ (b : Nat) (cells : List Value), a.eval x = .slice (some ⟨b, off, none⟩) k c ∧ xs.length = k ∧ w.rangeAt b off cells ∧ RE ow w sz xs cells := by
  have hr := S.eval x
  rw [hx] at hr
  simp only [frz] at hz
  split at hz
  · rename_i cs hm
    split at hz
    · rename_i ys hy
      split at hz
      · rename_i zs hzs
        simp at hz; subst hz
        simp only [RF] at hr
        obtain ⟨_, b, e1, e2, hk1, hk2⟩ := hr
        obtain ⟨b', vals, t, h1, h2, h3, h4, h5⟩ := S.objs l _ hm
        rw [e1] at h1
        simp at h1
        subst h1
        rw [allD_eq hy] at h5
        obtain ⟨c1, c2⟩ := chunks_RE hzs (RL.drop off (RFL.to_RL h5))
        refine ⟨b, _, e2, chunks_len hzs, fun j v hv => ?_, c1⟩
        rw [List.getElem?_take] at hv
        split at hv
        · rw [List.getElem?_drop] at hv
          unfold World.cell?
          simp only [h4]
          simpa using hv
        · cases hv
      · cases hz
    · cases hz
  · cases hz
/-- a slice's elements, as the machine has them -/
theorem Els.spec (S : SimW n w0 st a w ow hd) {x : Operand} {xs : List PV} {ls : List Nat} (h : Els st.m (ev st.f x) xs ls) :
    ∃ (ad : Option Addr) (cap : Nat), a.eval x = .slice ad xs.length cap ∧ (xs = [] ∨ ∃ (b off sz : Nat) (cells : List Value), ad = some ⟨b, off, none⟩ ∧ w.rangeAt b off cells ∧ RE ow w sz xs cells) := by
  generalize hx : ev st.f x = fx at h
  cases h with
  | sl =>
    have := S.d hx
    simp only [R] at this
    obtain ⟨ad, cap, e, _, _, h⟩ := this
    refine ⟨ad, cap, e, ?_⟩
    rcases h with h | ⟨b, off, sz, cells, h1, _, _, h2, h3⟩
    · exact .inl h
    · exact .inr ⟨b, off, sz, cells, h1, h2, h3⟩
  | nil =>
    have := S.d hx
    simp only [vnil, R] at this
    exact ⟨none, 0, this.1, .inl rfl⟩
  | nnil ad c =>
    have := S.d hx
    simp only [R] at this
    exact ⟨some ad, c, this.1, .inl rfl⟩
  | asl l off k c sz ag xs hz =>
    obtain ⟨b, cells, h1, h2, h3, h4⟩ := asl_spec S hx hz
    exact ⟨some ⟨b, off, none⟩, c, by rw [h1, h2], .inr ⟨b, off, sz, cells, rfl, h3, h4⟩⟩
  | row l ty sz xs hm =>
    have := S.eval x
    rw [hx] at this
    simp only [RF] at this
    obtain ⟨cells, ⟨h1, h1'⟩, h2, h3⟩ := S.objs l _ hm
    rw [this.2.1]
    rcases h1' with ⟨e2, e3⟩ | ⟨gb, cap, cur, e2, e3, e4, e5, e6, e7, e8⟩
    · exact ⟨none, 0, by rw [e2, e3], .inl (List.eq_nil_of_length_eq_zero e3)⟩
    · refine ⟨_, cap, e2, .inr ⟨gb, 0, sz, cells, rfl, fun j v hv => ?_, h3⟩⟩
      rw [← e8, List.getElem?_take] at hv
      split at hv
      · unfold World.cell?
        simp only [e4]
        simpa using hv
      · cases hv
theorem Kp.of_grown {w' : World} {row : Option Nat} (hg : w.grownBy w' row) (hr : ∀ b, row = some b → ow b = true) (ow' : Ow) [Ph ow ow'] (ho : ∀ b, b < w.heap.size → ow' b = ow b) : Kp ow w ow' w' :=
  ⟨hg.size, fun b hb h => by rw [ho b hb]; exact h, fun b hb h => hg.block b hb (fun e => by rw [hr b e.symm] at h; cases h)⟩
theorem ownBlock_eq {v : Value} {ad : Option Addr} {n c : Nat} (h : v = .slice ad n c) : v.ownBlock = blockOf v := by subst h; cases ad <;> rfl

theorem run_append_own2 (base : Nat) (t ty e : TypeId) (i : TypeInfo) (z : Value) (size bytes : Nat) (ht : P.underlying t = some (.slice e)) (hi : P.info? e = some i) (hz : i.zero = some z)
    (hsize : i.size = size) (hby : i.bytes = bytes) (hzs : z.cells.size = size) (hsz : 0 < size)
    (v : Value) (n : Nat) (xs : List Value) (hown : w.ownsRow base e size v n xs)
    (ad : Addr) (m c : Nat) (news : List Value) (hl : news.length = m * size) (hnews : ∀ j u, news[j]? = some u → w.cell? (ad.add j) = some u) (h1 : ∀ u ∈ news, u.oneCell' = true)
    (h63 : n + m ≤ maxLen) (hbytes : (n + m) * bytes ≤ 140737488355328) (hbase : base ≤ w.heap.size) :
    ∃ v' w', (Builtin.append_ #[t, t] ty #[v, .slice (some ad) m c]).run P w = .ok v' w' ∧ w'.ownsRow base e size v' (n + m) (xs ++ news) ∧ w.grownBy w' v.ownBlock ∧
      (∀ b, b ∈ blocksOf v' → b ∈ blocksOf v ∨ b = w.heap.size) := by
  obtain ⟨v', w', hr, h2, h3, h4⟩ := run_append_own (P := P) w base t ty e i z size bytes ht hi hz hsize hby hzs hsz v n xs hown ad m c news hl hnews h1 h63 hbytes hbase
  refine ⟨v', w', hr, h2, h3, fun b hb => ?_⟩
  subst hsize hby
  have hsmall : n + m ≤ 9223372036854775807 := by simp only [maxLen] at h63; omega
  rcases hown.2 with ⟨rfl, rfl⟩ | ⟨g, cap, cur, rfl, _, hg, hnc, hcm, hcs, htake⟩
  · by_cases hm : m = 0
    · rw [(h4.2 ⟨rfl, hm⟩)] at hb; simp [blocksOf, blockOf] at hb
    · have := run_append_nil (P := P) w t ty e i z ht hi hz ad m c news hl hnews (by omega) (by omega) (by rw [Nat.zero_add] at hbytes; omega)
      rw [hr] at this
      simp at this
      rw [this.1] at hb
      simp [blocksOf, blockOf] at hb
      exact .inr hb
  · by_cases hroom : n + m ≤ cap
    · have hfit : n * i.size + news.length ≤ cur.size := by rw [hl, hcs, ← Nat.add_mul]; exact Nat.mul_le_mul_right _ hroom
      have := run_append_room (P := P) w t ty e i ht hi g n cap cur hg ad m c news hl hnews h1 hroom hfit
      rw [hr] at this
      simp at this
      rw [this.1] at hb
      simp [blocksOf, blockOf] at hb
      subst hb
      exact .inl (by simp [blocksOf, blockOf])
    · have holds : ∀ j u, xs[j]? = some u → w.cell? ((⟨g, 0, none⟩ : Addr).add j) = some u := hown.cells (g := g) rfl
      have := run_append_grow (P := P) w t ty e i z ht hi hz ⟨g, 0, none⟩ n cap xs hown.1 holds ad m c news hl hnews (by omega) (by omega) (growslice_fits (by omega) hbytes)
      rw [hr] at this
      simp at this
      rw [this.1] at hb
      simp [blocksOf, blockOf] at hb
      exact .inr hb
theorem grownBy_refl (w : World) (row : Option Nat) : w.grownBy w row := ⟨rfl, rfl, rfl, Nat.le_refl _, fun _ _ _ => rfl⟩
theorem updM_append (m : List PO) : ∀ (U V : List (Nat × PO)), updM m (U ++ V) = updM (updM m U) V
  | [], V => rfl
  | (l, o) :: U, V => by simp only [List.cons_append, updM]; exact updM_append _ U V
theorem ownsRow_take {e s n k : Nat} {v : Value} {cells : List Value} {ad : Option Addr} {cap : Nat} (h : w.ownsRow 0 e s v n cells) (hv : v = .slice ad n cap) (hk : k ≤ n) : w.ownsRow 0 e s (.slice ad k cap) k (cells.take (k * s)) := by
  obtain ⟨h1, h2⟩ := h
  have hmul : k * s ≤ n * s := Nat.mul_le_mul_right _ hk
  refine ⟨by rw [List.length_take, h1]; omega, ?_⟩
  rcases h2 with ⟨h2, h3⟩ | ⟨g, cap', cur, g1, g2, g3, g4, g5, g6, g7⟩
  · rw [hv] at h2
    simp at h2
    obtain ⟨rfl, rfl, rfl⟩ := h2
    left
    exact ⟨by rw [Nat.le_zero.1 hk], Nat.le_zero.1 hk⟩
  · rw [hv] at g1
    simp at g1
    obtain ⟨rfl, rfl⟩ := g1
    right
    exact ⟨g, cap, cur, rfl, g2, g3, by omega, g5, g6, by rw [← g7, List.take_take, Nat.min_eq_left hmul]⟩
/-- what is appended to -/
theorem Base.spec (S : SimW n w0 st a w ow hd) {x : Operand} {e s : Nat} {xs : List PV} {U : List (Nat × PO)} {ls : List Nat} (h : Base st.m e s (ev st.f x) xs U ls) :
    ∃ cells : List Value, w.ownsRow 0 e s (a.eval x) xs.length cells ∧ RE ow w s xs cells ∧ (∀ b, b ∈ blocksOf (a.eval x) → w0.New b ∧ ow b = true) ∧ SimW n w0 ⟨st.f, updM st.m U⟩ a w ow hd ∧ (∀ j, al st.m j = true → al (updM st.m U) j = true) ∧
      (∀ l : Nat, st.m[l]? = some PO.free → (updM st.m U)[l]? = some PO.free) ∧ (∀ j oj b, (updM st.m U)[j]? = some oj → oj.live = true → b ∈ blocksOf (hd j) → b ∉ blocksOf (a.eval x)) := by
  generalize hx : ev st.f x = fx at h
  cases h with
  | nil =>
    have := S.d hx
    simp only [vnil, R] at this
    refine ⟨[], by rw [this.1]; exact World.ownsRow_nil _ _ _ _, by simp only [RE], fun b hb => ?_, S, fun j h => h, fun l h => h, fun j oj b _ _ _ hb => ?_⟩
    · rw [this.1] at hb; simp [blocksOf, blockOf] at hb
    · rw [this.1] at hb; simp [blocksOf, blockOf] at hb
  | row l xs hm =>
    have := S.eval x
    rw [hx] at this
    simp only [RF] at this
    obtain ⟨_, e1, _⟩ := this
    obtain ⟨cells, h1, h2, h3⟩ := S.objs l _ hm
    rw [← e1] at h1 h2
    refine ⟨cells, h1, h3, h2, S.kill l, fun j hj => al_set_mono (.inr rfl) j hj, fun l' hl' => ?_, fun j oj b hj hl hb => ?_⟩
    · simp only [updM]
      rw [List.getElem?_set, if_neg]
      · exact hl'
      · intro e; subst e; rw [hm] at hl'; cases hl'
    · obtain ⟨hj', hne⟩ := kill_live hj hl
      rw [e1]
      exact fun hb' => S.dist j l oj _ b hne hj' hm hl rfl hb hb'
  | part l xs k hm hk =>
    have := S.eval x
    rw [hx] at this
    simp only [RF] at this
    obtain ⟨_, ad, N, c, e1, _, _, e4⟩ := this
    obtain ⟨cells, h1, h2, h3⟩ := S.objs l _ hm
    have had : (if c = 0 then ad else ad.map (·.add (0 * s))) = ad := by
      split
      · rfl
      · cases ad with
        | none => rfl
        | some p => simp [Addr.add]
    rw [had, Nat.sub_zero, Nat.sub_zero] at e4
    have hN : N = xs.length := by
      rcases h1.2 with ⟨q1, q2⟩ | ⟨g, cap, cur, q1, _⟩
      · rw [e1] at q1; simp at q1; omega
      · rw [e1] at q1; simp at q1; omega
    have hbk : ∀ b, b ∈ blocksOf (a.eval x) → b ∈ blocksOf (hd l) := fun b hb => by
      rw [e4] at hb
      rw [e1]
      cases ad with
      | none => simp [blocksOf, blockOf] at hb
      | some p => simpa [blocksOf, blockOf] using hb
    refine ⟨cells.take (k * s), ?_, RE.take k h3, fun b hb => h2 b (hbk b hb), S.kill l, fun j hj => al_set_mono (.inr rfl) j hj, fun l' hl' => ?_, fun j oj b hj hl hb => ?_⟩
    · rw [List.length_take, Nat.min_eq_left hk, e4]
      exact ownsRow_take h1 (by rw [e1, hN]) hk
    · simp only [updM]
      rw [List.getElem?_set, if_neg]
      · exact hl'
      · intro e; subst e; rw [hm] at hl'; cases hl'
    · obtain ⟨hj', hne⟩ := kill_live hj hl
      exact fun hb' => S.dist j l oj _ b hne hj' hm hl rfl hb (hbk b hb')

theorem elem_cells {b p sz : Nat} {cur : Array Value} {ty : TypeId} {u : Value} (hb : w.heap[b]? = some (.cells cur ty (0, 0))) (hp : p + sz ≤ cur.size) (h : w.rangeAt b p u.cells.toList) (hu : u.cells.size = sz) : (cur.toList.drop p).take sz = u.cells.toList := by
  apply List.ext_getElem?
  intro j
  rw [List.getElem?_take, List.getElem?_drop]
  by_cases hj : j < sz
  · rw [if_pos hj]
    have hl : j < u.cells.toList.length := by simpa [hu] using hj
    have := h j _ (List.getElem?_eq_getElem hl)
    rw [List.getElem?_eq_getElem hl, ← this]
    unfold World.cell?
    simp only [hb]
    simp
  · rw [if_neg hj, List.getElem?_eq_none (by simpa [hu] using hj)]
theorem row_lists {cur new : List Value} {u : List Value} {p sz off N : Nat} (h1 : p + sz ≤ N) (h2 : off + new.length ≤ sz) (hN : N ≤ cur.length) (hu : (cur.drop p).take sz = u) :
    (cur.take (p + off) ++ new ++ cur.drop (p + off + new.length)).take N = (cur.take N).take p ++ (u.take off ++ new ++ u.drop (off + new.length)) ++ (cur.take N).drop (p + sz) := by
  subst hu
  apply List.ext_getElem?
  intro j
  simp only [List.getElem?_take, List.getElem?_append, List.getElem?_drop, List.length_append, List.length_take, List.length_drop]
  have e1 : min (p + off) cur.length = p + off := by omega
  have e2 : min N cur.length = N := by omega
  have e3 : min p N = p := by omega
  have e4 : min off sz = off := by omega
  have e5 : min sz (cur.length - p) = sz := by omega
  simp only [e1, e2, e3, e4, e5]
  rcases Nat.lt_or_ge j N with c1 | c1
  · rcases Nat.lt_or_ge j p with c2 | c2
    · simp [c1, c2, show j < p + off by omega, show j < p + off + new.length by omega, show j < p + (off + new.length + (sz - (off + new.length))) by omega]
    · rcases Nat.lt_or_ge j (p + off) with c3 | c3
      · simp [c1, show ¬ j < p by omega, c3, show j < p + off + new.length by omega, show j < p + (off + new.length + (sz - (off + new.length))) by omega, show j - p < off by omega, show j - p < off + new.length by omega, show j - p < sz by omega, show p + (j - p) = j by omega]
      · rcases Nat.lt_or_ge j (p + off + new.length) with c4 | c4
        · simp [c1, show ¬ j < p by omega, show ¬ j < p + off by omega, c4, show j < p + (off + new.length + (sz - (off + new.length))) by omega, show ¬ j - p < off by omega, show j - p < off + new.length by omega, show j - (p + off) = j - p - off by omega]
        · rcases Nat.lt_or_ge j (p + sz) with c5 | c5
          · simp [c1, show ¬ j < p by omega, show ¬ j < p + off + new.length by omega, show j < p + (off + new.length + (sz - (off + new.length))) by omega, show ¬ j - p < off + new.length by omega]
            rw [if_pos (by omega)]; congr 1; omega
          · simp [c1, show ¬ j < p by omega, show ¬ j < p + off + new.length by omega, show ¬ j < p + (off + new.length + (sz - (off + new.length))) by omega]
            rw [if_pos (by omega)]; congr 1; omega
  · rw [if_neg (by omega), if_neg (by omega)]
    split
    · omega
    · rfl
/-- a new row -/
theorem SimW.newRow (S : SimW n w0 st a w ow hd) {l : Nat} (hl : st.m[l]? = some .free) {v' : Value} {w' : World} {e s : Nat} {xs : List PV} {cells : List Value} (hown : w'.ownsRow 0 e s v' xs.length cells) (hg : w.grownBy w' none)
    (hb : ∀ b, b ∈ blocksOf v' → b = w.heap.size ∧ b < w'.heap.size) (he : RE ow w s xs cells) (hsl : ∃ ad n c, v' = .slice ad n c) :
    ∃ ow' hd', ((ow'.phi = ow.phi ∧ ∀ b, b < w.heap.size → ow' b = ow b) ∧ ∀ j, al st.m j = true → al (st.m.set l (.row e s xs)) j = true ∧ hd' j = hd j) ∧ SimW n w0 ⟨st.f, st.m.set l (.row e s xs)⟩ a w' ow' hd' ∧ RF (al (st.m.set l (.row e s xs))) hd' ow' w' (.srf l) v' := by
  have hbase := S.below.size
  have hkp : Kp ow w (ow.set fun b => if b ∈ blocksOf v' then true else ow b) w' := by
    refine ⟨hg.size, fun b hlt h => ?_, fun b hlt h => hg.block b hlt (fun e => by cases e)⟩
    show (if b ∈ blocksOf v' then true else ow b) = false
    rw [if_neg]
    · exact h
    · intro e; have := hb b e; omega
  have hbel : Kt w0 w w' := Kt.of_below ((Below.refl _ _).grown hg hbase (fun k hk => by cases hk)) (Nat.le_refl _)
  have hlen : l < st.m.length := (List.getElem?_eq_some_iff.1 hl).1
  have S2 := S.obj (l := l) (hv := v') (o := .row e s xs) hkp hbel
    (fun b hlt => by
      show (if b ∈ blocksOf v' then true else ow b) = false
      rw [if_neg]
      · exact S.fresh b (Nat.le_trans hg.size hlt)
      · intro e; have := hb b e; omega)
    (.inl (by simp [al, hl, PO.made])) (.inr rfl)
    ⟨cells, hown, fun b hlt => ⟨.inl (by rw [(hb b hlt).1]; exact hbase), by show (if b ∈ blocksOf v' then true else ow b) = true; rw [if_pos hlt]⟩, RE.mono hkp _ _ _ he⟩
    (fun j oj b hne hj hlv hbk => by
      have hbj := ((S.objs j oj hj).lt hlv b hbk).1
      have hnv : b ∉ blocksOf v' := by
        intro e; have := hb b e; omega
      exact ⟨hg.block b hbj (fun e => by cases e), if_neg hnv, fun _ => hnv⟩)
  refine ⟨ow.set fun b => if b ∈ blocksOf v' then true else ow b, _, ⟨⟨rfl, fun b hlt => ?_⟩, fun j hj => ⟨al_set_mono (.inr rfl) j hj, ?_⟩⟩, S2, ?_⟩
  · show (if b ∈ blocksOf v' then true else ow b) = ow b
    rw [if_neg]
    intro e; have := hb b e; omega
  · rw [upd_ne]
    intro e; subst e; simp [al, hl, PO.made] at hj
  · simp only [RF]
    refine ⟨by rw [al_set_same hlen]; rfl, by rw [upd_same], ?_⟩
    rw [upd_same]; obtain ⟨_, _, _, rfl⟩ := hsl; rfl
theorem fill_seq (s : Nat) : ∀ (us : List Value) (k : Nat) (base : Array Value), (∀ u ∈ us, u.cells.size = s) → (k + us.length) * s ≤ base.size →
    ∃ out : Array Value, Instr.fill (fun i => some (i * s, s)) base ((us.zipIdx k).map fun q => (q.2, q.1)) = some out ∧ out.toList = base.toList.take (k * s) ++ (us.flatMap fun u => u.cells.toList) ++ base.toList.drop ((k + us.length) * s)
  | [], k, base, h, hl => ⟨base, rfl, by simp⟩
  | u :: us, k, base, h, hl => by
    have hu := h u (by simp)
    simp only [List.length_cons] at hl
    have hmul : (k + (us.length + 1)) * s = k * s + (s + us.length * s) := by rw [Nat.add_mul, Nat.succ_mul]; omega
    have hf := foldl_set (k * s) u.cells.toList 0 base (by simp; omega)
    simp only [Nat.add_zero, Array.length_toList] at hf
    have hfold : (u.cells.zipIdx.foldl (fun cs (c, j) => cs.setIfInBounds (k * s + j) c) base).toList = base.toList.take (k * s) ++ u.cells.toList ++ base.toList.drop (k * s + u.cells.size) := by
      rw [← Array.foldl_toList, Array.toList_zipIdx]; exact hf
    have hsz : (u.cells.zipIdx.foldl (fun cs (c, j) => cs.setIfInBounds (k * s + j) c) base).size = base.size := by
      rw [← Array.length_toList, hfold]; simp; omega
    obtain ⟨out, h1, h2⟩ := fill_seq s us (k + 1) (u.cells.zipIdx.foldl (fun cs (c, j) => cs.setIfInBounds (k * s + j) c) base) (fun v hv => h v (by simp [hv])) (by rw [hsz, show k + 1 + us.length = k + (us.length + 1) by omega]; exact hl)
    refine ⟨out, ?_, ?_⟩
    · simp only [List.zipIdx_cons, List.map_cons, Instr.fill]
      rw [if_neg (by simp; omega)]
      exact h1
    · rw [h2, hfold, List.flatMap_cons, List.length_cons]
      have e1 : (k + 1) * s = k * s + s := Nat.succ_mul k s
      have e2 : (k + 1 + us.length) * s = k * s + (s + us.length * s) := by rw [← hmul]; congr 1; omega
      rw [e1, e2, hmul, hu]
      have hlt : (base.toList.take (k * s)).length = k * s := by simp; omega
      have hlu : u.cells.toList.length = s := by simpa using hu
      rw [List.take_append, List.drop_append]
      simp only [List.length_append, hlt, hlu]
      rw [List.take_of_length_le (l := base.toList.take (k * s) ++ u.cells.toList) (by simp only [List.length_append, hlt, hlu]; omega), List.drop_of_length_le (l := base.toList.take (k * s) ++ u.cells.toList) (by simp only [List.length_append, hlt, hlu]; omega)]
      simp only [Nat.sub_self, List.take_zero, List.append_nil, List.nil_append, List.drop_drop]
      rw [show k * s + s + (k * s + (s + us.length * s) - (k * s + s)) = k * s + (s + us.length * s) by omega]
      simp
theorem RE_of_RT {s : Nat} : ∀ {xs : List PV} {us : List Value}, RT ow w xs us → xs.all (fits s) = true → RE ow w s (xs.map nsl) (us.flatMap fun u => u.cells.toList) ∧ ∀ u ∈ us, u.cells.size = s
  | [], us, h, _ => by simp only [RT] at h; subst h; simp [RE]
  | x :: xs, us, h, hf => by
    simp only [RT] at h
    obtain ⟨u, r, rfl, h1, h2⟩ := h
    simp only [List.all_cons, Bool.and_eq_true] at hf
    obtain ⟨t1, t2⟩ := fits_spec hf.1
    obtain ⟨i1, i2⟩ := RE_of_RT h2 hf.2
    have hsz := R.size h1 t1
    simp only [List.map_cons, List.flatMap_cons, RE]
    refine ⟨⟨u, _, rfl, by rw [hsz, t2], RL.one (R.cells h1 t1), R.nsl _ _ h1, i1⟩, ?_⟩
    intro v hv
    simp only [List.mem_cons] at hv
    rcases hv with rfl | hv
    · rw [hsz, t2]
    · exact i2 v hv
theorem made_cells (z : Array Value) (hz : 0 < z.size) : ∀ n : Nat, (madeCells z (n * z.size)).toList = (List.replicate n z.toList).flatten
  | 0 => by simp [madeCells]
  | n + 1 => by
    have ih := made_cells z hz n
    simp only [madeCells, Array.toList_map, Array.toList_range] at ih ⊢
    rw [Nat.succ_mul, Nat.add_comm, List.range_add, List.map_append, List.replicate_succ, List.flatten_cons, ← ih]
    congr 1
    · apply List.ext_getElem (by simp)
      intro i h1 h2
      simp at h1 h2
      simp [Nat.mod_eq_of_lt h1, h1]
    · simp
theorem RE_zero {s : Nat} {z : PV} {u : Value} (hu : u.cells.size = s) (h1 : ∀ v ∈ u.cells.toList, v.oneCell' = true) (hr : R ow w z u) : ∀ n : Nat, RE ow w s (List.replicate n z) (List.replicate n u.cells.toList).flatten
  | 0 => by simp [RE]
  | n + 1 => by
    simp only [List.replicate_succ, List.flatten_cons, RE]
    exact ⟨u, _, rfl, hu, h1, hr, RE_zero hu h1 hr n⟩
theorem zero_made (z : Array Value) (n : Nat) : Builtin.zeroCells z n = madeCells z (n * z.size) := rfl
/-- zeros appended to a row of one's own -/
theorem run_append_zeros2 (t tn ty e : TypeId) (i : TypeInfo) (z : Value) (kn kq : IntKind) (size bytes : Nat) (ht : P.underlying t = some (.slice e)) (htn : P.underlying tn = some (.int kn)) (hi : P.info? e = some i) (hz : i.zero = some z)
    (hsize : i.size = size) (hby : i.bytes = bytes) (hzs : z.cells.size = size) (hsz : 0 < size) (hz1 : ∀ q ∈ z.cells.toList, q.oneCell' = true) (v : Value) (n : Nat) (xs : List Value) (hown : w.ownsRow 0 e size v n xs) (k : Nat) (h0 : 0 < k) (h63 : n + k ≤ maxLen) (hbytes : (n + k) * bytes ≤ 140737488355328) :
    ∃ v' w', (Builtin.append_ #[t, tn] ty #[v, .int kq k]).run P w = .ok v' w' ∧ w'.ownsRow 0 e size v' (n + k) (xs ++ (Builtin.zeroCells z.cells k).toList) ∧ w.grownBy w' v.ownBlock ∧ (∀ b, b ∈ blocksOf v' → b ∈ blocksOf v ∨ b = w.heap.size) := by
  subst hsize
  subst hby
  have hml : n + k ≤ 9223372036854775807 := by simp only [maxLen] at h63; omega
  have hzl : (Builtin.zeroCells z.cells k).toList.length = k * i.size := by rw [Array.length_toList, size_zeroCells, hzs]
  have hall : (xs ++ (Builtin.zeroCells z.cells k).toList).length = (n + k) * i.size := by rw [List.length_append, hown.1, hzl, Nat.add_mul]
  have hkb : k * i.bytes ≤ 281474976710656 := Nat.le_trans (Nat.mul_le_mul_right _ (Nat.le_add_left k n)) (by omega)
  /- where a new block is made -/
  have fresh : ∀ (base : Option Addr) (cap : Nat), cap < n + k → (Builtin.firstCells i.size n (.slice base n cap)).run P w.drew = .ok xs.toArray w.drew → v = .slice base n cap →
      ∃ v' w', (Builtin.append_ #[t, tn] ty #[v, .int kq k]).run P w = .ok v' w' ∧ w'.ownsRow 0 e i.size v' (n + k) (xs ++ (Builtin.zeroCells z.cells k).toList) ∧ w.grownBy w' v.ownBlock ∧ (∀ b, b ∈ blocksOf v' → b ∈ blocksOf v ∨ b = w.heap.size) := by
    intro base cap hc hold hv
    have hr := Lib.run_append_grow_zeros (P := P) w t tn ty e i z kq kn ht htn hi hz base n cap xs hold k h0 hsz hc (by omega) hkb (growslice_fits (by omega) hbytes)
    have c1 := grownCap_ge w (n + k) cap e
    have c2 := grownCap_le_maxLen w (n + k) cap e h63
    rw [hv]
    refine ⟨_, _, hr, ⟨hall, .inr ⟨w.heap.size, grownCap w (n + k) cap e, _, rfl, Nat.zero_le _, heap_alloc_new w.drew _, c1, c2, ?_, ?_⟩⟩, ⟨rfl, rfl, rfl, by simp, fun q hq _ => heap_alloc_old w.drew _ hq⟩, fun b hb => ?_⟩
    · have hx : xs.toArray.size = n * i.size := by simpa using hown.1
      rw [Array.size_append, Array.size_append, hx, size_zeroCells, size_zeroCells, hzs, ← Nat.add_mul, ← Nat.add_mul]
      congr 1
      omega
    · rw [Array.toList_append, Array.toList_append, ← hall]
      exact List.take_left
    · right
      simpa [blocksOf, blockOf] using hb
  rcases hown.2 with ⟨hv, hn⟩ | ⟨g, cap, cur, hv, _, hg, hnc, hcm, hcs, htk⟩
  · have hx : xs = [] := List.eq_nil_of_length_eq_zero (by rw [hown.1, hn, Nat.zero_mul])
    subst hn
    exact fresh none 0 (by omega) (by rw [hx]; simp [Builtin.firstCells, loadCells, loadCellsFrom]) hv
  · by_cases hroom : n + k ≤ cap
    · have hfit : n * i.size + (Builtin.zeroCells z.cells k).toList.length ≤ cur.size := by rw [hzl, hcs, ← Nat.add_mul]; exact Nat.mul_le_mul_right _ hroom
      have hone : ∀ u ∈ (Builtin.zeroCells z.cells k).toList, u.oneCell' = true := by
        intro q hq
        rw [zero_made, made_cells _ (by omega)] at hq
        obtain ⟨l, hl, hq⟩ := List.mem_flatten.1 hq
        rw [(List.mem_replicate.1 hl).2] at hq
        exact hz1 q hq
      have hst := run_storeCells_at P g (n * i.size) e (Builtin.zeroCells z.cells k).toList 0 cur w hg (by simpa using hfit) hone
      simp only [Nat.add_zero] at hst
      have hw : IntKind.i64.wrap (k : Int) = k := by rw [IntKind.wrap_i64]; omega
      have hneg : ¬ ((k : Int) < 0) := by omega
      have hns : ¬ (k * i.size = 0) := Nat.mul_ne_zero (by omega) (by omega)
      have h48 : ¬ (281474976710656 < (k : Int) * (i.bytes : Int)) := by
        rw [← Int.natCast_mul]
        omega
      have hr : (Builtin.append_ #[t, tn] ty #[v, .int kq k]).run P w = .ok (.slice (some ⟨g, 0, none⟩) (n + k) cap) (w.setRow g (cur.toList.take (n * i.size) ++ (Builtin.zeroCells z.cells k).toList ++ cur.toList.drop (n * i.size + (Builtin.zeroCells z.cells k).toList.length)).toArray) := by
        rw [hv]
        simp [Builtin.append_, run_underlying ht, run_underlying htn, sizeOf, typeInfo, zeroValue, hi, hz, asInt, asIntOf, hw, hneg, hns, h48, hroom, Addr.add_lit] at hst ⊢
        rw [hst]
        rfl
      refine ⟨_, _, hr, ⟨hall, .inr ⟨g, cap, _, rfl, Nat.zero_le _, setRow_heap w g cur _ e _ hg, hroom, hcm, ?_, ?_⟩⟩, ⟨rfl, rfl, rfl, by simp, fun q _ hq => setRow_other w g q _ (fun e => hq (by rw [hv]; simp [Value.ownBlock, e]))⟩, fun b hb => ?_⟩
      · simp only [List.size_toArray, List.length_append, List.length_take, List.length_drop, Array.length_toList]
        simp only [Array.length_toList] at hfit
        omega
      · rw [htk, ← hall]
        exact List.take_left
      · left
        rw [hv]
        simpa [blocksOf, blockOf] using hb
    · have holds : ∀ j u, xs[j]? = some u → w.cell? ((⟨g, 0, none⟩ : Addr).add j) = some u := hown.cells (g := g) (by rw [hv]; rfl)
      exact fresh (some ⟨g, 0, none⟩) cap (by omega) (run_firstCells_some (P := P) (w := w.drew) i.size n ⟨g, 0, none⟩ n cap xs hown.1 holds) hv
theorem zeroPV_spec (hT : TOk P T) {t : Nat} {ti : TI} {z : PV} (ht : T[t]? = some ti) (hz : zeroPV ti = some z) : ∃ (i : TypeInfo) (zv u : Value), P.info? t = some i ∧ i.zero = some zv ∧ i.size = ti.size ∧ i.bytes = ti.bytes ∧ zv.cells.size = ti.zero.length ∧ u.cells = zv.cells ∧ (∀ v ∈ u.cells.toList, v.oneCell' = true) ∧ ∀ (ow : Ow) (w : World), R ow w z u := by
  have hne : ti.zero ≠ [] := by intro e; unfold zeroPV at hz; rw [e] at hz; cases h : ti.kind.agg <;> simp [h] at hz
  obtain ⟨i, d, h1, h2, h3, h4, h5, h6⟩ := hT.info ht
  obtain ⟨zv, h7, h8⟩ := h6 hne
  obtain ⟨h9, h10⟩ := zsOk_pv h8
  have hlen : zv.cells.size = ti.zero.length := by
    have := congrArg List.length h9
    simpa using this
  unfold zeroPV at hz
  split at hz
  · rename_i a zz zs hk hzz
    simp only [Option.some.injEq] at hz
    subst hz
    refine ⟨i, zv, .agg zv.cells, h1, h7, h3, h4, hlen, rfl, h10, fun ow w => ?_⟩
    have : R ow w (.agg ((zz :: zs).map Z.pv)) (.agg zv.cells) := by
      simp only [R]
      refine ⟨zv.cells.toList, by simp, ?_⟩
      have := ofCells_RL (ow := ow) (w := w) _ h10
      rw [h9, hzz] at this
      exact this
    simpa only [pv.nsl] using R.nsl _ _ this
  · rename_i a zz hk hzz
    simp only [Option.some.injEq] at hz
    subst hz
    rw [hzz] at h9 hlen
    have hl1 : zv.cells.toList.length = 1 := by simpa using hlen
    obtain ⟨c, hc⟩ := List.length_eq_one_iff.1 hl1
    rw [hc] at h9 h10
    simp at h9
    have hone := h10 c (by simp)
    have hcc : c.cells = #[c] := by cases c <;> simp_all [Value.cells, Value.oneCell']
    have hzc : zv.cells = #[c] := by apply Array.toList_inj.1; simpa using hc
    refine ⟨i, zv, c, h1, h7, h3, h4, by rw [hlen, hzz], by rw [hcc, hzc], by rw [hcc]; simpa using hone, fun ow w => ?_⟩
    rw [← h9]
    exact R.nsl _ _ (ofCell_R hone)
  · cases hz
/-- a row's handle made anew: the old one is given up -/
theorem SimW.rerow (S : SimW n w0 st a w ow hd) {l nl e s : Nat} {xs ys : List PV} {v' : Value} {cells : List Value} (hm : st.m[l]? = some (.row e s xs)) (hl : st.m[nl]? = some .free) (hown : w.ownsRow 0 e s v' ys.length cells) (hb : ∀ b, b ∈ blocksOf v' → b ∈ blocksOf (hd l)) (he : RE ow w s ys cells) (hsl : ∃ ad n c, v' = .slice ad n c) :
    ∃ hd', (∀ j, al st.m j = true → al ((st.m.set l .none).set nl (.row e s ys)) j = true ∧ hd' j = hd j) ∧ SimW n w0 ⟨st.f, (st.m.set l .none).set nl (.row e s ys)⟩ a w ow hd' ∧ RF (al ((st.m.set l .none).set nl (.row e s ys))) hd' ow w (.srf nl) v' := by
  have hne : nl ≠ l := by intro e'; subst e'; rw [hm] at hl; cases hl
  have S1 := S.kill l
  have hlen : nl < (st.m.set l PO.none).length := by simp; exact (List.getElem?_eq_some_iff.1 hl).1
  have hal : al (st.m.set l .none) nl = false := by rw [al_set_ne hne]; simp [al, hl, PO.made]
  have hown' := (S.objs l _ hm).lt rfl
  have S2 := S1.obj (l := nl) (hv := v') (o := .row e s ys) (Kp.refl _ _) (Kt.refl _ _) S.fresh (.inl hal) (.inr rfl)
    ⟨cells, hown, fun b hb' => (hown' b (hb b hb')).2, he⟩
    (fun j oj b hne' hj hlv hbk => by
      obtain ⟨hj', hjl⟩ := kill_live hj hlv
      exact ⟨rfl, rfl, fun _ hb' => S.dist j l oj _ b hjl hj' hm hlv rfl hbk (hb b hb')⟩)
  refine ⟨_, fun j hj => ⟨al_set_mono (.inr rfl) j (al_set_mono (.inr rfl) j hj), ?_⟩, S2, ?_⟩
  · rw [upd_ne]
    intro e'; subst e'; simp [al, hl, PO.made] at hj
  · simp only [RF]
    refine ⟨by rw [al_set_same hlen]; rfl, by rw [upd_same], ?_⟩
    rw [upd_same]; obtain ⟨_, _, _, rfl⟩ := hsl; rfl
theorem al_nslO {m : List PO} (l : Nat) : al (m.map nslO) l = al m l := by
  unfold al
  rw [List.getElem?_map]
  cases m[l]? with
  | none => rfl
  | some o => cases o <;> rfl
theorem zipO_get {τ : List Nat} : ∀ {r : List Nat} {os : List PO} {q : Nat × PO}, q ∈ zipO τ r os → ∃ j : Nat, r[j]? = some q.1 ∧ (os[j]?).map (mapO τ) = some q.2
  | [], _, q, h => by simp [zipO] at h
  | l :: r, [], q, h => by simp [zipO] at h
  | l :: r, o :: os, q, h => by
    simp only [zipO, List.mem_cons] at h
    rcases h with rfl | h
    · exact ⟨0, rfl, rfl⟩
    · obtain ⟨j, h1, h2⟩ := zipO_get h
      exact ⟨j + 1, by simpa using h1, by simpa using h2⟩
theorem updM_zipO {τ : List Nat} : ∀ (r : List Nat) (os : List PO) (m : List PO) (l : Nat), nodup r = true → r.length = os.length → (∀ x ∈ r, x < m.length) →
    (∀ j : Nat, r[j]? = some l → (updM m (zipO τ r os))[l]? = (os[j]?).map (mapO τ)) ∧ (l ∉ r → (updM m (zipO τ r os))[l]? = m[l]?)
  | [], os, m, l, hn, hl, hm => by
    simp [zipO, updM]
  | x :: r, [], m, l, hn, hl, hm => by simp at hl
  | x :: r, o :: os, m, l, hn, hl, hm => by
    simp only [nodup, Bool.and_eq_true, Bool.not_eq_true'] at hn
    have hx : x ∉ r := by
      intro h
      have := List.any_eq_false.1 hn.1 x h
      simp at this
    obtain ⟨i1, i2⟩ := updM_zipO r os (m.set x (mapO τ o)) l hn.2 (by simpa using hl) (fun y hy => by simpa using hm y (by simp [hy]))
    simp only [zipO, updM]
    refine ⟨fun j hj => ?_, fun hnl => ?_⟩
    · cases j with
      | zero =>
        simp at hj; subst hj
        rw [i2 hx, List.getElem?_set, if_pos rfl, if_pos (hm x (by simp))]
        rfl
      | succ j => simp at hj; simpa using i1 j hj
    · simp only [List.mem_cons, not_or] at hnl
      rw [i2 hnl.2, List.getElem?_set, if_neg (fun e => hnl.1 e.symm)]
theorem idx_of_get {l : Nat} : ∀ {s : List Nat}, l ∈ s → ∃ j, idx l s = some j
  | [], h => by simp at h
  | x :: r, h => by
    simp only [idx]
    cases hx : Nat.beq x l with
    | true => exact ⟨0, rfl⟩
    | false =>
      have : l ∈ r := by
        simp only [List.mem_cons] at h
        rcases h with rfl | h
        · simp at hx
        · exact h
      obtain ⟨j, hj⟩ := idx_of_get this
      exact ⟨j + 1, by simp [hj]⟩
theorem nodup_nat {s : List Nat} (h : nodup s = true) {i j l : Nat} (hi : s[i]? = some l) (hj : s[j]? = some l) : i = j := nodup_get h i j l hi hj
theorem RFT.append' {A : Nat → Bool} : ∀ {xs ys : List FV} {vs us : List Value}, RFT A hd ow w xs vs → RFT A hd ow w ys us → RFT A hd ow w (xs ++ ys) (vs ++ us) := RFT.append
/-- A CALL THAT IS HANDED PRIVATE OBJECTS -/
theorem SimW.callH (S : SimW n w0 st a w ow hd) (hold : Keep w0 ow) {g : FuncId} {xs cs : List FV} {us vs : List Value} {s τ : List Nat} {bs : List Bool} {m2 : List PO} {r : FV} {nl : Nat} (hx : RFT (al st.m) hd ow w xs us) (hcs : RFT (al st.m) hd ow w cs vs)
    (h2 : nodup τ = true) (h3 : s.all (liveAt st.m) = true) (h4 : τ = s ++ (List.range (m2.length - s.length)).map (nl + ·)) (h5 : (List.range (m2.length - s.length)).all (fun k => isFreeAt st.m (nl + k)) = true) (h6 : m2.all okH = true) (h7 : s.length ≤ m2.length)
    (hret : RetH P g (nslM bs (renL s xs) ++ renL s cs) ((renM st.m s s).map nslO) r m2) :
    Calls P g (us ++ vs).toArray w (fun e w' => ∃ v ow' hd', e = .returned v ∧ Keep w0 ow' ∧ SimW n w0 ⟨st.f, updM st.m (zipO τ τ m2)⟩ a w' ow' hd' ∧ RF (al (updM st.m (zipO τ τ m2))) hd' ow' w' (mapF τ r) v) := by
  have hlive : ∀ l ∈ s, ∃ o, st.m[l]? = some o ∧ o.live = true := by
    intro l hl
    have := List.all_eq_true.1 h3 l hl
    unfold liveAt at this
    split at this
    · rename_i o ho; exact ⟨o, ho, this⟩
    · cases this
  have hfree : ∀ k, k < m2.length - s.length → st.m[nl + k]? = some .free := by
    intro k hk
    have := List.all_eq_true.1 h5 k (by rw [List.mem_range]; exact hk)
    unfold isFreeAt at this
    split at this
    · assumption
    · cases this
  have hτl : τ.length = m2.length := by rw [h4]; simp; omega
  have hτs : ∀ j, j < s.length → τ[j]? = s[j]? := by intro j hj; rw [h4, List.getElem?_append_left hj]
  have hτn : ∀ j, s.length ≤ j → j < m2.length → τ[j]? = some (nl + (j - s.length)) := by
    intro j hj hj'
    rw [h4, List.getElem?_append_right hj, List.getElem?_map, List.getElem?_range (by omega)]
    rfl
  have hs : nodup s = true := by
    have : ∀ (a b : List Nat), nodup (a ++ b) = true → nodup a = true := by
      intro a b
      induction a with
      | nil => intro _; rfl
      | cons x a ih =>
        intro h
        simp only [List.cons_append, nodup, Bool.and_eq_true, Bool.not_eq_true', List.any_append, Bool.or_eq_false_iff] at h ⊢
        exact ⟨h.1.1, ih h.2⟩
    rw [h4] at h2
    exact this _ _ h2
  have hτlt : ∀ x ∈ τ, x < st.m.length := by
    intro x hx
    rw [h4, List.mem_append, List.mem_map] at hx
    rcases hx with hx | ⟨k, hk, rfl⟩
    · obtain ⟨o, ho, _⟩ := hlive x hx; exact (List.getElem?_eq_some_iff.1 ho).1
    · exact (List.getElem?_eq_some_iff.1 (hfree k (by simpa using hk))).1
  have hupd := fun l => updM_zipO (τ := τ) τ m2 st.m l h2 hτl hτlt
  -- what is lent
  let own1 : Nat → Bool := fun b => s.any fun l => (blocksOf (hd l)).contains b
  have hownI : ∀ b, own1 b = true → ∃ l o, l ∈ s ∧ st.m[l]? = some o ∧ o.live = true ∧ b ∈ blocksOf (hd l) := by
    intro b hb
    obtain ⟨l, hl, hb⟩ := List.any_eq_true.1 hb
    obtain ⟨o, ho, hlv⟩ := hlive l hl
    exact ⟨l, o, hl, ho, hlv, by simpa using hb⟩
  have hownN : ∀ b, own1 b = true → b < w.heap.size ∧ w0.New b ∧ ow b = true := by
    intro b hb
    obtain ⟨l, o, _, ho, hlv, hbk⟩ := hownI b hb
    exact (S.objs l o ho).lt hlv b hbk
  have hownP : ∀ l ∈ s, ∀ b, b ∈ blocksOf (hd l) → own1 b = true := by
    intro l hl b hb
    exact List.any_eq_true.2 ⟨l, hl, by simp [hb]⟩
  let c1 : Cx := ⟨w, own1, ow, fun _ => undef, fun g => ((renM st.m s s).map nslO).any fun o => o.tag == some g⟩
  have haln : ∀ l, al ((renM st.m s s).map nslO) l = al (renM st.m s s) l := al_nslO
  have hobj : ∀ j o, ((renM st.m s s).map nslO)[j]? = some o → ∃ l o', s[j]? = some l ∧ st.m[l]? = some o' ∧ o'.live = true ∧ o = nslO (renO s o') ∧ hren hd s j = hd l := by
    intro j o hj
    rw [List.getElem?_map] at hj
    cases hq : (renM st.m s s)[j]? with
    | none => simp [hq] at hj
    | some o1 =>
      simp [hq] at hj; subst hj
      obtain ⟨l, hl, rfl⟩ := renM_get _ _ _ _ _ hq
      obtain ⟨o', ho', hlv⟩ := hlive l (List.mem_of_getElem? hl)
      refine ⟨l, o', hl, ho', hlv, by rw [List.getD_eq_getElem?_getD, ho']; rfl, by simp [hren, List.getD_eq_getElem?_getD, hl]⟩
  have hlive1 : ∀ o : PO, (nslO (renO s o)).live = o.live := by intro o; cases o <;> rfl
  have htag1 : ∀ o : PO, (nslO (renO s o)).tag = o.tag := by intro o; cases o <;> rfl
  have S1 : SimH c1 ((renM st.m s s).map nslO) w ow (hren hd s) := by
    refine ⟨Kt.refl _ _, S.fresh, fun j o hj => ?_, ?_, ?_⟩
    · obtain ⟨l, o', hl, ho', hlv, rfl, e⟩ := hobj j o hj
      rw [e]
      have ho := S.objs l o' ho'
      have hm := List.mem_of_getElem? hl
      cases o' with
      | free => trivial
      | none => trivial
      | gh => simp [PO.live] at hlv
      | box cs =>
        obtain ⟨b, vals, t, g1, g2, g3, g4, g5⟩ := ho
        refine ⟨b, vals, t, g1, .inr (hownP l hm b (by rw [g1]; first | rfl | simp [blocksOf, blockOf])), g3, g4, ?_⟩
        rw [funext haln]
        exact RFL.nslF _ _ (RFL.ren _ _ g5)
      | row ty sz xs =>
        obtain ⟨cells, g1, g2, g3⟩ := ho
        exact ⟨cells, g1, fun b hb => ⟨.inr (hownP l hm b hb), (g2 b hb).2⟩, g3⟩
      | cu q fs =>
        obtain ⟨g1, vs', g2, g3⟩ := ho
        refine ⟨fun b hb => ⟨.inr (hownP l hm b hb), (g1 b hb).2⟩, vs', ?_, g3⟩
        rw [funext haln]
        exact RFL.nslF _ _ (RFL.ren _ _ g2)
    · intro j j' o o' b hne hj hj' hlv hlv' hb hb'
      obtain ⟨l, p, hl, hp, hpv, rfl, e⟩ := hobj j o hj
      obtain ⟨l', p', hl', hp', hpv', rfl, e'⟩ := hobj j' o' hj'
      rw [e] at hb
      rw [e'] at hb'
      exact S.dist l l' p p' b (fun h => by subst h; exact hne (nodup_nat hs hl hl')) hp hp' hpv hpv' hb hb'
    · refine ⟨?_, fun l o g hl hg => List.any_eq_true.2 ⟨o, List.mem_of_getElem? hl, by rw [hg]; exact beq_self_eq_true _⟩⟩
      intro j j' o o' g hj hj' hg hg'
      obtain ⟨l, p, hl, hp, _, rfl, _⟩ := hobj j o hj
      obtain ⟨l', p', hl', hp', _, rfl, _⟩ := hobj j' o' hj'
      rw [htag1] at hg hg'
      have e := S.tags.1 l l' p p' g hp hp' hg hg'
      subst e
      exact nodup_nat hs hl hl'
  have hargs : RFT (al ((renM st.m s s).map nslO)) (hren hd s) ow w (nslM bs (renL s xs) ++ renL s cs) (us ++ vs) := by
    rw [funext haln]
    exact RFT.append (RFT.nslM _ _ _ (RFT.ren _ _ hx)) (RFT.ren _ _ hcs)
  -- groups
  have hft : ∀ l o g, l ∉ s → st.m[l]? = some o → o.tag = some g → ∀ q, q ∈ (renM st.m s s).map nslO → q.tag ≠ some g := by
    intro l o g hl ho hg q hq hqg
    obtain ⟨j, hj⟩ := List.mem_iff_getElem?.1 hq
    obtain ⟨l', p', hl', hp', _, rfl, _⟩ := hobj j q hj
    rw [htag1] at hqg
    have e := S.tags.1 l l' o p' g ho hp' hg hqg
    subst e
    exact hl (List.mem_of_getElem? hl')
  refine (hret.2.2 c1 (hren hd s) (us ++ vs) S1 hargs).mono fun e w2 ⟨v, ow2, hd2, he, k2, kt, S2, hid, hr⟩ => ?_
  haveI hph : Ph ow ow2 := k2.1
  -- the caller's objects afterwards
  let hd3 : Nat → Value := fun l => match idx l τ with | some j => hd2 j | none => hd l
  have hd3τ : ∀ j l, τ[j]? = some l → hd3 l = hd2 j := by
    intro j l hj
    obtain ⟨i, hi⟩ := idx_of_get (List.mem_of_getElem? hj)
    have := nodup_nat h2 hj (idx_get hi)
    subst this
    show (match idx l τ with | some j => hd2 j | none => hd l) = hd2 j
    rw [hi]
  have hd3n : ∀ l, l ∉ τ → hd3 l = hd l := by
    intro l hl
    show (match idx l τ with | some j => hd2 j | none => hd l) = hd l
    cases hq : idx l τ with
    | none => rfl
    | some j => exact absurd (List.mem_of_getElem? (idx_get hq)) hl
  have hKp : Kp ow w ow2 w2 := by
    refine ⟨S2.below.size, fun b hb h => ?_, fun b hb h => ?_⟩
    · rw [k2.2.1 b hb (by cases ho : own1 b with | false => exact ho | true => rw [(hownN b ho).2.2] at h; cases h)]; exact h
    · exact S2.below.block b hb (by cases ho : own1 b with | false => exact ho | true => rw [(hownN b ho).2.2] at h; cases h)
  have hout : ∀ b, b < w0.w.heap.size → w0.own b = false → own1 b = false := by
    intro b hb hn
    cases ho : own1 b with
    | false => rfl
    | true =>
      rcases (hownN b ho).2.1 with h' | h'
      · omega
      · rw [hn] at h'; cases h'
  have hsz := S.below.size
  have hm2 : ∀ j o, m2[j]? = some o → okH o = true := fun j o hj => List.all_eq_true.1 h6 o (List.mem_of_getElem? hj)
  have hnew : ∀ b, c1.New b → w0.New b := by
    intro b hb
    rcases hb with hb | hb
    · exact .inl (Nat.le_trans hsz hb)
    · exact (hownN b hb).2.1
  have halτ : ∀ j, al m2 j = true → al (updM st.m (zipO τ τ m2)) (τ.getD j 0) = true ∧ hd3 (τ.getD j 0) = hd2 j := by
    intro j hj
    unfold al at hj
    cases hq : m2[j]? with
    | none => simp [hq] at hj
    | some o =>
      have hlt : j < τ.length := by rw [hτl]; exact (List.getElem?_eq_some_iff.1 hq).1
      have hg : τ[j]? = some (τ.getD j 0) := by rw [List.getD_eq_getElem?_getD, List.getElem?_eq_getElem hlt]; rfl
      refine ⟨?_, hd3τ j _ hg⟩
      unfold al
      rw [(hupd _).1 j hg, hq]
      rw [hq] at hj
      show (mapO τ o).made = true
      cases o <;> first | rfl | exact hj
  have ha : ∀ j, al st.m j = true → al (updM st.m (zipO τ τ m2)) j = true ∧ hd3 j = hd j := by
    intro j hj
    by_cases hmem : j ∈ τ
    · obtain ⟨i, hi⟩ := List.mem_iff_getElem?.1 hmem
      have hilt : i < m2.length := by rw [← hτl]; exact (List.getElem?_eq_some_iff.1 hi).1
      rcases Nat.lt_or_ge i s.length with hlt | hge
      · have hsi : s[i]? = some j := by rw [← hτs i hlt]; exact hi
        obtain ⟨o, ho, hlv⟩ := hlive j (List.mem_of_getElem? hsi)
        have hal1 : al ((renM st.m s s).map nslO) i = true := by
          rw [haln]
          unfold al
          rw [renM_at _ _ _ _ _ hsi, List.getD_eq_getElem?_getD, ho]
          simp only [Option.getD_some, renO_made]
          unfold al at hj
          rw [ho] at hj
          exact hj
        obtain ⟨q1, q2⟩ := hid i hal1
        obtain ⟨q3, q4⟩ := halτ i q1
        have hgd : τ.getD i 0 = j := by rw [List.getD_eq_getElem?_getD, hi]; rfl
        rw [hgd] at q3 q4
        refine ⟨q3, ?_⟩
        rw [q4, q2]
        simp [hren, List.getD_eq_getElem?_getD, hsi]
      · have := hτn i hge hilt
        rw [hi] at this
        simp at this
        have hf := hfree (i - s.length) (by omega)
        rw [← this] at hf
        simp [al, hf, PO.made] at hj
    · refine ⟨?_, hd3n j hmem⟩
      unfold al at hj ⊢
      rw [(hupd j).2 hmem]; exact hj
  have hback : ∀ (l : Nat) (o : PO), (updM st.m (zipO τ τ m2))[l]? = some o → (∃ (j : Nat) (o2 : PO), τ[j]? = some l ∧ m2[j]? = some o2 ∧ o = mapO τ o2) ∨ (l ∉ τ ∧ st.m[l]? = some o) := by
    intro l o hl
    by_cases hmem : l ∈ τ
    · obtain ⟨i, hi⟩ := List.mem_iff_getElem?.1 hmem
      rw [(hupd l).1 i hi] at hl
      cases hq : m2[i]? with
      | none => simp [hq] at hl
      | some o2 => simp [hq] at hl; exact .inl ⟨i, o2, hi, hq, hl.symm⟩
    · rw [(hupd l).2 hmem] at hl
      exact .inr ⟨hmem, hl⟩
  have hlvO : ∀ o : PO, (mapO τ o).live = o.live := by intro o; cases o <;> rfl
  -- blocks of the objects that were not handed over
  have hother : ∀ l o b, l ∉ τ → st.m[l]? = some o → o.live = true → b ∈ blocksOf (hd l) → b < w.heap.size ∧ own1 b = false := by
    intro l o b hl ho hlv hb
    refine ⟨((S.objs l o ho).lt hlv b hb).1, ?_⟩
    cases hw : own1 b with
    | false => rfl
    | true =>
      obtain ⟨l', o', hl', ho', hlv', hb'⟩ := hownI b hw
      exact absurd hb' (S.dist l l' o o' b (fun e => by subst e; exact hl (by rw [h4]; simp [hl'])) ho ho' hlv hlv' hb)
  have S3 : SimH w0 (updM st.m (zipO τ τ m2)) w2 ow2 hd3 := by
    refine ⟨S.below.trans ⟨S2.below.os, S2.below.tape, S2.below.output, S2.below.size, fun k hk hn => S2.below.block k (Nat.lt_of_lt_of_le hk hsz) (hout k hk hn)⟩, S2.fresh, fun l o hl => ?_, ?_, ?_⟩
    · rcases hback l o hl with ⟨j, o2, hj, hj2, rfl⟩ | ⟨hmem, hl'⟩
      · have ho := S2.objs j o2 hj2
        rw [hd3τ j l hj]
        cases o2 with
        | free => trivial
        | none => trivial
        | gh => have := hm2 j _ hj2; simp [okH] at this
        | box cs =>
          obtain ⟨b, vals, t, g1, g2, g3, g4, g5⟩ := ho
          exact ⟨b, vals, t, g1, hnew b g2, g3, g4, RFL.mapF halτ _ _ g5⟩
        | row ty sz xs =>
          obtain ⟨cells, g1, g2, g3⟩ := ho
          exact ⟨cells, g1, fun b hb => ⟨hnew b (g2 b hb).1, (g2 b hb).2⟩, g3⟩
        | cu q fs =>
          obtain ⟨g1, vs', g2, g3⟩ := ho
          exact ⟨fun b hb => ⟨hnew b (g1 b hb).1, (g1 b hb).2⟩, vs', RFL.mapF halτ _ _ g2, g3⟩
      · rw [hd3n l hmem]
        refine (S.objs l o hl').kp hKp ha (fun b hb hlv => ?_) fun g hg => kt g (hft l o g (fun h => hmem (by rw [h4]; simp [h])) hl' hg)
        obtain ⟨q1, q2⟩ := hother l o b hmem hl' hlv hb
        exact ⟨S2.below.block b q1 q2, k2.2.1 b q1 q2⟩
    · intro l l' o o' b hne hl hl' hlv hlv' hb hb'
      rcases hback l o hl with ⟨j, o2, hj, hj2, rfl⟩ | ⟨hmem, hl1⟩
      · rw [hd3τ j l hj] at hb
        rw [hlvO] at hlv
        rcases hback l' o' hl' with ⟨j', o2', hj', hj2', rfl⟩ | ⟨hmem', hl1'⟩
        · rw [hd3τ j' l' hj'] at hb'
          rw [hlvO] at hlv'
          exact S2.dist j j' o2 o2' b (fun e => by subst e; rw [hj] at hj'; cases hj'; exact hne rfl) hj2 hj2' hlv hlv' hb hb'
        · rw [hd3n l' hmem'] at hb'
          obtain ⟨q1, q2⟩ := hother l' o' b hmem' hl1' hlv' hb'
          rcases ((S2.objs j o2 hj2).lt hlv b hb).2.1 with h' | h'
          · exact absurd q1 (Nat.not_lt.2 h')
          · rw [show c1.own b = own1 b from rfl, q2] at h'; cases h'
      · rw [hd3n l hmem] at hb
        rcases hback l' o' hl' with ⟨j', o2', hj', hj2', rfl⟩ | ⟨hmem', hl1'⟩
        · rw [hd3τ j' l' hj'] at hb'
          rw [hlvO] at hlv'
          obtain ⟨q1, q2⟩ := hother l o b hmem hl1 hlv hb
          rcases ((S2.objs j' o2' hj2').lt hlv' b hb').2.1 with h' | h'
          · exact absurd q1 (Nat.not_lt.2 h')
          · rw [show c1.own b = own1 b from rfl, q2] at h'; cases h'
        · rw [hd3n l' hmem'] at hb'
          exact S.dist l l' o o' b hne hl1 hl1' hlv hlv' hb hb'
    · have htO : ∀ o : PO, (mapO τ o).tag = o.tag := by intro o; cases o <;> rfl
      have hmix : ∀ (l : Nat) (o o2 : PO) (g : Nat), l ∉ τ → st.m[l]? = some o → o.tag = some g → o2 ∈ m2 → o2.tag = some g → False := by
        intro l o o2 g hl ho hg h2 hg2
        obtain ⟨q, hq, hqg⟩ := hret.2.1 o2 h2 g hg2
        exact hft l o g (fun h => hl (by rw [h4]; simp [h])) ho hg q hq hqg
      have hgr : ∀ (o2 : PO) (g : Nat), o2 ∈ m2 → o2.tag = some g → w0.gr g = true := by
        intro o2 g h2 hg2
        obtain ⟨q, hq, hqg⟩ := hret.2.1 o2 h2 g hg2
        obtain ⟨j, hj⟩ := List.mem_iff_getElem?.1 hq
        obtain ⟨l', p', hl', hp', _, rfl, _⟩ := hobj j q hj
        rw [htag1] at hqg
        exact S.tags.2 l' p' g hp' hqg
      refine ⟨?_, fun l o g hl hg => ?_⟩
      rotate_left
      · rcases hback l o hl with ⟨j, o2, hj, hj2, rfl⟩ | ⟨hmem, hl1⟩
        · rw [htO] at hg
          exact hgr o2 g (List.mem_of_getElem? hj2) hg
        · exact S.tags.2 l o g hl1 hg
      intro l l' o o' g hl hl' hg hg'
      rcases hback l o hl with ⟨j, o2, hj, hj2, rfl⟩ | ⟨hmem, hl1⟩
      · rw [htO] at hg
        rcases hback l' o' hl' with ⟨j', o2', hj', hj2', rfl⟩ | ⟨hmem', hl1'⟩
        · rw [htO] at hg'
          have e := S2.tags.1 j j' o2 o2' g hj2 hj2' hg hg'
          subst e
          rw [hj] at hj'
          exact Option.some.inj hj'
        · exact (hmix l' o' o2 g hmem' hl1' hg' (List.mem_of_getElem? hj2) hg).elim
      · rcases hback l' o' hl' with ⟨j', o2', hj', hj2', rfl⟩ | ⟨hmem', hl1'⟩
        · rw [htO] at hg'
          exact (hmix l o o2' g hmem hl1 hg (List.mem_of_getElem? hj2') hg').elim
        · exact S.tags.1 l l' o o' g hl1 hl1' hg hg'
  exact ⟨v, ow2, hd3, he, hold.step (fun b hb hn => k2.2.1 b (Nat.lt_of_lt_of_le hb hsz) (hout b hb hn)) (fun g hg => kt g fun q hq hqg => by
    obtain ⟨j, hj⟩ := List.mem_iff_getElem?.1 hq
    obtain ⟨l', p', hl', hp', _, rfl, _⟩ := hobj j q hj
    rw [htag1] at hqg
    rw [S.tags.2 l' p' g hp' hqg] at hg; cases hg), { S3 with defers := S.defers, size := S.size, slots := fun i => RF.mono hKp ha _ _ (S.slots i) }, RF.mapF halτ _ _ hr⟩
/-- THE ACTS: each is what the machine does -/
theorem act0_wp (hT : TOk P T) (S : Sim n w0 st a w) {o : Oper} {r : FV} {U : List (Nat × PO)} {F : List Nat} {nl : Nat} (hn : ∀ k, o.dst = some k → k < n)
    (h : PAct0 P T (ev st.f) st.m nl o.op r U F) {K : Act → World → Prop} {Q : Exit → Act → World → Prop} (hK : ∀ a' w', Sim n w0 (st.act o.dst r U) a' w' → K a' w') : o.wp P a w K Q := by
  obtain ⟨ow, hd, hold, S⟩ := S
  obtain ⟨d, op, ty, pos, af, gd⟩ := o
  have hval : (∀ c, op ≠ .call c) → isBS op = false → U = [] → Oper.wp P ⟨d, op, ty, pos, af, gd⟩ a w K Q := by
    intro h1 h1' h2
    obtain ⟨v, hv, hr⟩ := act_val (d := d) (ty := ty) (pos := pos) (af := af) (gd := gd) hT S h h1 h1' h2
    refine wp_val hv (hK _ _ ⟨ow, hd, hold, ?_⟩)
    subst h2
    exact S.put hn hr
  have hcall : ∀ (f : Operand) (args : Array Operand) (tys : Array Nat) (g : FuncId) (caps ps : List PV) (r' : PV), op = .call ⟨.value f, args, tys⟩ → r = .d r' → U = [] → Ret P g (nslL ps ++ caps) r' →
      ((ev st.f f = .d (.clo g caps) ∧ RT ow w ps (args.toList.map a.eval)) ∨ (R ow.no w (.clo g caps) (a.eval f) ∧ RT ow.no w ps (args.toList.map a.eval) ∧ flat r' = true)) → Oper.wp P ⟨d, op, ty, pos, af, gd⟩ a w K Q := by
    intro f args tys g caps ps r' e1 e2 e3 hret hargs
    subst e1 e2 e3
    rcases hargs with ⟨hf, hargs⟩ | ⟨hf, hargs, hfl⟩
    · have hc := S.d hf
      simp only [R] at hc
      obtain ⟨vs, hc1, hc2⟩ := hc
      unfold Oper.wp
      rw [run_call hc1 hret.1]
      show Calls P g (args.map a.eval ++ vs.toArray) w _
      have harr : args.map a.eval ++ vs.toArray = (args.toList.map a.eval ++ vs).toArray := by
        apply Array.toList_inj.1; simp
      rw [harr]
      refine (hret.2 ow w _ S.fresh ((RT.nsl _ _ hargs).append (RT_of_RL hc2))).mono fun e w' ⟨v, he, hb, hr⟩ => ?_
      subst he
      exact hK _ _ ⟨ow, hd, hold, (S.later hb).put hn (x := .d r') (by simpa only [RF] using hr)⟩
    · simp only [R] at hf
      obtain ⟨vs, hc1, hc2⟩ := hf
      unfold Oper.wp
      rw [run_call hc1 hret.1]
      show Calls P g (args.map a.eval ++ vs.toArray) w _
      have harr : args.map a.eval ++ vs.toArray = (args.toList.map a.eval ++ vs).toArray := by
        apply Array.toList_inj.1; simp
      rw [harr]
      refine (hret.2 ow.no w _ (fun _ _ => rfl) ((RT.nsl _ _ hargs).append (RT_of_RL hc2))).mono fun e w' ⟨v, he, hb, hr⟩ => ?_
      subst he
      exact hK _ _ ⟨ow, hd, hold, (S.later hb).put hn (x := .d r') (by simp only [RF]; exact R.flat _ _ hfl hr)⟩
  have hpub : Kp ow w ow.no w := ⟨Nat.le_refl _, fun _ _ _ => rfl, fun _ _ _ => rfl⟩
  cases h with
  | alloc e ti h0 h1 h2 =>
    obtain ⟨i, dd, e1, e2, e3, e4, e5, e6⟩ := hT.info h1
    obtain ⟨z, hz, e6⟩ := e6 h2
    · have hrun : (execOp a.eval ⟨d, .alloc e, ty, pos, af, gd⟩).run P w = .ok (.value (.pointer (some ⟨w.heap.size, 0, none⟩))) (w.alloc (.cells z.cells e)) := by
        simp [execOp, Instr.alloc, zeroValue, typeInfo, e1, hz, newVar, newRow, newObj, Sem.run]
      unfold Oper.wp
      rw [hrun]
      obtain ⟨ow', hd', g1, g2, g3⟩ := S.new h0 (cs := ti.zero.map fun z => FV.d z.pv) (vals := z.cells) (t := e) (zero_RFL e6)
      exact hK _ _ ⟨ow', hd', hold.step (p := Ph.of_eq g1.1.1) (fun b hb _ => g1.1.2 b (Nat.lt_of_lt_of_le hb S.below.size)) (fun g _ => congrFun g1.1.1 g), g2.put hn g3⟩
  | box e x cs h0 h1 =>
    have hrun : (execOp a.eval ⟨d, .box e x, ty, pos, af, gd⟩).run P w = .ok (.value (.pointer (some ⟨w.heap.size, 0, none⟩))) (w.alloc (.cells (a.eval x).cells e)) := by
      simp [execOp, Instr.box, newVar, newRow, newObj, Sem.run]
    unfold Oper.wp
    rw [hrun]
    obtain ⟨ow', hd', g1, g2, g3⟩ := S.new h0 (cs := cs) (vals := (a.eval x).cells) (t := e) (RF.cells (S.eval x) h1)
    exact hK _ _ ⟨ow', hd', hold.step (p := Ph.of_eq g1.1.1) (fun b hb _ => g1.1.2 b (Nat.lt_of_lt_of_le hb S.below.size)) (fun g _ => congrFun g1.1.1 g), g2.put hn g3⟩
  | store t x y l off cs zs h1 h2 h3 h4 h5 =>
    obtain ⟨b, vals, t', e1, e2, e3, e4, e5, e6⟩ := S.box h1 h2
    have hcl := RF.cells (S.eval y) h3
    have hsz := hcl.length
    simp only [Array.length_toList] at hsz
    have hl := e6.length
    simp only [Array.length_toList] at hl
    have hst := run_storeAt_any (P := P) (w := w) hT (t := t) (b := b) (off := off) (v := a.eval y) (by rw [hsz]; exact h4) (there_of_block e5 (by omega)) (RFL.one hcl)
    unfold Oper.wp
    simp only [execOp, e2, Sem.run_bind, hst, Result.andThen_ok, Sem.run_pure]
    refine hK _ _ ?_
    obtain ⟨cur', k1, k2, k3⟩ := setCells_block b t' (0, 0) (a.eval y).cells.toList off w vals e5 (by simp; omega)
    have ho := fun j hj => setCells_other b (a.eval y).cells.toList off w j hj
    have hkp : Kp ow w ow (w.setCells b off (a.eval y).cells.toList) := ⟨by rw [setCells_size]; exact Nat.le_refl _, fun _ _ h => h, fun j _ hj => ho j (fun e => by rw [e, e4] at hj; cases hj)⟩
    have S' := S.set (o' := .box (splice cs off zs)) h2 rfl rfl (b := b) (by rw [e1]; first | rfl | simp [blocksOf, blockOf]) ho (setCells_size b _ off w) (Kt.of_one (setCells_below b _ (Nat.le_refl _) _ off w) e3 ho)
      ⟨b, cur', t', e1, e3, e4, k1, by rw [k2]; exact RFL.mono hkp (fun l h => ⟨al_set_mono (.inr rfl) l h, rfl⟩) _ _ (splice_RFL off e6 hcl)⟩
    exact ⟨ow, hd, hold, S'.put hn (x := .dead) (by simp only [RF])⟩
  | storeE t x z l ty' sz i off xs y zv y' h1 h2 h3 h4 h5 h6 h7 h8 h9 h10 =>
    obtain ⟨b, cap, cur, cells, e1, e2, e3, e4, e5, e6, e7, e8, e9, e10, e11⟩ := S.row h1 h2
    obtain ⟨u, k1, k2, k3, k4, k5⟩ := row_elem e5 e9 e11 h3 h4
    have hz := S.d h5
    have hsz := R.size hz h6
    have hcl := R.cells hz h6
    have hmul : i * sz + sz ≤ xs.length * sz := by rw [← Nat.succ_mul]; exact Nat.mul_le_mul_right _ k5
    have hmul2 : xs.length * sz ≤ cap * sz := Nat.mul_le_mul_right _ e6
    have hst := run_storeAt_any (P := P) (w := w) hT (t := t) (b := b) (off := i * sz + off) (v := a.eval z) (by rw [hsz]; exact h7) (there_of_block e5 (by omega)) (RL.one hcl)
    unfold Oper.wp
    simp only [execOp, e2, Sem.run_bind, hst, Result.andThen_ok, Sem.run_pure]
    refine hK _ _ ?_
    obtain ⟨cur', q1, q2, q3⟩ := setCells_block b ty' (0, 0) (a.eval z).cells.toList (i * sz + off) w cur e5 (by simp; omega)
    have ho := fun j hj => setCells_other b (a.eval z).cells.toList (i * sz + off) w j hj
    have hkp : Kp ow w ow (w.setCells b (i * sz + off) (a.eval z).cells.toList) := ⟨by rw [setCells_size]; exact Nat.le_refl _, fun _ _ h => h, fun j _ hj => ho j (fun e => by rw [e, e4] at hj; cases hj)⟩
    have hnew := splice_RL off k3 hcl
    rw [← h9] at hnew
    obtain ⟨u', v1, v2⟩ := R_of_cells hnew h10
    have hlu : u.cells.toList.length = sz := by simpa using k1
    have hlz : (a.eval z).cells.toList.length = psz zv := by simpa using hsz
    have hu' : u'.cells.size = sz := by
      rw [← Array.length_toList, v1]
      simp only [List.length_append, List.length_take, List.length_drop, hlu, hlz]
      omega
    have hset := RE.set i y' u' e11 k5 hu' (by rw [v1]; exact RL.one hnew) v2
    have S' := S.set (o' := .row ty' sz (xs.set i y')) h2 rfl rfl (b := b) (by rw [e1]; first | rfl | simp [blocksOf, blockOf]) ho (setCells_size b _ _ w) (Kt.of_one (setCells_below b _ (Nat.le_refl _) _ _ w) e3 ho)
      ⟨cells.take (i * sz) ++ u'.cells.toList ++ cells.drop (i * sz + sz), ⟨by
          simp only [List.length_append, List.length_take, List.length_drop, List.length_set, e10, Array.length_toList, hu']
          omega, .inr ⟨b, cap, cur', by rw [e1, List.length_set], Nat.zero_le _, q1, by rw [List.length_set]; exact e6, e7, by rw [q3]; exact e8, by
          rw [q2, List.length_set, v1, ← e9]
          exact row_lists hmul (by rw [hlz]; exact h8) (by have := e8; simp only [Array.length_toList]; omega) (elem_cells e5 (by rw [e8]; omega) k4 k1)⟩⟩, fun b' hb' => by rw [e1] at hb'; simp [blocksOf, blockOf] at hb'; rw [hb']; exact ⟨e3, e4⟩, RE.mono hkp _ _ _ hset⟩
    exact ⟨ow, hd, hold, S'.put hn (x := .dead) (by simp only [RF])⟩
  | len t x e s xs ls h1 h2 =>
    obtain ⟨ad, cap, e1, _⟩ := h2.spec S
    have hrun : (execOp a.eval ⟨d, .call ⟨.builtin .len, #[x], #[t]⟩, ty, pos, af, gd⟩).run P w = .ok (.value (.int .i64 xs.length)) w := by
      simp [execOp, resolve, invoke, builtin, e1, Builtin.len_, run_underlying (tsl_und hT h1).1, goInt]
    exact wp_val hrun (hK _ _ ⟨ow, hd, hold, S.put hn (x := .d (.v (.int .i64 xs.length))) (by simp only [RF, R]; exact ⟨trivial, rfl⟩)⟩)
  | moveC x e s l k xs h0 h2 h3 h4 =>
    have hx := S.eval x
    rw [h2] at hx
    simp only [RF] at hx
    obtain ⟨hx0, ad, nn, cap, hx2, _, hkc, hx1⟩ := hx
    obtain ⟨cells, g1, g2, g3⟩ := S.objs l _ h3
    have hnn : nn = xs.length ∧ xs.length ≤ cap := by
      rcases g1.2 with ⟨q1, q2⟩ | ⟨g, cap', cur, q1, _, _, q4, _⟩
      · rw [hx2] at q1; simp at q1; omega
      · rw [hx2] at q1; simp at q1; obtain ⟨_, rfl, rfl⟩ := q1; exact ⟨rfl, q4⟩
    obtain ⟨rfl, hcap⟩ := hnn
    have had : (if cap = 0 then ad else ad.map (·.add (0 * s))) = ad := by
      split
      · rfl
      · cases ad with
        | none => rfl
        | some p => simp [Addr.add]
    rw [had, Nat.sub_zero, Nat.sub_zero] at hx1
    have hrun : (execOp a.eval ⟨d, .move x, ty, pos, af, gd⟩).run P w = .ok (.value (.slice ad k cap)) w := by
      simp [execOp, hx1]
    have hlen : (xs.take k).length = k := by simp; omega
    obtain ⟨hd', q1, q2, q3⟩ := S.rerow h3 h0 (v' := .slice ad k cap) (ys := xs.take k) (cells := cells.take (k * s)) (by rw [hlen]; exact ownsRow_take g1 hx2 (by omega)) (fun b hb => by rw [hx2]; cases ad <;> simpa [blocksOf, blockOf] using hb) (RE.take _ g3) ⟨_, _, _, rfl⟩
    unfold Oper.wp
    rw [hrun]
    exact hK _ _ ⟨ow, hd', hold, q2.put hn q3⟩
  | lenSS t x e s l i j h1 h2 =>
    have hx := S.eval x
    rw [h2] at hx
    simp only [RF] at hx
    obtain ⟨_, ad, nn, cap, _, _, _, e1⟩ := hx
    have hrun : (execOp a.eval ⟨d, .call ⟨.builtin .len, #[x], #[t]⟩, ty, pos, af, gd⟩).run P w = .ok (.value (.int .i64 ((j - i : Nat) : Int))) w := by
      simp [execOp, resolve, invoke, builtin, e1, Builtin.len_, run_underlying (tsl_und hT h1).1, goInt]
    exact wp_val hrun (hK _ _ ⟨ow, hd, hold, S.put hn (x := .d (.v (.int .i64 ((j - i : Nat) : Int)))) (by simp only [RF, R]; exact ⟨trivial, rfl⟩)⟩)
  | lenStr t x s h1 h2 =>
    obtain ⟨e1, _⟩ := S.v h2
    have hrun : (execOp a.eval ⟨d, .call ⟨.builtin .len, #[x], #[t]⟩, ty, pos, af, gd⟩).run P w = .ok (.value (.int .i64 s.size)) w := by
      simp [execOp, resolve, invoke, builtin, e1, Builtin.len_, run_underlying (str_und hT h1), goInt]
    exact wp_val hrun (hK _ _ ⟨ow, hd, hold, S.put hn (x := .d (.v (.int .i64 s.size))) (by simp only [RF, R]; exact ⟨trivial, rfl⟩)⟩)
  | min2 t t' x y k p q h1 h2 =>
    obtain ⟨e1, _⟩ := S.v h1
    obtain ⟨e2, _⟩ := S.v h2
    have hrun : (execOp a.eval ⟨d, .call ⟨.builtin .min, #[x, y], #[t, t']⟩, ty, pos, af, gd⟩).run P w = .ok (.value (.int k (if q < p then q else p))) w := by
      simp [execOp, resolve, invoke, builtin, e1, e2, Builtin.min_, Builtin.min2]
    exact wp_val hrun (hK _ _ ⟨ow, hd, hold, S.put hn (x := .d (.v _)) (by simp only [RF, R]; exact ⟨trivial, rfl⟩)⟩)
  | max2 t t' x y k p q h1 h2 =>
    obtain ⟨e1, _⟩ := S.v h1
    obtain ⟨e2, _⟩ := S.v h2
    have hrun : (execOp a.eval ⟨d, .call ⟨.builtin .max, #[x, y], #[t, t']⟩, ty, pos, af, gd⟩).run P w = .ok (.value (.int k (if q > p then q else p))) w := by
      simp [execOp, resolve, invoke, builtin, e1, e2, Builtin.max_, Builtin.max2]
    exact wp_val hrun (hK _ _ ⟨ow, hd, hold, S.put hn (x := .d (.v _)) (by simp only [RF, R]; exact ⟨trivial, rfl⟩)⟩)
  | call f args tys g caps ps r' h1 h2 h3 => exact hcall f args tys g caps ps r' rfl rfl rfl h3 (.inl ⟨h1, RT_of_args S _ _ h2⟩)
  | callF f args tys g caps ps r' h1 h2 h3 h4 => exact hcall f args tys g caps ps r' rfl rfl rfl h3 (.inr ⟨frz_sound S.toSimH hpub (fun _ _ => rfl) _ _ _ h1 (S.eval f), frzT_sound S.toSimH hpub (fun _ _ => rfl) _ _ _ h2 (RFT_of_eval S _), h4⟩)
  | bslice t len parts e s ti xs h0 h1 h2 h3 h4 h5 h6 h7 h8 h9 =>
    subst h7
    obtain ⟨i, dd, e1, e2, e3, e4, e5, e6⟩ := hT.info h2
    obtain ⟨hu, hs⟩ := tsl_und hT h1
    have hsi := tsz_info hT hs
    rw [e1] at hsi
    simp at hsi
    obtain ⟨z, hz, e6⟩ := e6 h3
    have hargs : ∃ us : List Value, RT ow w xs us ∧ (parts.map fun (i, x) => (i, a.eval x)).toList = (us.zipIdx 0).map fun q => (q.2, q.1) := by
      have go : ∀ (ps : List (Nat × Operand)) (xs : List PV) (k : Nat), ps.map (fun p => (p.1, ev st.f p.2)) = (xs.zipIdx k).map (fun q => (q.2, FV.d q.1)) → ∃ us : List Value, RT ow w xs us ∧ (ps.map fun p => (p.1, a.eval p.2)) = (us.zipIdx k).map fun q => (q.2, q.1) := by
        intro ps
        induction ps with
        | nil =>
          intro xs k h
          cases xs with
          | nil => exact ⟨[], by simp [RT], by simp⟩
          | cons x xs => simp at h
        | cons p ps ih =>
          intro xs k h
          cases xs with
          | nil => simp at h
          | cons x xs =>
            simp only [List.map_cons, List.zipIdx_cons, List.cons.injEq, Prod.mk.injEq] at h
            obtain ⟨⟨h1, h2⟩, h3⟩ := h
            obtain ⟨us, i1, i2⟩ := ih xs (k + 1) h3
            refine ⟨a.eval p.2 :: us, ?_, ?_⟩
            · simp only [RT]; exact ⟨_, _, rfl, S.d h2, i1⟩
            · simp only [List.map_cons, List.zipIdx_cons, i2, h1]
      obtain ⟨us, i1, i2⟩ := go parts.toList xs 0 h8
      exact ⟨us, i1, by simpa using i2⟩
    obtain ⟨us, a1, a2⟩ := hargs
    obtain ⟨r1, r2⟩ := RE_of_RT a1 h9
    have hul := RT.length a1
    obtain ⟨out, o1, o2⟩ := fill_seq s us 0 ((Array.range (xs.length * s)).map (z.cells[· % z.cells.size]!)) r2 (by simp [hul])
    have hrun := run_buildSlice (P := P) w t e xs.length (parts.map fun (i, x) => (i, a.eval x)) out i z hu e1 hz (by rw [hsi]; omega) (by rw [hsi]; exact Nat.ne_of_gt (Nat.mul_pos h5 h4)) (by rw [hsi, a2]; exact o1)
    have hol : out.toList = us.flatMap fun u => u.cells.toList := by
      rw [o2]; simp [hul]
    have hosz : out.size = xs.length * s := by
      have := r1.length
      rw [← Array.length_toList, hol, this]; simp
    have hml : xs.length ≤ maxLen := by
      have : xs.length ≤ xs.length * s := Nat.le_mul_of_pos_right _ h4
      unfold maxLen; omega
    obtain ⟨ow', hd', g1, g2, g3⟩ := S.newRow h0 (v' := .slice (some ⟨w.heap.size, 0, none⟩) xs.length xs.length) (w' := w.alloc (.cells out e)) (e := e) (s := s) (xs := xs.map nsl) (cells := out.toList)
      (by rw [List.length_map]; exact World.ownsRow_lit w out xs.length (Nat.zero_le _) hml hosz) (World.grownBy_alloc w _ none) (fun b hb => by simp [blocksOf, blockOf] at hb; subst hb; simp) (by rw [hol]; exact r1) ⟨_, _, _, rfl⟩
    unfold Oper.wp
    have hx : (execOp a.eval ⟨d, .buildSlice t xs.length parts, ty, pos, af, gd⟩).run P w = .ok (.value (.slice (some ⟨w.heap.size, 0, none⟩) xs.length xs.length)) (w.alloc (.cells out e)) := by
      simp only [execOp, Sem.run_bind, hrun, Result.andThen_ok]; rfl
    rw [hx]
    exact hK _ _ ⟨ow', hd', hold.step (p := Ph.of_eq g1.1.1) (fun b hb _ => g1.1.2 b (Nat.lt_of_lt_of_le hb S.below.size)) (fun g _ => congrFun g1.1.1 g), g2.put hn g3⟩
  | bsliceD t len parts e s ti xs h1 h2 h3 h4 h5 h6 h7 h8 h9 =>
    subst h7
    obtain ⟨i, dd, e1, e2, e3, e4, e5, e6⟩ := hT.info h2
    obtain ⟨hu, hs⟩ := tsl_und hT h1
    have hsi := tsz_info hT hs
    rw [e1] at hsi
    simp at hsi
    obtain ⟨z, hz, e6⟩ := e6 h3
    have hargs : ∃ us : List Value, RT ow w xs us ∧ (parts.map fun (i, x) => (i, a.eval x)).toList = (us.zipIdx 0).map fun q => (q.2, q.1) := by
      have go : ∀ (ps : List (Nat × Operand)) (xs : List PV) (k : Nat), ps.map (fun p => (p.1, ev st.f p.2)) = (xs.zipIdx k).map (fun q => (q.2, FV.d q.1)) → ∃ us : List Value, RT ow w xs us ∧ (ps.map fun p => (p.1, a.eval p.2)) = (us.zipIdx k).map fun q => (q.2, q.1) := by
        intro ps
        induction ps with
        | nil =>
          intro xs k h
          cases xs with
          | nil => exact ⟨[], by simp [RT], by simp⟩
          | cons x xs => simp at h
        | cons p ps ih =>
          intro xs k h
          cases xs with
          | nil => simp at h
          | cons x xs =>
            simp only [List.map_cons, List.zipIdx_cons, List.cons.injEq, Prod.mk.injEq] at h
            obtain ⟨⟨h1, h2⟩, h3⟩ := h
            obtain ⟨us, i1, i2⟩ := ih xs (k + 1) h3
            refine ⟨a.eval p.2 :: us, ?_, ?_⟩
            · simp only [RT]; exact ⟨_, _, rfl, S.d h2, i1⟩
            · simp only [List.map_cons, List.zipIdx_cons, i2, h1]
      obtain ⟨us, i1, i2⟩ := go parts.toList xs 0 h8
      exact ⟨us, i1, by simpa using i2⟩
    obtain ⟨us, a1, a2⟩ := hargs
    obtain ⟨r1, r2⟩ := RE_of_RT a1 h9
    have hul := RT.length a1
    obtain ⟨out, o1, o2⟩ := fill_seq s us 0 ((Array.range (xs.length * s)).map (z.cells[· % z.cells.size]!)) r2 (by simp [hul])
    have hrun := run_buildSlice (P := P) w t e xs.length (parts.map fun (i, x) => (i, a.eval x)) out i z hu e1 hz (by rw [hsi]; omega) (by rw [hsi]; exact Nat.ne_of_gt (Nat.mul_pos h5 h4)) (by rw [hsi, a2]; exact o1)
    have hol : out.toList = us.flatMap fun u => u.cells.toList := by
      rw [o2]; simp [hul]
    have hosz : out.size = xs.length * s := by
      have := r1.length
      rw [← Array.length_toList, hol, this]; simp
    have hml : xs.length ≤ maxLen := by
      have : xs.length ≤ xs.length * s := Nat.le_mul_of_pos_right _ h4
      unfold maxLen; omega
    have hnb : ow w.heap.size = false := S.fresh _ (Nat.le_refl _)
    have hbel : Below w.heap.size w (w.alloc (.cells out e)) := (Below.refl _ _).alloc (Nat.le_refl _) _
    have hx : (execOp a.eval ⟨d, .buildSlice t xs.length parts, ty, pos, af, gd⟩).run P w = .ok (.value (.slice (some ⟨w.heap.size, 0, none⟩) xs.length xs.length)) (w.alloc (.cells out e)) := by
      simp only [execOp, Sem.run_bind, hrun, Result.andThen_ok]; rfl
    unfold Oper.wp
    rw [hx]
    refine hK _ _ ⟨ow, hd, hold, (S.later hbel).put hn (x := .d (.sl (xs.map nsl))) ?_⟩
    simp only [RF, R]
    refine ⟨_, _, by rw [List.length_map], by rw [List.length_map]; exact Nat.le_refl _, hml, .inr ⟨w.heap.size, 0, s, out.toList, rfl, by simp, hnb, fun j v hv => ?_, ?_⟩⟩
    · unfold World.cell?
      simp only [heap_alloc_new]
      simpa using hv
    · rw [hol]
      exact RE.mono ⟨hbel.size, fun _ _ h => h, fun b hb _ => hbel.block b hb⟩ _ _ _ r1
  | capN t x e s h1 h2 =>
    obtain ⟨ex, _⟩ := S.v h2
    have hrun : (execOp a.eval ⟨d, .call ⟨.builtin .cap, #[x], #[t]⟩, ty, pos, af, gd⟩).run P w = .ok (.value (.int .i64 0)) w := by
      simp [execOp, resolve, invoke, builtin, ex, Builtin.cap_, run_underlying (tsl_und hT h1).1, goInt]
    exact wp_val hrun (hK _ _ ⟨ow, hd, hold, S.put hn (x := .d (.v (.int .i64 0))) (by simp only [RF, R]; exact ⟨trivial, rfl⟩)⟩)
  | appendZ t t' x y e s ti z k k' j h0 h1 h1' h2 h3 h4 h5 h6 h7 h8 h9 h10 =>
    obtain ⟨i, zv, u, e1, e2, e3, e4, e5, e6, e7, e8⟩ := zeroPV_spec hT h2 h3
    obtain ⟨hu, hs⟩ := tsl_und hT h1
    have hui := tint_und hT h1'
    have hsi := tsz_info hT hs
    rw [e1] at hsi
    simp at hsi
    obtain ⟨ex, _⟩ := S.v h6
    obtain ⟨ey, _⟩ := S.v h7
    have hj : ((j.toNat : Nat) : Int) = j := Int.toNat_of_nonneg h8
    have hsm : j.toNat ≤ 9223372036854775807 := by simp only [maxLen] at h9; omega
    have hwr : IntKind.i64.wrap j = j := by rw [IntKind.wrap_i64]; omega
    have hzs : zv.cells.size = s := by rw [e5, h4]
    have hzc : ∀ n : Nat, (Builtin.zeroCells zv.cells n).toList = (List.replicate n u.cells.toList).flatten := by
      intro n
      have := made_cells zv.cells (by omega) n
      rw [e6, ← this]
      simp [Builtin.zeroCells, madeCells]
    have hRE : RE ow w s (List.replicate j.toNat z) (Builtin.zeroCells zv.cells j.toNat).toList := by
      rw [hzc]; exact RE_zero (by rw [e6]; exact hzs) e7 (e8 _ _) _
    by_cases hz0 : j.toNat = 0
    · have hrun : (execOp a.eval ⟨d, .call ⟨.builtin .append, #[x, y], #[t, t']⟩, ty, pos, af, gd⟩).run P w = .ok (.value (.slice none 0 0)) w := by
        have hj0 : j = 0 := by omega
        subst hj0
        simp [execOp, resolve, invoke, builtin, ex, ey, Builtin.append_, run_underlying hu, run_underlying hui, sizeOf, typeInfo, e1, asInt, asIntOf, hwr]
      obtain ⟨ow', hd', g1, g2, g3⟩ := S.newRow h0 (v' := .slice none 0 0) (w' := w) (e := e) (s := s) (xs := List.replicate j.toNat z) (cells := [])
        (by rw [hz0]; exact World.ownsRow_nil _ _ _ _) (grownBy_refl _ _) (fun b hb => by simp [blocksOf, blockOf] at hb) (by rw [hz0]; simp only [List.replicate_zero, RE]) ⟨_, _, _, rfl⟩
      unfold Oper.wp
      rw [hrun]
      exact hK _ _ ⟨ow', hd', hold.step (p := Ph.of_eq g1.1.1) (fun b hb _ => g1.1.2 b (Nat.lt_of_lt_of_le hb S.below.size)) (fun g _ => congrFun g1.1.1 g), g2.put hn g3⟩
    · have h48 : ¬ (281474976710656 < Builtin.nextslicecap j.toNat 0 * i.bytes) := by rw [nextslicecap_zero (by omega), e4]; omega
      have h48' : ¬ (281474976710656 < j * (i.bytes : Int)) := by
        rw [e4, ← hj, ← Int.natCast_mul]; omega
      have h63 : ¬ (9223372036854775807 < j) := by omega
      have hneg : ¬ (j < 0) := by omega
      have hle0 : ¬ (j ≤ 0) := by omega
      have hmx : ¬ (9223372036854775807 < max j 0) := by omega
      have hnn : ¬ (j.toNat * i.size = 0) := by
        rw [hsi]; exact Nat.ne_of_gt (Nat.mul_pos (by omega) h5)
      have hrun : (execOp a.eval ⟨d, .call ⟨.builtin .append, #[x, y], #[t, t']⟩, ty, pos, af, gd⟩).run P w = .ok (.value (.slice (some ⟨w.heap.size, 0, none⟩) j.toNat (grownCap w j.toNat 0 e))) (w.drew.alloc (.cells (Builtin.zeroCells zv.cells j.toNat ++ Builtin.zeroCells zv.cells (grownCap w j.toNat 0 e - j.toNat)) e)) := by
        simp [execOp, resolve, invoke, builtin, ex, ey, Builtin.append_, run_underlying hu, run_underlying hui, sizeOf, typeInfo, zeroValue, e1, e2, asInt, asIntOf, hwr, hz0, h48, h48', h63, hneg, hle0, hmx, hnn, Question.forced, run_firstCells_none, newRow, grownCap]
      have hge := grownCap_ge w j.toNat 0 e
      have hcm : grownCap w j.toNat 0 e ≤ maxLen := grownCap_le_maxLen w j.toNat 0 e h9
      have hzl : (Builtin.zeroCells zv.cells j.toNat).toList.length = j.toNat * s := by rw [Array.length_toList, size_zeroCells, hzs]
      obtain ⟨ow', hd', g1, g2, g3⟩ := S.newRow h0 (v' := .slice (some ⟨w.heap.size, 0, none⟩) j.toNat (grownCap w j.toNat 0 e)) (w' := w.drew.alloc (.cells (Builtin.zeroCells zv.cells j.toNat ++ Builtin.zeroCells zv.cells (grownCap w j.toNat 0 e - j.toNat)) e)) (e := e) (s := s) (xs := List.replicate j.toNat z) (cells := (Builtin.zeroCells zv.cells j.toNat).toList)
        (by
          rw [List.length_replicate]
          refine ⟨hzl, .inr ⟨w.heap.size, _, _, rfl, Nat.zero_le _, heap_alloc_new w.drew _, hge, hcm, ?_, ?_⟩⟩
          · simp only [Array.size_append, size_zeroCells, hzs, ← Nat.add_mul]
            congr 1
            omega
          · rw [Array.toList_append, ← hzl]; exact List.take_left)
        ⟨rfl, rfl, rfl, by simp, fun k hk _ => heap_alloc_old w.drew _ hk⟩ (fun b hb => by simp [blocksOf, blockOf] at hb; subst hb; simp) hRE ⟨_, _, _, rfl⟩
      unfold Oper.wp
      rw [hrun]
      exact hK _ _ ⟨ow', hd', hold.step (p := Ph.of_eq g1.1.1) (fun b hb _ => g1.1.2 b (Nat.lt_of_lt_of_le hb S.below.size)) (fun g _ => congrFun g1.1.1 g), g2.put hn g3⟩
  | mkSl t x y e s ti z k k' j h0 h1 h2 h3 h4 h5 h6 h7 h8 h9 h10 =>
    obtain ⟨i, zv, u, e1, e2, e3, e4, e5, e6, e7, e8⟩ := zeroPV_spec hT h2 h3
    obtain ⟨hu, hs⟩ := tsl_und hT h1
    have hsi := tsz_info hT hs
    rw [e1] at hsi
    simp at hsi
    obtain ⟨ex, _⟩ := S.v h6
    obtain ⟨ey, _⟩ := S.v h7
    obtain ⟨w', r1, r2, r3⟩ := run_make_full (P := P) w 0 t e i zv s hu e1 e2 hsi k k' j.toNat (by rw [e4]; exact h10) h9 (Nat.zero_le _)
    have hj : ((j.toNat : Nat) : Int) = j := Int.toNat_of_nonneg h8
    rw [hj] at r1
    have hzs : zv.cells.size = s := by rw [e5, h4]
    have hmc : (madeCells zv.cells (j.toNat * s)).toList = (List.replicate j.toNat u.cells.toList).flatten := by
      rw [← hzs, made_cells _ (by omega), e6]
    obtain ⟨ow', hd', g1, g2, g3⟩ := S.newRow h0 (v' := .slice (some ⟨w.heap.size, 0, none⟩) j.toNat j.toNat) (w' := w') (e := e) (s := s) (xs := List.replicate j.toNat z) (cells := (madeCells zv.cells (j.toNat * s)).toList)
      (by rw [List.length_replicate]; exact r2) r3 (fun b hb => by
        have hv : (Value.slice (some ⟨w.heap.size, 0, none⟩) j.toNat j.toNat).ownBlock = some b := (by have hb2 := hb; simp [blocksOf, blockOf] at hb2; simp [Value.ownBlock, hb2])
        have := (r2.lt b hv).2
        simp [blocksOf, blockOf] at hb; subst hb; exact ⟨rfl, this⟩) (by rw [hmc]; exact RE_zero (by rw [e6]; exact hzs) e7 (e8 _ _) _) ⟨_, _, _, rfl⟩
    unfold Oper.wp
    have hx : (execOp a.eval ⟨d, .makeSlice t x y, ty, pos, af, gd⟩).run P w = .ok (.value (.slice (some ⟨w.heap.size, 0, none⟩) j.toNat j.toNat)) w' := by
      simp only [execOp, ex, ey, Sem.run_bind, r1, Result.andThen_ok]; rfl
    rw [hx]
    exact hK _ _ ⟨ow', hd', hold.step (p := Ph.of_eq g1.1.1) (fun b hb _ => g1.1.2 b (Nat.lt_of_lt_of_le hb S.below.size)) (fun g _ => congrFun g1.1.1 g), g2.put hn g3⟩
  | appz t tn x y e s ti z kn kq xs j U ls h0 h1 h1' h2 h3 h4 h4' h5 h6 h7 h8 h9 =>
    obtain ⟨i, zv, u, e1, e2, e3, e4, e5, e6, e7, e8⟩ := zeroPV_spec hT h2 h3
    obtain ⟨hu, hs⟩ := tsl_und hT h1
    have hun := tint_und hT h1'
    have hsi := tsz_info hT hs
    rw [e1] at hsi
    simp at hsi
    have hzs : zv.cells.size = s := by rw [e5, h4]
    obtain ⟨cells, b1, b2, b3, S1, b4, b5, b6⟩ := h5.spec S
    obtain ⟨ey, _⟩ := S.v h6
    have hbase := S.below.size
    obtain ⟨v', w', news, r1, r2, r3, r4, r5⟩ : ∃ v' w' news, (Builtin.append_ #[t, tn] ty #[a.eval x, a.eval y]).run P w = .ok v' w' ∧ w'.ownsRow 0 e s v' (xs ++ List.replicate j.toNat z).length (cells ++ news) ∧ w.grownBy w' (blockOf (a.eval x)) ∧
        (∀ b, b ∈ blocksOf v' → b ∈ blocksOf (a.eval x) ∨ b = w.heap.size) ∧ RE ow w s (List.replicate j.toNat z) news := by
      have hbl : (a.eval x).ownBlock = blockOf (a.eval x) := by
        rcases b1.2 with ⟨hb, _⟩ | ⟨g, cap, cur, hb, _⟩
        · exact ownBlock_eq hb
        · exact ownBlock_eq hb
      have hj : ((j.toNat : Nat) : Int) = j := Int.toNat_of_nonneg (by omega)
      obtain ⟨v', w', g1, g2, g3, g4⟩ := run_append_zeros2 (P := P) (w := w) t tn ty e i zv kn kq s ti.bytes hu hun e1 e2 hsi e4 hzs h4' (by rw [← e6]; exact e7) _ _ _ b1 j.toNat (by omega) h8 h9
      rw [hbl] at g3
      rw [hj] at g1
      refine ⟨v', w', _, by rw [ey]; exact g1, by rw [List.length_append, List.length_replicate]; exact g2, g3, g4, ?_⟩
      have hzc : (Builtin.zeroCells zv.cells j.toNat).toList = (List.replicate j.toNat u.cells.toList).flatten := by
        rw [zero_made, made_cells _ (by omega), e6]
      rw [hzc]
      exact RE_zero (by rw [e6]; exact hzs) e7 (e8 _ _) _
    have hlt' : ∀ b, b ∈ blocksOf v' → w0.New b ∧ b < w'.heap.size := by
      intro b hb
      have hv : v'.ownBlock = some b := by
        rcases r2.2 with ⟨hb', _⟩ | ⟨g, cap, cur, hb', _⟩
        · rw [ownBlock_eq hb']; exact (mem_bs hb').1 hb
        · rw [ownBlock_eq hb']; exact (mem_bs hb').1 hb
      refine ⟨?_, (r2.lt b hv).2⟩
      rcases r4 b hb with e' | e'
      · exact (b3 b e').1
      · exact .inl (by rw [e']; exact hbase)
    have hkp : Kp ow w (ow.set fun b => if b ∈ blocksOf v' then true else ow b) w' := by
      refine ⟨r3.size, fun b hb h => ?_, fun b hb h => r3.block b hb (fun e => by rw [(b3 b (mem_of_bo e.symm)).2] at h; cases h)⟩
      show (if b ∈ blocksOf v' then true else ow b) = false
      rw [if_neg]
      · exact h
      · intro e
        rcases r4 b e with e' | e'
        · rw [(b3 b e').2] at h; cases h
        · omega
    have hbel : Kt w0 w w' := ⟨r3.os, r3.tape, r3.output, r3.size, fun k hk hown => r3.block k (Nat.lt_of_lt_of_le hk hbase) (fun e => by
      rcases (b3 k (mem_of_bo e.symm)).1 with h' | h'
      · omega
      · rw [h'] at hown; cases hown)⟩
    have S2 := S1.obj (l := nl) (hv := v') (o := .row e s (xs ++ List.replicate j.toNat z)) hkp hbel
      (fun b hb => by
        show (if b ∈ blocksOf v' then true else ow b) = false
        rw [if_neg]
        · exact S.fresh b (Nat.le_trans r3.size hb)
        · intro e; have := hlt' b e; omega)
      (.inl (by simp [al, b5 nl h0, PO.made])) (.inr rfl)
      ⟨cells ++ news, r2, fun b hb => ⟨(hlt' b hb).1, by show (if b ∈ blocksOf v' then true else ow b) = true; rw [if_pos hb]⟩, (RE.mono hkp _ _ _ b2).append (RE.mono hkp _ _ _ r5)⟩
      (fun j oj b hne hj hl hb => by
        have hbj := ((S1.objs j oj hj).lt hl b hb).1
        have hnb := b6 j oj b hj hl hb
        have hnv : b ∉ blocksOf v' := by
          intro e
          rcases r4 b e with e' | e'
          · exact hnb e'
          · omega
        exact ⟨r3.block b hbj (fun e => hnb (mem_of_bo e.symm)), if_neg hnv, fun _ => hnv⟩)
    have hrun : (execOp a.eval ⟨d, .call ⟨.builtin .append, #[x, y], #[t, tn]⟩, ty, pos, af, gd⟩).run P w = .ok (.value v') w' := by
      simp only [execOp, resolve, invoke, builtin, Sem.run_bind, Sem.run_pure, Result.andThen_ok, List.map_toArray, List.map_cons, List.map_nil, r1]
    unfold Oper.wp
    rw [hrun]
    have hlen : nl < (updM st.m U).length := (List.getElem?_eq_some_iff.1 (b5 nl h0)).1
    have S3 := S2.put hn (x := .srf nl) (v := v') (by
      simp only [RF]
      refine ⟨by rw [al_set_same hlen]; rfl, by rw [upd_same], ?_⟩
      rw [upd_same]
      rcases r2.2 with ⟨hb', _⟩ | ⟨g, cap, cur, hb', _⟩
      · rw [hb']; rfl
      · rw [hb']; rfl)
    refine hK _ _ ⟨ow.set fun b => if b ∈ blocksOf v' then true else ow b, _, hold.step (fun b hb hown => ?_), by simpa only [PS.act, updM_append, updM] using S3⟩
    show (if b ∈ blocksOf v' then true else ow b) = ow b
    rw [if_neg]
    intro e
    rcases (hlt' b e).1 with h' | h'
    · omega
    · rw [h'] at hown; cases hown
  | append t x y e s ti xs ys U ls ks h0 h1 h2 h3 h4 h5 h6 h7 h8 h9 =>
    obtain ⟨i, dd, e1, e2, e3, e4, e5, e6⟩ := hT.info h2
    obtain ⟨hu, hs⟩ := tsl_und hT h1
    have hsi := tsz_info hT hs
    rw [e1] at hsi
    simp at hsi
    obtain ⟨z, hz, e6⟩ := e6 (fun e => by rw [e] at h3; simp at h3; omega)
    have hzl : z.cells.size = s := by
      have := congrArg List.length (zsOk_pv e6).1
      simp at this; omega
    obtain ⟨cells, b1, b2, b3, S1, b4, b5, b6⟩ := h5.spec S
    obtain ⟨ad, cap, y1, y2⟩ := h6.spec S
    have hbase := S.below.size
    obtain ⟨v', w', news, r1, r2, r3, r4, r5⟩ : ∃ v' w' news, (Builtin.append_ #[t, t] ty #[a.eval x, a.eval y]).run P w = .ok v' w' ∧ w'.ownsRow 0 e s v' (xs.length + ys.length) (cells ++ news) ∧ w.grownBy w' (blockOf (a.eval x)) ∧
        (∀ b, b ∈ blocksOf v' → b ∈ blocksOf (a.eval x) ∨ b = w.heap.size) ∧ RE ow w s ys news := by
      have hbl : (a.eval x).ownBlock = blockOf (a.eval x) := by
        rcases b1.2 with ⟨hb, _⟩ | ⟨g, cap, cur, hb, _⟩
        · exact ownBlock_eq hb
        · exact ownBlock_eq hb
      rw [y1]
      rcases y2 with rfl | ⟨b, off, sz, ycells, rfl, y3, y4⟩
      · cases ad with
        | none => exact ⟨_, w, [], run_append_none 0 t ty e i s cap hu e1 _ _ _ b1, by simpa using b1, grownBy_refl _ _, fun b hb => .inl hb, by simp only [RE]⟩
        | some ad =>
          obtain ⟨v', w', g1, g2, g3, g4⟩ := run_append_own2 (P := P) (w := w) 0 t ty e i z s ti.bytes hu e1 hz hsi e4 hzl h4 _ _ _ b1 ad 0 cap [] (by simp) (by simp) (by simp) (by simpa using h8) (by simpa using h9) (Nat.zero_le _)
          rw [hbl] at g3
          exact ⟨v', w', [], g1, g2, g3, g4, by simp only [RE]⟩
      · have y5 := y4.resize h7
        obtain ⟨v', w', g1, g2, g3, g4⟩ := run_append_own2 (P := P) (w := w) 0 t ty e i z s ti.bytes hu e1 hz hsi e4 hzl h4 _ _ _ b1 ⟨b, off, none⟩ ys.length cap ycells y5.length (fun j u hj => by rw [Addr.add_mid]; exact y3 j u hj) y5.one h8 h9 (Nat.zero_le _)
        rw [hbl] at g3
        exact ⟨v', w', ycells, g1, g2, g3, g4, y5⟩
    have hlt' : ∀ b, b ∈ blocksOf v' → w0.New b ∧ b < w'.heap.size := by
      intro b hb
      have hv : v'.ownBlock = some b := by
        rcases r2.2 with ⟨hb', _⟩ | ⟨g, cap, cur, hb', _⟩
        · rw [ownBlock_eq hb']; exact (mem_bs hb').1 hb
        · rw [ownBlock_eq hb']; exact (mem_bs hb').1 hb
      refine ⟨?_, (r2.lt b hv).2⟩
      rcases r4 b hb with e' | e'
      · exact (b3 b e').1
      · exact .inl (by rw [e']; exact hbase)
    have hkp : Kp ow w (ow.set fun b => if b ∈ blocksOf v' then true else ow b) w' := by
      refine ⟨r3.size, fun b hb h => ?_, fun b hb h => r3.block b hb (fun e => by rw [(b3 b (mem_of_bo e.symm)).2] at h; cases h)⟩
      show (if b ∈ blocksOf v' then true else ow b) = false
      rw [if_neg]
      · exact h
      · intro e
        rcases r4 b e with e' | e'
        · rw [(b3 b e').2] at h; cases h
        · omega
    have hbel : Kt w0 w w' := ⟨r3.os, r3.tape, r3.output, r3.size, fun k hk hown => r3.block k (Nat.lt_of_lt_of_le hk hbase) (fun e => by
      rcases (b3 k (mem_of_bo e.symm)).1 with h' | h'
      · omega
      · rw [h'] at hown; cases hown)⟩
    have S2 := S1.obj (l := nl) (hv := v') (o := .row e s (xs ++ ys)) hkp hbel
      (fun b hb => by
        show (if b ∈ blocksOf v' then true else ow b) = false
        rw [if_neg]
        · exact S.fresh b (Nat.le_trans r3.size hb)
        · intro e; have := hlt' b e; omega)
      (.inl (by simp [al, b5 nl h0, PO.made])) (.inr rfl)
      ⟨cells ++ news, by rw [List.length_append]; exact r2, fun b hb => ⟨(hlt' b hb).1, by show (if b ∈ blocksOf v' then true else ow b) = true; rw [if_pos hb]⟩, (RE.mono hkp _ _ _ b2).append (RE.mono hkp _ _ _ r5)⟩
      (fun j oj b hne hj hl hb => by
        have hbj := ((S1.objs j oj hj).lt hl b hb).1
        have hnb := b6 j oj b hj hl hb
        have hnv : b ∉ blocksOf v' := by
          intro e
          rcases r4 b e with e' | e'
          · exact hnb e'
          · omega
        exact ⟨r3.block b hbj (fun e => hnb (mem_of_bo e.symm)), if_neg hnv, fun _ => hnv⟩)
    have hrun : (execOp a.eval ⟨d, .call ⟨.builtin .append, #[x, y], #[t, t]⟩, ty, pos, af, gd⟩).run P w = .ok (.value v') w' := by
      simp only [execOp, resolve, invoke, builtin, Sem.run_bind, Sem.run_pure, Result.andThen_ok, List.map_toArray, List.map_cons, List.map_nil, r1]
    unfold Oper.wp
    rw [hrun]
    have hlen : nl < (updM st.m U).length := (List.getElem?_eq_some_iff.1 (b5 nl h0)).1
    have S3 := S2.put hn (x := .srf nl) (v := v') (by
      simp only [RF]
      refine ⟨by rw [al_set_same hlen]; rfl, by rw [upd_same], ?_⟩
      rw [upd_same]
      rcases r2.2 with ⟨hb', _⟩ | ⟨g, cap, cur, hb', _⟩
      · rw [hb']; rfl
      · rw [hb']; rfl)
    refine hK _ _ ⟨ow.set fun b => if b ∈ blocksOf v' then true else ow b, _, hold.step (fun b hb hown => ?_), by simpa only [PS.act, updM_append, updM] using S3⟩
    show (if b ∈ blocksOf v' then true else ow b) = ow b
    rw [if_neg]
    intro e
    rcases (hlt' b e).1 with h' | h'
    · omega
    · rw [h'] at hown; cases hown
  | sliceR t x lo hi e s l xs h h0 h1 h2 h3 h4 h5 h6 h7 =>
    have hx := S.eval x
    rw [h2] at hx
    simp only [RF] at hx
    obtain ⟨hx0, hx1, _⟩ := hx
    obtain ⟨cells, g1, g2, g3⟩ := S.objs l _ h3
    obtain ⟨ad, nn, cap, hx2⟩ : ∃ ad nn cap, hd l = .slice ad nn cap := by
      rcases g1.2 with ⟨q1, _⟩ | ⟨g, cap', cur, q1, _⟩
      · exact ⟨_, _, _, q1⟩
      · exact ⟨_, _, _, q1⟩
    have hnn : nn = xs.length ∧ xs.length ≤ cap := by
      rcases g1.2 with ⟨q1, q2⟩ | ⟨g, cap', cur, q1, _, _, q4, _⟩
      · rw [hx2] at q1; simp at q1; omega
      · rw [hx2] at q1; simp at q1; obtain ⟨_, rfl, rfl⟩ := q1; exact ⟨rfl, q4⟩
    obtain ⟨rfl, hcap⟩ := hnn
    obtain ⟨hu, hs⟩ := tsl_und hT h1
    have hlo : (match lo.map a.eval with | some v => Instr.sliceBound v h.toNat .sliceB | none => pure 0 : Sem Nat).run P w = .ok 0 w := by
      cases lo with
      | none => rfl
      | some o =>
        simp only [optInt] at h4
        split at h4
        · rename_i k j hj
          simp at h4; subst h4
          obtain ⟨e1, _⟩ := S.v hj
          simp [e1, Instr.sliceBound, asIntOf]
          omega
        · cases h4
    have hhi : (match hi.map a.eval with | some v => Instr.sliceBound v cap .sliceAcap | none => pure xs.length : Sem Nat).run P w = .ok h.toNat w := by
      cases hi with
      | none => simp [optInt] at h5; subst h5; simp
      | some o =>
        simp only [optInt] at h5
        split at h5
        · rename_i k j hj
          simp at h5; subst h5
          obtain ⟨e1, _⟩ := S.v hj
          simp [e1, Instr.sliceBound, asIntOf]
          omega
        · cases h5
    have hb : (Instr.sliceBounds true xs.length cap (lo.map a.eval) (hi.map a.eval) none).run P w = .ok (0, h.toNat, cap) w := by
      unfold Instr.sliceBounds
      cases hl : lo.map a.eval <;> cases hh : hi.map a.eval <;> rw [hl] at hlo <;> rw [hh] at hhi <;> simp_all
    have had : (if cap = 0 then ad else ad.map (·.add (0 * s))) = ad := by
      split
      · rfl
      · cases ad with
        | none => rfl
        | some p => simp [Addr.add]
    have hrun : (execOp a.eval ⟨d, .slice t x lo hi none, ty, pos, af, gd⟩).run P w = .ok (.value (.slice ad h.toNat cap)) w := by
      have := had
      simp only [Nat.zero_mul] at this
      simp [execOp, Instr.sliceAt, Instr.slice, run_underlying hu, hx1, hx2, hb, tsz_run hT hs, this]
    have hlen : (xs.take h.toNat).length = h.toNat := by simp; omega
    obtain ⟨hd', q1, q2, q3⟩ := S.rerow h3 h0 (v' := .slice ad h.toNat cap) (ys := xs.take h.toNat) (cells := cells.take (h.toNat * s)) (by rw [hlen]; exact ownsRow_take g1 hx2 (by omega)) (fun b hb => by rw [hx2]; cases ad <;> simpa [blocksOf, blockOf] using hb) (RE.take _ g3) ⟨_, _, _, rfl⟩
    unfold Oper.wp
    rw [hrun]
    exact hK _ _ ⟨ow, hd', hold, q2.put hn q3⟩
  | bslice0 t parts e s ti h0 h1 h2 h3 h4 =>
    obtain ⟨i, dd, e1, e2, e3, e4, e5, e6⟩ := hT.info h2
    obtain ⟨hu, hs⟩ := tsl_und hT h1
    have hsi := tsz_info hT hs
    rw [e1] at hsi
    simp at hsi
    have hp : parts = #[] := by apply Array.toList_inj.1; simpa using h4
    subst hp
    have hrun : (execOp a.eval ⟨d, .buildSlice t 0 #[], ty, pos, af, gd⟩).run P w = .ok (.value (.slice (some ⟨w.heap.size, 0, none⟩) 0 0)) (w.alloc (.cells #[] e)) := by
      simp [execOp, Instr.buildSlice, run_underlying hu, sizeOf, typeInfo, e1, Instr.fill, newRow, newObj, Sem.run]
      congr 2
      apply Array.toList_inj.1
      simp
    obtain ⟨ow', hd', g1, g2, g3⟩ := S.newRow h0 (v' := .slice (some ⟨w.heap.size, 0, none⟩) 0 0) (w' := w.alloc (.cells #[] e)) (e := e) (s := s) (xs := []) (cells := [])
      (by have := World.ownsRow_lit (base := 0) (e := e) (size := s) w #[] 0 (Nat.zero_le _) (by simp [maxLen]) (by simp); simpa using this) (World.grownBy_alloc w _ none) (fun b hb => by simp [blocksOf, blockOf] at hb; subst hb; simp) (by simp only [RE]) ⟨_, _, _, rfl⟩
    unfold Oper.wp
    rw [hrun]
    exact hK _ _ ⟨ow', hd', hold.step (p := Ph.of_eq g1.1.1) (fun b hb _ => g1.1.2 b (Nat.lt_of_lt_of_le hb S.below.size)) (fun g _ => congrFun g1.1.1 g), g2.put hn g3⟩
  | callH f args tys g cs s τ bs m2 r' h1 h2 h3 h4 h5 h6 h7 h8 =>
    have hf := S.eval f
    obtain ⟨vs, hf1, hf2⟩ : ∃ vs : List Value, a.eval f = .func (.func g) #[] vs.toArray ∧ RFT (al st.m) hd ow w cs vs := by
      unfold cloOf at h1
      split at h1
      · rename_i g' cs' hx
        simp at h1; obtain ⟨rfl, rfl⟩ := h1
        rw [hx] at hf
        simp only [RF, R] at hf
        obtain ⟨vs, e1, e2⟩ := hf
        exact ⟨vs, e1, RFT.of_RFL (RFL.of_RL e2)⟩
      · rename_i g' cs' hx
        simp at h1; obtain ⟨rfl, rfl⟩ := h1
        rw [hx] at hf
        simp only [RF] at hf
        obtain ⟨vs, e1, e2⟩ := hf
        exact ⟨vs, e1, RFT.of_RFL e2⟩
      · cases h1
    unfold Oper.wp
    rw [run_call hf1 h8.1]
    show Calls P g (args.map a.eval ++ vs.toArray) w _
    have harr : args.map a.eval ++ vs.toArray = (args.toList.map a.eval ++ vs).toArray := by
      apply Array.toList_inj.1; simp
    rw [harr]
    refine (S.callH hold (RFT_of_eval S args.toList) hf2 h2 h3 h4 h5 h6 h7 h8).mono fun e w' ⟨v, ow', hd', he, k', S', hr⟩ => ?_
    subst he
    exact hK _ _ ⟨ow', hd', k', S'.put hn hr⟩
  | _ => exact hval (fun c e => by cases e) rfl rfl
theorem updM_get' : ∀ (m : List PO) (U : List (Nat × PO)) (l : Nat), (∀ q ∈ U, q.1 ≠ l) → (updM m U)[l]? = m[l]?
  | m, [], l, _ => rfl
  | m, (k, o) :: U, l, h => by
    simp only [updM]
    rw [updM_get' _ U l fun q hq => h q (by simp [hq]), List.getElem?_set, if_neg (h (k, o) (by simp))]
theorem updM_length' : ∀ (m : List PO) (U : List (Nat × PO)), (updM m U).length = m.length
  | m, [] => rfl
  | m, (l, o) :: U => by simp only [updM]; rw [updM_length']; simp
theorem getD_putF (f : List FV) (d : Option Nat) (x : FV) (i : Nat) : (putF f d x).getD i .dead = if d = some i ∧ i < f.length then x else f.getD i .dead := by
  cases d with
  | none => simp [putF]
  | some k =>
    simp only [putF]
    rw [getD_set]
    by_cases h : i = k ∧ k < f.length
    · rw [if_pos h, if_pos ⟨by rw [h.1], by rw [h.1]; exact h.2⟩]
    · rw [if_neg h, if_neg]
      rintro ⟨e, h2⟩
      cases e
      exact h ⟨rfl, h2⟩
theorem Sim.fzAct {d : Option Nat} {l ty sz : Nat} {xs : List PV} {U1 U2 : List (Nat × PO)} (S : Sim n w0 (st.act d (.srf l) (U1 ++ (l, .row ty sz xs) :: U2)) a w) (hl : l < st.m.length) (h2 : ∀ q ∈ U2, q.1 ≠ l) : Sim n w0 (st.act d (.d (.sl xs)) (U1 ++ (l, .row ty sz xs) :: U2 ++ [(l, .none)])) a w := by
  obtain ⟨ow, hd, hold, S⟩ := S
  have hm : (updM st.m (U1 ++ (l, .row ty sz xs) :: U2))[l]? = some (.row ty sz xs) := by
    rw [updM_append]
    simp only [updM]
    rw [updM_get' _ _ _ h2, List.getElem?_set, if_pos rfl, if_pos (by rw [updM_length']; exact hl)]
  have hR := RO.row_rest (S.objs l _ hm)
  have hlt : l < (updM st.m (U1 ++ (l, .row ty sz xs) :: U2)).length := by rw [updM_length']; exact hl
  have hst : st.act d (.d (.sl xs)) (U1 ++ (l, .row ty sz xs) :: U2 ++ [(l, .none)]) = ⟨putF st.f d (.d (.sl xs)), (updM st.m (U1 ++ (l, .row ty sz xs) :: U2)).set l .none⟩ := by
    simp only [PS.act, updM_append (m := st.m) (V := [(l, PO.none)])]; rfl
  rw [hst]
  refine ⟨_, hd, S.gone_keep hm rfl hold, S.gone (C := fun _ _ _ _ => True) (st' := ⟨putF st.f d (.d (.sl xs)), (updM st.m (U1 ++ (l, .row ty sz xs) :: U2)).set l .none⟩) hm rfl trivial (by simp [PS.act]) (by simp [List.getElem?_set, hlt]) (fun i u hu => ?_) (fun j o o' hne ho ho' => ?_)⟩
  · have hu : RF _ hd _ w ((putF st.f d (.srf l)).getD i .dead) u := hu
    show RF _ hd _ w ((putF st.f d (.d (.sl xs))).getD i .dead) u
    rw [getD_putF] at hu ⊢
    split
    · rename_i hi
      rw [if_pos hi] at hu
      simp only [RF] at hu ⊢
      rw [hu.2.1]; exact hR
    · rename_i hi
      rw [if_neg hi] at hu
      exact hu
  · rw [List.getElem?_set, if_neg (Ne.symm hne)] at ho'
    have ho : (updM st.m (U1 ++ (l, .row ty sz xs) :: U2))[j]? = some o := ho
    rw [ho] at ho'
    cases ho'
    exact ImO.refl _
theorem Sim.cpAct {d : Option Nat} {l : Nat} {xs : List PV} {e s k nl : Nat} (S : Sim n w0 (st.act d (.ssl l 0 k s) []) a w) (h1 : st.m[l]? = some (.row e s xs)) (h2 : st.m[nl]? = some .free) (h3 : k ≤ xs.length) : Sim n w0 (st.act d (.srf nl) [(l, .none), (nl, .row e s (xs.take k))]) a w := by
  obtain ⟨ow, hd, hold, S⟩ := S
  have h1 : (st.act d (.ssl l 0 k s) []).m[l]? = some (.row e s xs) := h1
  have h2 : (st.act d (.ssl l 0 k s) []).m[nl]? = some .free := h2
  obtain ⟨cells, g1, g2, g3⟩ := S.objs l _ h1
  have hsl : ∃ ad cap, hd l = .slice ad xs.length cap ∧ xs.length ≤ cap := by
    rcases g1.2 with ⟨q1, q2⟩ | ⟨g, cap', cur, q1, _, _, q4, _⟩
    · exact ⟨none, 0, by rw [q1, q2], by omega⟩
    · exact ⟨_, _, q1, q4⟩
  obtain ⟨ad, cap, hx2, hcap⟩ := hsl
  have hlen : (xs.take k).length = k := by simp; omega
  obtain ⟨hd', q1, q2, q3⟩ := S.rerow h1 h2 (v' := .slice ad k cap) (ys := xs.take k) (cells := cells.take (k * s)) (by rw [hlen]; exact ownsRow_take g1 hx2 (by omega)) (fun b hb => by rw [hx2]; cases ad <;> simpa [blocksOf, blockOf] using hb) (RE.take _ g3) ⟨_, _, _, rfl⟩
  refine ⟨ow, hd', hold, { q2.toSimH with defers := q2.defers, size := q2.size, slots := fun i => ?_ }⟩
  have hs2 := q2.slots i
  have hs2 : RF _ hd' ow w ((putF st.f d (.ssl l 0 k s)).getD i .dead) _ := hs2
  show RF _ hd' ow w ((putF st.f d (.srf nl)).getD i .dead) _
  have hs := S.slots i
  have hs : RF _ hd ow w ((putF st.f d (.ssl l 0 k s)).getD i .dead) _ := hs
  rw [getD_putF] at hs hs2 ⊢
  split
  · rename_i hi
    rw [if_pos hi] at hs
    simp only [RF] at hs
    obtain ⟨_, ad', nn, cap', hx2', _, hkc, hu⟩ := hs
    rw [hx2] at hx2'
    cases hx2'
    have had : (if cap = 0 then ad else ad.map (·.add (0 * s))) = ad := by
      split
      · rfl
      · cases ad with
        | none => rfl
        | some p => simp [Addr.add]
    rw [had, Nat.sub_zero, Nat.sub_zero] at hu
    rw [hu]; exact q3
  · rename_i hi
    rw [if_neg hi] at hs2
    exact hs2
theorem act_wp (hT : TOk P T) (S : Sim n w0 st a w) {o : Oper} {r : FV} {U : List (Nat × PO)} {F : List Nat} {nl : Nat} (hn : ∀ k, o.dst = some k → k < n)
    (h : PAct P T (ev st.f) st.m nl o.op r U F) {K : Act → World → Prop} {Q : Exit → Act → World → Prop} (hK : ∀ a' w', Sim n w0 (st.act o.dst r U) a' w' → K a' w') : o.wp P a w K Q := by
  obtain ⟨d, op, ty, pos, af, gd⟩ := o
  simp only at h hn hK
  induction h generalizing K with
  | base h => exact act0_wp (o := ⟨d, _, ty, pos, af, gd⟩) hT S hn h hK
  | ext h1 h2 h3 => exact h3 n w0 st a w ⟨d, _, ty, pos, af, gd⟩ hT S rfl hn rfl h1 K Q hK
  | fz h1 h2 _ ih => exact ih fun a' w' S' => hK a' w' (S'.fzAct h1 h2)
  | cp h1 h2 h3 _ ih => exact ih fun a' w' S' => hK a' w' (S'.cpAct h1 h2 h3)
end
end Go.Proofs.YtnkdanobhgofbaaGreatDoor.pv
