/- Memory: new variables, stores, append, calls; the one theorem on acts. -/
import Derived.Test.YtccmjndnjpjohaaRQf
import Derived.Great.BuildSlice
namespace Go.Proofs.YtccmjndnjpjohaaR.pv
set_option linter.all false
open Go.RowKit

section
variable {P : Program} {T : List TI} {n : Nat} {w0 : World} {ow0 : Nat → Bool} {st : PS} {a : Act} {w : World} {ow : Nat → Bool} {hd : Nat → Value}

theorem RT.append {xs ys : List PV} {us vs : List Value} (h : RT ow w xs us) (h' : RT ow w ys vs) : RT ow w (xs ++ ys) (us ++ vs) := by
  induction xs generalizing us with
  | nil => simp only [RT] at h; subst h; simpa using h'
  | cons x xs ih =>
    simp only [RT] at h
    obtain ⟨v, r, e, h1, h2⟩ := h
    subst e
    simp only [List.cons_append, RT]
    exact ⟨v, r ++ vs, rfl, h1, ih h2⟩
theorem RT_of_RL : ∀ {xs : List PV} {us : List Value}, RL ow w xs us → RT ow w xs us
  | [], us, h => by simp only [RL] at h; simp [RT, h]
  | x :: xs, us, h => by
    simp only [RL] at h
    obtain ⟨v, r, e, h1, _, h2⟩ := h
    simp only [RT]
    exact ⟨v, r, e, h1, RT_of_RL h2⟩
theorem RT_of_args (S : SimW n w0 st a w ow hd) : ∀ (args : List Operand) (ps : List PV), args.map (ev st.f) = ps.map FV.d → RT ow w ps (args.map a.eval)
  | [], [], _ => by simp [RT]
  | x :: xs, p :: ps, h => by
    simp only [List.map_cons, List.cons.injEq] at h
    simp only [List.map_cons, RT]
    exact ⟨_, _, rfl, S.d h.1, RT_of_args S xs ps h.2⟩
  | [], _ :: _, h => by simp at h
  | _ :: _, [], h => by simp at h
theorem RFT_of_eval (S : SimW n w0 st a w ow hd) : ∀ (args : List Operand), RFT (al st.m) hd ow w (args.map (ev st.f)) (args.map a.eval)
  | [] => by simp [RFT]
  | x :: xs => by
    simp only [List.map_cons, RFT]
    exact ⟨_, _, rfl, S.eval x, RFT_of_eval S xs⟩
theorem run_call {f : Operand} {args : Array Operand} {tys : Array Nat} {g : FuncId} {vs : Array Value} (hf : a.eval f = .func (.func g) #[] vs) (hg : FnOk P g) (d : Option Nat) (ty : TypeId) (pos : String) (af : Array Edge) (gd : Option (Nat × Bool)) :
    (execOp a.eval ⟨d, .call ⟨.value f, args, tys⟩, ty, pos, af, gd⟩).run P w = .ok (.enter g (args.map a.eval ++ vs)) w := by
  obtain ⟨fn, h1, h2, h3⟩ := hg
  simp [execOp, resolve, Deferred.ofValue, hf, invoke, callFunc, h1]
  rw [if_neg (by simpa using h2), if_neg (by cases hb : fn.body <;> simp [hb] at h3 ⊢)]
/-- a slice's elements, as the machine has them -/
theorem Els.spec (S : SimW n w0 st a w ow hd) {x : Operand} {xs : List PV} {ls : List Nat} (h : Els st.m (ev st.f x) xs ls) :
    ∃ (ad : Option Addr) (cap : Nat), a.eval x = .slice ad xs.length cap ∧ (xs = [] ∨ ∃ (b off sz : Nat) (cells : List Value), ad = some ⟨b, off, none⟩ ∧ w.rangeAt b off cells ∧ RE ow w sz xs cells) := by
  generalize hx : ev st.f x = fx at h
  cases h with
  | sl =>
    have := S.d hx
    simp only [R] at this
    obtain ⟨ad, cap, e, _, _, h⟩ := this
    refine ⟨ad, cap, e, ?_⟩
    rcases h with h | ⟨b, off, sz, cells, h1, _, _, h2, h3⟩
    · exact .inl h
    · exact .inr ⟨b, off, sz, cells, h1, h2, h3⟩
  | nil =>
    have := S.d hx
    simp only [vnil, R] at this
    exact ⟨none, 0, this.1, .inl rfl⟩
  | row l ty sz xs hm =>
    have := S.eval x
    rw [hx] at this
    simp only [RF] at this
    obtain ⟨cells, ⟨h1, h1'⟩, h2, h3⟩ := S.objs l _ hm
    rw [this.2.1]
    rcases h1' with ⟨e2, e3⟩ | ⟨gb, cap, cur, e2, e3, e4, e5, e6, e7, e8⟩
    · exact ⟨none, 0, by rw [e2, e3], .inl (List.eq_nil_of_length_eq_zero e3)⟩
    · refine ⟨_, cap, e2, .inr ⟨gb, 0, sz, cells, rfl, fun j v hv => ?_, h3⟩⟩
      rw [← e8, List.getElem?_take] at hv
      split at hv
      · unfold World.cell?
        simp only [e4]
        simpa using hv
      · cases hv
theorem Kp.of_grown {w' : World} {row : Option Nat} (hg : w.grownBy w' row) (hr : ∀ b, row = some b → ow b = true) (ow' : Nat → Bool) (ho : ∀ b, b < w.heap.size → ow' b = ow b) : Kp ow w ow' w' :=
  ⟨hg.size, fun b hb h => by rw [ho b hb]; exact h, fun b hb h => hg.block b hb (fun e => by rw [hr b e.symm] at h; cases h)⟩
theorem ownBlock_eq {v : Value} {ad : Option Addr} {n c : Nat} (h : v = .slice ad n c) : v.ownBlock = blockOf v := by subst h; cases ad <;> rfl

theorem run_append_own2 (base : Nat) (t ty e : TypeId) (i : TypeInfo) (z : Value) (size bytes : Nat) (ht : P.underlying t = some (.slice e)) (hi : P.info? e = some i) (hz : i.zero = some z)
    (hsize : i.size = size) (hby : i.bytes = bytes) (hzs : z.cells.size = size) (hsz : 0 < size)
    (v : Value) (n : Nat) (xs : List Value) (hown : w.ownsRow base e size v n xs)
    (ad : Addr) (m c : Nat) (news : List Value) (hl : news.length = m * size) (hnews : ∀ j u, news[j]? = some u → w.cell? (ad.add j) = some u) (h1 : ∀ u ∈ news, u.oneCell' = true)
    (h63 : n + m ≤ maxLen) (hbytes : (n + m) * bytes ≤ 140737488355328) (hbase : base ≤ w.heap.size) :
    ∃ v' w', (Builtin.append_ #[t, t] ty #[v, .slice (some ad) m c]).run P w = .ok v' w' ∧ w'.ownsRow base e size v' (n + m) (xs ++ news) ∧ w.grownBy w' v.ownBlock ∧
      (∀ b, blockOf v' = some b → blockOf v = some b ∨ b = w.heap.size) := by
  obtain ⟨v', w', hr, h2, h3, h4⟩ := run_append_own (P := P) w base t ty e i z size bytes ht hi hz hsize hby hzs hsz v n xs hown ad m c news hl hnews h1 h63 hbytes hbase
  refine ⟨v', w', hr, h2, h3, fun b hb => ?_⟩
  subst hsize hby
  have hsmall : n + m ≤ 9223372036854775807 := by simp only [maxLen] at h63; omega
  rcases hown.2 with ⟨rfl, rfl⟩ | ⟨g, cap, cur, rfl, _, hg, hnc, hcm, hcs, htake⟩
  · by_cases hm : m = 0
    · rw [(h4.2 ⟨rfl, hm⟩)] at hb; simp [blockOf] at hb
    · have := run_append_nil (P := P) w t ty e i z ht hi hz ad m c news hl hnews (by omega) (by omega) (by rw [Nat.zero_add] at hbytes; omega)
      rw [hr] at this
      simp at this
      rw [this.1] at hb
      simp [blockOf] at hb
      exact .inr hb.symm
  · by_cases hroom : n + m ≤ cap
    · have hfit : n * i.size + news.length ≤ cur.size := by rw [hl, hcs, ← Nat.add_mul]; exact Nat.mul_le_mul_right _ hroom
      have := run_append_room (P := P) w t ty e i ht hi g n cap cur hg ad m c news hl hnews h1 hroom hfit
      rw [hr] at this
      simp at this
      rw [this.1] at hb
      simp [blockOf] at hb
      subst hb
      exact .inl rfl
    · have holds : ∀ j u, xs[j]? = some u → w.cell? ((⟨g, 0, none⟩ : Addr).add j) = some u := hown.cells (g := g) rfl
      have := run_append_grow (P := P) w t ty e i z ht hi hz ⟨g, 0, none⟩ n cap xs hown.1 holds ad m c news hl hnews (by omega) (by omega) (growslice_fits (by omega) hbytes)
      rw [hr] at this
      simp at this
      rw [this.1] at hb
      simp [blockOf] at hb
      exact .inr hb.symm
theorem grownBy_refl (w : World) (row : Option Nat) : w.grownBy w row := ⟨rfl, rfl, rfl, Nat.le_refl _, fun _ _ _ => rfl⟩
theorem updM_append (m : List PO) : ∀ (U V : List (Nat × PO)), updM m (U ++ V) = updM (updM m U) V
  | [], V => rfl
  | (l, o) :: U, V => by simp only [List.cons_append, updM]; exact updM_append _ U V
/-- what is appended to -/
theorem Base.spec (S : SimW n w0 st a w ow hd) {x : Operand} {e s : Nat} {xs : List PV} {U : List (Nat × PO)} {ls : List Nat} (h : Base st.m e s (ev st.f x) xs U ls) :
    ∃ cells : List Value, w.ownsRow w0.heap.size e s (a.eval x) xs.length cells ∧ RE ow w s xs cells ∧ (∀ b, blockOf (a.eval x) = some b → ow b = true) ∧ SimW n w0 ⟨st.f, updM st.m U⟩ a w ow hd ∧
      (∀ l : Nat, st.m[l]? = some PO.free → (updM st.m U)[l]? = some PO.free) ∧ (∀ j oj b, (updM st.m U)[j]? = some oj → oj.live = true → blockOf (hd j) = some b → blockOf (a.eval x) ≠ some b) := by
  generalize hx : ev st.f x = fx at h
  cases h with
  | nil =>
    have := S.d hx
    simp only [vnil, R] at this
    refine ⟨[], by rw [this.1]; exact World.ownsRow_nil _ _ _ _, by simp only [RE], fun b hb => ?_, S, fun l h => h, fun j oj b _ _ _ hb => ?_⟩
    · rw [this.1] at hb; simp [blockOf] at hb
    · rw [this.1] at hb; simp [blockOf] at hb
  | row l xs hm =>
    have := S.eval x
    rw [hx] at this
    simp only [RF] at this
    obtain ⟨_, e1, _⟩ := this
    obtain ⟨cells, h1, h2, h3⟩ := S.objs l _ hm
    rw [← e1] at h1 h2
    refine ⟨cells, h1, h3, h2, S.kill l, fun l' hl' => ?_, fun j oj b hj hl hb => ?_⟩
    · simp only [updM]
      rw [List.getElem?_set, if_neg]
      · exact hl'
      · intro e; subst e; rw [hm] at hl'; cases hl'
    · obtain ⟨hj', hne⟩ := kill_live hj hl
      rw [e1]
      exact fun hb' => S.dist j l oj _ b hne hj' hm hl rfl hb hb'

theorem elem_cells {b p sz : Nat} {cur : Array Value} {ty : TypeId} {u : Value} (hb : w.heap[b]? = some (.cells cur ty (0, 0))) (hp : p + sz ≤ cur.size) (h : w.rangeAt b p u.cells.toList) (hu : u.cells.size = sz) : (cur.toList.drop p).take sz = u.cells.toList := by
  apply List.ext_getElem?
  intro j
  rw [List.getElem?_take, List.getElem?_drop]
  by_cases hj : j < sz
  · rw [if_pos hj]
    have hl : j < u.cells.toList.length := by simpa [hu] using hj
    have := h j _ (List.getElem?_eq_getElem hl)
    rw [List.getElem?_eq_getElem hl, ← this]
    unfold World.cell?
    simp only [hb]
    simp
  · rw [if_neg hj, List.getElem?_eq_none (by simpa [hu] using hj)]
theorem row_lists {cur new : List Value} {u : List Value} {p sz off N : Nat} (h1 : p + sz ≤ N) (h2 : off + new.length ≤ sz) (hN : N ≤ cur.length) (hu : (cur.drop p).take sz = u) :
    (cur.take (p + off) ++ new ++ cur.drop (p + off + new.length)).take N = (cur.take N).take p ++ (u.take off ++ new ++ u.drop (off + new.length)) ++ (cur.take N).drop (p + sz) := by
  subst hu
  apply List.ext_getElem?
  intro j
  simp only [List.getElem?_take, List.getElem?_append, List.getElem?_drop, List.length_append, List.length_take, List.length_drop]
  have e1 : min (p + off) cur.length = p + off := by omega
  have e2 : min N cur.length = N := by omega
  have e3 : min p N = p := by omega
  have e4 : min off sz = off := by omega
  have e5 : min sz (cur.length - p) = sz := by omega
  simp only [e1, e2, e3, e4, e5]
  rcases Nat.lt_or_ge j N with c1 | c1
  · rcases Nat.lt_or_ge j p with c2 | c2
    · simp [c1, c2, show j < p + off by omega, show j < p + off + new.length by omega, show j < p + (off + new.length + (sz - (off + new.length))) by omega]
    · rcases Nat.lt_or_ge j (p + off) with c3 | c3
      · simp [c1, show ¬ j < p by omega, c3, show j < p + off + new.length by omega, show j < p + (off + new.length + (sz - (off + new.length))) by omega, show j - p < off by omega, show j - p < off + new.length by omega, show j - p < sz by omega, show p + (j - p) = j by omega]
      · rcases Nat.lt_or_ge j (p + off + new.length) with c4 | c4
        · simp [c1, show ¬ j < p by omega, show ¬ j < p + off by omega, c4, show j < p + (off + new.length + (sz - (off + new.length))) by omega, show ¬ j - p < off by omega, show j - p < off + new.length by omega, show j - (p + off) = j - p - off by omega]
        · rcases Nat.lt_or_ge j (p + sz) with c5 | c5
          · simp [c1, show ¬ j < p by omega, show ¬ j < p + off + new.length by omega, show j < p + (off + new.length + (sz - (off + new.length))) by omega, show ¬ j - p < off + new.length by omega]
            rw [if_pos (by omega)]; congr 1; omega
          · simp [c1, show ¬ j < p by omega, show ¬ j < p + off + new.length by omega, show ¬ j < p + (off + new.length + (sz - (off + new.length))) by omega]
            rw [if_pos (by omega)]; congr 1; omega
  · rw [if_neg (by omega), if_neg (by omega)]
    split
    · omega
    · rfl
/-- a new row -/
theorem SimW.newRow (S : SimW n w0 st a w ow hd) {l : Nat} (hl : st.m[l]? = some .free) {v' : Value} {w' : World} {e s : Nat} {xs : List PV} {cells : List Value} (hown : w'.ownsRow w0.heap.size e s v' xs.length cells) (hg : w.grownBy w' none)
    (hb : ∀ b, blockOf v' = some b → b = w.heap.size ∧ b < w'.heap.size) (he : RE ow w s xs cells) (hsl : ∃ ad n c, v' = .slice ad n c) :
    ∃ ow' hd', (∀ b, b < w0.heap.size → ow' b = ow b) ∧ SimW n w0 ⟨st.f, st.m.set l (.row e s xs)⟩ a w' ow' hd' ∧ RF (al (st.m.set l (.row e s xs))) hd' ow' w' (.srf l) v' := by
  have hbase := S.below.size
  have hkp : Kp ow w (fun b => if blockOf v' = some b then true else ow b) w' := by
    refine ⟨hg.size, fun b hlt h => ?_, fun b hlt h => hg.block b hlt (fun e => by cases e)⟩
    show (if blockOf v' = some b then true else ow b) = false
    rw [if_neg]
    · exact h
    · intro e; have := hb b e; omega
  have hbel : Below w0.heap.size w w' := (Below.refl _ _).grown hg hbase (fun k hk => by cases hk)
  have hlen : l < st.m.length := (List.getElem?_eq_some_iff.1 hl).1
  have S2 := S.obj (l := l) (hv := v') (o := .row e s xs) hkp hbel
    (fun b hlt => by
      show (if blockOf v' = some b then true else ow b) = false
      rw [if_neg]
      · exact S.fresh b (Nat.le_trans hg.size hlt)
      · intro e; have := hb b e; omega)
    (.inl (by simp [al, hl, PO.made])) rfl
    ⟨cells, hown, fun b hlt => by show (if blockOf v' = some b then true else ow b) = true; rw [if_pos hlt], RE.mono hkp _ _ _ he⟩
    (fun j oj b hne hj hlv hbk => by
      have hbj := ((S.objs j oj hj).lt hlv b hbk).1
      have hnv : blockOf v' ≠ some b := by
        intro e; have := hb b e; omega
      exact ⟨hg.block b hbj (fun e => by cases e), if_neg hnv, fun _ => hnv⟩)
  refine ⟨_, _, fun b hlt => ?_, S2, ?_⟩
  · show (if blockOf v' = some b then true else ow b) = ow b
    rw [if_neg]
    intro e; have := hb b e; omega
  · simp only [RF]
    refine ⟨by rw [al_set_same hlen]; rfl, by rw [upd_same], ?_⟩
    rw [upd_same]; exact hsl
theorem fill_seq (s : Nat) : ∀ (us : List Value) (k : Nat) (base : Array Value), (∀ u ∈ us, u.cells.size = s) → (k + us.length) * s ≤ base.size →
    ∃ out : Array Value, Instr.fill (fun i => some (i * s, s)) base ((us.zipIdx k).map fun q => (q.2, q.1)) = some out ∧ out.toList = base.toList.take (k * s) ++ (us.flatMap fun u => u.cells.toList) ++ base.toList.drop ((k + us.length) * s)
  | [], k, base, h, hl => ⟨base, rfl, by simp⟩
  | u :: us, k, base, h, hl => by
    have hu := h u (by simp)
    simp only [List.length_cons] at hl
    have hmul : (k + (us.length + 1)) * s = k * s + (s + us.length * s) := by rw [Nat.add_mul, Nat.succ_mul]; omega
    have hf := foldl_set (k * s) u.cells.toList 0 base (by simp; omega)
    simp only [Nat.add_zero, Array.length_toList] at hf
    have hfold : (u.cells.zipIdx.foldl (fun cs (c, j) => cs.setIfInBounds (k * s + j) c) base).toList = base.toList.take (k * s) ++ u.cells.toList ++ base.toList.drop (k * s + u.cells.size) := by
      rw [← Array.foldl_toList, Array.toList_zipIdx]; exact hf
    have hsz : (u.cells.zipIdx.foldl (fun cs (c, j) => cs.setIfInBounds (k * s + j) c) base).size = base.size := by
      rw [← Array.length_toList, hfold]; simp; omega
    obtain ⟨out, h1, h2⟩ := fill_seq s us (k + 1) (u.cells.zipIdx.foldl (fun cs (c, j) => cs.setIfInBounds (k * s + j) c) base) (fun v hv => h v (by simp [hv])) (by rw [hsz, show k + 1 + us.length = k + (us.length + 1) by omega]; exact hl)
    refine ⟨out, ?_, ?_⟩
    · simp only [List.zipIdx_cons, List.map_cons, Instr.fill]
      rw [if_neg (by simp; omega)]
      exact h1
    · rw [h2, hfold, List.flatMap_cons, List.length_cons]
      have e1 : (k + 1) * s = k * s + s := Nat.succ_mul k s
      have e2 : (k + 1 + us.length) * s = k * s + (s + us.length * s) := by rw [← hmul]; congr 1; omega
      rw [e1, e2, hmul, hu]
      have hlt : (base.toList.take (k * s)).length = k * s := by simp; omega
      have hlu : u.cells.toList.length = s := by simpa using hu
      rw [List.take_append, List.drop_append]
      simp only [List.length_append, hlt, hlu]
      rw [List.take_of_length_le (l := base.toList.take (k * s) ++ u.cells.toList) (by simp only [List.length_append, hlt, hlu]; omega), List.drop_of_length_le (l := base.toList.take (k * s) ++ u.cells.toList) (by simp only [List.length_append, hlt, hlu]; omega)]
      simp only [Nat.sub_self, List.take_zero, List.append_nil, List.nil_append, List.drop_drop]
      rw [show k * s + s + (k * s + (s + us.length * s) - (k * s + s)) = k * s + (s + us.length * s) by omega]
      simp
theorem RE_of_RT {s : Nat} : ∀ {xs : List PV} {us : List Value}, RT ow w xs us → xs.all (fits s) = true → RE ow w s (xs.map nsl) (us.flatMap fun u => u.cells.toList) ∧ ∀ u ∈ us, u.cells.size = s
  | [], us, h, _ => by simp only [RT] at h; subst h; simp [RE]
  | x :: xs, us, h, hf => by
    simp only [RT] at h
    obtain ⟨u, r, rfl, h1, h2⟩ := h
    simp only [List.all_cons, Bool.and_eq_true] at hf
    obtain ⟨t1, t2⟩ := fits_spec hf.1
    obtain ⟨i1, i2⟩ := RE_of_RT h2 hf.2
    have hsz := R.size h1 t1
    simp only [List.map_cons, List.flatMap_cons, RE]
    refine ⟨⟨u, _, rfl, by rw [hsz, t2], RL.one (R.cells h1 t1), R.nsl _ _ h1, i1⟩, ?_⟩
    intro v hv
    simp only [List.mem_cons] at hv
    rcases hv with rfl | hv
    · rw [hsz, t2]
    · exact i2 v hv
theorem made_cells (z : Array Value) (hz : 0 < z.size) : ∀ n : Nat, (madeCells z (n * z.size)).toList = (List.replicate n z.toList).flatten
  | 0 => by simp [madeCells]
  | n + 1 => by
    have ih := made_cells z hz n
    simp only [madeCells, Array.toList_map, Array.toList_range] at ih ⊢
    rw [Nat.succ_mul, Nat.add_comm, List.range_add, List.map_append, List.replicate_succ, List.flatten_cons, ← ih]
    congr 1
    · apply List.ext_getElem (by simp)
      intro i h1 h2
      simp at h1 h2
      simp [Nat.mod_eq_of_lt h1, h1]
    · simp
theorem RE_zero {s : Nat} {z : PV} {u : Value} (hu : u.cells.size = s) (h1 : ∀ v ∈ u.cells.toList, v.oneCell' = true) (hr : R ow w z u) : ∀ n : Nat, RE ow w s (List.replicate n z) (List.replicate n u.cells.toList).flatten
  | 0 => by simp [RE]
  | n + 1 => by
    simp only [List.replicate_succ, List.flatten_cons, RE]
    exact ⟨u, _, rfl, hu, h1, hr, RE_zero hu h1 hr n⟩
theorem zeroPV_spec (hT : TOk P T) {t : Nat} {ti : TI} {z : PV} (ht : T[t]? = some ti) (hz : zeroPV ti = some z) : ∃ (i : TypeInfo) (zv u : Value), P.info? t = some i ∧ i.zero = some zv ∧ i.size = ti.size ∧ i.bytes = ti.bytes ∧ zv.cells.size = ti.zero.length ∧ u.cells = zv.cells ∧ (∀ v ∈ u.cells.toList, v.oneCell' = true) ∧ ∀ (ow : Nat → Bool) (w : World), R ow w z u := by
  have hne : ti.zero ≠ [] := by intro e; unfold zeroPV at hz; rw [e] at hz; cases h : ti.kind.agg <;> simp [h] at hz
  obtain ⟨i, d, h1, h2, h3, h4, h5, h6⟩ := hT.info ht
  obtain ⟨zv, h7, h8⟩ := h6 hne
  obtain ⟨h9, h10⟩ := zsOk_pv h8
  have hlen : zv.cells.size = ti.zero.length := by
    have := congrArg List.length h9
    simpa using this
  unfold zeroPV at hz
  split at hz
  · rename_i a zz zs hk hzz
    simp only [Option.some.injEq] at hz
    subst hz
    refine ⟨i, zv, .agg zv.cells, h1, h7, h3, h4, hlen, rfl, h10, fun ow w => ?_⟩
    have : R ow w (.agg ((zz :: zs).map Z.pv)) (.agg zv.cells) := by
      simp only [R]
      refine ⟨zv.cells.toList, by simp, ?_⟩
      have := ofCells_RL (ow := ow) (w := w) _ h10
      rw [h9, hzz] at this
      exact this
    simpa only [pv.nsl] using R.nsl _ _ this
  · rename_i a zz hk hzz
    simp only [Option.some.injEq] at hz
    subst hz
    rw [hzz] at h9 hlen
    have hl1 : zv.cells.toList.length = 1 := by simpa using hlen
    obtain ⟨c, hc⟩ := List.length_eq_one_iff.1 hl1
    rw [hc] at h9 h10
    simp at h9
    have hone := h10 c (by simp)
    have hcc : c.cells = #[c] := by cases c <;> simp_all [Value.cells, Value.oneCell']
    have hzc : zv.cells = #[c] := by apply Array.toList_inj.1; simpa using hc
    refine ⟨i, zv, c, h1, h7, h3, h4, by rw [hlen, hzz], by rw [hcc, hzc], by rw [hcc]; simpa using hone, fun ow w => ?_⟩
    rw [← h9]
    exact R.nsl _ _ (ofCell_R hone)
  · cases hz
/-- THE ACTS: each is what the machine does -/
theorem act_wp (hT : TOk P T) (S : Sim n w0 ow0 st a w) {o : Oper} {r : FV} {U : List (Nat × PO)} {F : List Nat} {nl : Nat} (hn : ∀ k, o.dst = some k → k < n)
    (h : PAct P T (ev st.f) st.m nl o.op r U F) {K : Act → World → Prop} {Q : Exit → Act → World → Prop} (hK : ∀ a' w', Sim n w0 ow0 (st.act o.dst r U) a' w' → K a' w') : o.wp P a w K Q := by
  obtain ⟨ow, hd, hold, S⟩ := S
  obtain ⟨d, op, ty, pos, af, gd⟩ := o
  have hval : (∀ c, op ≠ .call c) → U = [] → Oper.wp P ⟨d, op, ty, pos, af, gd⟩ a w K Q := by
    intro h1 h2
    obtain ⟨v, hv, hr⟩ := act_val (d := d) (ty := ty) (pos := pos) (af := af) (gd := gd) hT S h h1 h2
    refine wp_val hv (hK _ _ ⟨ow, hd, hold, ?_⟩)
    subst h2
    exact S.put hn hr
  have hcall : ∀ (f : Operand) (args : Array Operand) (tys : Array Nat) (g : FuncId) (caps ps : List PV) (r' : PV), op = .call ⟨.value f, args, tys⟩ → r = .d r' → U = [] → Ret P g (nslL ps ++ caps) r' →
      ((ev st.f f = .d (.clo g caps) ∧ RT ow w ps (args.toList.map a.eval)) ∨ (R (fun _ => false) w (.clo g caps) (a.eval f) ∧ RT (fun _ => false) w ps (args.toList.map a.eval) ∧ flat r' = true)) → Oper.wp P ⟨d, op, ty, pos, af, gd⟩ a w K Q := by
    intro f args tys g caps ps r' e1 e2 e3 hret hargs
    subst e1 e2 e3
    rcases hargs with ⟨hf, hargs⟩ | ⟨hf, hargs, hfl⟩
    · have hc := S.d hf
      simp only [R] at hc
      obtain ⟨vs, hc1, hc2⟩ := hc
      unfold Oper.wp
      rw [run_call hc1 hret.1]
      show Calls P g (args.map a.eval ++ vs.toArray) w _
      have harr : args.map a.eval ++ vs.toArray = (args.toList.map a.eval ++ vs).toArray := by
        apply Array.toList_inj.1; simp
      rw [harr]
      refine (hret.2 ow w _ S.fresh ((RT.nsl _ _ hargs).append (RT_of_RL hc2))).mono fun e w' ⟨v, he, hb, hr⟩ => ?_
      subst he
      exact hK _ _ ⟨ow, hd, hold, (S.later hb).put hn (x := .d r') (by simpa only [RF] using hr)⟩
    · simp only [R] at hf
      obtain ⟨vs, hc1, hc2⟩ := hf
      unfold Oper.wp
      rw [run_call hc1 hret.1]
      show Calls P g (args.map a.eval ++ vs.toArray) w _
      have harr : args.map a.eval ++ vs.toArray = (args.toList.map a.eval ++ vs).toArray := by
        apply Array.toList_inj.1; simp
      rw [harr]
      refine (hret.2 (fun _ => false) w _ (fun _ _ => rfl) ((RT.nsl _ _ hargs).append (RT_of_RL hc2))).mono fun e w' ⟨v, he, hb, hr⟩ => ?_
      subst he
      exact hK _ _ ⟨ow, hd, hold, (S.later hb).put hn (x := .d r') (by simp only [RF]; exact R.flat _ _ hfl hr)⟩
  have hpub : Kp ow w (fun _ => false) w := ⟨Nat.le_refl _, fun _ _ _ => rfl, fun _ _ _ => rfl⟩
  cases h with
  | alloc e ti h0 h1 h2 =>
    obtain ⟨i, dd, e1, e2, e3, e4, e5, e6⟩ := hT.info h1
    obtain ⟨z, hz, e6⟩ := e6 h2
    · have hrun : (execOp a.eval ⟨d, .alloc e, ty, pos, af, gd⟩).run P w = .ok (.value (.pointer (some ⟨w.heap.size, 0, none⟩))) (w.alloc (.cells z.cells e)) := by
        simp [execOp, Instr.alloc, zeroValue, typeInfo, e1, hz, newVar, newRow, newObj, Sem.run]
      unfold Oper.wp
      rw [hrun]
      obtain ⟨ow', hd', g1, g2, g3⟩ := S.new h0 (cs := ti.zero.map fun z => FV.d z.pv) (vals := z.cells) (t := e) (zero_RFL e6)
      exact hK _ _ ⟨ow', hd', fun b hb => (g1 b hb).trans (hold b hb), g2.put hn g3⟩
  | box e x cs h0 h1 =>
    have hrun : (execOp a.eval ⟨d, .box e x, ty, pos, af, gd⟩).run P w = .ok (.value (.pointer (some ⟨w.heap.size, 0, none⟩))) (w.alloc (.cells (a.eval x).cells e)) := by
      simp [execOp, Instr.box, newVar, newRow, newObj, Sem.run]
    unfold Oper.wp
    rw [hrun]
    obtain ⟨ow', hd', g1, g2, g3⟩ := S.new h0 (cs := cs) (vals := (a.eval x).cells) (t := e) (RF.cells (S.eval x) h1)
    exact hK _ _ ⟨ow', hd', fun b hb => (g1 b hb).trans (hold b hb), g2.put hn g3⟩
  | store t x y l off cs zs h1 h2 h3 h4 h5 =>
    obtain ⟨b, vals, t', e1, e2, e3, e4, e5, e6⟩ := S.box h1 h2
    have hcl := RF.cells (S.eval y) h3
    have hsz := hcl.length
    simp only [Array.length_toList] at hsz
    have hl := e6.length
    simp only [Array.length_toList] at hl
    have hst := run_storeAt_any (P := P) (w := w) hT (t := t) (b := b) (off := off) (v := a.eval y) (by rw [hsz]; exact h4) (there_of_block e5 (by omega)) (RFL.one hcl)
    unfold Oper.wp
    simp only [execOp, e2, Sem.run_bind, hst, Result.andThen_ok, Sem.run_pure]
    refine hK _ _ ?_
    obtain ⟨cur', k1, k2, k3⟩ := setCells_block b t' (0, 0) (a.eval y).cells.toList off w vals e5 (by simp; omega)
    have ho := fun j hj => setCells_other b (a.eval y).cells.toList off w j hj
    have hkp : Kp ow w ow (w.setCells b off (a.eval y).cells.toList) := ⟨by rw [setCells_size]; exact Nat.le_refl _, fun _ _ h => h, fun j _ hj => ho j (fun e => by rw [e, e4] at hj; cases hj)⟩
    have S' := S.set (o' := .box (splice cs off zs)) h2 rfl rfl (b := b) (by rw [e1]; rfl) ho (setCells_size b _ off w) (setCells_below b _ e3 _ off w)
      ⟨b, cur', t', e1, e3, e4, k1, by rw [k2]; exact RFL.mono hkp (fun l h => ⟨al_set_mono rfl l h, rfl⟩) _ _ (splice_RFL off e6 hcl)⟩
    exact ⟨ow, hd, hold, S'.put hn (x := .dead) (by simp only [RF])⟩
  | storeE t x z l ty' sz i off xs y zv y' h1 h2 h3 h4 h5 h6 h7 h8 h9 h10 =>
    obtain ⟨b, cap, cur, cells, e1, e2, e3, e4, e5, e6, e7, e8, e9, e10, e11⟩ := S.row h1 h2
    obtain ⟨u, k1, k2, k3, k4, k5⟩ := row_elem e5 e9 e11 h3 h4
    have hz := S.d h5
    have hsz := R.size hz h6
    have hcl := R.cells hz h6
    have hmul : i * sz + sz ≤ xs.length * sz := by rw [← Nat.succ_mul]; exact Nat.mul_le_mul_right _ k5
    have hmul2 : xs.length * sz ≤ cap * sz := Nat.mul_le_mul_right _ e6
    have hst := run_storeAt_any (P := P) (w := w) hT (t := t) (b := b) (off := i * sz + off) (v := a.eval z) (by rw [hsz]; exact h7) (there_of_block e5 (by omega)) (RL.one hcl)
    unfold Oper.wp
    simp only [execOp, e2, Sem.run_bind, hst, Result.andThen_ok, Sem.run_pure]
    refine hK _ _ ?_
    obtain ⟨cur', q1, q2, q3⟩ := setCells_block b ty' (0, 0) (a.eval z).cells.toList (i * sz + off) w cur e5 (by simp; omega)
    have ho := fun j hj => setCells_other b (a.eval z).cells.toList (i * sz + off) w j hj
    have hkp : Kp ow w ow (w.setCells b (i * sz + off) (a.eval z).cells.toList) := ⟨by rw [setCells_size]; exact Nat.le_refl _, fun _ _ h => h, fun j _ hj => ho j (fun e => by rw [e, e4] at hj; cases hj)⟩
    have hnew := splice_RL off k3 hcl
    rw [← h9] at hnew
    obtain ⟨u', v1, v2⟩ := R_of_cells hnew h10
    have hlu : u.cells.toList.length = sz := by simpa using k1
    have hlz : (a.eval z).cells.toList.length = psz zv := by simpa using hsz
    have hu' : u'.cells.size = sz := by
      rw [← Array.length_toList, v1]
      simp only [List.length_append, List.length_take, List.length_drop, hlu, hlz]
      omega
    have hset := RE.set i y' u' e11 k5 hu' (by rw [v1]; exact RL.one hnew) v2
    have S' := S.set (o' := .row ty' sz (xs.set i y')) h2 rfl rfl (b := b) (by rw [e1]; rfl) ho (setCells_size b _ _ w) (setCells_below b _ e3 _ _ w)
      ⟨cells.take (i * sz) ++ u'.cells.toList ++ cells.drop (i * sz + sz), ⟨by
          simp only [List.length_append, List.length_take, List.length_drop, List.length_set, e10, Array.length_toList, hu']
          omega, .inr ⟨b, cap, cur', by rw [e1, List.length_set], e3, q1, by rw [List.length_set]; exact e6, e7, by rw [q3]; exact e8, by
          rw [q2, List.length_set, v1, ← e9]
          exact row_lists hmul (by rw [hlz]; exact h8) (by have := e8; simp only [Array.length_toList]; omega) (elem_cells e5 (by rw [e8]; omega) k4 k1)⟩⟩, fun b' hb' => by rw [e1] at hb'; simp [blockOf] at hb'; rw [← hb']; exact e4, RE.mono hkp _ _ _ hset⟩
    exact ⟨ow, hd, hold, S'.put hn (x := .dead) (by simp only [RF])⟩
  | len t x e s xs ls h1 h2 =>
    obtain ⟨ad, cap, e1, _⟩ := h2.spec S
    have hrun : (execOp a.eval ⟨d, .call ⟨.builtin .len, #[x], #[t]⟩, ty, pos, af, gd⟩).run P w = .ok (.value (.int .i64 xs.length)) w := by
      simp [execOp, resolve, invoke, builtin, e1, Builtin.len_, run_underlying (tsl_und hT h1).1, goInt]
    exact wp_val hrun (hK _ _ ⟨ow, hd, hold, S.put hn (x := .d (.v (.int .i64 xs.length))) (by simp only [RF, R]; exact ⟨trivial, rfl⟩)⟩)
  | min2 t t' x y k p q h1 h2 =>
    obtain ⟨e1, _⟩ := S.v h1
    obtain ⟨e2, _⟩ := S.v h2
    have hrun : (execOp a.eval ⟨d, .call ⟨.builtin .min, #[x, y], #[t, t']⟩, ty, pos, af, gd⟩).run P w = .ok (.value (.int k (if q < p then q else p))) w := by
      simp [execOp, resolve, invoke, builtin, e1, e2, Builtin.min_, Builtin.min2]
    exact wp_val hrun (hK _ _ ⟨ow, hd, hold, S.put hn (x := .d (.v _)) (by simp only [RF, R]; exact ⟨trivial, rfl⟩)⟩)
  | max2 t t' x y k p q h1 h2 =>
    obtain ⟨e1, _⟩ := S.v h1
    obtain ⟨e2, _⟩ := S.v h2
    have hrun : (execOp a.eval ⟨d, .call ⟨.builtin .max, #[x, y], #[t, t']⟩, ty, pos, af, gd⟩).run P w = .ok (.value (.int k (if q > p then q else p))) w := by
      simp [execOp, resolve, invoke, builtin, e1, e2, Builtin.max_, Builtin.max2]
    exact wp_val hrun (hK _ _ ⟨ow, hd, hold, S.put hn (x := .d (.v _)) (by simp only [RF, R]; exact ⟨trivial, rfl⟩)⟩)
  | call f args tys g caps ps r' h1 h2 h3 => exact hcall f args tys g caps ps r' rfl rfl rfl h3 (.inl ⟨h1, RT_of_args S _ _ h2⟩)
  | callF f args tys g caps ps r' h1 h2 h3 h4 => exact hcall f args tys g caps ps r' rfl rfl rfl h3 (.inr ⟨frz_sound S.toSimH hpub (fun _ _ => rfl) _ _ _ h1 (S.eval f), frzT_sound S.toSimH hpub (fun _ _ => rfl) _ _ _ h2 (RFT_of_eval S _), h4⟩)
  | bslice t len parts e s ti xs h0 h1 h2 h3 h4 h5 h6 h7 h8 h9 =>
    subst h7
    obtain ⟨i, dd, e1, e2, e3, e4, e5, e6⟩ := hT.info h2
    obtain ⟨hu, hs⟩ := tsl_und hT h1
    have hsi := tsz_info hT hs
    rw [e1] at hsi
    simp at hsi
    obtain ⟨z, hz, e6⟩ := e6 h3
    have hargs : ∃ us : List Value, RT ow w xs us ∧ (parts.map fun (i, x) => (i, a.eval x)).toList = (us.zipIdx 0).map fun q => (q.2, q.1) := by
      have go : ∀ (ps : List (Nat × Operand)) (xs : List PV) (k : Nat), ps.map (fun p => (p.1, ev st.f p.2)) = (xs.zipIdx k).map (fun q => (q.2, FV.d q.1)) → ∃ us : List Value, RT ow w xs us ∧ (ps.map fun p => (p.1, a.eval p.2)) = (us.zipIdx k).map fun q => (q.2, q.1) := by
        intro ps
        induction ps with
        | nil =>
          intro xs k h
          cases xs with
          | nil => exact ⟨[], by simp [RT], by simp⟩
          | cons x xs => simp at h
        | cons p ps ih =>
          intro xs k h
          cases xs with
          | nil => simp at h
          | cons x xs =>
            simp only [List.map_cons, List.zipIdx_cons, List.cons.injEq, Prod.mk.injEq] at h
            obtain ⟨⟨h1, h2⟩, h3⟩ := h
            obtain ⟨us, i1, i2⟩ := ih xs (k + 1) h3
            refine ⟨a.eval p.2 :: us, ?_, ?_⟩
            · simp only [RT]; exact ⟨_, _, rfl, S.d h2, i1⟩
            · simp only [List.map_cons, List.zipIdx_cons, i2, h1]
      obtain ⟨us, i1, i2⟩ := go parts.toList xs 0 h8
      exact ⟨us, i1, by simpa using i2⟩
    obtain ⟨us, a1, a2⟩ := hargs
    obtain ⟨r1, r2⟩ := RE_of_RT a1 h9
    have hul := RT.length a1
    obtain ⟨out, o1, o2⟩ := fill_seq s us 0 ((Array.range (xs.length * s)).map (z.cells[· % z.cells.size]!)) r2 (by simp [hul])
    have hrun := run_buildSlice (P := P) w t e xs.length (parts.map fun (i, x) => (i, a.eval x)) out i z hu e1 hz (by rw [hsi]; omega) (by rw [hsi]; exact Nat.ne_of_gt (Nat.mul_pos h5 h4)) (by rw [hsi, a2]; exact o1)
    have hol : out.toList = us.flatMap fun u => u.cells.toList := by
      rw [o2]; simp [hul]
    have hosz : out.size = xs.length * s := by
      have := r1.length
      rw [← Array.length_toList, hol, this]; simp
    have hml : xs.length ≤ maxLen := by
      have : xs.length ≤ xs.length * s := Nat.le_mul_of_pos_right _ h4
      unfold maxLen; omega
    obtain ⟨ow', hd', g1, g2, g3⟩ := S.newRow h0 (v' := .slice (some ⟨w.heap.size, 0, none⟩) xs.length xs.length) (w' := w.alloc (.cells out e)) (e := e) (s := s) (xs := xs.map nsl) (cells := out.toList)
      (by rw [List.length_map]; exact World.ownsRow_lit w out xs.length S.below.size hml hosz) (World.grownBy_alloc w _ none) (fun b hb => by simp [blockOf] at hb; subst hb; simp) (by rw [hol]; exact r1) ⟨_, _, _, rfl⟩
    unfold Oper.wp
    have hx : (execOp a.eval ⟨d, .buildSlice t xs.length parts, ty, pos, af, gd⟩).run P w = .ok (.value (.slice (some ⟨w.heap.size, 0, none⟩) xs.length xs.length)) (w.alloc (.cells out e)) := by
      simp only [execOp, Sem.run_bind, hrun, Result.andThen_ok]; rfl
    rw [hx]
    exact hK _ _ ⟨ow', hd', fun b hb => (g1 b hb).trans (hold b hb), g2.put hn g3⟩
  | mkSl t x y e s ti z k k' j h0 h1 h2 h3 h4 h5 h6 h7 h8 h9 h10 =>
    obtain ⟨i, zv, u, e1, e2, e3, e4, e5, e6, e7, e8⟩ := zeroPV_spec hT h2 h3
    obtain ⟨hu, hs⟩ := tsl_und hT h1
    have hsi := tsz_info hT hs
    rw [e1] at hsi
    simp at hsi
    obtain ⟨ex, _⟩ := S.v h6
    obtain ⟨ey, _⟩ := S.v h7
    obtain ⟨w', r1, r2, r3⟩ := run_make_full (P := P) w w0.heap.size t e i zv s hu e1 e2 hsi k k' j.toNat (by rw [e4]; exact h10) h9 S.below.size
    have hj : ((j.toNat : Nat) : Int) = j := Int.toNat_of_nonneg h8
    rw [hj] at r1
    have hzs : zv.cells.size = s := by rw [e5, h4]
    have hmc : (madeCells zv.cells (j.toNat * s)).toList = (List.replicate j.toNat u.cells.toList).flatten := by
      rw [← hzs, made_cells _ (by omega), e6]
    obtain ⟨ow', hd', g1, g2, g3⟩ := S.newRow h0 (v' := .slice (some ⟨w.heap.size, 0, none⟩) j.toNat j.toNat) (w' := w') (e := e) (s := s) (xs := List.replicate j.toNat z) (cells := (madeCells zv.cells (j.toNat * s)).toList)
      (by rw [List.length_replicate]; exact r2) r3 (fun b hb => by
        have hv : (Value.slice (some ⟨w.heap.size, 0, none⟩) j.toNat j.toNat).ownBlock = some b := by simpa [blockOf, Value.ownBlock] using hb
        have := (r2.lt b hv).2
        simp [blockOf] at hb; subst hb; exact ⟨rfl, this⟩) (by rw [hmc]; exact RE_zero (by rw [e6]; exact hzs) e7 (e8 _ _) _) ⟨_, _, _, rfl⟩
    unfold Oper.wp
    have hx : (execOp a.eval ⟨d, .makeSlice t x y, ty, pos, af, gd⟩).run P w = .ok (.value (.slice (some ⟨w.heap.size, 0, none⟩) j.toNat j.toNat)) w' := by
      simp only [execOp, ex, ey, Sem.run_bind, r1, Result.andThen_ok]; rfl
    rw [hx]
    exact hK _ _ ⟨ow', hd', fun b hb => (g1 b hb).trans (hold b hb), g2.put hn g3⟩
  | append t x y e s ti xs ys U ls ks h0 h1 h2 h3 h4 h5 h6 h7 h8 h9 =>
    obtain ⟨i, dd, e1, e2, e3, e4, e5, e6⟩ := hT.info h2
    obtain ⟨hu, hs⟩ := tsl_und hT h1
    have hsi := tsz_info hT hs
    rw [e1] at hsi
    simp at hsi
    obtain ⟨z, hz, e6⟩ := e6 (fun e => by rw [e] at h3; simp at h3; omega)
    have hzl : z.cells.size = s := by
      have := congrArg List.length (zsOk_pv e6).1
      simp at this; omega
    obtain ⟨cells, b1, b2, b3, S1, b5, b6⟩ := h5.spec S
    obtain ⟨ad, cap, y1, y2⟩ := h6.spec S
    have hbase := S.below.size
    obtain ⟨v', w', news, r1, r2, r3, r4, r5⟩ : ∃ v' w' news, (Builtin.append_ #[t, t] ty #[a.eval x, a.eval y]).run P w = .ok v' w' ∧ w'.ownsRow w0.heap.size e s v' (xs.length + ys.length) (cells ++ news) ∧ w.grownBy w' (blockOf (a.eval x)) ∧
        (∀ b, blockOf v' = some b → blockOf (a.eval x) = some b ∨ b = w.heap.size) ∧ RE ow w s ys news := by
      have hbl : (a.eval x).ownBlock = blockOf (a.eval x) := by
        rcases b1.2 with ⟨hb, _⟩ | ⟨g, cap, cur, hb, _⟩
        · exact ownBlock_eq hb
        · exact ownBlock_eq hb
      rw [y1]
      rcases y2 with rfl | ⟨b, off, sz, ycells, rfl, y3, y4⟩
      · cases ad with
        | none => exact ⟨_, w, [], run_append_none w0.heap.size t ty e i s cap hu e1 _ _ _ b1, by simpa using b1, grownBy_refl _ _, fun b hb => .inl hb, by simp only [RE]⟩
        | some ad =>
          obtain ⟨v', w', g1, g2, g3, g4⟩ := run_append_own2 (P := P) (w := w) w0.heap.size t ty e i z s ti.bytes hu e1 hz hsi e4 hzl h4 _ _ _ b1 ad 0 cap [] (by simp) (by simp) (by simp) (by simpa using h8) (by simpa using h9) hbase
          rw [hbl] at g3
          exact ⟨v', w', [], g1, g2, g3, g4, by simp only [RE]⟩
      · have y5 := y4.resize h7
        obtain ⟨v', w', g1, g2, g3, g4⟩ := run_append_own2 (P := P) (w := w) w0.heap.size t ty e i z s ti.bytes hu e1 hz hsi e4 hzl h4 _ _ _ b1 ⟨b, off, none⟩ ys.length cap ycells y5.length (fun j u hj => by rw [Addr.add_mid]; exact y3 j u hj) y5.one h8 h9 hbase
        rw [hbl] at g3
        exact ⟨v', w', ycells, g1, g2, g3, g4, y5⟩
    have hlt' : ∀ b, blockOf v' = some b → w0.heap.size ≤ b ∧ b < w'.heap.size := by
      intro b hb
      have hv : v'.ownBlock = some b := by
        rcases r2.2 with ⟨hb', _⟩ | ⟨g, cap, cur, hb', _⟩
        · rw [ownBlock_eq hb']; exact hb
        · rw [ownBlock_eq hb']; exact hb
      exact r2.lt b hv
    have hkp : Kp ow w (fun b => if blockOf v' = some b then true else ow b) w' := by
      refine ⟨r3.size, fun b hb h => ?_, fun b hb h => r3.block b hb (fun e => by rw [b3 b e.symm] at h; cases h)⟩
      show (if blockOf v' = some b then true else ow b) = false
      rw [if_neg]
      · exact h
      · intro e
        rcases r4 b e with e' | e'
        · rw [b3 b e'] at h; cases h
        · omega
    have hbel : Below w0.heap.size w w' := (Below.refl _ _).grown r3 hbase (fun k hk => by
      rcases b1.2 with ⟨hb', _⟩ | ⟨g, cap', cur, hb', hg, _⟩
      · rw [hb'] at hk; simp [blockOf] at hk
      · rw [hb'] at hk; simp [blockOf] at hk; omega)
    have S2 := S1.obj (l := nl) (hv := v') (o := .row e s (xs ++ ys)) hkp hbel
      (fun b hb => by
        show (if blockOf v' = some b then true else ow b) = false
        rw [if_neg]
        · exact S.fresh b (Nat.le_trans r3.size hb)
        · intro e; have := hlt' b e; omega)
      (.inl (by simp [al, b5 nl h0, PO.made])) rfl
      ⟨cells ++ news, by rw [List.length_append]; exact r2, fun b hb => by show (if blockOf v' = some b then true else ow b) = true; rw [if_pos hb], (RE.mono hkp _ _ _ b2).append (RE.mono hkp _ _ _ r5)⟩
      (fun j oj b hne hj hl hb => by
        have hbj := ((S1.objs j oj hj).lt hl b hb).1
        have hnb := b6 j oj b hj hl hb
        have hnv : blockOf v' ≠ some b := by
          intro e
          rcases r4 b e with e' | e'
          · exact hnb e'
          · omega
        exact ⟨r3.block b hbj (fun e => hnb e.symm), if_neg hnv, fun _ => hnv⟩)
    have hrun : (execOp a.eval ⟨d, .call ⟨.builtin .append, #[x, y], #[t, t]⟩, ty, pos, af, gd⟩).run P w = .ok (.value v') w' := by
      simp only [execOp, resolve, invoke, builtin, Sem.run_bind, Sem.run_pure, Result.andThen_ok, List.map_toArray, List.map_cons, List.map_nil, r1]
    unfold Oper.wp
    rw [hrun]
    have hlen : nl < (updM st.m U).length := (List.getElem?_eq_some_iff.1 (b5 nl h0)).1
    have S3 := S2.put hn (x := .srf nl) (v := v') (by
      simp only [RF]
      refine ⟨by rw [al_set_same hlen]; rfl, by rw [upd_same], ?_⟩
      rw [upd_same]
      rcases r2.2 with ⟨hb', _⟩ | ⟨g, cap, cur, hb', _⟩
      · exact ⟨_, _, _, hb'⟩
      · exact ⟨_, _, _, hb'⟩)
    refine hK _ _ ⟨_, _, fun b hb => ?_, by simpa only [PS.act, updM_append, updM] using S3⟩
    show (if blockOf v' = some b then true else ow b) = ow0 b
    rw [if_neg]
    · exact hold b hb
    · intro e; have := hlt' b e; omega
  | _ => exact hval (fun c e => by cases e) rfl
end
end Go.Proofs.YtccmjndnjpjohaaR.pv
