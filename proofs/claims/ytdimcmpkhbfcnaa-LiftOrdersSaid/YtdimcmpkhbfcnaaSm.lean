/- Rows of rows: what is read of them, what is taken out and put back. -/
import Derived.Test.YtdimcmpkhbfcnaaSk
import Derived.Test.YtdimcmpkhbfcnaaSh
namespace Go.Proofs.Ytdimcmpkhbfcnaa.pv
set_option linter.all false
open Go.RowKit

section
variable {P : Program} {T : List TI} {n : Nat} {w0 : Cx} {st : PS} {a : Act} {w : World} {ow : Nat → Bool} {hd : Nat → Value}
theorem RFL_of_get {A : Nat → Bool} : ∀ {ps : List FV} {us : List Value}, us.length = ps.length → (∀ (k : Nat) (p : FV), ps[k]? = some p → ∃ u, us[k]? = some u ∧ u.oneCell' = true ∧ RF A hd ow w p u) → RFL A hd ow w ps us
  | [], us, hl, _ => by simp only [RFL]; exact List.eq_nil_of_length_eq_zero hl
  | x :: ps, [], hl, _ => by simp at hl
  | x :: ps, u :: us, hl, h => by
    obtain ⟨v, h1, h2, h3⟩ := h 0 x rfl
    simp at h1; subst h1
    simp only [RFL]
    exact ⟨u, us, rfl, h3, h2, RFL_of_get (by simpa using hl) fun k p hp => by simpa using h (k + 1) p (by simpa using hp)⟩
/-- an own row that leads to a block -/
theorem owns_at {ty sz k b nn c : Nat} {v : Value} {cells : List Value} (h : w.ownsRow 0 ty sz v k cells) (hv : v = .slice (some ⟨b, 0, none⟩) nn c) :
    ∃ cur : Array Value, w.heap[b]? = some (.cells cur ty (0, 0)) ∧ nn = k ∧ k ≤ c ∧ c ≤ maxLen ∧ cur.size = c * sz ∧ cur.toList.take (k * sz) = cells ∧ cells.length = k * sz := by
  obtain ⟨h1, h⟩ := h
  rcases h with ⟨h2, _⟩ | ⟨g, cap, cur, h2, _, h4, h5, h6, h7, h8⟩
  · rw [hv] at h2; cases h2
  · rw [hv] at h2
    simp at h2
    obtain ⟨rfl, rfl, rfl⟩ := h2
    exact ⟨cur, h4, rfl, h5, h6, h7, h8, h1⟩
theorem cell_at {b k N : Nat} {cur : Array Value} {ty : TypeId} {cells : List Value} {u : Value} (hb : w.heap[b]? = some (.cells cur ty (0, 0))) (hc : cur.toList.take N = cells) (hu : cells[k]? = some u) : w.cell? ⟨b, k, none⟩ = some u := by
  rw [← hc, List.getElem?_take] at hu
  split at hu
  · exact cell_of_block hb hu
  · cases hu
/-- index of an outer row -/
theorem nidx {t l ty sz : Nat} {q : Nat → Bool} {hs : List (Option Nat)} {xs : List PV} {fs : List FV} {x i : Operand} {ik : IntKind} {j : Int} (h1 : tsl T t = some (ty, sz)) (h0 : 0 ≤ j) (hj : j.toNat < xs.length) :
    Ext P T (.indexAddr t x i) [.srf l, .d (.v (.int ik j))] [(l, .cu (outC ty sz q hs xs) fs)] (.ept l sz j.toNat 0) [] := by
  intro n w0 st a w o hT hS ho hn hv hm K Q hK
  obtain ⟨ow, hd, hold, S⟩ := hS
  obtain ⟨d, op, tyo, pos, af, gd⟩ := o
  simp only at ho hn hK
  subst ho
  simp [Op.operands] at hv
  obtain ⟨hv1, hv2⟩ := hv
  have hml := hm (l, .cu (outC ty sz q hs xs) fs) (by simp)
  simp only at hml
  have hx := S.eval x
  rw [hv1] at hx
  simp only [RF] at hx
  obtain ⟨e0, e1, _⟩ := hx
  obtain ⟨e6, _⟩ := S.v hv2
  obtain ⟨b1, vs, b2, cells, caps, ⟨g1, g2⟩, b4, b5⟩ := S.objs l _ hml
  rcases g2 with ⟨g2, g3⟩ | ⟨g, cap, cur, g2, _⟩
  · rw [g3] at hj; omega
  · rw [g2] at e1
    refine wp_val (v := .pointer (some ⟨g, 0 + j.toNat * sz, none⟩)) (by simp [execOp, e1, e6, run_indexAt_sl hT h1 h0 (show j < (xs.length : Int) by omega)]) (hK _ _ ⟨ow, hd, hold, S.put hn ?_⟩)
    simp only [RF]
    exact ⟨e0, g, _, cap, g2, by simp⟩
theorem nlen {t l ty sz : Nat} {q : Nat → Bool} {hs : List (Option Nat)} {xs : List PV} {fs : List FV} {x : Operand} (h1 : tsl T t = some (ty, sz)) :
    Ext P T (.call ⟨.builtin .len, #[x], #[t]⟩) [.srf l] [(l, .cu (outC ty sz q hs xs) fs)] (.d (.v (.int .i64 xs.length))) [] := by
  intro n w0 st a w o hT hS ho hn hv hm K Q hK
  obtain ⟨ow, hd, hold, S⟩ := hS
  obtain ⟨d, op, tyo, pos, af, gd⟩ := o
  simp only at ho hn hK
  subst ho
  simp [Op.operands, Call.operands] at hv
  have hml := hm (l, .cu (outC ty sz q hs xs) fs) (by simp)
  simp only at hml
  have hx := S.eval x
  rw [hv] at hx
  simp only [RF] at hx
  obtain ⟨e0, e1, _⟩ := hx
  obtain ⟨b1, vs, b2, cells, caps, ⟨g1, g2⟩, b4, b5⟩ := S.objs l _ hml
  have hsl : ∃ ad cap, hd l = .slice ad xs.length cap := by
    rcases g2 with ⟨g2, g3⟩ | ⟨g, cap, cur, g2, _⟩
    · exact ⟨none, 0, by rw [g2, g3]⟩
    · exact ⟨_, cap, g2⟩
  obtain ⟨ad, cap, e2⟩ := hsl
  have hrun : (execOp a.eval ⟨d, .call ⟨.builtin .len, #[x], #[t]⟩, tyo, pos, af, gd⟩).run P w = .ok (.value (.int .i64 xs.length)) w := by
    simp [execOp, resolve, invoke, builtin, e1, e2, Builtin.len_, run_underlying (tsl_und hT h1).1, goInt]
  exact wp_val hrun (hK _ _ ⟨ow, hd, hold, S.put hn (x := .d (.v (.int .i64 xs.length))) (by simp only [RF, R]; exact ⟨trivial, rfl⟩)⟩)
/-- where a pointer into an outer row leads -/
theorem SimW.orow (S : SimW n w0 st a w ow hd) {x : Operand} {l ty sz i off : Nat} {q : Nat → Bool} {hs : List (Option Nat)} {xs : List PV} {fs : List FV} (h : ev st.f x = .ept l sz i off) (hm : st.m[l]? = some (.cu (outC ty sz q hs xs) fs)) :
    ∃ (b cap : Nat) (cur : Array Value) (cells : List Value) (caps : Array Value) (vs : List Value), hd l = .slice (some ⟨b, 0, none⟩) xs.length cap ∧ a.eval x = .pointer (some ⟨b, i * sz + off, none⟩) ∧ w0.New b ∧ ow b = true ∧ w.heap[b]? = some (.cells cur ty (0, 0)) ∧
      xs.length ≤ cap ∧ cap ≤ maxLen ∧ cur.size = cap * sz ∧ cur.toList.take (xs.length * sz) = cells ∧ cells.length = xs.length * sz ∧ RFL (al st.m) hd ow w fs vs ∧ vs[0]? = some (.func (.func 0) #[] caps) ∧
      ∀ (k : Nat) (p : PV), (fl xs)[k]? = some p → ∃ u : Value, cells[k]? = some u ∧ u.oneCell' = true ∧ (q k = true → caps[k]? = some u) ∧ (∀ j : Nat, hs[j]? = some (some k) → vs[j + 1]? = some u) ∧ (q k = false → (∀ j : Nat, hs[j]? ≠ some (some k)) → R ow w p u) := by
  have := S.eval x
  rw [h] at this
  simp only [RF] at this
  obtain ⟨_, b, nn, c, h1, h2⟩ := this
  obtain ⟨b1, vs, b2, cells, caps, g1, b4, b5⟩ := S.objs l _ hm
  obtain ⟨cur, k1, k2, k3, k4, k5, k6, k7⟩ := owns_at g1 h1
  subst k2
  have hb := b1 b (by rw [h1]; simp [blocksOf, blockOf])
  exact ⟨b, c, cur, cells, caps, vs, h1, h2, hb.1, hb.2, k1, k3, k4, k5, k6, k7, b2, b4, b5⟩
/-- a cell that holds data -/
theorem nload {t l ty sz i off : Nat} {q : Nat → Bool} {hs : List (Option Nat)} {xs : List PV} {fs : List FV} {x : Operand} {y p : PV} (h1 : tagg T t = some false) (hf : xs.all (fits sz) = true) (hy : xs[i]? = some y) (hp : (pcells y)[off]? = some p) (hq : q (i * sz + off) = false) (hh : ∀ j : Nat, hs[j]? ≠ some (some (i * sz + off))) :
    Ext P T (.load t x) [.ept l sz i off] [(l, .cu (outC ty sz q hs xs) fs)] (.d p) [] := by
  intro n w0 st a w o hT hS ho hn hv hm K Q hK
  obtain ⟨ow, hd, hold, S⟩ := hS
  obtain ⟨d, op, tyo, pos, af, gd⟩ := o
  simp only at ho hn hK
  subst ho
  simp [Op.operands] at hv
  have hml := hm (l, .cu (outC ty sz q hs xs) fs) (by simp)
  simp only at hml
  obtain ⟨b, cap, cur, cells, caps, vs, e1, e2, e3, e4, e5, e6, e7, e8, e9, e10, e11, e12, e13⟩ := S.orow hv hml
  obtain ⟨u, u1, u2, u3, u4, u5⟩ := e13 _ p (fl_get hf hy hp)
  refine wp_val (v := u) (by simp [execOp, e2, run_loadAt_one hT h1 (cell_at e5 e9 u1)]) (hK _ _ ⟨ow, hd, hold, S.put hn (x := .d p) (by simpa only [RF] using u5 hq hh)⟩)
/-- a cell whose row has been taken out -/
theorem nloadH {t l ty sz i off j : Nat} {q : Nat → Bool} {hs : List (Option Nat)} {xs : List PV} {fs : List FV} {x : Operand} {f : FV} (h1 : tagg T t = some false) (hi : i * sz + off < xs.length * sz) (hf : xs.all (fits sz) = true) (hj : hs[j]? = some (some (i * sz + off))) (hfj : fs[j + 1]? = some f) :
    Ext P T (.load t x) [.ept l sz i off] [(l, .cu (outC ty sz q hs xs) fs)] f [] := by
  intro n w0 st a w o hT hS ho hn hv hm K Q hK
  obtain ⟨ow, hd, hold, S⟩ := hS
  obtain ⟨d, op, tyo, pos, af, gd⟩ := o
  simp only at ho hn hK
  subst ho
  simp [Op.operands] at hv
  have hml := hm (l, .cu (outC ty sz q hs xs) fs) (by simp)
  simp only at hml
  obtain ⟨b, cap, cur, cells, caps, vs, e1, e2, e3, e4, e5, e6, e7, e8, e9, e10, e11, e12, e13⟩ := S.orow hv hml
  have hlt : i * sz + off < (fl xs).length := by rw [fl_len hf]; exact hi
  obtain ⟨u, u1, u2, u3, u4, u5⟩ := e13 _ _ (List.getElem?_eq_getElem hlt)
  obtain ⟨v, hv', hr, _⟩ := e11.get _ f hfj
  rw [u4 j hj] at hv'
  cases hv'
  exact wp_val (v := u) (by simp [execOp, e2, run_loadAt_one hT h1 (cell_at e5 e9 u1)]) (hK _ _ ⟨ow, hd, hold, S.put hn (x := f) hr⟩)
def minus (q : Nat → Bool) (k : Nat) : Nat → Bool := fun i => q i && !decide (i = k)
theorem minus_ne {q : Nat → Bool} {k i : Nat} (h : minus q k i = true) : q i = true ∧ i ≠ k := by
  unfold minus at h
  simpa using h
/-- an inner row is taken out of the bag -/
theorem SimW.take (S : SimW n w0 st a w ow hd) {l B L B2 ty sz k j e s : Nat} {ct : Nat → Nat × Nat} {q : Nat → Bool} {hs : List (Option Nat)} {xs ys : List PV} {fs : List FV} (hml : st.m[l]? = some (.cu (outC ty sz q hs xs) fs)) (hmb : st.m[B]? = some (.cu (bagC ct q xs) []))
    (hL : st.m[L]? = some .free) (hB2 : st.m[B2]? = some .free) (hlB : l ≠ B) (hLB : L ≠ B2) (hp : (fl xs)[k]? = some (.sl ys)) (hq : q k = true) (hj : hs[j]? = some none) (h0 : fs[0]? = some (.srf B)) (hfl : j + 1 < fs.length) (hct : ct k = (e, s)) :
    ∃ (hd' : Nat → Value) (u : Value) (cells : List Value), SimW n w0 ⟨st.f, updM st.m [(B, .none), (L, .row e s ys), (B2, .cu (bagC ct (minus q k) xs) []), (l, .cu (outC ty sz (minus q k) (hs.set j (some k)) xs) ((fs.set 0 (.srf B2)).set (j + 1) (.srf L)))]⟩ a w ow hd' ∧
      (∀ i, al st.m i = true → al (updM st.m [(B, .none), (L, .row e s ys), (B2, .cu (bagC ct (minus q k) xs) []), (l, .cu (outC ty sz (minus q k) (hs.set j (some k)) xs) ((fs.set 0 (.srf B2)).set (j + 1) (.srf L)))]) i = true ∧ hd' i = hd i) ∧
      RF (al (updM st.m [(B, .none), (L, .row e s ys), (B2, .cu (bagC ct (minus q k) xs) []), (l, .cu (outC ty sz (minus q k) (hs.set j (some k)) xs) ((fs.set 0 (.srf B2)).set (j + 1) (.srf L)))])) hd' ow w (.srf L) u ∧ u.oneCell' = true ∧
      w.ownsRow 0 ty sz (hd l) xs.length cells ∧ cells[k]? = some u ∧ (∀ (i : Nat) (p : PV), (fl xs)[i]? = some p → q i = false → (∀ j : Nat, hs[j]? ≠ some (some i)) → ∃ v, cells[i]? = some v ∧ v.oneCell' = true ∧ R ow w p v) := by
  obtain ⟨b1, vs, b2, cells, caps, b3, b4, b5⟩ := S.objs l _ hml
  obtain ⟨c1, cvs, c2, caps', c3, c4, c5, c6, c7⟩ := S.objs B _ hmb
  have hcc : caps' = caps := by
    obtain ⟨u, hu, hr, _⟩ := b2.get 0 _ h0
    rw [b4] at hu; cases hu
    simp only [RF] at hr
    rw [c3] at hr
    have := hr.2.1
    simp only [Value.func.injEq] at this
    exact this.2.2.symm
  subst hcc
  obtain ⟨u, u1, u2, u3, u4, u5⟩ := b5 k _ hp
  have hkl : k < caps'.size := by rw [c4]; exact (List.getElem?_eq_some_iff.1 hp).1
  obtain ⟨ys', cs, u', d1, d2, d3, d4⟩ := c5 k hkl hq
  have hu := u3 hq
  rw [d2] at hu; cases hu
  rw [hp] at d1; cases d1
  rw [hct] at d3 d4
  simp only at d3 d4
  have hu' : ∀ b, b ∈ blocksOf u → b ∈ blocksOf (hd B) := fun b hb => by rw [c3]; exact caps_mem d2 (owns_bo d3 hb).1
  have hLneB : L ≠ B := fun e => by rw [e, hmb] at hL; cases hL
  have hB2neB : B2 ≠ B := fun e => by rw [e, hmb] at hB2; cases hB2
  have hlL : l ≠ L := fun e => by rw [← e, hml] at hL; cases hL
  have hlB2 : l ≠ B2 := fun e => by rw [← e, hml] at hB2; cases hB2
  have S1 := S.kill B
  have ha1 : ∀ i, al st.m i = true → al (st.m.set B .none) i = true := al_set_mono rfl
  -- the row
  obtain ⟨S2, ha2, hal2⟩ := S1.add (l := L) (o := .row e s ys) (hv := u) (get_set_ne hL hLneB) rfl ⟨cs, d3, fun b hb => c1 b (hu' b hb), d4⟩ (fun i oi b hne hi hli hb hbu => by
    obtain ⟨hi', hne'⟩ := kill_live hi hli
    exact S.dist i B oi _ b hne' hi' hmb hli rfl hb (hu' b hbu))
  -- the bag without it
  have hcap2 : ∀ (i : Nat) (v : Value), (caps'.setIfInBounds k noB)[i]? = some v → (i = k ∧ v = noB) ∨ (i ≠ k ∧ caps'[i]? = some v) := by
    intro i v h
    rw [Array.getElem?_setIfInBounds] at h
    by_cases e : k = i
    · subst e; rw [if_pos rfl, if_pos hkl] at h; cases h; exact .inl ⟨rfl, rfl⟩
    · rw [if_neg e] at h; exact .inr ⟨fun h => e h.symm, h⟩
  have hb2 : ∀ b, b ∈ blocksOf (.func (.func 0) #[] (caps'.setIfInBounds k noB)) → b ∈ blocksOf (hd B) ∧ b ∉ blocksOf u := by
    intro b hb
    obtain ⟨i, v, hi, hv⟩ := mem_caps hb
    rcases hcap2 i v hi with ⟨_, rfl⟩ | ⟨hne, hi⟩
    · simp [noB, blockOf] at hv
    · refine ⟨by rw [c3]; exact caps_mem hi hv, fun hbu => ?_⟩
      exact c7 i k v u b hne hi d2 hv (owns_bo d3 hbu).1
  have hbag : bagI ct (minus q k) xs ow w (.func (.func 0) #[] (caps'.setIfInBounds k noB)) := by
    refine ⟨_, rfl, by simpa using c4, fun i hi hqi => ?_, fun i v hi hqi => ?_, fun i i' v v' b hne hi hi' hv => ?_⟩
    · obtain ⟨q1, q2⟩ := minus_ne hqi
      obtain ⟨zs, cs2, v, z1, z2, z3, z4⟩ := c5 i (by simpa using hi) q1
      exact ⟨zs, cs2, v, z1, by rw [Array.getElem?_setIfInBounds, if_neg (Ne.symm q2)]; exact z2, z3, z4⟩
    · rcases hcap2 i v hi with ⟨_, h⟩ | ⟨h1, h2⟩
      · exact h
      · refine c6 i v h2 ?_
        unfold minus at hqi
        simpa [h1] using hqi
    · rcases hcap2 i v hi with ⟨_, rfl⟩ | ⟨h1, h2⟩
      · simp [noB, blockOf] at hv
      · rcases hcap2 i' v' hi' with ⟨_, rfl⟩ | ⟨h1', h2'⟩
        · simp [noB, blockOf]
        · exact c7 i i' v v' b hne h2 h2' hv
  obtain ⟨S3, ha3, hal3⟩ := S2.add (l := B2) (o := .cu (bagC ct (minus q k) xs) []) (hv := .func (.func 0) #[] (caps'.setIfInBounds k noB)) (get_set_ne (get_set_ne hB2 hB2neB) (Ne.symm hLB)) rfl
    ⟨fun b hb => c1 b (hb2 b hb).1, [], by simp [RFL], hbag⟩ (fun i oi b hne hi hli hb hbu => by
      obtain ⟨h1, h2⟩ := hb2 b hbu
      by_cases e : i = L
      · subst e; rw [upd_same] at hb; exact h2 hb
      · rw [upd_ne _ _ e] at hb
        have hi2 : (st.m.set B .none)[i]? = some oi := by
          have : ((st.m.set B .none).set L (.row _ _ _))[i]? = some oi := hi
          rw [List.getElem?_set, if_neg (Ne.symm e)] at this; exact this
        obtain ⟨hi', hne'⟩ := kill_live hi2 hli
        exact S.dist i B oi _ b hne' hi' hmb hli rfl hb h1)
  have hhl : upd (upd hd L u) B2 (.func (.func 0) #[] (caps'.setIfInBounds k noB)) l = hd l := by rw [upd_ne _ _ hlB2, upd_ne _ _ hlL]
  have hhL : upd (upd hd L u) B2 (.func (.func 0) #[] (caps'.setIfInBounds k noB)) L = u := by rw [upd_ne _ _ hLB, upd_same]
  have haA : ∀ i, al st.m i = true → al (((st.m.set B .none).set L (.row e s ys)).set B2 (.cu (bagC ct (minus q k) xs) [])) i = true ∧ upd (upd hd L u) B2 (.func (.func 0) #[] (caps'.setIfInBounds k noB)) i = hd i := by
    intro i hi
    have g1 := ha1 i hi
    obtain ⟨g2, g3⟩ := ha2 i g1
    obtain ⟨g4, g5⟩ := ha3 i g2
    exact ⟨g4, by rw [g5, g3]⟩
  have hlen : j + 1 < vs.length ∧ 0 < vs.length := by
    have := RFL.length b2
    omega
  have S4 := S3.re (l := l) (o := .cu (outC ty sz q hs xs) fs) (o' := .cu (outC ty sz (minus q k) (hs.set j (some k)) xs) ((fs.set 0 (.srf B2)).set (j + 1) (.srf L))) (get_set_ne (get_set_ne (get_set_ne hml hlB) hlL) hlB2) rfl rfl (by
    rw [hhl]
    refine ⟨b1, (vs.set 0 (.func (.func 0) #[] (caps'.setIfInBounds k noB))).set (j + 1) u, ?_, cells, caps'.setIfInBounds k noB, b3, ?_, fun i p hi => ?_⟩
    · refine RFL.set' _ _ _ (RFL.set' _ _ _ (RFL.mono (Kp.refl _ _) (fun i hi => ⟨al_set_mono rfl _ (haA i hi).1, (haA i hi).2⟩) _ _ b2) ?_ rfl) ?_ u2
      · simp only [RF]
        exact ⟨al_set_mono rfl _ hal3, by rw [upd_same], by rw [upd_same]; rfl⟩
      · simp only [RF]
        rw [hhL]
        exact ⟨al_set_mono rfl _ (ha3 L hal2).1, rfl, u2⟩
    · rw [List.getElem?_set_ne (by omega), List.getElem?_set_self hlen.2]
    · obtain ⟨v, v1, v2, v3, v4, v5⟩ := b5 i p hi
      refine ⟨v, v1, v2, fun hqi => ?_, fun j' hj' => ?_, fun hqi hno => ?_⟩
      · obtain ⟨q1, q2⟩ := minus_ne hqi
        rw [Array.getElem?_setIfInBounds, if_neg (Ne.symm q2)]
        exact v3 q1
      · rw [List.getElem?_set] at hj'
        by_cases e : j = j'
        · subst e
          rw [if_pos rfl, if_pos (List.getElem?_eq_some_iff.1 hj).1] at hj'
          simp at hj'; subst hj'
          rw [List.getElem?_set_self (by rw [List.length_set]; exact hlen.1)]
          rw [u1] at v1; exact v1
        · rw [if_neg e] at hj'
          rw [List.getElem?_set_ne (by omega), List.getElem?_set_ne (by omega)]
          exact v4 j' hj'
      · have hik : i ≠ k := by
          rintro rfl
          exact hno j (by rw [List.getElem?_set_self (List.getElem?_eq_some_iff.1 hj).1])
        refine v5 ?_ fun j' hj' => ?_
        · unfold minus at hqi
          simpa [hik] using hqi
        · refine hno j' ?_
          rw [List.getElem?_set]
          by_cases e : j = j'
          · subst e; rw [hj] at hj'; cases hj'
          · rw [if_neg e]; exact hj')
  refine ⟨_, u, cells, S4, fun i hi => ⟨al_set_mono rfl _ (haA i hi).1, (haA i hi).2⟩, ?_, u2, b3, u1, fun i p hi hqi hno => ?_⟩
  · simp only [RF]
    rw [hhL]
    exact ⟨al_set_mono rfl _ (ha3 L hal2).1, rfl, u2⟩
  · obtain ⟨v, v1, v2, v3, v4, v5⟩ := b5 i p hi
    exact ⟨v, v1, v2, v5 hqi hno⟩
end
end Go.Proofs.Ytdimcmpkhbfcnaa.pv
