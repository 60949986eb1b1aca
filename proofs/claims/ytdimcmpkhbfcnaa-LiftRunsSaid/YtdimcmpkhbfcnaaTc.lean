/- Rows that may be the clipped head of a larger block: what is appended; looking at the old row. -/
import Derived.Test.YtdimcmpkhbfcnaaTb
namespace Go.Proofs.Ytdimcmpkhbfcnaa.pv
set_option linter.all false
open Go.RowKit
section
variable {P : Program} {T : List TI} {n : Nat} {w0 : Cx} {st : PS} {a : Act} {w : World} {ow : Nat → Bool} {hd : Nat → Value}
theorem spl_old {A : Nat → Bool} {c : Cx} {h : Value} {e s l : Nat} {xs ys : List PV} (hr : RO A hd c ow w h (.cu (splC e s xs ys) [.srf l])) : A l = true ∧ (hd l).oneCell' = true ∧ oldI s xs ow w (hd l) ∧ ((∃ cells, w.ownsRow 0 e s h ys.length cells ∧ RE ow w s ys cells ∧ ∀ b, b ∈ blocksOf (hd l) → ow b = false) ∨ (∃ (b C : Nat), (hd l) = .slice (some ⟨b, 0, none⟩) xs.length C ∧ h = .slice (some ⟨b, 0, none⟩) ys.length ys.length ∧ ys = xs.take ys.length)) := by
  obtain ⟨_, vs, h2, hL, rfl, h3⟩ := hr
  simp only [RFL, RF] at h2
  obtain ⟨v, r, e1, ⟨e2, e3, e4⟩, _⟩ := h2
  simp at e1
  obtain ⟨rfl, _⟩ := e1
  subst e3
  exact ⟨e2, e4, h3⟩
theorem sidx {t A l e s i0 N : Nat} {xs ys : List PV} {x i : Operand} {ik : IntKind} {j : Int} (h1 : tsl T t = some (e, s)) (h0 : 0 ≤ j) (hj : j < ((N - i0 : Nat) : Int)) (hN : N ≤ xs.length) :
    Ext P T (.indexAddr t x i) [.ssl l i0 N s, .d (.v (.int ik j))] [(A, .cu (splC e s xs ys) [.srf l])] (.ept l s (i0 + j.toNat) 0) [] := by
  intro n w0 st a w o hT hS ho hn hv hm K Q hK
  obtain ⟨ow, hd, hold, S⟩ := hS
  obtain ⟨d, op, tyo, pos, af, gd⟩ := o
  simp only at ho hn hK
  subst ho
  simp [Op.operands] at hv
  obtain ⟨hv1, hv2⟩ := hv
  have hml := hm (A, .cu (splC e s xs ys) [.srf l]) (by simp)
  simp only at hml
  have hx := S.eval x
  rw [hv1] at hx
  simp only [RF] at hx
  obtain ⟨hx0, ad, nn, c, x1, x2, x3, x4⟩ := hx
  obtain ⟨e6, _⟩ := S.v hv2
  obtain ⟨_, _, ho, _⟩ := spl_old (S.objs A _ hml)
  rcases ho with ⟨_, ho⟩ | ⟨b, C, cells, k1, k2, k3, k4, k5, k6⟩
  · rw [ho] at hN; simp at hN; omega
  rw [x1] at k1
  simp at k1
  obtain ⟨rfl, rfl, rfl⟩ := k1
  rw [if_neg (by omega), Option.map_some, Addr.add_mid, Nat.zero_add] at x4
  refine wp_val (v := .pointer (some ⟨b, i0 * s + j.toNat * s, none⟩)) (by simp [execOp, x4, e6, run_indexAt_sl hT h1 h0 hj]) (hK _ _ ⟨ow, hd, hold, S.put hn ?_⟩)
  simp only [RF]
  exact ⟨hx0, b, _, _, x1, by rw [Nat.add_mul, Nat.add_zero]⟩
theorem sload {t A l e s i : Nat} {xs ys : List PV} {y : PV} {cs : List PV} {x : Operand} (h1 : tagg T t = some true) (h2 : tsz T t = some s) (hy : xs[i]? = some y) (hf : fits s y = true) (hc : pcells y = cs) :
    Ext P T (.load t x) [.ept l s i 0] [(A, .cu (splC e s xs ys) [.srf l])] (.d (.agg cs)) [] := by
  subst hc
  intro n w0 st a w o hT hS ho hn hv hm K Q hK
  obtain ⟨ow, hd, hold, S⟩ := hS
  obtain ⟨d, op, tyo, pos, af, gd⟩ := o
  simp only at ho hn hK
  subst ho
  simp [Op.operands] at hv
  have hml := hm (A, .cu (splC e s xs ys) [.srf l]) (by simp)
  simp only at hml
  have hx := S.eval x
  rw [hv] at hx
  simp only [RF] at hx
  obtain ⟨hx0, b, nn, c, x1, x2⟩ := hx
  obtain ⟨_, _, ho, _⟩ := spl_old (S.objs A _ hml)
  rcases ho with ⟨_, ho⟩ | ⟨b', C, cells, k1, k2, k3, k4, k5, k6⟩
  · rw [ho] at hy; simp at hy
  rw [x1] at k1
  simp at k1
  obtain ⟨rfl, rfl, rfl⟩ := k1
  obtain ⟨u, q1, q2, q3, q4⟩ := k6.get i y hy
  have hrg : w.rangeAt b (i * s + 0) u.cells.toList := fun q v hv => by
    have hq : q < s := by
      have := (List.getElem?_eq_some_iff.1 hv).1
      simpa [q1] using this
    rw [← q4 q hq] at hv
    have := k5 (i * s + q) v hv
    rw [Nat.zero_add] at this
    rw [Nat.add_zero]; exact this
  have hr := run_loadAt_agg hT h1 h2 hrg (by simpa using q1)
  simp only [Nat.add_zero] at hr x2
  refine wp_val (v := .agg u.cells.toList.toArray) (by simp [execOp, x2, hr]) (hK _ _ ⟨ow, hd, hold, S.put hn (x := .d (.agg (pcells y))) ?_⟩)
  simp only [RF, R]
  exact ⟨_, rfl, R.cells q3 (fits_spec hf).1⟩
theorem run_append_clip {t ty e : TypeId} {i : TypeInfo} {z : Value} {s : Nat} (ht : P.underlying t = some (.slice e)) (hi : P.info? e = some i) (hz : i.zero = some z) (hsize : i.size = s) (hzs : z.cells.size = s) {b N M c : Nat} {olds news : List Value} {ad : Addr}
    (hlo : olds.length = N * s) (holds : w.rangeAt b 0 olds) (hl : news.length = M * s) (hnews : ∀ j u, news[j]? = some u → w.cell? (ad.add j) = some u) (hM : 0 < M) (h63 : N + M ≤ maxLen) (hbytes : (N + M) * i.bytes ≤ 140737488355328) :
    ∃ v' w', (Builtin.append_ #[t, t] ty #[.slice (some ⟨b, 0, none⟩) N N, .slice (some ad) M c]).run P w = .ok v' w' ∧ w'.ownsRow 0 e s v' (N + M) (olds ++ news) ∧ w.grownBy w' none ∧ (∃ gc, v' = .slice (some ⟨w.heap.size, 0, none⟩) (N + M) gc) ∧ w.heap.size < w'.heap.size := by
  subst hsize
  have hsmall : N + M ≤ 9223372036854775807 := by simp only [maxLen] at h63; omega
  have hlen : (olds ++ news).length = (N + M) * i.size := by rw [List.length_append, hlo, hl, Nat.add_mul]
  have hge := grownCap_ge w (N + M) N e
  have hcm : grownCap w (N + M) N e ≤ maxLen := grownCap_le_maxLen w (N + M) N e h63
  have hr := run_append_grow (P := P) w t ty e i z ht hi hz ⟨b, 0, none⟩ N N olds hlo (fun j v hj => by rw [Addr.add_mid]; exact holds j v hj) ad M c news hl hnews (by omega) (by omega) (growslice_fits (by omega) hbytes)
  refine ⟨_, _, hr, ⟨hlen, .inr ⟨w.heap.size, _, _, rfl, Nat.zero_le _, heap_alloc_new w.drew _, hge, hcm, ?_, ?_⟩⟩, ⟨rfl, rfl, rfl, by simp, fun k hk _ => heap_alloc_old w.drew _ hk⟩, ⟨_, rfl⟩, by simp⟩
  · simp only [Array.size_append, List.size_toArray, size_zeroCells, hzs, hlo, hl, ← Nat.add_mul]
    congr 1
    omega
  · simp only [Array.toList_append, List.append_assoc]
    rw [← List.append_assoc, ← hlen]
    exact List.take_left
/-- append(s, v...) to a row, or to a clipped head -/
theorem fapp {t e s l nl : Nat} {ti : TI} {xs ys zs : List PV} {x y : Operand} (hzs : xs ++ ys = zs) (h1 : tsl T t = some (e, s)) (h2 : T[e]? = some ti) (h3 : ti.zero.length = s) (h4 : 0 < s) (hy : ys.all (fits s) = true) (hy0 : ys ≠ []) (h8 : xs.length + ys.length ≤ maxLen) (h9 : (xs.length + ys.length) * ti.bytes ≤ 140737488355328) (hne : l ≠ nl) :
    Ext P T (.call ⟨.builtin .append, #[x, y], #[t, t]⟩) [.srf l, .d (.sl ys)] [(l, .cu (rowF e s xs) []), (nl, .free)] (.srf nl) [(l, .none), (nl, .row e s zs)] := by
  subst hzs
  intro n w0 st a w o hT hS ho hn hv hm K Q hK
  obtain ⟨ow, hd, hold, S⟩ := hS
  have hml := hm (l, .cu (rowF e s xs) []) (by simp)
  have hnl := hm (nl, .free) (by simp)
  simp only at hml hnl
  obtain ⟨hO1, vs0, _, hO3⟩ := S.objs l _ hml
  rcases hO3 with ⟨cells, q1, q2⟩ | ⟨b, cells, q1, q2, q3, q4, q5⟩
  · have key : Ext P T (.call ⟨.builtin .append, #[x, y], #[t, t]⟩) [.srf l, .d (.sl ys)] [(l, .row e s xs), (nl, .free)] (.srf nl) [(l, .none), (nl, .row e s (xs ++ ys))] := by
      refine ext_of0 fun ρ mm hv hm => ?_
      simp [Op.operands, Call.operands] at hv
      have := PAct0.append (P := P) (T := T) (ρ := ρ) (m := mm) (nl := nl) t x y e s ti xs ys [(l, .none)] [l] [] (hm (nl, .free) (by simp)) h1 h2 h3 h4 (by rw [hv.1]; exact .row l _ (hm (l, .row e s xs) (by simp))) (by rw [hv.2]; exact .sl _) hy h8 h9
      exact ⟨nl, _, this⟩
    have S1 := S.re (o' := .row e s xs) hml rfl rfl ⟨cells, q1, hO1, q2⟩
    refine key n w0 ⟨st.f, st.m.set l (.row e s xs)⟩ a w o hT ⟨ow, hd, hold, S1⟩ ho hn hv (fun q hq => ?_) K Q (fun a' w' h' => hK a' w' ?_)
    · simp at hq
      rcases hq with rfl | rfl
      · show (st.m.set l _)[l]? = _
        rw [List.getElem?_set, if_pos rfl, if_pos (List.getElem?_eq_some_iff.1 hml).1]
      · exact get_set_ne hnl (Ne.symm hne)
    · simp only [PS.act] at h' ⊢
      rw [updM_over _ st.m l _ ⟨(l, .none), by simp, rfl⟩] at h'
      exact h'
  · obtain ⟨d, op, tyo, pos, af, gd⟩ := o
    simp only at ho hn hK
    subst ho
    simp [Op.operands, Call.operands] at hv
    obtain ⟨hv1, hv2⟩ := hv
    obtain ⟨ti', dd, e1, e2, e3, e4, e5, e6⟩ := hT.info h2
    obtain ⟨hu, hs⟩ := tsl_und hT h1
    have hsi := tsz_info hT hs
    rw [e1] at hsi
    simp at hsi
    obtain ⟨z, hz, e6⟩ := e6 (fun e => by rw [e] at h3; simp at h3; omega)
    have hzl : z.cells.size = s := by
      have := congrArg List.length (zsOk_pv e6).1
      simp at this; omega
    have hx := S.eval x
    rw [hv1] at hx
    simp only [RF] at hx
    have hyv := S.d hv2
    simp only [R] at hyv
    obtain ⟨ya, yc, y1, y2, y3, y4⟩ := hyv
    rcases y4 with y4 | ⟨b2, off, sz, ycells, rfl, y5, y6, y7, y8⟩
    · exact absurd y4 hy0
    have y9 := y8.resize hy
    have hM : 0 < ys.length := by cases ys with | nil => exact absurd rfl hy0 | cons _ _ => simp
    obtain ⟨v', w', r1, r2, r3, ⟨gc, r4⟩, r5⟩ := run_append_clip (P := P) (w := w) (ty := tyo) (c := yc) hu e1 hz hsi hzl q5.length q4 y9.length (fun j u hj => by rw [Addr.add_mid]; exact y7 j u hj) hM h8 (by rw [e4]; exact h9)
    have S1 := S.kill l
    have hnl1 : (st.m.set l PO.none)[nl]? = some .free := get_set_ne hnl (Ne.symm hne)
    obtain ⟨ow', hd', ⟨g1, g2⟩, g3, g4⟩ := S1.newRow (e := e) (s := s) (xs := xs ++ ys) (cells := cells ++ ycells) hnl1 (v' := v') (w' := w') (by rw [List.length_append]; exact r2) r3 (fun b hb => by rw [r4] at hb; simp [blocksOf, blockOf] at hb; subst hb; exact ⟨rfl, r5⟩) (q5.append y9) ⟨_, _, _, r4⟩
    have hrun : (execOp a.eval ⟨d, .call ⟨.builtin .append, #[x, y], #[t, t]⟩, tyo, pos, af, gd⟩).run P w = .ok (.value v') w' := by
      simp [execOp, resolve, invoke, builtin, hx.2.1, q1, y1, r1]
    refine wp_val' hrun (hK _ _ ⟨ow', hd', hold.step fun b hb hno => g1 b (Nat.lt_of_lt_of_le hb S.below.size), g3.put hn g4⟩)
theorem SimW.splNew {f : List FV} {m : List PO} {ow1 ow' : Nat → Bool} {w' : World} {v' : Value} {e s l nl : Nat} {xs zs : List PV} {cells : List Value} (S1 : SimW n w0 ⟨f, m⟩ a w ow1 hd) (hnl : m[nl]? = some .free) (hne : l ≠ nl) (hal : al m l = true) (ho1 : (hd l).oneCell' = true) (hkp : Kp ow1 w ow' w') (hkt : Kt w0 w w') (hfr : ∀ b, w'.heap.size ≤ b → ow' b = false)
    (hown : w'.ownsRow 0 e s v' zs.length cells) (hre : RE ow1 w s zs cells) (hnew : ∀ b, b ∈ blocksOf v' → w0.New b ∧ ow' b = true) (hpub : ∀ b, b ∈ blocksOf (hd l) → ow1 b = false) (hold : oldI s xs ow1 w (hd l))
    (hkeep : ∀ j oj b, j ≠ nl → m[j]? = some oj → oj.live = true → b ∈ blocksOf (hd j) → w'.heap[b]? = w.heap[b]? ∧ ow' b = ow1 b ∧ b ∉ blocksOf v') :
    SimW n w0 ⟨f, m.set nl (.cu (splC e s xs zs) [.srf l])⟩ a w' ow' (upd hd nl v') ∧ RF (al (m.set nl (.cu (splC e s xs zs) [.srf l]))) (upd hd nl v') ow' w' (.srf nl) v' := by
  have hlen : nl < m.length := (List.getElem?_eq_some_iff.1 hnl).1
  have hl' : upd hd nl v' l = hd l := upd_ne _ _ hne
  refine ⟨S1.obj (l := nl) (hv := v') (o := .cu (splC e s xs zs) [.srf l]) hkp hkt hfr (.inl (by simp [al, hnl, PO.made])) rfl ⟨hnew, [hd l], ?_, hd l, rfl, hold.kp hkp (fun b hb => hkp.same b (hold.lt b hb) (hpub b hb)), .inl ⟨cells, hown, RE.mono hkp _ _ _ hre, fun b hb => hkp.pub b (hold.lt b hb) (hpub b hb)⟩⟩ (fun j oj b h1 h2 h3 h4 => ⟨(hkeep j oj b h1 h2 h3 h4).1, (hkeep j oj b h1 h2 h3 h4).2.1, fun _ => (hkeep j oj b h1 h2 h3 h4).2.2⟩), ?_⟩
  · simp only [RFL, RF]
    exact ⟨hd l, [], rfl, ⟨al_set_mono rfl l hal, hl'.symm, by rw [hl']; exact ho1⟩, ho1, rfl⟩
  · simp only [RF]
    exact ⟨by rw [al_set_same hlen]; rfl, by rw [upd_same], by rw [upd_same]; exact owns_one hown⟩
/-- append(s, v...) to a row that is built anew beside the old one -/
theorem sapp {t e s A l nl : Nat} {ti : TI} {xs ys us zs : List PV} {x y : Operand} (hzs : ys ++ us = zs) (h1 : tsl T t = some (e, s)) (h2 : T[e]? = some ti) (h3 : ti.zero.length = s) (h4 : 0 < s) (hy : us.all (fits s) = true) (hy0 : us ≠ []) (h8 : ys.length + us.length ≤ maxLen) (h9 : (ys.length + us.length) * ti.bytes ≤ 140737488355328) (hne : A ≠ nl) :
    Ext P T (.call ⟨.builtin .append, #[x, y], #[t, t]⟩) [.srf A, .d (.sl us)] [(A, .cu (splC e s xs ys) [.srf l]), (nl, .free)] (.srf nl) [(A, .none), (nl, .cu (splC e s xs zs) [.srf l])] := by
  subst hzs
  intro n w0 st a w o hT hS ho hn hv hm K Q hK
  obtain ⟨ow, hd, hold, S⟩ := hS
  have hml := hm (A, .cu (splC e s xs ys) [.srf l]) (by simp)
  have hnl := hm (nl, .free) (by simp)
  simp only at hml hnl
  have hO := S.objs A _ hml
  have hO1 := hO.1
  obtain ⟨o1, o2, o3, o4⟩ := spl_old hO
  have hl : l ≠ nl := fun e => by subst e; simp [al, hnl, PO.made] at o1
  obtain ⟨d, op, tyo, pos, af, gd⟩ := o
  simp only at ho hn hK
  subst ho
  simp [Op.operands, Call.operands] at hv
  obtain ⟨hv1, hv2⟩ := hv
  obtain ⟨ti', dd, e1, e2, e3, e4, e5, e6⟩ := hT.info h2
  obtain ⟨hu, hs⟩ := tsl_und hT h1
  have hsi := tsz_info hT hs
  rw [e1] at hsi
  simp at hsi
  obtain ⟨z, hz, e6⟩ := e6 (fun e => by rw [e] at h3; simp at h3; omega)
  have hzl : z.cells.size = s := by
    have := congrArg List.length (zsOk_pv e6).1
    simp at this; omega
  have hx := S.eval x
  rw [hv1] at hx
  simp only [RF] at hx
  have hyv := S.d hv2
  simp only [R] at hyv
  obtain ⟨ya, yc, y1, y2, y3, y4⟩ := hyv
  rcases y4 with y4 | ⟨b2, off, sz, ycells, rfl, y5, y6, y7, y8⟩
  · exact absurd y4 hy0
  have y9 := y8.resize hy
  have hM : 0 < us.length := by cases us with | nil => exact absurd rfl hy0 | cons _ _ => simp
  have hbase := S.below.size
  have hnews : ∀ j u, ycells[j]? = some u → w.cell? ((⟨b2, off, none⟩ : Addr).add j) = some u := fun j u hj => by rw [Addr.add_mid]; exact y7 j u hj
  have S1 := S.kill A
  have hnl1 : (st.m.set A PO.none)[nl]? = some .free := get_set_ne hnl (Ne.symm hne)
  have hA1 : (st.m.set A PO.none)[l]? = st.m[l]? ∨ l = A := by
    by_cases e : l = A
    · exact .inr e
    · left; rw [List.getElem?_set, if_neg (Ne.symm e)]
  have hal1 : al (st.m.set A .none) l = true := al_set_mono rfl l o1
  rcases o4 with ⟨cells, q1, q2, q3⟩ | ⟨b, C, q1, q2, q3⟩
  · -- a row of its own
    obtain ⟨v', w', r1, r2, r3, r4⟩ := run_append_own2 (P := P) (w := w) 0 t tyo e ti' z s ti.bytes hu e1 hz hsi e4 hzl h4 _ _ _ q1 ⟨b2, off, none⟩ us.length yc ycells y9.length hnews y9.one h8 h9 (Nat.zero_le _)
    have hbl : (hd A).ownBlock = blockOf (hd A) := by
      rcases q1.2 with ⟨hb, _⟩ | ⟨g, cap, cur, hb, _⟩
      · exact ownBlock_eq hb
      · exact ownBlock_eq hb
    rw [hbl] at r3
    have hlt' : ∀ b, b ∈ blocksOf v' → w0.New b ∧ b < w'.heap.size := by
      intro b hb
      refine ⟨?_, (owns_bo r2 hb).2⟩
      rcases r4 b hb with e' | e'
      · exact (hO1 b e').1
      · exact .inl (by rw [e']; exact hbase)
    have hkp : Kp ow w (fun b => if b ∈ blocksOf v' then true else ow b) w' := by
      refine ⟨r3.size, fun b hb h => ?_, fun b hb h => r3.block b hb (fun e => by rw [(hO1 b (mem_of_bo e.symm)).2] at h; cases h)⟩
      show (if b ∈ blocksOf v' then true else ow b) = false
      rw [if_neg]
      · exact h
      · intro e
        rcases r4 b e with e' | e'
        · rw [(hO1 b e').2] at h; cases h
        · omega
    have hbel : Kt w0 w w' := ⟨r3.os, r3.tape, r3.output, r3.size, fun k hk hown => r3.block k (Nat.lt_of_lt_of_le hk hbase) (fun e => by
      rcases (hO1 k (mem_of_bo e.symm)).1 with h' | h'
      · omega
      · rw [h'] at hown; cases hown)⟩
    have hrun : (execOp a.eval ⟨d, .call ⟨.builtin .append, #[x, y], #[t, t]⟩, tyo, pos, af, gd⟩).run P w = .ok (.value v') w' := by
      simp [execOp, resolve, invoke, builtin, hx.2.1, y1, r1]
    obtain ⟨S2, S3⟩ := S1.splNew (e := e) (s := s) (l := l) (nl := nl) (xs := xs) (zs := ys ++ us) (v' := v') (cells := cells ++ ycells) hnl1 hl hal1 o2 hkp hbel
      (fun b hb => by
        show (if b ∈ blocksOf v' then true else ow b) = false
        rw [if_neg]
        · exact S.fresh b (Nat.le_trans r3.size hb)
        · intro e; have := hlt' b e; omega)
      (by rw [List.length_append]; exact r2) (q2.append y9) (fun b hb => ⟨(hlt' b hb).1, by show (if b ∈ blocksOf v' then true else ow b) = true; rw [if_pos hb]⟩) q3 o3
      (fun j oj b hne2 hj hlv hb => by
        obtain ⟨hj', hjA⟩ := kill_live hj hlv
        have hbj := ((S.objs j oj hj').lt hlv b hb).1
        have hnb : b ∉ blocksOf (hd A) := fun hb' => S.dist j A oj _ b hjA hj' hml hlv rfl hb hb'
        have hnv : b ∉ blocksOf v' := by
          intro e
          rcases r4 b e with e' | e'
          · exact hnb e'
          · omega
        exact ⟨r3.block b hbj (fun e => hnb (mem_of_bo e.symm)), if_neg hnv, hnv⟩)
    refine wp_val' hrun (hK _ _ ⟨_, _, hold.step fun b hb hown => ?_, S2.put hn S3⟩)
    show (if b ∈ blocksOf v' then true else ow b) = ow b
    rw [if_neg]
    intro e
    rcases (hlt' b e).1 with h' | h'
    · omega
    · rw [h'] at hown; cases hown
  · -- the clipped head
    have hbA : ∀ c, c ∈ blocksOf (hd l) ↔ c = b := by intro c; rw [q1]; simp [blocksOf, blockOf, eq_comm]
    have hbA2 : ∀ c, c ∈ blocksOf (hd A) ↔ c = b := by intro c; rw [q2]; simp [blocksOf, blockOf, eq_comm]
    obtain ⟨k1, k2, k3⟩ := S1.publ hold (fun c => decide (c = b)) (fun c hc => (hO1 c ((hbA2 c).2 (by simpa using hc))).1) (fun j oj c hj hlv hc => by
      obtain ⟨hj', hjA⟩ := kill_live hj hlv
      have : c ≠ b := fun e => S.dist j A oj _ c hjA hj' hml hlv rfl hc ((hbA2 c).2 e)
      simpa using this)
    have o3' := o3.kp k1 (fun _ _ => rfl)
    rcases o3 with ⟨o3, _⟩ | ⟨b', C', cells, j1, j2, j3, j4, j5, j6⟩
    · rw [o3] at q1; cases q1
    rw [q1] at j1
    simp at j1
    obtain ⟨rfl, rfl⟩ := j1
    have hyl : ys.length ≤ xs.length := by rw [q3]; simp; omega
    have hc1 : w.rangeAt b 0 (cells.take (ys.length * s)) := fun j v hj => j5 j v (by
      rw [List.getElem?_take] at hj
      split at hj
      · exact hj
      · cases hj)
    have hc2 : RE ow w s ys (cells.take (ys.length * s)) := by
      have := RE.take ys.length j6
      rw [← q3] at this; exact this
    obtain ⟨v', w', r1, r2, r3, ⟨gc, r4⟩, r5⟩ := run_append_clip (P := P) (w := w) (ty := tyo) (c := yc) hu e1 hz hsi hzl hc2.length hc1 y9.length hnews hM h8 (by rw [e4]; exact h9)
    have hbv : ∀ c, c ∈ blocksOf v' ↔ c = w.heap.size := by intro c; rw [r4]; simp [blocksOf, blockOf, eq_comm]
    have hrun : (execOp a.eval ⟨d, .call ⟨.builtin .append, #[x, y], #[t, t]⟩, tyo, pos, af, gd⟩).run P w = .ok (.value v') w' := by
      simp [execOp, resolve, invoke, builtin, hx.2.1, q2, y1, r1]
    have hkp : Kp (fun c => ow c && !decide (c = b)) w (fun c => if c = w.heap.size then true else (ow c && !decide (c = b))) w' := by
      refine ⟨r3.size, fun c hc h => ?_, fun c hc h => r3.block c hc (fun e => by cases e)⟩
      show (if c = w.heap.size then true else (ow c && !decide (c = b))) = false
      rw [if_neg (by omega)]; exact h
    have hbel : Kt w0 w w' := ⟨r3.os, r3.tape, r3.output, r3.size, fun k hk hown => r3.block k (Nat.lt_of_lt_of_le hk hbase) (fun e => by cases e)⟩
    obtain ⟨S2, S3⟩ := k3.splNew (e := e) (s := s) (l := l) (nl := nl) (xs := xs) (zs := ys ++ us) (v' := v') (cells := cells.take (ys.length * s) ++ ycells) hnl1 hl hal1 o2 hkp hbel
      (fun c hc => by
        show (if c = w.heap.size then true else (ow c && !decide (c = b))) = false
        rw [if_neg (by omega), S.fresh c (Nat.le_trans r3.size hc)]; rfl)
      (by rw [List.length_append]; exact r2) (RE.mono k1 _ _ _ (hc2.append y9)) (fun c hc => ⟨.inl (by rw [(hbv c).1 hc]; exact hbase), by show (if c = w.heap.size then true else (ow c && !decide (c = b))) = true; rw [if_pos ((hbv c).1 hc)]⟩)
      (fun c hc => by show (ow c && !decide (c = b)) = false; rw [(hbA c).1 hc]; simp) o3'
      (fun j oj c hne2 hj hlv hc => by
        obtain ⟨hj', hjA⟩ := kill_live hj hlv
        have hbj := ((S.objs j oj hj').lt hlv c hc).1
        exact ⟨r3.block c hbj (fun e => by cases e), if_neg (by omega), fun e => by have := (hbv c).1 e; omega⟩)
    refine wp_val' hrun (hK _ _ ⟨_, _, k2.step fun c hc hown => ?_, S2.put hn S3⟩)
    show (if c = w.heap.size then true else (ow c && !decide (c = b))) = (ow c && !decide (c = b))
    rw [if_neg (by omega)]
/-- a row, or a clipped head, in another place -/
def fmvS (l e s : Nat) (xs : List PV) (st : PS) : PS := ⟨smvL l st.m.length st.f, ((st.m.map (smvO l st.m.length)).set l .none) ++ [.cu (rowF e s xs) []]⟩
theorem fmv {l e s : Nat} {xs : List PV} : SilX [(l, .cu (rowF e s xs) [])] (fmvS l e s xs) := by
  intro st hm
  refine ⟨smvL_length _ _ _, fun n w0 a w S => ?_⟩
  obtain ⟨ow, hd, hold, S⟩ := S
  have hm := hm (l, .cu (rowF e s xs) []) (by simp)
  simp only at hm
  have S0 := S.room 1
  have hlt : l < st.m.length := (List.getElem?_eq_some_iff.1 hm).1
  have hm0 : (st.m ++ List.replicate 1 PO.free)[l]? = some (.cu (rowF e s xs) []) := by rw [List.getElem?_append_left hlt]; exact hm
  have hf0 : (st.m ++ List.replicate 1 PO.free)[st.m.length]? = some .free := by rw [List.getElem?_append_right (Nat.le_refl _)]; simp
  have hne : l ≠ st.m.length := by omega
  have hO := S0.objs l _ hm0
  obtain ⟨ad, cap, hh, _⟩ := rowF_hd hO
  have hone : (hd l).oneCell' = true := by rw [hh]; rfl
  obtain ⟨o1, vs, o2, o3⟩ := hO
  obtain ⟨q2, q1, q3⟩ := (S0.kill l).add (o := .cu (rowF e s xs) []) (hv := hd l) (get_set_ne hf0 (Ne.symm hne)) rfl ⟨o1, [], by simp [RFL], o3⟩
    (fun j oj b hne2 hj hlv hb1 hb2 => by
      obtain ⟨hj', hjl⟩ := kill_live hj hlv
      exact S0.dist j l oj _ b hjl hj' hm0 hlv rfl hb1 hb2)
  have hmm : ((st.m ++ List.replicate 1 PO.free).set l .none).set st.m.length (.cu (rowF e s xs) []) = st.m.set l .none ++ [.cu (rowF e s xs) []] := by
    rw [List.set_append_left _ _ hlt, List.set_append_right _ _ (by simp)]
    simp
  simp only [] at q1 q2 q3
  rw [hmm] at q1 q2 q3
  have hkl : upd hd st.m.length (hd l) st.m.length = upd hd st.m.length (hd l) l := by rw [upd_same, upd_ne _ _ hne]
  have q4 := q2.toSimH.smvO q3 hkl
  have hmap : (st.m.set l .none ++ [PO.cu (rowF e s xs) []]).map (pv.smvO l st.m.length) = ((st.m.map (pv.smvO l st.m.length)).set l .none) ++ [.cu (rowF e s xs) []] := by
    rw [List.map_append, List.map_set]; rfl
  have hal' : al (((st.m.map (pv.smvO l st.m.length)).set l .none) ++ [.cu (rowF e s xs) []]) = al (st.m.set l .none ++ [PO.cu (rowF e s xs) []]) := by
    rw [← hmap]; exact al_smvO
  simp only at q4
  rw [hmap] at q4
  refine ⟨ow, _, hold, { q4 with defers := q2.defers, size := q2.size, slots := fun i => ?_ }⟩
  show RF _ _ _ _ ((smvL l st.m.length st.f).getD i .dead) _
  rw [List.getD_eq_getElem?_getD, smvL_get]
  have hs := q2.slots i
  rw [List.getD_eq_getElem?_getD] at hs
  cases hf : st.f[i]? with
  | none => simp only [Option.map_none, Option.getD_none, RF]
  | some x =>
    simp only [Option.map_some, Option.getD_some]
    rw [hf] at hs
    show RF (al (((st.m.map (pv.smvO l st.m.length)).set l .none) ++ [.cu (rowF e s xs) []])) _ _ _ _ _
    rw [hal']
    exact RF.smv q3 hkl _ _ hs
theorem slen {t A l e s : Nat} {xs ys : List PV} {x : Operand} (h1 : tsl T t = some (e, s)) : Ext P T (.call ⟨.builtin .len, #[x], #[t]⟩) [.srf A] [(A, .cu (splC e s xs ys) [.srf l])] (.d (.v (.int .i64 (ys.length : Int)))) [] := by
  intro n w0 st a w oo hT hS ho hn hv hm K Q hK
  obtain ⟨ow, hd, hold, S⟩ := hS
  obtain ⟨d, op, ty, pos, af, gd⟩ := oo
  simp only at ho hn hK
  subst ho
  simp [Op.operands, Call.operands] at hv
  have hml := hm (A, .cu (splC e s xs ys) [.srf l]) (by simp)
  simp only at hml
  have hh : ∃ ad cap, hd A = .slice ad ys.length cap := by
    obtain ⟨_, _, _, ⟨cells, h1, _⟩ | ⟨b, C, _, h2, _⟩⟩ := spl_old (S.objs A _ hml)
    · rcases h1.2 with ⟨q1, q2⟩ | ⟨g, cap, cur, q1, _⟩
      · exact ⟨none, 0, by rw [q1, q2]⟩
      · exact ⟨_, cap, q1⟩
    · exact ⟨_, _, h2⟩
  obtain ⟨ad, cap, hh⟩ := hh
  have hx := S.eval x
  rw [hv] at hx
  simp only [RF] at hx
  have hrun : (execOp a.eval ⟨d, .call ⟨.builtin .len, #[x], #[t]⟩, ty, pos, af, gd⟩).run P w = .ok (.value (.int .i64 (ys.length : Int))) w := by
    simp [execOp, resolve, invoke, builtin, hx.2.1, hh, Builtin.len_, run_underlying (tsl_und hT h1).1, goInt]
  exact wp_val hrun (hK _ _ ⟨ow, hd, hold, S.put hn (x := .d (.v (.int .i64 (ys.length : Int)))) (by simp only [RF, R]; exact ⟨trivial, rfl⟩)⟩)
theorem lmap {α : Type} {f : α → PV} {L : List α} {op : Op} {vs : List FV} {m0 U : List (Nat × PO)} {l i s : Nat} (h : Ext P T op vs m0 (.ssl l i (L.map f).length s) U) : Ext P T op vs m0 (.ssl l i L.length s) U := by rw [List.length_map] at h; exact h
theorem lmap' {α : Type} {f : α → PV} {L : List α} {op : Op} {vs : List FV} {m0 U : List (Nat × PO)} (h : Ext P T op vs m0 (.d (.v (.int .i64 ((L.map f).length : Int)))) U) : Ext P T op vs m0 (.d (.v (.int .i64 (L.length : Int)))) U := by rw [List.length_map] at h; exact h
end
end Go.Proofs.Ytdimcmpkhbfcnaa.pv
