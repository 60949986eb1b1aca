/- The interpreter's operations are acts: copies, clears. -/
import Derived.Test.YtnkdanobhgofbaaGreatDoorVPP
namespace Go.Proofs.YtnkdanobhgofbaaGreatDoor.pv
set_option linter.all false
open Go.RowKit
theorem RE_RL {ow : Ow} {w : World} {s : Nat} : ∀ {ys : List PV} {news : List Value}, ys.all (fits s) = true → RE ow w s ys news → RL ow w (ys.flatMap pcells) news
  | [], news, _, h => by simp only [RE] at h; subst h; simp [RL]
  | y :: ys, news, hf, h => by
    simp only [List.all_cons, Bool.and_eq_true] at hf
    simp only [RE] at h
    obtain ⟨u, r, rfl, h1, h2, h3, h4⟩ := h
    rw [List.flatMap_cons]
    exact RL.append (R.cells h3 (fits_spec hf.1).1) (RE_RL hf.2 h4)
section
variable {P : Program} {T : List TI}
theorem SimW.putBoxAt {n : Nat} {w0 : Cx} {st : PS} {a : Act} {w : World} {ow : Ow} {hd : Nat → Value} {l b off : Nat} {cs : List FV} {zs : List FV} {news : List Value} (S : SimW n w0 st a w ow hd) (hm : st.m[l]? = some (.box cs)) (hh : hd l = .pointer (some ⟨b, 0, none⟩)) (hk : off + zs.length ≤ cs.length) (hr : RFL (al st.m) hd ow w zs news) :
    w.there b off news.length ∧ SimW n w0 ⟨st.f, st.m.set l (.box (splice cs off zs))⟩ a (w.setCells b off news) ow hd := by
  obtain ⟨b', vals, t, h1, h2, h3, h4, h5⟩ := S.objs l _ hm
  rw [hh] at h1
  simp at h1
  subst h1
  have hnl := hr.length
  have hcl := RFL.length h5
  have hvl : vals.size = cs.length := by simpa using hcl
  obtain ⟨cur', q1, q2, q3⟩ := setCells_block b t (0, 0) news off w vals h4 (by omega)
  have ho := fun j hj => setCells_other b news off w j hj
  have hkp : Kp ow w ow (w.setCells b off news) := ⟨by rw [setCells_size]; exact Nat.le_refl _, fun _ _ h => h, fun j _ hj => ho j (fun e => by rw [e, h3] at hj; cases hj)⟩
  refine ⟨there_of_block h4 (by omega), ?_⟩
  refine S.set (o' := .box _) hm rfl rfl (b := b) (by rw [hh]; simp [blocksOf, blockOf]) ho (setCells_size b _ _ w) (Kt.of_one (setCells_below b _ (Nat.le_refl _) _ _ w) h2 ho)
    ⟨b, cur', t, hh, h2, h3, q1, ?_⟩
  rw [q2]
  exact RFL.mono hkp (fun l h => ⟨al_set_mono (.inr rfl) l h, rfl⟩) _ _ (splice_RFL off h5 hr)
/-- copy(a[i:j], ..), a an array in a variable -/
theorem ext_cpArr {t t' e s l off k c : Nat} {ag : Bool} {ti : TI} {cs : List FV} {ys : List PV} {x y : Operand} {m0 : List (Nat × PO)} (fy : FV) (h1 : tsl T t = some (e, s)) (h2 : T[e]? = some ti) (hm0 : (l, PO.box cs) ∈ m0) (hf : ys.all (fits s) = true) (hk : off + Nat.min ys.length k * s ≤ cs.length)
    (hs : ∀ (n : Nat) (w0 : Cx) (st : PS) (a : Act) (w : World) (ow : Ow) (hd : Nat → Value), SimW n w0 st a w ow hd → ev st.f y = fy → (∀ q ∈ m0, st.m[q.1]? = some q.2) → Src ow w s (a.eval y) ys) :
    Ext P T (.call ⟨.builtin .copy, #[x, y], #[t, t']⟩) [.asl l off k c s ag, fy] m0 (.d (.v (.int .i64 (Nat.min ys.length k : Nat)))) [(l, .box (splice cs off (((ys.take (Nat.min ys.length k)).flatMap pcells).map FV.d)))] := by
  intro n w0 st a w o hT hS ho hn hvs hm K Q hK
  obtain ⟨ow, hd, hold, S⟩ := hS
  obtain ⟨d, op, ty, pos, af, gd⟩ := o
  simp only at ho hn hK
  subst ho
  have hml := hm (l, .box cs) hm0
  simp only at hml
  simp [Op.operands, Call.operands] at hvs
  have hx : RF (al st.m) hd ow w (.asl l off k c s ag) (a.eval x) := by rw [← hvs.1]; exact S.eval x
  obtain ⟨adS, capS, y1, y2⟩ := hs n w0 st a w ow hd S hvs.2 hm
  obtain ⟨i', dd, e1, e2, e3, e4, e5, e6⟩ := hT.info h2
  obtain ⟨hu, hs'⟩ := tsl_und hT h1
  have hsi := tsz_info hT hs'
  rw [e1] at hsi
  simp at hsi
  simp only [RF] at hx
  obtain ⟨hA, b, x1, x4, hkc, hcm⟩ := hx
  have hmin : Nat.min ys.length k ≤ ys.length := Nat.min_le_left _ _
  have hmin2 : Nat.min ys.length k ≤ k := Nat.min_le_right _ _
  have hlen : (ys.take (Nat.min ys.length k)).length = Nat.min ys.length k := by rw [List.length_take]; exact Nat.min_eq_left hmin
  generalize hmm : Nat.min ys.length k = m at *
  have hfc : ∃ news : List Value, (∀ n' c', (Builtin.firstCells i'.size m (.slice adS n' c')).run P w = .ok news.toArray w) ∧ RE ow w s (ys.take m) news := by
    rcases y2 with rfl | ⟨b, off, cells, rfl, g1, g2⟩
    · have : m = 0 := by simpa using hmin
      subst this
      refine ⟨[], fun n' c' => ?_, by simp [RE]⟩
      cases adS with
      | none => simp [Builtin.firstCells]
      | some ad => simpa using run_firstCells_some (P := P) w i'.size 0 ad n' c' [] (by simp) (by simp)
    · have g3 := RE.take m g2
      refine ⟨cells.take (m * s), fun n' c' => run_firstCells_some (P := P) w i'.size m _ n' c' _ (by rw [g3.length, hsi, List.length_take, Nat.min_eq_left hmin]) (fun k u hk => ?_), g3⟩
      rw [addr_add]
      exact rangeAt_take g1 k u hk
  obtain ⟨news, f1, f2⟩ := hfc
  have hnl := f2.length
  rw [hlen] at hnl
  have hf' : (ys.take m).all (fits s) = true := by
    rw [List.all_eq_true] at hf ⊢
    exact fun y hy => hf y (List.mem_of_mem_take hy)
  have hRL := RE_RL hf' f2
  have hRF := RFL.of_RL (A := al st.m) (hd := hd) hRL
  have hzl := hRF.length
  obtain ⟨p1, S'⟩ := S.putBoxAt (off := off) hml x1 (by rw [← hzl]; omega) hRF
  have hst := run_storeCells_cells (P := P) b off news 0 w (fun k hk => (p1 k hk).1) (fun k hk => (p1 k hk).2) (RE.one f2)
  rw [Nat.add_zero] at hst
  have r1 : (Builtin.copy_ #[t, t'] ty #[a.eval x, a.eval y]).run P w = .ok (.int .i64 (m : Nat)) (w.setCells b off news) := by
    simp [x4, y1, Builtin.copy_, run_underlying hu, Builtin.lenOf, sizeOf, typeInfo, e1, hmm, f1, goInt, hst]
  have hrun : (execOp a.eval ⟨d, .call ⟨.builtin .copy, #[x, y], #[t, t']⟩, ty, pos, af, gd⟩).run P w = .ok (.value (.int .i64 (m : Nat))) (w.setCells b off news) := by
    simp [execOp, resolve, invoke, builtin, r1]
  exact wp_val' hrun (hK _ _ ⟨ow, hd, hold, S'.put hn (x := .d (.v _)) (by simp only [RF, R]; exact ⟨trivial, rfl⟩)⟩)
end
section
variable {α : Type} {E : Env} {N : Nat} {f : List (Nat × XV)} {m : List (Nat × XO)} {ps : PS} {nl : Nat} {K : KT α} {out : α}
theorem srcX_spec (A : Abs N f m ps) {y : Operand} {v : XV} (hv : evX f y = v) {s : Nat} {c : Ty} {xs : List c.den} {ls : List Nat} (h : srcX m v = some (s, ⟨c, xs⟩, ls)) : c.dat = true ∧ s = c.sz ∧ ev ps.f y = v.fv ∧ ∃ mo : List (Nat × PO), (∀ q ∈ mo, ps.m[q.1]? = some q.2 ∧ q.1 ∈ ls) ∧
    ∀ (n : Nat) (w0 : Cx) (st : PS) (a : Act) (w : World) (ow : Ow) (hd : Nat → Value), SimW n w0 st a w ow hd → ev st.f y = v.fv → (∀ q ∈ mo, st.m[q.1]? = some q.2) → Src ow w s (a.eval y) (List.map (fun y : c.den => (rep c y).pv) xs) := by
  unfold srcX at h
  split at h
  · rename_i l s0 d
    split at h
    · rename_i e' s' c' xs' ho
      obtain ⟨hb, hK⟩ := cond_some h
      clear h
      simp only [Bool.and_eq_true] at hb
      obtain ⟨⟨⟨h1, h2⟩, h3⟩, h4⟩ := hb
      cases hK
      have e1 := Nat.eq_of_beq_eq_true h1
      have e2 := Nat.eq_of_beq_eq_true h2
      have e4 := Nat.le_of_ble_eq_true h4
      subst e1
      refine ⟨h3, e2, ev_fv A hv rfl, [(l, .row e' s (List.map (fun y : c.den => (rep c y).pv) xs'))], fun q hq => ?_, fun n w0 st a w ow hd S hy hm => ?_⟩
      · rw [List.mem_singleton.1 hq]; exact ⟨A.at ho (by simp), by simp⟩
      · have := Src.of_ssl S hy (hm (l, .row e' s (List.map (fun y : c.den => (rep c y).pv) xs')) (by simp)) (by rw [lm c xs']; exact e4)
        rw [lm_td c xs']
        exact this
    · cases h
  · obtain ⟨t1, t2, t3, t4⟩ := elsX_spec A h
    refine ⟨t2, t3, ev_fv A hv t1, ?_⟩
    unfold elsX at h
    split at h
    · rename_i c' xs' _
      obtain ⟨hb, hK⟩ := cond_some h
      cases hK
      exact ⟨[], by simp, fun n w0 st a w ow hd S hy hm => Src.of_els S (by rw [hy]; exact .sl _) (fits_all t2 t3 _)⟩
    · rename_i l d _
      split at h
      · rename_i e' s' c' xs' ho
        obtain ⟨hb, hK⟩ := cond_some h
        cases hK
        refine ⟨[(l, .row e' s (List.map (fun y : c.den => (rep c y).pv) xs))], fun q hq => ?_, fun n w0 st a w ow hd S hy hm => ?_⟩
        · rw [List.mem_singleton.1 hq]; exact ⟨A.at ho (by simp), by simp⟩
        · exact Src.of_els S (by rw [hy]; exact .row l e' s _ (hm (l, .row e' s (List.map (fun y : c.den => (rep c y).pv) xs)) (by simp))) (fits_all t2 t3 _)
      · cases h
    · rename_i l p n s0 ag d _
      split at h
      · rename_i c0 z ho
        split at h
        · rename_i n' e y hg
          obtain ⟨hb, hK⟩ := cond_some h
          clear h
          simp only [Bool.and_eq_true, beq_iff_eq] at hb
          obtain ⟨⟨⟨⟨⟨⟨b1, b2⟩, b3⟩, b4⟩, b5⟩, b6⟩, b7⟩ := hb
          have b1 := Nat.eq_of_beq_eq_true b1
          have b2 := Nat.eq_of_beq_eq_true b2
          cases hK
          subst b1; subst b5; subst b2
          refine ⟨[(l, .box (rep c0 z).cells)], fun q hq => ?_, fun n0 w0 st a w ow hd S hy hm => ?_⟩
          · rw [List.mem_singleton.1 hq]; exact ⟨A.at ho (by simp), by simp⟩
          · refine Src.of_els (ls := [l]) S ?_ (fits_all t2 t3 _)
            rw [hy]
            obtain ⟨hw, pre, post, ⟨l1, l2⟩, _⟩ := getP_spec p _ ⟨c0, z⟩ ⟨.ar n c, y⟩ (dat_cel _ b4) hg
            let L : List c.den := Subtype.val (p := fun xs : List c.den => xs.length = n) y
            have hLl : L.length = n := Subtype.property (p := fun xs : List c.den => xs.length = n) y
            have l1 : (rep c0 z).cells = pre ++ (L.flatMap fun y => (rep c y).cells) ++ post := l1
            exact els_arr b4 b3 (hm (l, .box (rep c0 z).cells) (by simp)) l1 l2 (Nat.le_of_ble_eq_true b6) (by rw [hLl]; exact Nat.le_of_ble_eq_true b7)
        · cases h
      · cases h
    · cases h
theorem RE_ofB {ow : Ow} {w : World} : ∀ L : List Int, RE ow w 1 (L.map fun z => (PV.v (.int .u8 z))) (L.map (Value.int .u8))
  | [] => by simp only [List.map_nil, RE]
  | x :: L => by
    simp only [List.map_cons, RE, R]
    exact ⟨.int .u8 x, L.map (Value.int .u8), rfl, rfl, by
      intro v hv
      have : v = .int .u8 x := by simpa [Value.cells] using hv
      subst this; rfl, ⟨rfl, rfl⟩, RE_ofB L⟩
theorem SrcB_str {P : Program} {ow : Ow} {w : World} (L : List UInt8) : SrcB P ow w 1 (.string ⟨⟨L⟩⟩) ((i8u L).map fun z => (PV.v (.int .u8 z))) := by
  refine ⟨by simp [Builtin.lenOf, i8u, ByteArray.size], fun m hm => ⟨((i8u L).take m).map (Value.int .u8), ?_, ?_⟩⟩
  · simp only [Builtin.firstCells, Sem.run_pure]
    congr 1
    apply Array.toList_inj.1
    simp [i8u, ByteArray.data_extract, List.map_take]
    rfl
  · rw [← List.map_take]; exact RE_ofB _
theorem srcC_spec {P : Program} (A : Abs N f m ps) {y : Operand} {v : XV} (hv : evX f y = v) {s : Nat} {c : Ty} {xs : List c.den} {ls : List Nat} (h : srcC m v = some (s, ⟨c, xs⟩, ls)) : c.dat = true ∧ s = c.sz ∧ ev ps.f y = v.fv ∧ ∃ mo : List (Nat × PO), (∀ q ∈ mo, ps.m[q.1]? = some q.2 ∧ q.1 ∈ ls) ∧
    ∀ (n : Nat) (w0 : Cx) (st : PS) (a : Act) (w : World) (ow : Ow) (hd : Nat → Value), SimW n w0 st a w ow hd → ev st.f y = v.fv → (∀ q ∈ mo, st.m[q.1]? = some q.2) → SrcB P ow w s (a.eval y) (List.map (fun y : c.den => (rep c y).pv) xs) := by
  unfold srcC at h
  split at h
  · rename_i L
    cases h
    refine ⟨rfl, rfl, ev_fv A hv rfl, [], by simp, fun n w0 st a w ow hd S hy _ => ?_⟩
    have hy : ev st.f y = .d (.v (.string ⟨⟨L⟩⟩)) := hy
    rw [(S.v hy).1]
    exact SrcB_str L
  · obtain ⟨t1, t2, t3, mo, m1, m2⟩ := srcX_spec A hv h
    exact ⟨t1, t2, t3, mo, m1, fun n w0 st a w ow hd S hy hm => (m2 n w0 st a w ow hd S hy hm).toB⟩
theorem lm_cpy (c : Ty) (L Y : List c.den) (i j : Nat) : List.map (fun y : c.den => (rep c y).pv) (cpyR L i j Y) = (List.map (fun y : c.den => (rep c y).pv) L).take i ++ (List.map (fun y : c.den => (rep c y).pv) Y).take (j - i) ++ (List.map (fun y : c.den => (rep c y).pv) L).drop (i + Nat.min Y.length (j - i)) := by
  unfold cpyR
  rw [List.map_append, List.map_append, List.map_take, List.map_take, List.map_drop]
theorem flat_pc {c : Ty} (hd : c.dat = true) (ys : List c.den) : ((List.map (fun y : c.den => (rep c y).pv) ys).flatMap pcells).map FV.d = ys.flatMap fun y => (rep c y).cells := by
  induction ys with
  | nil => rfl
  | cons y ys ih =>
    rw [List.map_cons, List.flatMap_cons, List.map_append, ih, List.flatMap_cons, (rep_dat c y hd).2.2.1, (rep_dat c y hd).1]
theorem cp_cells {e2 : Ty} (h4 : e2.dat = true) {s2 : Nat} (e4 : s2 = e2.sz) (L zs : List e2.den) (lo hi off : Nat) {pre post cz cr : List FV} (l1 : cz = pre ++ (L.flatMap fun y => (rep e2 y).cells) ++ post) (l2 : pre.length = off)
    (r2 : cr = pre ++ ((cpyR L lo hi zs).flatMap fun y => (rep e2 y).cells) ++ post) (e7 : lo ≤ hi) (e8 : hi ≤ L.length) :
    cr = splice cz (off + lo * s2) ((((List.map (fun y : e2.den => (rep e2 y).pv) zs).take (Nat.min zs.length (hi - lo))).flatMap pcells).map FV.d) ∧ off + lo * s2 + Nat.min zs.length (hi - lo) * s2 ≤ cz.length := by
  have fl : ∀ xs : List e2.den, (xs.flatMap fun y => (rep e2 y).cells).length = xs.length * s2 := fun xs => by rw [e4]; exact flatMap_len _ e2.sz (fun y => rep_len e2 y (dat_cel _ h4)) xs
  have hmin : Nat.min zs.length (hi - lo) ≤ hi - lo := Nat.min_le_right _ _
  have etk : zs.take (hi - lo) = List.take (Nat.min zs.length (hi - lo)) zs := by
    rcases Nat.le_total zs.length (hi - lo) with hq | hq
    · rw [show Nat.min zs.length (hi - lo) = zs.length from Nat.min_eq_left hq, List.take_length, List.take_of_length_le hq]
    · rw [show Nat.min zs.length (hi - lo) = hi - lo from Nat.min_eq_right hq]
  have elen : (List.take (Nat.min zs.length (hi - lo)) zs).length = Nat.min zs.length (hi - lo) := by rw [List.length_take]; exact Nat.min_eq_left (Nat.min_le_left _ _)
  rw [← List.map_take, flat_pc h4]
  unfold cpyR at r2
  rw [etk] at r2
  generalize Nat.min zs.length (hi - lo) = mm at *
  constructor
  · unfold splice
    rw [r2, l1, fl, elen]
    simp only [List.flatMap_append]
    have hsplit : L.flatMap (fun y => (rep e2 y).cells) = (L.take lo).flatMap (fun y => (rep e2 y).cells) ++ (L.drop lo).flatMap (fun y => (rep e2 y).cells) := by
      rw [← List.flatMap_append, List.take_append_drop]
    have hsplit2 : (L.drop lo).flatMap (fun y => (rep e2 y).cells) = ((L.drop lo).take mm).flatMap (fun y => (rep e2 y).cells) ++ (L.drop (lo + mm)).flatMap (fun y => (rep e2 y).cells) := by
      rw [← List.flatMap_append, ← List.drop_drop, List.take_append_drop]
    have t1 : ((L.take lo).flatMap fun y => (rep e2 y).cells).length = lo * s2 := by rw [fl, List.length_take]; congr 1; omega
    have t5 : (((L.drop lo).take mm).flatMap fun y => (rep e2 y).cells).length = mm * s2 := by rw [fl, List.length_take, List.length_drop]; congr 1; omega
    rw [hsplit, hsplit2]
    generalize (L.take lo).flatMap (fun y => (rep e2 y).cells) = A at *
    generalize ((L.drop lo).take mm).flatMap (fun y => (rep e2 y).cells) = B at *
    generalize (L.drop (lo + mm)).flatMap (fun y => (rep e2 y).cells) = D at *
    generalize (List.take mm zs).flatMap (fun y => (rep e2 y).cells) = Z at *
    have a1 : pre ++ (A ++ (B ++ D)) ++ post = (pre ++ A) ++ (B ++ (D ++ post)) := by simp only [List.append_assoc]
    have p1 : (pre ++ A).length = off + lo * s2 := by rw [List.length_append, l2, t1]
    have p2 : (pre ++ A ++ B).length = off + lo * s2 + mm * s2 := by rw [List.length_append, p1, t5]
    rw [a1, List.take_left' p1]
    rw [show (pre ++ A) ++ (B ++ (D ++ post)) = (pre ++ A ++ B) ++ (D ++ post) by simp only [List.append_assoc], List.drop_left' p2]
    simp only [List.append_assoc]
  · rw [l1, List.length_append, List.length_append, fl, l2]
    have : lo * s2 + mm * s2 ≤ L.length * s2 := by
      rw [← Nat.add_mul]
      exact Nat.mul_le_mul_right _ (by omega)
    omega
theorem xCopy_good (C : Ctx E N f m ps nl) {t t' : Nat} {x y : Operand} (h : xCopy E.T m t (evX f x) (evX f y) K = some out) : Good E ps nl (.call ⟨.builtin .copy, #[x, y], #[t, t']⟩) K out := by
  generalize hv : evX f x = v at h
  generalize hu : evX f y = u at h
  have ho2 : (Op.call ⟨.builtin .copy, #[x, y], #[t, t']⟩).operands.toList = [x, y] := by simp [Op.operands, Call.operands]
  unfold xCopy at h
  split at h
  · rename_i e s ht
    obtain ⟨hti, hq⟩ := cond_some h
    clear h
    have h := hq
    clear hq
    obtain ⟨ti, hti⟩ := Option.isSome_iff_exists.1 hti
    split at h
    · rename_i l s0 d
      split at h
      · rename_i e' s' c xs ho
        obtain ⟨hb, hK⟩ := cond_some h
        clear h
        simp only [Bool.and_eq_true] at hb
        obtain ⟨⟨⟨⟨⟨h1, h2⟩, h3⟩, h4⟩, h5⟩, h6⟩ := hb
        have e1 := Nat.eq_of_beq_eq_true h1
        have e2 := Nat.eq_of_beq_eq_true h2
        have e3 := Nat.eq_of_beq_eq_true h3
        have e5 := Nat.eq_of_beq_eq_true h5
        have e6 := Nat.le_of_ble_eq_true h6
        subst e1; subst e2; subst e3
        split at hK
        · rename_i s2 c' ys ks hsr
          split at hK
          · rename_i zs hz
            obtain ⟨q1, q2⟩ := castT_spec hz
            cases q1
            have q2 : zs = ys := q2
            subst q2
            obtain ⟨t2, t3, hy, mo, m1, m2⟩ := srcC_spec (P := E.P) C.toAbs hu hsr
            have e7 : s2 = s := t3.trans e5.symm
            subst e7
            have hx : ev ps.f x = .ssl l _ _ s2 := ev_of (t := .ss l s2) (y := d) C.toAbs hv rfl
            have hml := C.at ho (by simp)
            have key := ext_copyB (P := E.P) (T := E.T) (t' := t') (x := x) (y := y) (l := l) (i := Prod.fst (α := Nat) (β := Nat) d) (j := Prod.snd (α := Nat) (β := Nat) d) (xs := List.map (fun y : c.den => (rep c y).pv) xs) (ys := List.map (fun y : c.den => (rep c y).pv) zs) (m0 := (l, .row e s2 (List.map (fun y : c.den => (rep c y).pv) xs)) :: mo) ht hti (by rw [lm c xs]; exact e6) (by simp) u.fv (.inl rfl)
              (fun n w0 st a w ow hd S hy hm => m2 n w0 st a w ow hd S hy fun q hq => hm q (by simp [hq]))
            rw [lm c zs] at key
            refine good_ext (v := ⟨.i .i64, ((Nat.min (List.length (α := c.den) zs) (Prod.snd (α := Nat) (β := Nat) d - Prod.fst (α := Nat) (β := Nat) d) : Nat) : Int)⟩) (r := .d (.v (.int .i64 (Nat.min (List.length (α := c.den) zs) (Prod.snd (α := Nat) (β := Nat) d - Prod.fst (α := Nat) (β := Nat) d) : Nat)))) ((l, .row e s2 (List.map (fun y : c.den => (rep c y).pv) xs)) :: mo) (fun q hq => ?_) (by simp [absU]) ?_ (Le.refl _) (fun q hq => ?_) (by simpa using C.old ho (by simp)) hK
            · rcases List.mem_cons.1 hq with rfl | hq
              · exact hml
              · exact (m1 q hq).1
            · rw [ops2 ho2 hx hy]
              have e8 : absU [(l, XO.ob (.rw e s2 c) (cpyR (α := c.den) xs (Prod.fst (α := Nat) (β := Nat) d) (Prod.snd (α := Nat) (β := Nat) d) zs))] = _ := congrArg (fun L => [(l, PO.row e s2 L)]) (lm_cpy c xs zs _ _)
              rw [e8]
              exact key
            · rcases List.mem_cons.1 hq with rfl | hq
              · simp
              · simp [(m1 q hq).2]
          · cases hK
        · cases hK
      · cases h
    · rename_i l d
      split at h
      · rename_i e' s' c xs ho
        obtain ⟨hb, hK⟩ := cond_some h
        clear h
        simp only [Bool.and_eq_true] at hb
        obtain ⟨⟨⟨h1, h2⟩, h4⟩, h5⟩ := hb
        have e1 := Nat.eq_of_beq_eq_true h1
        have e2 := Nat.eq_of_beq_eq_true h2
        have e5 := Nat.eq_of_beq_eq_true h5
        subst e1; subst e2
        split at hK
        · rename_i s2 c' ys ks hsr
          split at hK
          · rename_i zs hz
            obtain ⟨q1, q2⟩ := castT_spec hz
            cases q1
            have q2 : zs = ys := q2
            subst q2
            obtain ⟨t2, t3, hy, mo, m1, m2⟩ := srcC_spec (P := E.P) C.toAbs hu hsr
            have e7 : s2 = s := t3.trans e5.symm
            subst e7
            have hx : ev ps.f x = .srf l := ev_of (t := .sr l) (y := d) C.toAbs hv rfl
            have hml := C.at ho (by simp)
            have key := ext_copyB (P := E.P) (T := E.T) (t' := t') (x := x) (y := y) (l := l) (i := 0) (j := (List.map (fun y : c.den => (rep c y).pv) xs).length) (xs := List.map (fun y : c.den => (rep c y).pv) xs) (ys := List.map (fun y : c.den => (rep c y).pv) zs) (m0 := (l, .row e s2 (List.map (fun y : c.den => (rep c y).pv) xs)) :: mo) ht hti (Nat.le_refl _) (by simp) u.fv (.inr ⟨rfl, rfl, rfl⟩)
              (fun n w0 st a w ow hd S hy hm => m2 n w0 st a w ow hd S hy fun q hq => hm q (by simp [hq]))
            rw [lm c zs, lm c xs] at key
            refine good_ext (v := ⟨.i .i64, ((Nat.min (List.length (α := c.den) zs) (List.length (α := c.den) xs - 0) : Nat) : Int)⟩) (r := .d (.v (.int .i64 (Nat.min (List.length (α := c.den) zs) (List.length (α := c.den) xs - 0) : Nat)))) ((l, .row e s2 (List.map (fun y : c.den => (rep c y).pv) xs)) :: mo) (fun q hq => ?_) (by simp [absU]) ?_ (Le.refl _) (fun q hq => ?_) (by simpa using C.old ho (by simp)) hK
            · rcases List.mem_cons.1 hq with rfl | hq
              · exact hml
              · exact (m1 q hq).1
            · rw [ops2 ho2 hx hy]
              have e8 : absU [(l, XO.ob (.rw e s2 c) (cpyR (α := c.den) xs 0 (List.length (α := c.den) xs) zs))] = _ := congrArg (fun L => [(l, PO.row e s2 L)]) (lm_cpy c xs zs _ _)
              rw [e8]
              exact key
            · rcases List.mem_cons.1 hq with rfl | hq
              · simp
              · simp [(m1 q hq).2]
          · cases hK
        · cases hK
      · cases h
    · rename_i l p n s0 ag d
      split at h
      · rename_i c z ho
        split at h
        · rename_i n' e2 z' hg
          split at h
          · rename_i s2 c' ys ks hsr
            split at h
            · rename_i zs hz
              split at h
              · rename_i hl
                split at h
                · rename_i r hs
                  obtain ⟨hb, hK⟩ := cond_some h
                  clear h
                  simp only [Bool.and_eq_true] at hb
                  obtain ⟨⟨⟨⟨⟨⟨⟨h1, h2⟩, h3⟩, h4⟩, h5⟩, h6⟩, h7⟩, h8⟩ := hb
                  have e1 := Nat.eq_of_beq_eq_true h1
                  have e3 := Nat.eq_of_beq_eq_true h2
                  have e4 := Nat.eq_of_beq_eq_true h3
                  have e7 := Nat.le_of_ble_eq_true h7
                  have e8 := Nat.le_of_ble_eq_true h8
                  subst e1; subst e3
                  obtain ⟨q1, q2⟩ := castT_spec hz
                  cases q1
                  have q2 : zs = ys := q2
                  subst q2
                  obtain ⟨t2, t3, hy, mo, m1, m2⟩ := srcX_spec C.toAbs hu hsr
                  have e9 : s2 = s := t3.trans e4.symm
                  subst e9
                  have hml := C.at ho (by simp)
                  generalize hp : Prod.fst (α := denP p) (β := Nat × Nat) d = pd at *
                  generalize hlo : (Prod.snd (α := denP p) (β := Nat × Nat) d).1 = lo at *
                  generalize hhi : (Prod.snd (α := denP p) (β := Nat × Nat) d).2 = hi at *
                  have hx : ev ps.f x = .asl l (offP p pd + lo * s2) (hi - lo) (n - lo) s2 ag := by
                    rw [ev_of (t := .as l p n s2 ag) (y := d) C.toAbs hv rfl]
                    show FV.asl l (offP p (Prod.fst (α := denP p) (β := Nat × Nat) d) + (Prod.snd (α := denP p) (β := Nat × Nat) d).1 * s2) ((Prod.snd (α := denP p) (β := Nat × Nat) d).2 - (Prod.snd (α := denP p) (β := Nat × Nat) d).1) (n - (Prod.snd (α := denP p) (β := Nat × Nat) d).1) s2 ag = _
                    rw [hp, hlo, hhi]
                  have hac : (Ty.ar n e2).cel = true := dat_cel _ h4
                  obtain ⟨hw, pre, post, hlies, g4⟩ := getP_spec p pd ⟨c, z⟩ ⟨.ar n e2, z'⟩ h5 hg
                  obtain ⟨r1, r2, r3, r4⟩ := g4 ⟨.ar n e2, ⟨cpyR (α := e2.den) (Subtype.val (α := List e2.den) z') lo hi zs, hl⟩⟩ r hac hs
                  obtain ⟨l1, l2⟩ := hlies
                  let L : List e2.den := Subtype.val (p := fun xs : List e2.den => xs.length = n) z'
                  have hLl : L.length = n := Subtype.property (p := fun xs : List e2.den => xs.length = n) z'
                  have l1 : (rep c z).cells = pre ++ (L.flatMap fun y => (rep e2 y).cells) ++ post := l1
                  have r2 : (rep r.t r.x).cells = pre ++ ((cpyR L lo hi zs).flatMap fun y => (rep e2 y).cells) ++ post := r2
                  obtain ⟨cp1, hbound⟩ := cp_cells h4 e4 L zs lo hi (offP p pd) l1 l2 r2 e7 (by rw [hLl]; exact e8)
                  have key := ext_cpArr (P := E.P) (T := E.T) (t' := t') (x := x) (y := y) (l := l) (off := offP p pd + lo * s2) (k := hi - lo) (c := n - lo) (ag := ag) (cs := (rep c z).cells) (ys := List.map (fun y : e2.den => (rep e2 y).pv) zs) (m0 := (l, .box (rep c z).cells) :: mo) u.fv ht hti (by simp) (fits_all h4 e4 zs) (by rw [lm e2 zs]; exact hbound)
                    (fun n w0 st a w ow hd S hy hm => m2 n w0 st a w ow hd S hy fun q hq => hm q (by simp [hq]))
                  rw [lm e2 zs] at key
                  refine good_ext (v := ⟨.i .i64, ((Nat.min (List.length (α := e2.den) zs) (hi - lo) : Nat) : Int)⟩) (r := .d (.v (.int .i64 (Nat.min (List.length (α := e2.den) zs) (hi - lo) : Nat)))) ((l, .box (rep c z).cells) :: mo) (fun q hq => ?_) (by simp [absU]) ?_ (Le.refl _) (fun q hq => ?_) (by simpa using C.old ho (by simp)) hK
                  · rcases List.mem_cons.1 hq with rfl | hq
                    · exact hml
                    · exact (m1 q hq).1
                  · rw [ops2 ho2 hx hy]
                    have e10 : absU [(l, XO.ob (.bx r.t) r.x)] = _ := congrArg (fun L => [(l, PO.box L)]) cp1
                    rw [e10]
                    exact key
                  · rcases List.mem_cons.1 hq with rfl | hq
                    · simp
                    · simp [(m1 q hq).2]
                · cases h
              · cases h
            · cases h
          · cases h
        · cases h
      · cases h
    · cases h
  · cases h
theorem lm_clr (c : Ty) (L : List c.den) (i j : Nat) (z : c.den) : List.map (fun y : c.den => (rep c y).pv) (clrR L i j z) = (List.map (fun y : c.den => (rep c y).pv) L).take i ++ List.replicate (j - i) (rep c z).pv ++ (List.map (fun y : c.den => (rep c y).pv) L).drop j := by
  unfold clrR
  rw [List.map_append, List.map_append, List.map_take, List.map_replicate, List.map_drop]
theorem xClear_good (C : Ctx E N f m ps nl) {t : Nat} {x : Operand} (h : xClear E m t (evX f x) K = some out) : Good E ps nl (.call ⟨.builtin .clear, #[x], #[t]⟩) K out := by
  generalize hv : evX f x = v at h
  unfold xClear at h
  split at h
  · rename_i e s l s0 d ht
    split at h
    · rename_i e' s' c xs c2 ti ho hc hti
      split at h
      · rename_i hz
        obtain ⟨hb, hK⟩ := cond_some h
        clear h
        simp only [Bool.and_eq_true] at hb
        obtain ⟨⟨⟨⟨⟨⟨⟨⟨⟨⟨h0, h1⟩, h2⟩, h3⟩, h4⟩, h5⟩, h6⟩, h7⟩, h8⟩, h9⟩, h10⟩ := hb
        have ec := Ty.eq_of h1
        have e2 := Nat.eq_of_beq_eq_true h2
        have e3 := Nat.eq_of_beq_eq_true h3
        have e4 := Nat.eq_of_beq_eq_true h4
        have e5 := Nat.eq_of_beq_eq_true h5
        have e9 := Nat.le_of_ble_eq_true h9
        have e10 := Nat.le_of_ble_eq_true h10
        subst ec; subst e2; subst e3; subst e4
        obtain ⟨ti', t1, t2, t3, t4, t5⟩ := cdB_spec (C.hE.cd e c hc hz)
        rw [hti] at t1; cases t1
        have hx : ev ps.f x = .ssl l _ _ s := ev_of (t := .ss l s) (y := d) C.toAbs hv rfl
        have hml := C.at ho (by simp)
        have key := ext_clearSS (P := E.P) (T := E.T) (l := l) (x := x) (i := Prod.fst (α := Nat) (β := Nat) d) (j := Prod.snd (α := Nat) (β := Nat) d) (xs := List.map (fun y : c.den => (rep c y).pv) xs) ht hti (zeroPV_of t2 t3 t4 hz h0 h8) (Nat.eq_of_beq_eq_true h6) (Nat.le_of_ble_eq_true h7) e9 (by rw [lm c xs]; exact e10)
        refine good_ext (v := dd) (r := .dead) [(l, .row e s (List.map (fun y : c.den => (rep c y).pv) xs))] (fun q hq => by rw [List.mem_singleton.1 hq]; exact hml) (by simp [absU]) ?_ (.inl rfl) (by simp) (by simpa using C.old ho (by simp)) hK
        rw [ops1 (x := x) (by simp [Op.operands, Call.operands]) hx]
        have e8 : absU [(l, XO.ob (.rw e s c) (clrR (α := c.den) xs (Prod.fst (α := Nat) (β := Nat) d) (Prod.snd (α := Nat) (β := Nat) d) (zd c hz)))] = [(l, .row e s ((List.map (fun y : c.den => (rep c y).pv) xs).take (Prod.fst (α := Nat) (β := Nat) d) ++ List.replicate ((Prod.snd (α := Nat) (β := Nat) d) - (Prod.fst (α := Nat) (β := Nat) d)) (rep c (zd c hz)).pv ++ (List.map (fun y : c.den => (rep c y).pv) xs).drop (Prod.snd (α := Nat) (β := Nat) d)))] := by
          exact congrArg (fun L => [(l, PO.row e s L)]) (lm_clr c xs _ _ _)
        rw [e8]
        exact key
      · cases h
    · cases h
  · cases h
end
end Go.Proofs.YtnkdanobhgofbaaGreatDoor.pv
