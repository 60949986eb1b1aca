/- Copies into a row with a hole; append where the capacity is known; overlaps. -/
import Derived.Test.YtdimcmpkhbfcnaaSd
namespace Go.Proofs.Ytdimcmpkhbfcnaa.pv
set_option linter.all false
open Go.RowKit

section
variable {P : Program} {T : List TI} {n : Nat} {w0 : Cx} {st : PS} {a : Act} {w : World} {ow : Nat → Bool} {hd : Nat → Value}
theorem wp_val' {o : Oper} {a : Act} {w w' : World} {v : Value} {K : Act → World → Prop} {Q : Exit → Act → World → Prop} (hrun : (execOp a.eval o).run P w = .ok (.value v) w') (h : K (a.put o.dst v) w') : o.wp P a w K Q := by
  unfold Oper.wp; rw [hrun]; exact h
theorem part_take {cur : List Value} {p q r : Nat} (h : p + q ≤ r) : ((cur.take r).drop p).take q = (cur.drop p).take q := by
  rw [List.drop_take, List.take_take, Nat.min_eq_left (by omega)]
/-- cells written into a private block: what lies ahead and behind is as it was -/
theorem putCells (S : SimW n w0 st a w ow hd) {l b e N C p : Nat} {o o' : PO} {cur : Array Value} {news : List Value} (hm : st.m[l]? = some o) (hl : o.live = true) (hl' : o'.live = true) (hh : hd l = .slice (some ⟨b, 0, none⟩) N C) (hb : w.heap[b]? = some (.cells cur e (0, 0))) (hp : p + news.length ≤ cur.size)
    (ho' : ∀ (cur' : Array Value) (w' : World), Kp ow w ow w' → w'.heap[b]? = some (.cells cur' e (0, 0)) → cur'.size = cur.size → cur'.toList = cur.toList.take p ++ news ++ cur.toList.drop (p + news.length) → w0.New b → ow b = true → RO (al (st.m.set l o')) hd w0 ow w' (hd l) o') :
    w.there b p news.length ∧ SimW n w0 ⟨st.f, st.m.set l o'⟩ a (w.setCells b p news) ow hd := by
  obtain ⟨_, e3, e4⟩ := (S.objs l o hm).lt hl b (by rw [hh]; first | rfl | simp [blocksOf, blockOf])
  obtain ⟨cur', q1, q2, q3⟩ := setCells_block b e (0, 0) news p w cur hb hp
  have ho := fun j hj => setCells_other b news p w j hj
  have hkp : Kp ow w ow (w.setCells b p news) := ⟨by rw [setCells_size]; exact Nat.le_refl _, fun _ _ h => h, fun j _ hj => ho j (fun e => by rw [e, e4] at hj; cases hj)⟩
  exact ⟨there_of_block hb hp, S.set hm hl hl' (b := b) (by rw [hh]; first | rfl | simp [blocksOf, blockOf]) ho (setCells_size b _ _ w) (Kt.of_one (setCells_below b _ (Nat.le_refl _) _ _ w) e3 ho) (ho' cur' _ hkp q1 q3 q2 e3 e4)⟩
theorem run_copy_any {t t' e s : Nat} {i' : TypeInfo} (hu : P.underlying t = some (.slice e)) (e1 : P.info? e = some i') (hsi : i'.size = s) {b p dl dc m sl sc : Nat} {A : Addr} {news : List Value} (hm : Nat.min sl dl = m) (hnl : news.length = m * s)
    (hnews : ∀ k u, news[k]? = some u → w.cell? (A.add k) = some u) (hth : w.there b p news.length) (h1 : ∀ v ∈ news, v.oneCell' = true) (ty : TypeId) :
    (Builtin.copy_ #[t, t'] ty #[.slice (some ⟨b, p, none⟩) dl dc, .slice (some A) sl sc]).run P w = .ok (.int .i64 (m : Nat)) (w.setCells b p news) := by
  have f1 := run_firstCells_some (P := P) w i'.size m A sl sc news (by rw [hnl, hsi]) hnews
  have hst := run_storeCells_cells (P := P) b p news 0 w (fun k hk => by rw [Nat.add_zero]; exact (hth k hk).1) (fun k hk => by rw [Nat.add_zero]; exact (hth k hk).2) h1
  rw [Nat.add_zero] at hst
  simp [Builtin.copy_, run_underlying hu, Builtin.lenOf, sizeOf, typeInfo, e1, hm, f1, goInt, hst]
variable {α : Type} {f : α → PV} {L Y Z : List α} {t t' e s l nl i j k m C : Nat} {x y : Operand} {ti : TI}
/-- copy(s[i+m:], s[i:]), s with a hole of m behind its elements: the hole moves to i -/
theorem ycpS (h1 : tsl T t = some (e, s)) (h2 : T[e]? = some ti) (hi : i ≤ L.length) :
    Ext P T (.call ⟨.builtin .copy, #[x, y], #[t, t']⟩) [.ssl l (i + m) (L.length + m) s, .ssl l i (L.length + m) s] [(l, .cu (rowH e s C (L.map f) m []) [])] (.d (.v (.int .i64 ((L.length - i : Nat) : Int)))) [(l, .cu (rowH e s C ((L.take i).map f) m ((L.drop i).map f)) [])] := by
  intro n w0 st a w oo hT hS ho hn hv hm K Q hK
  obtain ⟨ow, hd, hold, S⟩ := hS
  obtain ⟨d, op, ty, pos, af, gd⟩ := oo
  simp only at ho hn hK
  subst ho
  simp [Op.operands, Call.operands] at hv
  obtain ⟨hv1, hv2⟩ := hv
  have hml := hm (l, .cu (rowH e s C (L.map f) m []) []) (by simp)
  simp only at hml
  obtain ⟨i', dd, e1, e2, e3, e4, e5, e6⟩ := hT.info h2
  obtain ⟨hu, hs⟩ := tsl_und hT h1
  have hsi := tsz_info hT hs
  rw [e1] at hsi
  simp at hsi
  obtain ⟨g1, vs, g1', g, cur, N, q1, q2, q3, q4, q5, q6, q7⟩ := S.objs l _ hml
  simp only [List.length_map, List.length_nil, Nat.add_zero] at q5 q6
  have hx := S.eval x
  have hy := S.eval y
  rw [hv1] at hx
  rw [hv2] at hy
  simp only [RF] at hx hy
  obtain ⟨hA, ad, N', C', x1, x2, x3, x4⟩ := hx
  obtain ⟨_, ad', N'', C'', y1, y2, y3, y4⟩ := hy
  rw [q1] at x1 y1
  simp at x1 y1
  obtain ⟨rfl, rfl, rfl⟩ := x1
  obtain ⟨rfl, rfl, rfl⟩ := y1
  have hmin : Nat.min (L.length + m - i) (L.length + m - (i + m)) = L.length - i := by
    rw [show L.length + m - (i + m) = L.length - i by omega]; exact Nat.min_eq_right (by omega)
  have hcl : cur.toList.length = C * s := by simpa using q4
  have hmul : ∀ p, p ≤ C → p * s ≤ C * s := fun p hp => Nat.mul_le_mul_right _ hp
  have hnews : RE ow w s ((L.map f).drop i) ((cur.toList.take (L.length * s)).drop (i * s)) := RE.drop i q6
  have hnl : ((cur.toList.take (L.length * s)).drop (i * s)).length = (L.length - i) * s := by rw [hnews.length]; simp
  have hcell : ∀ k u, ((cur.toList.take (L.length * s)).drop (i * s))[k]? = some u → w.cell? ⟨g, i * s + k, none⟩ = some u := by
    intro k u hk
    rw [List.getElem?_drop, List.getElem?_take] at hk
    split at hk
    · unfold World.cell?
      simp only [q2]
      simpa using hk
    · cases hk
  have hbnd : (i + m) * s + (L.length - i) * s ≤ C * s := by rw [← Nat.add_mul]; exact hmul _ (by omega)
  obtain ⟨p1, S'⟩ := putCells S (o' := .cu (rowH e s C ((L.take i).map f) m ((L.drop i).map f)) []) (p := (i + m) * s) (news := (cur.toList.take (L.length * s)).drop (i * s)) hml rfl rfl q1 q2 (by rw [hnl, q4]; exact hbnd)
    (fun cur' w' kp b1 b2 b3 b4 b5 => by
      have e1 : i * s ≤ (i + m) * s := Nat.mul_le_mul_right _ (by omega)
      have hl1 : (cur.toList.take ((i + m) * s)).length = (i + m) * s := by rw [List.length_take, hcl]; exact Nat.min_eq_left (hmul _ (by omega))
      refine ⟨fun b hb => by rw [q1] at hb; simp [blocksOf, blockOf] at hb; rw [hb]; exact ⟨b4, b5⟩, [], by simp [RFL], g, cur', N, q1, b1, q3, by rw [b2]; exact q4, by simp; omega, ?_, ?_⟩
      · have : cur'.toList.take (((L.take i).map f).length * s) = (cur.toList.take (L.length * s)).take (i * s) := by
          have hli : ((L.take i).map f).length = i := by simp; omega
          rw [hli, b3, List.append_assoc, List.take_append_of_le_length (by rw [hl1]; exact e1), List.take_take, List.take_take, Nat.min_eq_left e1, Nat.min_eq_left (Nat.mul_le_mul_right _ hi)]
        rw [this]
        have := RE.mono kp _ _ _ (RE.take i q6)
        simpa [List.map_take] using this
      · have hli : ((L.take i).map f).length = i := by simp; omega
        have hld : ((L.drop i).map f).length = L.length - i := by simp
        rw [hli, hld, b3, List.append_assoc]
        have : ((cur.toList.take ((i + m) * s) ++ ((cur.toList.take (L.length * s)).drop (i * s) ++ cur.toList.drop ((i + m) * s + ((cur.toList.take (L.length * s)).drop (i * s)).length))).drop ((i + m) * s)).take ((L.length - i) * s) = (cur.toList.take (L.length * s)).drop (i * s) := by
          rw [List.drop_left' hl1]
          exact List.take_left' hnl
        rw [this]
        have := RE.mono kp _ _ _ hnews
        simpa [List.map_drop] using this)
  by_cases hz : C = i
  · -- nothing lies there
    have hL : L.length = i := by omega
    have hm0 : m = 0 := by omega
    have hxe : a.eval x = .slice (some ⟨g, 0, none⟩) (L.length + m - (i + m)) (C - (i + m)) := by rw [x4, if_pos (by omega)]
    have hye : a.eval y = .slice (some ⟨g, 0, none⟩) (L.length + m - i) (C - i) := by rw [y4, if_pos hz]
    have hnil : (cur.toList.take (L.length * s)).drop (i * s) = [] := List.eq_nil_of_length_eq_zero (by rw [hnl, hL]; simp)
    have hr := run_copy_any (P := P) (w := w) (t' := t') (news := []) hu e1 hsi (b := g) (p := 0) (dl := L.length + m - (i + m)) (dc := C - (i + m)) (sl := L.length + m - i) (sc := C - i) (A := ⟨g, 0, none⟩) hmin (by rw [hL]; simp) (by simp) (fun k hk => by simp at hk) (by simp) ty
    have hrun : (execOp a.eval ⟨d, .call ⟨.builtin .copy, #[x, y], #[t, t']⟩, ty, pos, af, gd⟩).run P w = .ok (.value (.int .i64 ((L.length - i : Nat) : Int))) w := by
      simp [execOp, resolve, invoke, builtin, hxe, hye, hr, World.setCells]
    rw [hnil] at S'
    exact wp_val hrun (hK _ _ ⟨ow, hd, hold, S'.put hn (x := .d (.v _)) (by simp only [RF, R]; exact ⟨trivial, rfl⟩)⟩)
  · by_cases hz2 : C = i + m
    · have hL : L.length - i = 0 := by omega
      have hxe : a.eval x = .slice (some ⟨g, 0, none⟩) (L.length + m - (i + m)) (C - (i + m)) := by rw [x4, if_pos hz2]
      have hye : a.eval y = .slice (some ⟨g, i * s, none⟩) (L.length + m - i) (C - i) := by rw [y4, if_neg hz, Option.map_some, addr_add0]
      have hnil : (cur.toList.take (L.length * s)).drop (i * s) = [] := List.eq_nil_of_length_eq_zero (by rw [hnl, hL]; simp)
      have hr := run_copy_any (P := P) (w := w) (t' := t') (news := []) hu e1 hsi (b := g) (p := 0) (dl := L.length + m - (i + m)) (dc := C - (i + m)) (sl := L.length + m - i) (sc := C - i) (A := ⟨g, i * s, none⟩) hmin (by rw [hL]; simp) (by simp) (fun k hk => by simp at hk) (by simp) ty
      have hrun : (execOp a.eval ⟨d, .call ⟨.builtin .copy, #[x, y], #[t, t']⟩, ty, pos, af, gd⟩).run P w = .ok (.value (.int .i64 ((L.length - i : Nat) : Int))) w := by
        simp [execOp, resolve, invoke, builtin, hxe, hye, hr, World.setCells]
      rw [hnil] at S'
      exact wp_val hrun (hK _ _ ⟨ow, hd, hold, S'.put hn (x := .d (.v _)) (by simp only [RF, R]; exact ⟨trivial, rfl⟩)⟩)
    · have hxe : a.eval x = .slice (some ⟨g, (i + m) * s, none⟩) (L.length + m - (i + m)) (C - (i + m)) := by rw [x4, if_neg hz2, Option.map_some, addr_add0]
      have hye : a.eval y = .slice (some ⟨g, i * s, none⟩) (L.length + m - i) (C - i) := by rw [y4, if_neg hz, Option.map_some, addr_add0]
      have hr := run_copy_any (P := P) (w := w) (t' := t') hu e1 hsi (b := g) (p := (i + m) * s) (dl := L.length + m - (i + m)) (dc := C - (i + m)) (sl := L.length + m - i) (sc := C - i) (A := ⟨g, i * s, none⟩) hmin hnl (fun k u hk => by rw [addr_add]; exact hcell k u hk) p1 (RE.one hnews) ty
      have hrun : (execOp a.eval ⟨d, .call ⟨.builtin .copy, #[x, y], #[t, t']⟩, ty, pos, af, gd⟩).run P w = .ok (.value (.int .i64 ((L.length - i : Nat) : Int))) (w.setCells g ((i + m) * s) ((cur.toList.take (L.length * s)).drop (i * s))) := by
        simp [execOp, resolve, invoke, builtin, hxe, hye, hr]
      exact wp_val' hrun (hK _ _ ⟨ow, hd, hold, S'.put hn (x := .d (.v _)) (by simp only [RF, R]; exact ⟨trivial, rfl⟩)⟩)
/-- copy(s[i:], v): the hole is filled -/
theorem ycpD (h1 : tsl T t = some (e, s)) (h2 : T[e]? = some ti) (hi : i = L.length) (hk : k = L.length + m + Z.length) (hY : Y.length = m) (hm0 : 0 < m) (hf : ∀ x, fits s (f x) = true) :
    Ext P T (.call ⟨.builtin .copy, #[x, y], #[t, t']⟩) [.ssl l i k s, .d (.sl (Y.map f))] [(l, .cu (rowH e s C (L.map f) m (Z.map f)) [])] (.d (.v (.int .i64 (m : Int)))) [(l, .cu (rowH e s C ((L ++ Y ++ Z).map f) 0 []) [])] := by
  intro n w0 st a w oo hT hS ho hn hv hm K Q hK
  obtain ⟨ow, hd, hold, S⟩ := hS
  obtain ⟨d, op, ty, pos, af, gd⟩ := oo
  simp only at ho hn hK
  subst ho
  simp [Op.operands, Call.operands] at hv
  obtain ⟨hv1, hv2⟩ := hv
  have hml := hm (l, .cu (rowH e s C (L.map f) m (Z.map f)) []) (by simp)
  simp only at hml
  obtain ⟨i', dd, e1, e2, e3, e4, e5, e6⟩ := hT.info h2
  obtain ⟨hu, hs⟩ := tsl_und hT h1
  have hsi := tsz_info hT hs
  rw [e1] at hsi
  simp at hsi
  obtain ⟨g1, vs, g1', g, cur, N, q1, q2, q3, q4, q5, q6, q7⟩ := S.objs l _ hml
  simp only [List.length_map] at q5 q6 q7
  have hx := S.eval x
  rw [hv1] at hx
  simp only [RF] at hx
  obtain ⟨hA, ad, N', C', x1, x2, x3, x4⟩ := hx
  rw [q1] at x1
  simp at x1
  obtain ⟨rfl, rfl, rfl⟩ := x1
  obtain ⟨adS, capS, y1, y2⟩ := Src.of_els (s := s) S (y := y) (ys := Y.map f) (by rw [hv2]; exact .sl _) (all_fits hf)
  rw [List.length_map] at y1
  rcases y2 with y2 | ⟨b, off, news, rfl, y3, y4⟩
  · simp at y2; subst y2; simp at hY; omega
  subst hi
  have hnl : news.length = m * s := by rw [y4.length, List.length_map, hY]
  have hmin : Nat.min Y.length (k - L.length) = m := by rw [hY]; exact Nat.min_eq_left (by omega)
  have hcl : cur.toList.length = C * s := by simpa using q4
  have hmul : ∀ p, p ≤ C → p * s ≤ C * s := fun p hp => Nat.mul_le_mul_right _ hp
  have hb1 := hmul (L.length + m) (by omega)
  rw [Nat.add_mul] at hb1
  obtain ⟨p1, S'⟩ := putCells S (o' := .cu (rowH e s C ((L ++ Y ++ Z).map f) 0 []) []) (p := L.length * s) (news := news) hml rfl rfl q1 q2 (by rw [hnl, q4]; exact hb1)
    (fun cur' w' kp b1 b2 b3 b4 b5 => by
      have hl1 : (cur.toList.take (L.length * s)).length = L.length * s := by rw [List.length_take, hcl]; exact Nat.min_eq_left (hmul _ (by omega))
      refine ⟨fun b hb => by rw [q1] at hb; simp [blocksOf, blockOf] at hb; rw [hb]; exact ⟨b4, b5⟩, [], by simp [RFL], g, cur', N, q1, b1, q3, by rw [b2]; exact q4, by simp; omega, ?_, by simp [RE]⟩
      have hlen : ((L ++ Y ++ Z).map f).length = L.length + m + Z.length := by simp; omega
      have : cur'.toList.take (((L ++ Y ++ Z).map f).length * s) = cur.toList.take (L.length * s) ++ news ++ (cur.toList.drop ((L.length + m) * s)).take (Z.length * s) := by
        rw [hlen, b3, hnl, ← Nat.add_mul, Nat.add_mul (L.length + m)]
        have : (cur.toList.take (L.length * s) ++ news).length = (L.length + m) * s := by rw [List.length_append, hl1, hnl, Nat.add_mul]
        rw [List.take_append, List.take_of_length_le (by omega), this, Nat.add_sub_cancel_left]
      rw [this, List.map_append, List.map_append]
      exact RE.mono kp _ _ _ ((RE.append (RE.append q6 y4) q7)))
  have hxe : a.eval x = .slice (some ⟨g, L.length * s, none⟩) (k - L.length) (C - L.length) := by rw [x4, if_neg (by omega), Option.map_some, addr_add0]
  have hr := run_copy_any (P := P) (w := w) (t' := t') hu e1 hsi (b := g) (p := L.length * s) (dl := k - L.length) (dc := C - L.length) (sl := Y.length) (sc := capS) (A := ⟨b, off, none⟩) hmin hnl (fun k u hk => by rw [addr_add]; exact y3 k u hk) p1 (RE.one y4) ty
  have hrun : (execOp a.eval ⟨d, .call ⟨.builtin .copy, #[x, y], #[t, t']⟩, ty, pos, af, gd⟩).run P w = .ok (.value (.int .i64 (m : Int))) (w.setCells g (L.length * s) news) := by
    simp [execOp, resolve, invoke, builtin, hxe, y1, hr]
  exact wp_val' hrun (hK _ _ ⟨ow, hd, hold, S'.put hn (x := .d (.v _)) (by simp only [RF, R]; exact ⟨trivial, rfl⟩)⟩)
/-- the whole, without a hole, as a row of its own -/
theorem ymvH (hk : k = L.length) : Ext P T (.move x) [.ssl l 0 k s] [(l, .cu (rowH e s C (L.map f) 0 []) []), (nl, .free)] (.srf nl) [(l, .none), (nl, .row e s (L.map f))] := by
  intro n w0 st a w oo hT hS ho hn hv hm K Q hK
  obtain ⟨ow, hd, hold, S⟩ := hS
  obtain ⟨d, op, ty, pos, af, gd⟩ := oo
  simp only at ho hn hK
  subst ho hk
  simp [Op.operands] at hv
  have hml := hm (l, .cu (rowH e s C (L.map f) 0 []) []) (by simp)
  have hnl := hm (nl, .free) (by simp)
  simp only at hml hnl
  obtain ⟨g1, vs, g1', g, cur, N, q1, q2, q3, q4, q5, q6, q7⟩ := S.objs l _ hml
  simp only [List.length_map, List.length_nil, Nat.add_zero] at q5 q6
  have hx := S.eval x
  rw [hv] at hx
  simp only [RF] at hx
  obtain ⟨hA, ad, N', C', x1, x2, x3, x4⟩ := hx
  rw [q1] at x1
  simp at x1
  obtain ⟨rfl, rfl, rfl⟩ := x1
  have hxe : a.eval x = .slice (some ⟨g, 0, none⟩) L.length C := by rw [x4]; simp [Addr.add]
  have hcl : cur.toList.length = C * s := by simpa using q4
  have hown : w.ownsRow 0 e s (.slice (some ⟨g, 0, none⟩) L.length C) L.length (cur.toList.take (L.length * s)) := by
    refine ⟨by rw [List.length_take, hcl]; exact Nat.min_eq_left (Nat.mul_le_mul_right _ q5), .inr ⟨g, C, cur, rfl, Nat.zero_le _, q2, q5, q3, q4, rfl⟩⟩
  have hne : nl ≠ l := by intro e'; subst e'; rw [hml] at hnl; cases hnl
  -- first another account of the object, then the new handle
  have hown0 : RO (al st.m) hd w0 ow w (.slice (some ⟨g, 0, none⟩) L.length C) (.row e s (L.map f)) := ⟨_, by rw [List.length_map]; exact hown, fun b hb => g1 b (by rw [q1]; simpa [blocksOf, blockOf] using hb), q6⟩
  have S1 := S.kill l
  have hlen : nl < (st.m.set l PO.none).length := by simp; exact (List.getElem?_eq_some_iff.1 hnl).1
  have hal : al (st.m.set l .none) nl = false := by rw [al_set_ne hne]; simp [al, hnl, PO.made]
  have S2 := S1.obj (l := nl) (hv := .slice (some ⟨g, 0, none⟩) L.length C) (o := .row e s (L.map f)) (Kp.refl _ _) (Kt.refl _ _) S.fresh (.inl hal) rfl
    ⟨_, by rw [List.length_map]; exact hown, fun b hb => g1 b (by rw [q1]; simpa [blocksOf, blockOf] using hb), q6⟩
    (fun j oj b hne' hj hlv hbk => by
      obtain ⟨hj', hjl⟩ := kill_live hj hlv
      exact ⟨rfl, rfl, fun _ hb' => S.dist j l oj _ b hjl hj' hml hlv rfl hbk (by rw [q1]; simpa [blocksOf, blockOf] using hb')⟩)
  have hrun : (execOp a.eval ⟨d, .move x, ty, pos, af, gd⟩).run P w = .ok (.value (.slice (some ⟨g, 0, none⟩) L.length C)) w := by simp [execOp, hxe]
  unfold Oper.wp
  rw [hrun]
  refine hK _ _ ⟨ow, _, hold, S2.put hn (x := .srf nl) ?_⟩
  simp only [RF]
  exact ⟨by rw [al_set_same hlen]; rfl, by rw [upd_same], by rw [upd_same]; rfl⟩
/-- append(s, v...) -/
theorem yapp (hz : ti.zero.length = s) (h : app ti.bytes L Y = some Z) (h1 : tsl T t = some (e, s)) (h2 : T[e]? = some ti) (hs0 : 0 < s) (hf : ∀ x, fits s (f x) = true) (hne : l ≠ nl) :
    Ext P T (.call ⟨.builtin .append, #[x, y], #[t, t]⟩) [.srf l, .d (.sl (Y.map f))] [(l, .cu (rowC e s C (L.map f)) []), (nl, .free)] (.srf nl) [(l, .none), (nl, .row e s (Z.map f))] := by
  refine ext_forget ?_ ⟨(l, .none), by simp, rfl⟩ (fun q hq => by simp at hq; subst hq; exact fun h => hne h.symm)
  obtain ⟨c1, c2, c3, c4⟩ := app_ob (f := f) (s := s) h hf
  rw [← c4]
  refine ext_of0 fun ρ mm hv hm => ?_
  simp [Op.operands, Call.operands] at hv
  have := PAct0.append (P := P) (T := T) (ρ := ρ) (m := mm) (nl := nl) t x y e s ti (L.map f) (Y.map f) [(l, .none)] [l] [] (hm (nl, .free) (by simp)) h1 h2 hz hs0 (by rw [hv.1]; exact .row l _ (hm (l, .row e s (L.map f)) (by simp))) (by rw [hv.2]; exact .sl _) c1 c2 c3
  exact ⟨nl, _, this⟩
/-- append(s[:i], make([]T, k)...) where there is no room -/
theorem yapZ {tn : Nat} {kn kq : IntKind} {z : α} {p : PV} {B : Int} (h1 : tsl T t = some (e, s)) (htn : tint T tn = some kn) (h2 : T[e]? = some ti) (hz : zeroPV ti = some p) (hzs : ti.zero.length = s) (hs0 : 0 < s) (hp : p = f z) (hB : B = (k : Int)) (hi : i ≤ L.length) (h0 : 0 < k) (hg : C < i + k) (h63 : i + k ≤ maxLen) (hby : (i + k) * ti.bytes ≤ 140737488355328) (hne : l ≠ nl) :
    Ext P T (.call ⟨.builtin .append, #[x, y], #[t, tn]⟩) [.ssl l 0 i s, .d (.v (.int kq B))] [(l, .cu (rowC e s C (L.map f)) []), (nl, .free)] (.srf nl) [(nl, .row e s ((L.take i ++ List.replicate k z).map f))] := by
  intro n w0 st a w oo hT hS ho hn hv hm K Q hK
  obtain ⟨ow, hd, hold, S⟩ := hS
  obtain ⟨d, op, ty, pos, af, gd⟩ := oo
  simp only at ho hn hK
  subst ho hB
  simp [Op.operands, Call.operands] at hv
  obtain ⟨hv1, hv2⟩ := hv
  have hml := hm (l, .cu (rowC e s C (L.map f)) []) (by simp)
  have hnl := hm (nl, .free) (by simp)
  simp only at hml hnl
  obtain ⟨i', zv, u, e1, e2, e3, e4, e5, e6, e7, e8⟩ := zeroPV_spec hT h2 hz
  obtain ⟨hu, hs⟩ := tsl_und hT h1
  have hun := tint_und hT htn
  have hsi := tsz_info hT hs
  rw [e1] at hsi
  simp at hsi
  obtain ⟨ey, _⟩ := S.v hv2
  obtain ⟨ad, hh, hC1, hC2⟩ := rowC_cap (S.objs l _ hml)
  obtain ⟨cells, ⟨g1, g2⟩, h4, h5⟩ := (rowC_RO (S.objs l _ hml)).1
  have hx := S.eval x
  rw [hv1] at hx
  simp only [RF] at hx
  obtain ⟨hA, ad', N', C', x1, x2, x3, x4⟩ := hx
  rw [hh] at x1
  simp at x1
  obtain ⟨rfl, rfl, rfl⟩ := x1
  have hxe : a.eval x = .slice ad i C := by
    rw [x4]
    have had : (if C = 0 then ad else ad.map (·.add (0 * s))) = ad := by
      split
      · rfl
      · cases ad with
        | none => rfl
        | some p => simp [Addr.add]
    rw [had, Nat.sub_zero, Nat.sub_zero]
  have hzs' : zv.cells.size = s := by rw [e5, hzs]
  have hzc : ∀ n : Nat, (Builtin.zeroCells zv.cells n).toList = (List.replicate n u.cells.toList).flatten := by
    intro n
    have := made_cells zv.cells (by omega) n
    rw [e6, ← this]
    simp [Builtin.zeroCells, madeCells]
  have hRE1 := RE.take i h5
  have hRE2 : RE ow w s (List.replicate k p) (Builtin.zeroCells zv.cells k).toList := by
    rw [hzc]; exact RE_zero (by rw [e6]; exact hzs') e7 (e8 _ _) _
  have hol : (cells.take (i * s)).length = i * s := by rw [hRE1.length, List.length_take, List.length_map, Nat.min_eq_left hi]
  have hfirst : (Builtin.firstCells i'.size i (.slice ad i C)).run P w.drew = .ok (cells.take (i * s)).toArray w.drew := by
    rcases g2 with ⟨q1, q2⟩ | ⟨g, cap', cur, q1, q2, q3, q4, q5, q6, q7⟩
    · rw [hh] at q1
      simp at q1
      obtain ⟨rfl, _, rfl⟩ := q1
      have : i = 0 := by simp at q2; subst q2; simp at hi; omega
      subst this
      simp [Builtin.firstCells]
    · rw [hh] at q1
      simp at q1
      obtain ⟨rfl, rfl⟩ := q1
      refine run_firstCells_some (P := P) w.drew i'.size i ⟨g, 0, none⟩ i C _ (by rw [hol, hsi]) (fun j v hj => ?_)
      rw [addr_add0]
      rw [List.getElem?_take] at hj
      split at hj
      · rw [← q7, List.getElem?_take] at hj
        split at hj
        · show World.cell? w.drew _ = _
          unfold World.cell?
          have : w.drew.heap = w.heap := rfl
          simp only [this, q3]
          simpa using hj
        · cases hj
      · cases hj
  have hfit : Builtin.nextslicecap (i + k) C * i'.bytes ≤ 281474976710656 := growslice_fits hg (by rw [e4]; exact hby)
  have h48 : k * i'.bytes ≤ 281474976710656 := by
    rw [e4]
    have : k * ti.bytes ≤ (i + k) * ti.bytes := Nat.mul_le_mul_right _ (by omega)
    omega
  have hrun0 := Lib.run_append_grow_zeros (P := P) w t tn ty e i' zv kq kn hu hun e1 e2 ad i C (cells.take (i * s)) hfirst k h0 (by omega) hg (by unfold maxLen at h63; omega) h48 hfit
  have hge := grownCap_ge w (i + k) C e
  have hcm : grownCap w (i + k) C e ≤ maxLen := grownCap_le_maxLen w (i + k) C e h63
  have hrun : (execOp a.eval ⟨d, .call ⟨.builtin .append, #[x, y], #[t, tn]⟩, ty, pos, af, gd⟩).run P w = .ok (.value (.slice (some ⟨w.heap.size, 0, none⟩) (i + k) (grownCap w (i + k) C e))) (w.drew.alloc (.cells ((cells.take (i * s)).toArray ++ Builtin.zeroCells zv.cells k ++ Builtin.zeroCells zv.cells (grownCap w (i + k) C e - (i + k))) e)) := by
    simp [execOp, resolve, invoke, builtin, hxe, ey, hrun0]
  have hzl : (Builtin.zeroCells zv.cells k).toList.length = k * s := by rw [Array.length_toList, size_zeroCells, hzs']
  subst hp
  obtain ⟨ow', hd', f1, f2, f3⟩ := S.newRow hnl (v' := .slice (some ⟨w.heap.size, 0, none⟩) (i + k) (grownCap w (i + k) C e)) (w' := w.drew.alloc (.cells ((cells.take (i * s)).toArray ++ Builtin.zeroCells zv.cells k ++ Builtin.zeroCells zv.cells (grownCap w (i + k) C e - (i + k))) e)) (e := e) (s := s) (xs := (L.take i ++ List.replicate k z).map f) (cells := cells.take (i * s) ++ (Builtin.zeroCells zv.cells k).toList)
    (by
      have hlen : ((L.take i ++ List.replicate k z).map f).length = i + k := by simp; omega
      rw [hlen]
      have hl2 : (cells.take (i * s) ++ (Builtin.zeroCells zv.cells k).toList).length = (i + k) * s := by rw [List.length_append, hol, hzl, Nat.add_mul]
      refine ⟨hl2, .inr ⟨w.heap.size, _, _, rfl, Nat.zero_le _, heap_alloc_new w.drew _, hge, hcm, ?_, ?_⟩⟩
      · simp only [Array.size_append, List.size_toArray, size_zeroCells, hzs', hol, ← Nat.add_mul]
        congr 1
        omega
      · simp only [Array.toList_append]
        rw [← hl2]; exact List.take_left)
    ⟨rfl, rfl, rfl, by simp, fun k hk _ => heap_alloc_old w.drew _ hk⟩ (fun b hb => by simp [blocksOf, blockOf] at hb; subst hb; simp) (by
      rw [List.map_append, List.map_take, List.map_replicate]
      exact RE.append hRE1 hRE2) ⟨_, _, _, rfl⟩
  unfold Oper.wp
  rw [hrun]
  exact hK _ _ ⟨ow', hd', hold.step fun b hb _ => f1.1 b (Nat.lt_of_lt_of_le hb S.below.size), f2.put hn f3⟩
/-- copy(r[i:j], s[p:q]), s of known capacity -/
theorem ycpC {l' p q : Nat} (h1 : tsl T t = some (e, s)) (h2 : T[e]? = some ti) (hj : j ≤ L.length) (hq : q ≤ Y.length) :
    Ext P T (.call ⟨.builtin .copy, #[x, y], #[t, t']⟩) [.ssl l i j s, .ssl l' p q s] [(l, .row e s (L.map f)), (l', .cu (rowC e s C (Y.map f)) [])] (.d (.v (.int .i64 (Nat.min ((Y.take q).drop p).length (j - i) : Nat)))) [(l, .row e s ((cpyR L i j ((Y.take q).drop p)).map f))] := by
  have := ext_copy (P := P) (T := T) (t' := t') (x := x) (y := y) (l := l) (i := i) (j := j) (xs := L.map f) (ys := ((Y.take q).drop p).map f) (m0 := [(l, .row e s (L.map f)), (l', .cu (rowC e s C (Y.map f)) [])]) h1 h2 (by simpa using hj) (by simp) (.ssl l' p q s) (.inl rfl)
    (fun n w0 st a w ow hd S hy hm => by
      have hml := hm (l', .cu (rowC e s C (Y.map f)) []) (by simp)
      simp only at hml
      have S' := S.retell (o' := .row e s (Y.map f)) hml rfl rfl (fun A h => (rowC_RO h).1)
      have := Src.of_ssl S' (e := e) hy (by rw [List.getElem?_set, if_pos rfl, if_pos (List.getElem?_eq_some_iff.1 hml).1]) (by simpa using hq)
      simpa [List.map_take, List.map_drop] using this)
  rw [List.length_map] at this
  simpa only [cpyR, List.map_append, List.map_take, List.map_drop] using this
theorem yh10q {q : Nat} {A : Int} {ka : IntKind} {lo : Operand} (h : tsl T t = some (e, s)) (hk : k = L.length + m + Z.length) (hA : A = (q : Int)) (c : q ≤ k) : Ext P T (.slice t x (some lo) none none) [.ssl l 0 k s, .d (.v (.int ka A))] [(l, .cu (rowH e s C (L.map f) m (Z.map f)) [])] (.ssl l q k s) [(l, .cu (rowH e s C (L.map f) m (Z.map f)) [])] := by
  subst hA
  have := yh10 (P := P) (T := T) (x := x) (lo := lo) (ka := ka) (f := f) (L := L) (Y := Z) (m := m) (C := C) (l := l) (A := (q : Int)) h hk ⟨by omega, by omega⟩
  simpa using this
theorem xs10q {q : Nat} {A : Int} {ka : IntKind} {lo : Operand} (h : tsl T t = some (e, s)) (hA : A = (q : Int)) (c : q ≤ L.length) : Ext P T (.slice t x (some lo) none none) [.srf l, .d (.v (.int ka A))] [(l, .row e s (L.map f))] (.ssl l q L.length s) [] := by
  subst hA
  have := xs10 (P := P) (T := T) (x := x) (lo := lo) (ka := ka) (f := f) (L := L) (l := l) (a := (q : Int)) h ⟨by omega, by omega⟩
  simpa using this
end
theorem run_overlaps_own {P : Program} (w : World) (tS tR e : TypeId) (ht : P.underlying tS = some (.slice e)) (size : Nat) (hz : ∀ w, (Go.sizeOf e).run P w = .ok size w)
    (a b : Addr) (la ca lb cb : Nat) (hne : a.block ≠ b.block) (tA tB : TypeId) (kA kB : Nat) (hsa : w.shape? a.block = some (tA, kA)) (hsb : w.shape? b.block = some (tB, kB)) (hkA : kA ≠ 0) (hfb : w.frozen? b = false) (hfe : w.frozen? { block := b.block, off := kB } = false) :
    (Extern.SlicesOverlaps.overlaps #[tS, tS] #[tR] #[.slice (some a) la ca, .slice (some b) lb cb]).run P w = .ok (.bool false) w := by
  have hnb : (a.block != b.block) = true := by simpa using hne
  have hnb' : (a.block == b.block) = false := by simpa using hne
  change Sem.run P (α := Value) (do
    let some t := (#[tS, tS] : Array TypeId)[0]? | stuck "slices.overlaps: no parameter types"
    let .slice elem ← underlying t | stuck "slices.overlaps: slice type expected"
    let size ← sizeOf elem
    match (some a : Option Addr), (some b : Option Addr) with
    | some a, some b =>
      if la = 0 ∨ lb = 0 ∨ size = 0 then pure (Value.bool false)
      else if a.block != b.block && (← frozen a) && (← frozen b) then unsupported .addressObserved
      else do
        if a.block != b.block then do
          noView a; noView b
          if ← mayBeOne a b then return Value.bool ((← choose (.extern "sameAddr.stringBytes" 2)) == 1)
        pure (Value.bool (a.block == b.block && a.off < b.off + lb * size && b.off < a.off + la * size))
    | _, _ => pure (Value.bool false)) w = _
  by_cases h0 : la = 0 ∨ lb = 0 ∨ size = 0
  · simp [run_underlying ht, hz, h0]
  · cases kA with
    | zero => exact absurd rfl hkA
    | succ kA =>
      cases h1 : w.frozen? a with
      | true => simp [run_underlying ht, hz, h0, hnb, hnb', frozen, noView, viewAt, mayBeOne, stringish, shape, Sem.run, hsa, hsb, hfb, hfe, h1]
      | false =>
        cases h2 : w.frozen? { block := a.block, off := kA + 1 } with
        | true => simp [run_underlying ht, hz, h0, hnb, hnb', frozen, noView, viewAt, mayBeOne, stringish, shape, Sem.run, hsa, hsb, hfb, hfe, h1, h2]
        | false => simp [run_underlying ht, hz, h0, hnb, hnb', frozen, noView, viewAt, mayBeOne, stringish, shape, Sem.run, hsa, hsb, hfb, hfe, h1, h2]
section
variable {P : Program} {T : List TI} {α : Type} {f : α → PV} {L Y Z : List α} {t e s l i j k m C : Nat} {x y : Operand}
/-- slices.overlaps of data and a part of a private block -/
theorem yov {g : FuncId} {fn : Func} {tR : TypeId} {tys : Array Nat} (hf : P.funcs[g]? = some fn) (hname : (fn.name == "runtime.NumGoroutine") = false) (hb : fn.body.isNone = true) (hnx : Extern.findNext fn = none) (he : Extern.find fn = some (Extern.SlicesOverlaps.overlaps #[t, t] #[tR])) (h1 : tsl T t = some (e, s)) (hs0 : 0 < s) (hff : ∀ x, fits s (f x) = true) :
    Ext P T (.call ⟨.value (.func g), #[x, y], tys⟩) [.d (.clo g []), .d (.sl (Y.map f)), .ssl l i j s] [(l, .cu (rowH e s C (L.map f) m (Z.map f)) [])] (.d (.v (.bool false))) [] := by
  intro n w0 st a w oo hT hS ho hn hv hm K Q hK
  obtain ⟨ow, hd, hold, S⟩ := hS
  obtain ⟨d, op, ty, pos, af, gd⟩ := oo
  simp only at ho hn hK
  subst ho
  simp only [Op.operands, Call.operands] at hv
  have hv : [ev st.f (.func g), ev st.f x, ev st.f y] = _ := hv
  simp only [List.cons.injEq, and_true] at hv
  obtain ⟨_, hv1, hv2⟩ := hv
  have hml := hm (l, .cu (rowH e s C (L.map f) m (Z.map f)) []) (by simp)
  simp only at hml
  obtain ⟨hu, hs⟩ := tsl_und hT h1
  have hsi := tsz_info hT hs
  obtain ⟨g1, vs, g1', gb, cur, N, q1, q2, q3, q4, q5, q6, q7⟩ := S.objs l _ hml
  have hy := S.eval y
  rw [hv2] at hy
  simp only [RF] at hy
  obtain ⟨hA, ad, N', C', x1, x2, x3, x4⟩ := hy
  rw [q1] at x1
  simp at x1
  obtain ⟨rfl, rfl, rfl⟩ := x1
  have hxd := S.d hv1
  simp only [R] at hxd
  obtain ⟨adS, capS, y1, _, _, y2⟩ := hxd
  have hz : ∀ w, (Go.sizeOf e).run P w = .ok s w := fun w => by
    cases hq : P.info? e with
    | none => rw [hq] at hsi; simp at hsi
    | some i' =>
      rw [hq] at hsi
      simp at hsi
      simp [sizeOf, typeInfo, hq, hsi]
  have hov : ∀ (b : Nat) (o2 : Nat), b = gb → (Extern.SlicesOverlaps.overlaps #[t, t] #[tR] #[a.eval x, .slice (some ⟨b, o2, none⟩) (j - i) (C - i)]).run P w = .ok (.bool false) w := by
    rintro b o2 rfl
    rw [y1]
    cases adS with
    | none =>
      change Sem.run P (α := Value) (do
        let some t := (#[t, t] : Array TypeId)[0]? | stuck "slices.overlaps: no parameter types"
        let .slice elem ← underlying t | stuck "slices.overlaps: slice type expected"
        let size ← sizeOf elem
        pure (Value.bool false)) w = _
      simp [run_underlying hu, hz]
    | some A =>
      rcases y2 with y2 | ⟨b', off, sz, cells, e1, e2, e3, e4, e5⟩
      · simp at y2
        subst y2
        change Sem.run P (α := Value) (do
          let some t := (#[t, t] : Array TypeId)[0]? | stuck "slices.overlaps: no parameter types"
          let .slice elem ← underlying t | stuck "slices.overlaps: slice type expected"
          let size ← sizeOf elem
          if (([] : List α).map f).length = 0 ∨ (j - i) = 0 ∨ size = 0 then pure (Value.bool false)
          else if A.block != b && (← frozen A) && (← frozen ⟨b, o2, none⟩) then unsupported .addressObserved
          else do
            if A.block != b then do
              noView A; noView ⟨b, o2, none⟩
              if ← mayBeOne A ⟨b, o2, none⟩ then return Value.bool ((← choose (.extern "sameAddr.stringBytes" 2)) == 1)
            pure (Value.bool (A.block == b && A.off < o2 + (j - i) * size && o2 < A.off + (([] : List α).map f).length * size))) w = _
        simp [run_underlying hu, hz]
      · cases e1
        have hne : b' ≠ b := by
          intro e'
          have := (g1 b (by rw [q1]; first | rfl | simp [blocksOf, blockOf])).2
          rw [← e', e3] at this; cases this
        have hYs := RE.resize e5 (all_fits (s := s) hff)
        have hcl := hYs.length
        cases hYc : Y with
        | nil =>
          subst hYc
          have hsa : ∃ o, w.heap[b']? = some o := ⟨_, Array.getElem?_eq_getElem e2⟩
          change Sem.run P (α := Value) (do
            let some t := (#[t, t] : Array TypeId)[0]? | stuck "slices.overlaps: no parameter types"
            let .slice elem ← underlying t | stuck "slices.overlaps: slice type expected"
            let size ← sizeOf elem
            if (([] : List α).map f).length = 0 ∨ (j - i) = 0 ∨ size = 0 then pure (Value.bool false)
            else if b' != b && (← frozen ⟨b', off, none⟩) && (← frozen ⟨b, o2, none⟩) then unsupported .addressObserved
            else do
              if b' != b then do
                noView ⟨b', off, none⟩; noView ⟨b, o2, none⟩
                if ← mayBeOne ⟨b', off, none⟩ ⟨b, o2, none⟩ then return Value.bool ((← choose (.extern "sameAddr.stringBytes" 2)) == 1)
              pure (Value.bool (b' == b && off < o2 + (j - i) * size && o2 < off + (([] : List α).map f).length * size))) w = _
          simp [run_underlying hu, hz]
        | cons z zs =>
          have h0 : 0 < cells.length := by rw [hcl, hYc, List.length_map]; exact Nat.mul_pos (by simp) hs0
          have hc0 := e4 0 _ (List.getElem?_eq_getElem h0)
          obtain ⟨kc, kt, kf, hk⟩ : ∃ c t fr, w.heap[b']? = some (.cells c t fr) := by
            unfold World.cell? at hc0
            split at hc0
            · exact ⟨_, _, _, by assumption⟩
            · cases hc0
          have hks : kc.size ≠ 0 := by
            unfold World.cell? at hc0
            simp only [hk] at hc0
            intro hz0
            simp at hc0
            have := (Array.getElem?_eq_some_iff.1 hc0).1
            omega
          refine run_overlaps_own w t tR e hu s hz ⟨b', off, none⟩ ⟨b, o2, none⟩ _ _ _ _ hne kt e kc.size cur.size (by simp [World.shape?, hk]) (by simp [World.shape?, q2]) hks (by simp [World.frozen?, q2]) (by simp [World.frozen?, q2])
  have hye : ∃ o2, a.eval y = .slice (some ⟨gb, o2, none⟩) (j - i) (C - i) := by
    rw [x4]
    split
    · exact ⟨_, rfl⟩
    · exact ⟨_, by rw [Option.map_some, addr_add0]⟩
  obtain ⟨o2, hye⟩ := hye
  have hrun : (execOp a.eval ⟨d, .call ⟨.value (.func g), #[x, y], tys⟩, ty, pos, af, gd⟩).run P w = .ok (.value (.bool false)) w := by
    have h3 := run_callFunc_extern (P := P) hf hname hb hnx he #[a.eval x, a.eval y] w
    rw [hye, hov gb o2 rfl] at h3
    have e0 : a.eval (.func g) = .func (.func g) #[] #[] := rfl
    rw [← hye] at h3
    simp [execOp, resolve, Deferred.ofValue, invoke, e0]
    simpa [Result.andThen] using h3
  exact wp_val hrun (hK _ _ ⟨ow, hd, hold, S.put hn (x := .d (.v (.bool false))) (by simp only [RF, R]; exact ⟨trivial, rfl⟩)⟩)
end
section
variable {P : Program} {T : List TI}
theorem ext_same {op : Op} {vs : List FV} {r : FV} {l : Nat} {o : PO} (h : Ext P T op vs [(l, o)] r [(l, o)]) : Ext P T op vs [(l, o)] r [] := by
  intro n w0 st a w oo hT hS ho hn hv hm K Q hK
  refine h n w0 st a w oo hT hS ho hn hv hm K Q (fun a' w' S => hK a' w' ?_)
  have hml := hm (l, o) (by simp)
  simp only at hml
  have e : st.m.set l o = st.m := by
    apply List.ext_getElem?
    intro k
    rw [List.getElem?_set]
    split
    · rename_i hk; subst hk
      rw [hml, if_pos (List.getElem?_eq_some_iff.1 hml).1]
    · rfl
  simp only [PS.act, updM, e] at S ⊢
  exact S
theorem ext_kill {op : Op} {vs : List FV} {m0 U : List (Nat × PO)} {r : FV} {l : Nat} (h : Ext P T op vs m0 r U) : Ext P T op vs m0 r (U ++ [(l, .none)]) := by
  intro n w0 st a w oo hT hS ho hn hv hm K Q hK
  refine h n w0 st a w oo hT hS ho hn hv hm K Q (fun a' w' S => hK a' w' ?_)
  obtain ⟨ow, hd, hold, S⟩ := S
  refine ⟨ow, hd, hold, ?_⟩
  have := S.kill l
  simpa only [PS.act, updM_append, updM] using this
end
/-- slices.Insert, over plain lists -/
def insI {α : Type} (b : Nat) (s : List α) (i : Int) (v : List α) : Option (List α) :=
  if 0 ≤ i ∧ i ≤ (s.length : Int) ∧ s.length + v.length ≤ 4611686018427387904 ∧ (s.length + v.length) * b ≤ 140737488355328 then some (s.take i.toNat ++ v ++ s.drop i.toNat) else none
theorem ins_grow {α : Type} {s v : List α} {z : α} {i j : Nat} (hi : i ≤ s.length) (hj : j = i + v.length) : cpyR (cpyR (s.take i ++ List.replicate (s.length + v.length - i) z) i (s.take i ++ List.replicate (s.length + v.length - i) z).length v) j (cpyR (s.take i ++ List.replicate (s.length + v.length - i) z) i (s.take i ++ List.replicate (s.length + v.length - i) z).length v).length ((s.take s.length).drop i) = s.take i ++ v ++ s.drop i := by
  subst hj
  have hts : s.take s.length = s := List.take_of_length_le (Nat.le_refl _)
  rw [hts]
  have hti : (s.take i).length = i := by simp; omega
  have hl : (s.take i ++ List.replicate (s.length + v.length - i) z).length = s.length + v.length := by simp; omega
  have e1 : cpyR (s.take i ++ List.replicate (s.length + v.length - i) z) i (s.take i ++ List.replicate (s.length + v.length - i) z).length v = s.take i ++ v ++ List.replicate (s.length - i) z := by
    unfold cpyR
    have a1 : (s.take i ++ List.replicate (s.length + v.length - i) z).take i = s.take i := List.take_left' hti
    have a2 : v.take (s.length + v.length - i) = v := List.take_of_length_le (by omega)
    have a3 : Nat.min v.length (s.length + v.length - i) = v.length := Nat.min_eq_left (by omega)
    have a4 : (s.take i ++ List.replicate (s.length + v.length - i) z).drop (i + v.length) = List.replicate (s.length - i) z := by
      rw [List.drop_append, hti, List.drop_of_length_le (by omega), List.nil_append, Nat.add_sub_cancel_left, List.drop_replicate]
      congr 1; omega
    rw [hl, a1, a2, a3, a4]
  rw [e1]
  have hl2 : (s.take i ++ v).length = i + v.length := by simp; omega
  have hl3 : (s.take i ++ v ++ List.replicate (s.length - i) z).length = s.length + v.length := by simp; omega
  unfold cpyR
  have b1 : (s.take i ++ v ++ List.replicate (s.length - i) z).take (i + v.length) = s.take i ++ v := List.take_left' hl2
  have b2 : (s.drop i).take (s.length + v.length - (i + v.length)) = s.drop i := List.take_of_length_le (by simp; omega)
  have b3 : (s.take i ++ v ++ List.replicate (s.length - i) z).drop (i + v.length + Nat.min (s.drop i).length (s.length + v.length - (i + v.length))) = [] := by
    apply List.drop_of_length_le
    rw [hl3, List.length_drop, show Nat.min (s.length - i) (s.length + v.length - (i + v.length)) = s.length - i from Nat.min_eq_left (by omega)]
    omega
  rw [hl3, b1, b2, b3, List.append_nil]
end Go.Proofs.Ytdimcmpkhbfcnaa.pv
