/- An append to the rest of a row of one's own: what comes of it, as data. -/
import Derived.Test.YtdimcmpkhbfcnaaSr
namespace Go.Proofs.Ytdimcmpkhbfcnaa.pv
set_option linter.all false
open Go.RowKit

section
variable {P : Program} {T : List TI} {n : Nat} {w0 : Cx} {st : PS} {a : Act} {w : World} {ow : Nat → Bool} {hd : Nat → Value}
theorem run_append_roomAt (t ty e : TypeId) (i : TypeInfo) (ht : P.underlying t = some (.slice e)) (hi : P.info? e = some i)
    (g o sLen sCap : Nat) (cur : Array Value) (hg : w.heap[g]? = some (.cells cur e (0, 0)))
    (a : Addr) (m c : Nat) (news : List Value) (hl : news.length = m * i.size) (hnews : ∀ j u, news[j]? = some u → w.cell? (a.add j) = some u) (h1 : ∀ u ∈ news, u.oneCell' = true)
    (hroom : sLen + m ≤ sCap) (hfit : o + sLen * i.size + news.length ≤ cur.size) :
    (Builtin.append_ #[t, t] ty #[.slice (some ⟨g, o, none⟩) sLen sCap, .slice (some a) m c]).run P w =
      .ok (.slice (some ⟨g, o, none⟩) (sLen + m) sCap) (w.setRow g (cur.toList.take (o + sLen * i.size) ++ news ++ cur.toList.drop (o + sLen * i.size + news.length)).toArray) := by
  have hf := run_firstCells_some (P := P) w i.size m a m c news hl hnews
  have hst := run_storeCells_at P g (o + sLen * i.size) e news 0 cur w hg (by simpa using hfit) h1
  simp only [Nat.add_zero] at hst
  simp [Builtin.append_, run_underlying ht, sizeOf, typeInfo, hi, Builtin.lenOf, hroom, hf, Addr.add_mid, hst]
theorem RE_app {s : Nat} : ∀ {xs ys : List PV} {cs ds : List Value}, RE ow w s xs cs → RE ow w s ys ds → RE ow w s (xs ++ ys) (cs ++ ds)
  | [], ys, cs, ds, h, h' => by simp only [RE] at h; subst h; simpa using h'
  | x :: xs, ys, cs, ds, h, h' => by
    simp only [RE] at h
    obtain ⟨u, r, rfl, h0, h1, h2, h3⟩ := h
    simp only [List.cons_append, RE]
    exact ⟨u, r ++ ds, by simp, h0, h1, h2, RE_app h3 h'⟩
theorem RE_drop {s : Nat} : ∀ (i : Nat) {xs : List PV} {cs : List Value}, RE ow w s xs cs → RE ow w s (xs.drop i) (cs.drop (i * s))
  | 0, xs, cs, h => by simpa using h
  | i + 1, [], cs, h => by simp only [RE] at h; subst h; simp [RE]
  | i + 1, x :: xs, cs, h => by
    simp only [RE] at h
    obtain ⟨u, r, rfl, h0, h1, h2, h3⟩ := h
    have e : (u.cells.toList ++ r).drop ((i + 1) * s) = r.drop (i * s) := by
      have hl : u.cells.toList.length = s := by simpa using h0
      rw [Nat.succ_mul, Nat.add_comm, ← List.drop_drop, ← hl, List.drop_left]
    rw [List.drop_succ_cons, e]
    exact RE_drop i h3
theorem nappD {t L e s i N : Nat} {ti : TI} {xs ys zs : List PV} {x y : Operand} (hzs : xs.drop i ++ ys = zs) (h1 : tsl T t = some (e, s)) (h2 : T[e]? = some ti) (h3 : ti.zero.length = s) (h4 : 0 < s) (hN : N = xs.length) (hi : i < xs.length) (hy : ys.all (fits s) = true) (hy0 : ys ≠ [])
    (h8 : xs.length + ys.length ≤ maxLen) (h9 : (xs.length + ys.length) * ti.bytes ≤ 140737488355328) :
    Ext P T (.call ⟨.builtin .append, #[x, y], #[t, t]⟩) [.ssl L i N s, .d (.sl ys)] [(L, .row e s xs)] (.d (.sl zs)) [(L, .none)] := by
  subst hN hzs
  intro n w0 st a w o hT hS ho hn hv hm K Q hK
  obtain ⟨ow, hd, hold, S⟩ := hS
  obtain ⟨d, op, tyo, pos, af, gd⟩ := o
  simp only at ho hn hK
  subst ho
  simp [Op.operands, Call.operands] at hv
  obtain ⟨hv1, hv2⟩ := hv
  have hmL := hm (L, .row e s xs) (by simp)
  simp only at hmL
  obtain ⟨ti', dd, e1, e2, e3, e4, e5, e6⟩ := hT.info h2
  obtain ⟨hu, hs⟩ := tsl_und hT h1
  have hsi := tsz_info hT hs
  rw [e1] at hsi
  simp at hsi
  obtain ⟨z, hz, e6⟩ := e6 (fun e => by rw [e] at h3; simp at h3; omega)
  have hzl : z.cells.size = s := by
    have := congrArg List.length (zsOk_pv e6).1
    simp at this; omega
  -- the row
  have hx := S.eval x
  rw [hv1] at hx
  simp only [RF] at hx
  obtain ⟨x0, ad, nn, cap, x1, x2, x3, x4⟩ := hx
  obtain ⟨cells, r1, r2, r3⟩ := S.objs L _ hmL
  have hblk : ∃ g, ad = some ⟨g, 0, none⟩ := by
    rcases r1.2 with ⟨q1, q2⟩ | ⟨g, cp, cur, q1, _⟩
    · omega
    · rw [x1] at q1; simp at q1; exact ⟨g, q1.1⟩
  obtain ⟨g, rfl⟩ := hblk
  obtain ⟨cur, k1, k2, k3, k4, k5, k6, k7⟩ := owns_at r1 x1
  subst k2
  have hg := r2 g (by rw [x1]; simp [blocksOf, blockOf])
  have hci : ¬ cap = i := by omega
  rw [if_neg hci] at x4
  have x4 : a.eval x = .slice (some ⟨g, i * s, none⟩) (xs.length - i) (cap - i) := by rw [x4]; simp only [Option.map_some, Addr.add_mid, Nat.zero_add]
  -- what is appended
  have hyv := S.d hv2
  simp only [R] at hyv
  obtain ⟨ya, yc, y1, y2, y3, y4⟩ := hyv
  rcases y4 with y4 | ⟨b, off, sz, ycells, rfl, y5, y6, y7, y8⟩
  · exact absurd y4 hy0
  have y9 := y8.resize hy
  have hmul : ∀ {p q : Nat}, p ≤ q → p * s ≤ q * s := fun h => Nat.mul_le_mul_right _ h
  have hxi : i * s + (xs.length - i) * s = xs.length * s := by rw [← Nat.add_mul]; congr 1; omega
  have hnews : ∀ j u, ycells[j]? = some u → w.cell? ((⟨b, off, none⟩ : Addr).add j) = some u := fun j u hj => by rw [Addr.add_mid]; exact y7 j u hj
  have hylen : ycells.length = ys.length * ti'.size := by rw [hsi]; exact y9.length
  have hyd : ys.length = ys.length := rfl
  have hdrop : (xs.drop i ++ ys).length = xs.length - i + ys.length := by simp
  by_cases hroom : xs.length - i + ys.length ≤ cap - i
  · have hfit : i * s + (xs.length - i) * ti'.size + ycells.length ≤ cur.size := by
      rw [hsi, hxi, hylen, hsi, k5, ← Nat.add_mul]; exact hmul (by omega)
    have hr := run_append_roomAt (P := P) (w := w) t tyo e ti' hu e1 g (i * s) (xs.length - i) (cap - i) cur k1 ⟨b, off, none⟩ ys.length yc ycells hylen hnews y9.one hroom hfit
    rw [hsi, hxi] at hr
    have hrun : (execOp a.eval ⟨d, .call ⟨.builtin .append, #[x, y], #[t, t]⟩, tyo, pos, af, gd⟩).run P w = .ok (.value (.slice (some ⟨g, i * s, none⟩) (xs.length - i + ys.length) (cap - i))) (w.setRow g (cur.toList.take (xs.length * s) ++ ycells ++ cur.toList.drop (xs.length * s + ycells.length)).toArray) := by
      simp [execOp, resolve, invoke, builtin, x4, y1, hr]
    have hoth : ∀ k, k ≠ g → (w.setRow g (cur.toList.take (xs.length * s) ++ ycells ++ cur.toList.drop (xs.length * s + ycells.length)).toArray).heap[k]? = w.heap[k]? := fun k hk => setRow_other w g k _ hk
    have hsz : (w.setRow g (cur.toList.take (xs.length * s) ++ ycells ++ cur.toList.drop (xs.length * s + ycells.length)).toArray).heap.size = w.heap.size := by simp
    generalize hw' : w.setRow g (cur.toList.take (xs.length * s) ++ ycells ++ cur.toList.drop (xs.length * s + ycells.length)).toArray = w' at *
    have hgh : w'.heap[g]? = some (.cells (cur.toList.take (xs.length * s) ++ ycells ++ cur.toList.drop (xs.length * s + ycells.length)).toArray e (0, 0)) := by rw [← hw']; exact setRow_heap w g cur _ e _ k1
    have hbel : Below 0 w w' := by rw [← hw']; exact ⟨rfl, rfl, rfl, by simp, fun j hj => by omega⟩
    have hk : Kp ow w (fun b => if b = g then false else ow b) w' := ⟨by omega, fun b _ h => by show (if b = g then false else ow b) = false; split; rfl; exact h, fun b _ h => hoth b (fun e => by rw [e, hg.2] at h; cases h)⟩
    have S' := S.obj (l := L) (hv := hd L) (o := .none) hk (Kt.of_one hbel hg.1 hoth) (fun b hb => by show (if b = g then false else ow b) = false; split; rfl; exact S.fresh b (by omega)) (.inr rfl) rfl trivial
      (fun j oj b' hne hj hlj hb' => by
        have hbg : b' ≠ g := fun e => by
          subst e
          exact S.dist j L oj _ b' hne hj hmL hlj rfl hb' (by rw [x1]; simp [blocksOf, blockOf])
        exact ⟨hoth b' hbg, if_neg hbg, fun h => by simp [PO.live] at h⟩)
    refine wp_val' hrun (hK _ _ ⟨_, _, hold.step fun b hb hno => ?_, S'.put hn (x := .d (.sl (xs.drop i ++ ys))) ?_⟩)
    · show (if b = g then false else ow b) = ow b
      rw [if_neg]
      intro e; subst e
      rcases hg.1 with h | h
      · omega
      · rw [h] at hno; cases hno
    · simp only [RF, R]
      refine ⟨some ⟨g, i * s, none⟩, cap - i, by rw [hdrop], by rw [hdrop]; exact hroom, by omega, .inr ⟨g, i * s, s, cells.drop (i * s) ++ ycells, rfl, by rw [hsz]; exact (Array.getElem?_eq_some_iff.1 k1).1, if_pos rfl, fun j v hv' => ?_, RE_app (RE_drop i (RE.mono hk _ _ _ r3)) (RE.mono hk _ _ _ y9)⟩⟩
      unfold World.cell?
      simp only [hgh]
      have e7 : cells.drop (i * s) ++ ycells = (cells ++ ycells).drop (i * s) := by
        rw [List.drop_append_of_le_length (by rw [k7]; exact hmul (by omega))]
      rw [e7, List.getElem?_drop] at hv'
      rw [k6]
      have hjl := (List.getElem?_eq_some_iff.1 hv').1
      simp only [List.getElem?_toArray]
      rw [List.getElem?_append_left hjl]
      exact hv'
  · have holds : ∀ j v, (cells.drop (i * s))[j]? = some v → w.cell? ((⟨g, i * s, none⟩ : Addr).add j) = some v := by
      intro j v hj
      rw [List.getElem?_drop] at hj
      rw [Addr.add_mid]
      exact cell_at k1 k6 hj
    have hol : (cells.drop (i * s)).length = (xs.length - i) * ti'.size := by
      rw [List.length_drop, k7, hsi]; omega
    have h63 : xs.length - i + ys.length ≤ 9223372036854775807 := by simp only [maxLen] at h8; omega
    have hbytes : (xs.length - i + ys.length) * ti'.bytes ≤ 140737488355328 := by
      rw [e4]; exact Nat.le_trans (Nat.mul_le_mul_right _ (by omega)) h9
    have hr := run_append_grow (P := P) w t tyo e ti' z hu e1 hz ⟨g, i * s, none⟩ (xs.length - i) (cap - i) (cells.drop (i * s)) hol holds ⟨b, off, none⟩ ys.length yc ycells hylen hnews (by omega) (by omega) (growslice_fits (by omega) hbytes)
    have hge := grownCap_ge w (xs.length - i + ys.length) (cap - i) e
    have hcm := grownCap_le_maxLen w (xs.length - i + ys.length) (cap - i) e (by omega)
    generalize grownCap w (xs.length - i + ys.length) (cap - i) e = gc at *
    have hrun : (execOp a.eval ⟨d, .call ⟨.builtin .append, #[x, y], #[t, t]⟩, tyo, pos, af, gd⟩).run P w = .ok (.value (.slice (some ⟨w.heap.size, 0, none⟩) (xs.length - i + ys.length) gc)) (w.drew.alloc (.cells ((cells.drop (i * s)).toArray ++ ycells.toArray ++ Builtin.zeroCells z.cells (gc - (xs.length - i + ys.length))) e)) := by
      simp [execOp, resolve, invoke, builtin, x4, y1, hr]
    have hsz : (w.drew.alloc (.cells ((cells.drop (i * s)).toArray ++ ycells.toArray ++ Builtin.zeroCells z.cells (gc - (xs.length - i + ys.length))) e)).heap.size = w.heap.size + 1 := by simp
    have hnew := heap_alloc_new w.drew (.cells ((cells.drop (i * s)).toArray ++ ycells.toArray ++ Builtin.zeroCells z.cells (gc - (xs.length - i + ys.length))) e)
    have hbel : Below w.heap.size w (w.drew.alloc (.cells ((cells.drop (i * s)).toArray ++ ycells.toArray ++ Builtin.zeroCells z.cells (gc - (xs.length - i + ys.length))) e)) := ((Below.refl _ _).drew).alloc (Nat.le_refl _) _
    generalize w.drew.alloc (.cells ((cells.drop (i * s)).toArray ++ ycells.toArray ++ Builtin.zeroCells z.cells (gc - (xs.length - i + ys.length))) e) = w' at *
    have hk : Kp ow w ow w' := ⟨by omega, fun _ _ h => h, fun b hb _ => hbel.block b hb⟩
    have S' := (S.later hbel).kill L
    refine wp_val' hrun (hK _ _ ⟨ow, hd, hold, S'.put hn (x := .d (.sl (xs.drop i ++ ys))) ?_⟩)
    simp only [RF, R]
    refine ⟨some ⟨w.heap.size, 0, none⟩, gc, by rw [hdrop], by rw [hdrop]; exact hge, hcm, .inr ⟨w.heap.size, 0, s, cells.drop (i * s) ++ ycells, rfl, by omega, S.fresh _ (Nat.le_refl _), fun j v hv' => ?_, RE_app (RE_drop i (RE.mono hk _ _ _ r3)) (RE.mono hk _ _ _ y9)⟩⟩
    unfold World.cell?
    have hnew : w'.heap[w.heap.size]? = some (.cells ((cells.drop (i * s)).toArray ++ ycells.toArray ++ Builtin.zeroCells z.cells (gc - (xs.length - i + ys.length))) e (0, 0)) := hnew
    simp only [hnew]
    have hjl := (List.getElem?_eq_some_iff.1 hv').1
    rw [← hv', Nat.zero_add, ← Array.getElem?_toList, Array.toList_append, Array.toList_append, List.getElem?_append_left (by simpa using hjl)]
    simp
/-- data is stored into a hole, or into a cell that held data -/
theorem nputD {t l B ty sz i off : Nat} {ct : Nat → Nat × Nat} {q : Nat → Bool} {hs hs' : List (Option Nat)} {xs xs' : List PV} {fs : List FV} {x z : Operand} {y y' p : PV} (hx : xs.set i y' = xs') (h1 : tsz T t = some 1) (hp1 : psz p = 1) (hp2 : isTup p = false) (hlB : l ≠ B) (hy : xs[i]? = some y) (ho : off < sz) (hy' : pcells y' = (pcells y).set off p) (ht' : isTup y' = false) (hpp : pcells p = [p]) (hf : xs.all (fits sz) = true) (hq : q (i * sz + off) = false)
    (hno : ∀ j : Nat, hs'[j]? ≠ some (some (i * sz + off))) (hh : ∀ j k : Nat, k ≠ i * sz + off → (hs'[j]? = some (some k) ↔ hs[j]? = some (some k))) :
    Ext P T (.store t x z) [.ept l sz i off, .d p] [(l, .cu (outC ty sz q hs xs) fs), (B, .cu (bagC ct q xs) [])] .dead [(l, .cu (outC ty sz q hs' xs') fs), (B, .cu (bagC ct q xs') [])] := by
  subst hx
  intro n w0 st a w o hT hS hop hn hv hm K Q hK
  obtain ⟨ow, hd, hold, S⟩ := hS
  obtain ⟨dst, op, tyo, pos, af, gd⟩ := o
  simp only at hop hn hK
  subst hop
  simp [Op.operands] at hv
  obtain ⟨hv1, hv2⟩ := hv
  have hml := hm (l, .cu (outC ty sz q hs xs) fs) (by simp)
  have hmb := hm (B, .cu (bagC ct q xs) []) (by simp)
  simp only at hml hmb
  obtain ⟨b, cap, cur, cells, caps, vs, e1, e2, e3, e4, e5, e6, e7, e8, e9, e10, e11, e12, e13⟩ := S.orow hv1 hml
  have hz := S.d hv2
  have hzc := R.cells hz hp2
  rw [hpp] at hzc
  have hsz := R.size hz hp2
  rw [hp1] at hsz
  obtain ⟨zv, hzv⟩ : ∃ u, (a.eval z).cells = #[u] := by
    have : (a.eval z).cells.toList.length = 1 := by simpa using hsz
    cases hc : (a.eval z).cells.toList with
    | nil => rw [hc] at this; simp at this
    | cons u r =>
      rw [hc] at this
      have : r = [] := by cases r with | nil => rfl | cons _ _ => simp at this
      subst this
      exact ⟨u, by rw [← Array.toList_inj, hc]⟩
  rw [hzv] at hzc
  simp only [RL] at hzc
  obtain ⟨u0, r0, h0, hz1, hz2, _⟩ := hzc
  simp at h0
  obtain ⟨rfl, _⟩ := h0
  have hi := (List.getElem?_eq_some_iff.1 hy).1
  have hmul : i * sz + sz ≤ xs.length * sz := by rw [← Nat.succ_mul]; exact Nat.mul_le_mul_right _ hi
  have hmul2 : xs.length * sz ≤ cap * sz := Nat.mul_le_mul_right _ e6
  have hst := run_storeAt_any (P := P) (w := w) hT (t := t) (b := b) (off := i * sz + off) (v := a.eval z) (by rw [hzv]; exact h1) (there_of_block e5 (by rw [hzv]; simp; omega)) (by rw [hzv]; simpa using hz2)
  unfold Oper.wp
  simp only [execOp, e2, Sem.run_bind, hst, Result.andThen_ok, Sem.run_pure]
  refine hK _ _ ?_
  obtain ⟨cur', k1, k2, k3⟩ := setCells_block b ty (0, 0) (a.eval z).cells.toList (i * sz + off) w cur e5 (by rw [hzv]; simp; omega)
  have hoth := fun j hj => setCells_other b (a.eval z).cells.toList (i * sz + off) w j hj
  have hkp : Kp ow w ow (w.setCells b (i * sz + off) (a.eval z).cells.toList) := ⟨by rw [setCells_size]; exact Nat.le_refl _, fun _ _ h => h, fun j _ hj => hoth j (fun e => by rw [e, e4] at hj; cases hj)⟩
  have hcur : ∀ k : Nat, cur'.toList[k]? = if k = i * sz + off then some zv else cur.toList[k]? := by
    intro k
    have hsize : cur.toList.length = cap * sz := by simpa using e8
    rw [k2, hzv]
    simp only [List.append_assoc, List.singleton_append, List.length_cons, List.length_nil]
    have htl : (cur.toList.take (i * sz + off)).length = i * sz + off := by rw [List.length_take]; omega
    rcases Nat.lt_trichotomy k (i * sz + off) with c | c | c
    · rw [if_neg (by omega), List.getElem?_append_left (by omega), List.getElem?_take, if_pos c]
    · subst c
      rw [if_pos rfl, List.getElem?_append_right (by omega), htl, Nat.sub_self]; rfl
    · rw [if_neg (by omega), List.getElem?_append_right (by omega), htl, show k - (i * sz + off) = (k - (i * sz + off) - 1) + 1 by omega]
      simp only [List.getElem?_cons_succ, List.getElem?_drop]
      congr 1; omega
  have hfl := fl_set hf hy ho hy'
  have hlk : i * sz + off < (fl xs).length := by rw [fl_len hf]; omega
  have S' := S.set (o' := .cu (outC ty sz q hs' (xs.set i y')) fs) hml rfl rfl (b := b) (by rw [e1]; first | rfl | simp [blocksOf, blockOf]) hoth (setCells_size b _ _ w) (Kt.of_one (setCells_below b _ (Nat.le_refl _) _ _ w) e3 hoth)
    ⟨fun b' hb' => by rw [e1] at hb'; simp [blocksOf, blockOf] at hb'; rw [hb']; exact ⟨e3, e4⟩, vs, RFL.mono hkp (fun i hi => ⟨al_set_mono rfl _ hi, rfl⟩) _ _ e11,
      cur'.toList.take (xs.length * sz), caps, ⟨by simp only [List.length_take, List.length_set, Array.length_toList, k3, e8]; omega, .inr ⟨b, cap, cur', by rw [e1, List.length_set], Nat.zero_le _, k1, by rw [List.length_set]; exact e6, e7, by rw [k3]; exact e8, by rw [List.length_set]⟩⟩, e12, fun k p' hp' => ?_⟩
  · have hne : B ≠ l := Ne.symm hlB
    have S2 := S'.retell (l := B) (o := .cu (bagC ct q xs) []) (o' := .cu (bagC ct q (xs.set i y')) []) (get_set_ne hmb hne) rfl rfl (fun A h => by
      obtain ⟨c1, cvs, c2, caps2, c3, c4, c5, c6, c7⟩ := h
      refine ⟨c1, cvs, c2, caps2, c3, by rw [hfl, List.length_set]; exact c4, fun k hk hqk => ?_, c6, c7⟩
      obtain ⟨ys, cs, u, d1, d2, d3, d4⟩ := c5 k hk hqk
      have hkne : i * sz + off ≠ k := fun e => by rw [← e, hq] at hqk; cases hqk
      exact ⟨ys, cs, u, by rw [hfl, List.getElem?_set_ne hkne]; exact d1, d2, d3, d4⟩)
    exact ⟨ow, hd, hold, S2.put hn (x := .dead) (by simp only [RF])⟩
  · rw [hfl] at hp'
    have hk : k < xs.length * sz := by
      have := (List.getElem?_eq_some_iff.1 hp').1
      rw [List.length_set, fl_len hf] at this; exact this
    rw [List.getElem?_take, if_pos hk, hcur]
    by_cases e : k = i * sz + off
    · subst e
      rw [List.getElem?_set_self hlk] at hp'
      cases hp'
      rw [if_pos rfl]
      exact ⟨zv, rfl, hz2, (fun h => by rw [hq] at h; cases h), fun j hj => absurd hj (hno j), fun _ _ => R.mono hkp _ _ hz1⟩
    · rw [List.getElem?_set_ne (Ne.symm e)] at hp'
      obtain ⟨u, u1, u2, u3, u4, u5⟩ := e13 k p' hp'
      rw [if_neg e]
      refine ⟨u, ?_, u2, u3, fun j hj => u4 j ((hh j k e).1 hj), fun hqk hno' => R.mono hkp _ _ (u5 hqk fun j hj => hno' j ((hh j k e).2 hj))⟩
      rw [← e9, List.getElem?_take, if_pos hk] at u1; exact u1
theorem updM_len : ∀ (U : List (Nat × PO)) (m : List PO), (updM m U).length = m.length
  | [], _ => rfl
  | (l, o) :: r, m => by rw [updM, updM_len r]; simp
/-- what an act makes is given up at once -/
theorem ext_fz {op : Op} {vs : List FV} {m0 U : List (Nat × PO)} {l e s : Nat} {zs : List PV} (h : Ext P T op vs m0 (.srf l) (U ++ [(l, .row e s zs)])) (hl : ∃ o, (l, o) ∈ m0) : Ext P T op vs m0 (.d (.sl zs)) (U ++ [(l, .none)]) := by
  intro n w0 st a w o hT hS ho hn hv hm K Q hK
  refine h n w0 st a w o hT hS ho hn hv hm K Q (fun a' w' h' => hK a' w' ?_)
  obtain ⟨oo, hoo⟩ := hl
  have hlt : l < st.m.length := (List.getElem?_eq_some_iff.1 (hm _ hoo)).1
  obtain ⟨ow, hd, hold, S⟩ := h'
  have e1 : updM st.m (U ++ [(l, .row e s zs)]) = (updM st.m U).set l (.row e s zs) := by rw [updM_append]; rfl
  have e2 : updM st.m (U ++ [(l, .none)]) = (updM st.m U).set l .none := by rw [updM_append]; rfl
  simp only [PS.act] at S ⊢
  rw [e1] at S
  rw [e2]
  have hml : ((updM st.m U).set l (.row e s zs))[l]? = some (.row e s zs) := by rw [List.getElem?_set_self (by rw [updM_len]; exact hlt)]
  obtain ⟨cells, r1, r2, r3⟩ := S.objs l _ hml
  have S1 := S.kill l
  simp only at S1
  rw [List.set_set] at S1
  let D : Nat → Bool := fun b => decide (b ∈ blocksOf (hd l))
  obtain ⟨hk, hold2, S2⟩ := S1.publ hold D (fun b hb => (r2 b (by simpa [D] using hb)).1) (fun j oj b hj hlj hb => by
    simp only at hj
    have hj' : ((updM st.m U).set l (.row e s zs))[j]? = some oj ∧ j ≠ l := by
      rw [List.getElem?_set] at hj
      split at hj
      · split at hj
        · cases hj; simp [PO.live] at hlj
        · cases hj
      · rename_i hne
        exact ⟨by rw [List.getElem?_set, if_neg hne]; exact hj, Ne.symm hne⟩
    have := S.dist j l oj _ b hj'.2 hj'.1 hml hlj rfl hb
    simpa [D] using this)
  refine ⟨_, hd, hold2, { S2 with slots := fun i => ?_ }⟩
  have h2 := S2.slots i
  cases hdst : o.dst with
  | none =>
    simp only [hdst, putF] at h2 ⊢
    exact h2
  | some k =>
    simp only [hdst, putF] at h2 ⊢
    rw [getD_set] at h2 ⊢
    by_cases c : i = k ∧ k < st.f.length
    · rw [if_pos c] at h2 ⊢
      simp only [RF] at h2 ⊢
      rw [h2.2.1]
      refine own_R r1 r3 hk fun b hb => ?_
      show (ow b && !D b) = false
      simp [D, hb]
    · rw [if_neg c] at h2 ⊢; exact h2
/-- an append to a row of one's own, wanted as data -/
theorem xapB {α : Type} {f : α → PV} {L Y Z : List α} {t e s l nl : Nat} {ti : TI} {x y : Operand} (hz : ti.zero.length = s) (h : app ti.bytes L Y = some Z) (h1 : tsl T t = some (e, s)) (h2 : T[e]? = some ti) (hs0 : 0 < s) (hf : ∀ x, fits s (f x) = true) :
    Ext P T (.call ⟨.builtin .append, #[x, y], #[t, t]⟩) [.srf l, .d (.sl (Y.map f))] [(l, .row e s (L.map f)), (nl, .free)] (.d (.sl (Z.map f))) [(l, .none), (nl, .none)] := by
  obtain ⟨c1, c2, c3, c4⟩ := app_ob (f := f) (s := s) h hf
  rw [← c4]
  refine ext_fz (U := [(l, .none)]) (e := e) (s := s) (ext_of0 fun ρ mm hv hm => ?_) ⟨.free, by simp⟩
  simp [Op.operands, Call.operands] at hv
  have := PAct0.append (P := P) (T := T) (ρ := ρ) (m := mm) (nl := nl) t x y e s ti (L.map f) (Y.map f) [(l, .none)] [l] [] (hm (nl, .free) (by simp)) h1 h2 hz hs0 (by rw [hv.1]; exact .row l _ (hm (l, .row e s (L.map f)) (by simp))) (by rw [hv.2]; exact .sl _) c1 c2 c3
  exact ⟨nl, _, this⟩
/-- a row is taken out ahead of the operations that read it -/
def nTakeS (l B ty sz k j e s : Nat) (ct : Nat → Nat × Nat) (q : Nat → Bool) (hs : List (Option Nat)) (xs ys : List PV) (fs : List FV) (st : PS) : PS :=
  ⟨st.f, updM (st.m ++ [.free, .free]) [(B, .none), (st.m.length, .row e s ys), (st.m.length + 1, .cu (bagC ct (minus q k) xs) []), (l, .cu (outC ty sz (minus q k) (hs.set j (some k)) xs) ((fs.set 0 (.srf (st.m.length + 1))).set (j + 1) (.srf st.m.length)))]⟩
theorem ntakeS {l B ty sz i off j e s : Nat} {ct : Nat → Nat × Nat} {q : Nat → Bool} {hs : List (Option Nat)} {xs ys : List PV} {fs : List FV} {y : PV} (hf : xs.all (fits sz) = true) (hy : xs[i]? = some y) (hp : (pcells y)[off]? = some (.sl ys)) (hq : q (i * sz + off) = true)
    (hj : hs[j]? = some none) (h0 : fs[0]? = some (.srf B)) (hfl : j + 1 < fs.length) (hct : ct (i * sz + off) = (e, s)) (hlB : l ≠ B) :
    SilX [(l, .cu (outC ty sz q hs xs) fs), (B, .cu (bagC ct q xs) [])] (nTakeS l B ty sz (i * sz + off) j e s ct q hs xs ys fs) := by
  intro st hm
  refine ⟨rfl, fun n w0 a w S => ?_⟩
  obtain ⟨ow, hd, hold, S⟩ := S
  have hml := hm (l, .cu (outC ty sz q hs xs) fs) (by simp)
  have hmb := hm (B, .cu (bagC ct q xs) []) (by simp)
  simp only at hml hmb
  have S1 := S.room 2
  have e1 : st.m ++ List.replicate 2 PO.free = st.m ++ [.free, .free] := rfl
  rw [e1] at S1
  have ga : ∀ {k : Nat} {o : PO}, st.m[k]? = some o → (st.m ++ [PO.free, PO.free])[k]? = some o := fun h => by
    rw [List.getElem?_append_left (List.getElem?_eq_some_iff.1 h).1]; exact h
  obtain ⟨hd', u, cells, S', _⟩ := S1.take (ga hml) (ga hmb) (L := st.m.length) (B2 := st.m.length + 1) (by simp) (by simp) hlB (by omega) (fl_get hf hy hp) hq hj h0 hfl hct
  exact ⟨ow, hd', hold, S'⟩
end
end Go.Proofs.Ytdimcmpkhbfcnaa.pv
