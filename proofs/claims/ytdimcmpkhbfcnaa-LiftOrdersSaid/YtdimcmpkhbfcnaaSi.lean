/- slices.Replace: a private row that is named by a part of itself; its appends, copies and overlaps. -/
import Derived.Test.YtdimcmpkhbfcnaaSe
namespace Go.Proofs.Ytdimcmpkhbfcnaa.pv
set_option linter.all false
open Go.RowKit

theorem ad_zero (s C : Nat) (ad : Option Addr) : (if C = 0 then ad else ad.map (·.add (0 * s))) = ad := by
  split
  · rfl
  · cases ad with
    | none => rfl
    | some p => simp [Addr.add]
section
variable {P : Program} {T : List TI}
/-- a row that is handed over, named by the whole of it -/
theorem retH_ssl {f : FuncId} {args : List FV} {e s : Nat} {xs : List PV} {r : FV} {m' : List PO} (h : RetH P f (.ssl 0 0 xs.length s :: args) [.row e s xs] r m') : RetH P f (.srf 0 :: args) [.row e s xs] r m' := by
  refine ⟨h.1, fun c hd vs S hv => h.2 c hd vs S ?_⟩
  simp only [RFT, RF] at hv ⊢
  obtain ⟨u, us, rfl, ⟨h1, h2, h3⟩, h4⟩ := hv
  refine ⟨u, us, rfl, ⟨h1, ?_⟩, h4⟩
  obtain ⟨cells, g1, g2, g3⟩ := S.objs 0 _ rfl
  rcases g1.2 with ⟨q1, q2⟩ | ⟨g, cap, cur, q1, q2, q3, q4, q5, q6, _⟩
  · refine ⟨_, _, _, q1, Nat.zero_le _, by rw [q2]; exact Nat.le_refl _, ?_⟩
    rw [h2, q1, q2]; simp
  · refine ⟨_, _, _, q1, Nat.zero_le _, q4, ?_⟩
    rw [h2, q1, ad_zero, Nat.sub_zero, Nat.sub_zero]
theorem retH_capS {f : FuncId} {args : List FV} {e s : Nat} {xs : List PV} {r : FV} {m' : List PO} (hf : FnOk P f) (h : ∀ C, xs.length ≤ C → C ≤ maxLen → RetH P f (.ssl 0 0 xs.length s :: args) [.cu (rowC e s C xs) []] r m') : RetH P f (.srf 0 :: args) [.row e s xs] r m' := by
  refine retH_cap hf fun C h1 h2 => ⟨hf, fun c hd vs S hv => (h C h1 h2).2 c hd vs S ?_⟩
  simp only [RFT, RF] at hv ⊢
  obtain ⟨u, us, rfl, ⟨g1, g2, g3⟩, g4⟩ := hv
  refine ⟨u, us, rfl, ⟨g1, ?_⟩, g4⟩
  obtain ⟨ad, q1, q2, _⟩ := rowC_cap (S.objs 0 _ rfl)
  refine ⟨_, _, _, q1, Nat.zero_le _, q2, ?_⟩
  rw [g2, q1, ad_zero, Nat.sub_zero, Nat.sub_zero]
variable {α : Type} {f : α → PV} {L Y Z : List α} {t t' e s l nl i j k m C : Nat} {A B : Int} {ka kb : IntKind} {x y lo hi : Operand} {ti : TI}
/-- append(s[:i], none...) -/
theorem xapN (h1 : tsl T t = some (e, s)) : Ext P T (.call ⟨.builtin .append, #[x, y], #[t, t]⟩) [.ssl l 0 i s, .d (.sl ([] : List PV))] [] (.ssl l 0 i s) [] := by
  intro n w0 st a w oo hT hS ho hn hv hm K Q hK
  obtain ⟨ow, hd, hold, S⟩ := hS
  obtain ⟨d, op, ty, pos, af, gd⟩ := oo
  simp only at ho hn hK
  subst ho
  simp [Op.operands, Call.operands] at hv
  obtain ⟨hv1, hv2⟩ := hv
  obtain ⟨hu, hs⟩ := tsl_und hT h1
  have hsi := tsz_info hT hs
  have hx := S.eval x
  rw [hv1] at hx
  have hx' := hx
  simp only [RF] at hx
  obtain ⟨hA, ad, N, c, x1, x2, x3, x4⟩ := hx
  rw [ad_zero, Nat.sub_zero, Nat.sub_zero] at x4
  have hy := S.d hv2
  simp only [R] at hy
  obtain ⟨adS, capS, y1, _, _, _⟩ := hy
  have hrun : (execOp a.eval ⟨d, .call ⟨.builtin .append, #[x, y], #[t, t]⟩, ty, pos, af, gd⟩).run P w = .ok (.value (.slice ad i c)) w := by
    cases hq : P.info? e with
    | none => rw [hq] at hsi; simp at hsi
    | some i' =>
      have f1 : ∀ z, (Builtin.firstCells z 0 (.slice adS 0 capS)).run P w = .ok #[] w := by
        intro z
        cases adS with
        | none => simp [Builtin.firstCells]
        | some p => exact run_firstCells_some (P := P) w z 0 p 0 capS [] (by simp) (by simp)
      cases ad <;> simp [execOp, resolve, invoke, builtin, x4, y1, Builtin.append_, run_underlying hu, sizeOf, typeInfo, hq, Builtin.lenOf, f1, x3, storeCells]
  refine wp_val hrun (hK _ _ ⟨ow, hd, hold, S.put hn (x := .ssl l 0 i s) ?_⟩)
  rw [x4] at hx'
  exact hx'
/-- append(s[:i], v...): the row is used up -/
theorem xapA (hz : ti.zero.length = s) (h : app ti.bytes (L.take i) Y = some Z) (h1 : tsl T t = some (e, s)) (h2 : T[e]? = some ti) (hs0 : 0 < s) (hf : ∀ x, fits s (f x) = true) (hne : l ≠ nl) (hi : i ≤ L.length) :
    Ext P T (.call ⟨.builtin .append, #[x, y], #[t, t]⟩) [.ssl l 0 i s, .d (.sl (Y.map f))] [(l, .row e s (L.map f)), (nl, .free)] (.srf nl) [(l, .none), (nl, .row e s (Z.map f))] := by
  obtain ⟨c1, c2, c3, c4⟩ := app_ob (f := f) (s := s) h hf
  rw [← c4]
  refine ext_of0 fun ρ mm hv hm => ?_
  simp [Op.operands, Call.operands] at hv
  have := PAct0.append (P := P) (T := T) (ρ := ρ) (m := mm) (nl := nl) t x y e s ti ((L.take i).map f) (Y.map f) [(l, .none)] [l] [] (hm (nl, .free) (by simp)) h1 h2 hz hs0 (by rw [hv.1, List.map_take]; exact .part l _ i (hm (l, .row e s (L.map f)) (by simp)) (by simpa using hi)) (by rw [hv.2]; exact .sl _) c1 c2 c3
  exact ⟨nl, _, this⟩
/-- parts of a row of known capacity -/
theorem yt10 (h : tsl T t = some (e, s)) (c : 0 ≤ A ∧ A ≤ (k : Int)) (hk : k ≤ L.length) (hC : L.length ≤ C) : Ext P T (.slice t x (some lo) none none) [.ssl l 0 k s, .d (.v (.int ka A))] [(l, .cu (rowC e s C (L.map f)) [])] (.ssl l A.toNat k s) [(l, .cu (rowC e s C (L.map f)) [])] := by
  have := ext_part (P := P) (T := T) (x := x) (lo := some lo) (hi := none) (vs := [.ssl l 0 k s, .d (.v (.int ka A))]) (i := A) (h := (k : Int)) (o := .cu (rowC e s C (L.map f)) []) (o' := .cu (rowC e s C (L.map f)) []) (k := k) (C := C) h rfl rfl (.inr rfl)
    (fun A hd w0 ow w v hr => ⟨by obtain ⟨ad, e, _⟩ := rowC_cap hr; exact ⟨ad, _, e, (fun h => by cases h), by omega⟩, hr⟩)
    (fun ρ hv => by simp [Op.operands] at hv; exact ⟨hv.1, by simp [optInt, hv.2], by simp [optInt]⟩) c.1 c.2 (by omega)
  rw [Int.toNat_natCast] at this
  exact this
theorem yt01 (h : tsl T t = some (e, s)) (c : 0 ≤ B ∧ B ≤ (L.length : Int)) (hk : k ≤ L.length) (hC : L.length ≤ C) : Ext P T (.slice t x none (some hi) none) [.ssl l 0 k s, .d (.v (.int kb B))] [(l, .cu (rowC e s C (L.map f)) [])] (.ssl l 0 B.toNat s) [(l, .cu (rowC e s C (L.map f)) [])] := by
  have := ext_part (P := P) (T := T) (x := x) (lo := none) (hi := some hi) (vs := [.ssl l 0 k s, .d (.v (.int kb B))]) (i := 0) (h := B) (o := .cu (rowC e s C (L.map f)) []) (o' := .cu (rowC e s C (L.map f)) []) (k := k) (C := C) h rfl rfl (.inr rfl)
    (fun A hd w0 ow w v hr => ⟨by obtain ⟨ad, e, _⟩ := rowC_cap hr; exact ⟨ad, _, e, (fun h => by cases h), by omega⟩, hr⟩)
    (fun ρ hv => by simp [Op.operands] at hv; exact ⟨hv.1, rfl, by simp [optInt, hv.2]⟩) (by omega) c.1 (by omega)
  exact this
theorem yt11 (h : tsl T t = some (e, s)) (c : 0 ≤ A ∧ A ≤ B ∧ B ≤ (L.length : Int)) (hk : k ≤ L.length) (hC : L.length ≤ C) : Ext P T (.slice t x (some lo) (some hi) none) [.ssl l 0 k s, .d (.v (.int ka A)), .d (.v (.int kb B))] [(l, .cu (rowC e s C (L.map f)) [])] (.ssl l A.toNat B.toNat s) [(l, .cu (rowC e s C (L.map f)) [])] := by
  have := ext_part (P := P) (T := T) (x := x) (lo := some lo) (hi := some hi) (vs := [.ssl l 0 k s, .d (.v (.int ka A)), .d (.v (.int kb B))]) (i := A) (h := B) (o := .cu (rowC e s C (L.map f)) []) (o' := .cu (rowC e s C (L.map f)) []) (k := k) (C := C) h rfl rfl (.inr rfl)
    (fun A hd w0 ow w v hr => ⟨by obtain ⟨ad, e, _⟩ := rowC_cap hr; exact ⟨ad, _, e, (fun h => by cases h), by omega⟩, hr⟩)
    (fun ρ hv => by simp [Op.operands] at hv; exact ⟨hv.1, by simp [optInt, hv.2.1], by simp [optInt, hv.2.2]⟩) c.1 c.2.1 (by omega)
  exact this
theorem ycapS (h : tsl T t = some (e, s)) : Ext P T (.call ⟨.builtin .cap, #[x], #[t]⟩) [.ssl l 0 k s] [(l, .cu (rowC e s C (L.map f)) [])] (.d (.v (.int .i64 (C : Int)))) [] := by
  intro n w0 st a w oo hT hS ho hn hv hm K Q hK
  obtain ⟨ow, hd, hold, S⟩ := hS
  obtain ⟨d, op, ty, pos, af, gd⟩ := oo
  simp only at ho hn hK
  subst ho
  simp [Op.operands, Call.operands] at hv
  have hml := hm (l, .cu (rowC e s C (L.map f)) []) (by simp)
  simp only at hml
  obtain ⟨ad, hh, _, hC⟩ := rowC_cap (S.objs l _ hml)
  have hx := S.eval x
  rw [hv] at hx
  simp only [RF] at hx
  obtain ⟨hA, ad', N, c, x1, x2, x3, x4⟩ := hx
  rw [hh] at x1
  simp at x1
  obtain ⟨rfl, rfl, rfl⟩ := x1
  rw [ad_zero, Nat.sub_zero, Nat.sub_zero] at x4
  have hrun : (execOp a.eval ⟨d, .call ⟨.builtin .cap, #[x], #[t]⟩, ty, pos, af, gd⟩).run P w = .ok (.value (.int .i64 (C : Int))) w := by
    simp [execOp, resolve, invoke, builtin, x4, Builtin.cap_, run_underlying (tsl_und hT h).1, goInt]
  exact wp_val hrun (hK _ _ ⟨ow, hd, hold, S.put hn (x := .d (.v (.int .i64 (C : Int)))) (by simp only [RF, R]; exact ⟨trivial, rfl⟩)⟩)
/-- s[:b], b no more than the length: the capacity is told no more -/
theorem yt01R (h : tsl T t = some (e, s)) (c : 0 ≤ B ∧ B ≤ (L.length : Int)) (hk : k ≤ L.length) (hC : L.length ≤ C) : Ext P T (.slice t x none (some hi) none) [.ssl l 0 k s, .d (.v (.int kb B))] [(l, .cu (rowC e s C (L.map f)) [])] (.ssl l 0 B.toNat s) [(l, .row e s (L.map f))] := by
  have := ext_part (P := P) (T := T) (x := x) (lo := none) (hi := some hi) (vs := [.ssl l 0 k s, .d (.v (.int kb B))]) (i := 0) (h := B) (o := .cu (rowC e s C (L.map f)) []) (o' := .row e s (L.map f)) (k := k) (C := C) h rfl rfl (.inr rfl)
    (fun A hd w0 ow w v hr => ⟨by obtain ⟨ad, e, _⟩ := rowC_cap hr; exact ⟨ad, _, e, (fun h => by cases h), by omega⟩, (rowC_RO hr).1⟩)
    (fun ρ hv => by simp [Op.operands] at hv; exact ⟨hv.1, rfl, by simp [optInt, hv.2]⟩) (by omega) c.1 (by omega)
  exact this
/-- s[:n+m]: a hole behind the last one -/
theorem ytup (h : tsl T t = some (e, s)) (h0 : 0 < m) (c : L.length + m ≤ C) (hk : k ≤ L.length) (hB : B = ((L.length + m : Nat) : Int)) : Ext P T (.slice t x none (some hi) none) [.ssl l 0 k s, .d (.v (.int kb B))] [(l, .cu (rowC e s C (L.map f)) [])] (.ssl l 0 (L.length + m) s) [(l, .cu (rowH e s C (L.map f) m []) [])] := by
  have := ext_part (P := P) (T := T) (x := x) (lo := none) (hi := some hi) (vs := [.ssl l 0 k s, .d (.v (.int kb B))]) (i := 0) (h := B) (o := .cu (rowC e s C (L.map f)) []) (o' := .cu (rowH e s C (L.map f) m []) []) (k := k) (C := C) h rfl rfl (.inr rfl)
    (fun A hd w0 ow w v hr => ⟨by obtain ⟨ad, e, _⟩ := rowC_cap hr; exact ⟨ad, _, e, (fun h => by cases h), by omega⟩, rowC_up hr (by simpa using c) h0⟩)
    (fun ρ hv => by simp [Op.operands] at hv; exact ⟨hv.1, rfl, by simp [optInt, hv.2]⟩) (by omega) (by omega) (by omega)
  rw [hB, Int.toNat_natCast] at this
  simpa [hB] using this
/-- a part of what has a hole -/
theorem yg10 {q : Nat} (h : tsl T t = some (e, s)) (hk : k ≤ L.length + m + Z.length) (hA : A = (q : Int)) (c : q ≤ k) : Ext P T (.slice t x (some lo) none none) [.ssl l 0 k s, .d (.v (.int ka A))] [(l, .cu (rowH e s C (L.map f) m (Z.map f)) [])] (.ssl l q k s) [(l, .cu (rowH e s C (L.map f) m (Z.map f)) [])] := by
  intro n w0 st a w oo hT hS ho hn hv hm K Q hK
  obtain ⟨ow, hd, hold, S⟩ := hS
  have hml := hm (l, .cu (rowH e s C (L.map f) m (Z.map f)) []) (by simp)
  simp only at hml
  obtain ⟨ad, N, hh, hle⟩ := rowH_cap (S.objs l _ hml)
  simp at hle
  subst hA
  have := ext_part (P := P) (T := T) (x := x) (lo := some lo) (hi := none) (vs := [.ssl l 0 k s, .d (.v (.int ka (q : Int)))]) (i := (q : Int)) (h := (k : Int)) (o := .cu (rowH e s C (L.map f) m (Z.map f)) []) (o' := .cu (rowH e s C (L.map f) m (Z.map f)) []) (k := k) (C := C) h rfl rfl (.inr rfl)
    (fun A hd w0 ow w v hr => ⟨by obtain ⟨ad, N, e, _⟩ := rowH_cap hr; exact ⟨ad, N, e, ⟨fun h => (by cases h), by omega⟩⟩, hr⟩)
    (fun ρ hv => by simp [Op.operands] at hv; exact ⟨hv.1, by simp [optInt, hv.2], by simp [optInt]⟩) (by omega) (by omega) (by omega)
  rw [Int.toNat_natCast, Int.toNat_natCast] at this
  exact this n w0 st a w oo hT ⟨ow, hd, hold, S⟩ ho hn hv hm K Q hK
/-- copy(r[i+k:], s[j:]), s with a hole of m behind its elements: the hole is now k from i on -/
theorem ycpM {q n' : Nat} (h1 : tsl T t = some (e, s)) (h2 : T[e]? = some ti) (hij : i ≤ j) (hj : j ≤ L.length) (hk : i + k + (L.length - j) = L.length + m) (hq : q = i + k) (hn' : n' = L.length) :
    Ext P T (.call ⟨.builtin .copy, #[x, y], #[t, t']⟩) [.ssl l q (L.length + m) s, .ssl l j n' s] [(l, .cu (rowH e s C (L.map f) m []) [])] (.d (.v (.int .i64 ((L.length - j : Nat) : Int)))) [(l, .cu (rowH e s C ((L.take i).map f) k ((L.drop j).map f)) [])] := by
  subst hq hn'
  intro n w0 st a w oo hT hS ho hn hv hm K Q hK
  obtain ⟨ow, hd, hold, S⟩ := hS
  obtain ⟨d, op, ty, pos, af, gd⟩ := oo
  simp only at ho hn hK
  subst ho
  simp [Op.operands, Call.operands] at hv
  obtain ⟨hv1, hv2⟩ := hv
  have hml := hm (l, .cu (rowH e s C (L.map f) m []) []) (by simp)
  simp only at hml
  obtain ⟨i', dd, e1, e2, e3, e4, e5, e6⟩ := hT.info h2
  obtain ⟨hu, hs⟩ := tsl_und hT h1
  have hsi := tsz_info hT hs
  rw [e1] at hsi
  simp at hsi
  obtain ⟨g1, vs, g1', g, cur, N, q1, q2, q3, q4, q5, q6, q7⟩ := S.objs l _ hml
  simp only [List.length_map, List.length_nil, Nat.add_zero] at q5 q6
  have hx := S.eval x
  have hy := S.eval y
  rw [hv1] at hx
  rw [hv2] at hy
  simp only [RF] at hx hy
  obtain ⟨hA, ad, N', C', x1, x2, x3, x4⟩ := hx
  obtain ⟨_, ad', N'', C'', y1, y2, y3, y4⟩ := hy
  rw [q1] at x1 y1
  simp at x1 y1
  obtain ⟨rfl, rfl, rfl⟩ := x1
  obtain ⟨rfl, rfl, rfl⟩ := y1
  have hmin : Nat.min (L.length - j) (L.length + m - (i + k)) = L.length - j := by
    rw [show L.length + m - (i + k) = L.length - j by omega]; exact Nat.min_self _
  have hcl : cur.toList.length = C * s := by simpa using q4
  have hmul : ∀ p, p ≤ C → p * s ≤ C * s := fun p hp => Nat.mul_le_mul_right _ hp
  have hnews : RE ow w s ((L.map f).drop j) ((cur.toList.take (L.length * s)).drop (j * s)) := RE.drop j q6
  have hnl : ((cur.toList.take (L.length * s)).drop (j * s)).length = (L.length - j) * s := by rw [hnews.length]; simp
  have hcell : ∀ k u, ((cur.toList.take (L.length * s)).drop (j * s))[k]? = some u → w.cell? ⟨g, j * s + k, none⟩ = some u := by
    intro k u hk
    rw [List.getElem?_drop, List.getElem?_take] at hk
    split at hk
    · unfold World.cell?
      simp only [q2]
      simpa using hk
    · cases hk
  have hbnd : (i + k) * s + (L.length - j) * s ≤ C * s := by rw [← Nat.add_mul]; exact hmul _ (by omega)
  have hli : ((L.take i).map f).length = i := by simp; omega
  have hld : ((L.drop j).map f).length = L.length - j := by simp
  obtain ⟨p1, S'⟩ := putCells S (o' := .cu (rowH e s C ((L.take i).map f) k ((L.drop j).map f)) []) (p := (i + k) * s) (news := (cur.toList.take (L.length * s)).drop (j * s)) hml rfl rfl q1 q2 (by rw [hnl, q4]; exact hbnd)
    (fun cur' w' kp b1 b2 b3 b4 b5 => by
      have e1 : i * s ≤ (i + k) * s := Nat.mul_le_mul_right _ (by omega)
      have hl1 : (cur.toList.take ((i + k) * s)).length = (i + k) * s := by rw [List.length_take, hcl]; exact Nat.min_eq_left (hmul _ (by omega))
      refine ⟨fun b hb => by rw [q1] at hb; simp [blocksOf, blockOf] at hb; rw [hb]; exact ⟨b4, b5⟩, [], by simp [RFL], g, cur', N, q1, b1, q3, by rw [b2]; exact q4, by rw [hli, hld]; omega, ?_, ?_⟩
      · have : cur'.toList.take (((L.take i).map f).length * s) = (cur.toList.take (L.length * s)).take (i * s) := by
          rw [hli, b3, List.append_assoc, List.take_append_of_le_length (by rw [hl1]; exact e1), List.take_take, List.take_take, Nat.min_eq_left e1, Nat.min_eq_left (Nat.mul_le_mul_right _ (by omega))]
        rw [this]
        have := RE.mono kp _ _ _ (RE.take i q6)
        simpa [List.map_take] using this
      · rw [hli, hld, b3, List.append_assoc]
        have : ((cur.toList.take ((i + k) * s) ++ ((cur.toList.take (L.length * s)).drop (j * s) ++ cur.toList.drop ((i + k) * s + ((cur.toList.take (L.length * s)).drop (j * s)).length))).drop ((i + k) * s)).take ((L.length - j) * s) = (cur.toList.take (L.length * s)).drop (j * s) := by
          rw [List.drop_left' hl1]
          exact List.take_left' hnl
        rw [this]
        have := RE.mono kp _ _ _ hnews
        simpa [List.map_drop] using this)
  by_cases hz : L.length - j = 0
  · -- nothing lies there
    have hnil : (cur.toList.take (L.length * s)).drop (j * s) = [] := List.eq_nil_of_length_eq_zero (by rw [hnl, hz]; simp)
    have hxe : ∃ o, a.eval x = .slice (some ⟨g, o, none⟩) (L.length + m - (i + k)) (C - (i + k)) := by
      rw [x4]
      split
      · exact ⟨_, rfl⟩
      · exact ⟨_, by rw [Option.map_some, addr_add0]⟩
    have hye : ∃ o, a.eval y = .slice (some ⟨g, o, none⟩) (L.length - j) (C - j) := by
      rw [y4]
      split
      · exact ⟨_, rfl⟩
      · exact ⟨_, by rw [Option.map_some, addr_add0]⟩
    obtain ⟨ox, hxe⟩ := hxe
    obtain ⟨oy, hye⟩ := hye
    have hr := run_copy_any (P := P) (w := w) (t' := t') (news := []) hu e1 hsi (b := g) (p := ox) (dl := L.length + m - (i + k)) (dc := C - (i + k)) (sl := L.length - j) (sc := C - j) (A := ⟨g, oy, none⟩) hmin (by rw [hz]; simp) (by simp) (fun k hk => by simp at hk) (by simp) ty
    have hrun : (execOp a.eval ⟨d, .call ⟨.builtin .copy, #[x, y], #[t, t']⟩, ty, pos, af, gd⟩).run P w = .ok (.value (.int .i64 ((L.length - j : Nat) : Int))) w := by
      simp [execOp, resolve, invoke, builtin, hxe, hye, hr, World.setCells]
    rw [hnil] at S'
    exact wp_val hrun (hK _ _ ⟨ow, hd, hold, S'.put hn (x := .d (.v _)) (by simp only [RF, R]; exact ⟨trivial, rfl⟩)⟩)
  · have hxe : a.eval x = .slice (some ⟨g, (i + k) * s, none⟩) (L.length + m - (i + k)) (C - (i + k)) := by rw [x4, if_neg (by omega), Option.map_some, addr_add0]
    have hye : a.eval y = .slice (some ⟨g, j * s, none⟩) (L.length - j) (C - j) := by rw [y4, if_neg (by omega), Option.map_some, addr_add0]
    have hr := run_copy_any (P := P) (w := w) (t' := t') hu e1 hsi (b := g) (p := (i + k) * s) (dl := L.length + m - (i + k)) (dc := C - (i + k)) (sl := L.length - j) (sc := C - j) (A := ⟨g, j * s, none⟩) hmin hnl (fun k u hk => by rw [addr_add]; exact hcell k u hk) p1 (RE.one hnews) ty
    have hrun : (execOp a.eval ⟨d, .call ⟨.builtin .copy, #[x, y], #[t, t']⟩, ty, pos, af, gd⟩).run P w = .ok (.value (.int .i64 ((L.length - j : Nat) : Int))) (w.setCells g ((i + k) * s) ((cur.toList.take (L.length * s)).drop (j * s))) := by
      simp [execOp, resolve, invoke, builtin, hxe, hye, hr]
    exact wp_val' hrun (hK _ _ ⟨ow, hd, hold, S'.put hn (x := .d (.v _)) (by simp only [RF, R]; exact ⟨trivial, rfl⟩)⟩)
end
theorem run_overlaps_own2 {P : Program} (w : World) (tS tR e : TypeId) (ht : P.underlying tS = some (.slice e)) (size : Nat) (hz : ∀ w, (Go.sizeOf e).run P w = .ok size w)
    (a b : Addr) (la ca lb cb : Nat) (hne : a.block ≠ b.block) (tA tB : TypeId) (kA kB : Nat) (hsa : w.shape? a.block = some (tA, kA)) (hsb : w.shape? b.block = some (tB, kB)) (hkB : kB ≠ 0) (hfa : w.frozen? a = false) (hfe : w.frozen? { block := a.block, off := kA } = false) :
    (Extern.SlicesOverlaps.overlaps #[tS, tS] #[tR] #[.slice (some a) la ca, .slice (some b) lb cb]).run P w = .ok (.bool false) w := by
  have hnb : (a.block != b.block) = true := by simpa using hne
  have hnb' : (a.block == b.block) = false := by simpa using hne
  change Sem.run P (α := Value) (do
    let some t := (#[tS, tS] : Array TypeId)[0]? | stuck "slices.overlaps: no parameter types"
    let .slice elem ← underlying t | stuck "slices.overlaps: slice type expected"
    let size ← sizeOf elem
    match (some a : Option Addr), (some b : Option Addr) with
    | some a, some b =>
      if la = 0 ∨ lb = 0 ∨ size = 0 then pure (Value.bool false)
      else if a.block != b.block && (← frozen a) && (← frozen b) then unsupported .addressObserved
      else do
        if a.block != b.block then do
          noView a; noView b
          if ← mayBeOne a b then return Value.bool ((← choose (.extern "sameAddr.stringBytes" 2)) == 1)
        pure (Value.bool (a.block == b.block && a.off < b.off + lb * size && b.off < a.off + la * size))
    | _, _ => pure (Value.bool false)) w = _
  by_cases h0 : la = 0 ∨ lb = 0 ∨ size = 0
  · simp [run_underlying ht, hz, h0]
  · cases kB with
    | zero => exact absurd rfl hkB
    | succ kB =>
      cases h1 : w.frozen? b with
      | true => simp [run_underlying ht, hz, h0, hnb, hnb', frozen, noView, viewAt, mayBeOne, stringish, shape, Sem.run, hsa, hsb, hfa, hfe, h1]
      | false =>
        cases h2 : w.frozen? { block := b.block, off := kB + 1 } with
        | true => simp [run_underlying ht, hz, h0, hnb, hnb', frozen, noView, viewAt, mayBeOne, stringish, shape, Sem.run, hsa, hsb, hfa, hfe, h1, h2]
        | false => simp [run_underlying ht, hz, h0, hnb, hnb', frozen, noView, viewAt, mayBeOne, stringish, shape, Sem.run, hsa, hsb, hfa, hfe, h1, h2]
section
variable {P : Program} {T : List TI} {α : Type} {f : α → PV} {L Y Z : List α} {t e s l i j k m C : Nat} {x y : Operand}
/-- slices.overlaps of a part of a private block and data -/
theorem yovB {g : FuncId} {fn : Func} {tR : TypeId} {tys : Array Nat} (hf : P.funcs[g]? = some fn) (hname : (fn.name == "runtime.NumGoroutine") = false) (hb : fn.body.isNone = true) (hnx : Extern.findNext fn = none) (he : Extern.find fn = some (Extern.SlicesOverlaps.overlaps #[t, t] #[tR])) (h1 : tsl T t = some (e, s)) (hs0 : 0 < s) (hff : ∀ x, fits s (f x) = true) :
    Ext P T (.call ⟨.value (.func g), #[x, y], tys⟩) [.d (.clo g []), .ssl l i j s, .d (.sl (Y.map f))] [(l, .cu (rowH e s C (L.map f) m (Z.map f)) [])] (.d (.v (.bool false))) [] := by
  intro n w0 st a w oo hT hS ho hn hv hm K Q hK
  obtain ⟨ow, hd, hold, S⟩ := hS
  obtain ⟨d, op, ty, pos, af, gd⟩ := oo
  simp only at ho hn hK
  subst ho
  simp only [Op.operands, Call.operands] at hv
  have hv : [ev st.f (.func g), ev st.f x, ev st.f y] = _ := hv
  simp only [List.cons.injEq, and_true] at hv
  obtain ⟨_, hv1, hv2⟩ := hv
  have hml := hm (l, .cu (rowH e s C (L.map f) m (Z.map f)) []) (by simp)
  simp only at hml
  obtain ⟨hu, hs⟩ := tsl_und hT h1
  have hsi := tsz_info hT hs
  obtain ⟨g1, vs, g1', gb, cur, N, q1, q2, q3, q4, q5, q6, q7⟩ := S.objs l _ hml
  have hy := S.eval x
  rw [hv1] at hy
  simp only [RF] at hy
  obtain ⟨hA, ad, N', C', x1, x2, x3, x4⟩ := hy
  rw [q1] at x1
  simp at x1
  obtain ⟨rfl, rfl, rfl⟩ := x1
  have hxd := S.d hv2
  simp only [R] at hxd
  obtain ⟨adS, capS, y1, _, _, y2⟩ := hxd
  have hz : ∀ w, (Go.sizeOf e).run P w = .ok s w := fun w => by
    cases hq : P.info? e with
    | none => rw [hq] at hsi; simp at hsi
    | some i' =>
      rw [hq] at hsi
      simp at hsi
      simp [sizeOf, typeInfo, hq, hsi]
  have hov : ∀ (b : Nat) (o2 : Nat), b = gb → (Extern.SlicesOverlaps.overlaps #[t, t] #[tR] #[.slice (some ⟨b, o2, none⟩) (j - i) (C - i), a.eval y]).run P w = .ok (.bool false) w := by
    rintro b o2 rfl
    rw [y1]
    cases adS with
    | none =>
      change Sem.run P (α := Value) (do
        let some t := (#[t, t] : Array TypeId)[0]? | stuck "slices.overlaps: no parameter types"
        let .slice elem ← underlying t | stuck "slices.overlaps: slice type expected"
        let size ← sizeOf elem
        pure (Value.bool false)) w = _
      simp [run_underlying hu, hz]
    | some A =>
      rcases y2 with y2 | ⟨b', off, sz, cells, e1, e2, e3, e4, e5⟩
      · simp at y2
        subst y2
        change Sem.run P (α := Value) (do
          let some t := (#[t, t] : Array TypeId)[0]? | stuck "slices.overlaps: no parameter types"
          let .slice elem ← underlying t | stuck "slices.overlaps: slice type expected"
          let size ← sizeOf elem
          if (j - i) = 0 ∨ (([] : List α).map f).length = 0 ∨ size = 0 then pure (Value.bool false)
          else if b != A.block && (← frozen ⟨b, o2, none⟩) && (← frozen A) then unsupported .addressObserved
          else do
            if b != A.block then do
              noView ⟨b, o2, none⟩; noView A
              if ← mayBeOne ⟨b, o2, none⟩ A then return Value.bool ((← choose (.extern "sameAddr.stringBytes" 2)) == 1)
            pure (Value.bool (b == A.block && o2 < A.off + (([] : List α).map f).length * size && A.off < o2 + (j - i) * size))) w = _
        simp [run_underlying hu, hz]
      · cases e1
        have hne : b' ≠ b := by
          intro e'
          have := (g1 b (by rw [q1]; first | rfl | simp [blocksOf, blockOf])).2
          rw [← e', e3] at this; cases this
        have hYs := RE.resize e5 (all_fits (s := s) hff)
        have hcl := hYs.length
        cases hYc : Y with
        | nil =>
          subst hYc
          change Sem.run P (α := Value) (do
            let some t := (#[t, t] : Array TypeId)[0]? | stuck "slices.overlaps: no parameter types"
            let .slice elem ← underlying t | stuck "slices.overlaps: slice type expected"
            let size ← sizeOf elem
            if (j - i) = 0 ∨ (([] : List α).map f).length = 0 ∨ size = 0 then pure (Value.bool false)
            else if b != b' && (← frozen ⟨b, o2, none⟩) && (← frozen ⟨b', off, none⟩) then unsupported .addressObserved
            else do
              if b != b' then do
                noView ⟨b, o2, none⟩; noView ⟨b', off, none⟩
                if ← mayBeOne ⟨b, o2, none⟩ ⟨b', off, none⟩ then return Value.bool ((← choose (.extern "sameAddr.stringBytes" 2)) == 1)
              pure (Value.bool (b == b' && o2 < off + (([] : List α).map f).length * size && off < o2 + (j - i) * size))) w = _
          simp [run_underlying hu, hz]
        | cons z zs =>
          have h0 : 0 < cells.length := by rw [hcl, hYc, List.length_map]; exact Nat.mul_pos (by simp) hs0
          have hc0 := e4 0 _ (List.getElem?_eq_getElem h0)
          obtain ⟨kc, kt, kf, hk⟩ : ∃ c t fr, w.heap[b']? = some (.cells c t fr) := by
            unfold World.cell? at hc0
            split at hc0
            · exact ⟨_, _, _, by assumption⟩
            · cases hc0
          have hks : kc.size ≠ 0 := by
            unfold World.cell? at hc0
            simp only [hk] at hc0
            intro hz0
            simp at hc0
            have := (Array.getElem?_eq_some_iff.1 hc0).1
            omega
          refine run_overlaps_own2 w t tR e hu s hz ⟨b, o2, none⟩ ⟨b', off, none⟩ _ _ _ _ (fun h => hne h.symm) e kt cur.size kc.size (by simp [World.shape?, q2]) (by simp [World.shape?, hk]) hks (by simp [World.frozen?, q2]) (by simp [World.frozen?, q2])
  have hye : ∃ o2, a.eval x = .slice (some ⟨gb, o2, none⟩) (j - i) (C - i) := by
    rw [x4]
    split
    · exact ⟨_, rfl⟩
    · exact ⟨_, by rw [Option.map_some, addr_add0]⟩
  obtain ⟨o2, hye⟩ := hye
  have hrun : (execOp a.eval ⟨d, .call ⟨.value (.func g), #[x, y], tys⟩, ty, pos, af, gd⟩).run P w = .ok (.value (.bool false)) w := by
    have h3 := run_callFunc_extern (P := P) hf hname hb hnx he #[a.eval x, a.eval y] w
    rw [hye, hov gb o2 rfl] at h3
    have e0 : a.eval (.func g) = .func (.func g) #[] #[] := rfl
    rw [← hye] at h3
    simp [execOp, resolve, Deferred.ofValue, invoke, e0]
    simpa [Result.andThen] using h3
  exact wp_val hrun (hK _ _ ⟨ow, hd, hold, S.put hn (x := .d (.v (.bool false))) (by simp only [RF, R]; exact ⟨trivial, rfl⟩)⟩)
end
/-- slices.Replace, over plain lists: not all of it -/
def repI {α : Type} (b : Nat) (s : List α) (i j : Int) (v : List α) : Option (List α) :=
  if 0 ≤ i ∧ i < j ∧ j ≤ (s.length : Int) ∧ (v.length = 0 ∨ j - i ≤ (v.length : Int)) ∧ s.length + v.length ≤ 4611686018427387904 ∧ (s.length + v.length) * b ≤ 140737488355328 then some (s.take i.toNat ++ v ++ s.drop j.toNat) else none
theorem cpy_len {α : Type} {L Y : List α} {i j : Nat} (hi : i ≤ j) (hj : j ≤ L.length) : (cpyR L i j Y).length = L.length := by
  unfold cpyR
  rcases Nat.le_total Y.length (j - i) with h' | h'
  · rw [show Nat.min Y.length (j - i) = Y.length from Nat.min_eq_left h']; simp; omega
  · rw [show Nat.min Y.length (j - i) = j - i from Nat.min_eq_right h']; simp; omega
/-- a copy that fits, behind what is there -/
theorem cpy_mid {α : Type} {A B Y Z : List α} (i j : Nat) (hi : A.length = i) (hj : j = i + B.length + Z.length) (h : Y.length = B.length) : cpyR (A ++ B ++ Z) i j Y = A ++ Y ++ Z := by
  subst hi hj
  unfold cpyR
  rw [List.append_assoc A B Z, List.take_left, List.take_of_length_le (by omega), show Nat.min Y.length (A.length + B.length + Z.length - A.length) = Y.length from Nat.min_eq_left (by omega), h, ← List.append_assoc A B Z, List.drop_append_of_le_length (by simp), List.drop_of_length_le (by simp)]
  simp
/-- what slices.Replace makes where there is no room -/
theorem rep_grow {α : Type} {s v : List α} {z : α} {i j k q : Nat} (hij : i ≤ j) (hj : j ≤ s.length) (hk : k = v.length + (s.length - j)) (hq : q = i + v.length) {M N : Nat} (hM : M = i + k) (hN : N = s.length) :
    cpyR (cpyR (s.take i ++ List.replicate k z) i M v) q M ((s.take N).drop j) = s.take i ++ v ++ s.drop j := by
  subst hM hN hq hk
  have hti : (s.take i).length = i := by simp; omega
  rw [List.take_of_length_le (Nat.le_refl _)]
  have e1 : s.take i ++ List.replicate (v.length + (s.length - j)) z = s.take i ++ List.replicate v.length z ++ List.replicate (s.length - j) z := by
    rw [List.append_assoc, List.replicate_append_replicate]
  rw [e1, cpy_mid i _ hti (by simp; omega) (by simp)]
  have e2 : s.take i ++ v ++ List.replicate (s.length - j) z = (s.take i ++ v) ++ List.replicate (s.length - j) z ++ [] := by simp
  rw [e2, cpy_mid (i + v.length) _ (by simp; omega) (by simp; omega) (by simp)]
  simp
/-- what it makes where v is no longer than what it replaces -/
theorem rep_fit {α : Type} {s v : List α} {z : α} {i j q tot : Nat} (hij : i + v.length ≤ j) (hj : j ≤ s.length) (ht : tot = i + v.length + (s.length - j)) (hq : q = i + v.length) {N M : Nat} (hN : N = s.length) (hM : M = s.length) :
    (clrR (cpyR (cpyR s i tot v) q tot (((cpyR s i tot v).take N).drop j)) tot M z).take tot = s.take i ++ v ++ s.drop j := by
  subst hN hM hq ht
  have hti : (s.take i).length = i := by simp; omega
  -- s in parts: what stays, what v takes, the rest
  have e0 : cpyR s i (i + v.length + (s.length - j)) v = s.take i ++ v ++ s.drop (i + v.length) := by
    unfold cpyR
    rw [List.take_of_length_le (l := v) (by omega), show Nat.min v.length (i + v.length + (s.length - j) - i) = v.length from Nat.min_eq_left (by omega)]
  have hl0 : (s.take i ++ v ++ s.drop (i + v.length)).length = s.length := by simp; omega
  have e1 : ((s.take i ++ v ++ s.drop (i + v.length)).take s.length).drop j = s.drop j := by
    rw [List.take_of_length_le (by omega), List.drop_append, List.drop_of_length_le (by simp; omega), List.nil_append, List.drop_drop]
    congr 1
    simp; omega
  rw [e0, e1]
  have e2 : ∀ X : List α, cpyR (s.take i ++ v ++ X) (i + v.length) (i + v.length + (s.length - j)) (s.drop j) = s.take i ++ v ++ s.drop j ++ X.drop (s.length - j) := by
    intro X
    have hl : (s.take i ++ v).length = i + v.length := by simp; omega
    have hd0 : (s.take i ++ v).drop (i + v.length + (s.length - j)) = [] := List.drop_of_length_le (by rw [hl]; omega)
    unfold cpyR
    rw [List.take_left' hl, List.take_of_length_le (l := s.drop j) (by simp), List.length_drop, show Nat.min (s.length - j) (i + v.length + (s.length - j) - (i + v.length)) = s.length - j from Nat.min_eq_left (by omega), List.drop_append, hd0, List.nil_append, hl, Nat.add_sub_cancel_left]
  rw [e2]
  unfold clrR
  have hl3 : (s.take i ++ v ++ s.drop j).length = i + v.length + (s.length - j) := by simp; omega
  rw [List.append_assoc, List.take_left' (by rw [List.length_take, List.length_append, hl3]; omega), List.take_left' hl3]
end Go.Proofs.Ytdimcmpkhbfcnaa.pv
