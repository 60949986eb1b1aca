/- Rows that may be the clipped head of a larger block; a row that is built anew from the head of an old one, which is looked at meanwhile. -/
import Derived.Test.YtdimcmpkhbfcnaaSv
namespace Go.Proofs.Ytdimcmpkhbfcnaa.pv
set_option linter.all false
open Go.RowKit
/-- the clipped head of a block: there is no room behind it -/
def clipI (s : Nat) (xs : List PV) (ow : Nat → Bool) (w : World) (h : Value) : Prop := ∃ (b : Nat) (cells : List Value), h = .slice (some ⟨b, 0, none⟩) xs.length xs.length ∧ xs.length ≤ maxLen ∧ b < w.heap.size ∧ w.rangeAt b 0 cells ∧ RE ow w s xs cells
/-- a private row, or the clipped head of a private block -/
def rowF (e s : Nat) (xs : List PV) : Cust where
  I := fun ow w h _ => (∃ cells, w.ownsRow 0 e s h xs.length cells ∧ RE ow w s xs cells) ∨ clipI s xs ow w h
  lt := by
    rintro ow w h vs (⟨cells, h1, _⟩ | ⟨g, cells, rfl, _, h2, _⟩) b hb
    · exact (owns_bo h1 hb).2
    · simp [blocksOf, blockOf] at hb; subst hb; exact h2
  kp := by
    rintro ow ow' w w' h vs k hb (⟨cells, h1, h2⟩ | ⟨g, cells, h1, h2, h3, h4, h5⟩)
    · exact .inl ⟨cells, ownsRow_kept h1 fun b e => (hb b e).1, RE.mono k _ _ _ h2⟩
    · have := (hb g (by rw [h1]; simp [blocksOf, blockOf])).1
      exact .inr ⟨g, cells, h1, h2, Nat.lt_of_lt_of_le h3 k.size, rangeAt_kp this h4, RE.mono k _ _ _ h5⟩
  one := by
    rintro ow w h vs (⟨cells, h1, _⟩ | ⟨g, cells, rfl, _⟩)
    · exact owns_one h1
    · rfl
  dat := some xs
  fz := by
    rintro ow ow0 w h vs ys e hI hk hb
    cases e
    rcases hI with ⟨cells, h1, h2⟩ | ⟨g, cells, h1, h2, h3, h4, h5⟩
    · exact own_R h1 h2 hk hb
    · simp only [R]
      exact ⟨some ⟨g, 0, none⟩, xs.length, h1, Nat.le_refl _, h2, .inr ⟨g, 0, s, cells, rfl, h3, hb g (by rw [h1]; simp [blocksOf, blockOf]), h4, RE.mono hk _ _ _ h5⟩⟩
/-- what an old handle leads to -/
def oldI (s : Nat) (xs : List PV) (ow : Nat → Bool) (w : World) (h : Value) : Prop := (h = .slice none 0 0 ∧ xs = []) ∨ ∃ (b C : Nat) (cells : List Value), h = .slice (some ⟨b, 0, none⟩) xs.length C ∧ xs.length ≤ C ∧ C ≤ maxLen ∧ b < w.heap.size ∧ w.rangeAt b 0 cells ∧ RE ow w s xs cells
theorem oldI.kp {s : Nat} {xs : List PV} {ow ow' : Nat → Bool} {w w' : World} {h : Value} (k : Kp ow w ow' w') (hb : ∀ b, b ∈ blocksOf h → w'.heap[b]? = w.heap[b]?) (ho : oldI s xs ow w h) : oldI s xs ow' w' h := by
  rcases ho with ho | ⟨b, C, cells, h1, h2, h3, h4, h5, h6⟩
  · exact .inl ho
  · exact .inr ⟨b, C, cells, h1, h2, h3, Nat.lt_of_lt_of_le h4 k.size, rangeAt_kp (hb b (by rw [h1]; simp [blocksOf, blockOf])) h5, RE.mono k _ _ _ h6⟩
theorem oldI.lt {s : Nat} {xs : List PV} {ow : Nat → Bool} {w : World} {h : Value} (ho : oldI s xs ow w h) : ∀ b, b ∈ blocksOf h → b < w.heap.size := by
  intro b hb
  rcases ho with ⟨rfl, _⟩ | ⟨b', C, cells, h1, h2, h3, h4, h5, h6⟩
  · simp [blocksOf, blockOf] at hb
  · rw [h1] at hb; simp [blocksOf, blockOf] at hb; subst hb; exact h4
/-- the row ys, built anew from the head of the old row xs: a private row, and the old one public; or still the clipped head of the old one -/
def splC (e s : Nat) (xs ys : List PV) : Cust where
  I := fun ow w h vs => ∃ hL, vs = [hL] ∧ oldI s xs ow w hL ∧ ((∃ cells, w.ownsRow 0 e s h ys.length cells ∧ RE ow w s ys cells ∧ ∀ b, b ∈ blocksOf hL → ow b = false) ∨ (∃ (b C : Nat), hL = .slice (some ⟨b, 0, none⟩) xs.length C ∧ h = .slice (some ⟨b, 0, none⟩) ys.length ys.length ∧ ys = xs.take ys.length))
  lt := by
    rintro ow w h vs ⟨hL, rfl, ho, ⟨cells, h1, _⟩ | ⟨g, C, h1, h2, h3⟩⟩ b hb
    · exact (owns_bo h1 hb).2
    · exact ho.lt b (by rw [h1]; rw [h2] at hb; simpa [blocksOf, blockOf] using hb)
  kp := by
    rintro ow ow' w w' h vs k hb ⟨hL, rfl, ho, ⟨cells, h1, h2, h3⟩ | ⟨g, C, h1, h2, h3⟩⟩
    · exact ⟨hL, rfl, ho.kp k fun b hb' => k.same b (ho.lt b hb') (h3 b hb'), .inl ⟨cells, ownsRow_kept h1 fun b e => (hb b e).1, RE.mono k _ _ _ h2, fun b hb' => k.pub b (ho.lt b hb') (h3 b hb')⟩⟩
    · exact ⟨hL, rfl, ho.kp k fun b hb' => (hb b (by rw [h1] at hb'; rw [h2]; simpa [blocksOf, blockOf] using hb')).1, .inr ⟨g, C, h1, h2, h3⟩⟩
  one := by
    rintro ow w h vs ⟨hL, rfl, ho, ⟨cells, h1, _⟩ | ⟨g, C, h1, h2, h3⟩⟩
    · exact owns_one h1
    · rw [h2]; rfl
section
variable {P : Program} {T : List TI} {n : Nat} {w0 : Cx} {st : PS} {a : Act} {w : World} {ow : Nat → Bool} {hd : Nat → Value}
theorem rowF_hd {A : Nat → Bool} {c : Cx} {h : Value} {e s : Nat} {xs : List PV} (hr : RO A hd c ow w h (.cu (rowF e s xs) [])) : ∃ ad cap, h = .slice ad xs.length cap ∧ xs.length ≤ cap ∧ cap ≤ maxLen := by
  obtain ⟨_, vs, _, ⟨cells, h1, h2⟩ | ⟨g, cells, h1, h2, _⟩⟩ := hr
  · rcases h1.2 with ⟨q1, q2⟩ | ⟨g, cap, cur, q1, _, _, q2, q3, _⟩
    · exact ⟨none, 0, by rw [q1, q2], by omega, by simp [maxLen]⟩
    · exact ⟨_, cap, q1, q2, q3⟩
  · exact ⟨_, _, h1, Nat.le_refl _, h2⟩
/-- a row is one of these -/
def toF (l e s : Nat) (xs : List PV) (st : PS) : PS := ⟨st.f, st.m.set l (.cu (rowF e s xs) [])⟩
theorem row_toF {l e s : Nat} {xs : List PV} : SilX [(l, .row e s xs)] (toF l e s xs) := by
  intro st hm
  refine ⟨rfl, fun n w0 a w S => ?_⟩
  obtain ⟨ow, hd, hold, S⟩ := S
  have hml := hm (l, .row e s xs) (by simp)
  simp only at hml
  obtain ⟨cells, h1, h2, h3⟩ := S.objs l _ hml
  exact ⟨ow, hd, hold, S.re hml rfl rfl ⟨h2, [], by simp [RFL], .inl ⟨cells, h1, h3⟩⟩⟩
theorem spl_toF {l L e s : Nat} {xs ys : List PV} : SilX [(l, .cu (splC e s xs ys) [.srf L])] (toF l e s ys) := by
  intro st hm
  refine ⟨rfl, fun n w0 a w S => ?_⟩
  obtain ⟨ow, hd, hold, S⟩ := S
  have hml := hm (l, .cu (splC e s xs ys) [.srf L]) (by simp)
  simp only at hml
  obtain ⟨h1, vs, h2, hL, h3, ho, h4⟩ := S.objs l _ hml
  refine ⟨ow, hd, hold, S.re hml rfl rfl ⟨h1, [], by simp [RFL], ?_⟩⟩
  rcases h4 with ⟨cells, h5, h6, _⟩ | ⟨b, C, h5, h6, h7⟩
  · exact .inl ⟨cells, h5, h6⟩
  · rcases ho with ⟨ho, _⟩ | ⟨b', C', cells, k1, k2, k3, k4, k5, k6⟩
    · rw [h5] at ho; cases ho
    · rw [h5] at k1
      simp at k1
      obtain ⟨rfl, rfl⟩ := k1
      have hy : ys.length ≤ xs.length := by rw [h7]; simp; omega
      refine .inr ⟨b, cells.take (ys.length * s), h6, by omega, k4, fun j v hj => k5 j v ?_, ?_⟩
      · rw [List.getElem?_take] at hj
        split at hj
        · exact hj
        · cases hj
      · have := RE.take ys.length k6
        rw [← h7] at this; exact this
theorem flen {t l e s : Nat} {xs : List PV} {x : Operand} (h1 : tsl T t = some (e, s)) : Ext P T (.call ⟨.builtin .len, #[x], #[t]⟩) [.srf l] [(l, .cu (rowF e s xs) [])] (.d (.v (.int .i64 (xs.length : Int)))) [] := by
  intro n w0 st a w oo hT hS ho hn hv hm K Q hK
  obtain ⟨ow, hd, hold, S⟩ := hS
  obtain ⟨d, op, ty, pos, af, gd⟩ := oo
  simp only at ho hn hK
  subst ho
  simp [Op.operands, Call.operands] at hv
  have hml := hm (l, .cu (rowF e s xs) []) (by simp)
  simp only at hml
  obtain ⟨ad, cap, hh, _, _⟩ := rowF_hd (S.objs l _ hml)
  have hx := S.eval x
  rw [hv] at hx
  simp only [RF] at hx
  have hrun : (execOp a.eval ⟨d, .call ⟨.builtin .len, #[x], #[t]⟩, ty, pos, af, gd⟩).run P w = .ok (.value (.int .i64 (xs.length : Int))) w := by
    simp [execOp, resolve, invoke, builtin, hx.2.1, hh, Builtin.len_, run_underlying (tsl_und hT h1).1, goInt]
  exact wp_val hrun (hK _ _ ⟨ow, hd, hold, S.put hn (x := .d (.v (.int .i64 (xs.length : Int)))) (by simp only [RF, R]; exact ⟨trivial, rfl⟩)⟩)
/-- s[a:] -/
theorem fsl10 {t l e s : Nat} {xs : List PV} {x lo : Operand} {ka : IntKind} {i : Int} (h1 : tsl T t = some (e, s)) (c : 0 ≤ i ∧ i ≤ xs.length) : Ext P T (.slice t x (some lo) none none) [.srf l, .d (.v (.int ka i))] [(l, .cu (rowF e s xs) [])] (.ssl l i.toNat xs.length s) [] := by
  intro n w0 st a w oo hT hS ho hn hv hm K Q hK
  obtain ⟨ow, hd, hold, S⟩ := hS
  obtain ⟨d, op, ty, pos, af, gd⟩ := oo
  simp only at ho hn hK
  subst ho
  simp [Op.operands] at hv
  have hml := hm (l, .cu (rowF e s xs) []) (by simp)
  simp only at hml
  obtain ⟨ad, cap, hh, hle, hcm⟩ := rowF_hd (S.objs l _ hml)
  have hx := S.eval x
  rw [hv.1] at hx
  simp only [RF] at hx
  obtain ⟨hx0, hx1, _⟩ := hx
  obtain ⟨hu, hs⟩ := tsl_und hT h1
  have hb := sliceBounds_opt (P := P) (w := w) (len := xs.length) (cap := cap) (lo := some lo) (hi := none) (i := i) (h := (xs.length : Int)) S (by simp [optInt, hv.2]) (by simp [optInt]) c.1 c.2 (by omega)
  simp only [Option.map_some, Option.map_none, Int.toNat_natCast] at hb
  refine wp_val (v := .slice (if cap = i.toNat then ad else ad.map (·.add (i.toNat * s))) (xs.length - i.toNat) (cap - i.toNat)) (by simp [execOp, Instr.sliceAt, Instr.slice, run_underlying hu, hx1, hh, hb, tsz_run hT hs]) (hK _ _ ⟨ow, hd, hold, S.put hn ?_⟩)
  simp only [RF]
  exact ⟨hx0, ad, xs.length, cap, hh, by omega, hle, rfl⟩
/-- s[:m:m] : the old row is looked at further on -/
theorem fclip {t l nl e s : Nat} {xs ys : List PV} {x hi mx : Operand} {kb kc : IntKind} {i : Int} (h1 : tsl T t = some (e, s)) (c : 0 ≤ i ∧ i ≤ xs.length) (hy : ys = xs.take i.toNat) (hne : l ≠ nl) : Ext P T (.slice t x none (some hi) (some mx)) [.srf l, .d (.v (.int kb i)), .d (.v (.int kc i))] [(l, .cu (rowF e s xs) []), (nl, .free)] (.srf nl) [(l, .none), (nl, .cu (splC e s xs ys) [.srf l])] := by
  intro n w0 st a w oo hT hS ho hn hv hm K Q hK
  obtain ⟨ow, hd, hold, S⟩ := hS
  obtain ⟨d, op, ty, pos, af, gd⟩ := oo
  simp only at ho hn hK
  subst ho
  simp [Op.operands] at hv
  obtain ⟨hv1, hv2, hv3⟩ := hv
  have hml := hm (l, .cu (rowF e s xs) []) (by simp)
  have hnl := hm (nl, .free) (by simp)
  simp only at hml hnl
  have hyl : ys.length = i.toNat := by rw [hy, List.length_take]; omega
  have hO := S.objs l _ hml
  obtain ⟨ad, cap, hh, hle, hcm⟩ := rowF_hd hO
  obtain ⟨hO1, vs0, _, hO3⟩ := hO
  have hx := S.eval x
  rw [hv1] at hx
  simp only [RF] at hx
  obtain ⟨hx0, hx1, hx2⟩ := hx
  obtain ⟨hu, hs⟩ := tsl_und hT h1
  have hb := sliceBounds_opt3 (P := P) (w := w) (len := xs.length) (cap := cap) (lo := none) (ho := hi) (mo := mx) (i := 0) (h := i) (q := i) (df := 0) (df' := 0) S (by simp [optInt]) (by simp [optInt, hv2]) (by simp [optInt, hv3]) (by omega) c.1 (Int.le_refl _) (by omega)
  simp only [Option.map_some, Option.map_none, Int.toNat_zero] at hb
  have hvv : ∃ v, v = Value.slice (if i.toNat = 0 then ad else ad.map (·.add (0 * s))) (i.toNat - 0) (i.toNat - 0) := ⟨_, rfl⟩
  obtain ⟨v, hv⟩ := hvv
  have hve : v = .slice ad i.toNat i.toNat := by
    rw [hv, Nat.sub_zero]
    congr 1
    split
    · rfl
    · cases ad with
      | none => rfl
      | some q =>
        rw [Nat.zero_mul, Option.map_some]
        rcases hO3 with ⟨cells, q1, _⟩ | ⟨g, cells, q1, _⟩
        · rcases q1.2 with ⟨q2, _⟩ | ⟨g, cap', cur, q2, _⟩
          · rw [hh] at q2; cases q2
          · rw [hh] at q2; simp at q2; rw [q2.1, Addr.add_mid]
        · rw [hh] at q1; simp at q1; rw [q1.1, Addr.add_mid]
  have hrun : (execOp a.eval ⟨d, .slice t x none (some hi) (some mx), ty, pos, af, gd⟩).run P w = .ok (.value v) w := by
    simp [execOp, Instr.sliceAt, Instr.slice, run_underlying hu, hx1, hh, hb, tsz_run hT hs, hv]
  have hbl : ∀ b, b ∈ blocksOf v → b ∈ blocksOf (hd l) := by
    intro b hb'
    rw [hve] at hb'; rw [hh]
    cases ad <;> simpa [blocksOf, blockOf] using hb'
  -- the old row
  have hold' : oldI s xs ow w (hd l) ∧ ((∃ cells, w.ownsRow 0 e s v ys.length cells ∧ RE ow w s ys cells ∧ ∀ b, b ∈ blocksOf (hd l) → ow b = false) ∨ (∃ (b C : Nat), hd l = .slice (some ⟨b, 0, none⟩) xs.length C ∧ v = .slice (some ⟨b, 0, none⟩) ys.length ys.length ∧ ys = xs.take ys.length)) := by
    have hyt : ys = xs.take ys.length := by rw [hyl]; exact hy
    rcases hO3 with ⟨cells, q1, q2⟩ | ⟨g, cells, q1, q2, q3, q4, q5⟩
    · rcases q1.2 with ⟨q3, q4⟩ | ⟨g, cap', cur, q3, _, q5, q6, q7, q8, q9⟩
      · have hx0 : xs = [] := List.eq_nil_of_length_eq_zero q4
        have hy0 : ys = [] := by rw [hy, hx0]; simp
        refine ⟨.inl ⟨q3, hx0⟩, .inl ⟨[], ?_, by rw [hy0]; simp [RE], fun b hb' => by rw [q3] at hb'; simp [blocksOf, blockOf] at hb'⟩⟩
        have : v = .slice none 0 0 := by
          rw [q3] at hh; simp at hh
          rw [hve, ← hh.1, ← hyl, hy0]; rfl
        rw [this, hy0]
        exact World.ownsRow_nil w 0 e s
      · refine ⟨.inr ⟨g, cap', cells, q3, q6, q7, (Array.getElem?_eq_some_iff.1 q5).1, fun j u hj => ?_, q2⟩, .inr ⟨g, cap', q3, ?_, hyt⟩⟩
        · rw [Nat.zero_add]; exact cell_at q5 q9 hj
        · rw [q3] at hh; simp at hh
          rw [hve, hyl, ← hh.1]
    · refine ⟨.inr ⟨g, xs.length, cells, q1, Nat.le_refl _, q2, q3, q4, q5⟩, .inr ⟨g, xs.length, q1, ?_, hyt⟩⟩
      rw [q1] at hh; simp at hh
      rw [hve, hyl, ← hh.1]
  have hne' : nl ≠ l := Ne.symm hne
  have S1 := S.kill l
  have hnl1 : (st.m.set l PO.none)[nl]? = some .free := get_set_ne hnl hne'
  obtain ⟨S2, hal2, hal3⟩ := S1.add (o := .cu (splC e s xs ys) [.srf l]) (hv := v) hnl1 rfl
    ⟨fun b hb' => hO1 b (hbl b hb'), [hd l], by
      simp only [RFL, RF]
      refine ⟨hd l, [], rfl, ⟨al_set_mono rfl l (al_set_mono rfl l hx0), by rw [upd_ne _ _ hne], by rw [upd_ne _ _ hne]; exact hx2⟩, hx2, rfl⟩, hd l, rfl, hold'⟩
    (fun j oj b hne2 hj hlv hb1 hb2 => by
      obtain ⟨hj', hjl⟩ := kill_live hj hlv
      exact S.dist j l oj _ b hjl hj' hml hlv rfl hb1 (hbl b hb2))
  refine wp_val hrun (hK _ _ ⟨ow, _, hold, S2.put hn (x := .srf nl) ?_⟩)
  simp only [RF]
  exact ⟨hal3, by rw [upd_same], by rw [upd_same, hve]; rfl⟩
end
end Go.Proofs.Ytdimcmpkhbfcnaa.pv
