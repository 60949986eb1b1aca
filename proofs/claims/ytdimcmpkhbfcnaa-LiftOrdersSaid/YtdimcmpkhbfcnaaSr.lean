/- Rows of rows: masks; a hole whose row has not changed; a slice of which only the length is wanted later. -/
import Derived.Test.YtdimcmpkhbfcnaaSq
namespace Go.Proofs.Ytdimcmpkhbfcnaa.pv
set_option linter.all false
open Go.RowKit

def plus (q : Nat → Bool) (k : Nat) : Nat → Bool := fun i => q i || decide (i = k)
def qpre (q : Nat → Bool) (N : Nat) : Nat → Bool := fun k => decide (k < N) && q k
section
variable {P : Program} {T : List TI} {n : Nat} {w0 : Cx} {st : PS} {a : Act} {w : World} {ow : Nat → Bool} {hd : Nat → Value}
theorem set_own {α : Type} {l : List α} {i : Nat} {x : α} (h : l[i]? = some x) : l.set i x = l := by
  apply List.ext_getElem?
  intro j
  rw [List.getElem?_set]
  by_cases e : i = j
  · subst e
    rw [if_pos rfl, if_pos (List.getElem?_eq_some_iff.1 h).1, h]
  · rw [if_neg e]
theorem nclose_same {l B L ty sz i off j e s : Nat} {ct : Nat → Nat × Nat} {q q' : Nat → Bool} {hs : List (Option Nat)} {xs ys : List PV} {fs : List FV} {y : PV} (hlB : l ≠ B) (hlL : l ≠ L) (hBL : B ≠ L) (hf : xs.all (fits sz) = true) (hy : xs[i]? = some y) (hoff : off < sz) (hp : (pcells y)[off]? = some (.sl ys))
    (hq : q (i * sz + off) = false) (hj : hs[j]? = some (some (i * sz + off))) (hu : ∀ j' : Nat, j' ≠ j → hs[j']? ≠ some (some (i * sz + off))) (h0 : fs[0]? = some (.srf B)) (hL : fs[j + 1]? = some (.srf L)) (hct : ct (i * sz + off) = (e, s)) (hq' : ∀ k, k < xs.length * sz → q' k = (q k || decide (k = i * sz + off))) :
    SilX [(l, .cu (outC ty sz q hs xs) fs), (B, .cu (bagC ct q xs) []), (L, .row e s ys)] (nClose l B L ty sz ct q' (hs.set j none) xs fs j) := by
  have h := nclose (ys := ys) (e := e) (s := s) (q := q) (hs := hs) (xs := xs) (i := i) (off := off) (j := j) (y := y) (sz := sz) (l := l) (B := B) (L := L) (ty := ty) (y' := y) (ct := ct) (q' := q') (fs := fs) hlB hlL hBL hf hy hoff (by rw [set_own hp]) (by
    have := List.all_eq_true.1 hf y (List.mem_of_getElem? hy)
    exact (fits_spec this).1) hq hj hu h0 hL hct hq'
  rw [set_own hy] at h
  exact h
/-- a variable's cell that holds a row of one's own is read; it is remembered as a part of that row -/
theorem nalias {t b off L e s N : Nat} {cs : List FV} {ys : List PV} {x : Operand} (hN : ys.length = N) (h1 : tagg T t = some false) (hc : cs[off]? = some (.srf L)) (hne : b ≠ L) :
    Ext P T (.load t x) [.ref b off] [(b, .box cs), (L, .row e s ys)] (.srf L) [(b, .box (cs.set off (.ssl L 0 N s)))] := by
  subst hN
  intro n w0 st a w o hT hS ho hn hv hm K Q hK
  obtain ⟨ow, hd, hold, S⟩ := hS
  obtain ⟨d, op, tyo, pos, af, gd⟩ := o
  simp only at ho hn hK
  subst ho
  simp [Op.operands] at hv
  have hmb := hm (b, .box cs) (by simp)
  have hmL := hm (L, .row e s ys) (by simp)
  simp only at hmb hmL
  obtain ⟨g, vals, t', e1, e2, e3, e4, e5, e6⟩ := S.box hv hmb
  obtain ⟨u, hu, hr, ho⟩ := e6.get off _ hc
  have hr0 := hr
  simp only [RF] at hr0
  obtain ⟨z1, z2, z3⟩ := hr0
  obtain ⟨cells, ⟨_, r1⟩, _, _⟩ := S.objs L _ hmL
  have hsl : ∃ ad c, hd L = .slice ad ys.length c ∧ ys.length ≤ c := by
    rcases r1 with ⟨q1, q2⟩ | ⟨g, cap, cur, q1, _, _, q4, _⟩
    · exact ⟨none, 0, by rw [q1, q2], by omega⟩
    · exact ⟨_, cap, q1, q4⟩
  obtain ⟨ad, c, h2, h3⟩ := hsl
  have hal : ∀ A : Nat → Bool, A L = true → RF A hd ow w (.ssl L 0 ys.length s) u := by
    intro A hA
    simp only [RF]
    refine ⟨hA, ad, ys.length, c, h2, Nat.zero_le _, h3, ?_⟩
    rw [z2, h2]
    have had : (if c = 0 then ad else ad.map (·.add (0 * s))) = ad := by
      split
      · rfl
      · cases ad with
        | none => rfl
        | some p => simp [Addr.add]
    rw [had, Nat.sub_zero, Nat.sub_zero]
  have hlt : L < st.m.length := (List.getElem?_eq_some_iff.1 hmL).1
  have S' := S.re (l := b) (o := .box cs) (o' := .box (cs.set off (.ssl L 0 ys.length s))) hmb rfl rfl (by
    refine ⟨g, vals, t', e1, e3, e4, e5, ?_⟩
    have hb := RFL.mono (A' := al (st.m.set b (.box (cs.set off (.ssl L 0 ys.length s))))) (hd' := hd) (Kp.refl ow w) (fun i hi => ⟨al_set_mono rfl _ hi, rfl⟩) _ _ e6
    have := RFL.set' off (.ssl L 0 ys.length s) u hb (hal _ (al_set_mono rfl _ z1)) ho
    rw [set_own hu] at this
    exact this)
  refine wp_val (v := u) (by simp [execOp, e2, run_loadAt_one hT h1 (cell_of_block e5 hu)]) (hK _ _ ⟨ow, hd, hold, S'.put hn (x := .srf L) ?_⟩)
  simp only [RF]
  exact ⟨al_set_mono rfl _ z1, z2, z3⟩
theorem nclose' {l B L ty sz i off j e s : Nat} {ct : Nat → Nat × Nat} {q q' : Nat → Bool} {hs : List (Option Nat)} {xs xs' ys : List PV} {fs : List FV} {y y' : PV} (hx : xs.set i y' = xs') (hlB : l ≠ B) (hlL : l ≠ L) (hBL : B ≠ L) (hf : xs.all (fits sz) = true) (hy : xs[i]? = some y) (hoff : off < sz) (hy' : pcells y' = (pcells y).set off (.sl ys)) (ht' : isTup y' = false)
    (hq : q (i * sz + off) = false) (hj : hs[j]? = some (some (i * sz + off))) (hu : ∀ j' : Nat, j' ≠ j → hs[j']? ≠ some (some (i * sz + off))) (h0 : fs[0]? = some (.srf B)) (hL : fs[j + 1]? = some (.srf L)) (hct : ct (i * sz + off) = (e, s)) (hq' : ∀ k, k < xs.length * sz → q' k = (q k || decide (k = i * sz + off))) :
    SilX [(l, .cu (outC ty sz q hs xs) fs), (B, .cu (bagC ct q xs) []), (L, .row e s ys)] (nClose l B L ty sz ct q' (hs.set j none) xs' fs j) := by
  subst hx
  exact nclose hlB hlL hBL hf hy hoff hy' ht' hq hj hu h0 hL hct hq'
theorem nlen' {t l ty sz N : Nat} {q : Nat → Bool} {hs : List (Option Nat)} {xs : List PV} {fs : List FV} {x : Operand} (hN : xs.length = N) (h1 : tsl T t = some (ty, sz)) :
    Ext P T (.call ⟨.builtin .len, #[x], #[t]⟩) [.srf l] [(l, .cu (outC ty sz q hs xs) fs)] (.d (.v (.int .i64 (N : Int)))) [] := by
  subst hN
  exact nlen h1
theorem lend_nil {m0 : List (Nat × PO)} : ∀ q ∈ ([] : List (Nat × PV)), Lend m0 q.1 q.2 := by simp
theorem lend_cons {m0 : List (Nat × PO)} {l : Nat} {p : PV} {E : List (Nat × PV)} (h : Lend m0 l p) (hr : ∀ q ∈ E, Lend m0 q.1 q.2) : ∀ q ∈ (l, p) :: E, Lend m0 q.1 q.2 := by
  intro q hq
  rcases List.mem_cons.1 hq with rfl | hq
  · exact h
  · exact hr q hq
theorem hole0 {Q : Nat → Nat → Prop} : ∀ (j k : Nat), ([none, none] : List (Option Nat))[j]? = some (some k) → Q j k := by
  intro j k h
  rcases j with _ | _ | j <;> simp at h
theorem hole1 {Q : Nat → Nat → Prop} {k0 : Nat} (h0 : Q 0 k0) : ∀ (j k : Nat), ([some k0, none] : List (Option Nat))[j]? = some (some k) → Q j k := by
  intro j k h
  rcases j with _ | _ | j <;> simp at h
  subst h; exact h0
theorem hole2 {Q : Nat → Nat → Prop} {k0 k1 : Nat} (h0 : Q 0 k0) (h1 : Q 1 k1) : ∀ (j k : Nat), ([some k0, some k1] : List (Option Nat))[j]? = some (some k) → Q j k := by
  intro j k h
  rcases j with _ | _ | j <;> simp at h
  · subst h; exact h0
  · subst h; exact h1
theorem hole01 {Q : Nat → Nat → Prop} {k1 : Nat} (h1 : Q 1 k1) : ∀ (j k : Nat), ([none, some k1] : List (Option Nat))[j]? = some (some k) → Q j k := by
  intro j k h
  rcases j with _ | _ | j <;> simp at h
  subst h; exact h1
theorem get_set {α : Type} {l : List α} {i : Nat} {x z : α} (h : l[i]? = some x) : (l.set i z)[i]? = some z := by
  rw [List.getElem?_set_self (List.getElem?_eq_some_iff.1 h).1]
/-- a slice of an array at rest -/
theorem ysliceI {t n' e off : Nat} {x : Operand} {cs ys : List PV} (h1 : tarr T t = some (n', e, 1)) (hn : 0 < n') (hm : n' ≤ maxLen) (hx : (cs.drop off).take n' = ys) (hl : off + n' ≤ cs.length) :
    Ext P T (.slice t x none none none) [.d (.iptr cs off)] [] (.d (.sl ys)) [] := by
  intro n w0 st a w o hT hS ho hn' hv hm0 K Q hK
  obtain ⟨ow, hd, hold, S⟩ := hS
  obtain ⟨d, op, tyo, pos, af, gd⟩ := o
  simp only at ho hn' hK
  subst ho
  simp [Op.operands] at hv
  have hr := S.d hv
  simp only [R] at hr
  obtain ⟨b, o, cells, e1, e2, e3, e4, e5⟩ := hr
  obtain ⟨hu, hs⟩ := tarr_und hT h1
  have hb : (Instr.sliceBounds false n' n' none none none).run P w = .ok (0, n', n') w := by
    simp [Instr.sliceBounds]
  have hne : ¬ n' = 0 := by omega
  have hrun : (execOp a.eval ⟨d, .slice t x none none none, tyo, pos, af, gd⟩).run P w = .ok (.value (.slice (some ⟨b, o + off, none⟩) n' n')) w := by
    simp [execOp, Instr.sliceAt, run_underlying hu, e1, Instr.sureAddr, hb, tsz_run hT hs, hne, Addr.add_mid]
  have hlen : ys.length = n' := by rw [← hx, List.length_take, List.length_drop]; omega
  have hc := chunks_RE (chunks_one n' (cs.drop off) (by rw [List.length_drop]; omega)) (RL.drop off e5)
  refine wp_val hrun (hK _ _ ⟨ow, hd, hold, S.put hn' (x := .d (.sl ys)) ?_⟩)
  simp only [RF, R]
  refine ⟨some ⟨b, o + off, none⟩, n', by rw [hlen], by omega, hm, .inr ⟨b, o + off, 1, (cells.drop off).take (n' * 1), rfl, e2, e3, fun j v hv' => ?_, by rw [← hx]; exact hc.1⟩⟩
  rw [List.getElem?_take] at hv'
  split at hv'
  · rw [List.getElem?_drop] at hv'
    rw [Nat.add_assoc]; exact e4 _ _ hv'
  · cases hv'
end
end Go.Proofs.Ytdimcmpkhbfcnaa.pv
