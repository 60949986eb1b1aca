/- Private rows whose capacity is known, rows with a hole: what slices.Insert and slices.Replace do. -/
import Derived.Test.YtdimcmpkhbfcnaaSc
import Derived.Lib.AppendZerosOnto
import Derived.Lib.Overlaps
namespace Go.Proofs.Ytdimcmpkhbfcnaa.pv
set_option linter.all false
open Go.RowKit

def capOf : Value → Nat
  | .slice _ _ c => c
  | _ => 0
def rowCI (e s C : Nat) (xs : List PV) (ow : Nat → Bool) (w : World) (h : Value) : Prop := ∃ cells, w.ownsRow 0 e s h xs.length cells ∧ RE ow w s xs cells ∧ capOf h = C
/-- a private row of capacity C -/
def rowC (e s C : Nat) (xs : List PV) : Cust where
  I := fun ow w h _ => rowCI e s C xs ow w h
  lt := by
    rintro ow w h vs ⟨cells, ⟨_, h2⟩, _, _⟩ b hb
    rcases h2 with ⟨h2, _⟩ | ⟨g, cap, cur, h2, _, h4, _⟩
    · rw [h2] at hb; simp [blocksOf, blockOf] at hb
    · rw [h2] at hb; simp [blocksOf, blockOf] at hb; subst hb; exact (Array.getElem?_eq_some_iff.1 h4).1
  kp := by
    rintro ow ow' w w' h vs k hb ⟨cells, h1, h2, h3⟩
    exact ⟨cells, ownsRow_kept h1 fun b e => (hb b e).1, RE.mono k _ _ _ h2, h3⟩
  one := by
    rintro ow w h vs ⟨cells, ⟨_, h2⟩, _, _⟩
    rcases h2 with ⟨h2, _⟩ | ⟨g, cap, cur, h2, _, h4, _⟩
    · rw [h2]; rfl
    · rw [h2]; rfl
/-- a private block of capacity C: xs at its head, then m elements of which nothing is known, then ys -/
def rowHI (e s C : Nat) (xs : List PV) (m : Nat) (ys : List PV) (ow : Nat → Bool) (w : World) (h : Value) : Prop :=
  ∃ (g : Nat) (cur : Array Value) (n : Nat), h = .slice (some ⟨g, 0, none⟩) n C ∧ w.heap[g]? = some (.cells cur e (0, 0)) ∧ C ≤ maxLen ∧ cur.size = C * s ∧ xs.length + m + ys.length ≤ C ∧
    RE ow w s xs (cur.toList.take (xs.length * s)) ∧ RE ow w s ys ((cur.toList.drop ((xs.length + m) * s)).take (ys.length * s))
def rowH (e s C : Nat) (xs : List PV) (m : Nat) (ys : List PV) : Cust where
  I := fun ow w h _ => rowHI e s C xs m ys ow w h
  lt := by
    rintro ow w h vs ⟨g, cur, n, h1, h2, _⟩ b hb
    rw [h1] at hb; simp [blocksOf, blockOf] at hb; subst hb; exact (Array.getElem?_eq_some_iff.1 h2).1
  kp := by
    rintro ow ow' w w' h vs k hb ⟨g, cur, n, h1, h2, h3, h4, h5, h6, h7⟩
    exact ⟨g, cur, n, h1, by rw [(hb g (by rw [h1]; first | rfl | simp [blocksOf, blockOf])).1]; exact h2, h3, h4, h5, RE.mono k _ _ _ h6, RE.mono k _ _ _ h7⟩
  one := by
    rintro ow w h vs ⟨g, cur, n, h1, _⟩
    rw [h1]; rfl

section
variable {P : Program} {T : List TI} {n : Nat} {w0 : Cx} {st : PS} {a : Act} {w : World} {ow : Nat → Bool} {hd : Nat → Value}
/-- another account of a private object, in the same world -/
theorem SimW.retell (S : SimW n w0 st a w ow hd) {l : Nat} {o o' : PO} (hm : st.m[l]? = some o) (hl : o.live = true) (hl' : o'.live = true) (h : ∀ A, RO A hd w0 ow w (hd l) o → RO A hd w0 ow w (hd l) o') : SimW n w0 ⟨st.f, st.m.set l o'⟩ a w ow hd := by
  have hal : ∀ j, al (st.m.set l o') j = al st.m j := by
    intro j
    unfold al
    rw [List.getElem?_set]
    by_cases e : l = j
    · subst e
      rw [if_pos rfl, if_pos (List.getElem?_eq_some_iff.1 hm).1, hm]
      simp [PO.made_of_live hl, PO.made_of_live hl']
    · rw [if_neg e]
  have hal' : al (st.m.set l o') = al st.m := funext hal
  have back : ∀ {j : Nat} {oj : PO}, (st.m.set l o')[j]? = some oj → (j = l ∧ oj = o') ∨ (j ≠ l ∧ st.m[j]? = some oj) := by
    intro j oj hj
    rw [List.getElem?_set] at hj
    by_cases e : l = j
    · subst e
      rw [if_pos rfl, if_pos (List.getElem?_eq_some_iff.1 hm).1] at hj
      exact .inl ⟨rfl, (Option.some.inj hj).symm⟩
    · rw [if_neg e] at hj; exact .inr ⟨fun h => e h.symm, hj⟩
  refine { below := S.below, fresh := S.fresh, objs := fun j oj hj => ?_, dist := ?_, defers := S.defers, size := S.size, slots := fun i => by show RF (al (st.m.set l o')) _ _ _ _ _; rw [hal']; exact S.slots i }
  · show RO (al (st.m.set l o')) _ _ _ _ _ _
    rw [hal']
    rcases back hj with ⟨rfl, rfl⟩ | ⟨_, hj⟩
    · exact h _ (S.objs _ _ hm)
    · exact S.objs _ _ hj
  · intro j j' oj oj' b hne hj hj' hlv hlv' hb hb'
    rcases back hj with ⟨e1, e2⟩ | ⟨h1, hj1⟩
    · rcases back hj' with ⟨e1', _⟩ | ⟨h2, hj2⟩
      · exact hne (e1.trans e1'.symm)
      · subst e1; subst e2
        exact S.dist _ _ _ _ b hne hm hj2 hl hlv' hb hb'
    · rcases back hj' with ⟨e1', e2'⟩ | ⟨h2, hj2⟩
      · subst e1'; subst e2'
        exact S.dist _ _ _ _ b hne hj1 hm hlv hl hb hb'
      · exact S.dist _ _ _ _ b hne hj1 hj2 hlv hlv' hb hb'
theorem rowC_RO {A : Nat → Bool} {c : Cx} {h : Value} {e s C : Nat} {xs : List PV} (hr : RO A hd c ow w h (.cu (rowC e s C xs) [])) : RO A hd c ow w h (.row e s xs) ∧ capOf h = C := by
  obtain ⟨h1, vs, _, cells, h2, h3, h4⟩ := hr
  exact ⟨⟨cells, h2, h1, h3⟩, h4⟩
theorem row_ROC {A : Nat → Bool} {c : Cx} {h : Value} {e s : Nat} {xs : List PV} (hr : RO A hd c ow w h (.row e s xs)) : RO A hd c ow w h (.cu (rowC e s (capOf h) xs) []) := by
  obtain ⟨cells, h1, h2, h3⟩ := hr
  exact ⟨h2, [], by simp [RFL], cells, h1, h3, rfl⟩
theorem rowC_cap {A : Nat → Bool} {c : Cx} {h : Value} {e s C : Nat} {xs : List PV} (hr : RO A hd c ow w h (.cu (rowC e s C xs) [])) : ∃ ad, h = .slice ad xs.length C ∧ xs.length ≤ C ∧ C ≤ maxLen := by
  obtain ⟨h1, vs, _, cells, ⟨h2, h2'⟩, h3, h4⟩ := hr
  rcases h2' with ⟨q1, q2⟩ | ⟨g, cap, cur, q1, q2, q3, q4, q5, _⟩
  · subst q1
    simp [capOf] at h4; subst h4
    exact ⟨none, by rw [q2], by omega, by simp [maxLen]⟩
  · subst q1
    simp [capOf] at h4; subst h4
    exact ⟨_, rfl, q4, q5⟩
theorem updM_over : ∀ (U : List (Nat × PO)) (m : List PO) (l : Nat) (o : PO), (∃ q ∈ U, q.1 = l) → updM (m.set l o) U = updM m U
  | [], m, l, o, h => by simp at h
  | (k, x) :: U, m, l, o, h => by
    simp only [updM]
    by_cases e : k = l
    · subst e
      rw [List.set_set]
    · rw [List.set_comm _ _ (fun h => e h.symm)]
      refine updM_over U _ l o ?_
      obtain ⟨q, hq, rfl⟩ := h
      rcases List.mem_cons.1 hq with rfl | hq
      · exact absurd rfl e
      · exact ⟨q, hq, rfl⟩
/-- what is true of a row is true of one of known capacity, if the row is changed -/
theorem ext_forget {op : Op} {vs : List FV} {m0 U : List (Nat × PO)} {r : FV} {l e s C : Nat} {xs : List PV} (h : Ext P T op vs ((l, .row e s xs) :: m0) r U) (hU : ∃ q ∈ U, q.1 = l) (hl : ∀ q ∈ m0, q.1 ≠ l) : Ext P T op vs ((l, .cu (rowC e s C xs) []) :: m0) r U := by
  intro n w0 st a w o hT hS ho hn hv hm K Q hK
  obtain ⟨ow, hd, hold, S⟩ := hS
  have hml := hm (l, .cu (rowC e s C xs) []) (by simp)
  simp only at hml
  have S' := S.retell (o' := .row e s xs) hml rfl rfl (fun A h => (rowC_RO h).1)
  refine h n w0 ⟨st.f, st.m.set l (.row e s xs)⟩ a w o hT ⟨ow, hd, hold, S'⟩ ho hn hv (fun q hq => ?_) K Q (fun a' w' h' => hK a' w' ?_)
  · rcases List.mem_cons.1 hq with rfl | hq
    · show (st.m.set l _)[l]? = _
      rw [List.getElem?_set, if_pos rfl, if_pos (List.getElem?_eq_some_iff.1 hml).1]
    · show (st.m.set l _)[q.1]? = _
      rw [List.getElem?_set, if_neg (fun e => hl q hq e.symm)]
      exact hm q (List.mem_cons_of_mem _ hq)
  · simp only [PS.act] at h' ⊢
    rw [updM_over U st.m l _ hU] at h'
    exact h'
/-- the walk of a function over a row of whatever capacity -/
theorem retH_cap {f : FuncId} {args : List FV} {e s : Nat} {xs : List PV} {r : FV} {m' : List PO} (hf : FnOk P f) (h : ∀ C, xs.length ≤ C → C ≤ maxLen → RetH P f args [.cu (rowC e s C xs) []] r m') : RetH P f args [.row e s xs] r m' := by
  refine ⟨hf, fun c hd vs S hv => ?_⟩
  have S' : SimH c [.cu (rowC e s (capOf (hd 0)) xs) []] c.w c.ow hd := by
    have hal : al [PO.cu (rowC e s (capOf (hd 0)) xs) []] = al [PO.row e s xs] := by
      funext j; cases j <;> rfl
    refine ⟨S.below, S.fresh, fun j o hj => ?_, fun j j' o o' b hne hj hj' => ?_⟩
    · rw [hal]
      cases j with
      | zero => simp at hj; subst hj; exact row_ROC (S.objs 0 _ rfl)
      | succ j => simp at hj
    · cases j with
      | zero => cases j' with
        | zero => exact absurd rfl hne
        | succ j' => simp at hj'
      | succ j => simp at hj
  have hcap := rowC_cap (S'.objs 0 _ rfl)
  obtain ⟨ad, _, h1, h2⟩ := hcap
  have := (h (capOf (hd 0)) h1 h2).2 c hd vs S' (by
    have hal : al [PO.cu (rowC e s (capOf (hd 0)) xs) []] = al [PO.row e s xs] := by
      funext j; cases j <;> rfl
    rw [hal]; exact hv)
  refine this.mono fun ee w' ⟨v, ow', hd', e1, e2, e3, e4, e5⟩ => ⟨v, ow', hd', e1, e2, e3, fun l hl => e4 l (by
    have hal : al [PO.cu (rowC e s (capOf (hd 0)) xs) []] = al [PO.row e s xs] := by
      funext j; cases j <;> rfl
    rw [hal]; exact hl), e5⟩

theorem slice_core (hT : TOk P T) (S : SimW n w0 st a w ow hd) {t e s k C : Nat} {x : Operand} {lo hi : Option Operand} {ad : Option Addr} {i h : Int} (h1 : tsl T t = some (e, s)) (hx : a.eval x = .slice ad k C)
    (h4 : optInt (ev st.f) 0 lo = some i) (h5 : optInt (ev st.f) k hi = some h) (h6 : 0 ≤ i) (h7 : i ≤ h) (h8 : h ≤ C) (d : Option Nat) (ty : TypeId) (pos : String) (af : Array Edge) (gd : Option (Nat × Bool)) :
    (execOp a.eval ⟨d, .slice t x lo hi none, ty, pos, af, gd⟩).run P w = .ok (.value (.slice (if C = i.toNat then ad else ad.map (·.add (i.toNat * s))) (h.toNat - i.toNat) (C - i.toNat))) w := by
  obtain ⟨hu, hs⟩ := tsl_und hT h1
  have hb := sliceBounds_opt (P := P) (w := w) S h4 h5 h6 h7 h8
  simp [execOp, Instr.sliceAt, Instr.slice, run_underlying hu, hx, hb, tsz_run hT hs]
/-- a part of an object whose handle is a slice of capacity C; the object may be told anew -/
theorem ext_part {vs : List FV} {t e s l k C : Nat} {x : Operand} {lo hi : Option Operand} {o o' : PO} {fx : FV} {i h : Int} (h1 : tsl T t = some (e, s)) (hlive : o.live = true) (hlive' : o'.live = true)
    (hx : fx = .srf l ∨ fx = .ssl l 0 k s) (hC : ∀ (A : Nat → Bool) (hd : Nat → Value) (w0 : Cx) (ow : Nat → Bool) (w : World) (v : Value), RO A hd w0 ow w v o → (∃ ad N, v = .slice ad N C ∧ (fx = .srf l → N = k) ∧ k ≤ C) ∧ RO A hd w0 ow w v o')
    (h4 : ∀ ρ, (Op.slice t x lo hi none).operands.toList.map ρ = vs → ρ x = fx ∧ optInt ρ 0 lo = some i ∧ optInt ρ k hi = some h) (h6 : 0 ≤ i) (h7 : i ≤ h) (h8 : h ≤ C) :
    Ext P T (.slice t x lo hi none) vs [(l, o)] (.ssl l i.toNat h.toNat s) [(l, o')] := by
  intro n w0 st a w oo hT hS ho hn hv hm K Q hK
  obtain ⟨ow, hd, hold, S⟩ := hS
  obtain ⟨d, op, ty, pos, af, gd⟩ := oo
  simp only at ho hn hK
  subst ho
  obtain ⟨q1, q2, q3⟩ := h4 _ hv
  have hml := hm (l, o) (by simp)
  simp only at hml
  obtain ⟨⟨ad, N, hh, hN, hkC⟩, _⟩ := hC _ _ _ _ _ _ (S.objs l _ hml)
  have hxv := S.eval x
  rw [q1] at hxv
  obtain ⟨hA, hxe⟩ : al st.m l = true ∧ a.eval x = .slice ad k C := by
    rcases hx with hx | hx
    · rw [hx] at hxv
      simp only [RF] at hxv
      exact ⟨hxv.1, by rw [hxv.2.1, hh, hN hx]⟩
    · rw [hx] at hxv
      simp only [RF] at hxv
      obtain ⟨r1, ad', N', c', r2, r3, r4, r5⟩ := hxv
      rw [hh] at r2
      simp at r2
      obtain ⟨rfl, rfl, rfl⟩ := r2
      refine ⟨r1, ?_⟩
      rw [r5]
      have had : (if C = 0 then ad else ad.map (·.add (0 * s))) = ad := by
        split
        · rfl
        · cases ad with
          | none => rfl
          | some p => simp [Addr.add]
      rw [had, Nat.sub_zero, Nat.sub_zero]
  have hrun := slice_core hT S h1 hxe q2 q3 h6 h7 h8 d ty pos af gd
  have S' := S.retell (o' := o') hml hlive hlive' (fun A h => (hC _ _ _ _ _ _ h).2)
  refine wp_val hrun (hK _ _ ⟨ow, hd, hold, S'.put hn (x := .ssl l i.toNat h.toNat s) ?_⟩)
  simp only [RF]
  refine ⟨?_, ad, N, C, hh, by omega, by omega, rfl⟩
  show al (st.m.set l o') l = true
  rw [al_set_same (List.getElem?_eq_some_iff.1 hml).1]
  exact PO.made_of_live hlive'
variable {α : Type} {f : α → PV} {L Y Z : List α} {t t' e s l nl i j k m C : Nat} {A B : Int} {ka kb : IntKind} {x y lo hi : Operand} {ti : TI}
/-- parts of a row of known capacity -/
theorem yc10 (h : tsl T t = some (e, s)) (c : 0 ≤ A ∧ A ≤ L.length) (hC : L.length ≤ C) : Ext P T (.slice t x (some lo) none none) [.srf l, .d (.v (.int ka A))] [(l, .cu (rowC e s C (L.map f)) [])] (.ssl l A.toNat L.length s) [(l, .cu (rowC e s C (L.map f)) [])] := by
  have := ext_part (P := P) (T := T) (x := x) (lo := some lo) (hi := none) (vs := [.srf l, .d (.v (.int ka A))]) (i := A) (h := (L.length : Int)) (o := .cu (rowC e s C (L.map f)) []) (o' := .cu (rowC e s C (L.map f)) []) (k := L.length) (C := C) h rfl rfl (.inl rfl)
    (fun A hd w0 ow w v hr => ⟨by obtain ⟨ad, e, _⟩ := rowC_cap hr; exact ⟨ad, _, e, fun _ => by simp, hC⟩, hr⟩)
    (fun ρ hv => by simp [Op.operands] at hv; exact ⟨hv.1, by simp [optInt, hv.2], by simp [optInt]⟩) c.1 c.2 (by omega)
  simpa using this
theorem yc01 (h : tsl T t = some (e, s)) (c : 0 ≤ B ∧ B ≤ L.length) (hC : L.length ≤ C) : Ext P T (.slice t x none (some hi) none) [.srf l, .d (.v (.int kb B))] [(l, .cu (rowC e s C (L.map f)) [])] (.ssl l 0 B.toNat s) [(l, .cu (rowC e s C (L.map f)) [])] := by
  have := ext_part (P := P) (T := T) (x := x) (lo := none) (hi := some hi) (vs := [.srf l, .d (.v (.int kb B))]) (i := 0) (h := B) (o := .cu (rowC e s C (L.map f)) []) (o' := .cu (rowC e s C (L.map f)) []) (k := L.length) (C := C) h rfl rfl (.inl rfl)
    (fun A hd w0 ow w v hr => ⟨by obtain ⟨ad, e, _⟩ := rowC_cap hr; exact ⟨ad, _, e, fun _ => by simp, hC⟩, hr⟩)
    (fun ρ hv => by simp [Op.operands] at hv; exact ⟨hv.1, rfl, by simp [optInt, hv.2]⟩) (by omega) c.1 (by omega)
  simpa using this
theorem rowC_up {A : Nat → Bool} {c : Cx} {h : Value} {xs : List PV} (hr : RO A hd c ow w h (.cu (rowC e s C xs) [])) (hm : xs.length + m ≤ C) (h0 : 0 < m) : RO A hd c ow w h (.cu (rowH e s C xs m []) []) := by
  obtain ⟨h1, vs, h1', cells, ⟨h2, h2'⟩, h3, h4⟩ := hr
  rcases h2' with ⟨q1, q2⟩ | ⟨g, cap, cur, q1, q2, q3, q4, q5, q6, q7⟩
  · subst q1; simp [capOf] at h4; omega
  · subst q1
    simp [capOf] at h4; subst h4
    exact ⟨h1, vs, h1', g, cur, _, rfl, q3, q5, q6, by simpa using hm, by rw [q7]; exact h3, by simp [RE]⟩
/-- s[:n+m]: a hole behind the last one -/
theorem ycup (h : tsl T t = some (e, s)) (h0 : 0 < m) (c : L.length + m ≤ C) (hB : B = ((L.length + m : Nat) : Int)) : Ext P T (.slice t x none (some hi) none) [.srf l, .d (.v (.int kb B))] [(l, .cu (rowC e s C (L.map f)) [])] (.ssl l 0 (L.length + m) s) [(l, .cu (rowH e s C (L.map f) m []) [])] := by
  have := ext_part (P := P) (T := T) (x := x) (lo := none) (hi := some hi) (vs := [.srf l, .d (.v (.int kb B))]) (i := 0) (h := B) (o := .cu (rowC e s C (L.map f)) []) (o' := .cu (rowH e s C (L.map f) m []) []) (k := L.length) (C := C) h rfl rfl (.inl rfl)
    (fun A hd w0 ow w v hr => ⟨by obtain ⟨ad, e, _⟩ := rowC_cap hr; exact ⟨ad, _, e, fun _ => by simp, by omega⟩, rowC_up hr (by simpa using c) h0⟩)
    (fun ρ hv => by simp [Op.operands] at hv; exact ⟨hv.1, rfl, by simp [optInt, hv.2]⟩) (by omega) (by omega) (by omega)
  rw [hB, Int.toNat_natCast] at this
  simpa [hB] using this
theorem rowH_cap {A : Nat → Bool} {c : Cx} {h : Value} {xs ys : List PV} (hr : RO A hd c ow w h (.cu (rowH e s C xs m ys) [])) : ∃ ad N, h = .slice ad N C ∧ xs.length + m + ys.length ≤ C := by
  obtain ⟨h1, vs, h1', g, cur, N, q1, q2, q3, q4, q5, _⟩ := hr
  exact ⟨_, N, q1, q5⟩
/-- parts of the whole, hole and all -/
theorem yh10 (h : tsl T t = some (e, s)) (hk : k = L.length + m + Y.length) (c : 0 ≤ A ∧ A ≤ k) : Ext P T (.slice t x (some lo) none none) [.ssl l 0 k s, .d (.v (.int ka A))] [(l, .cu (rowH e s C (L.map f) m (Y.map f)) [])] (.ssl l A.toNat k s) [(l, .cu (rowH e s C (L.map f) m (Y.map f)) [])] := by
  intro n w0 st a w oo hT hS ho hn hv hm K Q hK
  obtain ⟨ow, hd, hold, S⟩ := hS
  have hml := hm (l, .cu (rowH e s C (L.map f) m (Y.map f)) []) (by simp)
  simp only at hml
  obtain ⟨ad, N, hh, hle⟩ := rowH_cap (S.objs l _ hml)
  simp at hle
  have := ext_part (P := P) (T := T) (x := x) (lo := some lo) (hi := none) (vs := [.ssl l 0 k s, .d (.v (.int ka A))]) (i := A) (h := (k : Int)) (o := .cu (rowH e s C (L.map f) m (Y.map f)) []) (o' := .cu (rowH e s C (L.map f) m (Y.map f)) []) (k := k) (C := C) h rfl rfl (.inr rfl)
    (fun A hd w0 ow w v hr => ⟨by obtain ⟨ad, N, e, _⟩ := rowH_cap hr; exact ⟨ad, N, e, ⟨fun h => (by cases h), by omega⟩⟩, hr⟩)
    (fun ρ hv => by simp [Op.operands] at hv; exact ⟨hv.1, by simp [optInt, hv.2], by simp [optInt]⟩) c.1 c.2 (by omega)
  rw [Int.toNat_natCast] at this
  exact this n w0 st a w oo hT ⟨ow, hd, hold, S⟩ ho hn hv hm K Q hK
theorem ycap (h : tsl T t = some (e, s)) : Ext P T (.call ⟨.builtin .cap, #[x], #[t]⟩) [.srf l] [(l, .cu (rowC e s C (L.map f)) [])] (.d (.v (.int .i64 (C : Int)))) [] := by
  intro n w0 st a w oo hT hS ho hn hv hm K Q hK
  obtain ⟨ow, hd, hold, S⟩ := hS
  obtain ⟨d, op, ty, pos, af, gd⟩ := oo
  simp only at ho hn hK
  subst ho
  simp [Op.operands, Call.operands] at hv
  have hml := hm (l, .cu (rowC e s C (L.map f)) []) (by simp)
  simp only at hml
  obtain ⟨ad, hh, _, hC⟩ := rowC_cap (S.objs l _ hml)
  have hx := S.eval x
  rw [hv] at hx
  simp only [RF] at hx
  have hxe : a.eval x = .slice ad (L.map f).length C := by rw [hx.2.1, hh]
  have hrun : (execOp a.eval ⟨d, .call ⟨.builtin .cap, #[x], #[t]⟩, ty, pos, af, gd⟩).run P w = .ok (.value (.int .i64 (C : Int))) w := by
    simp [execOp, resolve, invoke, builtin, hxe, Builtin.cap_, run_underlying (tsl_und hT h).1, goInt]
  exact wp_val hrun (hK _ _ ⟨ow, hd, hold, S.put hn (x := .d (.v (.int .i64 (C : Int)))) (by simp only [RF, R]; exact ⟨trivial, rfl⟩)⟩)
theorem ylen (h : tsl T t = some (e, s)) : Ext P T (.call ⟨.builtin .len, #[x], #[t]⟩) [.srf l] [(l, .cu (rowC e s C (L.map f)) [])] (.d (.v (.int .i64 (L.length : Int)))) [] := by
  intro n w0 st a w oo hT hS ho hn hv hm K Q hK
  obtain ⟨ow, hd, hold, S⟩ := hS
  obtain ⟨d, op, ty, pos, af, gd⟩ := oo
  simp only at ho hn hK
  subst ho
  simp [Op.operands, Call.operands] at hv
  have hml := hm (l, .cu (rowC e s C (L.map f)) []) (by simp)
  simp only at hml
  obtain ⟨ad, hh, _, hC⟩ := rowC_cap (S.objs l _ hml)
  have hx := S.eval x
  rw [hv] at hx
  simp only [RF] at hx
  have hxe : a.eval x = .slice ad L.length C := by rw [hx.2.1, hh]; simp
  have hrun : (execOp a.eval ⟨d, .call ⟨.builtin .len, #[x], #[t]⟩, ty, pos, af, gd⟩).run P w = .ok (.value (.int .i64 (L.length : Int))) w := by
    simp [execOp, resolve, invoke, builtin, hxe, Builtin.len_, run_underlying (tsl_und hT h).1, goInt]
  exact wp_val hrun (hK _ _ ⟨ow, hd, hold, S.put hn (x := .d (.v (.int .i64 (L.length : Int)))) (by simp only [RF, R]; exact ⟨trivial, rfl⟩)⟩)
/-- the row itself, as a row like any other -/
theorem ymv (hne : l ≠ nl) : Ext P T (.move x) [.srf l] [(l, .cu (rowC e s C (L.map f)) []), (nl, .free)] (.srf nl) [(l, .none), (nl, .row e s (L.map f))] := by
  refine ext_forget ?_ ⟨(l, .none), by simp, rfl⟩ (fun q hq => by simp at hq; subst hq; exact fun h => hne h.symm)
  intro n w0 st a w oo hT hS ho hn hv hm K Q hK
  obtain ⟨ow, hd, hold, S⟩ := hS
  obtain ⟨d, op, ty, pos, af, gd⟩ := oo
  simp only at ho hn hK
  subst ho
  simp [Op.operands] at hv
  have hml := hm (l, .row e s (L.map f)) (by simp)
  have hnl := hm (nl, .free) (by simp)
  simp only at hml hnl
  have hx := S.eval x
  rw [hv] at hx
  simp only [RF] at hx
  obtain ⟨cells, g1, g2, g3⟩ := S.objs l _ hml
  have hsl : ∃ ad n c, hd l = .slice ad n c := by
    rcases g1.2 with ⟨q, _⟩ | ⟨g, cap, cur, q, _⟩
    · exact ⟨_, _, _, q⟩
    · exact ⟨_, _, _, q⟩
  obtain ⟨hd', q1, q2, q3⟩ := S.rerow hml hnl (v' := hd l) (ys := L.map f) (cells := cells) g1 (fun b hb => hb) g3 hsl
  have hrun : (execOp a.eval ⟨d, .move x, ty, pos, af, gd⟩).run P w = .ok (.value (hd l)) w := by simp [execOp, hx.2.1]
  unfold Oper.wp
  rw [hrun]
  exact hK _ _ ⟨ow, hd', hold, q2.put hn q3⟩
end
end Go.Proofs.Ytdimcmpkhbfcnaa.pv
