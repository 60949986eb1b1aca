/- The interpreter's operations are acts: comparisons, conversions, slices. -/
import Derived.Test.YtnkdanobhgofbaaGreatDoorVL
import Derived.LaidEql
import Derived.WalkSpells
import Derived.Laws.BytesString
import Derived.Laws.Cells
import Derived.Laws.Pointers
namespace Go.Proofs.YtnkdanobhgofbaaGreatDoor.pv
set_option linter.all false
open Go.RowKit
section
variable {P : Program} {T : List TI}
theorem eqRes_run {op : BinOp} {t : Nat} {z : Bool} {u v : Value} {w : World} {xo yo : Operand} (ho : eqlOp op = true) (hg : ∀ w : World, (eqGuard op t xo yo u v).run P w = .ok () w) (hb : ∀ op, (binOp op t u v).run P w = (match op with | .eql => (do let b ← Op.equal t u v; pure (.bool b) : Sem Value) | .neq => (do let b ← Op.equal t u v; pure (.bool !b) : Sem Value) | _ => binOp op t u v).run P w) (he : (Op.equal t u v).run P w = .ok z w) :
    (do eqGuard op t xo yo u v; binOp op t u v : Sem Value).run P w = .ok (.bool (eqRes op z)) w := by
  cases op <;> simp [eqlOp] at ho <;> simp [hg, hb, he, eqRes]
theorem mpB_und {t : Nat} {a b : Ty} (h : mpB P T t a b = true) : ∃ kt et, P.underlying t = some (.map kt et) ∧ keyB P kt a = true ∧ cdB T et b = true ∧ zshB P et b = true := by
  unfold mpB at h
  split at h
  · rename_i kt et hu
    simp only [Bool.and_eq_true] at h
    exact ⟨kt, et, hu, h.1.1, h.1.2, h.2⟩
  · cases h
/-- a comparison of pointers or maps -/
theorem ext_eq {op : BinOp} {t ty' : Nat} {x y : Operand} {vs : List FV} {m0 : List (Nat × PO)} {z : Bool} (ho : eqlOp op = true) (hvs : vs.length = 2)
    (h : ∀ (n : Nat) (w0 : Cx) (st : PS) (a : Act) (w : World) (ow : Ow) (hd : Nat → Value), TOk P T → SimW n w0 st a w ow hd → vs = [ev st.f x, ev st.f y] → (∀ q ∈ m0, st.m[q.1]? = some q.2) →
      ((∃ p q, a.eval x = .pointer p ∧ a.eval y = .pointer q) ∨ (∃ p q, a.eval x = .map p ∧ a.eval y = .map q)) ∧ (Op.equal t (a.eval x) (a.eval y)).run P w = .ok z w) :
    Ext P T (.binOp op t x y ty') vs m0 (.d (.v (.bool (eqRes op z)))) [] := by
  intro n w0 st a w o hT hS ho' hn hv hm K Q hK
  obtain ⟨ow, hd, hold, S⟩ := hS
  obtain ⟨d, op', ty, pos, af, gd⟩ := o
  simp only at ho' hn hK
  subst ho'
  simp [Op.operands] at hv
  obtain ⟨hk, heq⟩ := h n w0 st a w ow hd hT S hv.symm hm
  have hrun : (execOp a.eval ⟨d, .binOp op t x y ty', ty, pos, af, gd⟩).run P w = .ok (.value (.bool (eqRes op z))) w := by
    rcases hk with ⟨p, q, e1, e2⟩ | ⟨p, q, e1, e2⟩
    · rw [e1, e2] at heq
      cases op <;> simp [eqlOp] at ho <;> simp [execOp, e1, e2, eqGuard, binOp, heq, eqRes]
    · rw [e1, e2] at heq
      cases op <;> simp [eqlOp] at ho <;> simp [execOp, e1, e2, eqGuard, binOp, heq, eqRes]
  exact wp_val' hrun (hK _ _ ⟨ow, hd, hold, S.put hn (x := .d (.v _)) (by simp only [RF, R]; exact ⟨trivial, rfl⟩)⟩)
theorem ptr_und (hT : TOk P T) {t e : Nat} (ht : tptr T t = some e) : P.underlying t = some (.pointer (P.pointee t)) ∧ P.pointee t = e := by
  have h := tptr_und hT ht
  have : P.pointee t = e := by unfold Program.pointee; rw [h]
  exact ⟨by rw [this]; exact h, this⟩
theorem map_nil_run {w : World} {t kt et : Nat} (h : P.underlying t = some (.map kt et)) (r : Option Nat) : (Op.equal t (.map r) (.map none)).run P w = .ok r.isNone w := by
  have := run_equalIn_map_nil (P := P) w 9999 t kt et r h
  exact this
/-- a pointer by name, or none, as the machine has it -/
def nmV (ow : Ow) (g : Option Nat) (x : Option Nat) (u : Value) : Prop := match x with
  | none => u = .pointer none
  | some i => ∃ g' b, g = some g' ∧ (ow.phi g')[i]? = some b ∧ u = .pointer (some ⟨b, 0, none⟩)
end
section
variable {α : Type} {E : Env} {N : Nat} {f : List (Nat × XV)} {m : List (Nat × XO)} {ps : PS} {nl : Nat} {K : KT α} {out : α}
theorem asN_spec {v : XV} {g x : Option Nat} (h : asN v = some (g, x)) {n : Nat} {w0 : Cx} {st : PS} {a : Act} {w : World} {ow : Ow} {hd : Nat → Value} (S : SimW n w0 st a w ow hd) {o : Operand} (hv : ev st.f o = v.fv) : nmV ow g x (a.eval o) := by
  unfold asN at h
  split at h
  · rename_i g' x'
    cases h
    simp only [XV.fv, XV.rep, rep] at hv
    cases hx : (show Option Nat from x) with
    | none =>
      have hx : x = (none : Option Nat) := hx
      subst hx
      have := S.d (y := .v (.pointer none)) hv
      simp only [R] at this
      exact this.1
    | some i =>
      have hx : x = (some i : Option Nat) := hx
      subst hx
      obtain ⟨b, h1, h2⟩ := S.vpAt (g := g') (i := i) (off := 0) hv
      exact ⟨g', b, rfl, h1, h2⟩
  · rename_i g' x'
    cases h
    obtain ⟨b, h1, h2⟩ := S.vpAt (g := g') (i := Prod.fst (α := Nat) (β := Unit) x') (off := 0) hv
    exact ⟨g', b, rfl, h1, h2⟩
  · cases h
    have := S.d (y := .v (.pointer none)) hv
    simp only [R] at this
    exact this.1
  · cases h
theorem eqR_spec {op : BinOp} {z : Bool} {r : XV} (h : eqR op z = some r) : eqlOp op = true ∧ r = ⟨.bl, eqRes op z⟩ := by
  unfold eqR at h
  split at h
  · cases h; exact ⟨rfl, rfl⟩
  · cases h; exact ⟨rfl, rfl⟩
  · cases h
theorem asN_told {v : XV} {g x : Option Nat} (h : asN v = some (g, x)) : v.t.told = true := by
  obtain ⟨t, y⟩ := v
  cases t <;> first | rfl | simp [asN] at h
theorem xEq_good (C : Ctx E N f m ps nl) {op : BinOp} {t yt : Nat} {x y : Operand} (h : xEq E m t op (evX f x) (evX f y) K = some out) : Good E ps nl (.binOp op t x y yt) K out := by
  generalize hv : evX f x = v at h
  generalize hu : evX f y = u at h
  unfold xEq at h
  split at h
  · rename_i a b
    split at h
    · rename_i r ht hr
      obtain ⟨h1, rfl⟩ := eqR_spec hr
      have hx : ev ps.f x = .d (.v (.bool a)) := ev_of (t := .bl) (y := a) C.toAbs hv rfl
      have hy : ev ps.f y = .d (.v (.bool b)) := ev_of (t := .bl) (y := b) C.toAbs hu rfl
      exact good_val (.binB op t x y yt a b ht h1 hx hy) (fun _ h => h) h
    · cases h
  · rename_i l p d d'
    split at h
    · rename_i e r ht hr
      obtain ⟨h1, rfl⟩ := eqR_spec hr
      have hx : ev ps.f x = .ref l _ := ev_of (t := .rf l p) (y := d) C.toAbs hv rfl
      have hy : ev ps.f y = .d (.v (.pointer none)) := ev_of (t := .nz .np) (y := d') C.toAbs hu rfl
      refine good_ext (r := .d (.v (.bool (eqRes op false)))) [] (by simp) (by simp [absU]) ?_ (Le.refl _) (by simp) (by simp) h
      rw [ops2 rfl hx hy]
      refine ext_eq h1 rfl fun n w0 st a w ow hd hT S hvs hm => ?_
      simp only [List.cons.injEq, and_true] at hvs
      have q1 := S.eval x
      rw [← hvs.1] at q1
      simp only [RF] at q1
      obtain ⟨_, b, _, e1⟩ := q1
      obtain ⟨e2, _⟩ := S.v hvs.2.symm
      refine ⟨.inl ⟨_, _, e1, e2⟩, ?_⟩
      rw [e1, e2]
      exact run_equal_pointer_nil _ _ _ (ptr_und hT ht).1
    · cases h
  · rename_i l sz p d d'
    split at h
    · rename_i e r ht hr
      obtain ⟨h1, rfl⟩ := eqR_spec hr
      have hx : ev ps.f x = (rep (.ep l sz p) d).fv := ev_of (t := .ep l sz p) (y := d) C.toAbs hv rfl
      have hy : ev ps.f y = .d (.v (.pointer none)) := ev_of (t := .nz .np) (y := d') C.toAbs hu rfl
      refine good_ext (r := .d (.v (.bool (eqRes op false)))) [] (by simp) (by simp [absU]) ?_ (Le.refl _) (by simp) (by simp) h
      rw [ops2 rfl hx hy]
      refine ext_eq h1 rfl fun n w0 st a w ow hd hT S hvs hm => ?_
      simp only [List.cons.injEq, and_true] at hvs
      have q1 := S.eval x
      rw [← hvs.1] at q1
      have q1 : RF (al st.m) hd ow w (.ept l sz _ _) (a.eval x) := q1
      simp only [RF] at q1
      obtain ⟨_, b, _, _, _, e1⟩ := q1
      obtain ⟨e2, _⟩ := S.v hvs.2.symm
      refine ⟨.inl ⟨_, _, e1, e2⟩, ?_⟩
      rw [e1, e2]
      exact run_equal_pointer_nil _ _ _ (ptr_und hT ht).1
    · cases h
  · rename_i g x' d'
    split at h
    · rename_i ab r ht hr
      obtain ⟨h1, rfl⟩ := eqR_spec hr
      obtain ⟨a', b'⟩ := ab
      obtain ⟨kt, et, hu1, _⟩ := mpB_und (C.hE.mp _ _ _ ht)
      have hx : ev ps.f x = (rep (.vm g) x').fv := ev_of (t := .vm g) (y := x') C.toAbs hv rfl
      have hy : ev ps.f y = .d (.v (.map none)) := ev_of (t := .nz .nm) (y := d') C.toAbs hu rfl
      refine good_ext (r := .d (.v (.bool (eqRes op (Option.isNone (α := Nat) x'))))) [] (by simp) (by simp [absU]) ?_ (Le.refl _) (by simp) (by simp) h
      rw [ops2 rfl hx hy]
      refine ext_eq h1 rfl fun n w0 st a w ow hd hT S hvs hm => ?_
      simp only [List.cons.injEq, and_true] at hvs
      obtain ⟨e2, _⟩ := S.v hvs.2.symm
      have e1 : ∃ q, a.eval x = .map q ∧ q.isNone = Option.isNone (α := Nat) x' := by
        have hvs1 := hvs.1.symm
        cases hxx : (show Option Nat from x') with
        | none =>
          have hxx : x' = (none : Option Nat) := hxx
          subst hxx
          obtain ⟨e1, _⟩ := S.v (x := x) (y := .map none) hvs1
          exact ⟨none, e1, rfl⟩
        | some i =>
          have hxx : x' = (some i : Option Nat) := hxx
          subst hxx
          have := S.d (x := x) (y := .vm g i) hvs1
          simp only [R] at this
          obtain ⟨b, _, e1⟩ := this
          exact ⟨some b, e1, rfl⟩
      obtain ⟨q, e1, e3⟩ := e1
      refine ⟨.inr ⟨_, _, e1, e2⟩, ?_⟩
      rw [e1, e2, map_nil_run hu1, e3]
    · cases h
  · rename_i l d d'
    split at h
    · rename_i a' b' D ab r ho ht hr
      obtain ⟨h1, rfl⟩ := eqR_spec hr
      obtain ⟨a2, b2⟩ := ab
      obtain ⟨kt, et, hu1, _⟩ := mpB_und (C.hE.mp _ _ _ ht)
      have hx : ev ps.f x = .srf l := ev_of (t := .sr l) (y := d) C.toAbs hv rfl
      have hy : ev ps.f y = .d (.v (.map none)) := ev_of (t := .nz .nm) (y := d') C.toAbs hu rfl
      refine good_ext (r := .d (.v (.bool (eqRes op false)))) [(l, .cu (mpC a' b' D) [])] (fun q hq => by rw [List.mem_singleton.1 hq]; exact C.at ho (by simp)) (by simp [absU]) ?_ (Le.refl _) (by simp) (by simp) h
      rw [ops2 rfl hx hy]
      refine ext_eq h1 rfl fun n w0 st a w ow hd hT S hvs hm => ?_
      simp only [List.cons.injEq, and_true] at hvs
      obtain ⟨e2, _⟩ := S.v hvs.2.symm
      have q1 := S.eval x
      rw [← hvs.1] at q1
      simp only [RF] at q1
      obtain ⟨_, vs, _, blk, q2, _⟩ := S.objs l _ (hm (l, .cu (mpC a' b' D) []) (by simp))
      rw [q2] at q1
      refine ⟨.inr ⟨_, _, q1.2.1, e2⟩, ?_⟩
      rw [q1.2.1, e2, map_nil_run hu1]; rfl
    · cases h
  · rename_i d d'
    split at h
    · rename_i ab r ht hr
      obtain ⟨h1, rfl⟩ := eqR_spec hr
      obtain ⟨a2, b2⟩ := ab
      obtain ⟨kt, et, hu1, _⟩ := mpB_und (C.hE.mp _ _ _ ht)
      have hx : ev ps.f x = .d (.v (.map none)) := ev_of (t := .nz .nm) (y := d) C.toAbs hv rfl
      have hy : ev ps.f y = .d (.v (.map none)) := ev_of (t := .nz .nm) (y := d') C.toAbs hu rfl
      refine good_ext (r := .d (.v (.bool (eqRes op true)))) [] (by simp) (by simp [absU]) ?_ (Le.refl _) (by simp) (by simp) h
      rw [ops2 rfl hx hy]
      refine ext_eq h1 rfl fun n w0 st a w ow hd hT S hvs hm => ?_
      simp only [List.cons.injEq, and_true] at hvs
      obtain ⟨e1, _⟩ := S.v hvs.1.symm
      obtain ⟨e2, _⟩ := S.v hvs.2.symm
      refine ⟨.inr ⟨_, _, e1, e2⟩, ?_⟩
      rw [e1, e2, map_nil_run hu1]; rfl
    · cases h
  · split at h
    · rename_i g x' g' y' hn1 hn2
      split at h
      · rename_i e ht
        split at h
        · rename_i sz hsz
          obtain ⟨vt, vx⟩ := v
          obtain ⟨ut, ux⟩ := u
          have hx : ev ps.f x = (XV.mk vt vx).fv := ev_of C.toAbs hv (asN_told hn1)
          have hy : ev ps.f y = (XV.mk ut ux).fv := ev_of C.toAbs hu (asN_told hn2)
          have hnil1 : ∀ {q : Option Addr} {w : World}, TOk E.P E.T → (Op.equal t (.pointer none) (.pointer q)).run E.P w = .ok q.isNone w := by
            intro q w hT
            obtain ⟨hu1, hu2⟩ := ptr_und hT ht
            show (Op.equalIn (9999 + 1) t _ _).run E.P w = _
            rw [Op.equalIn, Sem.run_bind, run_underlying hu1]
            cases q <;> simp
          have hnil2 : ∀ {p : Option Addr} {w : World}, TOk E.P E.T → (Op.equal t (.pointer p) (.pointer none)).run E.P w = .ok p.isNone w := by
            intro p w hT
            exact run_equal_pointer_nil _ _ _ (ptr_und hT ht).1
          unfold nmEq at h
          split at h
          · rename_i r hr
            obtain ⟨h1, rfl⟩ := eqR_spec hr
            have hptr : ∀ {ow : Ow} {g x : Option Nat} {u : Value}, nmV ow g x u → ∃ p, u = .pointer p := by
              intro ow g x u hq
              cases x with
              | none => exact ⟨_, hq⟩
              | some i => obtain ⟨_, _, _, _, hq⟩ := hq; exact ⟨_, hq⟩
            split at h
            · rename_i g1 g2
              obtain ⟨hb, hK⟩ := cond_some h
              clear h
              have e12 := Nat.eq_of_beq_eq_true hb
              subst e12
              split at hK
              · rename_i l cxs hgb
                obtain ⟨c, xs⟩ := cxs
                obtain ⟨hm, hlt⟩ := C.ab hgb
                refine good_ext (r := .d (.v (.bool (eqRes op (x' == y'))))) [(l, .cu (abC g1 c xs) [])] (by simpa using hm) (by simp [absU]) ?_ (Le.refl _) (by simp) (by simp) hK
                rw [ops2 rfl hx hy]
                refine ext_eq h1 rfl fun n w0 st a w ow hd hT S hvs hm => ?_
                simp only [List.cons.injEq, and_true] at hvs
                have n1 := asN_spec hn1 S hvs.1.symm
                have n2 := asN_spec hn2 S hvs.2.symm
                obtain ⟨p, ep⟩ := hptr n1
                obtain ⟨q, eq⟩ := hptr n2
                refine ⟨.inl ⟨p, q, ep, eq⟩, ?_⟩
                cases x' with
                | none =>
                  have n1 : a.eval x = .pointer none := n1
                  rw [n1, eq, hnil1 hT]
                  cases y' with
                  | none => have n2 : a.eval y = .pointer none := n2; rw [n2] at eq; cases eq; rfl
                  | some j => obtain ⟨_, b, _, _, n2⟩ := n2; rw [n2] at eq; cases eq; rfl
                | some i =>
                  cases y' with
                  | none =>
                    have n2 : a.eval y = .pointer none := n2
                    obtain ⟨_, b, _, _, n1⟩ := n1; rw [n1, n2, hnil2 hT]; rfl
                  | some j =>
                    obtain ⟨gg, b, hg, hbi, n1⟩ := n1
                    obtain ⟨gg', b', hg', hbj, n2⟩ := n2
                    cases hg; cases hg'
                    rw [n1, n2]
                    have hml := hm (l, .cu (abC g1 c xs) []) (by simp)
                    obtain ⟨c1, hc1, hP1, _⟩ := S.arAt hml hbi
                    obtain ⟨c2, hc2, hP2, _⟩ := S.arAt hml hbj
                    obtain ⟨y1, _, rfl⟩ := ab_at hc1
                    obtain ⟨y2, _, rfl⟩ := ab_at hc2
                    obtain ⟨v1, t1, hh1, _⟩ := hP1
                    obtain ⟨v2, t2, hh2, _⟩ := hP2
                    obtain ⟨hu1, hu2⟩ := ptr_und hT ht
                    have hszr := tsz_run hT hsz w
                    have hinj : b = b' ↔ i = j := by
                      obtain ⟨_, _, _, bs, g1', _, g3, _⟩ := S.objs l _ hml
                      rw [g1'] at hbi hbj
                      obtain ⟨p1, p2⟩ := List.getElem?_eq_some_iff.1 hbi
                      obtain ⟨p3, p4⟩ := List.getElem?_eq_some_iff.1 hbj
                      constructor
                      · intro e; exact (List.getElem_inj g3).1 (p2.trans (e.trans p4.symm))
                      · intro e; subst e; rw [← p2, ← p4]
                    show (Op.equalIn (9999 + 1) t _ _).run E.P w = _
                    rw [Op.equalIn, Sem.run_bind, run_underlying hu1]
                    simp only [Result.andThen_ok, Sem.run_bind, hu2, hszr]
                    rw [if_pos (by omega)]
                    by_cases e : i = j
                    · have eb := hinj.2 e
                      subst e; subst eb
                      rw [run_sameAddr_same]
                      simp
                    · have eb : b ≠ b' := fun q => e (hinj.1 q)
                      rw [run_sameAddr_other w (by simpa using eb) hh1 hh2]
                      have : (some i == some j) = false := by simpa using e
                      rw [this]
              · cases hK
            · rename_i hne
              refine good_ext (r := .d (.v (.bool (eqRes op (x' == y'))))) [] (by simp) (by simp [absU]) ?_ (Le.refl _) (by simp) (by simp) h
              rw [ops2 rfl hx hy]
              refine ext_eq h1 rfl fun n w0 st a w ow hd hT S hvs hm => ?_
              simp only [List.cons.injEq, and_true] at hvs
              have n1 := asN_spec hn1 S hvs.1.symm
              have n2 := asN_spec hn2 S hvs.2.symm
              obtain ⟨p, ep⟩ := hptr n1
              obtain ⟨q, eq⟩ := hptr n2
              refine ⟨.inl ⟨p, q, ep, eq⟩, ?_⟩
              cases x' with
              | none =>
                have n1 : a.eval x = .pointer none := n1
                rw [n1, eq, hnil1 hT]
                cases y' with
                | none => have n2 : a.eval y = .pointer none := n2; rw [n2] at eq; cases eq; rfl
                | some j => obtain ⟨_, b, _, _, n2⟩ := n2; rw [n2] at eq; cases eq; rfl
              | some i =>
                cases y' with
                | none =>
                  have n2 : a.eval y = .pointer none := n2
                  obtain ⟨_, b, _, _, n1⟩ := n1; rw [n1, n2, hnil2 hT]; rfl
                | some j =>
                  obtain ⟨gg, b, hg, hbi, n1⟩ := n1
                  obtain ⟨gg', b', hg', hbj, n2⟩ := n2
                  exact (hne gg gg' hg hg').elim
          · cases h
        · cases h
      · cases h
    · cases h
end
end Go.Proofs.YtnkdanobhgofbaaGreatDoor.pv
namespace Go.Proofs.YtnkdanobhgofbaaGreatDoor.pv
set_option linter.all false
open Go.RowKit

/-- two strings as one, unless that is longer than any may be -/
def catS (a b : ByteArray) : Option ByteArray := if a.size + b.size ≤ 9223372036854775807 then some (a ++ b) else none

def eI (k : IntKind) (n : Int) : PV := .v (.int k n)
/-- bytes as a string -/
def b2s (L : List Int) : ByteArray := L.foldl (fun r n => r.push (UInt8.ofNat n.toNat)) ByteArray.empty
theorem tstr_und {P : Program} {T : List TI} (h : TOk P T) {t : Nat} (ht : tk T t = some .str) : P.underlying t = some .string := by
  unfold tk at ht
  cases hq : T[t]? with
  | none => simp [hq] at ht
  | some ti =>
    obtain ⟨i, d, h1, h2, h3, h4, h5, _⟩ := h.info hq
    simp [hq] at ht
    rw [ht] at h5
    cases d <;> simp [kOk] at h5
    exact h2
theorem RE_bytes {ow : Ow} {w : World} : ∀ {L : List Int} {cells : List Value}, RE ow w 1 (L.map (eI .u8)) cells → cells = L.map (Value.int .u8)
  | [], _, h => by simpa only [List.map_nil, RE] using h
  | x :: L, cells, h => by
    simp only [List.map_cons, RE, eI, R] at h
    obtain ⟨u, r, e, h1, h2, ⟨h3, _⟩, h4⟩ := h
    subst h3
    rw [e, RE_bytes h4]; rfl
section
variable {P : Program} {T : List TI} {n : Nat} {w0 : Cx} {st : PS} {a : Act} {w : World} {ow : Ow} {hd : Nat → Value}
theorem ext_b2s {src dst e s : Nat} {x : Operand} {L : List Int} {fx : FV} {m0 : List (Nat × PO)} (h1 : tsl T src = some (e, s)) (h2 : tint T e = some .u8) (h3 : tk T dst = some .str)
    (hs : ∀ (n : Nat) (w0 : Cx) (st : PS) (a : Act) (w : World) (ow : Ow) (hd : Nat → Value), SimW n w0 st a w ow hd → ev st.f x = fx → (∀ q ∈ m0, st.m[q.1]? = some q.2) → Src ow w 1 (a.eval x) (L.map (eI .u8))) :
    Ext P T (.convert src dst x) [fx] m0 (.d (.v (.string (b2s L)))) [] := by
  intro n w0 st a w o hT hS ho hn hv hm K Q hK
  obtain ⟨ow, hd, hold, S⟩ := hS
  obtain ⟨d, op, ty, pos, af, gd⟩ := o
  simp only at ho hn hK
  subst ho
  simp [Op.operands] at hv
  obtain ⟨ad, cap, y1, y2⟩ := hs _ _ _ _ _ _ _ S hv hm
  have hu := (tsl_und hT h1).1
  have hc : (Conv.bytesToString (.slice ad (L.map (eI .u8)).length cap)).run P w = .ok (.string (b2s L)) w := by
    rcases y2 with hnil | ⟨b, off, cells, rfl, y3, y5⟩
    · have : L = [] := by simpa using hnil
      subst this
      cases ad with
      | none => simp [Conv.bytesToString, b2s]
      | some ad =>
        have := run_bytesToString (P := P) w ad 0 cap [] (by simpa using run_loadCells_list (P := P) (w := w) ad [] (by simp))
        simpa [b2s] using this
    · rw [RE_bytes y5] at y3
      have := run_bytesToString (P := P) w ⟨b, off, none⟩ (L.map (eI .u8)).length cap L (by
        have := run_loadCells_list (P := P) (w := w) ⟨b, off, none⟩ (L.map (Value.int .u8)) (fun j v hj => by rw [Addr.add_mid]; exact y3 j v hj)
        simpa using this)
      simpa [b2s] using this
  have hrun : (execOp a.eval ⟨d, .convert src dst x, ty, pos, af, gd⟩).run P w = .ok (.value (.string (b2s L))) w := by
    simp only [execOp, y1]
    have := run_convert_bytes_string (P := P) w src dst e ad (L.map (eI .u8)).length cap hu (tint_und hT h2) (tstr_und hT h3)
    simp only [Sem.run_bind, this, hc, Result.andThen_ok, Sem.run_pure]
  exact wp_val hrun (hK _ _ ⟨ow, hd, hold, S.put hn (x := .d (.v _)) (by simp only [RF, R]; exact ⟨trivial, rfl⟩)⟩)
theorem xb2sD {src dst e s : Nat} {x : Operand} {L : List Int} (h1 : tsl T src = some (e, s)) (h2 : tint T e = some .u8) (h3 : tk T dst = some .str) :
    Ext P T (.convert src dst x) [.d (.sl (L.map (eI .u8)))] [] (.d (.v (.string (b2s L)))) [] :=
  ext_b2s h1 h2 h3 (fun n w0 st a w ow hd S hx _ => Src.of_els S (by rw [hx]; exact .sl _) (by simp [fits, eI, isTup, psz]))
theorem xb2sN {src dst e s : Nat} {x : Operand} (h1 : tsl T src = some (e, s)) (h2 : tint T e = some .u8) (h3 : tk T dst = some .str) :
    Ext P T (.convert src dst x) [.d vnil] [] (.d (.v (.string (b2s [])))) [] :=
  ext_b2s (L := []) h1 h2 h3 (fun n w0 st a w ow hd S hx _ => Src.of_els (ys := []) S (by rw [hx]; exact .nil) (by simp))
theorem xb2sR {src dst e s l : Nat} {x : Operand} {L : List Int} (h1 : tsl T src = some (e, s)) (h2 : tint T e = some .u8) (h3 : tk T dst = some .str) :
    Ext P T (.convert src dst x) [.srf l] [(l, .row e 1 (L.map (eI .u8)))] (.d (.v (.string (b2s L)))) [] :=
  ext_b2s h1 h2 h3 (fun n w0 st a w ow hd S hx hm => Src.of_els S (by rw [hx]; exact .row _ _ _ _ (hm (l, .row e 1 (L.map (eI .u8))) (by simp))) (by simp [fits, eI, isTup, psz]))
theorem xcatS {t ty' : Nat} {x y : Operand} {p q r : ByteArray} (h : catS p q = some r) : Ext P T (.binOp .add t x y ty') [.d (.v (.string p)), .d (.v (.string q))] [] (.d (.v (.string r))) [] := by
  intro n w0 st a' w o hT hS ho hn hv hm K Q hK
  obtain ⟨ow, hd, hold, S⟩ := hS
  obtain ⟨d, op, ty, pos, af, gd⟩ := o
  simp only at ho hn hK
  subst ho
  simp [Op.operands] at hv
  obtain ⟨e1, _⟩ := S.v hv.1
  obtain ⟨e2, _⟩ := S.v hv.2
  unfold catS at h
  split at h
  · rename_i hc
    simp at h; subst h
    have hrun : (execOp a'.eval ⟨d, .binOp .add t x y ty', ty, pos, af, gd⟩).run P w = .ok (.value (.string (p ++ q))) w := by
      have h' : ¬ (((p.size + q.size : Nat) : Int) > IntKind.i64.max) := by simp [IntKind.max, IntKind.bits, IntKind.signed]; omega
      simp [execOp, e1, e2, eqGuard, binOp, Op.stringOp]
      first
        | (rw [if_neg (by simpa using h')]; simp)
        | simp_all
    exact wp_val hrun (hK _ _ ⟨ow, hd, hold, S.put hn (x := .d (.v _)) (by simp only [RF, R]; exact ⟨trivial, rfl⟩)⟩)
  · cases h
end
theorem ofL_size (x : List UInt8) : (ofL x).size = x.length := by simp [ofL, ByteArray.size]
theorem ofL_app (a b : List UInt8) : ofL a ++ ofL b = ofL (a ++ b) := by
  apply ByteArray.ext
  simp [ofL]
theorem eqs_dat : ∀ t : Ty, t.eqs = true → t.dat = true
  | .i _, _ | .bl, _ | .str, _ | .un, _ => rfl
  | .pr a b, h => by
    simp only [Ty.eqs, Bool.and_eq_true] at h
    simp only [Ty.dat, eqs_dat a h.1, eqs_dat b h.2, Bool.and_self]
  | .ar n t, h => by
    simp only [Ty.eqs] at h
    simp only [Ty.dat, eqs_dat t h]
  | .sl _, h | .ns, h | .nz _, h | .vp _, h | .np _ _, h | .vm _, h | .rf _ _, h | .ep _ _ _, h | .dp _ _, h | .sr _, h | .ss _ _, h | .as _ _ _ _ _, h | .cl _ _, h | .ic _ _, h | .tp _, h | .mc _ _, h | .sm _ _, h | .ud, h | .dead, h => by simp [Ty.eqs] at h
section
variable {α : Type} {E : Env} {N : Nat} {f : List (Nat × XV)} {m : List (Nat × XO)} {ps : PS} {nl : Nat} {K : KT α} {out : α}
theorem eqA_fv {t : Ty} {x : t.den} (h : t.eqs = true) (ha : t.agg = true) : (rep t x).fv = .d (.agg ((vls t x).map PV.v)) := by
  have hd := eqs_dat t h
  rw [rep_agg t x ha, (rep_dat t x hd).1, mkAgg_d, vls_pcs t x h]
theorem eqs_told {t : Ty} (h : t.eqs = true) : t.told = true := by cases t <;> first | rfl | simp [Ty.eqs] at h
theorem xEqA_good (C : Ctx E N f m ps nl) {op : BinOp} {t yt : Nat} {x y : Operand} {v u : XV} (hv : evX f x = v) (hu : evX f y = u) (h1 : v.t.eqs = true) (h2 : v.t.agg = true) (h : xEqA E t op v u K = some out) : Good E ps nl (.binOp op t x y yt) K out := by
  obtain ⟨c, a⟩ := v
  obtain ⟨c', b⟩ := u
  unfold xEqA at h
  simp only at h h1 h2
  split at h
  · rename_i y' hy'
    obtain ⟨hb, h⟩ := cond_some h
    simp only [Bool.and_eq_true, Bool.not_eq_true'] at hb
    obtain ⟨⟨g1, g2⟩, g3⟩ := hb
    have g2 : tagg E.T t = some true := by
      split at g2
      · assumption
      · cases g2
    obtain ⟨e, rfl⟩ := castT_spec hy'
    subst e
    split at h
    · rename_i r hr
      obtain ⟨k1, rfl⟩ := eqR_spec hr
      have hx := ev_of (t := c') (y := a) C.toAbs hv (eqs_told h1)
      have hy := ev_of (t := c') (y := b) C.toAbs hu (eqs_told h1)
      rw [eqA_fv h1 h2] at hx hy
      exact good_val (v := ⟨.bl, eqRes op (eqT c' a b)⟩) (.binA op t x y yt _ _ _ _ (eqT c' a b) k1 hx hy (plain_map _) (plain_map _) (eqA_ck C.hE.hT g1 g2 g3 a b)) (fun _ h => h) h
    · cases h
  · cases h
end
theorem b2s_ofL (L : List Int) : b2s L = ofL (u8i L) := by
  have : ∀ (L : List Int) (r : ByteArray), L.foldl (fun r n => r.push (UInt8.ofNat n.toNat)) r = ⟨r.data ++ (u8i L).toArray⟩ := by
    intro L
    induction L with
    | nil => intro r; simp [u8i]
    | cons x L ih =>
      intro r
      rw [List.foldl_cons, ih]
      simp [u8i, ByteArray.push]
  rw [b2s, this]
  simp only [ofL]
  congr 1
  show (#[] : Array UInt8) ++ (u8i L).toArray = _
  simp
end Go.Proofs.YtnkdanobhgofbaaGreatDoor.pv
