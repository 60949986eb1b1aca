/- Strings of bytes. -/
import Derived.Test.YtmjkechkdfobgaaVM
import Derived.Laws.BytesString
import Derived.Laws.Cells
import Derived.Laws.Pointers
namespace Go.Proofs.Ytmjkechkdfobgaa.pv
set_option linter.all false
open Go.RowKit

/-- two strings as one, unless that is longer than any may be -/
def catS (a b : ByteArray) : Option ByteArray := if a.size + b.size ≤ 9223372036854775807 then some (a ++ b) else none

def eI (k : IntKind) (n : Int) : PV := .v (.int k n)
/-- bytes as a string -/
def b2s (L : List Int) : ByteArray := L.foldl (fun r n => r.push (UInt8.ofNat n.toNat)) ByteArray.empty
theorem tstr_und {P : Program} {T : List TI} (h : TOk P T) {t : Nat} (ht : tk T t = some .str) : P.underlying t = some .string := by
  unfold tk at ht
  cases hq : T[t]? with
  | none => simp [hq] at ht
  | some ti =>
    obtain ⟨i, d, h1, h2, h3, h4, h5, _⟩ := h.info hq
    simp [hq] at ht
    rw [ht] at h5
    cases d <;> simp [kOk] at h5
    exact h2
theorem RE_bytes {ow : Ow} {w : World} : ∀ {L : List Int} {cells : List Value}, RE ow w 1 (L.map (eI .u8)) cells → cells = L.map (Value.int .u8)
  | [], _, h => by simpa only [List.map_nil, RE] using h
  | x :: L, cells, h => by
    simp only [List.map_cons, RE, eI, R] at h
    obtain ⟨u, r, e, h1, h2, ⟨h3, _⟩, h4⟩ := h
    subst h3
    rw [e, RE_bytes h4]; rfl
section
variable {P : Program} {T : List TI} {n : Nat} {w0 : Cx} {st : PS} {a : Act} {w : World} {ow : Ow} {hd : Nat → Value}
theorem ext_b2s {src dst e s : Nat} {x : Operand} {L : List Int} {fx : FV} {m0 : List (Nat × PO)} (h1 : tsl T src = some (e, s)) (h2 : tint T e = some .u8) (h3 : tk T dst = some .str)
    (hs : ∀ (n : Nat) (w0 : Cx) (st : PS) (a : Act) (w : World) (ow : Ow) (hd : Nat → Value), SimW n w0 st a w ow hd → ev st.f x = fx → (∀ q ∈ m0, st.m[q.1]? = some q.2) → Src ow w 1 (a.eval x) (L.map (eI .u8))) :
    Ext P T (.convert src dst x) [fx] m0 (.d (.v (.string (b2s L)))) [] := by
  intro n w0 st a w o hT hS ho hn hv hm K Q hK
  obtain ⟨ow, hd, hold, S⟩ := hS
  obtain ⟨d, op, ty, pos, af, gd⟩ := o
  simp only at ho hn hK
  subst ho
  simp [Op.operands] at hv
  obtain ⟨ad, cap, y1, y2⟩ := hs _ _ _ _ _ _ _ S hv hm
  have hu := (tsl_und hT h1).1
  have hc : (Conv.bytesToString (.slice ad (L.map (eI .u8)).length cap)).run P w = .ok (.string (b2s L)) w := by
    rcases y2 with hnil | ⟨b, off, cells, rfl, y3, y5⟩
    · have : L = [] := by simpa using hnil
      subst this
      cases ad with
      | none => simp [Conv.bytesToString, b2s]
      | some ad =>
        have := run_bytesToString (P := P) w ad 0 cap [] (by simpa using run_loadCells_list (P := P) (w := w) ad [] (by simp))
        simpa [b2s] using this
    · rw [RE_bytes y5] at y3
      have := run_bytesToString (P := P) w ⟨b, off, none⟩ (L.map (eI .u8)).length cap L (by
        have := run_loadCells_list (P := P) (w := w) ⟨b, off, none⟩ (L.map (Value.int .u8)) (fun j v hj => by rw [Addr.add_mid]; exact y3 j v hj)
        simpa using this)
      simpa [b2s] using this
  have hrun : (execOp a.eval ⟨d, .convert src dst x, ty, pos, af, gd⟩).run P w = .ok (.value (.string (b2s L))) w := by
    simp only [execOp, y1]
    have := run_convert_bytes_string (P := P) w src dst e ad (L.map (eI .u8)).length cap hu (tint_und hT h2) (tstr_und hT h3)
    simp only [Sem.run_bind, this, hc, Result.andThen_ok, Sem.run_pure]
  exact wp_val hrun (hK _ _ ⟨ow, hd, hold, S.put hn (x := .d (.v _)) (by simp only [RF, R]; exact ⟨trivial, rfl⟩)⟩)
theorem xb2sD {src dst e s : Nat} {x : Operand} {L : List Int} (h1 : tsl T src = some (e, s)) (h2 : tint T e = some .u8) (h3 : tk T dst = some .str) :
    Ext P T (.convert src dst x) [.d (.sl (L.map (eI .u8)))] [] (.d (.v (.string (b2s L)))) [] :=
  ext_b2s h1 h2 h3 (fun n w0 st a w ow hd S hx _ => Src.of_els S (by rw [hx]; exact .sl _) (by simp [fits, eI, isTup, psz]))
theorem xb2sN {src dst e s : Nat} {x : Operand} (h1 : tsl T src = some (e, s)) (h2 : tint T e = some .u8) (h3 : tk T dst = some .str) :
    Ext P T (.convert src dst x) [.d vnil] [] (.d (.v (.string (b2s [])))) [] :=
  ext_b2s (L := []) h1 h2 h3 (fun n w0 st a w ow hd S hx _ => Src.of_els (ys := []) S (by rw [hx]; exact .nil) (by simp))
theorem xb2sR {src dst e s l : Nat} {x : Operand} {L : List Int} (h1 : tsl T src = some (e, s)) (h2 : tint T e = some .u8) (h3 : tk T dst = some .str) :
    Ext P T (.convert src dst x) [.srf l] [(l, .row e 1 (L.map (eI .u8)))] (.d (.v (.string (b2s L)))) [] :=
  ext_b2s h1 h2 h3 (fun n w0 st a w ow hd S hx hm => Src.of_els S (by rw [hx]; exact .row _ _ _ _ (hm (l, .row e 1 (L.map (eI .u8))) (by simp))) (by simp [fits, eI, isTup, psz]))
theorem xcatS {t ty' : Nat} {x y : Operand} {p q r : ByteArray} (h : catS p q = some r) : Ext P T (.binOp .add t x y ty') [.d (.v (.string p)), .d (.v (.string q))] [] (.d (.v (.string r))) [] := by
  intro n w0 st a' w o hT hS ho hn hv hm K Q hK
  obtain ⟨ow, hd, hold, S⟩ := hS
  obtain ⟨d, op, ty, pos, af, gd⟩ := o
  simp only at ho hn hK
  subst ho
  simp [Op.operands] at hv
  obtain ⟨e1, _⟩ := S.v hv.1
  obtain ⟨e2, _⟩ := S.v hv.2
  unfold catS at h
  split at h
  · rename_i hc
    simp at h; subst h
    have hrun : (execOp a'.eval ⟨d, .binOp .add t x y ty', ty, pos, af, gd⟩).run P w = .ok (.value (.string (p ++ q))) w := by
      have h' : ¬ (((p.size + q.size : Nat) : Int) > IntKind.i64.max) := by simp [IntKind.max, IntKind.bits, IntKind.signed]; omega
      simp [execOp, e1, e2, eqGuard, binOp, Op.stringOp]
      first
        | (rw [if_neg (by simpa using h')]; simp)
        | simp_all
    exact wp_val hrun (hK _ _ ⟨ow, hd, hold, S.put hn (x := .d (.v _)) (by simp only [RF, R]; exact ⟨trivial, rfl⟩)⟩)
  · cases h
end
theorem ofL_size (x : List UInt8) : (ofL x).size = x.length := by simp [ofL, ByteArray.size]
theorem ofL_app (a b : List UInt8) : ofL a ++ ofL b = ofL (a ++ b) := by
  apply ByteArray.ext
  simp [ofL]
theorem eqs_dat : ∀ t : Ty, t.eqs = true → t.dat = true
  | .i _, _ | .bl, _ | .str, _ | .un, _ => rfl
  | .pr a b, h => by
    simp only [Ty.eqs, Bool.and_eq_true] at h
    simp only [Ty.dat, eqs_dat a h.1, eqs_dat b h.2, Bool.and_self]
  | .ar n t, h => by
    simp only [Ty.eqs] at h
    simp only [Ty.dat, eqs_dat t h]
  | .sl _, h | .ns, h | .nz _, h | .vp _, h | .np _ _, h | .vm _, h | .rf _ _, h | .ep _ _ _, h | .dp _ _, h | .sr _, h | .ss _ _, h | .as _ _ _ _ _, h | .cl _ _, h | .ic _ _, h | .tp _, h | .mc _ _, h | .sm _ _, h | .ud, h | .dead, h => by simp [Ty.eqs] at h
section
variable {α : Type} {E : Env} {N : Nat} {f : List (Nat × XV)} {m : List (Nat × XO)} {ps : PS} {nl : Nat} {K : KT α} {out : α}
theorem eqA_fv {t : Ty} {x : t.den} (h : t.eqs = true) (ha : t.agg = true) : (rep t x).fv = .d (.agg ((vls t x).map PV.v)) := by
  have hd := eqs_dat t h
  rw [rep_agg t x ha, (rep_dat t x hd).1, mkAgg_d, vls_pcs t x h]
theorem eqs_told {t : Ty} (h : t.eqs = true) : t.told = true := by cases t <;> first | rfl | simp [Ty.eqs] at h
theorem xEqA_good (C : Ctx E N f m ps nl) {op : BinOp} {t yt : Nat} {x y : Operand} {v u : XV} (hv : evX f x = v) (hu : evX f y = u) (h1 : v.t.eqs = true) (h2 : v.t.agg = true) (h : xEqA E t op v u K = some out) : Good E ps nl (.binOp op t x y yt) K out := by
  obtain ⟨c, a⟩ := v
  obtain ⟨c', b⟩ := u
  unfold xEqA at h
  simp only at h h1 h2
  split at h
  · rename_i y' hy'
    obtain ⟨hb, h⟩ := cond_some h
    simp only [Bool.and_eq_true, Bool.not_eq_true'] at hb
    obtain ⟨⟨g1, g2⟩, g3⟩ := hb
    have g2 : tagg E.T t = some true := by
      split at g2
      · assumption
      · cases g2
    obtain ⟨e, rfl⟩ := castT_spec hy'
    subst e
    split at h
    · rename_i r hr
      obtain ⟨k1, rfl⟩ := eqR_spec hr
      have hx := ev_of (t := c') (y := a) C.toAbs hv (eqs_told h1)
      have hy := ev_of (t := c') (y := b) C.toAbs hu (eqs_told h1)
      rw [eqA_fv h1 h2] at hx hy
      exact good_val (v := ⟨.bl, eqRes op (eqT c' a b)⟩) (.binA op t x y yt _ _ _ _ (eqT c' a b) k1 hx hy (plain_map _) (plain_map _) (eqA_ck C.hE.hT g1 g2 g3 a b)) (fun _ h => h) h
    · cases h
  · cases h
end
theorem b2s_ofL (L : List Int) : b2s L = ofL (u8i L) := by
  have : ∀ (L : List Int) (r : ByteArray), L.foldl (fun r n => r.push (UInt8.ofNat n.toNat)) r = ⟨r.data ++ (u8i L).toArray⟩ := by
    intro L
    induction L with
    | nil => intro r; simp [u8i]
    | cons x L ih =>
      intro r
      rw [List.foldl_cons, ih]
      simp [u8i, ByteArray.push]
  rw [b2s, this]
  simp only [ofL]
  congr 1
  show (#[] : Array UInt8) ++ (u8i L).toArray = _
  simp
end Go.Proofs.Ytmjkechkdfobgaa.pv
