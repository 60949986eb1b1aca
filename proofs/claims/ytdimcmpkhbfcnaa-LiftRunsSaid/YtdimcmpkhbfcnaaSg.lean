/- Strings: bytes as a string, two strings as one, a part of a string. -/
import Derived.Test.YtdimcmpkhbfcnaaSf
import Derived.Laws.BytesString
import Derived.Laws.Cells
import Derived.Laws.Pointers
namespace Go.Proofs.Ytdimcmpkhbfcnaa.pv
set_option linter.all false
open Go.RowKit
/-- bytes as a string -/
def b2s (L : List Int) : ByteArray := L.foldl (fun r n => r.push (UInt8.ofNat n.toNat)) ByteArray.empty
/-- two strings as one, unless that is longer than any may be -/
def catS (a b : ByteArray) : Option ByteArray := if a.size + b.size ≤ 9223372036854775807 then some (a ++ b) else none
/-- a part of a string -/
def subS (a : ByteArray) (l h : Int) : Option ByteArray := if 0 ≤ l ∧ l ≤ h ∧ h ≤ a.size then some (a.extract l.toNat h.toNat) else none
theorem tstr_und {P : Program} {T : List TI} (h : TOk P T) {t : Nat} (ht : tk T t = some .str) : P.underlying t = some .string := by
  unfold tk at ht
  cases hq : T[t]? with
  | none => simp [hq] at ht
  | some ti =>
    obtain ⟨i, d, h1, h2, h3, h4, h5, _⟩ := h.info hq
    simp [hq] at ht
    rw [ht] at h5
    cases d <;> simp [kOk] at h5
    exact h2
theorem RE_bytes {ow : Nat → Bool} {w : World} : ∀ {L : List Int} {cells : List Value}, RE ow w 1 (L.map (eI .u8)) cells → cells = L.map (Value.int .u8)
  | [], _, h => by simpa only [List.map_nil, RE] using h
  | x :: L, cells, h => by
    simp only [List.map_cons, RE, eI, R] at h
    obtain ⟨u, r, e, h1, h2, ⟨h3, _⟩, h4⟩ := h
    subst h3
    rw [e, RE_bytes h4]; rfl
section
variable {P : Program} {T : List TI} {n : Nat} {w0 : Cx} {st : PS} {a : Act} {w : World} {ow : Nat → Bool} {hd : Nat → Value}
theorem ext_b2s {src dst e s : Nat} {x : Operand} {L : List Int} {fx : FV} {m0 : List (Nat × PO)} (h1 : tsl T src = some (e, s)) (h2 : tint T e = some .u8) (h3 : tk T dst = some .str)
    (hs : ∀ (n : Nat) (w0 : Cx) (st : PS) (a : Act) (w : World) (ow : Nat → Bool) (hd : Nat → Value), SimW n w0 st a w ow hd → ev st.f x = fx → (∀ q ∈ m0, st.m[q.1]? = some q.2) → Src ow w 1 (a.eval x) (L.map (eI .u8))) :
    Ext P T (.convert src dst x) [fx] m0 (.d (.v (.string (b2s L)))) [] := by
  intro n w0 st a w o hT hS ho hn hv hm K Q hK
  obtain ⟨ow, hd, hold, S⟩ := hS
  obtain ⟨d, op, ty, pos, af, gd⟩ := o
  simp only at ho hn hK
  subst ho
  simp [Op.operands] at hv
  obtain ⟨ad, cap, y1, y2⟩ := hs _ _ _ _ _ _ _ S hv hm
  have hu := (tsl_und hT h1).1
  have hc : (Conv.bytesToString (.slice ad (L.map (eI .u8)).length cap)).run P w = .ok (.string (b2s L)) w := by
    rcases y2 with hnil | ⟨b, off, cells, rfl, y3, y5⟩
    · have : L = [] := by simpa using hnil
      subst this
      cases ad with
      | none => simp [Conv.bytesToString, b2s]
      | some ad =>
        have := run_bytesToString (P := P) w ad 0 cap [] (by simpa using run_loadCells_list (P := P) (w := w) ad [] (by simp))
        simpa [b2s] using this
    · rw [RE_bytes y5] at y3
      have := run_bytesToString (P := P) w ⟨b, off, none⟩ (L.map (eI .u8)).length cap L (by
        have := run_loadCells_list (P := P) (w := w) ⟨b, off, none⟩ (L.map (Value.int .u8)) (fun j v hj => by rw [Addr.add_mid]; exact y3 j v hj)
        simpa using this)
      simpa [b2s] using this
  have hrun : (execOp a.eval ⟨d, .convert src dst x, ty, pos, af, gd⟩).run P w = .ok (.value (.string (b2s L))) w := by
    simp only [execOp, y1]
    have := run_convert_bytes_string (P := P) w src dst e ad (L.map (eI .u8)).length cap hu (tint_und hT h2) (tstr_und hT h3)
    simp only [Sem.run_bind, this, hc, Result.andThen_ok, Sem.run_pure]
  exact wp_val hrun (hK _ _ ⟨ow, hd, hold, S.put hn (x := .d (.v _)) (by simp only [RF, R]; exact ⟨trivial, rfl⟩)⟩)
theorem xb2sD {src dst e s : Nat} {x : Operand} {L : List Int} (h1 : tsl T src = some (e, s)) (h2 : tint T e = some .u8) (h3 : tk T dst = some .str) :
    Ext P T (.convert src dst x) [.d (.sl (L.map (eI .u8)))] [] (.d (.v (.string (b2s L)))) [] :=
  ext_b2s h1 h2 h3 (fun n w0 st a w ow hd S hx _ => Src.of_els S (by rw [hx]; exact .sl _) (by simp [fits, eI, isTup, psz]))
theorem xcatS {t ty' : Nat} {x y : Operand} {p q r : ByteArray} (h : catS p q = some r) : Ext P T (.binOp .add t x y ty') [.d (.v (.string p)), .d (.v (.string q))] [] (.d (.v (.string r))) [] := by
  intro n w0 st a' w o hT hS ho hn hv hm K Q hK
  obtain ⟨ow, hd, hold, S⟩ := hS
  obtain ⟨d, op, ty, pos, af, gd⟩ := o
  simp only at ho hn hK
  subst ho
  simp [Op.operands] at hv
  obtain ⟨e1, _⟩ := S.v hv.1
  obtain ⟨e2, _⟩ := S.v hv.2
  unfold catS at h
  split at h
  · rename_i hc
    simp at h; subst h
    have hrun : (execOp a'.eval ⟨d, .binOp .add t x y ty', ty, pos, af, gd⟩).run P w = .ok (.value (.string (p ++ q))) w := by
      have h' : ¬ (((p.size + q.size : Nat) : Int) > IntKind.i64.max) := by simp [IntKind.max, IntKind.bits, IntKind.signed]; omega
      simp [execOp, e1, e2, eqGuard, binOp, Op.stringOp]
      first
        | (rw [if_neg (by simpa using h')]; simp)
        | simp_all
    exact wp_val hrun (hK _ _ ⟨ow, hd, hold, S.put hn (x := .d (.v _)) (by simp only [RF, R]; exact ⟨trivial, rfl⟩)⟩)
  · cases h
variable {t : Nat} {x lo hi : Operand} {p r : ByteArray} {i h : Int} {ka kb : IntKind}
theorem xnilP {op : BinOp} {t ty' e l off : Nat} {x y : Operand} (ho : eqlOp op = true) (ht : tptr T t = some e) : Ext P T (.binOp op t x y ty') [.ref l off, .d (.v (.pointer none))] [] (.d (.v (.bool (eqRes op false)))) [] := by
  intro n w0 st a' w o hT hS ho' hn hv hm K Q hK
  obtain ⟨ow, hd, hold, S⟩ := hS
  obtain ⟨d, op', ty, pos, af, gd⟩ := o
  simp only at ho' hn hK
  subst ho'
  simp [Op.operands] at hv
  have q1 := S.eval x
  rw [hv.1] at q1
  simp only [RF] at q1
  obtain ⟨_, b, _, e1⟩ := q1
  obtain ⟨e2, _⟩ := S.v hv.2
  have hu : P.underlying t = some (.pointer (P.pointee t)) := by
    have := tptr_und hT ht
    rw [this]; unfold Program.pointee; rw [this]
  have heq := run_equal_pointer_nil (P := P) w t (some ⟨b, off, none⟩) hu
  have hrun : (execOp a'.eval ⟨d, .binOp op t x y ty', ty, pos, af, gd⟩).run P w = .ok (.value (.bool (eqRes op false))) w := by
    cases op <;> simp [eqlOp] at ho <;> simp [execOp, e1, e2, eqGuard, binOp, heq, eqRes]
  exact wp_val hrun (hK _ _ ⟨ow, hd, hold, S.put hn (x := .d (.v _)) (by simp only [RF, R]; exact ⟨trivial, rfl⟩)⟩)
theorem xnilN {op : BinOp} {t ty' e : Nat} {x y : Operand} (ho : eqlOp op = true) (ht : tptr T t = some e) : Ext P T (.binOp op t x y ty') [.d (.v (.pointer none)), .d (.v (.pointer none))] [] (.d (.v (.bool (eqRes op true)))) [] := by
  intro n w0 st a' w o hT hS ho' hn hv hm K Q hK
  obtain ⟨ow, hd, hold, S⟩ := hS
  obtain ⟨d, op', ty, pos, af, gd⟩ := o
  simp only at ho' hn hK
  subst ho'
  simp [Op.operands] at hv
  obtain ⟨e1, _⟩ := S.v hv.1
  obtain ⟨e2, _⟩ := S.v hv.2
  have hu : P.underlying t = some (.pointer (P.pointee t)) := by
    have := tptr_und hT ht
    rw [this]; unfold Program.pointee; rw [this]
  have heq := run_equal_pointer_nil (P := P) w t none hu
  have hrun : (execOp a'.eval ⟨d, .binOp op t x y ty', ty, pos, af, gd⟩).run P w = .ok (.value (.bool (eqRes op true))) w := by
    cases op <;> simp [eqlOp] at ho <;> simp [execOp, e1, e2, eqGuard, binOp, heq, eqRes]
  exact wp_val hrun (hK _ _ ⟨ow, hd, hold, S.put hn (x := .d (.v _)) (by simp only [RF, R]; exact ⟨trivial, rfl⟩)⟩)
end
section
variable {β γ : Type} {n sz P0 o idx : Nat} {A : Fin n → β} {jj : Int} {x y : β} {g : β → List γ} {pre post zs : List γ} {c : γ}
end
end Go.Proofs.Ytdimcmpkhbfcnaa.pv
