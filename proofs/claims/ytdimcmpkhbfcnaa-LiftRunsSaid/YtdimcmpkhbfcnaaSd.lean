/- Private rows whose capacity is known, rows with a hole: what slices.Insert and slices.Replace do. -/
import Derived.Test.YtdimcmpkhbfcnaaSc
import Derived.Lib.AppendZerosOnto
import Derived.Lib.Overlaps
namespace Go.Proofs.Ytdimcmpkhbfcnaa.pv
set_option linter.all false
open Go.RowKit
def capOf : Value → Nat
  | .slice _ _ c => c
  | _ => 0
def rowCI (e s C : Nat) (xs : List PV) (ow : Nat → Bool) (w : World) (h : Value) : Prop := ∃ cells, w.ownsRow 0 e s h xs.length cells ∧ RE ow w s xs cells ∧ capOf h = C
/-- a private row of capacity C -/
def rowC (e s C : Nat) (xs : List PV) : Cust where
  I := fun ow w h _ => rowCI e s C xs ow w h
  lt := by
    rintro ow w h vs ⟨cells, ⟨_, h2⟩, _, _⟩ b hb
    rcases h2 with ⟨h2, _⟩ | ⟨g, cap, cur, h2, _, h4, _⟩
    · rw [h2] at hb; simp [blocksOf, blockOf] at hb
    · rw [h2] at hb; simp [blocksOf, blockOf] at hb; subst hb; exact (Array.getElem?_eq_some_iff.1 h4).1
  kp := by
    rintro ow ow' w w' h vs k hb ⟨cells, h1, h2, h3⟩
    exact ⟨cells, ownsRow_kept h1 fun b e => (hb b e).1, RE.mono k _ _ _ h2, h3⟩
  one := by
    rintro ow w h vs ⟨cells, ⟨_, h2⟩, _, _⟩
    rcases h2 with ⟨h2, _⟩ | ⟨g, cap, cur, h2, _, h4, _⟩
    · rw [h2]; rfl
    · rw [h2]; rfl
/-- a private block of capacity C: xs at its head, then m elements of which nothing is known, then ys -/
def rowHI (e s C : Nat) (xs : List PV) (m : Nat) (ys : List PV) (ow : Nat → Bool) (w : World) (h : Value) : Prop :=
  ∃ (g : Nat) (cur : Array Value) (n : Nat), h = .slice (some ⟨g, 0, none⟩) n C ∧ w.heap[g]? = some (.cells cur e (0, 0)) ∧ C ≤ maxLen ∧ cur.size = C * s ∧ xs.length + m + ys.length ≤ C ∧
    RE ow w s xs (cur.toList.take (xs.length * s)) ∧ RE ow w s ys ((cur.toList.drop ((xs.length + m) * s)).take (ys.length * s))
def rowH (e s C : Nat) (xs : List PV) (m : Nat) (ys : List PV) : Cust where
  I := fun ow w h _ => rowHI e s C xs m ys ow w h
  lt := by
    rintro ow w h vs ⟨g, cur, n, h1, h2, _⟩ b hb
    rw [h1] at hb; simp [blocksOf, blockOf] at hb; subst hb; exact (Array.getElem?_eq_some_iff.1 h2).1
  kp := by
    rintro ow ow' w w' h vs k hb ⟨g, cur, n, h1, h2, h3, h4, h5, h6, h7⟩
    exact ⟨g, cur, n, h1, by rw [(hb g (by rw [h1]; first | rfl | simp [blocksOf, blockOf])).1]; exact h2, h3, h4, h5, RE.mono k _ _ _ h6, RE.mono k _ _ _ h7⟩
  one := by
    rintro ow w h vs ⟨g, cur, n, h1, _⟩
    rw [h1]; rfl
section
variable {P : Program} {T : List TI} {n : Nat} {w0 : Cx} {st : PS} {a : Act} {w : World} {ow : Nat → Bool} {hd : Nat → Value}
theorem updM_over : ∀ (U : List (Nat × PO)) (m : List PO) (l : Nat) (o : PO), (∃ q ∈ U, q.1 = l) → updM (m.set l o) U = updM m U
  | [], m, l, o, h => by simp at h
  | (k, x) :: U, m, l, o, h => by
    simp only [updM]
    by_cases e : k = l
    · subst e
      rw [List.set_set]
    · rw [List.set_comm _ _ (fun h => e h.symm)]
      refine updM_over U _ l o ?_
      obtain ⟨q, hq, rfl⟩ := h
      rcases List.mem_cons.1 hq with rfl | hq
      · exact absurd rfl e
      · exact ⟨q, hq, rfl⟩
variable {α : Type} {f : α → PV} {L Y Z : List α} {t t' e s l nl i j k m C : Nat} {A B : Int} {ka kb : IntKind} {x y lo hi : Operand} {ti : TI}
end
end Go.Proofs.Ytdimcmpkhbfcnaa.pv
