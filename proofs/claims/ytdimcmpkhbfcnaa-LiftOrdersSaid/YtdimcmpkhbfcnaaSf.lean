/- Calls that look at a part of an array variable. -/
import Derived.Test.YtdimcmpkhbfcnaaSe
namespace Go.Proofs.Ytdimcmpkhbfcnaa.pv
set_option linter.all false
open Go.RowKit

section
variable {P : Program} {T : List TI}
theorem allD_map : ∀ (xs : List PV), allD (xs.map FV.d) = some xs
  | [] => rfl
  | x :: xs => by simp [allD, allD_map xs]
theorem chunks_one : ∀ (k : Nat) (xs : List PV), k ≤ xs.length → chunks false 1 k xs = some (xs.take k)
  | 0, _, _ => by simp [chunks]
  | k + 1, [], h => by simp at h
  | k + 1, x :: xs, h => by
    have := chunks_one k xs (by simpa using h)
    simp [chunks, this]
theorem fzD {m : List PO} (x : PV) : frz m (.d x) = some x := rfl
theorem fz_nil {m : List PO} : frzL m [] = some [] := rfl
theorem fz_cons {m : List PO} {x : FV} {xs : List FV} {y : PV} {ys : List PV} (h1 : frz m x = some y) (h2 : frzL m xs = some ys) : frzL m (x :: xs) = some (y :: ys) := by simp [frzL, h1, h2]
theorem flatMap_one {α β : Type} (g : α → β) : ∀ (l : List α), (l.flatMap fun a => [g a]) = l.map g
  | [] => rfl
  | x :: l => by simp [flatMap_one g l]
/-- a part of an array variable, as data -/
theorem fzA {n l c : Nat} {α : Type} {A : Fin n → α} {f : α → PV} {cells : List FV} {a b : Int} (hc : cells = ((List.ofFn A).map f).map FV.d) (h : 0 ≤ a ∧ a ≤ b ∧ b ≤ (n : Int)) {m0 : List (Nat × PO)} (hm0 : (l, .box cells) ∈ m0) (m : List PO) (hm : ∀ q ∈ m0, m[q.1]? = some q.2) :
    frz m (.asl l (0 + a.toNat * 1) (b.toNat - a.toNat) c 1 false) = some (.sl ((((List.ofFn A).drop a.toNat).take (b.toNat - a.toNat)).map f)) := by
  have hml := hm _ hm0
  simp only at hml
  simp only [frz, hml]
  rw [hc, allD_map]
  simp only
  rw [show 0 + a.toNat * 1 = a.toNat by omega, chunks_one _ _ (by simp; omega)]
  simp [List.map_drop, List.map_take]
/-- a call that looks at private objects and keeps nothing of them -/
theorem xcallF {f : Operand} {args : Array Operand} {tys : Array Nat} {fv : FV} {vs : List FV} {m0 : List (Nat × PO)} {g : FuncId} {caps ps : List PV} {r : PV} (hf : ∀ m : List PO, (∀ q ∈ m0, m[q.1]? = some q.2) → frz m fv = some (.clo g caps)) (hv : ∀ m : List PO, (∀ q ∈ m0, m[q.1]? = some q.2) → frzL m vs = some ps)
    (hr : Ret P g (nslL ps ++ caps) r) (hfl : flat r = true) : Ext P T (.call ⟨.value f, args, tys⟩) (fv :: vs) m0 (.d r) [] :=
  ext_of0 fun ρ m hρ hm => by
    have hρ' : ρ f :: args.toList.map ρ = fv :: vs := by
      rw [← hρ]; simp [Op.operands, Call.operands]
    obtain ⟨e1, e2⟩ := List.cons.inj hρ'
    exact ⟨0, _, .callF f args tys g caps ps r (by rw [e1]; exact hf m hm) (by rw [e2]; exact hv m hm) hr hfl⟩
end
end Go.Proofs.Ytdimcmpkhbfcnaa.pv
