/- Rows of rows: rows whose cells are named by their values; what a call that knows nothing of the cells makes of them, an element more. -/
import Derived.Test.YtdimcmpkhbfcnaaSv
namespace Go.Proofs.Ytdimcmpkhbfcnaa.pv
set_option linter.all false
open Go.RowKit
/-- the inner rows of a row whose cells are these values -/
def bagV (ct : Nat → Nat × Nat) (us : List Value) (xs : List PV) : Cust where
  I := fun ow w v _ => bagI ct (fun _ => true) xs ow w v ∧ v = .func (.func 0) #[] us.toArray
  lt := fun h => (bagC ct (fun _ => true) xs).lt (vs := []) h.1
  kp := fun hk hb h => ⟨(bagC ct (fun _ => true) xs).kp (vs := []) hk hb h.1, h.2⟩
  one := by
    rintro ow w v vs ⟨_, rfl⟩
    rfl
/-- a row of one's own, whose slice is this value -/
def rowV (e s : Nat) (ys : List PV) (u : Value) : Cust where
  I := fun ow w v _ => v = u ∧ ∃ cells, w.ownsRow 0 e s v ys.length cells ∧ RE ow w s ys cells
  lt := by
    rintro ow w v vs ⟨rfl, cells, h1, _⟩ b hb
    exact (owns_bo h1 hb).2
  kp := by
    rintro ow ow' w w' v vs hk hb ⟨rfl, cells, h1, h2⟩
    exact ⟨rfl, cells, ownsRow_kept h1 fun b e => (hb b e).1, RE.mono hk _ _ _ h2⟩
  one := by
    rintro ow w v vs ⟨rfl, cells, h1, _⟩
    exact owns_one h1
/-- a row of one element, which is a row of one's own -/
def oneC (ty : Nat) : Cust where
  I := fun ow w v vs => ∃ u, vs = [u] ∧ w.ownsRow 0 ty 1 v 1 [u]
  lt := by
    rintro ow w v vs ⟨u, rfl, h1⟩ b hb
    exact (owns_bo h1 hb).2
  kp := by
    rintro ow ow' w w' v vs hk hb ⟨u, rfl, h1⟩
    exact ⟨u, rfl, ownsRow_kept h1 fun b e => (hb b e).1⟩
  one := by
    rintro ow w v vs ⟨u, rfl, h1⟩
    exact owns_one h1
section
variable {ow : Nat → Bool} {w : World}
end
section
variable {P : Program} {T : List TI} {n : Nat} {w0 : Cx} {st : PS} {a : Act} {w : World} {ow : Nat → Bool} {hd : Nat → Value}
end
end Go.Proofs.Ytdimcmpkhbfcnaa.pv
