/- An append to the rest of a row of one's own: what comes of it, as data. -/
import Derived.Test.YtdimcmpkhbfcnaaSr
namespace Go.Proofs.Ytdimcmpkhbfcnaa.pv
set_option linter.all false
open Go.RowKit
section
variable {P : Program} {T : List TI} {n : Nat} {w0 : Cx} {st : PS} {a : Act} {w : World} {ow : Nat → Bool} {hd : Nat → Value}
theorem RE_drop {s : Nat} : ∀ (i : Nat) {xs : List PV} {cs : List Value}, RE ow w s xs cs → RE ow w s (xs.drop i) (cs.drop (i * s))
  | 0, xs, cs, h => by simpa using h
  | i + 1, [], cs, h => by simp only [RE] at h; subst h; simp [RE]
  | i + 1, x :: xs, cs, h => by
    simp only [RE] at h
    obtain ⟨u, r, rfl, h0, h1, h2, h3⟩ := h
    have e : (u.cells.toList ++ r).drop ((i + 1) * s) = r.drop (i * s) := by
      have hl : u.cells.toList.length = s := by simpa using h0
      rw [Nat.succ_mul, Nat.add_comm, ← List.drop_drop, ← hl, List.drop_left]
    rw [List.drop_succ_cons, e]
    exact RE_drop i h3
/-- a row is taken out ahead of the operations that read it -/
def nTakeS (l B ty sz k j e s : Nat) (ct : Nat → Nat × Nat) (q : Nat → Bool) (hs : List (Option Nat)) (xs ys : List PV) (fs : List FV) (st : PS) : PS :=
  ⟨st.f, updM (st.m ++ [.free, .free]) [(B, .none), (st.m.length, .row e s ys), (st.m.length + 1, .cu (bagC ct (minus q k) xs) []), (l, .cu (outC ty sz (minus q k) (hs.set j (some k)) xs) ((fs.set 0 (.srf (st.m.length + 1))).set (j + 1) (.srf st.m.length)))]⟩
end
end Go.Proofs.Ytdimcmpkhbfcnaa.pv
