/- Rows of rows: silent steps and acts. -/
import Derived.Test.YtdimcmpkhbfcnaaSj
namespace Go.Proofs.Ytdimcmpkhbfcnaa.pv
set_option linter.all false
open Go.RowKit
section
variable {P : Program} {T : List TI} {n : Nat} {w0 : Cx} {st : PS} {a : Act} {w : World} {ow : Nat → Bool} {hd : Nat → Value}
/-- blocks that no object has become public -/
theorem SimW.publ (S : SimW n w0 st a w ow hd) (hold : Keep w0 ow) (D : Nat → Bool) (hD : ∀ b, D b = true → w0.New b) (hno : ∀ j oj b, st.m[j]? = some oj → oj.live = true → b ∈ blocksOf (hd j) → D b = false) :
    Kp ow w (fun b => ow b && !D b) w ∧ Keep w0 (fun b => ow b && !D b) ∧ SimW n w0 st a w (fun b => ow b && !D b) hd := by
  have hk : Kp ow w (fun b => ow b && !D b) w := ⟨Nat.le_refl _, fun b _ hb => by show (ow b && !D b) = false; rw [hb]; rfl, fun _ _ _ => rfl⟩
  refine ⟨hk, hold.step fun b hb hn => ?_, ?_⟩
  · show (ow b && !D b) = ow b
    cases hd' : D b with
    | false => simp
    | true =>
      rcases hD b hd' with h | h
      · omega
      · rw [h] at hn; cases hn
  · refine { below := S.below, fresh := fun b hb => ?_, objs := fun j oj hj => ?_, dist := S.dist, defers := S.defers, size := S.size, slots := fun i => RF.mono hk (fun l h => ⟨h, rfl⟩) _ _ (S.slots i) }
    · show (ow b && !D b) = false
      rw [S.fresh b hb]; rfl
    · exact (S.objs j oj hj).kp hk (fun l h => ⟨h, rfl⟩) fun b hb hl => ⟨rfl, by show (ow b && !D b) = ow b; rw [hno j oj b hj hl hb]; simp⟩
/-- an own row as data, once its block is public -/
theorem own_R {e s : Nat} {u : Value} {ys : List PV} {cs : List Value} {ow' : Nat → Bool} (h : w.ownsRow 0 e s u ys.length cs) (hr : RE ow w s ys cs) (hk : Kp ow w ow' w) (hb : ∀ b, b ∈ blocksOf u → ow' b = false) : R ow' w (.sl ys) u := by
  obtain ⟨h1, h1'⟩ := h
  simp only [R]
  rcases h1' with ⟨e2, e3⟩ | ⟨gb, cap, cur, e2, e3, e4, e5, e6, e7, e8⟩
  · rw [e2]; exact ⟨none, 0, by rw [e3], by omega, by simp [maxLen], .inl (List.eq_nil_of_length_eq_zero e3)⟩
  · refine ⟨some ⟨gb, 0, none⟩, cap, e2, e5, e6, .inr ⟨gb, 0, s, cs, rfl, (Array.getElem?_eq_some_iff.1 e4).1, hb gb (by rw [e2]; first | rfl | simp [blocksOf, blockOf]), fun j v hv => ?_, RE.mono hk _ _ _ hr⟩⟩
    rw [← e8, List.getElem?_take] at hv
    split at hv
    · unfold World.cell?
      simp only [e4]
      simpa using hv
    · cases hv
/-- a row of data as a row of rows, none of which is one's own yet -/
def nThaw (l ty sz : Nat) (ct : Nat → Nat × Nat) (q : Nat → Bool) (hs : List (Option Nat)) (xs : List PV) (st : PS) : PS :=
  ⟨st.f, st.m.set l (.cu (outC ty sz q hs xs) (.srf st.m.length :: hs.map fun _ => .d (.v noB))) ++ [.cu (bagC ct q xs) []]⟩
/-- all of it is given up: a row of data -/
def nFrz (l B ty sz : Nat) (xs : List PV) (st : PS) : PS := ⟨st.f, (st.m.set B .none).set l (.row ty sz xs)⟩
end
end Go.Proofs.Ytdimcmpkhbfcnaa.pv
