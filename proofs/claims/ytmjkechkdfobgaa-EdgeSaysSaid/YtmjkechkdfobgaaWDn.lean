/- EdgeSays returns true: what its last text asks for. -/
import Derived.Test.YtmjkechkdfobgaaWDf
import Derived.Test.YtmjkechkdfobgaaWDp
namespace Go.Proofs.Ytmjkechkdfobgaa.pv
set_option linter.all false
open Go.RowKit Go.Proofs.Ytmjkechkdfobgaa.rep
theorem EdgeSays_H (b : List Int) (pg : Int) (r : S_api_Regs) (a : S_api_Answer) (_ : okT (.slice 1 (.int .u8)) (.sl (.i .u8)) b) (_ : okT (.int .i64) cI pg) (hr : okT eShR c_api_Regs r) (_ : okT eShA c_api_Answer a) : ∃ N d s s', G_ringlaw5_EdgeSays Try.prog N d b pg r a [] [] = some (true, s, s', ()) := by
  have h : ∀ j, 0 ≤ gA r.1 j ∧ gA r.1 j ≤ 4294967295 := fun j => by
    have h1 : ∀ y ∈ r.1.1, (Lit.int .u32 y).wf = true := hr.1
    have h2 := h1 (gA r.1 j) (List.getElem_mem _)
    simpa [Lit.wf, IntKind.min, IntKind.max, IntKind.bits, IntKind.signed] using h2
  obtain ⟨s, s', e⟩ := ed.law (P := Try.prog) rfl (N := 1001) (d := 10) (by omega) (by omega) b pg r h a
  exact ⟨1001, 10, s, s', e⟩
end Go.Proofs.Ytmjkechkdfobgaa.pv
