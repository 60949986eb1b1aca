/- SpaceTells returns true: what its last text asks for. -/
import Derived.Test.YtmjkechkdfobgaaWEF
import Derived.Test.YtmjkechkdfobgaaWG2
namespace Go.Proofs.Ytmjkechkdfobgaa.pv
set_option linter.all false
open Go.RowKit Go.Proofs.Ytmjkechkdfobgaa.rep
theorem SpaceTells_H (f s : Int) (l : List S_ringlaw2_Ask) (_ : okT (.int .i64) cI f) (_ : okT (.int .i64) cI s) (hl : okT (.slice 72 sShA) (.sl c_ringlaw2_Ask) l) : ∃ N d s1 s2, G_ringlaw2_SpaceTells Try.prog N d f s l [] [] = some (true, s1, s2, ()) := by
  have h : ∀ q ∈ l, -9223372036854775808 ≤ q.2.2.2.2.2.1 ∧ q.2.2.2.2.2.1 ≤ 9223372036854775807 := fun q hq => by
    have h1 := hl.2 q hq
    have h2 : (Lit.int .i64 q.2.2.2.2.2.1).wf = true := h1.2.2.2.2.2.1
    simpa [Lit.wf, IntKind.min, IntKind.max, IntKind.bits, IntKind.signed] using h2
  obtain ⟨s1, s2, e⟩ := sp.law (P := Try.prog) rfl (N := 1001) (d := 1) (by omega) f s l h
  exact ⟨1001, 10, s1, s2, e⟩
end Go.Proofs.Ytmjkechkdfobgaa.pv
