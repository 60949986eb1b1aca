/- EdgeSays: the walk, from the plain law. -/
import Derived.Test.YtmjkechkdfobgaaWDe
import Derived.Test.YtmjkechkdfobgaaWWa
namespace Go.Proofs.Ytmjkechkdfobgaa.pv
set_option linter.all false
set_option maxRecDepth 100000
open Go.RowKit Go.Proofs.Ytmjkechkdfobgaa.rep
abbrev eShR : Sh := (.pair (.arr 8 (.int .u32)) (.pair (.int .u32) (.pair (.int .i64) .unit)))
abbrev eShA : Sh := (.pair (.int .i64) (.pair (.int .i64) (.pair (.int .i64) (.pair (.slice 1 (.int .u8)) (.pair (.slice 24 (.pair .str (.pair (.int .i64) .unit))) (.pair (.pair (.int .i64) (.pair (.int .i64) (.pair (.int .i64) (.pair (.int .i64) (.pair (.int .i64) (.pair (.int .i64) .unit)))))) .unit))))))
abbrev eKs : List OK := [(.ab 1 c_space_page), (.am 2 cI c_space_entry)]
theorem EdgeSays_walk (H : ∀ (b : List Int) (pg : Int) (r : S_api_Regs) (a : S_api_Answer), okT (.slice 1 (.int .u8)) (.sl (.i .u8)) b → okT (.int .i64) cI pg → okT eShR c_api_Regs r → okT eShA c_api_Answer a → ∃ N d s s', G_ringlaw5_EdgeSays Try.prog N d b pg r a [] [] = some (true, s, s', ()))
    (w : World) (v0 v1 v2 v3 : Value) (h0 : Arg w (.slice 1 (.int .u8)) v0) (h1 : Arg w (.int .i64) v1) (h2 : Arg w eShR v2) (h3 : Arg w eShA v3) : Calls Try.prog 3 #[v0, v1, v2, v3] w (help.Ret (.bool true) w) := by
  obtain ⟨a0, o0, r0⟩ := arg_typed (t := .sl (.i .u8)) rfl rfl rfl h0
  obtain ⟨a1, o1, r1⟩ := arg_typed (t := cI) rfl rfl rfl h1
  obtain ⟨a2, o2, r2⟩ := arg_typed (t := c_api_Regs) rfl rfl rfl h2
  obtain ⟨a3, o3, r3⟩ := arg_typed (t := c_api_Answer) rfl rfl rfl h3
  obtain ⟨N, d, s, s', e⟩ := H a0 a1 a2 a3 o0 o1 o2 o3
  have e : R4 (EE Try.prog) prims sums N d 3 [⟨.sl (.i .u8), a0⟩, ⟨cI, a1⟩, ⟨c_api_Regs, a2⟩, ⟨c_api_Answer, a3⟩] (eKs.map emp) = some (true, s, s', ()) := e
  exact law_of (callOk N d) (g := 3) (ks := eKs) rfl (by decide) rfl e (new := []) (y := (true, s, s', ())) (by kernel_rfl) rfl (RT0_cons r0 (RT0_cons r1 (RT0_cons r2 (RT0_cons r3 RT0_nil))))
end Go.Proofs.Ytmjkechkdfobgaa.pv
