/- SpaceTells: what is told of the program is right; the interpreter's word is the machine's. -/
import Derived.Test.YtmjkechkdfobgaaW
import Derived.Test.YtmjkechkdfobgaaWSp
import Derived.Test.YtmjkechkdfobgaaWWa
namespace Go.Proofs.Ytmjkechkdfobgaa.pv
set_option linter.all false
set_option maxRecDepth 100000
open Go.RowKit
theorem alst_mem {α : Type} : ∀ (l : List (Nat × α)) (t : Nat) (c : α), alst l t = some c → (t, c) ∈ l
  | [], t, c, h => by cases h
  | (k, v) :: r, t, c, h => by
    simp only [alst] at h
    cases hb : Nat.beq k t with
    | true =>
      rw [hb, cond_true] at h
      cases h
      rw [Nat.eq_of_beq_eq_true hb]; simp
    | false =>
      rw [hb, cond_false] at h
      exact List.mem_cons_of_mem _ (alst_mem r t c h)
theorem TTok : TOk Try.prog TT := by unfold TOk; kernel_rfl
theorem mix : Try.prog.follows .mixedOrders = true := by kernel_rfl
theorem cdsOk : (cds.all fun q => !q.2.zok || cdB TT q.1 q.2) = true := by kernel_rfl
theorem mpcsOk : (mpcs.all fun q => mpB Try.prog TT q.1 q.2.1 q.2.2) = true := by kernel_rfl
theorem envOk : EnvOk (EE Try.prog) where
  hT := TTok
  hm := mix
  cd t c h hz := by
    have := List.all_eq_true.1 cdsOk (t, c) (alst_mem cds t c h)
    simp only [hz, Bool.not_true, Bool.false_or] at this
    exact this
  mp t a b h := List.all_eq_true.1 mpcsOk (t, a, b) (alst_mem mpcs t (a, b) h)
theorem primOk : PrimOk (EE Try.prog) prims := by
  intro g p hg vs hs x hx hl rt new y hy
  unfold prims at hg
  split at hg
  · cases hg
    dsimp only at hx
    split at hx
    · rename_i u xs
      cases hb : Nat.blt (List.length (α := Int) xs) 1000000 with
      | false => rw [hb] at hx; cases hx
      | true =>
        rw [hb] at hx
        cases hx
        cases hy
        exact sort_ret xs (Nat.le_of_ble_eq_true hb)
    · cases hx
  · cases hg
theorem callOk (N d : Nat) : CallOk (EE Try.prog) (R4 (EE Try.prog) prims sums N d) := R4_ok envOk primOk (fun _ _ => rfl) N d
end Go.Proofs.Ytmjkechkdfobgaa.pv
namespace Go.Proofs.Ytmjkechkdfobgaa.pv
set_option linter.all false
set_option maxRecDepth 100000
open Go.RowKit Go.Proofs.Ytmjkechkdfobgaa.rep
abbrev sShA : Sh := (.pair (.int .i64) (.pair (.int .i64) (.pair (.int .i64) (.pair (.int .i64) (.pair (.int .i64) (.pair (.int .i64) (.pair (.slice 1 (.int .u8)) .unit)))))))
abbrev sKs : List OK := [(.ab 1 c_space_page), (.am 2 cI c_space_entry)]
theorem SpaceTells_walk (H : ∀ (f s : Int) (l : List S_ringlaw2_Ask), okT (.int .i64) cI f → okT (.int .i64) cI s → okT (.slice 72 sShA) (.sl c_ringlaw2_Ask) l → ∃ N d s1 s2, G_ringlaw2_SpaceTells Try.prog N d f s l [] [] = some (true, s1, s2, ()))
    (w : World) (v0 v1 v2 : Value) (h0 : Arg w (.int .i64) v0) (h1 : Arg w (.int .i64) v1) (h2 : Arg w (.slice 72 sShA) v2) : Calls Try.prog 4 #[v0, v1, v2] w (help.Ret (.bool true) w) := by
  obtain ⟨a0, o0, r0⟩ := arg_typed (t := cI) rfl rfl rfl h0
  obtain ⟨a1, o1, r1⟩ := arg_typed (t := cI) rfl rfl rfl h1
  obtain ⟨a2, o2, r2⟩ := arg_typed (t := .sl c_ringlaw2_Ask) rfl rfl rfl h2
  obtain ⟨N, d, s1, s2, e⟩ := H a0 a1 a2 o0 o1 o2
  have e : R4 (EE Try.prog) prims sums N d 4 [⟨cI, a0⟩, ⟨cI, a1⟩, ⟨.sl c_ringlaw2_Ask, a2⟩] (sKs.map emp) = some (true, s1, s2, ()) := e
  exact law_of (callOk N d) (g := 4) (ks := sKs) rfl (by decide) rfl e (new := []) (y := (true, s1, s2, ())) (by kernel_rfl) rfl (RT0_cons r0 (RT0_cons r1 (RT0_cons r2 RT0_nil)))
end Go.Proofs.Ytmjkechkdfobgaa.pv
