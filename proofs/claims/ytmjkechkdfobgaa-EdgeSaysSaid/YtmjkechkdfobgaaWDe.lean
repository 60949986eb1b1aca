/- EdgeSays: what is told of the program is right; the interpreter's word is the machine's. -/
import Derived.Test.YtmjkechkdfobgaaX
import Derived.Test.YtmjkechkdfobgaaWCa
namespace Go.Proofs.Ytmjkechkdfobgaa.pv
set_option linter.all false
set_option maxRecDepth 100000
open Go.RowKit
theorem alst_mem {α : Type} : ∀ (l : List (Nat × α)) (t : Nat) (c : α), alst l t = some c → (t, c) ∈ l
  | [], t, c, h => by cases h
  | (k, v) :: r, t, c, h => by
    simp only [alst] at h
    cases hb : Nat.beq k t with
    | true =>
      rw [hb, cond_true] at h
      cases h
      rw [Nat.eq_of_beq_eq_true hb]; simp
    | false =>
      rw [hb, cond_false] at h
      exact List.mem_cons_of_mem _ (alst_mem r t c h)
theorem TTok : TOk Try.prog TT := by unfold TOk; kernel_rfl
theorem mix : Try.prog.follows .mixedOrders = true := by kernel_rfl
theorem cdsOk : (cds.all fun q => !q.2.zok || cdB TT q.1 q.2) = true := by kernel_rfl
theorem mpcsOk : (mpcs.all fun q => mpB Try.prog TT q.1 q.2.1 q.2.2) = true := by kernel_rfl
theorem envOk : EnvOk (EE Try.prog) where
  hT := TTok
  hm := mix
  cd t c h hz := by
    have := List.all_eq_true.1 cdsOk (t, c) (alst_mem cds t c h)
    simp only [hz, Bool.not_true, Bool.false_or] at this
    exact this
  mp t a b h := List.all_eq_true.1 mpcsOk (t, a, b) (alst_mem mpcs t (a, b) h)
theorem callOk (N d : Nat) : CallOk (EE Try.prog) (R4 (EE Try.prog) prims sums N d) := R4_ok envOk (fun g p h => nomatch (show (none : Option _) = some p from h)) (fun _ _ => rfl) N d
end Go.Proofs.Ytmjkechkdfobgaa.pv
