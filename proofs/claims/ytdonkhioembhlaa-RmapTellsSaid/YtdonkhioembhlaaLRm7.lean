/- RmapTells: the sort. -/
import Derived.Test.YtdonkhioembhlaaLRm6
import Derived.Test.YtdonkhioembhlaaSoRm
namespace Go.Proofs.Ytdonkhioembhlaa.pv
set_option linter.all false
open Go.RowKit help
namespace rm
theorem swoP : Go.Sort.SWO (fun a b : Pr => decide (ltP a b)) := by
  refine ⟨fun a => ?_, fun a b c => ?_, fun a b c => ?_⟩ <;> simp only [decide_eq_true_eq, decide_eq_false_iff_not] <;> unfold ltP <;> omega
instance : Inhabited S_rmap_Pair := ⟨⟨0, 0, 0⟩⟩
theorem sorts (n : Nat) (hn : 100000 < n) : Sorts n := by
  intro xs hx
  obtain ⟨r, r1, r2, r3⟩ := so.sorted n (Q := fun _ => True) (cmp := fun y0 y1 => G_rmap_order n y0 y1) (lt := fun a b => decide (ltP a b)) (fun x y _ _ => ⟨_, order_any n (by omega) x y, by rw [Bool.eq_iff_iff]; simp only [decide_eq_true_eq]; exact (ord_lt x y).symm⟩) swoP xs (fun _ _ => trivial) (by omega) (by omega)
  exact ⟨r, r1, r2, r3.imp fun {a b} h => by simpa only [decide_eq_false_iff_not] using h⟩
theorem rmap_any (l : List Pr) (p : Pr) (to : Int) : ∃ n, G_ringlaw2_RmapTells n l p to = some true := ⟨100001, law 100001 (by omega) (sorts 100001 (by omega)) l p to⟩
end rm
end Go.Proofs.Ytdonkhioembhlaa.pv
