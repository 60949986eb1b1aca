/- KernelStarts: what is told of the program is right; the interpreter's word is the machine's. -/
import Derived.Test.YtnkdanobhgofbaaGreatDoorK
import Derived.Test.YtnkdanobhgofbaaGreatDoorWKK
import Derived.Test.YtnkdanobhgofbaaGreatDoorWWa
import Derived.Test.YtnkdanobhgofbaaGreatDoorWH3
namespace Go.Proofs.YtnkdanobhgofbaaGreatDoor.pv
set_option linter.all false
set_option maxRecDepth 100000
open Go.RowKit
theorem alst_mem {α : Type} : ∀ (l : List (Nat × α)) (t : Nat) (c : α), alst l t = some c → (t, c) ∈ l
  | [], t, c, h => by cases h
  | (k, v) :: r, t, c, h => by
    simp only [alst] at h
    cases hb : Nat.beq k t with
    | true =>
      rw [hb, cond_true] at h
      cases h
      rw [Nat.eq_of_beq_eq_true hb]; simp
    | false =>
      rw [hb, cond_false] at h
      exact List.mem_cons_of_mem _ (alst_mem r t c h)
theorem TTok : TOk Tryz.prog TT := by unfold TOk; kernel_rfl
theorem mix : Tryz.prog.follows .mixedOrders = true := by kernel_rfl
theorem cdsOk : (cds.all fun q => !q.2.zok || cdB TT q.1 q.2) = true := by kernel_rfl
theorem mpcsOk : (mpcs.all fun q => mpB Tryz.prog TT q.1 q.2.1 q.2.2) = true := by kernel_rfl
theorem envOk : EnvOk (EE Tryz.prog) where
  hT := TTok
  hm := mix
  cd t c h hz := by
    have := List.all_eq_true.1 cdsOk (t, c) (alst_mem cds t c h)
    simp only [hz, Bool.not_true, Bool.false_or] at this
    exact this
  mp t a b h := List.all_eq_true.1 mpcsOk (t, a, b) (alst_mem mpcs t (a, b) h)
theorem primOk : PrimOk (EE Tryz.prog) prims := by
  intro g p hg vs hs x hx hl rt new y hy
  unfold prims at hg
  split at hg
  · cases hg
    dsimp only at hx
    split at hx
    · rename_i xs
      cases hb : Nat.ble (List.length (α := Int) xs) 100000 with
      | false => rw [hb] at hx; cases hx
      | true =>
        rw [hb] at hx
        cases hx
        cases hy
        exact cloneB_ret xs (Nat.le_of_ble_eq_true hb)
    · cases hx
  · cases hg
    dsimp only at hx
    split at hx
    · rename_i xs
      cases hb : Nat.ble (List.length (α := Int) xs) 100000 with
      | false => rw [hb] at hx; cases hx
      | true =>
        rw [hb] at hx
        cases hx
        cases hy
        exact cloneI_ret xs (Nat.le_of_ble_eq_true hb)
    · cases hx
  all_goals first | (cases hg; cases hx) | cases hg
theorem callOk (N d : Nat) : CallOk (EE Tryz.prog) (R4 (EE Tryz.prog) prims sums N d) := R4_ok envOk primOk (fun _ _ => rfl) N d
end Go.Proofs.YtnkdanobhgofbaaGreatDoor.pv
namespace Go.Proofs.YtnkdanobhgofbaaGreatDoor.pv
set_option linter.all false
set_option maxRecDepth 100000
open Go.RowKit Go.Proofs.YtnkdanobhgofbaaGreatDoor.rep
abbrev sKs : List OK := [(.am 2 cI c_space_entry)]
theorem KernelStarts_walk (H : ∀ (c f s n p : Int), ∃ N d g, G_ringlaw5_KernelStarts Tryz.prog N d c f s n p [] = some (true, g, ()))
    (w : World) (v0 v1 v2 v3 v4 : Value) (h0 : Arg w (.int .i64) v0) (h1 : Arg w (.int .i64) v1) (h2 : Arg w (.int .i64) v2) (h3 : Arg w (.int .i64) v3) (h4 : Arg w (.int .i64) v4) : Calls Tryz.prog 3 #[v0, v1, v2, v3, v4] w (help.Ret (.bool true) w) := by
  obtain ⟨a0, o0, r0⟩ := arg_typed (t := cI) rfl rfl rfl h0
  obtain ⟨a1, o1, r1⟩ := arg_typed (t := cI) rfl rfl rfl h1
  obtain ⟨a2, o2, r2⟩ := arg_typed (t := cI) rfl rfl rfl h2
  obtain ⟨a3, o3, r3⟩ := arg_typed (t := cI) rfl rfl rfl h3
  obtain ⟨a4, o4, r4⟩ := arg_typed (t := cI) rfl rfl rfl h4
  obtain ⟨N, d, g, e⟩ := H a0 a1 a2 a3 a4
  have e : R4 (EE Tryz.prog) prims sums N d 3 [⟨cI, a0⟩, ⟨cI, a1⟩, ⟨cI, a2⟩, ⟨cI, a3⟩, ⟨cI, a4⟩] (sKs.map emp) = some (true, g, ()) := e
  exact law_of (callOk N d) (g := 3) (ks := sKs) rfl (by decide) rfl e (new := []) (y := (true, g, ())) (by kernel_rfl) rfl (RT0_cons r0 (RT0_cons r1 (RT0_cons r2 (RT0_cons r3 (RT0_cons r4 RT0_nil)))))
end Go.Proofs.YtnkdanobhgofbaaGreatDoor.pv
namespace Go.Proofs.YtnkdanobhgofbaaGreatDoor.pv
set_option linter.all false
open Go.RowKit
theorem KernelStarts_H (c f s n p : Int) : ∃ N d g, G_ringlaw5_KernelStarts Tryz.prog N d c f s n p [] = some (true, g, ()) := by
  obtain ⟨g, e⟩ := ks.law (P := Tryz.prog) rfl 1000 0 (by omega) c f s n p
  exact ⟨1000, 40, g, e⟩
end Go.Proofs.YtnkdanobhgofbaaGreatDoor.pv
