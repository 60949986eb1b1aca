/- OpenPlays: what both tables have in common. -/
import Derived.Test.YtlnlhppaiagafaaLOp
namespace Go.Proofs.Ytlnlhppaiagafaa.pv
set_option linter.all false
open Go.RowKit help
namespace op

abbrev Tb := S_open_Table
abbrev Op := S_ringref5_Open
abbrev Th := S_ringref5_Thing
abbrev Oth := S_open_Thing
abbrev Fl := S_open_file
def fl (t : Tb) (k : Nat) : Fl := if h : k < 32 then t.ffiles ⟨k, h⟩ else ⟨⟨0, 0, 0, false, 0⟩, 0⟩
theorem rdF {t : Tb} {k : Nat} (h : k < 32) : getA t.ffiles (k : Int) = some (fl t k) := by
  unfold getA fl
  rw [dif_pos ⟨by omega, by omega⟩, dif_pos h]
  rfl
theorem fl_set {t : Tb} {k j : Nat} {x : Fl} {F : FD} (hj : j < 32) : fl (S_open_Table.mk (setA t.ffiles (k : Int) x) F) j = if j = k then x else fl t j := by
  unfold fl setA
  rw [dif_pos hj, dif_pos hj]
  simp
theorem fl_mk {t : Tb} {F : FD} {j : Nat} : fl (S_open_Table.mk t.ffiles F) j = fl t j := rfl
def th (x : Th) : Oth := ⟨x.fKind, x.fId, x.fMay, x.fMore, x.fAt⟩
theorem thing_ok (n : Nat) (x : Th) : G_ringlaw5_thing n x = some (th x) := rfl

structure Rel (t : Tb) (o : Op) : Prop where
  z : ∀ i, i < 136 → (gt t.ffds i = 0 ↔ gt o.fFds i = 0)
  tb : ∀ i, i < 136 → 0 ≤ gt t.ffds i ∧ gt t.ffds i ≤ 32
  ob : ∀ i, i < 136 → 0 ≤ gt o.fFds i ∧ gt o.fFds i ≤ o.fThings.length
  eq : ∀ i j, i < 136 → j < 136 → (gt t.ffds i = gt t.ffds j ↔ gt o.fFds i = gt o.fFds j)
  th : ∀ i, i < 136 → gt t.ffds i ≠ 0 → ∃ y, o.fThings[(gt o.fFds i - 1).toNat]? = some y ∧ (fl t (gt t.ffds i - 1).toNat).fThing = op.th y
  n : ∀ k : Nat, k < 32 → (fl t k).fn = num (gt t.ffds) 136 ((k : Int) + 1)

theorem num_le {f : Nat → Int} {m : Nat} {v : Int} : num f m v ≤ m := cnt_le
theorem num_pos {f : Nat → Int} {m i : Nat} {v : Int} (hi : i < m) (h : f i = v) : 0 < num f m v := cnt_pos.2 ⟨i, hi, by simpa using h⟩
theorem num_none {f : Nat → Int} {m i : Nat} {v : Int} (hi : i < m) (h : num f m v = 0) : f i ≠ v := fun e => by have := num_pos hi e; omega
/-- as many uses -/
theorem Rel.uses {t : Tb} {o : Op} (R : Rel t o) {i : Nat} (hi : i < 136) : num (gt o.fFds) 136 (gt o.fFds i) = num (gt t.ffds) 136 (gt t.ffds i) :=
  num_ext fun j hj => (R.eq j i hj hi).symm
/-- as many things -/
theorem Rel.lives {t : Tb} {o : Op} (R : Rel t o) : cnt (fun k => decide (0 < num (gt o.fFds) 136 ((k : Int) + 1))) o.fThings.length = cnt (fun k => (fl t k).fn != 0) 32 := by
  rw [dist_img R.ob, dist_ext (g := gt t.ffds) (fun i hi => (R.z i hi).symm) (fun i j hi hj => (R.eq i j hi hj).symm), ← dist_img (A := 32) R.tb]
  refine cnt_ext fun k hk => ?_
  show decide (0 < num (gt t.ffds) 136 ((k : Int) + 1)) = ((fl t k).fn != 0)
  rw [R.n k hk]
  by_cases h : num (gt t.ffds) 136 ((k : Int) + 1) = 0
  · rw [h]; rfl
  · have h2 : ((num (gt t.ffds) 136 ((k : Int) + 1) : Int) != 0) = true := by simpa using h
    rw [h2]; simp; omega
theorem Rel.clear {t t' : Tb} {o o' : Op} (R : Rel t o) {i : Nat} (hi : i < 136) (h0 : gt t.ffds i ≠ 0)
    (hf : ∀ j, j < 32 → fl t' j = if j = (gt t.ffds i - 1).toNat then ⟨(fl t j).fThing, (fl t j).fn - 1⟩ else fl t j)
    (hg : ∀ j, j < 136 → gt t'.ffds j = upd (gt t.ffds) i 0 j) (ho : ∀ j, j < 136 → gt o'.fFds j = upd (gt o.fFds) i 0 j) (hT : o'.fThings = o.fThings) : Rel t' o' where
  z j hj := by
    rw [hg j hj, ho j hj]; unfold upd
    split
    · simp
    · exact R.z j hj
  tb j hj := by
    rw [hg j hj]; unfold upd
    split
    · omega
    · exact R.tb j hj
  ob j hj := by
    rw [ho j hj, hT]; unfold upd
    split
    · omega
    · exact R.ob j hj
  eq j k hj hk := by
    rw [hg j hj, ho j hj, hg k hk, ho k hk]; unfold upd
    have a := R.z j hj
    have b := R.z k hk
    have c := R.eq j k hj hk
    split <;> split
    · simp
    · constructor
      · intro e; exact (b.1 e.symm).symm
      · intro e; exact (b.2 e.symm).symm
    · exact a
    · exact c
  th j hj hne := by
    rw [hg j hj] at hne ⊢
    rw [ho j hj, hT]
    unfold upd at hne ⊢
    by_cases e : j = i
    · rw [if_pos e] at hne; exact absurd rfl hne
    · rw [if_neg e] at hne ⊢
      rw [if_neg e]
      obtain ⟨y, h1, h2⟩ := R.th j hj hne
      refine ⟨y, h1, ?_⟩
      have := R.tb j hj
      rw [hf _ (by omega)]
      split
      · exact h2
      · exact h2
  n k hk := by
    have a := num_upd hi hg ((k : Int) + 1)
    have b := R.n k hk
    have c := R.tb i hi
    rw [if_neg (show ¬ (0 : Int) = (k : Int) + 1 by omega)] at a
    rw [hf k hk]
    by_cases e : k = (gt t.ffds i - 1).toNat
    · rw [if_pos e]
      rw [if_pos (by omega)] at a
      show (fl t k).fn - 1 = _
      omega
    · rw [if_neg e]
      rw [if_neg (by omega)] at a
      omega
theorem Rel.copy {t t' : Tb} {o o' : Op} (R : Rel t o) {i s : Nat} (hi : i < 136) (hs : s < 136) (h0 : gt t.ffds i = 0) (hne : gt t.ffds s ≠ 0)
    (hf : ∀ j, j < 32 → fl t' j = if j = (gt t.ffds s - 1).toNat then ⟨(fl t j).fThing, (fl t j).fn + 1⟩ else fl t j)
    (hg : ∀ j, j < 136 → gt t'.ffds j = upd (gt t.ffds) i (gt t.ffds s) j) (ho : ∀ j, j < 136 → gt o'.fFds j = upd (gt o.fFds) i (gt o.fFds s) j) (hT : o'.fThings = o.fThings) : Rel t' o' where
  z j hj := by
    rw [hg j hj, ho j hj]; unfold upd
    split
    · exact R.z s hs
    · exact R.z j hj
  tb j hj := by
    rw [hg j hj]; unfold upd
    split
    · exact R.tb s hs
    · exact R.tb j hj
  ob j hj := by
    rw [ho j hj, hT]; unfold upd
    split
    · exact R.ob s hs
    · exact R.ob j hj
  eq j k hj hk := by
    rw [hg j hj, ho j hj, hg k hk, ho k hk]; unfold upd
    split <;> split
    · simp
    · exact R.eq s k hs hk
    · exact R.eq j s hj hs
    · exact R.eq j k hj hk
  th j hj hne' := by
    rw [hg j hj] at hne' ⊢
    rw [ho j hj, hT]
    have key : ∀ q, q < 136 → gt t.ffds q ≠ 0 → ∃ y, o.fThings[(gt o.fFds q - 1).toNat]? = some y ∧ (fl t' (gt t.ffds q - 1).toNat).fThing = op.th y := fun q hq hn => by
      obtain ⟨y, h1, h2⟩ := R.th q hq hn
      refine ⟨y, h1, ?_⟩
      have := R.tb q hq
      rw [hf _ (by omega)]
      split
      · exact h2
      · exact h2
    unfold upd at hne' ⊢
    by_cases e : j = i
    · rw [if_pos e, if_pos e]; exact key s hs hne
    · rw [if_neg e] at hne' ⊢; rw [if_neg e]; exact key j hj hne'
  n k hk := by
    have a := num_upd hi hg ((k : Int) + 1)
    have b := R.n k hk
    have c := R.tb s hs
    rw [if_neg (show ¬ gt t.ffds i = (k : Int) + 1 by omega)] at a
    rw [hf k hk]
    by_cases e : k = (gt t.ffds s - 1).toNat
    · rw [if_pos e]
      rw [if_pos (by omega)] at a
      show (fl t k).fn + 1 = _
      omega
    · rw [if_neg e]
      rw [if_neg (by omega)] at a
      omega
theorem Rel.new {t t' : Tb} {o o' : Op} (R : Rel t o) {i k : Nat} {y : Th} (hi : i < 136) (h0 : gt t.ffds i = 0) (hk : k < 32) (hn : (fl t k).fn = 0)
    (hf : ∀ j, j < 32 → fl t' j = if j = k then ⟨op.th y, 1⟩ else fl t j)
    (hg : ∀ j, j < 136 → gt t'.ffds j = upd (gt t.ffds) i ((k : Int) + 1) j) (ho : ∀ j, j < 136 → gt o'.fFds j = upd (gt o.fFds) i ((o.fThings.length : Int) + 1) j) (hT : o'.fThings = o.fThings ++ [y]) : Rel t' o' := by
  have hno : ∀ j, j < 136 → gt t.ffds j ≠ (k : Int) + 1 := fun j hj => num_none (m := 136) hj (by have := R.n k hk; omega)
  exact {
    z := fun j hj => by
      rw [hg j hj, ho j hj]; unfold upd
      split
      · constructor <;> intro e <;> omega
      · exact R.z j hj
    tb := fun j hj => by
      rw [hg j hj]; unfold upd
      split
      · omega
      · exact R.tb j hj
    ob := fun j hj => by
      rw [ho j hj, hT, List.length_append, List.length_singleton]; unfold upd
      split
      · omega
      · have := R.ob j hj; omega
    eq := fun j q hj hq => by
      rw [hg j hj, ho j hj, hg q hq, ho q hq]; unfold upd
      have a := hno j hj
      have b := hno q hq
      have c := R.ob j hj
      have d := R.ob q hq
      split <;> split
      · simp
      · constructor <;> intro e <;> omega
      · constructor <;> intro e <;> omega
      · exact R.eq j q hj hq
    th := fun j hj hne => by
      rw [hg j hj] at hne ⊢
      rw [ho j hj, hT]
      unfold upd at hne ⊢
      by_cases e : j = i
      · rw [if_pos e, if_pos e]
        refine ⟨y, ?_, ?_⟩
        · rw [show ((o.fThings.length : Int) + 1 - 1).toNat = o.fThings.length by omega]; simp
        · rw [show ((k : Int) + 1 - 1).toNat = k by omega, hf k hk, if_pos rfl]
      · rw [if_neg e] at hne ⊢
        rw [if_neg e]
        obtain ⟨x, h1, h2⟩ := R.th j hj hne
        refine ⟨x, ?_, ?_⟩
        · obtain ⟨h3, h4⟩ := List.getElem?_eq_some_iff.1 h1
          rw [List.getElem?_append_left h3]; exact h1
        · have := R.tb j hj
          have := hno j hj
          rw [hf _ (by omega), if_neg (by omega)]; exact h2
    n := fun q hq => by
      have a := num_upd hi hg ((q : Int) + 1)
      have b := R.n q hq
      rw [if_neg (show ¬ gt t.ffds i = (q : Int) + 1 by omega)] at a
      rw [hf q hq]
      by_cases e : q = k
      · rw [if_pos e]
        rw [if_pos (by omega)] at a
        subst e
        show (1 : Int) = _
        omega
      · rw [if_neg e]
        rw [if_neg (by omega)] at a
        omega }
theorem Rel.seek {t t' : Tb} {o o' : Op} (R : Rel t o) {i : Nat} {y z : Th} (hi : i < 136) (h0 : gt t.ffds i ≠ 0)
    (hf : ∀ j, j < 32 → fl t' j = if j = (gt t.ffds i - 1).toNat then ⟨op.th z, (fl t j).fn⟩ else fl t j)
    (hg : ∀ j, j < 136 → gt t'.ffds j = gt t.ffds j) (ho : ∀ j, j < 136 → gt o'.fFds j = gt o.fFds j) (hT : o'.fThings = o.fThings.set (gt o.fFds i - 1).toNat z) : Rel t' o' where
  z j hj := by rw [hg j hj, ho j hj]; exact R.z j hj
  tb j hj := by rw [hg j hj]; exact R.tb j hj
  ob j hj := by rw [ho j hj, hT, List.length_set]; exact R.ob j hj
  eq j k hj hk := by rw [hg j hj, ho j hj, hg k hk, ho k hk]; exact R.eq j k hj hk
  th j hj hne := by
    rw [hg j hj] at hne ⊢
    rw [ho j hj, hT]
    obtain ⟨x, h1, h2⟩ := R.th j hj hne
    have a := R.tb j hj
    have b := R.tb i hi
    have c := R.ob j hj
    have d := R.ob i hi
    have e := R.eq i j hi hj
    have f := R.z i hi
    have g := R.z j hj
    obtain ⟨h3, h4⟩ := List.getElem?_eq_some_iff.1 h1
    rw [hf _ (by omega), List.getElem?_set]
    by_cases q : gt t.ffds i = gt t.ffds j
    · have q' := e.1 q
      rw [q', q, if_pos rfl, if_pos h3, if_pos rfl]
      exact ⟨z, rfl, rfl⟩
    · have q' : ¬ gt o.fFds i = gt o.fFds j := fun h => q (e.2 h)
      rw [if_neg (by omega), if_neg (by omega)]
      exact ⟨x, h1, h2⟩
  n k hk := by
    have a : num (gt t'.ffds) 136 ((k : Int) + 1) = num (gt t.ffds) 136 ((k : Int) + 1) := num_ext fun j hj => by rw [hg j hj]
    rw [a, ← R.n k hk, hf k hk]
    split <;> rfl
end op
end Go.Proofs.Ytlnlhppaiagafaa.pv
