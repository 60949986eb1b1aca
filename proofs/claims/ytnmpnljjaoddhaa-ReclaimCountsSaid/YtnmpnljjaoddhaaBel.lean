/- The least number of faults: whoever is asked for last goes. Plain lists, no program. -/
import Derived.Test.YtnmpnljjaoddhaaMath
namespace Go.Proofs.Ytnmpnljjaoddhaa.bel
set_option linter.all false

/-- a way through l from what is there, with that many faults; r: the room -/
inductive Way (r : Nat) : List Int → List Int → Nat → Prop where
  | nil (S : List Int) : Way r [] S 0
  | hit {x : Int} {t S : List Int} {k : Nat} : x ∈ S → Way r t S k → Way r (x :: t) S k
  | fill {x : Int} {t S : List Int} {k : Nat} : x ∉ S → S.length < r → Way r t (x :: S) k → Way r (x :: t) S (k + 1)
  | out {x a : Int} {t S : List Int} {k : Nat} : x ∉ S → r ≤ S.length → a ∈ S → Way r t (x :: S.erase a) k → Way r (x :: t) S (k + 1)
theorem Way.perm {r : Nat} {l S : List Int} {k : Nat} (h : Way r l S k) : ∀ {S' : List Int}, S.Perm S' → Way r l S' k := by
  induction h with
  | nil S => intro S' _; exact .nil _
  | hit hx _ ih => intro S' p; exact .hit (p.mem_iff.1 hx) (ih p)
  | fill hx hl _ ih => intro S' p; exact .fill (fun h => hx (p.mem_iff.2 h)) (by rw [← p.length_eq]; exact hl) (ih (p.cons _))
  | out hx hl ha _ ih => intro S' p; exact .out (fun h => hx (p.mem_iff.2 h)) (by rw [← p.length_eq]; exact hl) (p.mem_iff.1 ha) (ih ((p.erase _).cons _))
/-- p is asked for no later than q -/
def le (p q : Int) : List Int → Prop
  | [] => True
  | x :: t => if x = p then True else if x = q then False else le p q t
theorem erase_self_cons (p : Int) (A : List Int) : (p :: A).erase p = A := by simp
theorem erase_other {p a : Int} {A : List Int} (h : p ≠ a) : (p :: A).erase a = p :: A.erase a := by
  rw [List.erase_cons, if_neg (by simpa using h)]
theorem perm_erase {a : Int} {A : List Int} (h : a ∈ A) : A.Perm (a :: A.erase a) := List.perm_cons_erase h
theorem not_mem_erase {a : Int} {A : List Int} (h : A.Nodup) : a ∉ A.erase a := fun h' => by
  have := (h.mem_erase_iff).1 h'
  exact this.1 rfl
section
variable {r : Nat}
/-- two that differ in one thing alone are one fault apart at most -/
theorem near : ∀ (l A : List Int) (p q : Int) (k : Nat), A.Nodup → p ∉ A → q ∉ A → p ≠ q → A.length + 1 = r → Way r l (q :: A) k → ∃ k', k' ≤ k + 1 ∧ Way r l (p :: A) k'
  | [], A, p, q, k, _, _, _, _, _, _ => ⟨0, by omega, .nil _⟩
  | x :: t, A, p, q, k, hA, hp, hq, hpq, hr, h => by
    cases h with
    | hit hx h =>
      rcases List.mem_cons.1 hx with rfl | hx
      · refine ⟨k + 1, by omega, .out (a := p) ?_ (by simp; omega) (by simp) ?_⟩
        · simp [hq]; exact fun e => hpq e.symm
        · rw [erase_self_cons]; exact h
      · obtain ⟨k', h1, h2⟩ := near t A p q k hA hp hq hpq hr h
        exact ⟨k', h1, .hit (by simp [hx]) h2⟩
    | fill hx hl h => simp at hl; omega
    | @out _ a _ _ j hx hl ha h =>
      have hxq : x ≠ q := fun e => hx (by simp [e])
      have hxA : x ∉ A := fun e => hx (by simp [e])
      rcases List.mem_cons.1 ha with rfl | haA
      · rw [erase_self_cons] at h
        by_cases hxp : x = p
        · subst hxp; exact ⟨j, by omega, .hit (by simp) h⟩
        · exact ⟨j + 1, by omega, .out (a := p) (by simp [hxp, hxA]) (by simp; omega) (by simp) (by rw [erase_self_cons]; exact h)⟩
      · have haq : q ≠ a := fun e => hq (by rw [e]; exact haA)
        have hap : p ≠ a := fun e => hp (by rw [e]; exact haA)
        rw [erase_other haq] at h
        have hAe : (A.erase a).Nodup := hA.erase a
        have hle : (A.erase a).length + 1 = A.length := by
          have := List.length_erase_of_mem haA
          have := List.length_pos_of_mem haA
          omega
        have hpe : p ∉ A.erase a := fun e => hp (List.mem_of_mem_erase e)
        have hqe : q ∉ A.erase a := fun e => hq (List.mem_of_mem_erase e)
        have hxe : x ∉ A.erase a := fun e => hxA (List.mem_of_mem_erase e)
        have hae : a ∉ A.erase a := not_mem_erase hA
        have h' : Way r t (q :: x :: A.erase a) j := h.perm (List.Perm.swap _ _ _)
        by_cases hxp : x = p
        · subst hxp
          obtain ⟨k', h1, h2⟩ := near t (x :: A.erase a) a q j (List.nodup_cons.2 ⟨hxe, hAe⟩) (by simp [hae]; exact fun e => hap e.symm) (by simp [hqe]; exact fun e => hpq e.symm) (fun e => haq e.symm) (by simp; omega) h'
          exact ⟨k', by omega, .hit (by simp) (h2.perm ((List.Perm.swap _ _ _).trans ((perm_erase haA).symm.cons _)))⟩
        · obtain ⟨k', h1, h2⟩ := near t (x :: A.erase a) p q j (List.nodup_cons.2 ⟨hxe, hAe⟩) (by simp [hpe]; exact fun e => hxp e.symm) (by simp [hqe]; exact fun e => hxq e.symm) hpq (by simp; omega) h'
          refine ⟨k' + 1, by omega, .out (a := a) (by simp [hxp, hxA]) (by simp; omega) (by simp [haA]) ?_⟩
          rw [erase_other hap]
          exact h2.perm (List.Perm.swap _ _ _)
/-- who has the one that is asked for earlier is no worse off -/
theorem better : ∀ (l A : List Int) (p q : Int) (k : Nat), A.Nodup → p ∉ A → q ∉ A → p ≠ q → A.length + 1 = r → le p q l → Way r l (q :: A) k → ∃ k', k' ≤ k ∧ Way r l (p :: A) k'
  | [], A, p, q, k, _, _, _, _, _, _, _ => ⟨0, by omega, .nil _⟩
  | x :: t, A, p, q, k, hA, hp, hq, hpq, hr, hle, h => by
    cases h with
    | hit hx h =>
      rcases List.mem_cons.1 hx with rfl | hx
      · simp only [le] at hle
        rw [if_neg (fun e => hpq e.symm), if_pos trivial] at hle
        exact hle.elim
      · have hxp : x ≠ p := fun e => hp (by rw [← e]; exact hx)
        have hxq : x ≠ q := fun e => hq (by rw [← e]; exact hx)
        simp only [le] at hle
        rw [if_neg hxp, if_neg hxq] at hle
        obtain ⟨k', h1, h2⟩ := better t A p q k hA hp hq hpq hr hle h
        exact ⟨k', h1, .hit (by simp [hx]) h2⟩
    | fill hx hl h => simp at hl; omega
    | @out _ a _ _ j hx hl ha h =>
      have hxq : x ≠ q := fun e => hx (by simp [e])
      have hxA : x ∉ A := fun e => hx (by simp [e])
      rcases List.mem_cons.1 ha with rfl | haA
      · rw [erase_self_cons] at h
        by_cases hxp : x = p
        · subst hxp; exact ⟨j, by omega, .hit (by simp) h⟩
        · exact ⟨j + 1, by omega, .out (a := p) (by simp [hxp, hxA]) (by simp; omega) (by simp) (by rw [erase_self_cons]; exact h)⟩
      · have haq : q ≠ a := fun e => hq (by rw [e]; exact haA)
        have hap : p ≠ a := fun e => hp (by rw [e]; exact haA)
        rw [erase_other haq] at h
        have hAe : (A.erase a).Nodup := hA.erase a
        have hlen : (A.erase a).length + 1 = A.length := by
          have := List.length_erase_of_mem haA
          have := List.length_pos_of_mem haA
          omega
        have hpe : p ∉ A.erase a := fun e => hp (List.mem_of_mem_erase e)
        have hqe : q ∉ A.erase a := fun e => hq (List.mem_of_mem_erase e)
        have hxe : x ∉ A.erase a := fun e => hxA (List.mem_of_mem_erase e)
        have hae : a ∉ A.erase a := not_mem_erase hA
        have h' : Way r t (q :: x :: A.erase a) j := h.perm (List.Perm.swap _ _ _)
        by_cases hxp : x = p
        · subst hxp
          obtain ⟨k', h1, h2⟩ := near t (x :: A.erase a) a q j (List.nodup_cons.2 ⟨hxe, hAe⟩) (by simp [hae]; exact fun e => hap e.symm) (by simp [hqe]; exact fun e => hpq e.symm) (fun e => haq e.symm) (by simp; omega) h'
          exact ⟨k', by omega, .hit (by simp) (h2.perm ((List.Perm.swap _ _ _).trans ((perm_erase haA).symm.cons _)))⟩
        · simp only [le] at hle
          rw [if_neg hxp, if_neg hxq] at hle
          obtain ⟨k', h1, h2⟩ := better t (x :: A.erase a) p q j (List.nodup_cons.2 ⟨hxe, hAe⟩) (by simp [hpe]; exact fun e => hxp e.symm) (by simp [hqe]; exact fun e => hxq e.symm) hpq (by simp; omega) hle h'
          refine ⟨k' + 1, by omega, .out (a := a) (by simp [hxp, hxA]) (by simp; omega) (by simp [haA]) ?_⟩
          rw [erase_other hap]
          exact h2.perm (List.Perm.swap _ _ _)
end
/-- how far ahd p is asked for -/
def ahd (p : Int) : List Int → Nat
  | [] => 0
  | x :: t => if x = p then 0 else ahd p t + 1
theorem le_of_ahead {p q : Int} (hpq : p ≠ q) : ∀ (l : List Int), ahd p l ≤ ahd q l → le p q l
  | [], _ => trivial
  | x :: t, h => by
    simp only [le]
    simp only [ahd] at h
    by_cases h1 : x = p
    · rw [if_pos h1]; trivial
    · rw [if_neg h1] at h ⊢
      by_cases h2 : x = q
      · rw [if_pos h2] at h; omega
      · rw [if_neg h2] at h ⊢
        exact le_of_ahead hpq t (by omega)
/-- the least number of faults -/
def Least (r : Nat) (l S : List Int) (k : Nat) : Prop := Way r l S k ∧ ∀ j, Way r l S j → k ≤ j
theorem Least.uniq {r : Nat} {l S : List Int} {a b : Nat} (h : Least r l S a) (h' : Least r l S b) : a = b := Nat.le_antisymm (h.2 b h'.1) (h'.2 a h.1)
theorem least_nil {r : Nat} {S : List Int} : Least r [] S 0 := ⟨.nil _, fun j _ => by omega⟩
theorem least_hit {r : Nat} {x : Int} {t S : List Int} {k : Nat} (hx : x ∈ S) (h : Least r t S k) : Least r (x :: t) S k :=
  ⟨.hit hx h.1, fun j w => by
    cases w with
    | hit _ w => exact h.2 _ w
    | fill h' _ _ => exact absurd hx h'
    | out h' _ _ _ => exact absurd hx h'⟩
theorem least_fill {r : Nat} {x : Int} {t S : List Int} {k : Nat} (hx : x ∉ S) (hl : S.length < r) (h : Least r t (x :: S) k) : Least r (x :: t) S (k + 1) :=
  ⟨.fill hx hl h.1, fun j w => by
    cases w with
    | hit h' w => exact absurd h' hx
    | fill _ _ w => have := h.2 _ w; omega
    | out _ h' _ _ => omega⟩
/-- whoever is asked for last goes -/
theorem least_out {r : Nat} {x v : Int} {t S : List Int} {k : Nat} (hS : S.Nodup) (hx : x ∉ S) (hl : S.length = r) (hv : v ∈ S) (hf : ∀ a ∈ S, ahd a t ≤ ahd v t) (h : Least r t (x :: S.erase v) k) : Least r (x :: t) S (k + 1) := by
  refine ⟨.out hx (by omega) hv h.1, fun j w => ?_⟩
  cases w with
  | hit h' w => exact absurd h' hx
  | fill _ h' w => omega
  | @out _ a _ _ j _ _ ha w =>
    by_cases hav : a = v
    · subst hav; have := h.2 _ w; omega
    · -- the others
      have hva : v ∈ S.erase a := (hS.mem_erase_iff).2 ⟨fun e => hav e.symm, hv⟩
      have haa : a ∈ S.erase v := (hS.mem_erase_iff).2 ⟨hav, ha⟩
      have e1 : (S.erase a).Perm (v :: (S.erase a).erase v) := perm_erase hva
      have e2 : (S.erase v).Perm (a :: (S.erase v).erase a) := perm_erase haa
      rw [List.erase_comm] at e2
      have hB : ((S.erase a).erase v).Nodup := (hS.erase a).erase v
      have w' : Way r t (v :: x :: (S.erase a).erase v) j := w.perm ((e1.cons _).trans (List.Perm.swap _ _ _))
      have hxB : x ∉ (S.erase a).erase v := fun e => hx (List.mem_of_mem_erase (List.mem_of_mem_erase e))
      have l1 := List.length_erase_of_mem ha
      have l2 := List.length_erase_of_mem hva
      have l3 := List.length_pos_of_mem ha
      have l4 := List.length_pos_of_mem hva
      obtain ⟨k', h1, h2⟩ := better (r := r) t (x :: (S.erase a).erase v) a v j (List.nodup_cons.2 ⟨hxB, hB⟩)
        (by
          rw [List.mem_cons, not_or]
          exact ⟨fun e => hx (by rw [← e]; exact ha), fun e => not_mem_erase hS (List.mem_of_mem_erase e)⟩)
        (by
          rw [List.mem_cons, not_or]
          exact ⟨fun e => hx (by rw [← e]; exact hv), not_mem_erase (hS.erase a)⟩) hav (by simp; omega) (le_of_ahead hav t (hf a ha)) w'
      have h3 := h.2 _ (h2.perm ((List.Perm.swap _ _ _).trans (e2.symm.cons _)))
      omega
/-- the least over whoever may go -/
theorem least_all {r : Nat} {x : Int} {t S : List Int} {k : Nat} (hx : x ∉ S) (hl : S.length = r) (h1 : ∃ a ∈ S, Way r t (x :: S.erase a) k) (h2 : ∀ a ∈ S, ∀ j, Way r t (x :: S.erase a) j → k ≤ j) : Least r (x :: t) S (k + 1) := by
  obtain ⟨a, ha, hw⟩ := h1
  refine ⟨.out hx (by omega) ha hw, fun j w => ?_⟩
  cases w with
  | hit h' w => exact absurd h' hx
  | fill _ h' w => omega
  | out _ _ ha w => have := h2 _ ha _ w; omega
end Go.Proofs.Ytnmpnljjaoddhaa.bel
