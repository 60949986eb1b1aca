/- The plain law of ReclaimTells: who goes. -/
import Derived.Test.YtnmpnljjaoddhaaLRt
namespace Go.Proofs.Ytnmpnljjaoddhaa.reclaimT
open Go.RowKit help rep pv
set_option linter.all false

def upd (x : S_reclaim_Item) : S_reclaim_Item := ⟨x.fId, x.fUsed && x.fPinned, x.fPinned⟩
/-- may this one go now? -/
def goes (x : S_reclaim_Item) : Bool := !x.fPinned && !x.fUsed
def stops : Nat → List S_reclaim_Item → Prop
  | 0, _ => False
  | _ + 1, [] => False
  | k + 1, x :: t => goes x = true ∨ (goes x = false ∧ stops k (t ++ [upd x]))
theorem upd_ok (x : S_reclaim_Item) (h : goes x = false) : (upd x).fPinned = false → (upd x).fUsed = false := by
  obtain ⟨a, b, c⟩ := x
  cases b <;> cases c <;> simp [upd, goes] at *
/-- the second time round -/
theorem stops2 : ∀ (A B : List S_reclaim_Item) (k : Nat), A.length < k → (∀ x ∈ A ++ B, x.fPinned = false → x.fUsed = false) → (∃ x ∈ A, x.fPinned = false) → stops k (A ++ B)
  | [], B, k, _, _, h => by obtain ⟨x, hx, _⟩ := h; simp at hx
  | x :: A, B, 0, h, _, _ => by omega
  | x :: A, B, k + 1, hk, hu, he => by
    simp only [List.cons_append, stops]
    have hux := hu x (by simp)
    cases hp : x.fPinned with
    | false => exact .inl (by simp [goes, hp, hux hp])
    | true =>
      have hg : goes x = false := by simp [goes, hp]
      refine .inr ⟨hg, ?_⟩
      rw [List.append_assoc]
      refine stops2 A (B ++ [upd x]) k (by simpa using hk) (fun y hy => ?_) ?_
      · simp only [List.mem_append, List.mem_singleton] at hy
        rcases hy with hy | hy | hy
        · exact hu y (by simp [hy])
        · exact hu y (by simp [hy])
        · subst hy; exact upd_ok x hg
      · obtain ⟨y, hy, hyp⟩ := he
        rcases List.mem_cons.1 hy with rfl | hy
        · rw [hp] at hyp; cases hyp
        · exact ⟨y, hy, hyp⟩
theorem stops1 : ∀ (A B : List S_reclaim_Item) (k : Nat), A.length + (A.length + B.length) < k → (∀ x ∈ B, x.fPinned = false → x.fUsed = false) → (∃ x ∈ A ++ B, x.fPinned = false) → stops k (A ++ B)
  | [], B, k, hk, hu, he => by
    have := stops2 B [] k (by simpa using hk) (by simpa using hu) (by simpa using he)
    simpa using this
  | x :: A, B, 0, h, _, _ => by omega
  | x :: A, B, k + 1, hk, hu, he => by
    simp only [List.cons_append, stops]
    cases hg : goes x with
    | true => exact .inl rfl
    | false =>
      refine .inr ⟨rfl, ?_⟩
      rw [List.append_assoc]
      refine stops1 A (B ++ [upd x]) k (by simp at hk ⊢; omega) (fun y hy => ?_) ?_
      · rcases List.mem_append.1 hy with hy | hy
        · exact hu y hy
        · simp at hy; subst hy; exact upd_ok x hg
      · obtain ⟨y, hy, hyp⟩ := he
        rcases List.mem_cons.1 hy with rfl | hy
        · exact ⟨upd y, by simp, hyp⟩
        · exact ⟨y, by rw [← List.append_assoc]; exact List.mem_append_left _ hy, hyp⟩
/-- those of a kind, gathered -/
theorem g_l1 (n : Nat) (t : List S_reclaim_Item) (m : Int) (c : S_reclaim_Clock) (ix : Int) (x y : S_reclaim_Item) (hl : t.length ≤ 64) : ∀ (k i : Nat) (acc : List S_reclaim_Item), t.length - i < k → i ≤ t.length → acc.length + (t.length - i) ≤ 10000 →
    G_ringref2_ClockNext_L1 n t m c ix x y k (i : Int) acc = some (.x0 (acc ++ (t.drop i).filter (pid y.fId)))
  | 0, i, acc, h, _, _ => by omega
  | k + 1, i, acc, h, hi, ha => by
    rw [G_ringref2_ClockNext_L1]
    by_cases hlt : (i : Int) < (t.length : Int)
    · obtain ⟨z, hz⟩ := get_lt hlt
      rw [if_pos hlt, getI_nat, hz, Option.bind_some, drop_cons hz]
      by_cases h1 : z.fId = y.fId
      · have e1 : app 16 acc [z] = some (acc ++ [z]) := app_some (by simp; omega) (by omega)
        rw [if_pos h1, e1, Option.bind_some, wi_succ (by omega), g_l1 n t m c ix x y hl k (i + 1) _ (by omega) (by omega) (by simp; omega), List.filter_cons, if_pos (by simpa [pid] using h1), List.append_assoc]
        rfl
      · rw [if_neg h1, wi_succ (by omega), g_l1 n t m c ix x y hl k (i + 1) _ (by omega) (by omega) (by omega), List.filter_cons, if_neg (by simpa [pid] using h1)]
    · rw [if_neg hlt, drop_end hlt]; simp
theorem g_l2 (n : Nat) (t : List S_reclaim_Item) (m : Int) (c : S_reclaim_Clock) (x : S_reclaim_Item) (hl : t.length ≤ 64) (hc : c.fItems.length ≤ 64) (hn : 10001 ≤ n) : ∀ (k i : Nat) (acc : List S_reclaim_Item), c.fItems.length - i < k → i ≤ c.fItems.length → acc.length ≤ 64 * i →
    G_ringref2_ClockNext_L2 n t m c x k (i : Int) acc = some (.x0 (acc ++ (c.fItems.drop i).flatMap (fun y => t.filter (pid y.fId))))
  | 0, i, acc, h, _, _ => by omega
  | k + 1, i, acc, h, hi, ha => by
    rw [G_ringref2_ClockNext_L2]
    by_cases hlt : (i : Int) < (c.fItems.length : Int)
    · obtain ⟨y, hy⟩ := get_lt hlt
      have h1 := g_l1 n t m c (i : Int) x y hl n 0 acc (by omega) (by omega) (by omega)
      rw [List.drop_zero] at h1
      have h1 : G_ringref2_ClockNext_L1 n t m c (i : Int) x y n 0 acc = _ := h1
      have hfl : (t.filter (pid y.fId)).length ≤ 64 := Nat.le_trans (List.length_filter_le _ _) hl
      rw [if_pos hlt, getI_nat, hy, Option.bind_some, h1, Option.bind_some]
      dsimp only
      rw [wi_succ (by omega), g_l2 n t m c x hl hc hn k (i + 1) _ (by omega) (by omega) (by simp; omega), drop_cons hy, List.flatMap_cons, List.append_assoc]
    · rw [if_neg hlt, drop_end hlt]; simp
theorem filt_one : ∀ {t : List S_reclaim_Item} {y : S_reclaim_Item}, (ids t).Nodup → y ∈ t → t.filter (pid y.fId) = [y]
  | z :: t, y, hd, hy => by
    unfold ids at hd
    rw [List.map_cons, List.nodup_cons] at hd
    rw [List.filter_cons]
    rcases List.mem_cons.1 hy with rfl | hy
    · rw [if_pos (by simp [pid])]
      congr 1
      rw [List.filter_eq_nil_iff]
      intro w hw
      simp only [pid, beq_iff_eq]
      intro e; exact hd.1 (by rw [← e]; exact List.mem_map_of_mem hw)
    · rw [if_neg (by
        simp only [pid, beq_iff_eq]
        intro e; exact hd.1 (by rw [e]; exact List.mem_map_of_mem hy))]
      exact filt_one hd.2 hy
theorem flat_self {F : Int → List S_reclaim_Item} : ∀ {s : List S_reclaim_Item}, (∀ y ∈ s, F y.fId = [y]) → s.flatMap (fun y => F y.fId) = s
  | [], _ => rfl
  | y :: s, h => by rw [List.flatMap_cons, h y (by simp), flat_self (fun z hz => h z (by simp [hz]))]; rfl
theorem flat_ids {F : Int → List S_reclaim_Item} : ∀ {l w : List S_reclaim_Item}, ids l = ids w → l.flatMap (fun y => F y.fId) = w.flatMap (fun y => F y.fId)
  | [], [], _ => rfl
  | [], _ :: _, h => by simp [ids] at h
  | _ :: _, [], h => by simp [ids] at h
  | x :: l, y :: w, h => by
    simp only [ids, List.map_cons, List.cons.injEq] at h
    rw [List.flatMap_cons, List.flatMap_cons, h.1, flat_ids (l := l) (w := w) h.2]
/-- those that are left, each at its old place -/
theorem left {l w : List S_reclaim_Item} {at_ : Nat} {x : S_reclaim_Item} (hi : ids l = ids w) (hd : (ids w).Nodup) (hx : w[at_]? = some x) :
    l.flatMap (fun y => (w.drop (at_ + 1) ++ w.take at_).filter (pid y.fId)) = w.take at_ ++ w.drop (at_ + 1) := by
  have e : w = w.take at_ ++ x :: w.drop (at_ + 1) := by rw [← drop_cons hx, List.take_append_drop]
  have hp : w.Perm (x :: (w.drop (at_ + 1) ++ w.take at_)) := by
    conv => lhs; rw [e]
    exact List.perm_middle.trans (List.Perm.cons _ List.perm_append_comm)
  have hd2 : (ids (x :: (w.drop (at_ + 1) ++ w.take at_))).Nodup := (hp.map _).nodup_iff.1 hd
  unfold ids at hd2
  rw [List.map_cons, List.nodup_cons] at hd2
  rw [flat_ids (F := fun i => (w.drop (at_ + 1) ++ w.take at_).filter (pid i)) hi]
  have hx0 : (w.drop (at_ + 1) ++ w.take at_).filter (pid x.fId) = [] := by
    rw [List.filter_eq_nil_iff]
    intro z hz
    simp only [pid, beq_iff_eq]
    intro e; exact hd2.1 (by rw [← e]; exact List.mem_map_of_mem hz)
  have h1 : (w.take at_).flatMap (fun y => (w.drop (at_ + 1) ++ w.take at_).filter (pid y.fId)) = w.take at_ := flat_self (F := fun i => (w.drop (at_ + 1) ++ w.take at_).filter (pid i)) (fun y hy => filt_one hd2.2 (List.mem_append_right _ hy))
  have h2 : (w.drop (at_ + 1)).flatMap (fun y => (w.drop (at_ + 1) ++ w.take at_).filter (pid y.fId)) = w.drop (at_ + 1) := flat_self (F := fun i => (w.drop (at_ + 1) ++ w.take at_).filter (pid i)) (fun y hy => filt_one hd2.2 (List.mem_append_left _ hy))
  conv => lhs; arg 2; rw [e]
  rw [List.flatMap_append, List.flatMap_cons, hx0, h1, h2]; rfl
end Go.Proofs.Ytnmpnljjaoddhaa.reclaimT
