/- ReclaimCounts returns true for every slice and number, and leaves its arguments alone. No condition. -/
import Derived.Test.YtnmpnljjaoddhaaLRc2
import Derived.ChangeOld
namespace Go.Proofs.Ytnmpnljjaoddhaa.reclaim
open Go.ChangeShapes Go.WideShapes Go.ChangeAt Go.RowKit help rep pv bel
set_option linter.all false

theorem rb_search (n : Nat) (x : Int) (t S : List Int) (room : Int) (R : List Int → List Int → Int → Option Int) (hS : S.length ≤ 1000) : ∀ (k i : Nat), S.length - i < k → i ≤ S.length →
    (x ∈ S.drop i ∧ G_ringref2_RefBest_L1 n (x :: t) S room R k (i : Int) = (R t S room).bind fun r => some (.x0 r)) ∨ (x ∉ S.drop i ∧ G_ringref2_RefBest_L1 n (x :: t) S room R k (i : Int) = some .x1)
  | 0, i, h, _ => by omega
  | k + 1, i, h, hi => by
    rw [G_ringref2_RefBest_L1]
    by_cases hlt : (i : Int) < (S.length : Int)
    · obtain ⟨y, hy⟩ := get_lt hlt
      have g0 : getI (x :: t) 0 = some x := rfl
      have s1 : sub (x :: t) 1 ((x :: t).length : Int) = some t := sub_from (l := x :: t) (j := 1) (by simp)
      rw [if_pos hlt, getI_nat, hy, Option.bind_some, g0, Option.bind_some, s1, Option.bind_some, drop_cons hy]
      by_cases e : y = x
      · rw [if_pos e]; exact .inl ⟨by simp [e], rfl⟩
      · rw [if_neg e, wi_succ (by omega)]
        rcases rb_search n x t S room R hS k (i + 1) (by omega) (by omega) with ⟨h1, h2⟩ | ⟨h1, h2⟩
        · exact .inl ⟨List.mem_cons_of_mem _ h1, h2⟩
        · exact .inr ⟨by rw [List.mem_cons, not_or]; exact ⟨fun e' => e e'.symm, h1⟩, h2⟩
    · rw [if_neg hlt, drop_end hlt]; exact .inr ⟨by simp, rfl⟩
theorem rb_min (n : Nat) (x : Int) (t S : List Int) (room : Int) (R : List Int → List Int → Int → Option Int) (hS : S.length ≤ 1000) (f : Nat → Nat) (hf : ∀ i, i < S.length → R t (S.take i ++ (S.drop (i + 1) ++ [x])) room = some (f i : Int) ∧ f i ≤ 1000) : ∀ (k i b : Nat), S.length - i < k → i ≤ S.length → b ≤ 1001 →
    ∃ m : Nat, G_ringref2_RefBest_L2 n (x :: t) room (S ++ [x]) S R k (b : Int) (i : Int) = some (.x0 (m : Int)) ∧ m ≤ b ∧ (∀ j, i ≤ j → j < S.length → m ≤ 1 + f j) ∧ (m = b ∨ ∃ j, i ≤ j ∧ j < S.length ∧ m = 1 + f j)
  | 0, i, b, h, _, _ => by omega
  | k + 1, i, b, h, hi, hb => by
    rw [G_ringref2_RefBest_L2]
    by_cases hlt : (i : Int) < (S.length : Int)
    · have hi2 : i < S.length := by omega
      have s1 : sub (S ++ [x]) 0 (i : Int) = some (S.take i) := by
        rw [sub_to (by simp; omega), List.take_append_of_le_length (by omega)]
      have a1 : app 8 ([] : List Int) (S.take i) = some (S.take i) := app_le (m := 1000) (by simp; omega) (by omega) (by omega)
      have s2 : sub (S ++ [x]) ((i + 1 : Nat) : Int) ((S ++ [x]).length : Int) = some (S.drop (i + 1) ++ [x]) := by
        rw [sub_from (by simp; omega), List.drop_append_of_le_length (by omega)]
      have a2 : app 8 (S.take i) (S.drop (i + 1) ++ [x]) = some (S.take i ++ (S.drop (i + 1) ++ [x])) := app_le (m := 3000) (by simp; omega) (by omega) (by omega)
      have s3 : sub (x :: t) 1 ((x :: t).length : Int) = some t := sub_from (l := x :: t) (j := 1) (by simp)
      obtain ⟨hR, hf1⟩ := hf i hi2
      have e1 : wi .i64 (1 + (f i : Int)) = ((1 + f i : Nat) : Int) := by rw [wi64 (by omega) (by omega)]; omega
      have e2 : minI (b : Int) ((1 + f i : Nat) : Int) = ((if 1 + f i < b then 1 + f i else b : Nat) : Int) := by
        unfold minI; split <;> split <;> omega
      rw [if_pos hlt, s1, Option.bind_some, a1, Option.bind_some, wi_succ (by omega), s2, Option.bind_some, a2, Option.bind_some, s3, Option.bind_some, hR, Option.bind_some, e1, e2]
      obtain ⟨m, h1, h2, h3, h4⟩ := rb_min n x t S room R hS f hf k (i + 1) (if 1 + f i < b then 1 + f i else b) (by omega) (by omega) (by split <;> omega)
      refine ⟨m, h1, by split at h2 <;> omega, fun j hj1 hj2 => ?_, ?_⟩
      · rcases Nat.lt_or_ge i j with h' | h'
        · exact h3 j h' hj2
        · have : j = i := by omega
          subst this; split at h2 <;> omega
      · rcases h4 with h4 | ⟨j, hj1, hj2, hj3⟩
        · by_cases hc : 1 + f i < b
          · rw [if_pos hc] at h4; exact .inr ⟨i, by omega, hi2, h4⟩
          · rw [if_neg hc] at h4; exact .inl h4
        · exact .inr ⟨j, by omega, hj2, hj3⟩
    · rw [if_neg hlt]
      exact ⟨b, rfl, Nat.le_refl _, fun j h1 h2 => by omega, .inl rfl⟩
theorem refbest (room : Int) (hr : 1 ≤ room) (hr3 : room ≤ 3) : ∀ (l : List Int) (n : Nat) (S : List Int), l.length + 20 ≤ n → l.length ≤ 9 → S.Nodup → (S.length : Int) ≤ room →
    ∃ k : Nat, G_ringref2_RefBest n l S room = some (k : Int) ∧ Least room.toNat l S k ∧ k ≤ l.length
  | [], 0, S, h, _, _, _ => by omega
  | [], n + 1, S, h, _, _, _ => by
    rw [G_ringref2_RefBest, if_pos (by simp)]
    exact ⟨0, rfl, least_nil, by omega⟩
  | x :: t, 0, S, h, _, _, _ => by omega
  | x :: t, n + 1, S, h, hl, hS, hSl => by
    simp only [List.length_cons] at h hl
    have ih := fun (S' : List Int) => refbest room hr hr3 t n S' (by omega) (by omega)
    rw [G_ringref2_RefBest, if_neg (by simp; omega)]
    rcases rb_search n x t S room (G_ringref2_RefBest n) (by omega) n 0 (by omega) (by omega) with ⟨h1, h2⟩ | ⟨h1, h2⟩
    · have h2 : G_ringref2_RefBest_L1 n (x :: t) S room (G_ringref2_RefBest n) n 0 = _ := h2
      rw [List.drop_zero] at h1
      obtain ⟨k, i1, i2, i3⟩ := ih S hS hSl
      rw [h2, i1]
      exact ⟨k, rfl, least_hit h1 i2, by simp; omega⟩
    · have h2 : G_ringref2_RefBest_L1 n (x :: t) S room (G_ringref2_RefBest n) n 0 = _ := h2
      rw [List.drop_zero] at h1
      have a1 : app 8 ([] : List Int) S = some S := app_le (m := 1000) (by simp; omega) (by omega) (by omega)
      have g0 : getI (x :: t) 0 = some x := rfl
      have a2 : app 8 S [x] = some (S ++ [x]) := app_le (m := 1000) (by simp; omega) (by omega) (by omega)
      have s1 : sub (x :: t) 1 ((x :: t).length : Int) = some t := sub_from (l := x :: t) (j := 1) (by simp)
      rw [h2, Option.bind_some]
      dsimp only
      rw [a1, Option.bind_some, g0, Option.bind_some, a2, Option.bind_some]
      have hp : (S ++ [x]).Perm (x :: S) := List.perm_append_comm
      by_cases hc : (S.length : Int) < room
      · rw [if_pos hc, s1, Option.bind_some]
        obtain ⟨k, i1, i2, i3⟩ := ih (S ++ [x]) (hp.nodup_iff.2 (List.nodup_cons.2 ⟨h1, hS⟩)) (by simp; omega)
        rw [i1, Option.bind_some]
        refine ⟨k + 1, by rw [wi64 (by omega) (by omega)]; congr 1; omega, least_fill h1 (by omega) (Least.perm hp i2), by simp; omega⟩
      · rw [if_neg hc]
        -- what each way costs
        have hw : ∀ i, i < S.length → ∃ k : Nat, G_ringref2_RefBest n t (S.take i ++ (S.drop (i + 1) ++ [x])) room = some (k : Int) ∧ (∀ a, S[i]? = some a → Least room.toNat t (x :: S.erase a) k) ∧ k ≤ t.length := fun i hi => by
          obtain ⟨a, ha⟩ : ∃ a, S[i]? = some a := ⟨_, List.getElem?_eq_getElem hi⟩
          have hpe := eraseIdx_eq hS ha
          have hpp : (S.take i ++ (S.drop (i + 1) ++ [x])).Perm (x :: S.erase a) := by
            rw [← List.append_assoc]; exact List.perm_append_comm.trans (hpe.cons _)
          have haS : a ∈ S := List.mem_of_getElem? ha
          obtain ⟨k, i1, i2, i3⟩ := ih (S.take i ++ (S.drop (i + 1) ++ [x])) (hpp.nodup_iff.2 (List.nodup_cons.2 ⟨fun e => h1 (List.mem_of_mem_erase e), hS.erase a⟩)) (by rw [hpp.length_eq, List.length_cons, List.length_erase_of_mem haS]; omega)
          refine ⟨k, i1, fun b hb => ?_, i3⟩
          rw [ha] at hb; cases hb
          exact Least.perm hpp i2
        have hex : ∃ f : Nat → Nat, ∀ i, i < S.length → G_ringref2_RefBest n t (S.take i ++ (S.drop (i + 1) ++ [x])) room = some (f i : Int) ∧ (∀ a, S[i]? = some a → Least room.toNat t (x :: S.erase a) (f i)) ∧ f i ≤ t.length := by
          refine ⟨fun i => if h : i < S.length then (hw i h).choose else 0, fun i hi => ?_⟩
          simp only [dif_pos hi]
          exact (hw i hi).choose_spec
        obtain ⟨f, hf⟩ := hex
        obtain ⟨m, m1, m2, m3, m4⟩ := rb_min n x t S room (G_ringref2_RefBest n) (by omega) f (fun i hi => ⟨(hf i hi).1, by have := (hf i hi).2.2; omega⟩) n 0 (t.length + 2) (by omega) (by omega) (by omega)
        have e1 : wi .i64 (((x :: t).length : Int) + 1) = ((t.length + 2 : Nat) : Int) := by rw [wi64 (by simp; omega) (by simp; omega)]; simp; omega
        have m1 : G_ringref2_RefBest_L2 n (x :: t) room (S ++ [x]) S (G_ringref2_RefBest n) n ((t.length + 2 : Nat) : Int) 0 = some (.x0 (m : Int)) := m1
        rw [e1, m1, Option.bind_some]
        dsimp only
        have h0 := m3 0 (by omega) (by omega)
        have h0' := (hf 0 (by omega)).2.2
        rcases m4 with m4 | ⟨j, _, hj, m4⟩
        · omega
        · subst m4
          refine ⟨1 + f j, rfl, ?_, by have := (hf j hj).2.2; simp; omega⟩
          rw [Nat.add_comm]
          refine least_all h1 (by omega) ⟨S[j], List.getElem_mem hj, ((hf j hj).2.1 _ (List.getElem?_eq_getElem hj)).1⟩ (fun a ha q hq => ?_)
          obtain ⟨i, hi⟩ := List.getElem?_of_mem ha
          have hil : i < S.length := by rw [List.getElem?_eq_some_iff] at hi; exact hi.1
          have := ((hf i hil).2.1 a hi).2 q hq
          have := m3 i (by omega) hil
          omega
theorem refs_any (n : Nat) (l : List Int) (room : Int) : ∃ r, G_reclaim_refs n l room = some r ∧ G_ringref2_Refs n l room = some r ∧ (r = 0 → l.length ≤ 60 ∧ 1 ≤ room ∧ room ≤ 8) := by
  unfold G_reclaim_refs G_ringref2_Refs G_ringref2_In
  by_cases h1 : (l.length : Int) > 60
  · exact ⟨2, by rw [if_pos h1], by rw [if_pos h1], fun h => by omega⟩
  rw [if_neg h1, if_neg h1]
  by_cases h2 : room < 1
  · refine ⟨1, by rw [if_pos h2], ?_, fun h => by omega⟩
    rw [if_neg (by omega)]; rfl
  have hg : room ≥ 1 := by omega
  by_cases h3 : room > 8
  · refine ⟨1, by rw [if_neg h2, if_pos h3], ?_, fun h => by omega⟩
    rw [if_pos hg, decide_eq_false (by omega)]; rfl
  · refine ⟨0, by rw [if_neg h2, if_neg h3], ?_, fun _ => by omega⟩
    rw [if_pos hg, decide_eq_true (by omega)]; rfl
theorem law (l : List Int) (room : Int) : ∃ n, G_ringlaw2_ReclaimCounts n l room = some true := by
  refine ⟨2000, ?_⟩
  obtain ⟨r, r1, r2, r3⟩ := refs_any 2000 l room
  unfold G_ringlaw2_ReclaimCounts G_reclaim_Best G_reclaim_Lru G_reclaim_Fifo
  rw [r1, r2]
  by_cases h0 : r = 0
  · subst h0
    obtain ⟨hl, hr, hr8⟩ := r3 rfl
    obtain ⟨mb, b1, b2, b3⟩ := best_loop 2000 l room hr hr8 hl (by omega) 2000 0 0 [] (by omega) (by omega) (by omega) List.nodup_nil (by simp; omega)
    have b1 : G_reclaim_faults 2000 l room (fun (y0 : List Int) (y1 : Int) => G_reclaim_Best_1 2000 y0 y1 l) = some (mb : Int) := by
      unfold G_reclaim_faults
      rw [Nat.zero_add] at b1
      have b1 : G_reclaim_faults_L2 2000 room (fun (y0 : List Int) (y1 : Int) => G_reclaim_Best_1 2000 y0 y1 l) l 2000 0 0 [] = some (.x0 (mb : Int)) := b1
      rw [b1]; rfl
    obtain ⟨ml, l1, l2⟩ := lru_eq 2000 room l hr hr8 hl (by omega)
    obtain ⟨mf, f1, f2⟩ := fifo_eq 2000 room l hr hr8 hl (by omega)
    simp only [Option.bind_some, if_true, b1, l1, f1]
    unfold G_ringlaw2_ReclaimCounts_C2
    rw [if_pos rfl, if_pos rfl, if_pos rfl, l2, Option.bind_some, if_pos rfl, f2, Option.bind_some, Option.bind_some]
    simp only [bne_self_eq_false]
    rw [if_neg (by decide)]
    unfold G_ringlaw2_ReclaimCounts_C3
    by_cases h9 : (l.length : Int) > 9
    · rw [if_pos h9]; rfl
    rw [if_neg h9]
    by_cases h3 : room > 3
    · rw [if_pos h3]; rfl
    rw [if_neg h3]
    obtain ⟨k, k1, k2, _⟩ := refbest room hr (by omega) l 2000 [] (by omega) (by omega) List.nodup_nil (by simp; omega)
    rw [k1, Option.bind_some, Option.bind_some]
    rw [List.drop_zero] at b2
    have := b2.uniq k2
    subst this
    simp
  · simp only [Option.bind_some, if_neg h0, G_ringlaw2_ReclaimCounts_C1, if_true]
    simp
end Go.Proofs.Ytnmpnljjaoddhaa.reclaim
