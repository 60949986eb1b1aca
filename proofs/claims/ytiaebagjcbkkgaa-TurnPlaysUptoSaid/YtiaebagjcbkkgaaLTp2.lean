/- TurnPlays: the run, and the law. -/
import Derived.Test.YtiaebagjcbkkgaaLTp
namespace Go.Proofs.Ytiaebagjcbkkgaa.pv
set_option linter.all false
open Go.RowKit help
namespace tp

structure Rel (progs : List (List D)) (m : Nat) (out hands at_ : List Int) (left : List (List D)) : Prop where
  ol : out.length = m
  hl : hands.length = progs.length
  al : at_.length = progs.length
  ll : left.length = progs.length
  st : ∀ i (hi : i < progs.length), ∃ a : Nat, at_[i]? = some (a : Int) ∧ a ≤ progs[i].length ∧ left[i]? = some (progs[i].drop a)
theorem run (n : Nat) (m : Nat) (progs : List (List D)) (order : List Int) (hp4 : progs.length ≤ 4) (hp : ∀ p ∈ progs, small p) (ho : small order) (hd : ∀ p ∈ progs, ∀ d ∈ p, bad (m : Int) d = false) (hby : ∀ p ∈ progs, ∀ d ∈ p, -9223372036854775808 ≤ d.fBy ∧ d.fBy ≤ 9223372036854775807) :
    ∀ (k x : Nat) (out hands at_ : List Int) (left : List (List D)), order.length - x < k → x ≤ order.length → Rel progs m out hands at_ left →
      (G_turn_Play_L5 n (progs.map (List.map td)) order k (x : Int) out hands at_ = some (.x0 3) ∧ G_ringref5_PlayOf_L5 n order k (x : Int) out hands left = some (.x0 3)) ∨
      ∃ o h, G_turn_Play_L5 n (progs.map (List.map td)) order k (x : Int) out hands at_ = some (.x1 o h) ∧ G_ringref5_PlayOf_L5 n order k (x : Int) out hands left = some (.x1 o h) ∧ o.length = m ∧ h.length = progs.length
  | 0, x, out, hands, at_, left, h, _, _ => by omega
  | k + 1, x, out, hands, at_, left, h, hx, R => by
    have ho' := ho
    unfold small at ho'
    rw [G_turn_Play_L5, G_ringref5_PlayOf_L5]
    by_cases h1 : x < order.length
    · rw [if_pos (by omega), if_pos (by omega), getI_nat, List.getElem?_eq_getElem h1, Option.bind_some, Option.bind_some]
      generalize order[x] = y
      by_cases y0 : y < 0
      · left
        have c1 : G_turn_Play_C4 n (progs.map (List.map td)) y order (x : Int) out hands at_ = some (.x0 true out hands at_) := by unfold G_turn_Play_C4; rw [if_pos y0]
        have c2 : G_ringref5_PlayOf_C3 n y order (x : Int) out hands left = some (.x0 true out hands left) := by unfold G_ringref5_PlayOf_C3; rw [if_pos y0]
        rw [c1, c2]; exact ⟨rfl, rfl⟩
      obtain ⟨i, rfl⟩ := Int.eq_ofNat_of_zero_le (show 0 ≤ y by omega)
      by_cases hi : i < progs.length
      · obtain ⟨a, s1, s2, s3⟩ := R.st i hi
        have hm : (progs.map (List.map td))[i]? = some (progs[i].map td) := by rw [List.getElem?_map, List.getElem?_eq_getElem hi]; rfl
        have hpi := hp progs[i] (List.getElem_mem hi)
        unfold small at hpi
        have hal : i < at_.length := by rw [R.al]; exact hi
        have hll : i < left.length := by rw [R.ll]; exact hi
        have hhl : i < hands.length := by rw [R.hl]; exact hi
        have c1 : G_turn_Play_C4 n (progs.map (List.map td)) (i : Int) order (x : Int) out hands at_ = some (.x0 (decide (a = progs[i].length)) out hands at_) := by
          unfold G_turn_Play_C4
          simp only [Int.toNat_natCast]
          rw [if_neg y0, if_neg (by simp; omega), if_pos ⟨by omega, hal⟩, s1, Option.bind_some, getI_nat, hm, Option.bind_some]
          congr 2
          rw [Bool.eq_iff_iff, beq_iff_eq, decide_eq_true_eq, List.length_map]; omega
        have c2 : G_ringref5_PlayOf_C3 n (i : Int) order (x : Int) out hands left = some (.x0 (decide (a = progs[i].length)) out hands left) := by
          unfold G_ringref5_PlayOf_C3
          simp only [Int.toNat_natCast]
          rw [if_neg y0, if_neg (by rw [R.ll]; omega), if_pos ⟨by omega, hll⟩, s3, Option.bind_some]
          congr 2
          rw [Bool.eq_iff_iff, beq_iff_eq, decide_eq_true_eq, List.length_drop]; omega
        rw [c1, c2, Option.bind_some, Option.bind_some]
        simp only
        by_cases e : a = progs[i].length
        · left
          rw [decide_eq_true e]; exact ⟨rfl, rfl⟩
        · rw [decide_eq_false e]
          simp only [Bool.false_eq_true, if_false, Int.toNat_natCast]
          have ha : a < progs[i].length := by omega
          have hdm : progs[i][a] ∈ progs[i] := List.getElem_mem ha
          have hbad := hd progs[i] (List.getElem_mem hi) _ hdm
          have hbyd := hby progs[i] (List.getElem_mem hi) _ hdm
          have g1 : (progs[i].map td)[a]? = some (td progs[i][a]) := by rw [List.getElem?_map, List.getElem?_eq_getElem ha]; rfl
          have g2 : progs[i].drop a = progs[i][a] :: progs[i].drop (a + 1) := drop_cons (List.getElem?_eq_getElem ha)
          have g3 : getI (progs[i].drop a) 0 = some progs[i][a] := by
            have := getI_nat (progs[i].drop a) 0
            have this : getI (progs[i].drop a) 0 = (progs[i].drop a)[0]? := this
            rw [this, g2]; rfl
          have g4 : sub (progs[i].drop a) 1 ((progs[i].drop a).length : Int) = some (progs[i].drop (a + 1)) := by
            unfold sub
            rw [g2, if_pos ⟨by omega, by simp only [List.length_cons]; omega, by omega⟩]
            rw [Int.toNat_natCast, List.take_length]
            rfl
          generalize progs[i][a] = d at *
          have hbad' := hbad
          unfold bad at hbad'
          simp only [decide_eq_false_iff_not] at hbad'
          obtain ⟨q, hq⟩ := Int.eq_ofNat_of_zero_le (show 0 ≤ d.fCell by omega)
          have hql : q < out.length := by rw [R.ol]; omega
          have hc : out[q]? = some out[q] := List.getElem?_eq_getElem hql
          have hh : hands[i]? = some hands[i] := List.getElem?_eq_getElem hhl
          obtain ⟨r, r1, r2⟩ := rest_any n d.fBy hbyd
          have hst := step_any n out hands i q out[q] hands[i] d hq hc hh (by rw [R.ol]; exact hbad)
          have hrs := fun s => ref_step n (i : Int) out[q] hands[i] r order (x : Int) d out hands left s r2 (by omega)
          have wa : wi .i64 ((a : Int) + 1) = ((a + 1 : Nat) : Int) := wi_succ (by omega)
          rw [if_pos ⟨by omega, hhl⟩, getI_nat, hm, Option.bind_some, if_pos ⟨by omega, hal⟩, s1, Option.bind_some, getI_nat, g1, Option.bind_some, hst, Option.bind_some, if_pos ⟨by omega, hal⟩, Option.bind_some, if_pos ⟨by omega, hal⟩, Option.bind_some, wa, wi_succ (by omega)]
          simp only [hq, Int.toNat_natCast]
          rw [if_pos ⟨by omega, hll⟩, s3]
          simp only [Option.bind_some]
          rw [g3]
          simp only [Option.bind_some, hq, Int.toNat_natCast]
          rw [if_pos ⟨by omega, hll⟩, g4]
          simp only [Option.bind_some]
          rw [if_pos ⟨by omega, hll⟩, if_pos ⟨by omega, hql⟩, hc]
          simp only [Option.bind_some]
          rw [if_pos ⟨by omega, hhl⟩, hh]
          simp only [Option.bind_some]
          rw [r1]
          simp only [Option.bind_some]
          rw [hrs]
          simp only [Option.bind_some, Int.toNat_natCast]
          rw [if_pos ⟨by omega, hql⟩, hc]
          simp only [Option.bind_some]
          rw [if_pos ⟨by omega, hhl⟩, hh]
          simp only [Option.bind_some]
          refine run n m progs order hp4 hp ho hd hby k (x + 1) _ _ _ _ (by omega) (by omega) ⟨by rw [List.length_set]; exact R.ol, by rw [List.length_set]; exact R.hl, by rw [List.length_set]; exact R.al, by rw [List.length_set]; exact R.ll, fun j hj => ?_⟩
          by_cases ej : i = j
          · subst ej
            exact ⟨a + 1, by rw [List.getElem?_set_self hal], by omega, by rw [List.getElem?_set_self hll]⟩
          · rw [List.getElem?_set_ne ej, List.getElem?_set_ne ej]
            exact R.st j hj
      · left
        have c1 : G_turn_Play_C4 n (progs.map (List.map td)) (i : Int) order (x : Int) out hands at_ = some (.x0 true out hands at_) := by unfold G_turn_Play_C4; rw [if_neg y0, if_pos (by simp; omega)]
        have c2 : G_ringref5_PlayOf_C3 n (i : Int) order (x : Int) out hands left = some (.x0 true out hands left) := by unfold G_ringref5_PlayOf_C3; rw [if_neg y0, if_pos (by rw [R.ll]; omega)]
        rw [c1, c2]; exact ⟨rfl, rfl⟩
    · rw [if_neg (by omega), if_neg (by omega)]
      exact .inr ⟨out, hands, rfl, rfl, R.ol, R.hl⟩
theorem eq_any (n : Nat) (hn : 5000000 ≤ n) (a : List Int) (h : a.length ≤ 1048575) : G_slices_Equal_uint32_uint32 n a a = some true := by
  obtain ⟨r, h1, h2⟩ := G_slices_Equal_uint32_uint32_sp (n := n) a a (by omega) (by omega)
  rw [h1, h2.2 rfl]
theorem same_any (n : Nat) (hn : 5000000 ≤ n) (a b : List Int) (e : Int) (ha : a.length ≤ 1048575) (hb : b.length ≤ 1048575) : G_ringlaw5_TurnPlays_C3 n (a, b, e) (a, b, e) = some (.x0 true) := by
  unfold G_ringlaw5_TurnPlays_C3
  simp only [if_true]
  rw [eq_any n hn a ha, Option.bind_some, if_pos rfl, eq_any n hn b hb]; rfl
theorem both (n : Nat) (hn : 5000000 ≤ n) (cells : List Int) (progs : List (List D)) (order : List Int) (hc : small cells) (hp : ∀ p ∈ progs, small p) (ho : small order) (hby : ∀ p ∈ progs, ∀ d ∈ p, -9223372036854775808 ≤ d.fBy ∧ d.fBy ≤ 9223372036854775807) :
    ∃ (a b : List Int) (e : Int), G_turn_Play n cells (progs.map (List.map td)) order = some (a, b, e) ∧ G_ringref5_PlayOf n cells progs order = some (a, b, e) ∧ a.length ≤ 1048575 ∧ b.length ≤ 1048575 := by
  unfold G_turn_Play G_ringref5_PlayOf
  rw [List.length_map]
  by_cases c4 : (cells.length : Int) > 4
  · rw [if_pos c4, if_pos c4]; exact ⟨[], [], 2, rfl, rfl, by simp, by simp⟩
  by_cases p4 : (progs.length : Int) > 4
  · rw [if_neg c4, if_neg c4, if_pos p4, if_pos p4]; exact ⟨[], [], 2, rfl, rfl, by simp, by simp⟩
  rw [if_neg c4, if_neg c4, if_neg p4, if_neg p4]
  have ht : len2 progs ≤ 4194304 := by
    have := len2_le progs hp
    have h2 : progs.length * 1048575 ≤ 4 * 1048575 := Nat.mul_le_mul_right _ (by omega)
    omega
  have hch := chk2 n hn cells progs order (by omega) hp n 0 (by omega) (by omega)
  have hch : G_turn_Play_L3 n cells (progs.map (List.map td)) order n 0 = _ := hch
  have hfl : progs.flatten.length ≤ 4194304 := by rw [len2_flat]; exact ht
  have hch3 := chk3 n cells progs order progs.flatten hfl n 0 (by omega) (by omega)
  have hch3 : G_ringref5_PlayOf_L2 n cells progs order progs.flatten n 0 progs.flatten = _ := hch3
  rw [hch, concat_any n hn progs (by omega) ht, Option.bind_some, Option.bind_some, hch3, Option.bind_some, List.drop_zero, List.drop_zero, any_flat]
  cases hb : progs.any (fun p => p.any (bad (cells.length : Int))) with
  | true =>
    simp only [if_true]
    exact ⟨[], [], 1, rfl, rfl, by simp, by simp⟩
  | false =>
    simp only [Bool.false_eq_true, if_false]
    have hcl : G_slices_Clone_uint32_uint32 n cells = some cells := by
      unfold G_slices_Clone_uint32_uint32
      rw [app_4 (by simp; omega)]; simp
    have hcp : G_slices_Clone_ringref5_Do_ringref5_Do n progs = some progs := by
      unfold G_slices_Clone_ringref5_Do_ringref5_Do
      rw [app_24 (by simp; omega)]; simp
    have m4 : mkL 4 (0 : Int) (progs.length : Int) = some (List.replicate progs.length 0) := by
      unfold mkL maxLen; rw [if_pos ⟨by omega, by omega, by omega⟩]; simp
    have m8 : mkL 8 (0 : Int) (progs.length : Int) = some (List.replicate progs.length 0) := by
      unfold mkL maxLen; rw [if_pos ⟨by omega, by omega, by omega⟩]; simp
    have hd : ∀ p ∈ progs, ∀ d ∈ p, bad (cells.length : Int) d = false := by
      intro p hpm d hdm
      rw [List.any_eq_false] at hb
      have := hb p hpm
      simp only [List.any_eq_true, not_exists, not_and] at this
      have := this d hdm
      simpa using this
    have hr := run n cells.length progs order (by omega) hp ho hd hby n 0 cells (List.replicate progs.length 0) (List.replicate progs.length 0) progs (by unfold small at ho; omega) (by omega) ⟨rfl, by simp, by simp, rfl, fun i hi => ⟨0, by rw [List.getElem?_replicate, if_pos hi]; rfl, by omega, by rw [List.getElem?_eq_getElem hi]; rfl⟩⟩
    rw [hcl, Option.bind_some, m4, Option.bind_some, m8, Option.bind_some, Option.bind_some, Option.bind_some, hcp, Option.bind_some]
    rcases hr with ⟨h1, h2⟩ | ⟨o, h, h1, h2, h3, h4⟩
    · have h1 : G_turn_Play_L5 n (progs.map (List.map td)) order n 0 cells (List.replicate progs.length 0) (List.replicate progs.length 0) = _ := h1
      have h2 : G_ringref5_PlayOf_L5 n order n 0 cells (List.replicate progs.length 0) progs = _ := h2
      rw [h1, h2]
      exact ⟨[], [], 3, rfl, rfl, by simp, by simp⟩
    · have h1 : G_turn_Play_L5 n (progs.map (List.map td)) order n 0 cells (List.replicate progs.length 0) (List.replicate progs.length 0) = _ := h1
      have h2 : G_ringref5_PlayOf_L5 n order n 0 cells (List.replicate progs.length 0) progs = _ := h2
      rw [h1, h2]
      exact ⟨o, h, 0, rfl, rfl, by unfold small at hc; omega, by omega⟩
theorem law (n : Nat) (hn : 5000000 ≤ n) (cells : List Int) (progs : List (List D)) (order : List Int) (hc : small cells) (hps : small progs) (hp : ∀ p ∈ progs, small p) (ho : small order) (hby : ∀ p ∈ progs, ∀ d ∈ p, -9223372036854775808 ≤ d.fBy ∧ d.fBy ≤ 9223372036854775807) :
    G_ringlaw5_TurnPlays n cells progs order = some true := by
  unfold G_ringlaw5_TurnPlays
  have hpl : G_ringlaw5_plays n = some true := by
    obtain ⟨k, rfl⟩ : ∃ k, n = k + 10 := ⟨n - 10, by omega⟩
    exact plays_any k
  have hcp := copy2 n hn cells progs order hps hp n 0 (by unfold small at hps; omega) (by omega)
  have hcp : G_ringlaw5_TurnPlays_L2 n cells progs order n 0 [] = _ := hcp
  obtain ⟨a, b, e, h1, h2, h3, h4⟩ := both n hn cells progs order hc hp ho hby
  rw [hpl, Option.bind_some, if_pos rfl, hcp, Option.bind_some]
  simp only
  rw [h1, Option.bind_some, h2, Option.bind_some, same_any n hn a b e h3 h4]; rfl
theorem small_of {α : Type} {ok : α → Prop} {l : List α} (h : okL 134217728 ok l) : small l := by
  have := h.1
  unfold small; omega
theorem lawU (cells : List Int) (progs : List (List D)) (order : List Int) (o1 : okL 134217728 (fun a => (Lit.int .u32 a).wf = true) cells) (o2 : okL 134217728 (okL 134217728 okS_ringref5_Do) progs) (o3 : okL 134217728 (fun a => (Lit.int .i64 a).wf = true) order) :
    ∃ n, G_ringlaw5_TurnPlays n cells progs order = some true :=
  ⟨5000000, law 5000000 (Nat.le_refl _) cells progs order (small_of o1) (small_of o2) (fun p hp => small_of (o2.2 p hp)) (small_of o3) (fun p hp d hd => wf64.1 ((o2.2 p hp).2 d hd).2.2.1)⟩
end tp
end Go.Proofs.Ytiaebagjcbkkgaa.pv
