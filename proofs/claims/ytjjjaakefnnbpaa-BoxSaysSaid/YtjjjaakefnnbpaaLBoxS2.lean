/- BoxSays returns true for every list of ranges, number and credentials, and leaves its arguments alone. No condition. -/
import Derived.Test.YtjjjaakefnnbpaaLBoxS
import Derived.ChangeOld
namespace Go.Proofs.Ytjjjaakefnnbpaa.boxSays
open Go.ChangeShapes Go.WideShapes Go.ChangeAt Go.RowKit help rep pv
set_option linter.all false

def none0 : S_api_Cred := S_api_Cred.mk 0 0 [] 0 0 0
theorem same_refl (n : Nat) (hn : 200 ≤ n) (c : S_api_Cred) (h : c.fMore.length ≤ 12) : G_ringref5_SameCred n c c = some true := by
  unfold G_ringref5_SameCred G_ringref5_SameCred_C1
  rw [if_pos rfl, if_pos rfl, equal_self n _ (by omega) (by omega)]
  simp
section
variable (n : Nat) (hn : 200 ≤ n) {l : List S_box_Range} (g : Good l) (hc : G_box_Check n l = some 0) (c : S_api_Cred) (hm : c.fMore.length ≤ 4)
include hn g hc hm
theorem cred_loop (r150 r151 : Int × Int) : ∀ (k i : Nat) (w : List Int), c.fMore.length - i < k → i ≤ c.fMore.length → w.length = i →
    G_box_Cred_L1 n l c r150 r151 k (i : Int) w = if (c.fMore.drop i).any (fun x => (fnd l x).isNone) = true then some (.x0 4) else some (.x1 (w ++ (c.fMore.drop i).map (fv l)))
  | 0, i, w, h, _, _ => by omega
  | k + 1, i, w, h, hi, hw => by
    rw [G_box_Cred_L1]
    by_cases hlt : (i : Int) < (c.fMore.length : Int)
    · obtain ⟨x, hx⟩ := get_lt hlt
      rw [if_pos hlt, getI_nat, hx, Option.bind_some, to_any n g hn hc, Option.bind_some, drop_cons hx, List.any_cons, List.map_cons]
      cases hf : fnd l x with
      | none =>
        simp only [Option.isNone_none, Bool.true_or, if_true]
        rw [if_neg (by decide)]
      | some r =>
        have hv : fv l x = r := by unfold fv; rw [hf]
        simp only [Option.isNone_some, Bool.false_or, if_true]
        rw [app_some (by simp; omega) (by omega), Option.bind_some, wi_succ (by omega), cred_loop r150 r151 k (i + 1) _ (by omega) (by omega) (by simp; omega), hv, List.append_assoc]
        rfl
    · rw [if_neg hlt, drop_end hlt]; simp
theorem more_loop (r245 : S_api_Cred × Int) (a b : Int) : ∀ (k i : Nat) (w : List Int), c.fMore.length - i < k → i ≤ c.fMore.length → w.length = i →
    G_ringlaw5_BoxSays_L5 n r245 (l.map tri) c a b k (i : Int) w = some (.x0 (w ++ (c.fMore.drop i).map (fv l)))
  | 0, i, w, h, _, _ => by omega
  | k + 1, i, w, h, hi, hw => by
    rw [G_ringlaw5_BoxSays_L5]
    by_cases hlt : (i : Int) < (c.fMore.length : Int)
    · obtain ⟨x, hx⟩ := get_lt hlt
      have hv : G_ringref5_BoxTo n (l.map tri) x = some (fv l x) := boxto_any n g hn
      rw [if_pos hlt, getI_nat, hx, Option.bind_some, hv, Option.bind_some, app_some (by simp; omega) (by omega), Option.bind_some, wi_succ (by omega), more_loop r245 a b k (i + 1) _ (by omega) (by omega) (by simp; omega), drop_cons hx, List.append_assoc]
      rfl
    · rw [if_neg hlt, drop_end hlt]; simp
end
theorem law (l : List S_box_Range) (v : Int) (c : S_api_Cred) (ol : okL 24 okS_box_Range l) : ∃ n, G_ringlaw5_BoxSays n l v c = some true := by
  have hb : l.length * 24 ≤ 140737488351232 := ol.1
  refine ⟨l.length + 200, ?_⟩
  generalize hN : l.length + 200 = n
  have hn : 200 ≤ n := by omega
  have hbx : G_ringlaw5_boxes n = some true := by rw [← hN]; exact boxes_true _
  have htr := trip n l hb (by omega)
  have s0 := same_refl n hn none0 (by simp [none0])
  obtain ⟨e, hc, hr, hg⟩ := checks n l hn
  unfold G_ringlaw5_BoxSays
  rw [hbx, Option.bind_some, if_pos rfl]
  by_cases he : e = 0
  · subst he
    have g := hg rfl
    have hl := g.len
    have gs := good_swp g
    have hto : G_box_To n l v = some (match fnd l v with | some r => (r, 0) | none => (0, 4)) := to_any n g hn hc
    have hfr : G_box_From n l v = some (match fnd (l.map swp) v with | some r => (r, 0) | none => (0, 4)) := from_any n g hn hc
    have hbt : ∀ x, G_ringref5_BoxTo n (l.map tri) x = some (fv l x) := fun x => boxto_any n g hn
    have hbk : ∀ x, G_ringref5_BoxTo n ((l.map swp).map tri) x = some (fv (l.map swp) x) := fun x => boxto_any n gs hn
    obtain ⟨f, h1, h2, h3⟩ := check_any n (by omega) c
    obtain ⟨d, de, hd, key⟩ : ∃ d de, G_box_Cred n l c = some (d, de) ∧ (if f = 0 then (match fnd l c.fUser, fnd l c.fGroup, c.fMore.any (fun x => (fnd l x).isNone) with
        | some a, some b, false => ∃ S, G_slices_Sort_int_int_h n (c.fMore.map (fv l)) = some S ∧ d = S_api_Cred.mk a b S c.fCaps c.fLevel c.fKind ∧ de = 0
        | _, _, _ => d = none0 ∧ de = 4) else d = none0 ∧ de = f) := by
      unfold G_box_Cred
      rw [hc, Option.bind_some, if_pos rfl, h1, Option.bind_some]
      by_cases hf : f = 0
      · have hm := (h3 hf).1
        simp only [if_pos hf]
        rw [to_any n g hn hc, Option.bind_some, to_any n g hn hc]
        cases hu : fnd l c.fUser with
        | none => exact ⟨none0, 4, by simp [none0], rfl, rfl⟩
        | some a =>
          simp only [if_true, Option.bind_some]
          cases hq : fnd l c.fGroup with
          | none => exact ⟨none0, 4, by simp [none0], rfl, rfl⟩
          | some b =>
            simp only [if_true]
            have := cred_loop n hn g hc c hm (a, 0) (b, 0) n 0 [] (by omega) (by omega) rfl
            have : G_box_Cred_L1 n l c (a, 0) (b, 0) n 0 [] = _ := this
            rw [this]
            simp only [List.drop_zero, List.nil_append]
            cases ha : c.fMore.any (fun x => (fnd l x).isNone) with
            | true => exact ⟨none0, 4, rfl, rfl, rfl⟩
            | false =>
              obtain ⟨S, hS, _⟩ := sort_any n (c.fMore.map (fv l)) (by simp; omega) (by omega)
              simp only [Bool.false_eq_true, if_false, Option.bind_some]
              exact ⟨_, _, by rw [hS]; rfl, S, hS, rfl, rfl⟩
      · simp only [if_neg hf]; exact ⟨_, _, rfl, rfl, rfl⟩
    rw [hto, Option.bind_some, hfr, Option.bind_some, hd, Option.bind_some, htr, Option.bind_some, hr, Option.bind_some, hc, Option.bind_some, if_pos rfl, if_pos rfl, back_any n hl v _ _ _ c hn, Option.bind_some]
    simp only [hbt, hbk, Option.bind_some]
    have c3 : ∀ r245 z, G_ringlaw5_BoxSays_C3 n v (match fnd l v with | some r => (r, 0) | none => (0, 4)) (match fnd (l.map swp) v with | some r => (r, 0) | none => (0, 4)) r245 (l.map tri) (fv l v) c z = some (.x0 false z) := by
      intro r245 z
      unfold G_ringlaw5_BoxSays_C3
      rcases fv_cases hl g.box v with ⟨r, q1, q2, q3⟩ | ⟨q1, q2⟩
      · rw [q1, q2, if_neg (by omega), if_pos (by omega)]; simp
      · rw [q1, q2]; simp
    have c4 : ∀ r245, G_ringlaw5_BoxSays_C4 n (match fnd (l.map swp) v with | some r => (r, 0) | none => (0, 4)) r245 (l.map tri) (fv (l.map swp) v) c = some (.x0 false) := by
      intro r245
      unfold G_ringlaw5_BoxSays_C4
      rcases fv_cases (by simpa using hl) gs.box v with ⟨r, q1, q2, q3⟩ | ⟨q1, q2⟩
      · rw [q1, q2, if_neg (by omega), if_pos (by omega)]; simp
      · rw [q1, q2]; simp
    rw [c3, Option.bind_some]
    simp only []
    rw [if_neg (by decide), hbk, Option.bind_some, c4, Option.bind_some]
    simp only []
    rw [if_neg (by decide), h2, Option.bind_some]
    by_cases hf : f = 0
    · have hm := (h3 hf).1
      rw [if_pos hf] at key ⊢
      have hml := more_loop n hn g hc c hm (d, de) (fv l c.fUser) (fv l c.fGroup) n 0 [] (by omega) (by omega) rfl
      have hml : G_ringlaw5_BoxSays_L5 n (d, de) (l.map tri) c (fv l c.fUser) (fv l c.fGroup) n 0 [] = some (.x0 (c.fMore.map (fv l))) := hml
      obtain ⟨S, hS, hSp, hSs⟩ := sort_any n (c.fMore.map (fv l)) (by simp; omega) (by omega)
      have hSl : S.length ≤ 4 := by rw [hSp.length_eq]; simpa using hm
      rw [hml, Option.bind_some]
      simp only []
      rw [hS, Option.bind_some]
      have c6 : G_ringlaw5_BoxSays_C6 n (d, de) (fv l c.fUser) (fv l c.fGroup) c S = some (.x0 (decide (fv l c.fUser < 0) || decide (fv l c.fGroup < 0) || S.any (fun x => decide (x < 0))) S) := by
        unfold G_ringlaw5_BoxSays_C6 minI
        by_cases k1 : (if fv l c.fGroup < fv l c.fUser then fv l c.fGroup else fv l c.fUser) < 0
        · rw [if_pos k1]
          have : fv l c.fUser < 0 ∨ fv l c.fGroup < 0 := by split at k1 <;> omega
          rcases this with h | h <;> simp [h]
        · rw [if_neg k1]
          have k2 : ¬ fv l c.fUser < 0 ∧ ¬ fv l c.fGroup < 0 := by split at k1 <;> omega
          simp only [k2.1, k2.2, decide_false, Bool.false_or]
          cases S with
          | nil => simp
          | cons x xs =>
            rw [if_pos (by simp), if_pos ⟨by omega, by simp⟩]
            have hx : (x :: xs).any (fun x => decide (x < 0)) = decide (x < 0) := by
              rw [List.any_cons]
              cases hd0 : decide (x < 0) with
              | true => rfl
              | false =>
                rw [Bool.false_or, List.any_eq_false]
                intro y hy
                have := (List.pairwise_cons.1 hSs).1 y hy
                simp at hd0 ⊢; omega
            rw [hx]; rfl
      rw [c6, Option.bind_some]
      simp only []
      have hany : S.any (fun x => decide (x < 0)) = c.fMore.any (fun x => (fnd l x).isNone) := by
        have e1 : S.any (fun x => decide (x < 0)) = (c.fMore.map (fv l)).any (fun x => decide (x < 0)) := by
          rw [Bool.eq_iff_iff, List.any_eq_true, List.any_eq_true]
          constructor
          · rintro ⟨x, hx, h⟩; exact ⟨x, hSp.mem_iff.1 hx, h⟩
          · rintro ⟨x, hx, h⟩; exact ⟨x, hSp.mem_iff.2 hx, h⟩
        rw [e1, List.any_map]
        congr 1
        funext x
        rcases fv_cases hl g.box x with ⟨r, q1, q2, q3⟩ | ⟨q1, q2⟩
        · simp [q1, q2]; omega
        · simp [q1, q2]
      rw [hany]
      rcases fv_cases hl g.box c.fUser with ⟨a, u1, u2, u3⟩ | ⟨u1, u2⟩
      · rcases fv_cases hl g.box c.fGroup with ⟨b, w1, w2, w3⟩ | ⟨w1, w2⟩
        · rw [u1, w1] at key
          rw [u2, w2]
          cases ha : c.fMore.any (fun x => (fnd l x).isNone) with
          | true =>
            rw [ha] at key
            obtain ⟨rfl, rfl⟩ := key
            simp only [Bool.or_true, if_true]
            have s0' := s0
            unfold none0 at s0' ⊢
            rw [s0']; rfl
          | false =>
            rw [ha] at key
            obtain ⟨S', hS', rfl, rfl⟩ := key
            have : S' = S := by rw [hS] at hS'; exact (Option.some.inj hS').symm
            subst this
            have k3 : (decide (a < 0) || decide (b < 0) || false) = false := by
              rw [decide_eq_false (by omega), decide_eq_false (by omega)]; rfl
            rw [k3, if_neg (by decide), if_pos rfl, same_refl n hn _ (by simp; omega)]
            rfl
        · rw [u1, w1] at key
          obtain ⟨rfl, rfl⟩ := key
          rw [w2]
          have s0' := s0
          unfold none0 at s0' ⊢
          simp [s0']
      · rw [u1] at key
        have key' : d = none0 ∧ de = 4 := by
          revert key
          cases fnd l c.fGroup <;> exact fun h => h
        obtain ⟨rfl, rfl⟩ := key'
        rw [u2]
        have s0' := s0
        unfold none0 at s0' ⊢
        simp [s0']
    · rw [if_neg hf] at key ⊢
      obtain ⟨rfl, rfl⟩ := key
      rw [if_pos rfl]
      have s0' := s0
      unfold none0 at s0' ⊢
      rw [s0']; rfl
  · have e1 : G_box_To n l v = some (0, e) := by unfold G_box_To; rw [hc, Option.bind_some, if_neg he]
    have e2 : G_box_From n l v = some (0, e) := by unfold G_box_From; rw [hc, Option.bind_some, if_neg he]
    have e3 : G_box_Cred n l c = some (none0, e) := by unfold G_box_Cred; rw [hc, Option.bind_some, if_neg he]; rfl
    rw [e1, Option.bind_some, e2, Option.bind_some, e3, Option.bind_some, htr, Option.bind_some, hr, Option.bind_some, hc, Option.bind_some, if_pos rfl, if_neg he]
    unfold G_ringlaw5_BoxSays_C1
    have s0' := s0
    unfold none0 at s0' ⊢
    simp [s0']
end Go.Proofs.Ytjjjaakefnnbpaa.boxSays
