/- AreaTells: the law, joined. -/
import Derived.Test.YtnmpnljjaoddhaaAr10
namespace Go.Proofs.Ytnmpnljjaoddhaa.areaT
open Go.RowKit help rep pv
set_option linter.all false

theorem said_pgF {l t : List A} {p m r : Int} (h : ∀ q, pg t q = if p ≤ q ∧ q < p + m then r else pg l q) : said (pgF l) p (p + m) r = pgF t := by
  funext z; unfold said pgF; rw [h]
theorem law (n : Nat) (hn : 1001 ≤ n) (l : List A) (x : A) : G_ringlaw2_AreaTells n l x = some true := by
  obtain ⟨r, c1, c2, c3⟩ := check_any n l hn
  unfold G_ringlaw2_AreaTells
  by_cases h0 : r = 0
  · subst h0
    have hw := c3 rfl
    have hwk := wk_of_nm hw
    have hl := wk_len hwk
    have hpages := pages_any n l hn hwk
    obtain ⟨rd, h1⟩ : ∃ rd, G_area_At n l x.fPage = some rd := by
      by_cases hp : 0 ≤ x.fPage ∧ x.fPage ≤ 63
      · exact ⟨_, at_ok n l hn c1 hw hp⟩
      · exact ⟨_, at_no n l hn c1 hw hp⟩
    obtain ⟨re, h2⟩ : ∃ re, G_area_Gap n l x.fN = some re := by
      by_cases hm : 1 ≤ x.fN ∧ x.fN ≤ 64
      · exact ⟨_, gap_ok n l hn c1 hw hm⟩
      · exact ⟨_, gap_no n l hn c1 hw hm⟩
    have hsame : ∀ t, Nm 0 (-1) t → G_ringref2_AreasOf n (pgF t) = some t ∧ G_ringref2_AreaSame n t t = some true := fun t ht =>
      ⟨areasOf_any n t hn ht, same_any n t (by have := wk_len (wk_of_nm ht); omega) hn⟩
    by_cases hx : rt x
    · have hx0 : rt ⟨x.fPage, x.fN, 0⟩ := ⟨hx.1, hx.2.1, hx.2.2.1, hx.2.2.2.1, by show (0 : Int) ≤ 0; omega, by show (0 : Int) ≤ 7; omega⟩
      have ht := tail_35 n l x rd re hn c1 hw h1 h2
      obtain ⟨o1, o2, o3⟩ := out_ok n l hn c1 hw hx0
      obtain ⟨p, m, rr⟩ := x
      have hx' := hx
      obtain ⟨r1, r2, r3, r4, r5, r6⟩ := hx'
      simp only at r1 r2 r3 r4 r5 r6 h1 h2 o1 o2 o3 hx0
      obtain ⟨P, rfl⟩ := Int.eq_ofNat_of_zero_le r1
      obtain ⟨M, rfl⟩ := Int.eq_ofNat_of_zero_le (show 0 ≤ m by omega)
      obtain ⟨ra, p1, p2⟩ : ∃ ra, G_area_Put n l ⟨(P : Int), (M : Int), rr⟩ = some ra ∧ ((free l (P : Int) (M : Int) ∧ ra.2 = 0 ∧ Nm 0 (-1) ra.1 ∧ ∀ q, pg ra.1 q = if (P : Int) ≤ q ∧ q < (P : Int) + M then rr else pg l q) ∨ (¬ free l (P : Int) (M : Int) ∧ ra = ([], 5))) := by
        by_cases hf : free l (P : Int) (M : Int)
        · obtain ⟨a1, a2, a3⟩ := put_free n l _ hn c1 hw hx hf
          exact ⟨_, a1, .inl ⟨hf, rfl, a2, a3⟩⟩
        · exact ⟨_, put_full n l _ hn c1 hw hx hf, .inr ⟨hf, rfl⟩⟩
      obtain ⟨rc, t1, t2⟩ : ∃ rc, G_area_Turn n l ⟨(P : Int), (M : Int), rr⟩ = some rc ∧ (((∀ q, (P : Int) ≤ q → q < (P : Int) + M → 0 ≤ pg l q) ∧ rc.2 = 0 ∧ Nm 0 (-1) rc.1 ∧ ∀ q, pg rc.1 q = if (P : Int) ≤ q ∧ q < (P : Int) + M then rr else pg l q) ∨ ((¬ ∀ q, (P : Int) ≤ q → q < (P : Int) + M → 0 ≤ pg l q) ∧ rc = ([], 11))) := by
        by_cases hf : ∀ q, (P : Int) ≤ q → q < (P : Int) + M → 0 ≤ pg l q
        · obtain ⟨t, a1, a2, a3⟩ := turn_ok n l _ hn c1 hw hx hf
          exact ⟨_, a1, .inl ⟨hf, rfl, a2, a3⟩⟩
        · exact ⟨_, turn_no n l _ hn c1 hw hx hf, .inr ⟨hf, rfl⟩⟩
      have s1 := set_1 n l ra (ct (P : Int) ((P : Int) + M) l, 0) rc rd re (pgF l) P M rr (by omega) n 0 (pgF l) (pgF l) (by omega) (by omega)
      have e0 : ((P + 0 : Nat) : Int) = (P : Int) := by omega
      have e1 : ((P + M : Nat) : Int) = (P : Int) + M := by omega
      rw [e0, e1] at s1
      have s1 : G_ringlaw2_AreaTells_L29 n l ra (ct (P : Int) ((P : Int) + M) l, 0) rc rd re ⟨(P : Int), (M : Int), rr⟩ (pgF l) n 0 (pgF l) (pgF l) = _ := s1
      have s2 := fun y w => out_30 n l ra (ct (P : Int) ((P : Int) + M) l, 0) rc rd re (pgF l) y w P M rr (by omega) n 0 (pgF l) (by omega) (by omega)
      simp only [e0, e1] at s2
      have s2 : ∀ y w, G_ringlaw2_AreaTells_L30 n l ra (ct (P : Int) ((P : Int) + M) l, 0) rc rd re ⟨(P : Int), (M : Int), rr⟩ (pgF l) y w n 0 (pgF l) = _ := s2
      obtain ⟨u, v, q1, q2, q3⟩ := codes_31 n l l ra (ct (P : Int) ((P : Int) + M) l, 0) rc rd re (said (pgF l) (P : Int) ((P : Int) + M) rr) (said (pgF l) (P : Int) ((P : Int) + M) (-1)) (said (pgF l) (P : Int) ((P : Int) + M) rr) P M rr hx n 0 0 0 (by omega) (by omega)
      simp only [Int.ofNat_zero, Int.natCast_zero, Int.add_zero] at q2 q3
      have q1 : G_ringlaw2_AreaTells_L31 n l ra (ct (P : Int) ((P : Int) + M) l, 0) rc rd re ⟨(P : Int), (M : Int), rr⟩ (pgF l) (said (pgF l) (P : Int) ((P : Int) + M) rr) (said (pgF l) (P : Int) ((P : Int) + M) (-1)) (said (pgF l) (P : Int) ((P : Int) + M) rr) n 0 0 0 = _ := q1
      have hput : ra.2 = u ∧ (u ≠ 0 → ra.1 = []) ∧ (u = 0 → Nm 0 (-1) ra.1 ∧ said (pgF l) (P : Int) ((P : Int) + M) rr = pgF ra.1) := by
        rcases p2 with ⟨f1, f2, f3, f4⟩ | ⟨f1, f2⟩ <;> rcases q2 with ⟨g1, g2⟩ | ⟨g1, g2⟩
        · exact ⟨by omega, fun h => absurd g2 h, fun _ => ⟨f3, said_pgF f4⟩⟩
        · exact absurd f1 g1
        · exact absurd g1 f1
        · subst f2; exact ⟨g2.symm, fun _ => rfl, fun h => by omega⟩
      have hturn : rc.2 = v ∧ (v ≠ 0 → rc.1 = []) ∧ (v = 0 → Nm 0 (-1) rc.1 ∧ said (pgF l) (P : Int) ((P : Int) + M) rr = pgF rc.1) := by
        rcases t2 with ⟨f1, f2, f3, f4⟩ | ⟨f1, f2⟩ <;> rcases q3 with ⟨g1, g2⟩ | ⟨g1, g2⟩
        · exact ⟨by omega, fun h => absurd g2 h, fun _ => ⟨f3, said_pgF f4⟩⟩
        · exact absurd f1 g1
        · exact absurd g1 f1
        · subst f2; exact ⟨g2.symm, fun _ => rfl, fun h => by omega⟩
      have hz := said_pgF o3
      have w1 := k32 n l ra (ct (P : Int) ((P : Int) + M) l, 0) rc rd re u v ⟨(P : Int), (M : Int), rr⟩ (pgF l) (said (pgF l) (P : Int) ((P : Int) + M) rr) (said (pgF l) (P : Int) ((P : Int) + M) (-1)) (said (pgF l) (P : Int) ((P : Int) + M) rr) hput.1 rfl hturn.1 hput.2.1 hturn.2.1
      have w2 := k33 n l ra (ct (P : Int) ((P : Int) + M) l, 0) rc rd re u v ⟨(P : Int), (M : Int), rr⟩ (pgF l) (said (pgF l) (P : Int) ((P : Int) + M) rr) (said (pgF l) (P : Int) ((P : Int) + M) (-1)) (said (pgF l) (P : Int) ((P : Int) + M) rr)
        (fun h => by obtain ⟨a, b⟩ := hput.2.2 h; rw [b]; exact hsame _ a) (by rw [hz]; exact hsame _ o2) (fun h => by obtain ⟨a, b⟩ := hturn.2.2 h; rw [b]; exact hsame _ a)
      simp only [p1, o1, t1, h1, h2, c1, c2, Option.bind_some, if_true, hpages, is_any, decide_eq_true hx, decide_eq_true hx0, s1, s2, q1, w1, w2, Bool.false_eq_true, if_false]
      exact ht
    · have hput : G_area_Put n l x = some ([], 1) := by
        unfold G_area_Put
        rw [check_ok n l _ c1, if_neg hx, Option.bind_some, if_neg (by decide)]
      have hturn : G_area_Turn n l x = some ([], 1) := by
        unfold G_area_Turn
        rw [check_ok n l _ c1, if_neg hx, Option.bind_some, if_neg (by decide)]
      obtain ⟨n', hn'⟩ : ∃ n', n = n' + 1 := ⟨n - 1, by omega⟩
      by_cases hx0 : rt ⟨x.fPage, x.fN, 0⟩
      · have ht := tail_17 n l x rd re hn c1 hw h1 h2
        obtain ⟨o1, o2, o3⟩ := out_ok n l hn c1 hw hx0
        have h11 : ∀ rb, G_ringlaw2_AreaTells_L11 n l ([], 1) rb ([], 1) rd re x (pgF l) n 0 = some .x0 := fun rb => by rw [hn']; rfl
        have h13 : ∀ rb z, G_ringlaw2_AreaTells_L13 n l ([], 1) rb ([], 1) rd re x (pgF l) z n 1 1 0 = some (.x0 1 1) := fun rb z => by
          rw [show G_ringlaw2_AreaTells_L13 n l ([], 1) rb ([], 1) rd re x (pgF l) z n 1 1 0 = G_ringlaw2_AreaTells_L13 n l ([], 1) rb ([], 1) rd re x (pgF l) z (n' + 1) 1 1 0 by rw [← hn'], G_ringlaw2_AreaTells_L13, is_any, Option.bind_some, decide_eq_false hx, if_neg (by decide)]
        have hz := said_pgF o3
        have h12 : ∀ rb, G_ringlaw2_AreaTells_L12 n l ([], 1) rb ([], 1) rd re x (pgF l) n 0 (pgF l) = some (.x0 (pgF (ct x.fPage (x.fPage + x.fN) l))) := fun rb => by
          obtain ⟨p, m, rr⟩ := x
          obtain ⟨r1, r2, r3, r4, r5, r6⟩ := hx0
          simp only at r1 r2 r3 r4 hz ⊢
          obtain ⟨P, rfl⟩ := Int.eq_ofNat_of_zero_le r1
          obtain ⟨M, rfl⟩ := Int.eq_ofNat_of_zero_le (show 0 ≤ m by omega)
          have s := out_12 n l ([], 1) rb ([], 1) rd re (pgF l) P M rr (by omega) n 0 (pgF l) (by omega) (by omega)
          rw [show ((P + 0 : Nat) : Int) = (P : Int) by omega, show ((P + M : Nat) : Int) = (P : Int) + M by omega, hz] at s
          exact s
        simp only [hput, o1, hturn, h1, h2, c1, c2, Option.bind_some, if_true, hpages, is_any, decide_eq_false hx, decide_eq_true hx0, h11, h12, h13, k14 n l ([], 1) (ct x.fPage (x.fPage + x.fN) l, 0) ([], 1) rd re x (pgF l) (pgF (ct x.fPage (x.fPage + x.fN) l)) rfl rfl rfl,
          k15 n l ([], 1) (ct x.fPage (x.fPage + x.fN) l, 0) ([], 1) rd re x (pgF l) (pgF (ct x.fPage (x.fPage + x.fN) l)) (hsame _ o2), Bool.false_eq_true, if_false]
        exact ht
      · have ht := tail_8 n l x rd re hn c1 hw h1 h2
        have hout : G_area_Out n l x.fPage x.fN = some ([], 1) := by
          unfold G_area_Out
          rw [check_ok n l _ c1, if_neg hx0, Option.bind_some, if_neg (by decide)]
        have hl2 : G_ringlaw2_AreaTells_L2 n l ([], 1) ([], 1) ([], 1) rd re x (pgF l) n 0 = some .x0 := by rw [hn']; rfl
        have hl3 : G_ringlaw2_AreaTells_L3 n l ([], 1) ([], 1) ([], 1) rd re x (pgF l) n 0 = some .x0 := by rw [hn']; rfl
        have hl4 : G_ringlaw2_AreaTells_L4 n l ([], 1) ([], 1) ([], 1) rd re x (pgF l) n 1 1 0 = some (.x0 1 1) := by
          rw [show G_ringlaw2_AreaTells_L4 n l ([], 1) ([], 1) ([], 1) rd re x (pgF l) n 1 1 0 = G_ringlaw2_AreaTells_L4 n l ([], 1) ([], 1) ([], 1) rd re x (pgF l) (n' + 1) 1 1 0 by rw [← hn'], G_ringlaw2_AreaTells_L4, is_any, Option.bind_some, decide_eq_false hx, if_neg (by decide)]
        simp only [hput, hout, hturn, h1, h2, c1, c2, Option.bind_some, if_true, hpages, is_any, decide_eq_false hx, decide_eq_false hx0, hl2, hl3, hl4, k5 n l ([], 1) ([], 1) ([], 1) rd re x (pgF l) rfl rfl rfl, k6, Bool.false_eq_true, if_false]
        exact ht
  · have hb := fun a => check_bad n l a r c1 h0
    unfold G_area_Put G_area_Out G_area_Turn G_area_At G_area_Gap
    simp only [hb, Option.bind_some, if_neg h0, c1, c2, if_true]
    unfold G_ringlaw2_AreaTells_C1
    have e : wi .i64 (wi .i64 ((([] : List A).length : Int) + (([] : List A).length : Int)) + (([] : List A).length : Int)) = 0 := rfl
    have e2 : eqRes .eql (eqS_area_Area (⟨0, 0, 0⟩ : A) ⟨0, 0, 0⟩) = true := by rw [eqR_refl]; rfl
    simp only [e, e2, if_true, Bool.false_eq_true, if_false, Option.bind_some, beq_self_eq_true]
end Go.Proofs.Ytnmpnljjaoddhaa.areaT
