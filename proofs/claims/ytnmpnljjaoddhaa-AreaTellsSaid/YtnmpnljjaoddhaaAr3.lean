/- Areas: the reference's pages and lists. -/
import Derived.Test.YtnmpnljjaoddhaaAr2
namespace Go.Proofs.Ytnmpnljjaoddhaa.areaT
open Go.RowKit help rep pv
set_option linter.all false

theorem getA_at {m : Nat} {β : Type} {B : Fin m → β} {j : Nat} (h : j < m) : getA B (j : Int) = some (B ⟨j, h⟩) := by
  unfold getA; rw [dif_pos (by omega)]; rfl
theorem setA_self {m : Nat} {β : Type} {B : Fin m → β} {j : Nat} {x : β} (h : j < m) : setA B (j : Int) x ⟨j, h⟩ = x := by unfold setA; simp
theorem setA_ne {m : Nat} {β : Type} {B : Fin m → β} {j : Nat} {x : β} {i : Fin m} (h : i.val ≠ j) : setA B (j : Int) x i = B i := by unfold setA; rw [if_neg (by simpa using h)]
def rt (a : A) : Prop := 0 ≤ a.fPage ∧ a.fPage < 64 ∧ 1 ≤ a.fN ∧ a.fN ≤ 64 - a.fPage ∧ 0 ≤ a.fRights ∧ a.fRights ≤ 7
instance (a : A) : Decidable (rt a) := by unfold rt; infer_instance
theorem right_any (n : Nat) (a : A) : G_area_right n a = some (decide (rt a)) := by
  have h : G_area_right_C1 n a = some (.x0 (decide (rt a))) := by
    unfold G_area_right_C1
    by_cases h1 : a.fPage ≥ 0
    · by_cases h2 : a.fPage < 64
      · have hw : wi .i64 (64 - a.fPage) = 64 - a.fPage := wi64 (by omega) (by omega)
        rw [if_pos h1, if_pos h2, hw]
        by_cases h3 : a.fN ≥ 1
        · by_cases h4 : a.fN ≤ 64 - a.fPage
          · by_cases h5 : a.fRights ≥ 0
            · rw [if_pos h3, if_pos h4, if_pos h5]
              congr 2
              exact decide_eq_decide.2 ⟨fun h => ⟨h1, h2, h3, h4, h5, h⟩, fun h => h.2.2.2.2.2⟩
            · rw [if_pos h3, if_pos h4, if_neg h5, decide_eq_false (fun h => h5 h.2.2.2.2.1)]
          · rw [if_pos h3, if_neg h4, decide_eq_false (fun h => h4 h.2.2.2.1)]
        · rw [if_neg h3, decide_eq_false (fun h => h3 h.2.2.1)]
      · rw [if_pos h1, if_neg h2, decide_eq_false (fun h => h2 h.2.1)]
    · rw [if_neg h1, decide_eq_false (fun h => h1 h.1)]
  unfold G_area_right; rw [h]; rfl
theorem in_any (n : Nat) (a b c : Int) : G_ringref2_In n a b c = some (decide (b ≤ a ∧ a ≤ c)) := by
  unfold G_ringref2_In
  by_cases h1 : a ≥ b
  · rw [if_pos h1]
    congr 1
    exact decide_eq_decide.2 ⟨fun h => ⟨h1, h⟩, fun h => h.2⟩
  · rw [if_neg h1, decide_eq_false (fun h => h1 h.1)]
theorem is_any (n : Nat) (a : A) : G_ringref2_AreaIs n a = some (decide (rt a)) := by
  have h : G_ringref2_AreaIs_C1 n a = some (.x0 (decide (rt a))) := by
    unfold G_ringref2_AreaIs_C1
    simp only [in_any, Option.bind_some, decide_eq_true_eq]
    by_cases h1 : 0 ≤ a.fPage ∧ a.fPage ≤ 63
    · have hw : wi .i64 (64 - a.fPage) = 64 - a.fPage := wi64 (by omega) (by omega)
      rw [if_pos h1, hw]
      by_cases h2 : 1 ≤ a.fN ∧ a.fN ≤ 64 - a.fPage
      · rw [if_pos h2]
        congr 2
        exact decide_eq_decide.2 ⟨fun h => ⟨h1.1, by omega, h2.1, h2.2, h.1, h.2⟩, fun h => ⟨h.2.2.2.2.1, h.2.2.2.2.2⟩⟩
      · rw [if_neg h2, decide_eq_false (fun h => h2 ⟨h.2.2.1, h.2.2.2.1⟩)]
    · rw [if_neg h1, decide_eq_false (fun h => h1 ⟨h.1, by have := h.2.1; omega⟩)]
  unfold G_ringref2_AreaIs; rw [h]; rfl
def pgF (l : List A) : Fin 64 → Int := fun p => pg l (p.val : Int)
theorem ap_l1 (n : Nat) (l : List A) : ∀ (k i : Nat), 64 - i < k → i ≤ 64 → G_ringref2_AreaPages_L1 n l k (i : Int) (fun p => if p.val < i then -1 else 0) = some (.x0 (fun _ => -1))
  | 0, i, h, _ => by omega
  | k + 1, i, h, hi => by
    rw [G_ringref2_AreaPages_L1]
    by_cases hlt : (i : Int) < 64
    · have hi6 : i < 64 := by omega
      rw [if_pos hlt, if_pos ⟨by omega, hlt⟩, getA_at hi6, Option.bind_some, wi_succ (by omega), ← ap_l1 n l k (i + 1) (by omega) (by omega)]
      congr 1
      funext p
      rcases Nat.lt_trichotomy p.val i with h' | h' | h'
      · rw [setA_ne (by omega), if_pos h', if_pos (by omega)]
      · have : p = ⟨i, hi6⟩ := Fin.ext h'
        rw [this, setA_self, if_pos (by simp)]
      · rw [setA_ne (by omega), if_neg (by omega), if_neg (by omega)]
    · rw [if_neg hlt]
      congr 2
      funext p
      rw [if_pos (by have := p.isLt; omega)]
/-- a stretch is said -/
def said (b : Fin 64 → Int) (f t r : Int) : Fin 64 → Int := fun p => if f ≤ (p.val : Int) ∧ (p.val : Int) < t then r else b p
theorem said_step {b : Fin 64 → Int} {P N i : Nat} {r : Int} (h : P + i < 64) (hi : i < N) : said (setA b ((P + i : Nat) : Int) r) ((P + (i + 1) : Nat) : Int) ((P + N : Nat) : Int) r = said b ((P + i : Nat) : Int) ((P + N : Nat) : Int) r := by
  funext p
  unfold said
  by_cases e : p.val = P + i
  · have : p = ⟨P + i, h⟩ := Fin.ext e
    rw [if_neg (by omega), if_pos (by omega), this, setA_self]
  · rw [setA_ne e]
    by_cases c : ((P + i : Nat) : Int) ≤ (p.val : Int) ∧ (p.val : Int) < ((P + N : Nat) : Int)
    · rw [if_pos (by omega), if_pos c]
    · rw [if_neg (by omega), if_neg c]
theorem said_none {b : Fin 64 → Int} {f t r : Int} (h : t ≤ f) : said b f t r = b := by
  funext p; unfold said; rw [if_neg (by omega)]
theorem ap_l3 (n : Nat) (l : List A) (x : Int) (P N : Nat) (r : Int) (hPN : P + N ≤ 64) : ∀ (k i : Nat) (b : Fin 64 → Int), N - i < k → i ≤ N → G_ringref2_AreaPages_L3 n l x ⟨(P : Int), (N : Int), r⟩ k (i : Int) b = some (.x0 (said b ((P + i : Nat) : Int) ((P + N : Nat) : Int) r))
  | 0, i, b, h, _ => by omega
  | k + 1, i, b, h, hi => by
    rw [G_ringref2_AreaPages_L3]
    simp only
    by_cases hlt : (i : Int) < (N : Int)
    · have e : wi .i64 ((P : Int) + (i : Int)) = ((P + i : Nat) : Int) := by rw [wi64 (by omega) (by omega)]; omega
      rw [if_pos hlt, e, if_pos ⟨by omega, by omega⟩, getA_at (show P + i < 64 by omega), Option.bind_some, wi_succ (by omega), ap_l3 n l x P N r hPN k (i + 1) _ (by omega) (by omega), said_step (by omega) (by omega)]
    · rw [if_neg hlt, said_none (by omega)]
theorem ap_l4 (n : Nat) (l : List A) (hl : l.length ≤ 1000) (hn : 101 ≤ n) : ∀ (k i : Nat) (b : Fin 64 → Int) (lo : Int), l.length - i < k → i ≤ l.length → 0 ≤ lo → Wk lo (l.drop i) →
    G_ringref2_AreaPages_L4 n l k (i : Int) b = some (.x0 (fun p => if pg (l.drop i) (p.val : Int) < 0 then b p else pg (l.drop i) (p.val : Int)))
  | 0, i, b, lo, h, _, _, _ => by omega
  | k + 1, i, b, lo, h, hi, hlo, hw => by
    rw [G_ringref2_AreaPages_L4]
    by_cases hlt : (i : Int) < (l.length : Int)
    · obtain ⟨⟨p, m, r⟩, ha⟩ := get_lt hlt
      rw [drop_cons ha] at hw ⊢
      obtain ⟨h1, h2, h3, h4, h5, h6⟩ := hw
      simp only at h1 h2 h3 h4 h5 h6
      obtain ⟨P, rfl⟩ := Int.eq_ofNat_of_zero_le (show 0 ≤ p by omega)
      obtain ⟨M, rfl⟩ := Int.eq_ofNat_of_zero_le (show 0 ≤ m by omega)
      have q := ap_l3 n l (i : Int) P M r (by omega) n 0 b (by omega) (by omega)
      have q : G_ringref2_AreaPages_L3 n l (i : Int) ⟨(P : Int), (M : Int), r⟩ n 0 b = _ := q
      rw [if_pos hlt, getI_nat, ha, Option.bind_some, q, Option.bind_some]
      dsimp only
      rw [wi_succ (by omega), ap_l4 n l hl hn k (i + 1) _ ((P : Int) + (M : Int)) (by omega) (by omega) (by omega) h6]
      congr 2
      funext z
      simp only [pg, said]
      by_cases c : (P : Int) ≤ (z.val : Int) ∧ (z.val : Int) < (P : Int) + (M : Int)
      · rw [if_pos c, pg_lt h6 (by omega), if_pos (by omega), if_pos (by omega), if_neg (by omega)]
      · rw [if_neg c, if_neg (by omega : ¬ (((P + 0 : Nat) : Int) ≤ (z.val : Int) ∧ (z.val : Int) < ((P + M : Nat) : Int)))]
    · rw [if_neg hlt, drop_end hlt]; simp [pg]
theorem pages_any (n : Nat) (l : List A) (hn : 1001 ≤ n) (hw : Wk 0 l) : G_ringref2_AreaPages n l = some (pgF l) := by
  have hl := wk_len hw
  unfold G_ringref2_AreaPages
  have h1 := ap_l1 n l n 0 (by omega) (by omega)
  have e : (fun p : Fin 64 => if p.val < 0 then (-1 : Int) else 0) = fun _ => 0 := by funext p; simp
  rw [e] at h1
  have h1 : G_ringref2_AreaPages_L1 n l n 0 (fun _ => 0) = _ := h1
  have h2 := ap_l4 n l (by omega) (by omega) n 0 (fun _ => -1) 0 (by omega) (by omega) (by omega) (by rw [List.drop_zero]; exact hw)
  rw [List.drop_zero] at h2
  have h2 : G_ringref2_AreaPages_L4 n l n 0 (fun _ => -1) = _ := h2
  rw [h1, Option.bind_some]
  dsimp only
  rw [h2, Option.bind_some]
  dsimp only
  congr 1
  funext p
  unfold pgF
  rcases pg_range (q := (p.val : Int)) hw with h | h
  · rw [h]; rfl
  · rw [if_neg (by omega)]
theorem tr_len : ∀ {l : List A} {k : Int}, (tr k l).length ≤ l.length
  | [], _ => by simp [tr]
  | a :: l, k => by
    rw [tr]; split
    · have := tr_len (l := l) (k := k); simp; omega
    · simp
theorem tr_N : ∀ {l : List A} {lo pr k : Int} {a : A}, Nm lo pr l → a ∈ tr k l → 0 ≤ a.fN ∧ a.fN ≤ 64 + (-lo)
  | [], _, _, _, _, _, h => by simp [tr] at h
  | b :: l, lo, pr, k, a, h, hm => by
    obtain ⟨h1, h2, h3, h4, h5, h6, h7⟩ := h
    rw [tr] at hm
    split at hm
    · rcases List.mem_cons.1 hm with rfl | hm
      · simp only; omega
      · have := tr_N h7 hm; omega
    · cases hm
theorem ao_l2 (n : Nat) (l : List A) (hl : l.length ≤ 1000) (hw : Nm 0 (-1) l) : ∀ (k i : Nat), 64 - i < k → i ≤ 64 → G_ringref2_AreasOf_L2 n (pgF l) k (i : Int) (tr (i : Int) l) = some (.x0 l)
  | 0, i, h, _ => by omega
  | k + 1, i, h, hi => by
    rw [G_ringref2_AreasOf_L2]
    by_cases hlt : (i : Int) < 64
    · have hi6 : i < 64 := by omega
      obtain ⟨s1, s2, s3⟩ := tr_step (pg l) (k := (i : Int)) hw (by omega) (fun q _ => rfl) (pg_lt (wk_of_nm hw) (by omega))
      have hC : G_ringref2_AreasOf_C1 n (i : Int) (pg l (i : Int)) (pgF l) (tr (i : Int) l) = some (.x0 (tr ((i : Int) + 1) l)) := by
        unfold G_ringref2_AreasOf_C1
        have hlen := tr_len (l := l) (k := (i : Int))
        have ha : app 24 (tr (i : Int) l) [S_area_Area.mk (i : Int) 1 (pg l (i : Int))] = some (tr (i : Int) l ++ [S_area_Area.mk (i : Int) 1 (pg l (i : Int))]) := app_some (by simp; omega) (by omega)
        by_cases c1 : pg l (i : Int) < 0
        · rw [if_pos c1, s1 c1]
        · rw [if_neg c1]
          by_cases c2 : (i : Int) > 0
          · have e1 : wi .i64 ((i : Int) - 1) = ((i - 1 : Nat) : Int) := by rw [wi64 (by omega) (by omega)]; omega
            have hv : pgF l ⟨i - 1, by omega⟩ = pg l ((i : Int) - 1) := by unfold pgF; congr 1; simp; omega
            rw [if_pos c2, e1, if_pos ⟨by omega, by omega⟩, getA_at (show i - 1 < 64 by omega), Option.bind_some, hv]
            by_cases c3 : pg l ((i : Int) - 1) = pg l (i : Int)
            · obtain ⟨w, a, w1, w2⟩ := s2 (by omega) c3
              have e2 : wi .i64 (((tr (i : Int) l).length : Int) - 1) = (w.length : Int) := by
                have hwl : (tr (i : Int) l).length = w.length + 1 := by rw [w1]; simp
                rw [hwl, wi64 (by omega) (by omega)]; omega
              have hb : 0 ≤ (w.length : Int) ∧ ((w.length : Int)).toNat < (tr (i : Int) l).length := by rw [w1]; simp
              have hx : (tr (i : Int) l)[((w.length : Int)).toNat]? = some a := by rw [w1, Int.toNat_natCast]; simp
              have hs : (tr (i : Int) l).set ((w.length : Int)).toNat ⟨a.fPage, wi .i64 (a.fN + 1), a.fRights⟩ = w ++ [⟨a.fPage, wi .i64 (a.fN + 1), a.fRights⟩] := by
                rw [w1, Int.toNat_natCast, List.set_append_right _ _ (Nat.le_refl _)]; simp
              rw [if_pos c3, e2, if_pos hb, hx, Option.bind_some, if_pos hb, Option.bind_some, hs, w2]
              have hN : wi .i64 (a.fN + 1) = a.fN + 1 := by
                have hm : (⟨a.fPage, a.fN + 1, a.fRights⟩ : A) ∈ tr ((i : Int) + 1) l := by rw [w2]; simp
                have hr := tr_N hw hm
                simp only at hr
                exact wi64 (by omega) (by omega)
              rw [hN]
            · rw [if_neg c3, ha, Option.bind_some, s3 (by omega) c3]
          · have hneg : pg l ((i : Int) - 1) = -1 := pg_lt (wk_of_nm hw) (by omega)
            rw [if_neg c2, ha, Option.bind_some, s3 (by omega) (by omega)]
      have hg : getA (pgF l) (i : Int) = some (pg l (i : Int)) := getA_at hi6
      rw [if_pos hlt, hg, Option.bind_some, hC, Option.bind_some]
      dsimp only
      rw [wi_succ (by omega)]
      exact ao_l2 n l hl hw k (i + 1) (by omega) (by omega)
    · have : (i : Int) = 64 := by omega
      rw [if_neg hlt, this, tr_all (wk_of_nm hw)]
end Go.Proofs.Ytnmpnljjaoddhaa.areaT
