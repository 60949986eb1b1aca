/- Areas: the law's loops (written by mkarea.py). -/
import Derived.Test.YtnmpnljjaoddhaaAr7
import Derived.Test.YtnmpnljjaoddhaaSpAr
namespace Go.Proofs.Ytnmpnljjaoddhaa.areaT
open Go.RowKit help rep pv
set_option linter.all false

theorem has_any (n : Nat) (l : List A) (hn : 1001 ≤ n) (f M : Nat) (h : f + M ≤ 64) : ∃ b : Bool, G_slices_ContainsFunc_int_int n (((List.ofFn (pgF l)).drop ((f : Int)).toNat).take ((((f + M : Nat) : Int)).toNat - ((f : Int)).toNat)) (fun (y0 : Int) => G_ringlaw2_AreaTells_1 n y0) = some b ∧ (b = false ↔ free l (f : Int) (M : Int)) := by
  refine ⟨_, G_slices_ContainsFunc_int_int_sp (f := fun y0 => G_ringlaw2_AreaTells_1 n y0) (fun y => decide (y ≥ 0)) (fun y _ => rfl) (by simp; omega) (by simp; omega), ?_⟩
  rw [Int.toNat_natCast, Int.toNat_natCast, List.any_eq_false]
  constructor
  · intro hf q h1 h2
    obtain ⟨Q, rfl⟩ := Int.eq_ofNat_of_zero_le (show 0 ≤ q by omega)
    have hm : pg l (Q : Int) ∈ ((List.ofFn (pgF l)).drop f).take (f + M - f) := by
      apply List.mem_of_getElem? (i := Q - f)
      rw [List.getElem?_take_of_lt (by omega), List.getElem?_drop, show f + (Q - f) = Q by omega, List.getElem?_ofFn, dif_pos (by omega)]
      rfl
    have := hf _ hm
    simpa using this
  · intro hf y hy
    obtain ⟨i, hi⟩ := List.getElem?_of_mem hy
    have hil : i < f + M - f := by have := (List.getElem?_eq_some_iff.1 hi).1; simp at this; omega
    rw [List.getElem?_take_of_lt hil, List.getElem?_drop, List.getElem?_ofFn, dif_pos (by omega)] at hi
    have := hf ((f + i : Nat) : Int) (by omega) (by omega)
    have hy2 : y = pg l ((f + i : Nat) : Int) := (Option.some.inj hi).symm
    rw [hy2]
    simpa using this
theorem set_1 (n : Nat) (l : List A) (ra rb rc : List A × Int) (rd : A × Bool × Int) (re : Int × Int) (pp : Fin 64 → Int) (P N : Nat) (r : Int) (hPN : P + N ≤ 64) : ∀ (k i : Nat) (b c : Fin 64 → Int), N - i < k → i ≤ N →
    G_ringlaw2_AreaTells_L29 n l ra rb rc rd re ⟨(P : Int), (N : Int), r⟩ pp k (i : Int) b c = some (.x0 (said b ((P + i : Nat) : Int) ((P + N : Nat) : Int) r) (said c ((P + i : Nat) : Int) ((P + N : Nat) : Int) r))
  | 0, i, b, c, h, _ => by omega
  | k + 1, i, b, c, h, hi => by
    rw [G_ringlaw2_AreaTells_L29]
    simp only
    by_cases hlt : (i : Int) < (N : Int)
    · have e : wi .i64 ((P : Int) + (i : Int)) = ((P + i : Nat) : Int) := by rw [wi64 (by omega) (by omega)]; omega
      have hq : 0 ≤ ((P + i : Nat) : Int) ∧ ((P + i : Nat) : Int) < (64 : Int) := by omega
      rw [if_pos hlt, e, if_pos hq, getA_at (show P + i < 64 by omega), Option.bind_some, if_pos hq, getA_at (show P + i < 64 by omega), Option.bind_some, wi_succ (by omega), set_1 n l ra rb rc rd re pp P N r hPN k (i + 1) _ _ (by omega) (by omega), said_step (by omega) (by omega), said_step (by omega) (by omega)]
    · rw [if_neg hlt, said_none (by omega), said_none (by omega)]
theorem out_30 (n : Nat) (l : List A) (ra rb rc : List A × Int) (rd : A × Bool × Int) (re : Int × Int) (pp : Fin 64 → Int) (y w : Fin 64 → Int) (P N : Nat) (r : Int) (hPN : P + N ≤ 64) : ∀ (k i : Nat) (b : Fin 64 → Int), N - i < k → i ≤ N →
    G_ringlaw2_AreaTells_L30 n l ra rb rc rd re ⟨(P : Int), (N : Int), r⟩ pp y w k (i : Int) b = some (.x0 (said b ((P + i : Nat) : Int) ((P + N : Nat) : Int) (-1)))
  | 0, i, b, h, _ => by omega
  | k + 1, i, b, h, hi => by
    rw [G_ringlaw2_AreaTells_L30]
    simp only
    by_cases hlt : (i : Int) < (N : Int)
    · have e : wi .i64 ((P : Int) + (i : Int)) = ((P + i : Nat) : Int) := by rw [wi64 (by omega) (by omega)]; omega
      have hq : 0 ≤ ((P + i : Nat) : Int) ∧ ((P + i : Nat) : Int) < (64 : Int) := by omega
      rw [if_pos hlt, e, if_pos hq, getA_at (show P + i < 64 by omega), Option.bind_some, wi_succ (by omega), out_30 n l ra rb rc rd re pp y w P N r hPN k (i + 1) _ (by omega) (by omega), said_step (by omega) (by omega)]
    · rw [if_neg hlt, said_none (by omega)]
theorem out_12 (n : Nat) (l : List A) (ra rb rc : List A × Int) (rd : A × Bool × Int) (re : Int × Int) (pp : Fin 64 → Int) (P N : Nat) (r : Int) (hPN : P + N ≤ 64) : ∀ (k i : Nat) (b : Fin 64 → Int), N - i < k → i ≤ N →
    G_ringlaw2_AreaTells_L12 n l ra rb rc rd re ⟨(P : Int), (N : Int), r⟩ pp k (i : Int) b = some (.x0 (said b ((P + i : Nat) : Int) ((P + N : Nat) : Int) (-1)))
  | 0, i, b, h, _ => by omega
  | k + 1, i, b, h, hi => by
    rw [G_ringlaw2_AreaTells_L12]
    simp only
    by_cases hlt : (i : Int) < (N : Int)
    · have e : wi .i64 ((P : Int) + (i : Int)) = ((P + i : Nat) : Int) := by rw [wi64 (by omega) (by omega)]; omega
      have hq : 0 ≤ ((P + i : Nat) : Int) ∧ ((P + i : Nat) : Int) < (64 : Int) := by omega
      rw [if_pos hlt, e, if_pos hq, getA_at (show P + i < 64 by omega), Option.bind_some, wi_succ (by omega), out_12 n l ra rb rc rd re pp P N r hPN k (i + 1) _ (by omega) (by omega), said_step (by omega) (by omega)]
    · rw [if_neg hlt, said_none (by omega)]
theorem want_35 (n : Nat) (rd : A × Bool × Int) (re : Int × Int) (l : List A) (x : A) (pp : Fin 64 → Int) (hl : l.length ≤ 1000) : ∀ (k i : Nat) (b : A) (lo : Int), l.length - i < k → i ≤ l.length → 0 ≤ lo → Wk lo (l.drop i) →
    G_ringlaw2_AreaTells_L35 n rd re l x pp k (i : Int) b = some (.x0 (match own_ x.fPage (l.drop i) with | some a => a | none => b))
  | 0, i, b, lo, h, _, _, _ => by omega
  | k + 1, i, b, lo, h, hi, hlo, hw => by
    rw [G_ringlaw2_AreaTells_L35]
    by_cases hlt : (i : Int) < (l.length : Int)
    · obtain ⟨a, ha⟩ := get_lt hlt
      rw [drop_cons ha] at hw ⊢
      obtain ⟨h1, h2, h3, h4, h5, h6⟩ := hw
      have e1 : wi .i64 (a.fPage + a.fN) = a.fPage + a.fN := wi64 (by omega) (by omega)
      have e2 : wi .i64 (a.fPage + a.fN - 1) = a.fPage + a.fN - 1 := wi64 (by omega) (by omega)
      rw [if_pos hlt, getI_nat, ha, Option.bind_some, in_any, Option.bind_some, e1, e2, wi_succ (by omega), own_]
      by_cases c : a.fPage ≤ x.fPage ∧ x.fPage < a.fPage + a.fN
      · rw [decide_eq_true (by omega), if_pos rfl, if_pos c, want_35 n rd re l x pp hl k (i + 1) a (a.fPage + a.fN) (by omega) (by omega) (by omega) h6, own_lt h6 c.2]
      · rw [decide_eq_false (by omega), if_neg (by decide), if_neg c, want_35 n rd re l x pp hl k (i + 1) b (a.fPage + a.fN) (by omega) (by omega) (by omega) h6]
    · rw [if_neg hlt, drop_end hlt]; rfl
theorem want_17 (n : Nat) (rd : A × Bool × Int) (re : Int × Int) (l : List A) (x : A) (pp : Fin 64 → Int) (hl : l.length ≤ 1000) : ∀ (k i : Nat) (b : A) (lo : Int), l.length - i < k → i ≤ l.length → 0 ≤ lo → Wk lo (l.drop i) →
    G_ringlaw2_AreaTells_L17 n rd re l x pp k (i : Int) b = some (.x0 (match own_ x.fPage (l.drop i) with | some a => a | none => b))
  | 0, i, b, lo, h, _, _, _ => by omega
  | k + 1, i, b, lo, h, hi, hlo, hw => by
    rw [G_ringlaw2_AreaTells_L17]
    by_cases hlt : (i : Int) < (l.length : Int)
    · obtain ⟨a, ha⟩ := get_lt hlt
      rw [drop_cons ha] at hw ⊢
      obtain ⟨h1, h2, h3, h4, h5, h6⟩ := hw
      have e1 : wi .i64 (a.fPage + a.fN) = a.fPage + a.fN := wi64 (by omega) (by omega)
      have e2 : wi .i64 (a.fPage + a.fN - 1) = a.fPage + a.fN - 1 := wi64 (by omega) (by omega)
      rw [if_pos hlt, getI_nat, ha, Option.bind_some, in_any, Option.bind_some, e1, e2, wi_succ (by omega), own_]
      by_cases c : a.fPage ≤ x.fPage ∧ x.fPage < a.fPage + a.fN
      · rw [decide_eq_true (by omega), if_pos rfl, if_pos c, want_17 n rd re l x pp hl k (i + 1) a (a.fPage + a.fN) (by omega) (by omega) (by omega) h6, own_lt h6 c.2]
      · rw [decide_eq_false (by omega), if_neg (by decide), if_neg c, want_17 n rd re l x pp hl k (i + 1) b (a.fPage + a.fN) (by omega) (by omega) (by omega) h6]
    · rw [if_neg hlt, drop_end hlt]; rfl
theorem want_8 (n : Nat) (rd : A × Bool × Int) (re : Int × Int) (l : List A) (x : A) (pp : Fin 64 → Int) (hl : l.length ≤ 1000) : ∀ (k i : Nat) (b : A) (lo : Int), l.length - i < k → i ≤ l.length → 0 ≤ lo → Wk lo (l.drop i) →
    G_ringlaw2_AreaTells_L8 n rd re l x pp k (i : Int) b = some (.x0 (match own_ x.fPage (l.drop i) with | some a => a | none => b))
  | 0, i, b, lo, h, _, _, _ => by omega
  | k + 1, i, b, lo, h, hi, hlo, hw => by
    rw [G_ringlaw2_AreaTells_L8]
    by_cases hlt : (i : Int) < (l.length : Int)
    · obtain ⟨a, ha⟩ := get_lt hlt
      rw [drop_cons ha] at hw ⊢
      obtain ⟨h1, h2, h3, h4, h5, h6⟩ := hw
      have e1 : wi .i64 (a.fPage + a.fN) = a.fPage + a.fN := wi64 (by omega) (by omega)
      have e2 : wi .i64 (a.fPage + a.fN - 1) = a.fPage + a.fN - 1 := wi64 (by omega) (by omega)
      rw [if_pos hlt, getI_nat, ha, Option.bind_some, in_any, Option.bind_some, e1, e2, wi_succ (by omega), own_]
      by_cases c : a.fPage ≤ x.fPage ∧ x.fPage < a.fPage + a.fN
      · rw [decide_eq_true (by omega), if_pos rfl, if_pos c, want_8 n rd re l x pp hl k (i + 1) a (a.fPage + a.fN) (by omega) (by omega) (by omega) h6, own_lt h6 c.2]
      · rw [decide_eq_false (by omega), if_neg (by decide), if_neg c, want_8 n rd re l x pp hl k (i + 1) b (a.fPage + a.fN) (by omega) (by omega) (by omega) h6]
    · rw [if_neg hlt, drop_end hlt]; rfl
theorem gap_37 (n : Nat) (l : List A) (p r : Int) (M : Nat) (hn : 1001 ≤ n) (hM : 1 ≤ M ∧ M ≤ 64) (hw : Wk 0 l) (o : Option Int) (ho : gp (M : Int) 0 l = o) : ∀ (k f : Nat), 65 - f < k → f ≤ 65 → (∀ z, o = some z → (f : Int) ≤ z) →
    G_ringlaw2_AreaTells_L37 n (match (generalizing := false) o with | some z => (z, 0) | none => (0, 6)) ⟨p, (M : Int), r⟩ (pgF l) k (f : Int) = some (match (generalizing := false) o with | some _ => .x0 true | none => .x1)
  | 0, f, h, _, _ => by omega
  | k + 1, f, h, hf, hz => by
    have hs := gp_spec (n := (M : Int)) (by omega) hw
    rw [ho] at hs
    rw [G_ringlaw2_AreaTells_L37]
    simp only
    have e1 : wi .i64 ((f : Int) + (M : Int)) = ((f + M : Nat) : Int) := by rw [wi64 (by omega) (by omega)]; omega
    rw [e1]
    by_cases c : ((f + M : Nat) : Int) ≤ 64
    · have hq : 0 ≤ (f : Int) ∧ (f : Int) ≤ ((f + M : Nat) : Int) ∧ ((f + M : Nat) : Int) ≤ (64 : Int) ∧ (f : Int) < (64 : Int) := by omega
      obtain ⟨b, b1, b2⟩ := has_any n l hn f M (by omega)
      rw [if_pos c, if_pos hq, b1, Option.bind_some]
      cases o with
      | none =>
        have hb : b = true := by
          cases b with
          | true => rfl
          | false => exact absurd (b2.1 rfl) (hs (f : Int) (by omega) (by omega))
        rw [hb, if_pos rfl, wi_succ (by omega)]
        exact gap_37 n l p r M hn hM hw none ho k (f + 1) (by omega) (by omega) (fun z hz => by cases hz)
      | some z =>
        obtain ⟨s1, s2, s3, s4⟩ := hs
        have hfz := hz z rfl
        by_cases d : (f : Int) = z
        · have hb : b = false := b2.2 (by rw [d]; exact s3)
          rw [hb, if_neg (by decide)]
          simp only
          rw [if_pos d.symm]; rfl
        · have hb : b = true := by
            cases b with
            | true => rfl
            | false => exact absurd (b2.1 rfl) (s4 (f : Int) (by omega) (by omega))
          rw [hb, if_pos rfl, wi_succ (by omega)]
          exact gap_37 n l p r M hn hM hw (some z) ho k (f + 1) (by omega) (by omega) (fun z' hz' => by cases hz'; omega)
    · rw [if_neg c]
      cases o with
      | none => rfl
      | some z =>
        obtain ⟨s1, s2, s3, s4⟩ := hs
        have := hz z rfl
        omega
theorem gap_34 (n : Nat) (l : List A) (p r : Int) (M : Nat) (hn : 1001 ≤ n) (hM : 1 ≤ M ∧ M ≤ 64) (hw : Wk 0 l) (o : Option Int) (ho : gp (M : Int) 0 l = o) : ∀ (k f : Nat), 65 - f < k → f ≤ 65 → (∀ z, o = some z → (f : Int) ≤ z) →
    G_ringlaw2_AreaTells_L34 n (match (generalizing := false) o with | some z => (z, 0) | none => (0, 6)) ⟨p, (M : Int), r⟩ (pgF l) k (f : Int) = some (match (generalizing := false) o with | some _ => .x0 true | none => .x1)
  | 0, f, h, _, _ => by omega
  | k + 1, f, h, hf, hz => by
    have hs := gp_spec (n := (M : Int)) (by omega) hw
    rw [ho] at hs
    rw [G_ringlaw2_AreaTells_L34]
    simp only
    have e1 : wi .i64 ((f : Int) + (M : Int)) = ((f + M : Nat) : Int) := by rw [wi64 (by omega) (by omega)]; omega
    rw [e1]
    by_cases c : ((f + M : Nat) : Int) ≤ 64
    · have hq : 0 ≤ (f : Int) ∧ (f : Int) ≤ ((f + M : Nat) : Int) ∧ ((f + M : Nat) : Int) ≤ (64 : Int) ∧ (f : Int) < (64 : Int) := by omega
      obtain ⟨b, b1, b2⟩ := has_any n l hn f M (by omega)
      rw [if_pos c, if_pos hq, b1, Option.bind_some]
      cases o with
      | none =>
        have hb : b = true := by
          cases b with
          | true => rfl
          | false => exact absurd (b2.1 rfl) (hs (f : Int) (by omega) (by omega))
        rw [hb, if_pos rfl, wi_succ (by omega)]
        exact gap_34 n l p r M hn hM hw none ho k (f + 1) (by omega) (by omega) (fun z hz => by cases hz)
      | some z =>
        obtain ⟨s1, s2, s3, s4⟩ := hs
        have hfz := hz z rfl
        by_cases d : (f : Int) = z
        · have hb : b = false := b2.2 (by rw [d]; exact s3)
          rw [hb, if_neg (by decide)]
          simp only
          rw [if_pos d.symm]; rfl
        · have hb : b = true := by
            cases b with
            | true => rfl
            | false => exact absurd (b2.1 rfl) (s4 (f : Int) (by omega) (by omega))
          rw [hb, if_pos rfl, wi_succ (by omega)]
          exact gap_34 n l p r M hn hM hw (some z) ho k (f + 1) (by omega) (by omega) (fun z' hz' => by cases hz'; omega)
    · rw [if_neg c]
      cases o with
      | none => rfl
      | some z =>
        obtain ⟨s1, s2, s3, s4⟩ := hs
        have := hz z rfl
        omega
theorem gap_19 (n : Nat) (l : List A) (p r : Int) (M : Nat) (hn : 1001 ≤ n) (hM : 1 ≤ M ∧ M ≤ 64) (hw : Wk 0 l) (o : Option Int) (ho : gp (M : Int) 0 l = o) : ∀ (k f : Nat), 65 - f < k → f ≤ 65 → (∀ z, o = some z → (f : Int) ≤ z) →
    G_ringlaw2_AreaTells_L19 n (match (generalizing := false) o with | some z => (z, 0) | none => (0, 6)) ⟨p, (M : Int), r⟩ (pgF l) k (f : Int) = some (match (generalizing := false) o with | some _ => .x0 true | none => .x1)
  | 0, f, h, _, _ => by omega
  | k + 1, f, h, hf, hz => by
    have hs := gp_spec (n := (M : Int)) (by omega) hw
    rw [ho] at hs
    rw [G_ringlaw2_AreaTells_L19]
    simp only
    have e1 : wi .i64 ((f : Int) + (M : Int)) = ((f + M : Nat) : Int) := by rw [wi64 (by omega) (by omega)]; omega
    rw [e1]
    by_cases c : ((f + M : Nat) : Int) ≤ 64
    · have hq : 0 ≤ (f : Int) ∧ (f : Int) ≤ ((f + M : Nat) : Int) ∧ ((f + M : Nat) : Int) ≤ (64 : Int) ∧ (f : Int) < (64 : Int) := by omega
      obtain ⟨b, b1, b2⟩ := has_any n l hn f M (by omega)
      rw [if_pos c, if_pos hq, b1, Option.bind_some]
      cases o with
      | none =>
        have hb : b = true := by
          cases b with
          | true => rfl
          | false => exact absurd (b2.1 rfl) (hs (f : Int) (by omega) (by omega))
        rw [hb, if_pos rfl, wi_succ (by omega)]
        exact gap_19 n l p r M hn hM hw none ho k (f + 1) (by omega) (by omega) (fun z hz => by cases hz)
      | some z =>
        obtain ⟨s1, s2, s3, s4⟩ := hs
        have hfz := hz z rfl
        by_cases d : (f : Int) = z
        · have hb : b = false := b2.2 (by rw [d]; exact s3)
          rw [hb, if_neg (by decide)]
          simp only
          rw [if_pos d.symm]; rfl
        · have hb : b = true := by
            cases b with
            | true => rfl
            | false => exact absurd (b2.1 rfl) (s4 (f : Int) (by omega) (by omega))
          rw [hb, if_pos rfl, wi_succ (by omega)]
          exact gap_19 n l p r M hn hM hw (some z) ho k (f + 1) (by omega) (by omega) (fun z' hz' => by cases hz'; omega)
    · rw [if_neg c]
      cases o with
      | none => rfl
      | some z =>
        obtain ⟨s1, s2, s3, s4⟩ := hs
        have := hz z rfl
        omega
theorem gap_16 (n : Nat) (l : List A) (p r : Int) (M : Nat) (hn : 1001 ≤ n) (hM : 1 ≤ M ∧ M ≤ 64) (hw : Wk 0 l) (o : Option Int) (ho : gp (M : Int) 0 l = o) : ∀ (k f : Nat), 65 - f < k → f ≤ 65 → (∀ z, o = some z → (f : Int) ≤ z) →
    G_ringlaw2_AreaTells_L16 n (match (generalizing := false) o with | some z => (z, 0) | none => (0, 6)) ⟨p, (M : Int), r⟩ (pgF l) k (f : Int) = some (match (generalizing := false) o with | some _ => .x0 true | none => .x1)
  | 0, f, h, _, _ => by omega
  | k + 1, f, h, hf, hz => by
    have hs := gp_spec (n := (M : Int)) (by omega) hw
    rw [ho] at hs
    rw [G_ringlaw2_AreaTells_L16]
    simp only
    have e1 : wi .i64 ((f : Int) + (M : Int)) = ((f + M : Nat) : Int) := by rw [wi64 (by omega) (by omega)]; omega
    rw [e1]
    by_cases c : ((f + M : Nat) : Int) ≤ 64
    · have hq : 0 ≤ (f : Int) ∧ (f : Int) ≤ ((f + M : Nat) : Int) ∧ ((f + M : Nat) : Int) ≤ (64 : Int) ∧ (f : Int) < (64 : Int) := by omega
      obtain ⟨b, b1, b2⟩ := has_any n l hn f M (by omega)
      rw [if_pos c, if_pos hq, b1, Option.bind_some]
      cases o with
      | none =>
        have hb : b = true := by
          cases b with
          | true => rfl
          | false => exact absurd (b2.1 rfl) (hs (f : Int) (by omega) (by omega))
        rw [hb, if_pos rfl, wi_succ (by omega)]
        exact gap_16 n l p r M hn hM hw none ho k (f + 1) (by omega) (by omega) (fun z hz => by cases hz)
      | some z =>
        obtain ⟨s1, s2, s3, s4⟩ := hs
        have hfz := hz z rfl
        by_cases d : (f : Int) = z
        · have hb : b = false := b2.2 (by rw [d]; exact s3)
          rw [hb, if_neg (by decide)]
          simp only
          rw [if_pos d.symm]; rfl
        · have hb : b = true := by
            cases b with
            | true => rfl
            | false => exact absurd (b2.1 rfl) (s4 (f : Int) (by omega) (by omega))
          rw [hb, if_pos rfl, wi_succ (by omega)]
          exact gap_16 n l p r M hn hM hw (some z) ho k (f + 1) (by omega) (by omega) (fun z' hz' => by cases hz'; omega)
    · rw [if_neg c]
      cases o with
      | none => rfl
      | some z =>
        obtain ⟨s1, s2, s3, s4⟩ := hs
        have := hz z rfl
        omega
theorem gap_10 (n : Nat) (l : List A) (p r : Int) (M : Nat) (hn : 1001 ≤ n) (hM : 1 ≤ M ∧ M ≤ 64) (hw : Wk 0 l) (o : Option Int) (ho : gp (M : Int) 0 l = o) : ∀ (k f : Nat), 65 - f < k → f ≤ 65 → (∀ z, o = some z → (f : Int) ≤ z) →
    G_ringlaw2_AreaTells_L10 n (match (generalizing := false) o with | some z => (z, 0) | none => (0, 6)) ⟨p, (M : Int), r⟩ (pgF l) k (f : Int) = some (match (generalizing := false) o with | some _ => .x0 true | none => .x1)
  | 0, f, h, _, _ => by omega
  | k + 1, f, h, hf, hz => by
    have hs := gp_spec (n := (M : Int)) (by omega) hw
    rw [ho] at hs
    rw [G_ringlaw2_AreaTells_L10]
    simp only
    have e1 : wi .i64 ((f : Int) + (M : Int)) = ((f + M : Nat) : Int) := by rw [wi64 (by omega) (by omega)]; omega
    rw [e1]
    by_cases c : ((f + M : Nat) : Int) ≤ 64
    · have hq : 0 ≤ (f : Int) ∧ (f : Int) ≤ ((f + M : Nat) : Int) ∧ ((f + M : Nat) : Int) ≤ (64 : Int) ∧ (f : Int) < (64 : Int) := by omega
      obtain ⟨b, b1, b2⟩ := has_any n l hn f M (by omega)
      rw [if_pos c, if_pos hq, b1, Option.bind_some]
      cases o with
      | none =>
        have hb : b = true := by
          cases b with
          | true => rfl
          | false => exact absurd (b2.1 rfl) (hs (f : Int) (by omega) (by omega))
        rw [hb, if_pos rfl, wi_succ (by omega)]
        exact gap_10 n l p r M hn hM hw none ho k (f + 1) (by omega) (by omega) (fun z hz => by cases hz)
      | some z =>
        obtain ⟨s1, s2, s3, s4⟩ := hs
        have hfz := hz z rfl
        by_cases d : (f : Int) = z
        · have hb : b = false := b2.2 (by rw [d]; exact s3)
          rw [hb, if_neg (by decide)]
          simp only
          rw [if_pos d.symm]; rfl
        · have hb : b = true := by
            cases b with
            | true => rfl
            | false => exact absurd (b2.1 rfl) (s4 (f : Int) (by omega) (by omega))
          rw [hb, if_pos rfl, wi_succ (by omega)]
          exact gap_10 n l p r M hn hM hw (some z) ho k (f + 1) (by omega) (by omega) (fun z' hz' => by cases hz'; omega)
    · rw [if_neg c]
      cases o with
      | none => rfl
      | some z =>
        obtain ⟨s1, s2, s3, s4⟩ := hs
        have := hz z rfl
        omega
theorem gap_7 (n : Nat) (l : List A) (p r : Int) (M : Nat) (hn : 1001 ≤ n) (hM : 1 ≤ M ∧ M ≤ 64) (hw : Wk 0 l) (o : Option Int) (ho : gp (M : Int) 0 l = o) : ∀ (k f : Nat), 65 - f < k → f ≤ 65 → (∀ z, o = some z → (f : Int) ≤ z) →
    G_ringlaw2_AreaTells_L7 n (match (generalizing := false) o with | some z => (z, 0) | none => (0, 6)) ⟨p, (M : Int), r⟩ (pgF l) k (f : Int) = some (match (generalizing := false) o with | some _ => .x0 true | none => .x1)
  | 0, f, h, _, _ => by omega
  | k + 1, f, h, hf, hz => by
    have hs := gp_spec (n := (M : Int)) (by omega) hw
    rw [ho] at hs
    rw [G_ringlaw2_AreaTells_L7]
    simp only
    have e1 : wi .i64 ((f : Int) + (M : Int)) = ((f + M : Nat) : Int) := by rw [wi64 (by omega) (by omega)]; omega
    rw [e1]
    by_cases c : ((f + M : Nat) : Int) ≤ 64
    · have hq : 0 ≤ (f : Int) ∧ (f : Int) ≤ ((f + M : Nat) : Int) ∧ ((f + M : Nat) : Int) ≤ (64 : Int) ∧ (f : Int) < (64 : Int) := by omega
      obtain ⟨b, b1, b2⟩ := has_any n l hn f M (by omega)
      rw [if_pos c, if_pos hq, b1, Option.bind_some]
      cases o with
      | none =>
        have hb : b = true := by
          cases b with
          | true => rfl
          | false => exact absurd (b2.1 rfl) (hs (f : Int) (by omega) (by omega))
        rw [hb, if_pos rfl, wi_succ (by omega)]
        exact gap_7 n l p r M hn hM hw none ho k (f + 1) (by omega) (by omega) (fun z hz => by cases hz)
      | some z =>
        obtain ⟨s1, s2, s3, s4⟩ := hs
        have hfz := hz z rfl
        by_cases d : (f : Int) = z
        · have hb : b = false := b2.2 (by rw [d]; exact s3)
          rw [hb, if_neg (by decide)]
          simp only
          rw [if_pos d.symm]; rfl
        · have hb : b = true := by
            cases b with
            | true => rfl
            | false => exact absurd (b2.1 rfl) (s4 (f : Int) (by omega) (by omega))
          rw [hb, if_pos rfl, wi_succ (by omega)]
          exact gap_7 n l p r M hn hM hw (some z) ho k (f + 1) (by omega) (by omega) (fun z' hz' => by cases hz'; omega)
    · rw [if_neg c]
      cases o with
      | none => rfl
      | some z =>
        obtain ⟨s1, s2, s3, s4⟩ := hs
        have := hz z rfl
        omega
end Go.Proofs.Ytnmpnljjaoddhaa.areaT
