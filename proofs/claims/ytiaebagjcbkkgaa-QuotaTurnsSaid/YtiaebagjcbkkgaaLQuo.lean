/- QuotaTurns: rows, their limits, rows with one more or one less. -/
import Derived.Test.YtiaebagjcbkkgaaGuQuotaTurns
import Derived.Test.YtiaebagjcbkkgaaSpQuo
import Derived.Laws.Strings
namespace Go.Proofs.Ytiaebagjcbkkgaa.pv
set_option linter.all false
open Go.RowKit help
namespace qt
/-- two lists that rise by a key and have the same members are the same -/
theorem rise_ext {α : Type} (k : α → Int) : ∀ (l1 l2 : List α), l1.Pairwise (fun a b => k a < k b) → l2.Pairwise (fun a b => k a < k b) → (∀ x, x ∈ l1 ↔ x ∈ l2) → l1 = l2
  | [], [], _, _, _ => rfl
  | [], b :: l2, _, _, h => by have := (h b).2 (by simp); simp at this
  | a :: l1, [], _, _, h => by have := (h a).1 (by simp); simp at this
  | a :: l1, b :: l2, h1, h2, h => by
    obtain ⟨p1, p2⟩ := List.pairwise_cons.1 h1
    obtain ⟨q1, q2⟩ := List.pairwise_cons.1 h2
    have e : a = b := by
      rcases List.mem_cons.1 ((h a).1 (by simp)) with e | e
      · exact e
      · rcases List.mem_cons.1 ((h b).2 (by simp)) with e' | e'
        · exact e'.symm
        · have := p1 b e'; have := q1 a e; omega
    subst e
    congr 1
    refine rise_ext k l1 l2 p2 q2 fun x => ⟨fun hx => ?_, fun hx => ?_⟩
    · rcases List.mem_cons.1 ((h x).1 (by simp [hx])) with e | e
      · have := p1 x hx; rw [e] at this; omega
      · exact e
    · rcases List.mem_cons.1 ((h x).2 (by simp [hx])) with e | e
      · have := q1 x hx; rw [e] at this; omega
      · exact e
def u8 (x : Int) : UInt8 := UInt8.ofNat x.toNat
theorem push_fold (L : List Int) : ∀ acc : ByteArray, (L.foldl (fun r n => r.push (UInt8.ofNat n.toNat)) acc).data = acc.data ++ (L.map u8).toArray := by
  induction L with
  | nil => intro acc; simp
  | cons a L ih =>
    intro acc
    rw [List.foldl_cons, ih]
    show acc.data.push (u8 a) ++ (L.map u8).toArray = acc.data ++ ((u8 a :: L.map u8)).toArray
    apply Array.ext'
    simp
theorem b2s_data (L : List Int) : (b2s L).data = (L.map u8).toArray := by
  unfold b2s
  rw [push_fold]
  show (#[] : Array UInt8) ++ _ = _
  simp
theorem b2s_app (L K : List Int) : b2s L ++ b2s K = b2s (L ++ K) := by
  apply ByteArray.ext
  rw [ByteArray.data_append, b2s_data, b2s_data, b2s_data]
  simp
theorem b2s_size (L : List Int) : (b2s L).size = L.length := by
  show (b2s L).data.size = _
  rw [b2s_data]; simp
theorem cat_b2s (L K : List Int) (h : L.length + K.length ≤ 1000) : catS (b2s L) (b2s K) = some (b2s (L ++ K)) := by
  unfold catS
  rw [b2s_size, b2s_size, if_pos (by omega), b2s_app]
theorem getS_b2s (b : List Int) (j : Nat) (x : Int) (h : b[j]? = some x) (h0 : 0 ≤ x) (h1 : x ≤ 255) : getS (b2s b) (j : Int) = some x := by
  unfold getS
  rw [if_pos (by omega), Int.toNat_natCast]
  have e : (b2s b)[j]? = (b2s b).data[j]? := rfl
  rw [e, b2s_data]
  simp only [List.getElem?_toArray, List.getElem?_map, h, Option.map_some]
  congr 1
  unfold u8
  rw [UInt8.toNat_ofNat_of_lt' (by show x.toNat < 256; omega)]
  omega
def okb (b : List Int) : Prop := ∀ x ∈ b, 0 ≤ x ∧ x ≤ 255
theorem u8_inj {x y : Int} (hx : 0 ≤ x ∧ x ≤ 255) (hy : 0 ≤ y ∧ y ≤ 255) (h : u8 x = u8 y) : x = y := by
  have := congrArg UInt8.toNat h
  unfold u8 at this
  rw [UInt8.toNat_ofNat_of_lt' (by show x.toNat < 256; omega), UInt8.toNat_ofNat_of_lt' (by show y.toNat < 256; omega)] at this
  omega
theorem map_u8_inj : ∀ (L K : List Int), okb L → okb K → L.map u8 = K.map u8 → L = K
  | [], [], _, _, _ => rfl
  | [], _ :: _, _, _, h => by simp at h
  | _ :: _, [], _, _, h => by simp at h
  | x :: L, y :: K, hL, hK, h => by
    simp only [List.map_cons, List.cons.injEq] at h
    rw [u8_inj (hL x (List.mem_cons_self ..)) (hK y (List.mem_cons_self ..)) h.1, map_u8_inj L K (fun z hz => hL z (List.mem_cons_of_mem _ hz)) (fun z hz => hK z (List.mem_cons_of_mem _ hz)) h.2]
theorem b2s_inj {a b : List Int} (ha : okb a) (hb : okb b) (h : b2s a = b2s b) : a = b := by
  have h2 : (b2s a).data.toList = (b2s b).data.toList := by rw [h]
  rw [b2s_data, b2s_data] at h2
  exact map_u8_inj a b ha hb (by simpa using h2)
theorem b2s_toList (L : List Int) : (b2s L).toList = L.map u8 := by
  rw [ByteArray.toList_eq, b2s_data]
theorem str_eq (L K : List Int) (hL : okb L) (hK : okb K) : ((b2s L).toList == (b2s K).toList) = decide (L = K) := by
  by_cases h : L = K
  · subst h; simp
  · rw [decide_eq_false h, beq_eq_false_iff_ne, b2s_toList, b2s_toList]
    intro q
    exact h (b2s_inj hL hK (by apply ByteArray.ext; rw [b2s_data, b2s_data, q]))
theorem wu_rng (x : Int) : 0 ≤ wi .u8 x ∧ wi .u8 x ≤ 255 := by rw [wi, IntKind.wrap_u8]; omega
theorem okb_app {L K : List Int} (h1 : okb L) (h2 : okb K) : okb (L ++ K) := fun x hx => by
  rw [List.mem_append] at hx
  rcases hx with q | q
  · exact h1 x q
  · exact h2 x q
theorem okb_rep (m : Nat) : okb (List.replicate m 0) := fun x hx => by
  rw [List.mem_replicate] at hx; omega
abbrev Q := S_quota_Row
def pr (r : Q) : S_ringref3_Row := ⟨r.fUser, r.fLimit⟩
theorem pr_inj {a b : Q} (h : pr a = pr b) : a = b := by cases a; cases b; simp_all [pr]
theorem rows_loop (n : Nat) (l : List Q) (hl : l.length ≤ 100) : ∀ (k i : Nat), l.length - i < k → i ≤ l.length → G_ringlaw3_rows_L1 n l k (i : Int) ((l.take i).map pr) = some (.x0 (l.map pr))
  | 0, i, h, _ => by omega
  | k + 1, i, h, hi => by
    rw [G_ringlaw3_rows_L1]
    by_cases h1 : i < l.length
    · rw [if_pos (by omega), getI_nat, List.getElem?_eq_getElem h1, Option.bind_some, app_some (by simp; omega) (by omega), Option.bind_some, wi_succ (by omega)]
      have e : (l.take i).map pr ++ [S_ringref3_Row.mk l[i].fUser l[i].fLimit] = (l.take (i + 1)).map pr := by
        rw [List.take_succ_eq_append_getElem h1, List.map_append]; rfl
      rw [e]
      exact rows_loop n l hl k (i + 1) (by omega) (by omega)
    · rw [if_neg (by omega), List.take_of_length_le (by omega)]
theorem rows_any (n : Nat) (l : List Q) (hl : l.length ≤ 100) (hn : 110 < n) : G_ringlaw3_rows n l = some (l.map pr) := by
  unfold G_ringlaw3_rows
  have h := rows_loop n l hl n 0 (by omega) (by omega)
  have h : G_ringlaw3_rows_L1 n l n 0 [] = _ := h
  rw [h]; rfl
/-- rows that are right -/
def okR (l : List Q) : Prop := l.length ≤ 20 ∧ (∀ r ∈ l, 0 ≤ r.fUser ∧ r.fUser ≤ 255 ∧ 0 ≤ r.fLimit ∧ r.fLimit ≤ 256) ∧ l.Pairwise (fun a b => a.fUser < b.fUser)
theorem right_loop (n : Nat) (l : List Q) (hl : l.length ≤ 20) (hw : ∀ r ∈ l, r.fUser ≤ 9223372036854775807) : ∀ (k i : Nat) (m : Int), l.length - i < k → i ≤ l.length → 0 ≤ m → m ≤ 256 → ((i = 0 ∧ m = 0) ∨ ∃ p, 0 < i ∧ l[i - 1]? = some p ∧ m = p.fUser + 1) →
    (G_quota_Right_L2 n l k (i : Int) = some (.x0 3) ∧ G_ringref3_RowsRight_L1 n (l.map pr) k m (i : Int) = some (.x0 3) ∧ ¬ ((∀ r ∈ l.drop i, m ≤ r.fUser ∧ r.fUser ≤ 255 ∧ 0 ≤ r.fLimit ∧ r.fLimit ≤ 256) ∧ (l.drop i).Pairwise (fun a b => a.fUser < b.fUser))) ∨
    (G_quota_Right_L2 n l k (i : Int) = some .x1 ∧ G_ringref3_RowsRight_L1 n (l.map pr) k m (i : Int) = some .x1 ∧ ((∀ r ∈ l.drop i, m ≤ r.fUser ∧ r.fUser ≤ 255 ∧ 0 ≤ r.fLimit ∧ r.fLimit ≤ 256) ∧ (l.drop i).Pairwise (fun a b => a.fUser < b.fUser)))
  | 0, i, m, h, _, _, _, _ => by omega
  | k + 1, i, m, h, hi, hm0, hm1, hp => by
    rw [G_quota_Right_L2, G_ringref3_RowsRight_L1]
    by_cases h1 : i < l.length
    · have hx : l[i]? = some l[i] := List.getElem?_eq_getElem h1
      have hm : (l.map pr)[i]? = some (pr l[i]) := by rw [List.getElem?_map, hx]; rfl
      have hd : l.drop i = l[i] :: l.drop (i + 1) := drop_cons hx
      have hwx := hw l[i] (List.getElem_mem h1)
      rw [if_pos (show (i : Int) < (l.length : Int) by omega), if_pos (show (i : Int) < ((l.map pr).length : Int) by simp; omega), getI_nat, getI_nat, hx, hm, hd, Option.bind_some, Option.bind_some]
      generalize l[i] = x at *
      have hpu : (pr x).fUser = x.fUser := rfl
      have hpl : (pr x).fLimit = x.fLimit := rfl
      rw [hpu, hpl]
      -- what stands ahead of it
      have c0 : G_quota_Right_C1 n l (i : Int) x = some (.x0 (decide (¬ (m ≤ x.fUser ∧ x.fUser ≤ 255 ∧ 0 ≤ x.fLimit ∧ x.fLimit ≤ 256)))) := by
        unfold G_quota_Right_C1
        by_cases a1 : x.fUser < 0
        · rw [if_pos a1, decide_eq_true (by omega)]
        by_cases a2 : x.fUser > 255
        · rw [if_neg a1, if_pos a2, decide_eq_true (by omega)]
        by_cases a3 : x.fLimit < 0
        · rw [if_neg a1, if_neg a2, if_pos a3, decide_eq_true (by omega)]
        by_cases a4 : x.fLimit > 256
        · rw [if_neg a1, if_neg a2, if_neg a3, if_pos a4, decide_eq_true (by omega)]
        rw [if_neg a1, if_neg a2, if_neg a3, if_neg a4]
        rcases hp with ⟨rfl, rfl⟩ | ⟨p, q1, q2, q3⟩
        · rw [if_neg (by omega), decide_eq_false (by omega)]
        · have e : wi .i64 ((i : Int) - 1) = ((i - 1 : Nat) : Int) := by rw [wi64 (by omega) (by omega)]; omega
          rw [if_pos (by omega), e, getI_nat, q2, Option.bind_some]
          congr 2
          rw [Bool.eq_iff_iff]
          simp only [decide_eq_true_eq]
          omega
      rw [c0, Option.bind_some]
      unfold G_ringref3_within
      by_cases hc : m ≤ x.fUser ∧ x.fUser ≤ 255 ∧ 0 ≤ x.fLimit ∧ x.fLimit ≤ 256
      · obtain ⟨b1, b2, b3, b4⟩ := hc
        rw [decide_eq_false (by simp only [Decidable.not_not]; exact ⟨b1, b2, b3, b4⟩)]
        simp only [b1, b2, b3, b4, if_true, decide_true, Option.bind_some, Bool.false_eq_true, if_false]
        have hs : wi .i64 (x.fUser + 1) = x.fUser + 1 := wi64 (by omega) (by omega)
        rw [hs, wi_succ (by omega)]
        rcases right_loop n l hl hw k (i + 1) (x.fUser + 1) (by omega) (by omega) (by omega) (by omega) (.inr ⟨x, by omega, by simpa using hx, rfl⟩) with ⟨r1, r2, r3⟩ | ⟨r1, r2, r3, r4⟩
        · refine .inl ⟨r1, r2, fun q => r3 ?_⟩
          obtain ⟨q1, q2⟩ := q
          obtain ⟨q3, q4⟩ := List.pairwise_cons.1 q2
          exact ⟨fun r hr => by have := q3 r hr; have := q1 r (by simp [hr]); omega, q4⟩
        · refine .inr ⟨r1, r2, fun r hr => ?_, List.pairwise_cons.2 ⟨fun r hr => by have := r3 r hr; omega, r4⟩⟩
          rcases List.mem_cons.1 hr with rfl | hr
          · exact ⟨b1, b2, b3, b4⟩
          · have := r3 r hr; omega
      · rw [decide_eq_true hc]
        refine .inl ⟨by simp, ?_, fun q => hc (q.1 x (by simp))⟩
        by_cases b1 : m ≤ x.fUser
        · rw [if_pos b1, Option.bind_some]
          by_cases b2 : x.fUser ≤ 255
          · rw [decide_eq_true b2]
            simp only [if_true]
            by_cases b3 : 0 ≤ x.fLimit
            · rw [if_pos b3, Option.bind_some, decide_eq_false (fun b4 => hc ⟨b1, b2, b3, b4⟩)]
              simp
            · rw [if_neg b3, Option.bind_some]; simp
          · rw [decide_eq_false b2]; simp
        · rw [if_neg b1, Option.bind_some]; simp
    · rw [if_neg (by omega), if_neg (by simp; omega)]
      refine .inr ⟨rfl, rfl, ?_⟩
      rw [List.drop_eq_nil_of_le (by omega)]
      simp
theorem right_any (n : Nat) (l : List Q) (hl : l.length ≤ 100) (hn : 110 < n) (hw : ∀ r ∈ l, r.fUser ≤ 9223372036854775807) : ∃ e : Int, G_quota_Right n l = some e ∧ G_ringref3_RowsRight n (l.map pr) = some e ∧ (e = 0 ↔ okR l) := by
  unfold G_quota_Right G_ringref3_RowsRight
  rw [List.length_map]
  by_cases h20 : (l.length : Int) > 20
  · rw [if_pos h20, if_pos h20]
    exact ⟨2, rfl, rfl, by constructor <;> intro h <;> first | (exact absurd h (by decide)) | (have := h.1; omega)⟩
  · rw [if_neg h20, if_neg h20]
    rcases right_loop n l (by omega) hw n 0 0 (by omega) (by omega) (by omega) (by omega) (.inl ⟨rfl, rfl⟩) with ⟨h1, h2, h3⟩ | ⟨h1, h2, h3, h4⟩
    · have h1 : G_quota_Right_L2 n l n 0 = _ := h1
      have h2 : G_ringref3_RowsRight_L1 n (l.map pr) n 0 0 = _ := h2
      rw [h1, h2]
      rw [List.drop_zero] at h3
      exact ⟨3, rfl, rfl, ⟨fun h => absurd h (by decide), fun h => absurd (And.intro h.2.1 h.2.2) h3⟩⟩
    · have h1 : G_quota_Right_L2 n l n 0 = _ := h1
      have h2 : G_ringref3_RowsRight_L1 n (l.map pr) n 0 0 = _ := h2
      rw [h1, h2]
      exact ⟨0, rfl, rfl, ⟨fun _ => ⟨by omega, by simpa using h3, by simpa using h4⟩, fun _ => rfl⟩⟩
/-- what a user may have, as the rows say -/
def lim (l : List Q) (u : Int) : Option Int := (l.find? (fun r => r.fUser == u)).map (·.fLimit)
theorem of_loop (n : Nat) (l : List Q) (hl : l.length ≤ 100) (u : Int) : ∀ (k i : Nat), l.length - i < k → i ≤ l.length →
    G_quota_Of_L1 n u l k (i : Int) = some (match lim (l.drop i) u with | some v => .x0 v | none => .x1) ∧ G_ringref3_Limit_L1 n (l.map pr) u k (i : Int) = some (match lim (l.drop i) u with | some v => .x0 v | none => .x1)
  | 0, i, h, _ => by omega
  | k + 1, i, h, hi => by
    rw [G_quota_Of_L1, G_ringref3_Limit_L1]
    by_cases h1 : i < l.length
    · have hx : l[i]? = some l[i] := List.getElem?_eq_getElem h1
      have hm : (l.map pr)[i]? = some (pr l[i]) := by rw [List.getElem?_map, hx]; rfl
      rw [if_pos (show (i : Int) < (l.length : Int) by omega), if_pos (show (i : Int) < ((l.map pr).length : Int) by simp; omega), getI_nat, getI_nat, hx, hm, drop_cons hx, Option.bind_some, Option.bind_some, Option.bind_some]
      generalize l[i] = x at *
      have hpu : (pr x).fUser = x.fUser := rfl
      have hpl : (pr x).fLimit = x.fLimit := rfl
      rw [hpu, hpl]
      by_cases e : x.fUser = u
      · have : lim (x :: l.drop (i + 1)) u = some x.fLimit := by unfold lim; rw [List.find?_cons, beq_iff_eq.2 e]; rfl
        rw [if_pos e, if_pos e, this]
        exact ⟨rfl, rfl⟩
      · have : lim (x :: l.drop (i + 1)) u = lim (l.drop (i + 1)) u := by unfold lim; rw [List.find?_cons, beq_eq_false_iff_ne.2 e]
        rw [if_neg e, if_neg e, this, wi_succ (by omega)]
        exact of_loop n l hl u k (i + 1) (by omega) (by omega)
    · rw [if_neg (by omega), if_neg (by simp; omega), List.drop_eq_nil_of_le (by omega)]
      exact ⟨rfl, rfl⟩
theorem of_any (n : Nat) (l : List Q) (hl : l.length ≤ 100) (hn : 110 < n) (u : Int) : ∃ v : Int, G_quota_Of n l u = some v ∧ G_ringref3_Limit n (l.map pr) u = some v := by
  obtain ⟨h1, h2⟩ := of_loop n l hl u n 0 (by omega) (by omega)
  have h1 : G_quota_Of_L1 n u l n 0 = _ := h1
  have h2 : G_ringref3_Limit_L1 n (l.map pr) u n 0 = _ := h2
  unfold G_quota_Of G_ringref3_Limit
  rw [h1, h2]
  cases lim (l.drop 0) u with
  | some v => exact ⟨v, rfl, rfl⟩
  | none => exact ⟨-1, rfl, rfl⟩
theorem may_any (n : Nat) (l : List Q) (hl : l.length ≤ 100) (hn : 110 < n) (u has more : Int) (r17 : List S_ringref3_Row) (r38 : Int) (r187 : List Int × Int) (v : Int) (hv : G_quota_Of n l u = some v) : ∃ w z : _, G_ringlaw3_QuotaTurns_C2 n l u has more r17 r38 r187 v = some (.x0 z) ∧ G_ringlaw3_QuotaTurns_C4 n l u has more r17 r38 r187 v z = some (.x0 w) ∧ G_quota_May n l u has more = some w := by
  have c2 : ∃ z, G_ringlaw3_QuotaTurns_C2 n l u has more r17 r38 r187 v = some (.x0 z) ∧ G_quota_May_C1 n l u has more = some (.x0 z) := by
    unfold G_ringlaw3_QuotaTurns_C2 G_quota_May_C1
    by_cases a1 : has < 0
    · rw [if_pos a1, if_pos a1]; exact ⟨_, rfl, rfl⟩
    by_cases a2 : has > 256
    · rw [if_neg a1, if_neg a1, if_pos a2, if_pos a2]; exact ⟨_, rfl, rfl⟩
    by_cases a3 : more < (-256)
    · rw [if_neg a1, if_neg a1, if_neg a2, if_neg a2, if_pos a3, if_pos a3]; exact ⟨_, rfl, rfl⟩
    rw [if_neg a1, if_neg a1, if_neg a2, if_neg a2, if_neg a3, if_neg a3]; exact ⟨_, rfl, rfl⟩
  obtain ⟨z, z1, z2⟩ := c2
  have c3 : ∃ y, G_ringlaw3_QuotaTurns_C3 n l u has more r17 r38 r187 v = some (.x0 y) ∧ G_quota_May_C2 n has more v = some (.x0 y) := by
    unfold G_ringlaw3_QuotaTurns_C3 G_quota_May_C2
    by_cases a1 : more > 0
    · rw [if_pos a1, if_pos a1]
      by_cases a2 : v = -1
      · rw [if_pos a2, if_pos a2]; exact ⟨_, rfl, rfl⟩
      · rw [if_neg a2, if_neg a2]; exact ⟨_, rfl, rfl⟩
    · rw [if_neg a1, if_neg a1]; exact ⟨_, rfl, rfl⟩
  obtain ⟨y, y1, y2⟩ := c3
  unfold G_ringlaw3_QuotaTurns_C4 G_quota_May
  rw [z1, z2, y1, hv, Option.bind_some, Option.bind_some, Option.bind_some]
  simp only
  rw [y2, Option.bind_some]
  simp only
  cases z with
  | true => exact ⟨1, _, rfl, rfl, rfl⟩
  | false =>
    cases y with
    | true => exact ⟨16, _, rfl, rfl, rfl⟩
    | false => exact ⟨0, _, rfl, rfl, rfl⟩
/-! rows with one more, one less -/
def lt (a b : Q) : Prop := a.fUser < b.fUser
theorem first_loop (n : Nat) (limit u : Int) (w : List Q) (hw : w.length ≤ 100) : ∀ (k i : Nat), w.length - i < k → i ≤ w.length → (∀ r ∈ w.take i, r.fUser < u) →
    ∃ j : Nat, G_quota_Set_L2 n limit u k (i : Int) w = some (.x0 (j : Int) w) ∧ j ≤ w.length ∧ (∀ r ∈ w.take j, r.fUser < u) ∧ (∀ r, w[j]? = some r → ¬ r.fUser < u)
  | 0, i, h, _, _ => by omega
  | k + 1, i, h, hi, hp => by
    rw [G_quota_Set_L2]
    by_cases h1 : i < w.length
    · rw [if_pos (by omega), if_pos ⟨by omega, by simpa using h1⟩, Int.toNat_natCast, List.getElem?_eq_getElem h1, Option.bind_some]
      by_cases e : w[i].fUser < u
      · rw [if_pos e, wi_succ (by omega)]
        exact first_loop n limit u w hw k (i + 1) (by omega) (by omega) (fun r hr => by
          rw [List.take_succ_eq_append_getElem h1, List.mem_append, List.mem_singleton] at hr
          rcases hr with hr | rfl
          · exact hp r hr
          · exact e)
      · rw [if_neg e]
        exact ⟨i, rfl, hi, hp, fun r hr => by rw [List.getElem?_eq_getElem h1] at hr; cases hr; exact e⟩
    · rw [if_neg (by omega)]
      exact ⟨i, rfl, hi, hp, fun r hr => by rw [List.getElem?_eq_none (by omega)] at hr; cases hr⟩
theorem ins_some (l : List Q) (i : Nat) (x : Q) (hi : i ≤ l.length) (hl : l.length ≤ 100) : insI 16 l (i : Int) [x] = some (l.take i ++ [x] ++ l.drop i) := by
  unfold insI
  rw [if_pos ⟨by omega, by omega, by simp; omega, by simp; omega⟩, Int.toNat_natCast]
/-- what the map says then -/
def says (l : List Q) (u limit j : Int) : Option Int := if j = u then some limit else lim l j
theorem put_loop (n : Nat) (u limit : Int) (l : List Q) (hl : l.length ≤ 100) (hp : l.Pairwise lt) : ∀ (k i : Nat) (E : List (Int × Int)), l.length - i < k → i ≤ l.length → (∀ j, mget E j = lim (l.take i) j) →
    ∃ E', G_ringref3_SetRow_L1 n u limit (l.map pr) k (i : Int) E = some (.x0 E') ∧ ∀ j, mget E' j = lim l j
  | 0, i, E, h, _, _ => by omega
  | k + 1, i, E, h, hi, hE => by
    rw [G_ringref3_SetRow_L1]
    by_cases h1 : i < l.length
    · have hx : l[i]? = some l[i] := List.getElem?_eq_getElem h1
      have hm : (l.map pr)[i]? = some (pr l[i]) := by rw [List.getElem?_map, hx]; rfl
      rw [if_pos (by simp; omega), getI_nat, hm, Option.bind_some, wi_succ (by omega)]
      refine put_loop n u limit l hl hp k (i + 1) _ (by omega) (by omega) fun j => ?_
      rw [mget_mput, hE, List.take_succ_eq_append_getElem h1]
      unfold lim
      rw [List.find?_append]
      have hno : ∀ r ∈ l.take i, r.fUser ≠ l[i].fUser := by
        intro r hr
        have : (l.take i ++ l[i] :: l.drop (i + 1)).Pairwise lt := by rw [← drop_cons hx, List.take_append_drop]; exact hp
        have := (List.pairwise_append.1 this).2.2 r hr l[i] (List.mem_cons_self ..)
        unfold lt at this; omega
      by_cases e : j = (pr l[i]).fUser
      · subst e
        have e2 : (pr l[i]).fUser = l[i].fUser := rfl
        rw [if_pos rfl, e2]
        have : (l.take i).find? (fun r => r.fUser == l[i].fUser) = none := by
          rw [List.find?_eq_none]; intro r hr; simpa using hno r hr
        rw [this]
        simp
        rfl
      · rw [if_neg e]
        have : ([l[i]].find? fun r => r.fUser == j) = none := by
          rw [List.find?_eq_none]; intro r hr; rw [List.mem_singleton] at hr; subst hr
          simp only [beq_iff_eq]; exact fun q => e q.symm
        rw [this]
        simp
    · rw [if_neg (by simp; omega)]
      rw [List.take_of_length_le (by omega)] at hE
      exact ⟨E, rfl, hE⟩
/-- the rows that the map tells, of the users from i on -/
def told (f : Int → Option Int) : Nat → Nat → List S_ringref3_Row
  | 0, _ => []
  | d + 1, i => (match f (i : Int) with | some v => if v ≥ 0 then [⟨(i : Int), v⟩] else [] | none => []) ++ told f d (i + 1)
theorem told_len (f : Int → Option Int) : ∀ (d i : Nat), (told f d i).length ≤ d
  | 0, i => by simp [told]
  | d + 1, i => by
    rw [told, List.length_append]
    have := told_len f d (i + 1)
    split
    · split <;> simp <;> omega
    · simp; omega
theorem told_mem (f : Int → Option Int) : ∀ (d i : Nat) (r : S_ringref3_Row), r ∈ told f d i ↔ ((i : Int) ≤ r.fUser ∧ r.fUser < (i : Int) + (d : Int) ∧ f r.fUser = some r.fLimit ∧ 0 ≤ r.fLimit)
  | 0, i, r => by simp [told]; omega
  | d + 1, i, r => by
    rw [told, List.mem_append, told_mem f d (i + 1)]
    constructor
    · rintro (h | h)
      · split at h
        · rename_i v hv
          split at h
          · rw [List.mem_singleton] at h; subst h; exact ⟨by simp, by simp; omega, hv, by simpa using ‹v ≥ 0›⟩
          · simp at h
        · simp at h
      · exact ⟨by omega, by omega, h.2.2⟩
    · intro h
      by_cases e : r.fUser = (i : Int)
      · left
        rw [← e, h.2.2.1]
        simp only [ge_iff_le, h.2.2.2, if_true, List.mem_singleton]
      · right; exact ⟨by omega, by omega, h.2.2⟩
theorem told_rise (f : Int → Option Int) : ∀ (d i : Nat), (told f d i).Pairwise (fun a b => a.fUser < b.fUser)
  | 0, i => by simp [told]
  | d + 1, i => by
    rw [told, List.pairwise_append]
    refine ⟨?_, told_rise f d (i + 1), fun a ha b hb => ?_⟩
    · split
      · split <;> simp
      · simp
    · have hb := (told_mem f d (i + 1) b).1 hb
      split at ha
      · split at ha
        · rw [List.mem_singleton] at ha; subst ha; simp only; omega
        · simp at ha
      · simp at ha
theorem told_loop (n : Nat) (E : List (Int × Int)) : ∀ (d i k : Nat) (w : List S_ringref3_Row), d = 256 - i → i ≤ 256 → d < k → w.length ≤ i →
    G_ringref3_SetRow_L3 n k (i : Int) E w = some (.x0 (w ++ told (mget E) d i))
  | d, i, 0, w, _, _, h, _ => by omega
  | 0, i, k + 1, w, hd, hi, h, hw => by
    rw [G_ringref3_SetRow_L3, if_neg (by omega)]; simp [told]
  | d + 1, i, k + 1, w, hd, hi, h, hw => by
    rw [G_ringref3_SetRow_L3, if_pos (by omega), told]
    have c2 : G_ringref3_SetRow_C2 n (i : Int) E w = some (.x0 E (w ++ (match mget E (i : Int) with | some v => if v ≥ 0 then [⟨(i : Int), v⟩] else [] | none => []))) := by
      unfold G_ringref3_SetRow_C2
      cases hq : mget E (i : Int) with
      | none => simp
      | some v =>
        simp only [Option.isSome_some, if_true, Option.getD_some]
        by_cases g : v ≥ 0
        · rw [if_pos g, if_pos g, app_some (by simp; omega) (by omega), Option.bind_some]
        · rw [if_neg g, if_neg g]; simp
    rw [c2, Option.bind_some]
    simp only
    rw [wi_succ (by omega), told_loop n E d (i + 1) k _ (by omega) (by omega) (by omega) (by
      rw [List.length_append]
      split
      · split <;> simp <;> omega
      · simp; omega), List.append_assoc]
theorem mem_lim {l : List Q} (hp : l.Pairwise lt) (u v : Int) : lim l u = some v ↔ (⟨u, v⟩ : Q) ∈ l := by
  unfold lim
  constructor
  · intro h
    cases hq : l.find? (fun r => r.fUser == u) with
    | none => simp [hq] at h
    | some r =>
      rw [hq] at h
      simp at h
      have := List.find?_some hq
      have hm := List.mem_of_find?_eq_some hq
      simp at this
      obtain ⟨a, b⟩ := r
      simp at this h
      subst this h
      exact hm
  · intro h
    induction l with
    | nil => simp at h
    | cons a l ih =>
      obtain ⟨p1, p2⟩ := List.pairwise_cons.1 hp
      rw [List.find?_cons]
      rcases List.mem_cons.1 h with e | e
      · subst e; simp
      · have := p1 _ e
        unfold lt at this
        have : (a.fUser == u) = false := by rw [beq_eq_false_iff_ne]; simp at this; omega
        rw [this]
        exact ih p2 e
theorem set_any (n : Nat) (hn : 300 < n) (l : List Q) (hl : l.length ≤ 100) (hw : ∀ r ∈ l, r.fUser ≤ 9223372036854775807) (u limit : Int) :
    ∃ (x : List Q) (e : Int), G_quota_Set n l u limit = some (x, e) ∧ G_ringref3_SetRow n (l.map pr) u limit = some (x.map pr, e) ∧ x.length ≤ 100 := by
  have c1 : G_quota_Set_C1 n l limit u = some (.x0 (decide (¬ (0 ≤ u ∧ u ≤ 255 ∧ -1 ≤ limit ∧ limit ≤ 256)))) := by
    unfold G_quota_Set_C1
    by_cases a1 : u < 0
    · rw [if_pos a1, decide_eq_true (by omega)]
    by_cases a2 : u > 255
    · rw [if_neg a1, if_pos a2, decide_eq_true (by omega)]
    by_cases a3 : limit < (-1)
    · rw [if_neg a1, if_neg a2, if_pos a3, decide_eq_true (by omega)]
    rw [if_neg a1, if_neg a2, if_neg a3]
    congr 2
    rw [Bool.eq_iff_iff]; simp only [decide_eq_true_eq]; omega
  unfold G_quota_Set G_ringref3_SetRow
  rw [c1, Option.bind_some]
  unfold G_ringref3_within
  by_cases hc : 0 ≤ u ∧ u ≤ 255 ∧ -1 ≤ limit ∧ limit ≤ 256
  · rw [decide_eq_false (by simpa using hc)]
    obtain ⟨b1, b2, b3, b4⟩ := hc
    simp only [b1, b2, b3, b4, if_true, decide_true, Option.bind_some, Bool.false_eq_true, if_false]
    obtain ⟨e, r1, r2, r3⟩ := right_any n l hl (by omega) hw
    rw [r1, r2, Option.bind_some, Option.bind_some]
    by_cases he : e = 0
    · obtain ⟨k1, k2, k3⟩ := r3.1 he
      rw [if_pos he, if_pos he]
      have hcl : G_slices_Clone_quota_Row_quota_Row n l = some l := by
        unfold G_slices_Clone_quota_Row_quota_Row
        rw [app_some (by simp; omega) (by omega)]; simp
      have hdel := G_slices_DeleteFunc_quota_Row_quota_Row_h_sp n (fun y0 => G_quota_Set_1 n y0 u) (fun r => r.fUser == u) l (fun y _ => by unfold G_quota_Set_1; rfl) (by omega) (by omega)
      rw [hcl, Option.bind_some, hdel, Option.bind_some]
      obtain ⟨E, e1, e2⟩ := put_loop n u limit l (by omega) k3 n 0 [] (by omega) (by omega) (fun j => by simp [mget_nil, lim])
      have e1 : G_ringref3_SetRow_L1 n u limit (l.map pr) n 0 [] = _ := e1
      have e3 := told_loop n (mput E u limit) 256 0 n [] (by omega) (by omega) (by omega) (by simp)
      have e3 : G_ringref3_SetRow_L3 n n 0 (mput E u limit) [] = _ := e3
      rw [e1, Option.bind_some]
      simp only
      rw [e3, Option.bind_some]
      simp only [List.nil_append]
      -- the rows without the user
      have hfm : ∀ r : Q, r ∈ l.filter (fun y => !(y.fUser == u)) ↔ r ∈ l ∧ r.fUser ≠ u := by intro r; simp [List.mem_filter]
      have hfp : (l.filter (fun y => !(y.fUser == u))).Pairwise lt := k3.filter _
      have hfl : (l.filter (fun y => !(y.fUser == u))).length ≤ 20 := Nat.le_trans (List.length_filter_le _ _) k1
      generalize l.filter (fun y => !(y.fUser == u)) = m at *
      have key : ∀ z : List Q, z.Pairwise lt → (∀ r : Q, r ∈ z ↔ (r ∈ m ∨ (r = ⟨u, limit⟩ ∧ 0 ≤ limit))) → told (mget (mput E u limit)) 256 0 = z.map pr := by
        intro z hz1 hz2
        refine rise_ext (fun r => r.fUser) _ _ (told_rise _ _ _) (List.pairwise_map.2 hz1) fun r => ?_
        rw [told_mem, mget_mput, List.mem_map]
        constructor
        · rintro ⟨t1, t2, t3, t4⟩
          refine ⟨⟨r.fUser, r.fLimit⟩, (hz2 _).2 ?_, rfl⟩
          by_cases q : r.fUser = u
          · rw [if_pos q] at t3
            right
            cases t3
            exact ⟨by rw [q], t4⟩
          · rw [if_neg q, e2] at t3
            left
            exact (hfm _).2 ⟨(mem_lim k3 _ _).1 t3, q⟩
        · rintro ⟨a, ha, rfl⟩
          have e4 : (pr a).fUser = a.fUser := rfl
          have e5 : (pr a).fLimit = a.fLimit := rfl
          rw [e4, e5]
          rcases (hz2 a).1 ha with q | ⟨rfl, q⟩
          · obtain ⟨q1, q2⟩ := (hfm a).1 q
            have := k2 a q1
            rw [if_neg q2, e2]
            exact ⟨by omega, by omega, (mem_lim k3 _ _).2 q1, by omega⟩
          · rw [if_pos rfl]
            exact ⟨by simpa using b1, by simp; omega, rfl, q⟩
      by_cases hno : limit = -1
      · rw [if_pos hno]
        have hk := key m hfp (fun r => ⟨fun h => .inl h, fun h => h.elim id (fun h => by omega)⟩)
        rw [hk, if_neg (by simp; omega)]
        exact ⟨m, 0, rfl, rfl, by omega⟩
      · rw [if_neg hno]
        obtain ⟨j, f1, f2, f3, f4⟩ := first_loop n limit u m (by omega) n 0 (by omega) (by omega) (by simp)
        have f1 : G_quota_Set_L2 n limit u n 0 m = _ := f1
        have hgt : ∀ r ∈ m.drop j, u < r.fUser := by
          intro r hr
          cases hj : m[j]? with
          | none => rw [List.drop_eq_nil_of_le (by rw [List.getElem?_eq_none_iff] at hj; omega)] at hr; cases hr
          | some y =>
            have hy := f4 y hj
            have hyu := ((hfm y).1 (List.mem_of_getElem? hj)).2
            rw [drop_cons hj] at hr
            rcases List.mem_cons.1 hr with rfl | hr
            · omega
            · have hp2 : (m.drop j).Pairwise lt := List.Pairwise.sublist (List.drop_sublist _ _) hfp
              rw [drop_cons hj] at hp2
              have := (List.pairwise_cons.1 hp2).1 r hr
              unfold lt at this; omega
        have hz1 : (m.take j ++ [(⟨u, limit⟩ : Q)] ++ m.drop j).Pairwise lt := by
          rw [List.append_assoc, List.pairwise_append]
          refine ⟨List.Pairwise.sublist (List.take_sublist _ _) hfp, ?_, fun a ha b hb => ?_⟩
          · rw [List.singleton_append, List.pairwise_cons]
            exact ⟨fun r hr => hgt r hr, List.Pairwise.sublist (List.drop_sublist _ _) hfp⟩
          · have := f3 a ha
            rw [List.singleton_append, List.mem_cons] at hb
            rcases hb with rfl | hb
            · exact this
            · have := hgt b hb; unfold lt; omega
        have hk := key _ hz1 (fun r => by
          rw [List.mem_append, List.mem_append, List.mem_singleton]
          have : r ∈ m ↔ r ∈ m.take j ∨ r ∈ m.drop j := by rw [← List.mem_append, List.take_append_drop]
          rw [this]
          constructor
          · rintro ((h | h) | h)
            · exact .inl (.inl h)
            · exact .inr ⟨h, by omega⟩
            · exact .inl (.inr h)
          · rintro ((h | h) | h)
            · exact .inl (.inl h)
            · exact .inr h
            · exact .inl (.inr h.1))
        have hlen : (m.take j ++ [(⟨u, limit⟩ : Q)] ++ m.drop j).length = m.length + 1 := by
          simp; omega
        rw [hk, List.length_map, hlen]
        by_cases h20 : (m.length : Int) = 20
        · rw [if_pos h20, if_pos (by omega)]
          exact ⟨[], 6, rfl, rfl, by simp⟩
        · rw [if_neg h20, if_neg (by omega), f1, Option.bind_some]
          simp only
          unfold G_slices_Insert_quota_Row_quota_Row_h
          rw [ins_some m j _ f2 (by omega), Option.bind_some]
          exact ⟨_, 0, rfl, rfl, by omega⟩
    · rw [if_neg he, if_neg he]
      exact ⟨[], e, rfl, rfl, by simp⟩
  · rw [decide_eq_true hc]
    refine ⟨[], 1, by simp, ?_, by simp⟩
    by_cases b1 : 0 ≤ u
    · rw [if_pos b1, Option.bind_some]
      by_cases b2 : u ≤ 255
      · rw [decide_eq_true b2]
        simp only [if_true]
        by_cases b3 : -1 ≤ limit
        · rw [if_pos b3, Option.bind_some, decide_eq_false (fun b4 => hc ⟨b1, b2, b3, b4⟩)]
          simp
        · rw [if_neg b3, Option.bind_some]; simp
      · rw [decide_eq_false b2]; simp
    · rw [if_neg b1, Option.bind_some]; simp
end qt
end Go.Proofs.Ytiaebagjcbkkgaa.pv
