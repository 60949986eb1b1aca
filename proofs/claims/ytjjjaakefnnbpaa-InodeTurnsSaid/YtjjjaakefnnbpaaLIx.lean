/- InodeTurns: runs, their bytes, their points. -/
import Derived.Test.YtjjjaakefnnbpaaGuInodeTurns
import Derived.Test.YtjjjaakefnnbpaaSpIno
namespace Go.Proofs.Ytjjjaakefnnbpaa.pv
set_option linter.all false
open Go.RowKit help
namespace xt

abbrev Ex := S_extent_Ext
def u8 (x : Int) : UInt8 := UInt8.ofNat x.toNat
theorem push_fold (L : List Int) : ∀ acc : ByteArray, (L.foldl (fun r n => r.push (UInt8.ofNat n.toNat)) acc).data = acc.data ++ (L.map u8).toArray := by
  induction L with
  | nil => intro acc; simp
  | cons a L ih =>
    intro acc
    rw [List.foldl_cons, ih]
    show acc.data.push (u8 a) ++ (L.map u8).toArray = acc.data ++ ((u8 a :: L.map u8)).toArray
    apply Array.ext'
    simp
theorem b2s_data (L : List Int) : (b2s L).data = (L.map u8).toArray := by
  unfold b2s
  rw [push_fold]
  show (#[] : Array UInt8) ++ _ = _
  simp
theorem b2s_app (L K : List Int) : b2s L ++ b2s K = b2s (L ++ K) := by
  apply ByteArray.ext
  rw [ByteArray.data_append, b2s_data, b2s_data, b2s_data]
  simp
theorem b2s_size (L : List Int) : (b2s L).size = L.length := by
  show (b2s L).data.size = _
  rw [b2s_data]; simp
theorem cat_b2s (L K : List Int) (h : L.length + K.length ≤ 1000) : catS (b2s L) (b2s K) = some (b2s (L ++ K)) := by
  unfold catS
  rw [b2s_size, b2s_size, if_pos (by omega), b2s_app]
theorem rep_zero (c : Nat) : Lib.repeatL [0] c = List.replicate c (0 : UInt8) := by
  induction c with
  | zero => rfl
  | succ c ih => rw [Lib.repeatL, ih]; rfl
theorem repeat_b2s (n c : Nat) (h : c ≤ 100) : G_strings_Repeat n (ByteArray.mk #[0]) (c : Int) = some (b2s (List.replicate c 0)) := by
  unfold G_strings_Repeat
  have hs : (ByteArray.mk #[0]).size = 1 := rfl
  rw [hs, if_pos ⟨by omega, by omega, by simp; omega⟩, Int.toNat_natCast]
  congr 1
  apply ByteArray.ext
  rw [b2s_data]
  have : (ByteArray.mk #[0]).data.toList = [0] := rfl
  rw [this, rep_zero]
  simp [u8]
theorem getS_b2s (b : List Int) (j : Nat) (x : Int) (h : b[j]? = some x) (h0 : 0 ≤ x) (h1 : x ≤ 255) : getS (b2s b) (j : Int) = some x := by
  unfold getS
  rw [if_pos (by omega), Int.toNat_natCast]
  have e : (b2s b)[j]? = (b2s b).data[j]? := rfl
  rw [e, b2s_data]
  simp only [List.getElem?_toArray, List.getElem?_map, h, Option.map_some]
  congr 1
  unfold u8
  rw [UInt8.toNat_ofNat_of_lt' (by show x.toNat < 256; omega)]
  omega
/-! points and runs -/
def pr (e : Ex) : Fin 2 → Int := fun i : Fin 2 => [e.fStart, e.fN].get i
def val (s : Int) (j : Nat) : Int := if s = 0 then 0 else s + (j : Int)
theorem pt_loop (n : Nat) (l : List Ex) (x : Int) (e : Ex) (N : Nat) (hN : e.fN = (N : Int)) (hN8 : N ≤ 8) (hs : 0 ≤ e.fStart ∧ e.fStart ≤ 255) : ∀ (k j : Nat) (w : List Int), N - j < k → j ≤ N → w.length + (N - j) ≤ 100 →
    G_extent_Points_L2 n l x e k (j : Int) w = some (.x0 (w ++ (List.range' j (N - j)).map (val e.fStart))) ∧ G_ringref3_Unruns_L2 n (l.map pr) x (pr e) k (j : Int) w = some (.x0 (w ++ (List.range' j (N - j)).map (val e.fStart)))
  | 0, j, w, h, _, _ => by omega
  | k + 1, j, w, h, hj, hw => by
    have p0 : pr e 0 = e.fStart := rfl
    have p1 : pr e 1 = e.fN := rfl
    rw [G_extent_Points_L2, G_ringref3_Unruns_L2, p0, p1]
    by_cases h1 : j < N
    · have hr : List.range' j (N - j) = j :: List.range' (j + 1) (N - (j + 1)) := by
        rw [show N - j = (N - (j + 1)) + 1 by omega, List.range'_succ]
      have ih := pt_loop n l x e N hN hN8 hs k (j + 1) (w ++ [val e.fStart j]) (by omega) (by omega) (by simp; omega)
      rw [if_pos (show (j : Int) < e.fN by omega), if_pos (show (j : Int) < e.fN by omega), wi_succ (by omega), hr, List.map_cons]
      have ea : w ++ [val e.fStart j] ++ (List.range' (j + 1) (N - (j + 1))).map (val e.fStart) = w ++ val e.fStart j :: (List.range' (j + 1) (N - (j + 1))).map (val e.fStart) := by simp
      rw [ea] at ih
      by_cases h0 : e.fStart = 0
      · have v : val e.fStart j = 0 := if_pos h0
        rw [v] at ih ⊢
        have w0 : wi .i64 (e.fStart + 0) = 0 := by rw [h0]; rfl
        rw [if_pos h0, if_pos h0, w0, app_some (by simp; omega) (by omega), Option.bind_some, Option.bind_some]
        exact ih
      · have v : val e.fStart j = e.fStart + (j : Int) := if_neg h0
        rw [v] at ih ⊢
        rw [if_neg h0, if_neg h0, wi64 (x := e.fStart + (j : Int)) (by omega) (by omega), app_some (by simp; omega) (by omega), Option.bind_some, Option.bind_some]
        exact ih
    · have : N - j = 0 := by omega
      rw [if_neg (show ¬ (j : Int) < e.fN by omega), if_neg (show ¬ (j : Int) < e.fN by omega), this]
      simp
def okp (w : List Int) : Prop := w.length ≤ 8 ∧ ∀ q ∈ w, 0 ≤ q ∧ q ≤ 255
theorem pts_loop (n : Nat) (hn : 60 < n) (l : List Ex) (hl : l.length ≤ 100) (hwf : ∀ e ∈ l, -9223372036854775808 ≤ e.fStart ∧ e.fStart ≤ 9223372036854775807) : ∀ (k i : Nat) (w : List Int), l.length - i < k → i ≤ l.length → okp w →
    (∃ e, G_extent_Points_L3 n l k (i : Int) w = some (.x0 e) ∧ G_ringref3_Unruns_L3 n (l.map pr) k (i : Int) w = some (.x0 e) ∧ e ≠ 0) ∨ (∃ w', G_extent_Points_L3 n l k (i : Int) w = some (.x1 w') ∧ G_ringref3_Unruns_L3 n (l.map pr) k (i : Int) w = some (.x1 w') ∧ okp w')
  | 0, i, w, h, _, _ => by omega
  | k + 1, i, w, h, hi, hw => by
    rw [G_extent_Points_L3, G_ringref3_Unruns_L3]
    by_cases h1 : i < l.length
    · have hm : (l.map pr)[i]? = some (pr l[i]) := by rw [List.getElem?_map, List.getElem?_eq_getElem h1]; rfl
      rw [if_pos (by omega), if_pos (by simpa using h1), getI_nat, getI_nat, List.getElem?_eq_getElem h1, hm, Option.bind_some, Option.bind_some]
      have hb := hwf l[i] (List.getElem_mem h1)
      generalize l[i] = e at *
      have p0 : pr e 0 = e.fStart := rfl
      have p1 : pr e 1 = e.fN := rfl
      unfold G_extent_Points_C1 G_ringref3_Unruns_C1
      rw [p0, p1]
      by_cases a1 : e.fStart < 0
      · rw [if_pos a1, if_pos a1]; exact .inl ⟨1, rfl, rfl, by decide⟩
      by_cases a2 : e.fStart > 255
      · rw [if_neg a1, if_neg a1, if_pos (show e.fStart ≥ 256 by omega), if_pos a2]; exact .inl ⟨1, rfl, rfl, by decide⟩
      by_cases a3 : e.fN < 1
      · rw [if_neg a1, if_neg a1, if_neg (show ¬ e.fStart ≥ 256 by omega), if_neg a2, if_pos a3, if_pos a3]; exact .inl ⟨1, rfl, rfl, by decide⟩
      by_cases a4 : e.fN > 8
      · rw [if_neg a1, if_neg a1, if_neg (show ¬ e.fStart ≥ 256 by omega), if_neg a2, if_neg a3, if_neg a3, if_pos a4, if_pos a4]; exact .inl ⟨1, rfl, rfl, by decide⟩
      rw [if_neg a1, if_neg a1, if_neg (show ¬ e.fStart ≥ 256 by omega), if_neg a2, if_neg a3, if_neg a3, if_neg a4, if_neg a4]
      have ws : wi .i64 (e.fStart + e.fN) = e.fStart + e.fN := wi64 (by omega) (by omega)
      rw [ws]
      by_cases a5 : e.fStart > 0 ∧ e.fStart + e.fN > 256
      · rw [if_pos a5.1, if_pos a5.1, decide_eq_true a5.2, Option.bind_some, Option.bind_some]
        exact .inl ⟨1, rfl, rfl, by decide⟩
      · obtain ⟨N, hN⟩ := Int.eq_ofNat_of_zero_le (show 0 ≤ e.fN by omega)
        have hN : e.fN = (N : Int) := hN
        obtain ⟨q1, q2⟩ := pt_loop n l (i : Int) e N hN (by omega) ⟨by omega, by omega⟩ n 0 w (by omega) (by omega) (by have := hw.1; omega)
        have q1 : G_extent_Points_L2 n l (i : Int) e n 0 w = _ := q1
        have q2 : G_ringref3_Unruns_L2 n (l.map pr) (i : Int) (pr e) n 0 w = _ := q2
        have hc : ∀ {γ : Type} (K : Bool → Option γ), (if e.fStart > 0 then K (decide (e.fStart + e.fN > 256)) else K false) = K false := by
          intro γ K
          by_cases g : e.fStart > 0
          · rw [if_pos g, decide_eq_false (fun r => a5 ⟨g, r⟩)]
          · rw [if_neg g]
        rw [hc (fun b => some (G_extent_Points_C1_R.x0 b w)), hc (fun b => some (G_ringref3_Unruns_C1_R.x0 b w)), Option.bind_some, Option.bind_some]
        simp only [Bool.false_eq_true, if_false]
        rw [q1, q2, Option.bind_some, Option.bind_some]
        simp only []
        rw [Nat.sub_zero]
        by_cases a6 : ((w ++ (List.range' 0 N).map (val e.fStart)).length : Int) > 8
        · rw [if_pos a6, if_pos a6]; exact .inl ⟨2, rfl, rfl, by decide⟩
        · rw [if_neg a6, if_neg a6, wi_succ (by omega)]
          refine pts_loop n hn l hl hwf k (i + 1) _ (by omega) (by omega) ⟨by omega, fun q hq => ?_⟩
          rw [List.mem_append, List.mem_map] at hq
          rcases hq with hq | ⟨j, hj, rfl⟩
          · exact hw.2 q hq
          · rw [List.mem_range'_1] at hj
            unfold val
            by_cases g : e.fStart = 0
            · rw [if_pos g]; omega
            · rw [if_neg g]
              have : ¬ e.fStart + e.fN > 256 := fun r => a5 ⟨by omega, r⟩
              omega
    · rw [if_neg (by omega), if_neg (by simpa using h1)]
      exact .inr ⟨w, rfl, rfl, hw⟩
theorem points_any (n : Nat) (hn : 110 < n) (l : List Ex) (hl : l.length ≤ 100) (hwf : ∀ e ∈ l, -9223372036854775808 ≤ e.fStart ∧ e.fStart ≤ 9223372036854775807) :
    ∃ (w : List Int) (e : Int), G_extent_Points n l = some (w, e) ∧ G_ringref3_Unruns n (l.map pr) = some (w, e) ∧ okp w := by
  unfold G_extent_Points G_ringref3_Unruns
  rcases pts_loop n (by omega) l hl hwf n 0 [] (by omega) (by omega) ⟨by simp, by simp⟩ with ⟨e, h1, h2, _⟩ | ⟨w, h1, h2, h3⟩
  · have h1 : G_extent_Points_L3 n l n 0 [] = _ := h1
    have h2 : G_ringref3_Unruns_L3 n (l.map pr) n 0 [] = _ := h2
    rw [h1, h2]
    exact ⟨[], e, rfl, rfl, by simp, by simp⟩
  · have h1 : G_extent_Points_L3 n l n 0 [] = _ := h1
    have h2 : G_ringref3_Unruns_L3 n (l.map pr) n 0 [] = _ := h2
    rw [h1, h2]
    exact ⟨w, 0, rfl, rfl, h3⟩
theorem right_loop (n : Nat) (p : List Int) (hl : p.length ≤ 100) : ∀ (k i : Nat), p.length - i < k → i ≤ p.length →
    (G_ringref3_PointsRight_L1 n p k (i : Int) = some (.x0 1) ∧ G_extent_Right_L1 n p k (i : Int) = some (.x0 1)) ∨ (G_ringref3_PointsRight_L1 n p k (i : Int) = some .x1 ∧ G_extent_Right_L1 n p k (i : Int) = some .x1 ∧ ∀ q ∈ p.drop i, 0 ≤ q ∧ q ≤ 255) ∧ True
  | 0, i, h, _ => by omega
  | k + 1, i, h, hi => by
    rw [G_ringref3_PointsRight_L1, G_extent_Right_L1]
    by_cases h1 : i < p.length
    · rw [if_pos (by omega), if_pos (by omega), getI_nat, List.getElem?_eq_getElem h1, Option.bind_some, Option.bind_some, wi_succ (by omega)]
      by_cases a1 : p[i] < 0
      · rw [if_pos a1, if_pos a1]; exact .inl ⟨rfl, rfl⟩
      by_cases a2 : p[i] > 255
      · rw [if_neg a1, if_neg a1, if_pos a2, if_pos (show p[i] ≥ 256 by omega)]; exact .inl ⟨rfl, rfl⟩
      rw [if_neg a1, if_neg a1, if_neg a2, if_neg (show ¬ p[i] ≥ 256 by omega)]
      rcases right_loop n p hl k (i + 1) (by omega) (by omega) with h | ⟨⟨h3, h4, h5⟩, _⟩
      · exact .inl h
      · refine .inr ⟨⟨h3, h4, fun q hq => ?_⟩, trivial⟩
        rw [List.drop_eq_getElem_cons h1, List.mem_cons] at hq
        rcases hq with rfl | hq
        · omega
        · exact h5 q hq
    · rw [if_neg (by omega), if_neg (by omega)]
      refine .inr ⟨⟨rfl, rfl, fun q hq => ?_⟩, trivial⟩
      rw [List.drop_eq_nil_of_le (by omega)] at hq
      cases hq
theorem right_any (n : Nat) (p : List Int) (hl : p.length ≤ 100) (hn : 110 < n) : ∃ e : Int, G_ringref3_PointsRight n p = some e ∧ G_extent_Right n p = some e ∧ (e = 0 ↔ okp p) := by
  unfold G_ringref3_PointsRight G_extent_Right
  by_cases h8 : (p.length : Int) > 8
  · rw [if_pos h8, if_pos h8]
    exact ⟨2, rfl, rfl, by constructor <;> intro h <;> first | (exact absurd h (by decide)) | (have := h.1; omega)⟩
  · rw [if_neg h8, if_neg h8]
    rcases right_loop n p hl n 0 (by omega) (by omega) with ⟨h1, h2⟩ | ⟨⟨h1, h2, h3⟩, _⟩
    · have h1 : G_ringref3_PointsRight_L1 n p n 0 = _ := h1
      have h2 : G_extent_Right_L1 n p n 0 = _ := h2
      rw [h1, h2]
      refine ⟨1, rfl, rfl, ⟨fun h => absurd h (by decide), fun h => ?_⟩⟩
      exfalso
      -- all are in range: the loop would have come to its end
      have key : ∀ (k i : Nat), p.length - i < k → i ≤ p.length → G_extent_Right_L1 n p k (i : Int) = some .x1 := by
        intro k
        induction k with
        | zero => intro i h; omega
        | succ k ih =>
          intro i hk hi
          rw [G_extent_Right_L1]
          by_cases q : i < p.length
          · have := h.2 p[i] (List.getElem_mem q)
            rw [if_pos (by omega), getI_nat, List.getElem?_eq_getElem q, Option.bind_some, if_neg (by omega), if_neg (by omega), wi_succ (by omega)]
            exact ih (i + 1) (by omega) (by omega)
          · rw [if_neg (by omega)]
      have := key n 0 (by omega) (by omega)
      have : G_extent_Right_L1 n p n 0 = some .x1 := this
      rw [h2] at this
      cases this
    · have h1 : G_ringref3_PointsRight_L1 n p n 0 = _ := h1
      have h2 : G_extent_Right_L1 n p n 0 = _ := h2
      rw [h1, h2]
      exact ⟨0, rfl, rfl, ⟨fun _ => ⟨by omega, by simpa using h3⟩, fun _ => rfl⟩⟩
end xt
end Go.Proofs.Ytjjjaakefnnbpaa.pv
