/- BoxNests returns true for every two lists of ranges, and leaves its arguments alone. No condition. -/
import Derived.Test.YtiajagahghgclaaLBox
namespace Go.Proofs.Ytiajagahghgclaa.boxNests
open Go.ChangeShapes Go.WideShapes Go.ChangeAt Go.RowKit help rep pv
set_option linter.all false

def inr (z : S_box_Range) (v : Int) : Bool := decide (z.fIn ≤ v) && decide (v < z.fIn + z.fN)
def fnd : List S_box_Range → Int → Option Int
  | [], _ => none
  | z :: zs, v => if inr z v = true then some (z.fOut + v - z.fIn) else fnd zs v
theorem fnd_bd : ∀ {l : List S_box_Range} {v r : Int}, (∀ z ∈ l, V z) → fnd l v = some r → 0 ≤ r ∧ r < 100
  | [], v, r, _, h => by simp [fnd] at h
  | z :: zs, v, r, hv, h => by
    have vz := hv z (List.mem_cons_self ..)
    obtain ⟨a1, a2, a3, a4, a5, a6⟩ := vz
    rw [fnd] at h
    split at h
    · rename_i hi
      simp [inr] at hi
      have := Option.some.inj h
      omega
    · exact fnd_bd (fun x hx => hv x (List.mem_cons_of_mem _ hx)) h
section
variable (n : Nat) {l : List S_box_Range} (g : Good l) {v : Int} (v0 : 0 ≤ v) (v1 : v ≤ 1000)
include g v0 v1
theorem to_loop : ∀ (k i : Nat), l.length - i < k → i ≤ l.length → G_box_To_L1 n v l k (i : Int) = some (match fnd (l.drop i) v with | some r => .x0 r 0 | none => .x1)
  | 0, i, h, _ => by omega
  | k + 1, i, h, hi => by
    have hgl := g.len
    rw [G_box_To_L1]
    by_cases hlt : (i : Int) < (l.length : Int)
    · obtain ⟨z, hz⟩ := get_lt hlt
      obtain ⟨a1, a2, a3, a4, a5, a6⟩ := g.box z (List.mem_of_getElem? hz)
      have w1 : wi .i64 (z.fIn + z.fN) = z.fIn + z.fN := wi64 (by omega) (by omega)
      have w2 : wi .i64 (z.fOut + v) = z.fOut + v := wi64 (by omega) (by omega)
      have w3 : wi .i64 (z.fOut + v - z.fIn) = z.fOut + v - z.fIn := wi64 (by omega) (by omega)
      rw [if_pos hlt, getI_nat, hz, Option.bind_some, drop_cons hz, fnd, w1, w2, w3, wi_succ (by omega), to_loop k (i + 1) (by omega) (by omega)]
      unfold inr
      by_cases c1 : z.fIn ≤ v
      · by_cases c2 : v < z.fIn + z.fN
        · simp [c1, c2]
        · simp [c1, c2]
      · simp [c1]
    · rw [if_neg hlt, drop_end hlt]; rfl
theorem to_any (hn : 200 ≤ n) (hc : G_box_Check n l = some 0) : G_box_To n l v = some (match fnd l v with | some r => (r, 0) | none => (0, 4)) := by
  have hgl := g.len
  unfold G_box_To
  have h := to_loop n g v0 v1 n 0 (by omega) (by omega)
  have h : G_box_To_L1 n v l n 0 = some (match fnd l v with | some r => .x0 r 0 | none => .x1) := h
  rw [hc, Option.bind_some, if_pos rfl, h]
  cases fnd l v <;> rfl
theorem bt1 (L : List (Fin 3 → Int)) (x : Int) {I O N : Nat} (h1 : 1 ≤ N) (h2 : I + N ≤ 100) (h3 : O + N ≤ 100) : ∀ (f i : Nat), N - i < f → i ≤ N → G_ringref5_BoxTo_L1 n v L x (tri (S_box_Range.mk I O N)) f (i : Int) = if (I : Int) + i ≤ v ∧ v < (I : Int) + N then some (.x0 ((O : Int) + v - I)) else some .x1
  | 0, i, h, _ => by omega
  | f + 1, i, h, hi => by
    rw [G_ringref5_BoxTo_L1, show tri (S_box_Range.mk I O N) 0 = (I : Int) from rfl, show tri (S_box_Range.mk I O N) 1 = (O : Int) from rfl, show tri (S_box_Range.mk I O N) 2 = (N : Int) from rfl]
    by_cases hlt : (i : Int) < (N : Int)
    · have w1 : wi .i64 ((I : Int) + i) = (I : Int) + i := wi64 (by omega) (by omega)
      have w2 : wi .i64 ((O : Int) + i) = (O : Int) + i := wi64 (by omega) (by omega)
      rw [if_pos hlt, w1, w2, wi_succ (by omega), bt1 L x h1 h2 h3 f (i + 1) (by omega) (by omega)]
      by_cases e : (I : Int) + i = v
      · rw [if_pos e, if_pos (by omega)]
        congr 2; omega
      · rw [if_neg e]
        by_cases c : (I : Int) + i ≤ v ∧ v < (I : Int) + N
        · rw [if_pos c, if_pos (by omega)]
        · rw [if_neg c, if_neg (by omega)]
    · rw [if_neg hlt, if_neg (by omega)]
theorem boxto_any (hn : 200 ≤ n) : G_ringref5_BoxTo n (l.map tri) v = some (match fnd l v with | some r => r | none => -1) := by
  have hgl := g.len
  have loop : ∀ (k i : Nat), l.length - i < k → i ≤ l.length → G_ringref5_BoxTo_L2 n v (l.map tri) k (i : Int) = some (match fnd (l.drop i) v with | some r => .x0 r | none => .x1) := by
    intro k
    induction k with
    | zero => intro i h _; omega
    | succ k ih =>
      intro i h hi
      rw [G_ringref5_BoxTo_L2, List.length_map]
      by_cases hlt : (i : Int) < (l.length : Int)
      · obtain ⟨z, hz⟩ := get_lt hlt
        obtain ⟨I, O, N, rfl, h1, h2, h3⟩ := V_nat (g.box z (List.mem_of_getElem? hz))
        have hb := bt1 n g v0 v1 (l.map tri) (i : Int) h1 h2 h3 n 0 (by omega) (by omega)
        have hb : G_ringref5_BoxTo_L1 n v (l.map tri) (i : Int) (tri (S_box_Range.mk I O N)) n 0 = if (I : Int) + (0 : Nat) ≤ v ∧ v < (I : Int) + N then some (.x0 ((O : Int) + v - I)) else some .x1 := hb
        rw [if_pos hlt, map_get, hz, Option.map_some, Option.bind_some, hb, drop_cons hz, fnd, wi_succ (by omega)]
        unfold inr
        by_cases c : (I : Int) + (0 : Nat) ≤ v ∧ v < (I : Int) + N
        · rw [if_pos c, if_pos (by simp; omega)]; rfl
        · rw [if_neg c, if_neg (by simp; omega), Option.bind_some]
          exact ih (i + 1) (by omega) (by omega)
      · rw [if_neg hlt, drop_end hlt]; rfl
  unfold G_ringref5_BoxTo
  have h := loop n 0 (by omega) (by omega)
  have h : G_ringref5_BoxTo_L2 n v (l.map tri) n 0 = some (match fnd l v with | some r => .x0 r | none => .x1) := h
  rw [h]
  cases fnd l v <;> rfl
end
def bump (w : List S_box_Range) : List S_box_Range := match w[w.length - 1]? with
  | some e => w.set (w.length - 1) (S_box_Range.mk e.fIn e.fOut (wi .i64 (e.fN + 1)))
  | none => w
theorem bump_len {w : List S_box_Range} : (bump w).length = w.length := by
  unfold bump; split <;> simp
theorem bump_app {w : List S_box_Range} {e : S_box_Range} : bump (w ++ [e]) = w ++ [S_box_Range.mk e.fIn e.fOut (wi .i64 (e.fN + 1))] := by
  unfold bump
  simp
/-- the run over one range, unit by unit -/
def rf (o : List S_box_Range) (I O : Int) : Nat → Nat → Int → List S_box_Range → Option (List S_box_Range)
  | 0, _, _, w => some w
  | f + 1, x, last, w => match fnd o (O + x) with
    | none => none
    | some r => rf o I O f (x + 1) r (if r = last + 1 ∧ 0 < x then bump w else w ++ [S_box_Range.mk (I + x) r 1])
theorem rf_none {o : List S_box_Range} {I O : Int} {f x : Nat} {last : Int} {w : List S_box_Range} (h : fnd o (O + x) = none) : rf o I O (f + 1) x last w = none := by rw [rf, h]
theorem rf_some {o : List S_box_Range} {I O : Int} {f x : Nat} {last r : Int} {w : List S_box_Range} (h : fnd o (O + x) = some r) : rf o I O (f + 1) x last w = rf o I O f (x + 1) r (if r = last + 1 ∧ 0 < x then bump w else w ++ [S_box_Range.mk (I + x) r 1]) := by rw [rf, h]
theorem rf_len {o : List S_box_Range} {I O : Int} : ∀ {f x : Nat} {last : Int} {w w' : List S_box_Range}, rf o I O f x last w = some w' → w'.length ≤ w.length + f
  | 0, x, last, w, w', h => by
    rw [rf] at h
    obtain rfl := Option.some.inj h
    omega
  | f + 1, x, last, w, w', h => by
    cases hf : fnd o (O + x) with
    | none => rw [rf_none hf] at h; cases h
    | some r =>
      rw [rf_some hf] at h
      have := rf_len h
      split at this
      · rw [bump_len] at this; omega
      · simp at this; omega
section
variable (n : Nat) (hn : 200 ≤ n) {o : List S_box_Range} (g : Good o) (hc : G_box_Check n o = some 0) {I O N : Nat} (h1 : 1 ≤ N) (h2 : I + N ≤ 100) (h3 : O + N ≤ 100)
include hn g hc h1 h2 h3
theorem n1 (inner : List S_box_Range) (x : Int) (k : Nat) (r : Int) (r0 : 0 ≤ r) (r1 : r < 100) (w : List S_box_Range) : ∀ (f m : Nat), N - (k + m) < f → 1 ≤ m → k + m ≤ N →
    ∃ m' : Nat, m ≤ m' ∧ k + m' ≤ N ∧ G_box_Nest_L1 n o (k : Int) (r, 0) inner x (S_box_Range.mk I O N) f (m : Int) w = some (.x0 (m' : Int) w) ∧
      (k + m' = N ∨ fnd o ((O : Int) + (k + m' : Nat)) ≠ some (r + m')) ∧
      rf o I O (N - (k + m)) (k + m) (r + m - 1) (w ++ [S_box_Range.mk ((I : Int) + k) r m]) = rf o I O (N - (k + m')) (k + m') (r + m' - 1) (w ++ [S_box_Range.mk ((I : Int) + k) r m'])
  | 0, m, h, _, _ => by omega
  | f + 1, m, h, hm, hk => by
    rw [G_box_Nest_L1]
    have w1 : wi .i64 ((k : Int) + m) = ((k + m : Nat) : Int) := by rw [wi64 (by omega) (by omega)]; simp
    by_cases hlt : ((k + m : Nat) : Int) < (N : Int)
    · have w2 : wi .i64 (wi .i64 ((O : Int) + k) + m) = (O : Int) + (k + m : Nat) := by
        rw [wi64 (x := (O : Int) + k) (by omega) (by omega), wi64 (by omega) (by omega)]; simp; omega
      have w3 : wi .i64 (r + m) = r + m := wi64 (by omega) (by omega)
      rw [w1, if_pos (show ((k + m : Nat) : Int) < (S_box_Range.mk I O N).fN from hlt), show (S_box_Range.mk (I : Int) O N).fOut = (O : Int) from rfl, w2, to_any n g (by omega) (by omega) hn hc, Option.bind_some]
      cases hf : fnd o ((O : Int) + (k + m : Nat)) with
      | none =>
        rw [if_neg (by simp)]
        exact ⟨m, by omega, hk, rfl, .inr (by rw [hf]; simp), rfl⟩
      | some v =>
        rw [if_pos (by simp), w3]
        by_cases e : v = r + m
        · rw [if_pos (show v = r + m from e), wi_succ (by omega)]
          obtain ⟨m', a, b, c, d, q⟩ := n1 inner x k r r0 r1 w f (m + 1) (by omega) (by omega) (by omega)
          refine ⟨m', by omega, b, c, d, ?_⟩
          rw [← q]
          have ef : N - (k + m) = (N - (k + (m + 1))) + 1 := by omega
          rw [ef, rf_some hf, if_pos ⟨by omega, by omega⟩, bump_app]
          have w4 : wi .i64 ((m : Int) + 1) = ((m + 1 : Nat) : Int) := wi_succ (by omega)
          show rf o I O _ (k + m + 1) v (w ++ [S_box_Range.mk ((I : Int) + k) r (wi .i64 ((m : Int) + 1))]) = _
          rw [w4, e]
          have e5 : r + ((m + 1 : Nat) : Int) - 1 = r + m := by simp; omega
          rw [e5]
          rfl
        · rw [if_neg (show ¬ v = r + m from e)]
          refine ⟨m, by omega, hk, rfl, .inr ?_, rfl⟩
          rw [hf]; intro he; exact e (Option.some.inj he)
    · rw [w1, if_neg (show ¬ ((k + m : Nat) : Int) < (S_box_Range.mk I O N).fN from hlt)]
      exact ⟨m, by omega, hk, rfl, .inl (by omega), rfl⟩
theorem n2 (inner : List S_box_Range) (x : Int) : ∀ (f k : Nat) (last : Int) (w : List S_box_Range), N - k < f → k ≤ N → (k = 0 ∨ k = N ∨ fnd o ((O : Int) + k) ≠ some (last + 1)) → w.length + (N - k) ≤ 10000 →
    G_box_Nest_L2 n o inner x (S_box_Range.mk I O N) f (k : Int) w = some (match rf o I O (N - k) k last w with | some w' => .x1 w' | none => .x0 4)
  | 0, k, last, w, h, _, _, _ => by omega
  | f + 1, k, last, w, h, hk, hl, hw => by
    rw [G_box_Nest_L2]
    by_cases hlt : (k : Int) < (N : Int)
    · have w2 : wi .i64 ((O : Int) + k) = (O : Int) + k := wi64 (by omega) (by omega)
      rw [if_pos (show (k : Int) < (S_box_Range.mk I O N).fN from hlt), show (S_box_Range.mk (I : Int) O N).fOut = (O : Int) from rfl, w2, to_any n g (by omega) (by omega) hn hc, Option.bind_some]
      have ef : N - k = (N - (k + 1)) + 1 := by omega
      cases hf : fnd o ((O : Int) + k) with
      | none =>
        rw [if_neg (by simp), ef, rf_none hf]
      | some r =>
        obtain ⟨r0, r1⟩ := fnd_bd g.box hf
        obtain ⟨m', a, b, c, d, q⟩ := n1 n hn g hc h1 h2 h3 inner x k r r0 r1 w n 1 (by omega) (by omega) (by omega)
        have c : G_box_Nest_L1 n o (k : Int) (r, 0) inner x (S_box_Range.mk I O N) n 1 w = some (.x0 (m' : Int) w) := c
        have w3 : wi .i64 ((I : Int) + k) = (I : Int) + k := wi64 (by omega) (by omega)
        have w4 : wi .i64 ((k : Int) + m') = ((k + m' : Nat) : Int) := by rw [wi64 (by omega) (by omega)]; simp
        rw [if_pos (by simp)]
        simp only [c, Option.bind_some]
        rw [w3, app_some (by simp; omega) (by omega), Option.bind_some, w4, n2 inner x f (k + m') (r + m' - 1) _ (by omega) b ?_ (by simp; omega)]
        · rw [← q, ef, rf_some hf, if_neg (by
            intro hh
            rcases hl with hl | hl | hl
            · omega
            · omega
            · exact hl (by rw [hf, hh.1]))]
          have e5 : r + ((1 : Nat) : Int) - 1 = r := by simp
          rw [e5]
          rfl
        · rcases d with d | d
          · exact .inr (.inl d)
          · right; right
            intro he
            apply d
            rw [he]
            congr 1
            omega
    · rw [if_neg (show ¬ (k : Int) < (S_box_Range.mk I O N).fN from hlt)]
      have : N - k = 0 := by omega
      rw [this]; rfl
variable (r104 : List S_box_Range × Int) (r116 : List (Fin 3 → Int)) (x214 : Int)
omit hn g hc h1 h2 h3 in
theorem b3w (want last : Int) (hw : want ≠ 0) (f : Nat) (x : Int) (w : List S_box_Range) (y : Fin 3 → Int) : G_ringlaw5_BoxNests_L3 n r104 (o.map tri) r116 x214 y (f + 1) want last x w = some (.x0 want w) := by
  rw [G_ringlaw5_BoxNests_L3]
  split <;> simp [hw]
theorem c2_ok (want last : Int) (l1 : -2 ≤ last) (l2 : last < 100) (x : Nat) (hx : x < N) (r : Int) (r0 : 0 ≤ r) (w : List S_box_Range) (hw : 0 < x → w ≠ []) (hwl : w.length ≤ 10000) : G_ringlaw5_BoxNests_C2 n r104 (o.map tri) want last (x : Int) r r116 x214 (tri (S_box_Range.mk I O N)) w = some (.x0 want (if r = last + 1 ∧ 0 < x then bump w else w ++ [S_box_Range.mk ((I : Int) + x) r 1])) := by
  unfold G_ringlaw5_BoxNests_C2
  have w1 : wi .i64 (last + 1) = last + 1 := wi64 (by omega) (by omega)
  have w2 : wi .i64 ((I : Int) + x) = (I : Int) + x := wi64 (by omega) (by omega)
  have ha : app 24 w [S_box_Range.mk ((I : Int) + x) r 1] = some (w ++ [S_box_Range.mk ((I : Int) + x) r 1]) := app_some (by simp; omega) (by omega)
  rw [if_neg (by omega), w1, show tri (S_box_Range.mk (I : Int) O N) 0 = (I : Int) from rfl, w2, ha]
  by_cases e : r = last + 1
  · by_cases hx0 : 0 < x
    · have hne := hw hx0
      have hpos : 0 < w.length := List.length_pos_iff.2 hne
      have w3 : wi .i64 ((w.length : Int) - 1) = ((w.length - 1 : Nat) : Int) := by rw [wi64 (by omega) (by omega)]; omega
      obtain ⟨y, hy⟩ : ∃ y, w[w.length - 1]? = some y := ⟨_, List.getElem?_eq_getElem (by omega)⟩
      have q : 0 ≤ ((w.length - 1 : Nat) : Int) ∧ (w.length - 1) < w.length := by omega
      rw [if_pos e, if_pos (by omega), w3]
      simp only [Int.toNat_natCast, if_pos q, hy, Option.bind_some]
      rw [if_pos ⟨e, hx0⟩]
      unfold bump
      rw [hy]
    · rw [if_pos e, if_neg (by omega), if_neg (by omega)]
      rfl
  · rw [if_neg e, if_neg (fun h => e h.1)]
    rfl
theorem b3 : ∀ (f x : Nat) (last : Int) (w : List S_box_Range), N - x < f → x ≤ N → (0 < x → w ≠ []) → w.length + (N - x) ≤ 10000 → -2 ≤ last → last < 100 →
    match rf o I O (N - x) x last w with
    | some w' => G_ringlaw5_BoxNests_L3 n r104 (o.map tri) r116 x214 (tri (S_box_Range.mk I O N)) f 0 last (x : Int) w = some (.x0 0 w')
    | none => ∃ w', G_ringlaw5_BoxNests_L3 n r104 (o.map tri) r116 x214 (tri (S_box_Range.mk I O N)) f 0 last (x : Int) w = some (.x0 4 w')
  | 0, x, last, w, h, _, _, _, _, _ => by omega
  | f + 1, x, last, w, h, hx, hw, hwl, l1, l2 => by
    rw [G_ringlaw5_BoxNests_L3, show tri (S_box_Range.mk (I : Int) O N) 2 = (N : Int) from rfl, show tri (S_box_Range.mk (I : Int) O N) 1 = (O : Int) from rfl]
    by_cases hlt : (x : Int) < (N : Int)
    · have w2 : wi .i64 ((O : Int) + x) = (O : Int) + x := wi64 (by omega) (by omega)
      have ef : N - x = (N - (x + 1)) + 1 := by omega
      rw [if_pos hlt, if_pos rfl, w2, boxto_any n g (by omega) (by omega) hn, Option.bind_some, ef]
      cases hf : fnd o ((O : Int) + x) with
      | none =>
        rw [rf_none hf]
        refine ⟨w, ?_⟩
        have : G_ringlaw5_BoxNests_C2 n r104 (o.map tri) 0 last (x : Int) (-1) r116 x214 (tri (S_box_Range.mk I O N)) w = some (.x0 4 w) := by
          unfold G_ringlaw5_BoxNests_C2
          rw [if_pos (by decide)]
        simp only [this, Option.bind_some]
        obtain ⟨f', rfl⟩ : ∃ f', f = f' + 1 := ⟨f - 1, by omega⟩
        exact b3w n r104 r116 x214 4 (-1) (by decide) f' _ w _
      | some r =>
        obtain ⟨r0, r1⟩ := fnd_bd g.box hf
        rw [rf_some hf]
        have hc2 := c2_ok n hn g hc h1 h2 h3 r104 r116 x214 0 last l1 l2 x (by omega) r r0 w hw (by omega)
        simp only [hc2, Option.bind_some]
        rw [wi_succ (by omega)]
        refine b3 f (x + 1) r _ (by omega) (by omega) (fun _ => ?_) ?_ (by omega) (by omega)
        · split
          · rename_i hh
            intro he
            have := congrArg List.length he
            rw [bump_len] at this
            exact hw hh.2 (List.eq_nil_of_length_eq_zero (by simpa using this))
          · simp
        · split
          · rw [bump_len]; omega
          · simp; omega
    · have : N - x = 0 := by omega
      rw [if_neg hlt, this]
      rfl
end
def rfs (o : List S_box_Range) : List S_box_Range → List S_box_Range → Option (List S_box_Range)
  | [], w => some w
  | y :: ys, w => match rf o y.fIn y.fOut y.fN.toNat 0 (-2) w with
    | none => none
    | some w' => rfs o ys w'
theorem rfs_none {o ys w : List S_box_Range} {y : S_box_Range} (h : rf o y.fIn y.fOut y.fN.toNat 0 (-2) w = none) : rfs o (y :: ys) w = none := by rw [rfs, h]
theorem rfs_some {o ys w w' : List S_box_Range} {y : S_box_Range} (h : rf o y.fIn y.fOut y.fN.toNat 0 (-2) w = some w') : rfs o (y :: ys) w = rfs o ys w' := by rw [rfs, h]
section
variable (n : Nat) (hn : 200 ≤ n) {o l : List S_box_Range} (g : Good o) (hc : G_box_Check n o = some 0) (gl : Good l)
include hn g hc gl
theorem n3 : ∀ (f i : Nat) (w : List S_box_Range), l.length - i < f → i ≤ l.length → w.length ≤ 100 * i → G_box_Nest_L3 n o l f (i : Int) w = some (match rfs o (l.drop i) w with | some w' => .x1 w' | none => .x0 4)
  | 0, i, w, h, _, _ => by omega
  | f + 1, i, w, h, hi, hw => by
    have hgl := gl.len
    rw [G_box_Nest_L3]
    by_cases hlt : (i : Int) < (l.length : Int)
    · obtain ⟨z, hz⟩ := get_lt hlt
      obtain ⟨I, O, N, rfl, h1, h2, h3⟩ := V_nat (gl.box z (List.mem_of_getElem? hz))
      have h := n2 n hn g hc h1 h2 h3 l (i : Int) n 0 (-2) w (by omega) (by omega) (.inl rfl) (by omega)
      have h : G_box_Nest_L2 n o l (i : Int) (S_box_Range.mk I O N) n 0 w = some (match rf o I O N 0 (-2) w with | some w' => .x1 w' | none => .x0 4) := h
      rw [if_pos hlt, getI_nat, hz, Option.bind_some, h, drop_cons hz, Option.bind_some]
      cases hr : rf o I O N 0 (-2) w with
      | none => rw [rfs_none (by simpa using hr)]
      | some w' =>
        have := rf_len hr
        rw [rfs_some (by simpa using hr)]
        simp only []
        rw [wi_succ (by omega)]
        exact n3 f (i + 1) w' (by omega) (by omega) (by omega)
    · rw [if_neg hlt, drop_end hlt]; rfl
variable (r104 : List S_box_Range × Int)
omit hn g hc gl in
theorem b4w (want : Int) (hw : want ≠ 0) (hl : l.length < 4611686018427387904) (hn1 : 0 < n) : ∀ (f i : Nat) (w : List S_box_Range), l.length - i < f → i ≤ l.length → G_ringlaw5_BoxNests_L4 n r104 (o.map tri) (l.map tri) f want (i : Int) w = some (.x0 want w)
  | 0, i, w, h, _ => by omega
  | f + 1, i, w, h, hi => by
    rw [G_ringlaw5_BoxNests_L4, List.length_map]
    by_cases hlt : (i : Int) < (l.length : Int)
    · obtain ⟨z, hz⟩ := get_lt hlt
      obtain ⟨n', hn'⟩ : ∃ n', n = n' + 1 := ⟨n - 1, by omega⟩
      have h : G_ringlaw5_BoxNests_L3 n r104 (o.map tri) (l.map tri) (i : Int) (tri z) n want (-2) 0 w = some (.x0 want w) := by
        rw [hn']
        exact b3w (n' + 1) (o := o) r104 (l.map tri) (i : Int) want (-2) hw n' 0 w (tri z)
      rw [if_pos hlt, map_get, hz, Option.map_some, Option.bind_some, h, Option.bind_some]
      simp only []
      rw [wi_succ (by omega)]
      exact b4w want hw hl hn1 f (i + 1) w (by omega) (by omega)
    · rw [if_neg hlt]
theorem b4 : ∀ (f i : Nat) (w : List S_box_Range), l.length - i < f → i ≤ l.length → w.length ≤ 100 * i →
    match rfs o (l.drop i) w with
    | some w' => G_ringlaw5_BoxNests_L4 n r104 (o.map tri) (l.map tri) f 0 (i : Int) w = some (.x0 0 w')
    | none => ∃ w', G_ringlaw5_BoxNests_L4 n r104 (o.map tri) (l.map tri) f 0 (i : Int) w = some (.x0 4 w')
  | 0, i, w, h, _, _ => by omega
  | f + 1, i, w, h, hi, hw => by
    have hgl := gl.len
    rw [G_ringlaw5_BoxNests_L4, List.length_map]
    by_cases hlt : (i : Int) < (l.length : Int)
    · obtain ⟨z, hz⟩ := get_lt hlt
      obtain ⟨I, O, N, rfl, h1, h2, h3⟩ := V_nat (gl.box z (List.mem_of_getElem? hz))
      have h := b3 n hn g hc h1 h2 h3 r104 (l.map tri) (i : Int) n 0 (-2) w (by omega) (by omega) (by omega) (by omega) (by omega) (by omega)
      rw [if_pos hlt, map_get, hz, Option.map_some, Option.bind_some, drop_cons hz]
      rw [show N - 0 = N from rfl] at h
      cases hr : rf o I O N 0 (-2) w with
      | none =>
        rw [hr] at h
        obtain ⟨w', h⟩ := h
        have h : G_ringlaw5_BoxNests_L3 n r104 (o.map tri) (l.map tri) (i : Int) (tri (S_box_Range.mk I O N)) n 0 (-2) 0 w = some (.x0 4 w') := h
        rw [rfs_none (by simpa using hr)]
        refine ⟨w', ?_⟩
        rw [h, Option.bind_some]
        simp only []
        rw [wi_succ (by omega)]
        exact b4w n r104 4 (by decide) (by omega) (by omega) f (i + 1) w' (by omega) (by omega)
      | some w' =>
        rw [hr] at h
        have h : G_ringlaw5_BoxNests_L3 n r104 (o.map tri) (l.map tri) (i : Int) (tri (S_box_Range.mk I O N)) n 0 (-2) 0 w = some (.x0 0 w') := h
        have := rf_len hr
        rw [rfs_some (by simpa using hr), h, Option.bind_some]
        simp only []
        rw [wi_succ (by omega)]
        exact b4 f (i + 1) w' (by omega) (by omega) (by omega)
    · rw [if_neg hlt, drop_end hlt]; rfl
end
theorem rfs_len {o : List S_box_Range} : ∀ {l w w' : List S_box_Range}, (∀ z ∈ l, V z) → rfs o l w = some w' → w'.length ≤ w.length + 100 * l.length
  | [], w, w', _, h => by
    rw [rfs] at h
    obtain rfl := Option.some.inj h
    simp
  | y :: ys, w, w', hv, h => by
    have vy := hv y (List.mem_cons_self ..)
    have v2 := vy.n2
    cases hr : rf o y.fIn y.fOut y.fN.toNat 0 (-2) w with
    | none => rw [rfs_none hr] at h; cases h
    | some w1 =>
      rw [rfs_some hr] at h
      have h1 := rf_len hr
      have h2 := rfs_len (fun z hz => hv z (List.mem_cons_of_mem _ hz)) h
      rw [List.length_cons]
      omega
theorem law (a b : List S_box_Range) (oa : okL 24 okS_box_Range a) (ob : okL 24 okS_box_Range b) : ∃ n, G_ringlaw5_BoxNests n a b = some true := by
  have ha := oa.1
  have hb := ob.1
  refine ⟨a.length + b.length + 1000 + 200, ?_⟩
  have hbx := boxes_true (a.length + b.length + 1000)
  generalize hN : a.length + b.length + 1000 + 200 = n at *
  obtain ⟨r, p1, p2, p3⟩ := checks n a (by omega)
  obtain ⟨s, q1, q2, q3⟩ := checks n b (by omega)
  have t1 := trip n a ha (by omega)
  have t2 := trip n b hb (by omega)
  have early : ∀ e : Int, e ≠ 0 → G_box_Nest n a b = some ([], e) → (∀ r104, G_ringlaw5_BoxNests_C1 n r104 (a.map tri) (b.map tri) r = some (.x0 e)) → G_ringlaw5_BoxNests n a b = some true := by
    intro e he h1 h2
    have h4 := b4w n (o := a) (l := b) ([], e) e he (by omega) (by omega) n 0 [] (by omega) (by omega)
    have h4 : G_ringlaw5_BoxNests_L4 n ([], e) (a.map tri) (b.map tri) n e 0 [] = some (.x0 e []) := h4
    unfold G_ringlaw5_BoxNests
    rw [hbx, Option.bind_some, if_pos rfl, h1, t1, t2, Option.bind_some, Option.bind_some, Option.bind_some, p2, Option.bind_some, h2]
    simp only [Option.bind_some, h4]
    rw [if_neg he]
    rfl
  by_cases hr : r = 0
  · subst hr
    have ga := p3 rfl
    have c1 : ∀ r104, G_ringlaw5_BoxNests_C1 n r104 (a.map tri) (b.map tri) 0 = some (.x0 s) := by
      intro r104
      unfold G_ringlaw5_BoxNests_C1
      rw [if_pos rfl, q2]; rfl
    by_cases hs : s = 0
    · subst hs
      have gb := q3 rfl
      have hgb := gb.len
      have h3 := n3 n (by omega) ga p1 gb n 0 [] (by omega) (by omega) (by simp)
      have h3 : G_box_Nest_L3 n a b n 0 [] = some (match rfs a b [] with | some w' => .x1 w' | none => .x0 4) := h3
      have h4 := fun r104 => b4 n (by omega) ga p1 gb r104 n 0 [] (by omega) (by omega) (by simp)
      simp only [List.drop_zero] at h4
      unfold G_ringlaw5_BoxNests G_box_Nest
      rw [hbx, Option.bind_some, if_pos rfl, p1, q1, Option.bind_some, if_pos rfl, Option.bind_some, if_pos rfl, h3, t1, t2, Option.bind_some]
      cases hw : rfs a b [] with
      | none =>
        rw [hw] at h4
        obtain ⟨w', h4⟩ := h4 ([], 4)
        have h4 : G_ringlaw5_BoxNests_L4 n ([], 4) (a.map tri) (b.map tri) n 0 0 [] = some (.x0 4 w') := h4
        simp only [Option.bind_some, p2, c1, h4]
        rfl
      | some w =>
        rw [hw] at h4
        have hl := rfs_len gb.box hw
        simp only [List.length_nil] at hl
        have h4 : ∀ r104, G_ringlaw5_BoxNests_L4 n r104 (a.map tri) (b.map tri) n 0 0 [] = some (.x0 0 w) := h4
        simp only [Option.bind_some, p2, c1]
        by_cases hlen : (w.length : Int) > 4
        · simp only [if_pos hlen, Option.bind_some, h4, if_true]
          rfl
        · simp only [if_neg hlen, Option.bind_some, h4, if_true, equal_self n w (by omega) (by omega)]
    · refine early s hs ?_ c1
      unfold G_box_Nest
      rw [p1, Option.bind_some, if_pos rfl, q1, Option.bind_some, if_neg hs]
  · refine early r hr ?_ ?_
    · unfold G_box_Nest
      rw [p1, Option.bind_some, if_neg hr]
    · intro r104
      unfold G_ringlaw5_BoxNests_C1
      rw [if_neg hr]
end Go.Proofs.Ytiajagahghgclaa.boxNests
