/- LimitSays returns true for every list of boxes and every two numbers, and leaves its arguments alone. No condition. -/
import Derived.Test.YtccmjndnjpjohaaRGuLimitSays
import Derived.Test.YtccmjndnjpjohaaRMath
import Derived.ChangeOld
namespace Go.Proofs.YtccmjndnjpjohaaR.limitSays
open Go.ChangeShapes Go.WideShapes Go.ChangeAt Go.RowKit help rep pv
set_option linter.all false

def tri (b : S_limit_Box) : Fin 3 → Int := fun i : Fin 3 => [b.fUp, b.fHave, b.fMost].get i
theorem map_get (l : List S_limit_Box) (i : Nat) : getI (l.map tri) (i : Int) = (l[i]?).map tri := by
  rw [getI_nat]; simp
theorem app_bytes {α : Type} {xs ys : List α} (h : (xs.length + ys.length) * 24 ≤ 140737488351232) : app 24 xs ys = some (xs ++ ys) := by
  unfold app
  rw [if_pos ⟨by unfold maxLen; omega, by omega⟩]
def b1 (y : S_limit_Box) (i : Int) : Bool := decide (y.fUp < -1) || decide (y.fUp ≥ i)
def b2 (y : S_limit_Box) : Bool := decide (y.fMost < 0) || decide (y.fMost > 1000000) || decide (y.fHave < 0) || decide (y.fHave > y.fMost)
theorem cc1 (n : Nat) (l : List S_limit_Box) (i : Int) (y : S_limit_Box) : G_limit_Check_C1 n l i y = some (.x0 (b1 y i)) := by
  unfold G_limit_Check_C1 b1
  by_cases h : y.fUp < -1 <;> simp [h]
theorem rc1 (n : Nat) (l : List (Fin 3 → Int)) (i : Int) (y : S_limit_Box) : G_ringref5_BoxesErr_C1 n l i (tri y) = some (.x0 (b1 y i)) := by
  unfold G_ringref5_BoxesErr_C1 b1
  rw [show tri y 0 = y.fUp from rfl]
  by_cases h : y.fUp < -1 <;> simp [h]
theorem cc2 (n : Nat) (l : List S_limit_Box) (i : Int) (y : S_limit_Box) : G_limit_Check_C2 n l i y = some (.x0 (b2 y)) := by
  unfold G_limit_Check_C2 b2
  by_cases h : y.fMost < 0
  · simp [h]
  by_cases h2 : y.fMost > 1000000
  · simp [h, h2]
  by_cases h3 : y.fHave < 0
  · simp [h, h2, h3]
  simp [h, h2, h3]
theorem rc2 (n : Nat) (l : List (Fin 3 → Int)) (i : Int) (y : S_limit_Box) : G_ringref5_BoxesErr_C2 n l i (tri y) = some (.x0 (b2 y)) := by
  unfold G_ringref5_BoxesErr_C2 b2
  rw [show tri y 2 = y.fMost from rfl, show tri y 1 = y.fHave from rfl]
  by_cases h : y.fMost < 0
  · simp [h]
  by_cases h2 : y.fMost > 1000000
  · simp [h, h2]
  by_cases h3 : y.fHave < 0
  · simp [h, h2, h3]
  simp [h, h2, h3]
theorem l3 (n : Nat) (l : List S_limit_Box) (hl : l.length < 1000000) : ∀ (k i : Nat), l.length - i < k → i ≤ l.length →
    (∃ e : Int, e ≠ 0 ∧ G_limit_Check_L3 n l k (i : Int) = some (.x0 e) ∧ G_ringref5_BoxesErr_L3 n (l.map tri) k (i : Int) = some (.x0 e)) ∨
    (G_limit_Check_L3 n l k (i : Int) = some .x1 ∧ G_ringref5_BoxesErr_L3 n (l.map tri) k (i : Int) = some .x1 ∧ ∀ (j : Nat) (x : S_limit_Box), i ≤ j → l[j]? = some x → b1 x j = false ∧ b2 x = false)
  | 0, i, h, _ => by omega
  | k + 1, i, h, hi => by
    rw [G_limit_Check_L3, G_ringref5_BoxesErr_L3, List.length_map]
    by_cases hlt : (i : Int) < (l.length : Int)
    · obtain ⟨x, hx⟩ := get_lt hlt
      rw [if_pos hlt, if_pos hlt, getI_nat, map_get, hx]
      simp only [Option.map_some, Option.bind_some, cc1, cc2, rc1, rc2]
      cases h1 : b1 x i with
      | true => left; exact ⟨3, by decide, by simp, by simp⟩
      | false =>
        cases h2 : b2 x with
        | true => left; exact ⟨1, by decide, by simp, by simp⟩
        | false =>
          simp only [Bool.false_eq_true, if_false]
          rw [wi_succ (by omega)]
          rcases l3 n l hl k (i + 1) (by omega) (by omega) with h | ⟨a, b, c⟩
          · exact .inl h
          · right
            refine ⟨a, b, fun j y hj hy => ?_⟩
            by_cases e : j = i
            · subst e
              rw [hx] at hy
              obtain rfl := Option.some.inj hy
              exact ⟨h1, h2⟩
            · exact c j y (by omega) hy
    · right
      rw [if_neg hlt, if_neg hlt]
      refine ⟨rfl, rfl, fun j y hj hy => ?_⟩
      have := (List.getElem?_eq_some_iff.1 hy).1
      omega
def kd (k : Int) : List S_limit_Box → Int
  | [] => 0
  | y :: ys => (if y.fUp = k then y.fHave else 0) + kd k ys
theorem kd_bd {k : Int} : ∀ {l : List S_limit_Box}, (∀ x ∈ l, 0 ≤ x.fHave ∧ x.fHave ≤ 1000000) → 0 ≤ kd k l ∧ kd k l ≤ 1000000 * l.length
  | [], _ => by simp [kd]
  | y :: ys, h => by
    have a := h y (List.mem_cons_self ..)
    have b := kd_bd (k := k) (l := ys) (fun x hx => h x (List.mem_cons_of_mem _ hx))
    simp only [kd, List.length_cons]
    split <;> omega
section
variable (n : Nat) {l : List S_limit_Box} (hb : ∀ x ∈ l, 0 ≤ x.fHave ∧ x.fHave ≤ 1000000) (hl : l.length ≤ 12)
include hb hl
theorem kids_loop (kk : Int) : ∀ (k i : Nat) (s : Int), l.length - i < k → i ≤ l.length → 0 ≤ s → s ≤ 1000000 * i → G_limit_kids_L1 n kk l k s (i : Int) = some (.x0 (s + kd kk (l.drop i)))
  | 0, i, s, h, _, _, _ => by omega
  | k + 1, i, s, h, hi, h1, h2 => by
    rw [G_limit_kids_L1]
    by_cases hlt : (i : Int) < (l.length : Int)
    · obtain ⟨x, hx⟩ := get_lt hlt
      have hm := hb x (List.mem_of_getElem? hx)
      rw [if_pos hlt, getI_nat, hx, Option.bind_some, drop_cons hx, kd]
      by_cases e : x.fUp = kk
      · rw [if_pos e, if_pos e, wi64 (by omega) (by omega), wi_succ (by omega), kids_loop kk k (i + 1) _ (by omega) (by omega) (by omega) (by omega)]
        rw [Int.add_assoc]
      · rw [if_neg e, if_neg e, wi_succ (by omega), kids_loop kk k (i + 1) _ (by omega) (by omega) (by omega) (by omega)]
        simp
    · rw [if_neg hlt, drop_end hlt]
      simp [kd]
theorem kids_any (kk : Int) (hn : l.length < n) : G_limit_kids n l kk = some (kd kk l) := by
  unfold G_limit_kids
  have h := kids_loop n hb hl kk n 0 0 (by omega) (by omega) (by omega) (by omega)
  have h : G_limit_kids_L1 n kk l n 0 0 = some (.x0 (0 + kd kk l)) := h
  rw [h]; simp
theorem bl4 (kk : Int) : ∀ (k i : Nat) (b : Fin 3 → Int), l.length - i < k → i ≤ l.length → b 1 ≤ 1000000 → -(1000000 * i) ≤ b 1 → ∃ b', G_ringref5_BoxesErr_L4 n (l.map tri) kk k (i : Int) b = some (.x0 b') ∧ b' 1 = b 1 - kd kk (l.drop i)
  | 0, i, s, h, _, _, _ => by omega
  | k + 1, i, b, h, hi, h1, h2 => by
    rw [G_ringref5_BoxesErr_L4, List.length_map]
    by_cases hlt : (i : Int) < (l.length : Int)
    · obtain ⟨x, hx⟩ := get_lt hlt
      have hm := hb x (List.mem_of_getElem? hx)
      rw [if_pos hlt, map_get, hx, Option.map_some, Option.bind_some, drop_cons hx, kd, show tri x 0 = x.fUp from rfl, show tri x 1 = x.fHave from rfl]
      have w : wi .i64 (b 1 - x.fHave) = b 1 - x.fHave := wi64 (by omega) (by omega)
      by_cases e : x.fUp = kk
      · rw [if_pos e, if_pos e, wi_succ (by omega), w]
        obtain ⟨b', p, q⟩ := bl4 kk k (i + 1) (fun i : Fin 3 => [b 0, b 1 - x.fHave, b 2].get i) (by omega) (by omega) (by show b 1 - x.fHave ≤ _; omega) (by show _ ≤ b 1 - x.fHave; omega)
        refine ⟨b', p, ?_⟩
        rw [q]
        show b 1 - x.fHave - _ = _
        omega
      · rw [if_neg e, if_neg e, wi_succ (by omega)]
        obtain ⟨b', p, q⟩ := bl4 kk k (i + 1) b (by omega) (by omega) (by omega) (by omega)
        refine ⟨b', p, ?_⟩
        rw [q]; omega
    · rw [if_neg hlt, drop_end hlt]
      exact ⟨b, rfl, by simp [kd]⟩
theorem own_loop (kk : Int) : ∀ (k i : Nat) (s : Int), l.length - i < k → i ≤ l.length → s ≤ 1000000 → -(1000000 * i) ≤ s → G_ringref5_Own_L1 n kk (l.map tri) k s (i : Int) = some (.x0 (s - kd kk (l.drop i)))
  | 0, i, s, h, _, _, _ => by omega
  | k + 1, i, s, h, hi, h1, h2 => by
    rw [G_ringref5_Own_L1, List.length_map]
    by_cases hlt : (i : Int) < (l.length : Int)
    · obtain ⟨x, hx⟩ := get_lt hlt
      have hm := hb x (List.mem_of_getElem? hx)
      rw [if_pos hlt, map_get, hx, Option.map_some, Option.bind_some, drop_cons hx, kd, show tri x 0 = x.fUp from rfl, show tri x 1 = x.fHave from rfl]
      by_cases e : x.fUp = kk
      · rw [if_pos e, if_pos e, wi64 (by omega) (by omega), wi_succ (by omega), own_loop kk k (i + 1) _ (by omega) (by omega) (by omega) (by omega)]
        congr 2; omega
      · rw [if_neg e, if_neg e, wi_succ (by omega), own_loop kk k (i + 1) _ (by omega) (by omega) (by omega) (by omega)]
        simp
    · rw [if_neg hlt, drop_end hlt]
      simp [kd]
theorem own_any {k : Nat} {y : S_limit_Box} (hy : l[k]? = some y) (hn : l.length < n) : G_ringref5_Own n (l.map tri) (k : Int) = some (y.fHave - kd k l) := by
  unfold G_ringref5_Own
  have hm := hb y (List.mem_of_getElem? hy)
  have h := own_loop n hb hl (k : Int) n 0 y.fHave (by omega) (by omega) (by omega) (by omega)
  have h : G_ringref5_Own_L1 n (k : Int) (l.map tri) n y.fHave 0 = some (.x0 (y.fHave - kd k l)) := h
  rw [map_get, hy, Option.map_some, Option.bind_some, show tri y 1 = y.fHave from rfl, h]
  rfl
theorem l4 (hn : l.length < n) : ∀ (k i : Nat), l.length - i < k → i ≤ l.length →
    (∃ e : Int, e ≠ 0 ∧ G_limit_Check_L4 n l k (i : Int) = some (.x0 e) ∧ G_ringref5_BoxesErr_L5 n (l.map tri) k (i : Int) = some (.x0 e)) ∨
    (G_limit_Check_L4 n l k (i : Int) = some .x1 ∧ G_ringref5_BoxesErr_L5 n (l.map tri) k (i : Int) = some .x1 ∧ ∀ (j : Nat) (x : S_limit_Box), i ≤ j → l[j]? = some x → kd j l ≤ x.fHave)
  | 0, i, h, _ => by omega
  | k + 1, i, h, hi => by
    rw [G_limit_Check_L4, G_ringref5_BoxesErr_L5, List.length_map]
    by_cases hlt : (i : Int) < (l.length : Int)
    · obtain ⟨x, hx⟩ := get_lt hlt
      have hm := hb x (List.mem_of_getElem? hx)
      obtain ⟨b', p, q⟩ := bl4 n hb hl (i : Int) n 0 (tri x) (by omega) (by omega) (by show x.fHave ≤ _; omega) (by show _ ≤ x.fHave; omega)
      have p : G_ringref5_BoxesErr_L4 n (l.map tri) (i : Int) n 0 (tri x) = some (.x0 b') := p
      have q : b' 1 = x.fHave - kd i l := q
      rw [if_pos hlt, if_pos hlt, kids_any n hb hl i hn, getI_nat, map_get, hx]
      simp only [Option.map_some, Option.bind_some, p, q]
      by_cases e : kd i l > x.fHave
      · left; exact ⟨20, by decide, by rw [if_pos e], by rw [if_pos (by omega)]⟩
      · rw [if_neg e, if_neg (by omega), wi_succ (by omega)]
        rcases l4 hn k (i + 1) (by omega) (by omega) with h | ⟨a, b, c⟩
        · exact .inl h
        · right
          refine ⟨a, b, fun j y hj hy => ?_⟩
          by_cases e : j = i
          · subst e
            rw [hx] at hy
            obtain rfl := Option.some.inj hy
            omega
          · exact c j y (by omega) hy
    · right
      rw [if_neg hlt, if_neg hlt]
      refine ⟨rfl, rfl, fun j y hj hy => ?_⟩
      have := (List.getElem?_eq_some_iff.1 hy).1
      omega
end
structure Good (l : List S_limit_Box) : Prop where
  len : l.length ≤ 12
  box : ∀ (j : Nat) (x : S_limit_Box), l[j]? = some x → -1 ≤ x.fUp ∧ x.fUp < j ∧ 0 ≤ x.fHave ∧ x.fHave ≤ x.fMost ∧ x.fMost ≤ 1000000
  kids : ∀ (j : Nat) (x : S_limit_Box), l[j]? = some x → kd j l ≤ x.fHave
theorem Good.bd {l : List S_limit_Box} (g : Good l) : ∀ x ∈ l, 0 ≤ x.fHave ∧ x.fHave ≤ 1000000 := by
  intro x hx
  obtain ⟨j, hj⟩ := List.getElem?_of_mem hx
  have := g.box j x hj
  omega
theorem checks (n : Nat) (l : List S_limit_Box) (hn : l.length < n) : ∃ r : Int, G_limit_Check n l = some r ∧ G_ringref5_BoxesErr n (l.map tri) = some r ∧ (r = 0 → Good l) := by
  unfold G_limit_Check G_ringref5_BoxesErr
  rw [List.length_map]
  by_cases h : (l.length : Int) > 12
  · rw [if_pos h, if_pos h]
    exact ⟨2, rfl, rfl, fun h => absurd h (by decide : ¬ (2 : Int) = 0)⟩
  · rw [if_neg h, if_neg h]
    rcases l3 n l (by omega) n 0 (by omega) (by omega) with ⟨e, he, h1, h2⟩ | ⟨h1, h2, h3⟩
    · have h1 : G_limit_Check_L3 n l n 0 = some (.x0 e) := h1
      have h2 : G_ringref5_BoxesErr_L3 n (l.map tri) n 0 = some (.x0 e) := h2
      rw [h1, h2]
      exact ⟨e, rfl, rfl, fun h => absurd h he⟩
    · have h1 : G_limit_Check_L3 n l n 0 = some .x1 := h1
      have h2 : G_ringref5_BoxesErr_L3 n (l.map tri) n 0 = some .x1 := h2
      rw [h1, h2]
      simp only [Option.bind_some]
      have hbox : ∀ (j : Nat) (x : S_limit_Box), l[j]? = some x → -1 ≤ x.fUp ∧ x.fUp < j ∧ 0 ≤ x.fHave ∧ x.fHave ≤ x.fMost ∧ x.fMost ≤ 1000000 := by
        intro j x hx
        obtain ⟨p, q⟩ := h3 j x (by omega) hx
        simp [b1, b2] at p q
        omega
      have hb : ∀ x ∈ l, 0 ≤ x.fHave ∧ x.fHave ≤ 1000000 := by
        intro x hx
        obtain ⟨j, hj⟩ := List.getElem?_of_mem hx
        have := hbox j x hj
        omega
      rcases l4 n hb (by omega) hn n 0 (by omega) (by omega) with ⟨e, he, g1, g2⟩ | ⟨g1, g2, g3⟩
      · have g1 : G_limit_Check_L4 n l n 0 = some (.x0 e) := g1
        have g2 : G_ringref5_BoxesErr_L5 n (l.map tri) n 0 = some (.x0 e) := g2
        rw [g1, g2]
        exact ⟨e, rfl, rfl, fun h => absurd h he⟩
      · have g1 : G_limit_Check_L4 n l n 0 = some .x1 := g1
        have g2 : G_ringref5_BoxesErr_L5 n (l.map tri) n 0 = some .x1 := g2
        rw [g1, g2]
        exact ⟨0, rfl, rfl, fun _ => ⟨by omega, hbox, fun j x hx => g3 j x (by omega) hx⟩⟩

/-- the boxes from k up -/
def ab (l : List S_limit_Box) : Nat → Int → List Int
  | 0, _ => []
  | f + 1, k => if k < 0 then [] else match l[k.toNat]? with
    | none => []
    | some y => k :: ab l f y.fUp
theorem ab_neg {l : List S_limit_Box} {f : Nat} {k : Int} (h : k < 0) : ab l (f + 1) k = [] := by rw [ab, if_pos h]
theorem ab_pos {l : List S_limit_Box} {f k : Nat} {y : S_limit_Box} (h : l[k]? = some y) : ab l (f + 1) (k : Int) = (k : Int) :: ab l f y.fUp := by
  rw [ab, if_neg (by omega), Int.toNat_natCast, h]
theorem ab_mem {l : List S_limit_Box} : ∀ {f : Nat} {k a : Int}, a ∈ ab l f k → ∃ j : Nat, a = (j : Int) ∧ j < l.length
  | 0, k, a, h => by simp [ab] at h
  | f + 1, k, a, h => by
    by_cases hk : k < 0
    · rw [ab_neg hk] at h; simp at h
    · obtain ⟨K, rfl⟩ := Int.eq_ofNat_of_zero_le (show 0 ≤ k by omega)
      cases hy : l[K]? with
      | none => rw [ab, if_neg (by omega), Int.toNat_natCast, hy] at h; simp at h
      | some y =>
        rw [ab_pos hy] at h
        rcases List.mem_cons.1 h with rfl | h
        · exact ⟨K, rfl, (List.getElem?_eq_some_iff.1 hy).1⟩
        · exact ab_mem h
section
variable {l : List S_limit_Box} (g : Good l)
include g
theorem ab_len : ∀ (f : Nat) (k : Int), -1 ≤ k → k < l.length → ((ab l f k).length : Int) ≤ k + 1
  | 0, k, h, _ => by simp [ab]; omega
  | f + 1, k, h, h2 => by
    by_cases hk : k < 0
    · rw [ab_neg hk]; simp; omega
    · obtain ⟨K, rfl⟩ := Int.eq_ofNat_of_zero_le (show 0 ≤ k by omega)
      obtain ⟨y, hy⟩ := get_lt h2
      have := g.box K y hy
      have := ab_len f y.fUp (by omega) (by omega)
      rw [ab_pos hy]; simp; omega
theorem above_any : ∀ (f : Nat) (k : Int), -1 ≤ k → k < l.length → k + 2 ≤ f → G_ringref5_Above f (l.map tri) k = some (ab l f k)
  | 0, k, h, _, _ => by omega
  | f + 1, k, h, h2, h3 => by
    rw [G_ringref5_Above]
    by_cases hk : k < 0
    · rw [if_pos hk, ab_neg hk]
    · obtain ⟨K, rfl⟩ := Int.eq_ofNat_of_zero_le (show 0 ≤ k by omega)
      obtain ⟨y, hy⟩ := get_lt h2
      have hbx := g.box K y hy
      have hle := ab_len g f y.fUp (by omega) (by omega)
      have hgl := g.len
      rw [if_neg hk, map_get, hy, Option.map_some, Option.bind_some, show tri y 0 = y.fUp from rfl, above_any f y.fUp (by omega) (by omega) (by omega), Option.bind_some, app_some (by simp; omega) (by omega), ab_pos hy]
      rfl
end
def rv (l : List S_limit_Box) (a : Int) : Int := match l[a.toNat]? with
  | some y => wi .i64 (y.fMost - y.fHave)
  | none => 0
def rm (l : List S_limit_Box) : List Int → Int → Int
  | [], r => r
  | a :: c, r => rm l c (minI r (rv l a))
theorem rm_le {l : List S_limit_Box} {t : Int} : ∀ {c : List Int} {r : Int}, t ≤ rm l c r ↔ t ≤ r ∧ c.all (fun a => decide (t ≤ rv l a)) = true
  | [], r => by simp [rm]
  | a :: c, r => by
    rw [rm, rm_le, List.all_cons]
    unfold minI
    rw [Bool.and_eq_true, decide_eq_true_iff]
    split <;> constructor <;> rintro ⟨h1, h2⟩ <;> first | exact ⟨by omega, by omega, h2⟩ | exact ⟨by omega, h2.2⟩
def up1 (g : S_limit_Box → S_limit_Box) (a : Int) (w : List S_limit_Box) : List S_limit_Box := match w[a.toNat]? with
  | some y => w.set a.toNat (g y)
  | none => w
theorem up1_len {g : S_limit_Box → S_limit_Box} {a : Int} {w : List S_limit_Box} : (up1 g a w).length = w.length := by
  unfold up1; split <;> simp
def upd (g : S_limit_Box → S_limit_Box) : List Int → List S_limit_Box → List S_limit_Box
  | [], w => w
  | a :: c, w => upd g c (up1 g a w)
def gT (t : Int) (y : S_limit_Box) : S_limit_Box := S_limit_Box.mk y.fUp (wi .i64 (y.fHave + t)) y.fMost
def gG (t : Int) (y : S_limit_Box) : S_limit_Box := S_limit_Box.mk y.fUp (wi .i64 (y.fHave - t)) y.fMost
section
variable {l : List S_limit_Box} (g : Good l) (n : Nat)
include g
theorem room_loop : ∀ (f : Nat) (k r : Int), -1 ≤ k → k < l.length → k + 2 ≤ f → G_limit_Room_L2 n l f r k = some (.x0 (rm l (ab l f k) r))
  | 0, k, r, h, _, _ => by omega
  | f + 1, k, r, h, h2, h3 => by
    rw [G_limit_Room_L2]
    by_cases hk : k < 0
    · rw [if_neg (by omega), ab_neg hk]; rfl
    · obtain ⟨K, rfl⟩ := Int.eq_ofNat_of_zero_le (show 0 ≤ k by omega)
      obtain ⟨y, hy⟩ := get_lt h2
      have hbx := g.box K y hy
      rw [if_pos (by omega), getI_nat, hy]
      simp only [Option.bind_some]
      rw [room_loop f y.fUp _ (by omega) (by omega) (by omega), ab_pos hy, rm]
      have : rv l (K : Int) = wi .i64 (y.fMost - y.fHave) := by unfold rv; rw [Int.toNat_natCast, hy]
      rw [this]
theorem give_loop (t : Int) : ∀ (f : Nat) (k : Int) (w : List S_limit_Box), -1 ≤ k → k < l.length → k + 2 ≤ f → (∀ j : Nat, (j : Int) ≤ k → w[j]? = l[j]?) → w.length = l.length → G_limit_Give_L2 n t f k w = some (.x0 (upd (gG t) (ab l f k) w))
  | 0, k, w, h, _, _, _, _ => by omega
  | f + 1, k, w, h, h2, h3, ha, hw => by
    rw [G_limit_Give_L2]
    by_cases hk : k < 0
    · rw [if_neg (by omega), ab_neg hk]; rfl
    · obtain ⟨K, rfl⟩ := Int.eq_ofNat_of_zero_le (show 0 ≤ k by omega)
      obtain ⟨y, hy⟩ := get_lt h2
      have hbx := g.box K y hy
      have hwy : w[K]? = some y := by rw [ha K (by omega), hy]
      have hK : K < w.length := by omega
      have hc : 0 ≤ (K : Int) ∧ K < w.length := ⟨by omega, hK⟩
      have hc2 : ∀ z : S_limit_Box, 0 ≤ (K : Int) ∧ K < (w.set K z).length := fun z => ⟨by omega, by simpa using hK⟩
      rw [if_pos (by omega)]
      simp only [Int.toNat_natCast, if_pos hc, hwy, Option.bind_some, if_pos (hc2 _), List.getElem?_set_self hK]
      have := give_loop t f y.fUp (w.set K (gG t y)) (by omega) (by omega) (by omega) (fun j hj => by rw [List.getElem?_set_ne (by omega)]; exact ha j (by omega)) (by simpa using hw)
      rw [ab_pos hy, upd]
      have e : up1 (gG t) (K : Int) w = w.set K (gG t y) := by unfold up1; rw [Int.toNat_natCast, hwy]
      rw [e, ← this]
      rfl
theorem take_loop (t : Int) (t0 : 0 ≤ t) (t1 : t ≤ 1000000) : ∀ (f : Nat) (k : Int) (w : List S_limit_Box), -1 ≤ k → k < l.length → k + 2 ≤ f → (∀ j : Nat, (j : Int) ≤ k → w[j]? = l[j]?) → w.length = l.length →
    G_limit_Take_L2 n t f k w = if (ab l f k).all (fun a => decide (t ≤ rv l a)) = true then some (.x1 (upd (gT t) (ab l f k) w)) else some (.x0 16)
  | 0, k, w, h, _, _, _, _ => by omega
  | f + 1, k, w, h, h2, h3, ha, hw => by
    rw [G_limit_Take_L2]
    by_cases hk : k < 0
    · rw [if_neg (by omega), ab_neg hk]; rfl
    · obtain ⟨K, rfl⟩ := Int.eq_ofNat_of_zero_le (show 0 ≤ k by omega)
      obtain ⟨y, hy⟩ := get_lt h2
      have hbx := g.box K y hy
      have hwy : w[K]? = some y := by rw [ha K (by omega), hy]
      have hK : K < w.length := by omega
      have hc : 0 ≤ (K : Int) ∧ K < w.length := ⟨by omega, hK⟩
      have hc2 : ∀ z : S_limit_Box, 0 ≤ (K : Int) ∧ K < (w.set K z).length := fun z => ⟨by omega, by simpa using hK⟩
      have hrv : rv l (K : Int) = y.fMost - y.fHave := by
        unfold rv; rw [Int.toNat_natCast, hy]; exact wi64 (by omega) (by omega)
      have hw1 : wi .i64 (y.fHave + t) = y.fHave + t := wi64 (by omega) (by omega)
      rw [if_pos (by omega)]
      simp only [Int.toNat_natCast, if_pos hc, hwy, Option.bind_some, if_pos (hc2 _), List.getElem?_set_self hK]
      rw [ab_pos hy, List.all_cons, hrv, upd]
      by_cases he : wi .i64 (y.fHave + t) > y.fMost
      · rw [if_pos he, if_neg]
        rw [hw1] at he
        simp; intro h; omega
      · rw [if_neg he]
        have := take_loop t t0 t1 f y.fUp (w.set K (gT t y)) (by omega) (by omega) (by omega) (fun j hj => by rw [List.getElem?_set_ne (by omega)]; exact ha j (by omega)) (by simpa using hw)
        have e : up1 (gT t) (K : Int) w = w.set K (gT t y) := by unfold up1; rw [Int.toNat_natCast, hwy]
        have hd : decide (t ≤ y.fMost - y.fHave) = true := decide_eq_true (by rw [hw1] at he; omega)
        rw [e, hd, Bool.true_and, ← this]
        rfl
end
theorem eqS_refl (x : S_limit_Box) : eqS_limit_Box x x = true := by
  unfold eqS_limit_Box
  simp
theorem equal_loop (n : Nat) (l : List S_limit_Box) (hl : l.length < 1000000) : ∀ (k i : Nat), l.length - i < k → i ≤ l.length → G_slices_Equal_limit_Box_limit_Box_L1 n l l k (i : Int) = some .x1
  | 0, i, h, _ => by omega
  | k + 1, i, h, hi => by
    rw [G_slices_Equal_limit_Box_limit_Box_L1]
    by_cases hlt : (i : Int) < (l.length : Int)
    · obtain ⟨x, hx⟩ := get_lt hlt
      rw [if_pos hlt, getI_nat, hx, Option.bind_some, Option.bind_some, eqS_refl, if_neg (by decide), wi_succ (by omega)]
      exact equal_loop n l hl k (i + 1) (by omega) (by omega)
    · rw [if_neg hlt]
theorem equal_self (n : Nat) (l : List S_limit_Box) (hl : l.length < 1000000) (hn : l.length < n) : G_slices_Equal_limit_Box_limit_Box n l l = some true := by
  unfold G_slices_Equal_limit_Box_limit_Box
  have := equal_loop n l hl n 0 (by omega) (by omega)
  have : G_slices_Equal_limit_Box_limit_Box_L1 n l l n 0 = some .x1 := this
  rw [if_pos rfl, this]; rfl
theorem upd_len {g : S_limit_Box → S_limit_Box} : ∀ {c : List Int} {w : List S_limit_Box}, (upd g c w).length = w.length
  | [], w => rfl
  | a :: c, w => by rw [upd, upd_len, up1_len]
end Go.Proofs.YtccmjndnjpjohaaR.limitSays
