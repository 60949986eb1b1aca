/- The plain law of CowTells, third part: a space is dropped. -/
import Derived.Test.YtpeakaeblibfmaaLCw2
namespace Go.Proofs.Ytpeakaeblibfmaa.cowTells
open Go.RowKit help pv
set_option linter.all false

def used (D : List Int) (i : Nat) : Bool := decide ((i : Int) ∈ D)
/-- so many cells ahead of this one are used -/
def cu (D : List Int) : Nat → Nat
  | 0 => 0
  | i + 1 => cu D i + if used D i = true then 1 else 0
theorem cu_mono {D : List Int} {i j : Nat} (h : i ≤ j) : cu D i ≤ cu D j := by
  induction j with
  | zero => have : i = 0 := by omega
            subst this; exact Nat.le_refl _
  | succ j ih =>
    by_cases e : i = j + 1
    · subst e; exact Nat.le_refl _
    · have := ih (by omega)
      rw [cu]; omega
theorem cu_le (D : List Int) : ∀ i, cu D i ≤ i
  | 0 => by simp [cu]
  | i + 1 => by
    have := cu_le D i
    rw [cu]
    split <;> omega
def selU (D : List Int) : Nat → List Int → List Int
  | _, [] => []
  | i, b :: r => if used D i = true then b :: selU D (i + 1) r else selU D (i + 1) r
theorem selU_le (D : List Int) : ∀ (l : List Int) (i : Nat), (selU D i l).length ≤ l.length
  | [], i => by simp [selU]
  | b :: l, i => by
    have := selU_le D l (i + 1)
    rw [selU]
    split
    · simp; omega
    · simp; omega
theorem cnt_pos {S : List (List Int)} {c : Int} : 0 < cnt S c ↔ c ∈ S.flatten := List.count_pos_iff
theorem get_mid {α : Type} {P r : List α} {i : Nat} {x : α} (hP : P.length = i) : (P ++ x :: r)[i]? = some x := by
  subst hP; simp
theorem set_mid {α : Type} {P r : List α} {i : Nat} {x y : α} (hP : P.length = i) : (P ++ x :: r).set i y = P ++ [y] ++ r := by
  subst hP; simp
section
variable {n : Nat} {r : S_cow_Room} {s : Int} {S' : List (List Int)} (hn : 20000 ≤ n) (hS : r.fSpaces.take s.toNat ++ r.fSpaces.drop (wi .i64 (s + 1)).toNat = S') (hs : S'.length ≤ 8) (hl : ∀ l ∈ S', l.length ≤ 8)
include hS
theorem dropL1 (hn : 20000 ≤ n) (hs : S'.length ≤ 8) (hl : ∀ l ∈ S', l.length ≤ 8) (hc : r.fCells.length ≤ 64) : ∀ (k i : Nat) (acc T : List Int), r.fCells.length - i < k → i ≤ r.fCells.length → T.length = r.fCells.length → acc.length ≤ i →
    ∃ T', G_cow_Drop_L1 n r s k (i : Int) r.fCells acc T = some (.x0 r.fCells (acc ++ selU S'.flatten i (r.fCells.drop i)) T') ∧ T'.length = r.fCells.length ∧ (∀ j, j < i → T'[j]? = T[j]?) ∧ (∀ j, i ≤ j → j < r.fCells.length → T'[j]? = some ((acc.length + (cu S'.flatten j - cu S'.flatten i) : Nat) : Int))
  | 0, i, _, _, h, _, _, _ => by omega
  | k + 1, i, acc, T, hk, hi, hT, ha => by
    rw [G_cow_Drop_L1]
    by_cases hlt : (i : Int) < (r.fCells.length : Int)
    · obtain ⟨b, hb⟩ := get_lt hlt
      obtain ⟨t, ht⟩ := get_lt (l := T) (i := i) (by omega)
      have hm := many (n := n) (c := (i : Int)) (r := ⟨r.fCells, S'⟩) hn hs hl
      have hil : i < T.length := by omega
      rw [if_pos hlt]
      simp only [Int.toNat_natCast]
      rw [if_pos ⟨by omega, by omega⟩, hb, Option.bind_some, if_pos ⟨by omega, hil⟩, ht, Option.bind_some, hS, hm, Option.bind_some, wi_succ (by omega)]
      have hset : ∀ j, j ≠ i → (T.set i (acc.length : Int))[j]? = T[j]? := fun j hj => by rw [List.getElem?_set_ne (Ne.symm hj)]
      have hseti : (T.set i (acc.length : Int))[i]? = some (acc.length : Int) := by rw [List.getElem?_set_self hil]
      have hcu : cu S'.flatten (i + 1) = cu S'.flatten i + if used S'.flatten i = true then 1 else 0 := rfl
      have hsl : selU S'.flatten i (r.fCells.drop i) = if used S'.flatten i = true then b :: selU S'.flatten (i + 1) (r.fCells.drop (i + 1)) else selU S'.flatten (i + 1) (r.fCells.drop (i + 1)) := by rw [drop_cons hb]; rfl
      by_cases hu : (i : Int) ∈ S'.flatten
      · have hu2 : used S'.flatten i = true := decide_eq_true hu
        have hp := cnt_pos.2 hu
        rw [if_pos (by simp only; omega), app_le (m := 1000) (by simp; omega) (by decide) (by decide), Option.bind_some]
        obtain ⟨T', h1, h2, h3, h4⟩ := dropL1 hn hs hl hc k (i + 1) (acc ++ [b]) (T.set i (acc.length : Int)) (by omega) (by omega) (by rw [List.length_set]; exact hT) (by simp; omega)
        refine ⟨T', ?_, h2, fun j hj => ?_, fun j hj hj2 => ?_⟩
        · rw [h1, hsl, if_pos hu2]; simp
        · rw [h3 j (by omega), hset j (by omega)]
        · by_cases e : j = i
          · subst e
            rw [h3 j (by omega), hseti]; simp
          · rw [h4 j (by omega) hj2]
            have := cu_mono (D := S'.flatten) (show i + 1 ≤ j by omega)
            rw [hcu, if_pos hu2] at this ⊢
            simp only [List.length_append, List.length_cons, List.length_nil, Option.some.injEq]
            omega
      · have hu2 : ¬ used S'.flatten i = true := by simpa [used] using hu
        have hp : cnt S' (i : Int) = 0 := by
          have := mt cnt_pos.1 hu
          omega
        rw [if_neg (by simp only; omega)]
        obtain ⟨T', h1, h2, h3, h4⟩ := dropL1 hn hs hl hc k (i + 1) acc (T.set i (acc.length : Int)) (by omega) (by omega) (by rw [List.length_set]; exact hT) (by omega)
        refine ⟨T', ?_, h2, fun j hj => ?_, fun j hj hj2 => ?_⟩
        · rw [h1, hsl, if_neg hu2]
        · rw [h3 j (by omega), hset j (by omega)]
        · by_cases e : j = i
          · subst e
            rw [h3 j (by omega), hseti]; simp
          · rw [h4 j (by omega) hj2]
            have := cu_mono (D := S'.flatten) (show i + 1 ≤ j by omega)
            rw [hcu, if_neg hu2] at this ⊢
            simp only [Option.some.injEq]
            omega
    · refine ⟨T, ?_, hT, fun _ _ => rfl, fun j hj hj2 => by omega⟩
      rw [if_neg hlt, drop_end hlt]; simp [selU]
omit hS in
theorem dropL3 {x : Int} {y : List Int} {W : List (List Int)} {C cells T : List Int} {g : Int → Int} (hy : y.length ≤ 8) (hW : ∃ z, W[x.toNat]? = some z) (hg : ∀ c ∈ y, 0 ≤ c ∧ T[c.toNat]? = some (g c)) : ∀ (k i : Nat) (P : List Int), y.length - i < k → i ≤ y.length → P.length = i →
    G_cow_Drop_L3 n r s x y W k (i : Int) C (P ++ y.drop i) cells T = some (.x0 C (W.set x.toNat (P ++ (y.drop i).map g)) cells T)
  | 0, i, _, h, _, _ => by omega
  | k + 1, i, P, hk, hi, hP => by
    rw [G_cow_Drop_L3]
    by_cases hlt : (i : Int) < (y.length : Int)
    · obtain ⟨c, hc⟩ := get_lt hlt
      obtain ⟨g1, g2⟩ := hg c (List.mem_of_getElem? hc)
      have hTl := (List.getElem?_eq_some_iff.1 g2).1
      rw [if_pos hlt, drop_cons hc]
      simp only [Int.toNat_natCast]
      have hlen : i < (P ++ c :: y.drop (i + 1)).length := by simp; omega
      rw [if_pos ⟨by omega, hlen⟩, get_mid hP, Option.bind_some, if_pos ⟨g1, hTl⟩, g2, Option.bind_some, if_pos ⟨by omega, hlen⟩, Option.bind_some, set_mid hP, wi_succ (by omega), dropL3 hy hW hg k (i + 1) _ (by omega) (by omega) (by simp; omega)]
      simp
    · obtain ⟨z, hz⟩ := hW
      rw [if_neg hlt, drop_end hlt, hz, Option.bind_some]; simp
theorem dropL4 {C cells T : List Int} {g : Int → Int} (hn : 20000 ≤ n) (hs : S'.length ≤ 8) (hl : ∀ l ∈ S', l.length ≤ 8) (hg : ∀ l ∈ S', ∀ c ∈ l, 0 ≤ c ∧ T[c.toNat]? = some (g c)) : ∀ (k i : Nat) (P : List (List Int)), S'.length - i < k → i ≤ S'.length → P.length = i →
    G_cow_Drop_L4 n r s k (i : Int) C (P ++ S'.drop i) cells T = some (.x0 C (P ++ (S'.drop i).map (List.map g)) cells)
  | 0, i, _, h, _, _ => by omega
  | k + 1, i, P, hk, hi, hP => by
    rw [G_cow_Drop_L4, hS]
    by_cases hlt : (i : Int) < (S'.length : Int)
    · obtain ⟨y, hy⟩ := get_lt hlt
      have hyl := hl y (List.mem_of_getElem? hy)
      have hlen : i < (P ++ y :: S'.drop (i + 1)).length := by simp; omega
      have e := dropL3 (n := n) (r := r) (s := s) (x := (i : Int)) (W := P ++ y :: S'.drop (i + 1)) (C := C) (cells := cells) hyl ⟨y, by simp only [Int.toNat_natCast]; exact get_mid hP⟩ (hg y (List.mem_of_getElem? hy)) n 0 [] (by omega) (by omega) rfl
      have e : G_cow_Drop_L3 n r s (i : Int) y (P ++ y :: S'.drop (i + 1)) n 0 C y cells T = _ := e
      rw [if_pos hlt, drop_cons hy]
      simp only [Int.toNat_natCast] at e ⊢
      rw [if_pos ⟨by omega, hlen⟩, get_mid hP, Option.bind_some, e, Option.bind_some]
      simp only [List.drop_zero, List.nil_append]
      rw [set_mid hP, wi_succ (by omega), dropL4 hn hs hl hg k (i + 1) _ (by omega) (by omega) (by simp; omega)]
      simp
    · rw [if_neg hlt, drop_end hlt]; simp
end
/-- the spaces but one -/
def others (S : List (List Int)) (i : Nat) : List (List Int) := S.take i ++ S.drop (i + 1)
def rk (D : List Int) (c : Int) : Int := (cu D c.toNat : Int)
/-- what is left -/
def left (r : S_cow_Room) (i : Nat) : S_cow_Room := ⟨selU (others r.fSpaces i).flatten 0 r.fCells, (others r.fSpaces i).map (List.map (rk (others r.fSpaces i).flatten))⟩
theorem others_mem {S : List (List Int)} {i : Nat} {l : List Int} (h : l ∈ others S i) : l ∈ S := by
  rcases List.mem_append.1 h with h | h
  · exact List.mem_of_mem_take h
  · exact List.mem_of_mem_drop h
theorem others_len {S : List (List Int)} {i : Nat} : (others S i).length ≤ S.length := by
  simp [others]; omega
section
variable {n : Nat} {r : S_cow_Room} (hn : 20000 ≤ n) {i : Nat} {y : List Int} (hb : bad r = 0) (hi : r.fSpaces[i]? = some y)
include hn hb hi
theorem dropG : G_cow_Drop n r (i : Int) = some (left r i, (r.fCells.length : Int) - ((left r i).fCells.length : Int), 0) := by
  have rt := bad_rt hb
  have hil : i < r.fSpaces.length := (List.getElem?_eq_some_iff.1 hi).1
  have h1 := rt.c
  have h2 := rt.s
  have ew : wi .i64 ((i : Int) + 1) = ((i + 1 : Nat) : Int) := wi_succ (by omega)
  have hS : r.fSpaces.take ((i : Int)).toNat ++ r.fSpaces.drop (wi .i64 ((i : Int) + 1)).toNat = others r.fSpaces i := by
    rw [ew]; simp only [Int.toNat_natCast]; rfl
  have hol := others_len (S := r.fSpaces) (i := i)
  have hl8 : ∀ l ∈ others r.fSpaces i, l.length ≤ 8 := fun l h => (rt.l l (others_mem h)).1
  unfold G_cow_Drop
  rw [space hn, Option.bind_some, if_pos (spcI hn hb hi), copied hn rt, Option.bind_some, if_pos ⟨by omega, by rw [ew]; omega, by rw [ew]; omega⟩]
  have em : mkL 8 (0 : Int) (r.fCells.length : Int) = some (List.replicate r.fCells.length 0) := by
    unfold mkL
    rw [if_pos (by unfold maxLen; omega), Int.toNat_natCast]
  obtain ⟨T', t1, t2, t3, t4⟩ := dropL1 (n := n) (s := (i : Int)) hS hn (by omega) hl8 h1 n 0 [] (List.replicate r.fCells.length 0) (by omega) (by omega) (by simp) (by simp)
  have t1 : G_cow_Drop_L1 n r (i : Int) n 0 r.fCells [] _ = _ := t1
  rw [em, Option.bind_some, t1, Option.bind_some]
  simp only [List.drop_zero, List.nil_append]
  have hg : ∀ l ∈ others r.fSpaces i, ∀ c ∈ l, 0 ≤ c ∧ T'[c.toNat]? = some (rk (others r.fSpaces i).flatten c) := by
    intro l hl c hc
    obtain ⟨c0, c1⟩ := (rt.l l (others_mem hl)).2 c hc
    refine ⟨c0, ?_⟩
    rw [t4 c.toNat (Nat.zero_le _) (by omega)]
    simp [rk, cu]
  have e4 := dropL4 (n := n) (s := (i : Int)) (C := r.fCells) (cells := selU (others r.fSpaces i).flatten 0 r.fCells) hS hn (by omega) hl8 hg n 0 [] (by omega) (by omega) rfl
  have e4 : G_cow_Drop_L4 n r (i : Int) n 0 r.fCells (others r.fSpaces i) _ T' = _ := e4
  rw [hS, e4, Option.bind_some]
  have hsl := selU_le (others r.fSpaces i).flatten r.fCells 0
  simp only [List.drop_zero, List.nil_append]
  rw [wi64 (by omega) (by omega)]
  rfl
end
-- the reference: one by one, from the last one on
def skip (s : Nat) : Nat → List (List Int) → List (List Int)
  | _, [] => []
  | i, x :: l => if i = s then skip s (i + 1) l else x :: skip s (i + 1) l
theorem skip_is (s : Nat) : ∀ (l : List (List Int)) (i : Nat), skip s i l = if i ≤ s then l.take (s - i) ++ l.drop (s - i + 1) else l
  | [], i => by simp [skip]
  | x :: l, i => by
    rw [skip, skip_is s l (i + 1)]
    by_cases e : i = s
    · subst e
      rw [if_pos rfl, if_neg (by omega), if_pos (Nat.le_refl _), Nat.sub_self]
      simp
    · rw [if_neg e]
      by_cases h : i ≤ s
      · rw [if_pos (by omega), if_pos h, show s - i = (s - (i + 1)) + 1 by omega]
        simp
      · rw [if_neg (by omega), if_neg h]
theorem rdropL1 {n : Nat} {r : S_cow_Room} {C : List Int} {s : Nat} (hs : r.fSpaces.length ≤ 8) (hl : ∀ l ∈ r.fSpaces, l.length ≤ 8) : ∀ (k i : Nat) (acc : List (List Int)), r.fSpaces.length - i < k → i ≤ r.fSpaces.length → acc.length ≤ i →
    G_ringref2_RoomDrop_h_L1 n (s : Int) r k (i : Int) C acc = some (.x0 C (acc ++ skip s i (r.fSpaces.drop i)))
  | 0, i, _, h, _, _ => by omega
  | k + 1, i, acc, hk, hi, ha => by
    rw [G_ringref2_RoomDrop_h_L1]
    by_cases hlt : (i : Int) < (r.fSpaces.length : Int)
    · obtain ⟨y, hy⟩ := get_lt hlt
      have hyl := hl y (List.mem_of_getElem? hy)
      rw [if_pos hlt, getI_nat, hy, Option.bind_some, drop_cons hy, skip, wi_succ (by omega)]
      by_cases e : i = s
      · rw [if_pos (by omega), if_pos e, rdropL1 hs hl k (i + 1) acc (by omega) (by omega) (by omega)]
      · rw [if_neg (by omega), if_neg e, app_le (m := 1000) (by simp; omega) (by decide) (by decide), Option.bind_some, app_le (m := 1000) (by simp; omega) (by decide) (by decide), Option.bind_some, rdropL1 hs hl k (i + 1) _ (by omega) (by omega) (by simp; omega)]
        simp
    · rw [if_neg hlt, drop_end hlt]; simp [skip]
def dec (c v : Int) : Int := if v > c then v - 1 else v
theorem rdropL6 {n : Nat} {gone c x : Int} {X W : List (List Int)} {y C : List Int} (hy : y.length ≤ 8) (hW : ∃ z, W[x.toNat]? = some z) (hv : ∀ v ∈ y, -1000 ≤ v ∧ v ≤ 1000) : ∀ (k i : Nat) (P : List Int), y.length - i < k → i ≤ y.length → P.length = i →
    G_ringref2_RoomDrop_h_L6 n gone c X x y W k (i : Int) C (P ++ y.drop i) = some (.x0 C (W.set x.toNat (P ++ (y.drop i).map (dec c))))
  | 0, i, _, h, _, _ => by omega
  | k + 1, i, P, hk, hi, hP => by
    rw [G_ringref2_RoomDrop_h_L6]
    by_cases hlt : (i : Int) < (y.length : Int)
    · obtain ⟨a, ha⟩ := get_lt hlt
      have hb := hv a (List.mem_of_getElem? ha)
      have hlen : i < (P ++ a :: y.drop (i + 1)).length := by simp; omega
      rw [if_pos hlt, drop_cons ha]
      simp only [Int.toNat_natCast]
      rw [if_pos ⟨by omega, hlen⟩, get_mid hP, Option.bind_some, wi_succ (by omega)]
      by_cases h : a > c
      · rw [if_pos h, if_pos ⟨by omega, hlen⟩, Option.bind_some, if_pos ⟨by omega, hlen⟩, Option.bind_some, set_mid hP, wi64 (by omega) (by omega), rdropL6 hy hW hv k (i + 1) _ (by omega) (by omega) (by simp; omega)]
        simp [dec, h]
      · have : P ++ a :: y.drop (i + 1) = (P ++ [a]) ++ y.drop (i + 1) := by simp
        rw [if_neg h, this, rdropL6 hy hW hv k (i + 1) _ (by omega) (by omega) (by simp; omega)]
        simp [dec, h]
    · obtain ⟨z, hz⟩ := hW
      rw [if_neg hlt, drop_end hlt, hz, Option.bind_some]; simp
theorem rdropL7 {n : Nat} {gone c : Int} {X : List (List Int)} {C : List Int} (hn : 20000 ≤ n) (hs : X.length ≤ 8) (hl : ∀ l ∈ X, l.length ≤ 8) (hv : ∀ l ∈ X, ∀ v ∈ l, -1000 ≤ v ∧ v ≤ 1000) : ∀ (k i : Nat) (P : List (List Int)), X.length - i < k → i ≤ X.length → P.length = i →
    G_ringref2_RoomDrop_h_L7 n gone c X k (i : Int) C (P ++ X.drop i) = some (.x0 C (P ++ (X.drop i).map (List.map (dec c))))
  | 0, i, _, h, _, _ => by omega
  | k + 1, i, P, hk, hi, hP => by
    rw [G_ringref2_RoomDrop_h_L7]
    by_cases hlt : (i : Int) < (X.length : Int)
    · obtain ⟨y, hy⟩ := get_lt hlt
      have hyl := hl y (List.mem_of_getElem? hy)
      have hlen : i < (P ++ y :: X.drop (i + 1)).length := by simp; omega
      have e := rdropL6 (n := n) (gone := gone) (c := c) (x := (i : Int)) (X := X) (W := P ++ y :: X.drop (i + 1)) (C := C) hyl ⟨y, by simp only [Int.toNat_natCast]; exact get_mid hP⟩ (hv y (List.mem_of_getElem? hy)) n 0 [] (by omega) (by omega) rfl
      have e : G_ringref2_RoomDrop_h_L6 n gone c X (i : Int) y (P ++ y :: X.drop (i + 1)) n 0 C y = _ := e
      rw [if_pos hlt, drop_cons hy]
      simp only [Int.toNat_natCast] at e ⊢
      rw [if_pos ⟨by omega, hlen⟩, get_mid hP, Option.bind_some, e, Option.bind_some]
      simp only [List.drop_zero, List.nil_append]
      rw [set_mid hP, wi_succ (by omega), rdropL7 hn hs hl hv k (i + 1) _ (by omega) (by omega) (by simp; omega)]
      simp
    · rw [if_neg hlt, drop_end hlt]; simp
/-- what a cell's number has become when all from t on have been looked at -/
def fT (D : List Int) (t : Nat) (v : Int) : Int := if v < (t : Int) then v else (t : Int) + ((cu D v.toNat : Int) - (cu D t : Int))
def wT (D : List Int) (C : List Int) (t : Nat) : List Int := C.take t ++ selU D t (C.drop t)
theorem fT_ge {D : List Int} {t : Nat} {v : Int} (h : (t : Int) ≤ v) : (t : Int) ≤ fT D t v := by
  unfold fT
  rw [if_neg (by omega)]
  have := cu_mono (D := D) (show t ≤ v.toNat by omega)
  omega
theorem fT_le {D : List Int} {t : Nat} {v : Int} (h0 : 0 ≤ v) : fT D t v ≤ v + t ∧ 0 ≤ fT D t v := by
  by_cases h : v < (t : Int)
  · unfold fT; rw [if_pos h]; omega
  · have h1 := fT_ge (D := D) (t := t) (v := v) (by omega)
    have h2 := cu_le D v.toNat
    refine ⟨?_, by omega⟩
    unfold fT; rw [if_neg h]; omega
theorem fT_used {D : List Int} {t : Nat} {v : Int} (h0 : 0 ≤ v) (hu : used D t = true) : fT D t v = fT D (t + 1) v := by
  unfold fT
  have hc : cu D (t + 1) = cu D t + 1 := by rw [cu, if_pos hu]
  by_cases h : v < (t : Int)
  · rw [if_pos h, if_pos (by omega)]
  · rw [if_neg h]
    by_cases h2 : v < ((t + 1 : Nat) : Int)
    · rw [if_pos h2]
      have : v.toNat = t := by omega
      rw [this]; omega
    · rw [if_neg h2, hc]; omega
theorem fT_not {D : List Int} {t : Nat} {v : Int} (h0 : 0 ≤ v) (hv : v ∈ D) (hu : ¬ used D t = true) : dec (t : Int) (fT D (t + 1) v) = fT D t v := by
  have hc : cu D (t + 1) = cu D t := by rw [cu, if_neg hu]; rfl
  have hne : v ≠ (t : Int) := fun e => hu (by unfold used; rw [← e]; exact decide_eq_true hv)
  unfold dec
  by_cases h : v < (t : Int)
  · have e1 : fT D (t + 1) v = v := by unfold fT; rw [if_pos (by omega)]
    have e2 : fT D t v = v := by unfold fT; rw [if_pos h]
    rw [e1, e2, if_neg (by omega)]
  · have h1 := fT_ge (D := D) (t := t + 1) (v := v) (by omega)
    rw [if_pos (by omega)]
    unfold fT
    rw [if_neg (by omega), if_neg h, hc]; omega
theorem wT_step {D C : List Int} {t : Nat} (ht : t < C.length) : wT D C t = if used D t = true then wT D C (t + 1) else C.take t ++ selU D (t + 1) (C.drop (t + 1)) := by
  have hx : C[t]? = some (C[t]'ht) := List.getElem?_eq_getElem ht
  unfold wT
  have e : C.take (t + 1) = C.take t ++ [C[t]'ht] := by rw [List.take_add_one, hx]; rfl
  rw [drop_cons hx, selU]
  split
  · rw [e, List.append_assoc]; rfl
  · rfl
theorem rdropL8 {n : Nat} {C : List Int} {S' : List (List Int)} (hn : 20000 ≤ n) (hc : C.length ≤ 64) (hs : S'.length ≤ 8) (hl : ∀ l ∈ S', l.length ≤ 8 ∧ ∀ c ∈ l, 0 ≤ c ∧ c < (C.length : Int)) : ∀ (t k : Nat) (gone : Int), t < k → t ≤ C.length → 0 ≤ gone → gone ≤ 100000 - t →
    G_ringref2_RoomDrop_h_L8 n k gone ((t : Int) - 1) (wT S'.flatten C t) (S'.map (List.map (fT S'.flatten t))) = some (.x0 (gone + (((wT S'.flatten C t).length : Int) - ((wT S'.flatten C 0).length : Int))) (wT S'.flatten C 0) (S'.map (List.map (fT S'.flatten 0)))) := by
  intro t
  induction t with
  | zero =>
    intro k gone hk _ _ _
    cases k with
    | zero => omega
    | succ k =>
      rw [G_ringref2_RoomDrop_h_L8, if_neg (by omega)]
      simp
  | succ t ih =>
    intro k0 gone hk ht g0 g1
    cases k0 with
    | zero => omega
    | succ k =>
    rw [G_ringref2_RoomDrop_h_L8]
    have e0 : (((t + 1 : Nat) : Int) - 1) = (t : Int) := by omega
    rw [e0, if_pos (by omega)]
    have hX8 : (S'.map (List.map (fT S'.flatten (t + 1)))).length ≤ 8 := by rw [List.length_map]; exact hs
    have hXl : ∀ l ∈ S'.map (List.map (fT S'.flatten (t + 1))), l.length ≤ 8 := by
      intro l h
      obtain ⟨y, hy, rfl⟩ := List.mem_map.1 h
      rw [List.length_map]; exact (hl y hy).1
    have hm := rmany (n := n) (c := (t : Int)) (r := ⟨wT S'.flatten C (t + 1), S'.map (List.map (fT S'.flatten (t + 1)))⟩) hn hX8 hXl
    have hmem : ∀ v ∈ S'.flatten, 0 ≤ v ∧ v < (C.length : Int) := by
      intro v hv
      obtain ⟨y, hy, hv⟩ := List.mem_flatten.1 hv
      exact (hl y hy).2 v hv
    have hcnt : 0 < cnt (S'.map (List.map (fT S'.flatten (t + 1)))) (t : Int) ↔ used S'.flatten t = true := by
      rw [cnt_pos, ← List.map_flatten, List.mem_map]
      unfold used
      rw [decide_eq_true_eq]
      constructor
      · rintro ⟨v, hv, e⟩
        by_cases h : v < ((t + 1 : Nat) : Int)
        · unfold fT at e; rw [if_pos h] at e; rw [← e]; exact hv
        · have := fT_ge (D := S'.flatten) (t := t + 1) (v := v) (by omega); omega
      · intro h
        exact ⟨_, h, by unfold fT; rw [if_pos (by omega)]⟩
    have hws := wT_step (D := S'.flatten) (C := C) (t := t) (by omega)
    have ewm : wi .i64 ((t : Int) - 1) = (t : Int) - 1 := wi64 (by omega) (by omega)
    rw [hm, Option.bind_some, ewm]
    by_cases hu : used S'.flatten t = true
    · have hp := hcnt.2 hu
      rw [if_pos (by simp only; omega)]
      rw [if_pos hu] at hws
      have hfe : S'.map (List.map (fT S'.flatten (t + 1))) = S'.map (List.map (fT S'.flatten t)) := by
        refine List.map_congr_left fun y hy => List.map_congr_left fun v hv => ?_
        exact (fT_used ((hl y hy).2 v hv).1 hu).symm
      rw [hfe, ← hws]
      exact ih k gone (by omega) (by omega) g0 (by omega)
    · have hp : cnt (S'.map (List.map (fT S'.flatten (t + 1)))) (t : Int) = 0 := by
        have := mt hcnt.1 hu
        omega
      rw [if_neg (by simp only; omega)]
      rw [if_neg hu] at hws
      have htl : (C.take (t + 1)).length = t + 1 := by rw [List.length_take]; omega
      have htl0 : (C.take t).length = t := by rw [List.length_take]; omega
      have hWl : (wT S'.flatten C (t + 1)).length = t + 1 + (selU S'.flatten (t + 1) (C.drop (t + 1))).length := by
        unfold wT; rw [List.length_append, htl]
      have hwl : (wT S'.flatten C t).length + 1 = (wT S'.flatten C (t + 1)).length := by
        rw [hws, List.length_append, htl0, hWl]; omega
      have ew1 : wi .i64 ((t : Int) + 1) = ((t + 1 : Nat) : Int) := wi_succ (by omega)
      rw [ew1]
      simp only [Int.toNat_natCast]
      rw [if_pos ⟨by omega, by omega⟩, if_pos ⟨by omega, by omega⟩, if_pos ⟨by omega, by omega, Nat.le_refl _⟩]
      have hW' : (wT S'.flatten C (t + 1)).take t ++ ((wT S'.flatten C (t + 1)).take (wT S'.flatten C (t + 1)).length).drop (t + 1) = wT S'.flatten C t := by
        rw [hws, List.take_length]
        unfold wT
        rw [List.take_append_of_le_length (by rw [htl]; omega), List.take_take, show min t (t + 1) = t by omega, List.drop_append_of_le_length (by rw [htl]; omega), List.drop_of_length_le (by rw [htl]; omega), List.nil_append]
      have hbd : ∀ l ∈ S'.map (List.map (fT S'.flatten (t + 1))), ∀ v ∈ l, -1000 ≤ v ∧ v ≤ 1000 := by
        intro l h v hv
        obtain ⟨y, hy, rfl⟩ := List.mem_map.1 h
        obtain ⟨a, ha, rfl⟩ := List.mem_map.1 hv
        have h1 := (hl y hy).2 a ha
        have h2 := fT_le (D := S'.flatten) (t := t + 1) (v := a) h1.1
        omega
      have e7 := rdropL7 (n := n) (gone := gone) (c := (t : Int)) (X := S'.map (List.map (fT S'.flatten (t + 1)))) (C := wT S'.flatten C t) hn hX8 hXl hbd n 0 [] (by omega) (by omega) rfl
      have e7 : G_ringref2_RoomDrop_h_L7 n gone (t : Int) (S'.map (List.map (fT S'.flatten (t + 1)))) n 0 (wT S'.flatten C t) (S'.map (List.map (fT S'.flatten (t + 1)))) = _ := e7
      have hfe : (S'.map (List.map (fT S'.flatten (t + 1)))).map (List.map (dec (t : Int))) = S'.map (List.map (fT S'.flatten t)) := by
        rw [List.map_map]
        refine List.map_congr_left fun y hy => ?_
        simp only [Function.comp_apply, List.map_map]
        refine List.map_congr_left fun v hv => ?_
        exact fT_not ((hl y hy).2 v hv).1 (List.mem_flatten.2 ⟨y, hy, hv⟩) hu
      rw [hW', e7, Option.bind_some]
      simp only [List.drop_zero, List.nil_append]
      rw [hfe, wi64 (by omega) (by omega), ih k (gone + 1) (by omega) (by omega) (by omega) (by omega)]
      congr 2
      omega
section
variable {n : Nat} {r : S_cow_Room} (hn : 20000 ≤ n) {i : Nat} {y : List Int} (hb : bad r = 0) (hi : r.fSpaces[i]? = some y)
include hn hb hi
theorem rdropG : G_ringref2_RoomDrop_h n r (i : Int) = some (left r i, (r.fCells.length : Int) - ((left r i).fCells.length : Int)) := by
  have rt := bad_rt hb
  have hil : i < r.fSpaces.length := (List.getElem?_eq_some_iff.1 hi).1
  have h1 := rt.c
  have h2 := rt.s
  have hol := others_len (S := r.fSpaces) (i := i)
  have hl8 : ∀ l ∈ others r.fSpaces i, l.length ≤ 8 ∧ ∀ c ∈ l, 0 ≤ c ∧ c < (r.fCells.length : Int) := fun l h => rt.l l (others_mem h)
  have e1 := rdropL1 (n := n) (r := r) (C := r.fCells) (s := i) rt.s (fun l hl => (rt.l l hl).1) n 0 [] (by omega) (by omega) (by simp)
  have e1 : G_ringref2_RoomDrop_h_L1 n (i : Int) r n 0 r.fCells [] = _ := e1
  have hsk : skip i 0 r.fSpaces = others r.fSpaces i := by
    rw [skip_is, if_pos (by omega)]; rfl
  unfold G_ringref2_RoomDrop_h
  rw [app_le (m := 1000) (by simp; omega) (by decide) (by decide), Option.bind_some, List.nil_append, e1, Option.bind_some]
  simp only [List.drop_zero, List.nil_append]
  rw [hsk, wi64 (by omega) (by omega)]
  have e8 := rdropL8 (n := n) (C := r.fCells) (S' := others r.fSpaces i) hn h1 (by omega) hl8 r.fCells.length n 0 (by omega) (by omega) (by omega) (by omega)
  have hw : wT (others r.fSpaces i).flatten r.fCells r.fCells.length = r.fCells := by
    unfold wT; rw [List.take_length, List.drop_length]; simp [selU]
  have hf : (others r.fSpaces i).map (List.map (fT (others r.fSpaces i).flatten r.fCells.length)) = others r.fSpaces i := by
    conv => rhs; rw [← List.map_id (others r.fSpaces i)]
    refine List.map_congr_left fun l hl => ?_
    conv => rhs; rw [id, ← List.map_id l]
    refine List.map_congr_left fun v hv => ?_
    unfold fT
    rw [if_pos ((hl8 l hl).2 v hv).2]; rfl
  have hf0 : (others r.fSpaces i).map (List.map (fT (others r.fSpaces i).flatten 0)) = (others r.fSpaces i).map (List.map (rk (others r.fSpaces i).flatten)) := by
    refine List.map_congr_left fun l hl => List.map_congr_left fun v hv => ?_
    have := ((hl8 l hl).2 v hv).1
    unfold fT rk
    rw [if_neg (by omega)]
    simp [cu]
  have hw0 : wT (others r.fSpaces i).flatten r.fCells 0 = selU (others r.fSpaces i).flatten 0 r.fCells := by
    unfold wT; simp
  rw [hw, hf, hf0, hw0] at e8
  rw [e8, Option.bind_some]
  simp [left]
end
end Go.Proofs.Ytpeakaeblibfmaa.cowTells
