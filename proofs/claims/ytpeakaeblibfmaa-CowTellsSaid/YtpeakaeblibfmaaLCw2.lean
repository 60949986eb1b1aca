/- The plain law of CowTells, second part: what is seen, copied, counted, forked, written. -/
import Derived.Test.YtpeakaeblibfmaaLCw
namespace Go.Proofs.Ytpeakaeblibfmaa.cowTells
open Go.RowKit help pv
set_option linter.all false

def valC (C : List Int) (c : Int) : Int := (C[c.toNat]?).getD 0
theorem valC_get {C : List Int} {c : Int} (h0 : 0 ≤ c) (h1 : c < (C.length : Int)) : getI C c = some (valC C c) := by
  unfold getI valC
  rw [if_pos h0]
  obtain ⟨x, hx⟩ : ∃ x, C[c.toNat]? = some x := ⟨_, List.getElem?_eq_getElem (by omega)⟩
  rw [hx]; rfl
theorem seeL {n : Nat} {y : List Int} {r : S_cow_Room} (hy : y.length ≤ 8) (hc : ∀ c ∈ y, 0 ≤ c ∧ c < (r.fCells.length : Int)) : ∀ (k i : Nat) (acc : List Int), y.length - i < k → i ≤ y.length → acc.length ≤ i →
    G_cow_See_L1 n y r k (i : Int) acc = some (.x0 (acc ++ (y.drop i).map (valC r.fCells)))
  | 0, i, _, h, _, _ => by omega
  | k + 1, i, acc, hk, hi, ha => by
    rw [G_cow_See_L1]
    by_cases hlt : (i : Int) < (y.length : Int)
    · obtain ⟨c, hcc⟩ := get_lt hlt
      obtain ⟨c0, c1⟩ := hc c (List.mem_of_getElem? hcc)
      rw [if_pos hlt, getI_nat, hcc, Option.bind_some, valC_get c0 c1, Option.bind_some, app_le (m := 1000) (by simp; omega) (by decide) (by decide), Option.bind_some, wi_succ (by omega), seeL hy hc k (i + 1) _ (by omega) (by omega) (by simp; omega), drop_cons hcc]
      simp
    · rw [if_neg hlt, drop_end hlt]; simp
theorem cloneB {n : Nat} {l : List Int} (h : l.length ≤ 1000) : G_slices_Clone_byte_byte n l = some l := by
  unfold G_slices_Clone_byte_byte
  rw [app_le (m := 1000) (by simpa using h) (by decide) (by decide)]; rfl
theorem cloneI {n : Nat} {l : List Int} (h : l.length ≤ 1000) : G_slices_Clone_int_int_b n l = some l := by
  unfold G_slices_Clone_int_int_b
  rw [app_le (m := 1000) (by simpa using h) (by decide) (by decide)]; rfl
theorem cloneS {n : Nat} {l : List (List Int)} (h : l.length ≤ 1000) : G_slices_Clone_int_int n l = some l := by
  unfold G_slices_Clone_int_int
  rw [app_le (m := 1000) (by simpa using h) (by decide) (by decide)]; rfl
theorem copiedL {n : Nat} {S : List (List Int)} {C : List Int} (hs : S.length ≤ 8) (hl : ∀ l ∈ S, l.length ≤ 8) : ∀ (k i : Nat), S.length - i < k → i ≤ S.length → G_cow_copied_h_L1 n S k (i : Int) C S = some (.x0 C S)
  | 0, i, h, _ => by omega
  | k + 1, i, hk, hi => by
    rw [G_cow_copied_h_L1]
    by_cases hlt : (i : Int) < (S.length : Int)
    · obtain ⟨x, hx⟩ := get_lt hlt
      have hil : i < S.length := by omega
      have e0 : wi .i64 ((i : Int) + 1) = ((i + 1 : Nat) : Int) := wi_succ (by omega)
      have hxl := hl x (List.mem_of_getElem? hx)
      rw [if_pos hlt]
      simp only [e0, Int.toNat_natCast]
      rw [if_pos ⟨by omega, hil⟩, hx, Option.bind_some, cloneI (by omega), Option.bind_some, if_pos ⟨by omega, hil⟩, if_pos hil, Option.bind_some, if_pos trivial, set_own hx]
      exact copiedL hs hl k (i + 1) (by omega) (by omega)
    · rw [if_neg hlt, if_pos (by omega)]
section
variable {n : Nat} {r : S_cow_Room} (hn : 20000 ≤ n) (rt : Rt r)
include hn rt
theorem copied : G_cow_copied_h n r = some r := by
  have h1 := rt.c
  have h2 := rt.s
  unfold G_cow_copied_h
  have e := copiedL (n := n) (C := r.fCells) rt.s (fun l hl => (rt.l l hl).1) n 0 (by omega) (by omega)
  have e : G_cow_copied_h_L1 n r.fSpaces n 0 r.fCells r.fSpaces = _ := e
  rw [cloneB (by omega), Option.bind_some, cloneS (by omega), Option.bind_some, e]
  rfl
end
/-- so many pages have a cell -/
def cnt (S : List (List Int)) (c : Int) : Nat := S.flatten.count c
theorem manyL1 {n : Nat} {c x : Int} {r : S_cow_Room} {y : List Int} : ∀ (k i m : Nat), y.length - i < k → i ≤ y.length → m + (y.length - i) ≤ 2000000 → y.length ≤ 2000000 →
    G_cow_many_L1 n c r x y k (m : Int) (i : Int) = some (.x0 ((m + (y.drop i).count c : Nat) : Int))
  | 0, i, _, h, _, _, _ => by omega
  | k + 1, i, m, hk, hi, hm, hy => by
    rw [G_cow_many_L1]
    by_cases hlt : (i : Int) < (y.length : Int)
    · obtain ⟨a, ha⟩ := get_lt hlt
      rw [if_pos hlt, getI_nat, ha, Option.bind_some, drop_cons ha, List.count_cons]
      by_cases e : a = c
      · rw [if_pos e, wi_succ (by omega), wi_succ (by omega), manyL1 k (i + 1) (m + 1) (by omega) (by omega) (by omega) hy]
        simp [e]; omega
      · rw [if_neg e, wi_succ (by omega), manyL1 k (i + 1) m (by omega) (by omega) (by omega) hy]
        simp [e]
    · rw [if_neg hlt, drop_end hlt]; simp
theorem manyL2 {n : Nat} {c : Int} {r : S_cow_Room} (hn : 20000 ≤ n) (hs : r.fSpaces.length ≤ 8) (hl : ∀ l ∈ r.fSpaces, l.length ≤ 8) : ∀ (k i m : Nat), r.fSpaces.length - i < k → i ≤ r.fSpaces.length → m + 8 * (r.fSpaces.length - i) ≤ 1000 →
    G_cow_many_L2 n c r k (m : Int) (i : Int) = some (.x0 ((m + cnt (r.fSpaces.drop i) c : Nat) : Int))
  | 0, i, _, h, _, _ => by omega
  | k + 1, i, m, hk, hi, hm => by
    rw [G_cow_many_L2]
    by_cases hlt : (i : Int) < (r.fSpaces.length : Int)
    · obtain ⟨y, hy⟩ := get_lt hlt
      have hyl := hl y (List.mem_of_getElem? hy)
      have hcl : y.count c ≤ y.length := List.count_le_length
      have e := manyL1 (n := n) (c := c) (x := (i : Int)) (r := r) (y := y) n 0 m (by omega) (by omega) (by omega) (by omega)
      have e : G_cow_many_L1 n c r (i : Int) y n (m : Int) 0 = _ := e
      rw [if_pos hlt, getI_nat, hy, Option.bind_some, e, Option.bind_some, List.drop_zero]
      simp only []
      rw [wi_succ (by omega), manyL2 hn hs hl k (i + 1) _ (by omega) (by omega) (by omega), drop_cons hy]
      simp [cnt, List.count_append]
      omega
    · rw [if_neg hlt, drop_end hlt]; simp [cnt]
theorem many {n : Nat} {c : Int} {r : S_cow_Room} (hn : 20000 ≤ n) (hs : r.fSpaces.length ≤ 8) (hl : ∀ l ∈ r.fSpaces, l.length ≤ 8) : G_cow_many n r c = some (cnt r.fSpaces c : Int) := by
  unfold G_cow_many
  have e := manyL2 (c := c) hn hs hl n 0 0 (by omega) (by omega) (by omega)
  have e : G_cow_many_L2 n c r n 0 0 = _ := e
  rw [e, Option.bind_some]
  simp
theorem rmanyL1 {n : Nat} {c x : Int} {r : S_cow_Room} {y : List Int} : ∀ (k i m : Nat), y.length - i < k → i ≤ y.length → m + (y.length - i) ≤ 2000000 → y.length ≤ 2000000 →
    G_ringref2_RoomMany_L1 n c r x y k (m : Int) (i : Int) = some (.x0 ((m + (y.drop i).count c : Nat) : Int))
  | 0, i, _, h, _, _, _ => by omega
  | k + 1, i, m, hk, hi, hm, hy => by
    rw [G_ringref2_RoomMany_L1]
    by_cases hlt : (i : Int) < (y.length : Int)
    · obtain ⟨a, ha⟩ := get_lt hlt
      rw [if_pos hlt, getI_nat, ha, Option.bind_some, drop_cons ha, List.count_cons]
      by_cases e : a = c
      · rw [if_pos e, wi_succ (by omega), wi_succ (by omega), rmanyL1 k (i + 1) (m + 1) (by omega) (by omega) (by omega) hy]
        simp [e]; omega
      · rw [if_neg e, wi_succ (by omega), rmanyL1 k (i + 1) m (by omega) (by omega) (by omega) hy]
        simp [e]
    · rw [if_neg hlt, drop_end hlt]; simp
theorem rmanyL2 {n : Nat} {c : Int} {r : S_cow_Room} (hn : 20000 ≤ n) (hs : r.fSpaces.length ≤ 8) (hl : ∀ l ∈ r.fSpaces, l.length ≤ 8) : ∀ (k i m : Nat), r.fSpaces.length - i < k → i ≤ r.fSpaces.length → m + 8 * (r.fSpaces.length - i) ≤ 1000 →
    G_ringref2_RoomMany_L2 n c r k (m : Int) (i : Int) = some (.x0 ((m + cnt (r.fSpaces.drop i) c : Nat) : Int))
  | 0, i, _, h, _, _ => by omega
  | k + 1, i, m, hk, hi, hm => by
    rw [G_ringref2_RoomMany_L2]
    by_cases hlt : (i : Int) < (r.fSpaces.length : Int)
    · obtain ⟨y, hy⟩ := get_lt hlt
      have hyl := hl y (List.mem_of_getElem? hy)
      have hcl : y.count c ≤ y.length := List.count_le_length
      have e := rmanyL1 (n := n) (c := c) (x := (i : Int)) (r := r) (y := y) n 0 m (by omega) (by omega) (by omega) (by omega)
      have e : G_ringref2_RoomMany_L1 n c r (i : Int) y n (m : Int) 0 = _ := e
      rw [if_pos hlt, getI_nat, hy, Option.bind_some, e, Option.bind_some, List.drop_zero]
      simp only []
      rw [wi_succ (by omega), rmanyL2 hn hs hl k (i + 1) _ (by omega) (by omega) (by omega), drop_cons hy]
      simp [cnt, List.count_append]
      omega
    · rw [if_neg hlt, drop_end hlt]; simp [cnt]
theorem rmany {n : Nat} {c : Int} {r : S_cow_Room} (hn : 20000 ≤ n) (hs : r.fSpaces.length ≤ 8) (hl : ∀ l ∈ r.fSpaces, l.length ≤ 8) : G_ringref2_RoomMany n r c = some (cnt r.fSpaces c : Int) := by
  unfold G_ringref2_RoomMany
  have e := rmanyL2 (c := c) hn hs hl n 0 0 (by omega) (by omega) (by omega)
  have e : G_ringref2_RoomMany_L2 n c r n 0 0 = _ := e
  rw [e, Option.bind_some]
  simp
theorem ownL {n : Nat} {r : S_cow_Room} {C : List Int} (hs : r.fSpaces.length ≤ 9) (hl : ∀ l ∈ r.fSpaces, l.length ≤ 9) : ∀ (k i : Nat) (acc : List (List Int)), r.fSpaces.length - i < k → i ≤ r.fSpaces.length → acc.length ≤ i →
    G_ringref2_RoomOwn_h_L1 n r k (i : Int) C acc = some (.x0 C (acc ++ r.fSpaces.drop i))
  | 0, i, _, h, _, _ => by omega
  | k + 1, i, acc, hk, hi, ha => by
    rw [G_ringref2_RoomOwn_h_L1]
    by_cases hlt : (i : Int) < (r.fSpaces.length : Int)
    · obtain ⟨y, hy⟩ := get_lt hlt
      have hyl := hl y (List.mem_of_getElem? hy)
      rw [if_pos hlt, getI_nat, hy, Option.bind_some, app_le (m := 1000) (by simp; omega) (by decide) (by decide), Option.bind_some, app_le (m := 1000) (by simp; omega) (by decide) (by decide), Option.bind_some, wi_succ (by omega), ownL hs hl k (i + 1) _ (by omega) (by omega) (by simp; omega), drop_cons hy]
      simp
    · rw [if_neg hlt, drop_end hlt]; simp
theorem own_ {n : Nat} {r : S_cow_Room} (hn : 20000 ≤ n) (hc : r.fCells.length ≤ 100) (hs : r.fSpaces.length ≤ 9) (hl : ∀ l ∈ r.fSpaces, l.length ≤ 9) : G_ringref2_RoomOwn_h n r = some r := by
  unfold G_ringref2_RoomOwn_h
  have e := ownL (n := n) (C := r.fCells) hs hl n 0 [] (by omega) (by omega) (by simp)
  have e : G_ringref2_RoomOwn_h_L1 n r n 0 r.fCells [] = _ := e
  rw [app_le (m := 1000) (by simp; omega) (by decide) (by decide), Option.bind_some, List.nil_append, e]
  rfl
/-- a room is like itself -/
theorem sameL2 {n : Nat} {a : S_cow_Room} {i : Nat} {y : List Int} (hi : a.fSpaces[i]? = some y) (hy : y.length ≤ 1000) : ∀ (k j : Nat), y.length - j < k → j ≤ y.length → G_ringref2_RoomSame_L2 n (i : Int) a y a k (j : Int) = some .x1
  | 0, j, h, _ => by omega
  | k + 1, j, hk, hj => by
    rw [G_ringref2_RoomSame_L2]
    by_cases hlt : (j : Int) < (y.length : Int)
    · obtain ⟨x, hx⟩ := get_lt hlt
      simp only [getI_nat]
      rw [if_pos hlt]
      simp only [hi, hx, Option.bind_some, if_true]
      rw [wi_succ (by omega)]
      exact sameL2 hi hy k (j + 1) (by omega) (by omega)
    · rw [if_neg hlt]
theorem sameL3 {n : Nat} {a : S_cow_Room} (hn : 20000 ≤ n) (hs : a.fSpaces.length ≤ 1000) (hl : ∀ l ∈ a.fSpaces, l.length ≤ 1000) : ∀ (k i : Nat), a.fSpaces.length - i < k → i ≤ a.fSpaces.length → G_ringref2_RoomSame_L3 n a a k (i : Int) = some .x1
  | 0, j, h, _ => by omega
  | k + 1, i, hk, hi => by
    rw [G_ringref2_RoomSame_L3]
    by_cases hlt : (i : Int) < (a.fSpaces.length : Int)
    · obtain ⟨y, hy⟩ := get_lt hlt
      have hyl := hl y (List.mem_of_getElem? hy)
      have e2 := sameL2 (n := n) hy hyl n 0 (by omega) (by omega)
      have e2 : G_ringref2_RoomSame_L2 n (i : Int) a y a n 0 = _ := e2
      rw [if_pos hlt]
      simp only [getI_nat, hy, Option.bind_some, if_true, e2]
      rw [wi_succ (by omega)]
      exact sameL3 hn hs hl k (i + 1) (by omega) (by omega)
    · rw [if_neg hlt]
theorem same {n : Nat} (a : S_cow_Room) (hn : 20000 ≤ n) (hs : a.fSpaces.length ≤ 1000) (hl : ∀ l ∈ a.fSpaces, l.length ≤ 1000) : G_ringref2_RoomSame n a a = some true := by
  unfold G_ringref2_RoomSame
  have e1 : G_ringref2_RoomSame_C1 n a a = some (.x0 false) := by
    unfold G_ringref2_RoomSame_C1
    rw [if_neg (by simp)]
    simp
  have e := sameL3 hn hs hl n 0 (by omega) (by omega)
  have e : G_ringref2_RoomSame_L3 n a a n 0 = _ := e
  rw [e1, Option.bind_some]
  simp only [Bool.false_eq_true, if_false]
  rw [e]; rfl
section
variable {n : Nat} {r : S_cow_Room} (hn : 20000 ≤ n) {i : Nat} {y : List Int} (hb : bad r = 0) (hi : r.fSpaces[i]? = some y)
include hn hb hi
theorem spcI : spc r (i : Int) = 0 := by
  have hil : i < r.fSpaces.length := (List.getElem?_eq_some_iff.1 hi).1
  unfold spc; rw [if_neg (by omega), hb]
theorem seeG : G_cow_See n r (i : Int) = some (y.map (valC r.fCells), 0) := by
  have rt := bad_rt hb
  have hy := rt.l y (List.mem_of_getElem? hi)
  have e := seeL (n := n) (r := r) hy.1 hy.2 n 0 [] (by omega) (by omega) (by simp)
  have e : G_cow_See_L1 n y r n 0 [] = _ := e
  unfold G_cow_See
  rw [space hn, Option.bind_some, if_pos (spcI hn hb hi), getI_nat, hi, Option.bind_some, e]
  simp
theorem forkG : G_cow_Fork n r (i : Int) = some (if r.fSpaces.length = 8 then (⟨[], []⟩, 6) else (⟨r.fCells, r.fSpaces ++ [y]⟩, 0)) := by
  have rt := bad_rt hb
  have hil : i < r.fSpaces.length := (List.getElem?_eq_some_iff.1 hi).1
  have hy := rt.l y (List.mem_of_getElem? hi)
  have h2 := rt.s
  unfold G_cow_Fork
  rw [space hn, Option.bind_some, if_pos (spcI hn hb hi)]
  by_cases h : r.fSpaces.length = 8
  · rw [if_pos (by omega), if_pos h]
  · rw [if_neg (by omega), if_neg h, copied hn rt, Option.bind_some]
    simp only [Int.toNat_natCast]
    rw [hi, Option.bind_some, if_pos ⟨by omega, hil⟩, Option.bind_some, cloneI (by omega), Option.bind_some, app_le (m := 1000) (by simp; omega) (by decide) (by decide), Option.bind_some]
theorem moreG (b : Int) : G_cow_More n r (i : Int) b = some (if y.length = 8 then (⟨[], []⟩, 6) else (⟨r.fCells ++ [b], r.fSpaces.set i (y ++ [(r.fCells.length : Int)])⟩, 0)) := by
  have rt := bad_rt hb
  have hil : i < r.fSpaces.length := (List.getElem?_eq_some_iff.1 hi).1
  have hy := rt.l y (List.mem_of_getElem? hi)
  have h2 := rt.c
  unfold G_cow_More
  rw [space hn, Option.bind_some, if_pos (spcI hn hb hi), getI_nat, hi, Option.bind_some]
  by_cases h : y.length = 8
  · rw [if_pos (by omega), if_pos h]
  · rw [if_neg (by omega), if_neg h, copied hn rt, Option.bind_some]
    simp only [Int.toNat_natCast]
    rw [hi, Option.bind_some, if_pos ⟨by omega, hil⟩, if_pos hil, app_le (m := 1000) (by simp; omega) (by decide) (by decide), Option.bind_some, if_pos ⟨by omega, hil⟩, if_pos hil, app_le (m := 1000) (by simp; omega) (by decide) (by decide), Option.bind_some]
theorem writeG (k b : Int) : G_cow_Write n r (i : Int) k b = some (if 0 ≤ k ∧ k < (y.length : Int) then (if cnt r.fSpaces (valC y k) = 1 then (⟨r.fCells.set (valC y k).toNat b, r.fSpaces⟩, false, 0) else (⟨r.fCells ++ [b], r.fSpaces.set i (y.set k.toNat (r.fCells.length : Int))⟩, true, 0)) else (⟨[], []⟩, false, 11)) := by
  have rt := bad_rt hb
  have hil : i < r.fSpaces.length := (List.getElem?_eq_some_iff.1 hi).1
  have hy := rt.l y (List.mem_of_getElem? hi)
  have h2 := rt.c
  unfold G_cow_Write
  rw [space hn, Option.bind_some, if_pos (spcI hn hb hi)]
  have e1 : G_cow_Write_C1 n (i : Int) k b r = some (.x0 (!decide (0 ≤ k ∧ k < (y.length : Int)))) := by
    unfold G_cow_Write_C1
    by_cases h : k < 0
    · rw [if_pos h]; simp; omega
    · rw [if_neg h, getI_nat, hi, Option.bind_some]
      congr 2
      rw [← decide_not, decide_eq_decide]; omega
  rw [e1, Option.bind_some]
  by_cases h : 0 ≤ k ∧ k < (y.length : Int)
  · simp only [decide_eq_true h, Bool.not_true, Bool.false_eq_true, if_false]
    rw [if_pos h, copied hn rt, Option.bind_some]
    have hkl : k.toNat < y.length := by omega
    have hv := valC_get h.1 h.2
    unfold getI at hv
    rw [if_pos h.1] at hv
    have hmem : valC y k ∈ y := List.mem_of_getElem? hv
    have hr := hy.2 _ hmem
    have hrl : (valC y k).toNat < r.fCells.length := by omega
    obtain ⟨z, hz⟩ : ∃ z, r.fCells[(valC y k).toNat]? = some z := ⟨_, List.getElem?_eq_getElem hrl⟩
    simp only [Int.toNat_natCast]
    rw [if_pos ⟨by omega, hil⟩, hi, Option.bind_some, if_pos ⟨h.1, hkl⟩, hv, Option.bind_some, many hn rt.s (fun l hl => (rt.l l hl).1), Option.bind_some]
    by_cases hc : cnt r.fSpaces (valC y k) = 1
    · rw [if_pos (by omega), if_pos hc, if_pos ⟨hr.1, hrl⟩, hz, Option.bind_some]
    · rw [if_neg (by omega), if_neg hc, if_pos ⟨by omega, hil⟩, if_pos hil, if_pos ⟨h.1, hkl⟩, Option.bind_some, app_le (m := 1000) (by simp; omega) (by decide) (by decide), Option.bind_some]
  · simp only [decide_eq_false h, Bool.not_false, if_true]
    rw [if_neg h]
end
theorem bads {n : Nat} {r : S_cow_Room} (hn : 20000 ≤ n) {s : Int} (k b : Int) (hk : spc r s ≠ 0) : G_cow_See n r s = some ([], spc r s) ∧ G_cow_Fork n r s = some (⟨[], []⟩, spc r s) ∧ G_cow_More n r s b = some (⟨[], []⟩, spc r s) ∧ G_cow_Write n r s k b = some (⟨[], []⟩, false, spc r s) ∧ G_cow_Drop n r s = some (⟨[], []⟩, 0, spc r s) := by
  unfold G_cow_See G_cow_Fork G_cow_More G_cow_Write G_cow_Drop
  rw [space hn]
  simp only [Option.bind_some]
  rw [if_neg hk, if_neg hk, if_neg hk, if_neg hk, if_neg hk]
  exact ⟨rfl, rfl, rfl, rfl, rfl⟩
end Go.Proofs.Ytpeakaeblibfmaa.cowTells
