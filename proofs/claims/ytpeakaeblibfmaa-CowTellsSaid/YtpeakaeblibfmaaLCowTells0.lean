/- The plain law of CowTells: all of it. -/
import Derived.Test.YtpeakaeblibfmaaLCw3
namespace Go.Proofs.Ytpeakaeblibfmaa.cowTells
open Go.RowKit help pv
set_option linter.all false

theorem lawL3 {n : Nat} {s k b e1 e2 e3 e4 g e5 : Int} {see y : List Int} {cp : Bool} {r x1 x2 x3 x4 : S_cow_Room} (hy : y.length ≤ 8) (hc : ∀ c ∈ y, 0 ≤ c ∧ c < (r.fCells.length : Int)) : ∀ (k' i : Nat) (acc : List Int), y.length - i < k' → i ≤ y.length → acc.length ≤ i →
    G_ringlaw2_CowTells_L3 n s k b see e1 e2 e3 cp e4 g e5 y r x1 x2 x3 x4 k' (i : Int) acc = some (.x0 (acc ++ (y.drop i).map (valC r.fCells)))
  | 0, i, _, h, _, _ => by omega
  | k' + 1, i, acc, hk, hi, ha => by
    rw [G_ringlaw2_CowTells_L3]
    by_cases hlt : (i : Int) < (y.length : Int)
    · obtain ⟨c, hcc⟩ := get_lt hlt
      obtain ⟨c0, c1⟩ := hc c (List.mem_of_getElem? hcc)
      rw [if_pos hlt, getI_nat, hcc, Option.bind_some, valC_get c0 c1, Option.bind_some, app_le (m := 1000) (by simp; omega) (by decide) (by decide), Option.bind_some, wi_succ (by omega), lawL3 hy hc k' (i + 1) _ (by omega) (by omega) (by simp; omega), drop_cons hcc]
      simp
    · rw [if_neg hlt, drop_end hlt]; simp
section
variable {n : Nat} {r : S_cow_Room} (hn : 20000 ≤ n)
include hn
theorem lawJ4 {i : Nat} {y : List Int} (hb : bad r = 0) (hi : r.fSpaces[i]? = some y) (k b : Int) {x1 x2 x3 : S_cow_Room} {e2 e3 e4 : Int} {cp : Bool}
    (hx : (x1, e2) = (if r.fSpaces.length = 8 then (⟨[], []⟩, 6) else (⟨r.fCells, r.fSpaces ++ [y]⟩, 0)))
    (hm : (x2, e3) = (if y.length = 8 then (⟨[], []⟩, 6) else (⟨r.fCells ++ [b], r.fSpaces.set i (y ++ [(r.fCells.length : Int)])⟩, 0)))
    (hz : (x3, cp, e4) = (if 0 ≤ k ∧ k < (y.length : Int) then (if cnt r.fSpaces (valC y k) = 1 then (⟨r.fCells.set (valC y k).toNat b, r.fSpaces⟩, false, 0) else (⟨r.fCells ++ [b], r.fSpaces.set i (y.set k.toNat (r.fCells.length : Int))⟩, true, 0)) else (⟨[], []⟩, false, 11))) :
    G_ringlaw2_CowTells_J4 n (i : Int) k b r x1 x2 x3 (y.map (valC r.fCells)) e2 e3 cp e4 false = some true := by
  have rt := bad_rt hb
  have hil : i < r.fSpaces.length := (List.getElem?_eq_some_iff.1 hi).1
  have h1 := rt.c
  have h2 := rt.s
  have hy := rt.l y (List.mem_of_getElem? hi)
  have hyl := hy.1
  have hl9 : ∀ l ∈ r.fSpaces, l.length ≤ 9 := fun l hl => by have := (rt.l l hl).1; omega
  have sn : G_ringref2_RoomSame n ⟨[], []⟩ ⟨[], []⟩ = some true := same _ hn (by simp) (by simp)
  have e4' : G_ringlaw2_CowTells_C4 n (i : Int) k b e2 e3 cp e4 r x1 x2 x3 (y.map (valC r.fCells)) = some (.x1 (y.map (valC r.fCells))) := by
    unfold G_ringlaw2_CowTells_C4
    by_cases h : r.fSpaces.length = 8
    · rw [if_pos h] at hx; cases hx
      rw [if_pos (by omega), sn, Option.bind_some, if_pos rfl, if_pos rfl]
    · rw [if_neg h] at hx; cases hx
      rw [if_neg (by omega), own_ hn (by omega) (by omega) hl9, Option.bind_some, getI_nat, hi, Option.bind_some, cloneI (by omega), Option.bind_some, app_le (m := 1000) (by simp; omega) (by decide) (by decide), Option.bind_some, same _ hn (by simp; omega) (fun l hl => by
        rcases List.mem_append.1 hl with hl | hl
        · have := hl9 l hl; omega
        · simp at hl; subst hl; omega), Option.bind_some, if_pos rfl, if_pos rfl]
  unfold G_ringlaw2_CowTells_J4
  rw [if_neg (by decide), e4', Option.bind_some]
  simp only []
  rw [own_ hn (by omega) (by omega) hl9, Option.bind_some, app_le (m := 1000) (by simp; omega) (by decide) (by decide), Option.bind_some]
  simp only [List.length_map]
  by_cases h8 : y.length = 8
  · rw [if_pos h8] at hm; cases hm
    rw [if_pos (by omega), sn, Option.bind_some, if_pos rfl, if_pos rfl]
    rw [inG, Option.bind_some]
    by_cases hk : 0 ≤ k ∧ k < (y.length : Int)
    · rw [if_pos hk] at hz
      have hv := valC_get hk.1 hk.2
      have hv2 := hv
      unfold getI at hv2
      rw [if_pos hk.1] at hv2
      have hmem : valC y k ∈ y := List.mem_of_getElem? hv2
      have hr := hy.2 _ hmem
      have hcp : 1 ≤ cnt r.fSpaces (valC y k) := cnt_pos.2 (List.mem_flatten.2 ⟨y, List.mem_of_getElem? hi, hmem⟩)
      rw [if_pos (by rw [wi64 (by omega) (by omega)]; exact decide_eq_true (by omega)), Option.bind_some, getI_nat, hi, Option.bind_some, hv, Option.bind_some, rmany hn rt.s (fun l hl => (rt.l l hl).1), Option.bind_some]
      by_cases hc : cnt r.fSpaces (valC y k) = 1
      · rw [if_pos hc] at hz
        cases hz
        obtain ⟨q, hq⟩ : ∃ q, r.fCells[(valC y k).toNat]? = some q := ⟨_, List.getElem?_eq_getElem (by omega)⟩
        rw [if_neg (by omega), Option.bind_some, hv, Option.bind_some, if_pos ⟨hr.1, by omega⟩, hq, Option.bind_some, same _ hn (by simp only; omega) (fun l hl => by have := hl9 l hl; omega), Option.bind_some, if_pos rfl, if_pos (by simp [eqRes, hc])]
        rfl
      · rw [if_neg hc] at hz
        cases hz
        rw [if_pos (by omega)]
        try simp only [Int.toNat_natCast]
        try rw [hi]
        rw [Option.bind_some, if_pos ⟨by omega, hil⟩, if_pos hil, if_pos ⟨hk.1, by omega⟩, hv2, Option.bind_some, same _ hn (by simp only [List.length_set]; omega) (fun l hl => by
          rcases List.mem_or_eq_of_mem_set hl with hl | rfl
          · have := hl9 l hl; omega
          · rw [List.length_set]; omega), Option.bind_some, if_pos rfl, if_pos (by simp [eqRes]; omega)]
        rfl
    · rw [if_neg hk] at hz
      cases hz
      rw [if_neg (by rw [wi64 (by omega) (by omega)]; simp; omega)]
      unfold G_ringlaw2_CowTells_J2 G_ringlaw2_CowTells_C5
      rw [sn, Option.bind_some, if_pos rfl, if_neg (by decide), Option.bind_some]
      rfl
  · rw [if_neg h8] at hm; cases hm
    rw [if_neg (by omega), own_ (r := ⟨r.fCells ++ [b], r.fSpaces⟩) hn (by simp; omega) (by simp only; omega) hl9, Option.bind_some]
    simp only [Int.toNat_natCast]
    rw [hi, Option.bind_some, if_pos ⟨by omega, hil⟩, if_pos hil, app_le (m := 1000) (by simp; omega) (by decide) (by decide), Option.bind_some, if_pos ⟨by omega, hil⟩, if_pos hil, same _ hn (by simp only [List.length_set]; omega) (fun l hl => by
      rcases List.mem_or_eq_of_mem_set hl with hl | rfl
      · have := hl9 l hl; omega
      · simp; omega), Option.bind_some, if_pos rfl, if_pos trivial]
    rw [inG, Option.bind_some]
    by_cases hk : 0 ≤ k ∧ k < (y.length : Int)
    · rw [if_pos hk] at hz
      have hv := valC_get hk.1 hk.2
      have hv2 := hv
      unfold getI at hv2
      rw [if_pos hk.1] at hv2
      have hmem : valC y k ∈ y := List.mem_of_getElem? hv2
      have hr := hy.2 _ hmem
      have hcp : 1 ≤ cnt r.fSpaces (valC y k) := cnt_pos.2 (List.mem_flatten.2 ⟨y, List.mem_of_getElem? hi, hmem⟩)
      rw [if_pos (by rw [wi64 (by omega) (by omega)]; exact decide_eq_true (by omega)), Option.bind_some, getI_nat, hi, Option.bind_some, hv, Option.bind_some, rmany hn rt.s (fun l hl => (rt.l l hl).1), Option.bind_some]
      by_cases hc : cnt r.fSpaces (valC y k) = 1
      · rw [if_pos hc] at hz
        cases hz
        obtain ⟨q, hq⟩ : ∃ q, r.fCells[(valC y k).toNat]? = some q := ⟨_, List.getElem?_eq_getElem (by omega)⟩
        rw [if_neg (by omega), Option.bind_some, hv, Option.bind_some, if_pos ⟨hr.1, by omega⟩, hq, Option.bind_some, same _ hn (by simp only; omega) (fun l hl => by have := hl9 l hl; omega), Option.bind_some, if_pos rfl, if_pos (by simp [eqRes, hc])]
        rfl
      · rw [if_neg hc] at hz
        cases hz
        rw [if_pos (by omega)]
        try simp only [Int.toNat_natCast]
        try rw [hi]
        rw [Option.bind_some, if_pos ⟨by omega, hil⟩, if_pos hil, if_pos ⟨hk.1, by omega⟩, hv2, Option.bind_some, same _ hn (by simp only [List.length_set]; omega) (fun l hl => by
          rcases List.mem_or_eq_of_mem_set hl with hl | rfl
          · have := hl9 l hl; omega
          · rw [List.length_set]; omega), Option.bind_some, if_pos rfl, if_pos (by simp [eqRes]; omega)]
        rfl
    · rw [if_neg hk] at hz
      cases hz
      rw [if_neg (by rw [wi64 (by omega) (by omega)]; simp; omega)]
      unfold G_ringlaw2_CowTells_J2 G_ringlaw2_CowTells_C5
      rw [sn, Option.bind_some, if_pos rfl, if_neg (by decide), Option.bind_some]
      rfl
theorem law_at (s k b : Int) : G_ringlaw2_CowTells n r s k b = some true := by
  unfold G_ringlaw2_CowTells
  have ec1 : ∀ (x1 : List Int × Int) (x2 x3 : S_cow_Room × Int) (x4 : S_cow_Room × Bool × Int) (x5 : S_cow_Room × Int × Int), G_ringlaw2_CowTells_C1 n s k b x1 x2 x3 x4 x5 (bad r) r = some (.x0 (decide (bad r = 0 ∧ ¬ (0 ≤ s ∧ s < r.fSpaces.length)))) := by
    intro x1 x2 x3 x4 x5
    unfold G_ringlaw2_CowTells_C1
    by_cases h : bad r = 0
    · have h2 := (bad_rt h).s
      rw [if_pos h, wi64 (by omega) (by omega), inG, Option.bind_some]
      congr 2
      rw [Bool.eq_iff_iff]
      simp only [Bool.not_eq_true', decide_eq_false_iff_not, decide_eq_true_eq]
      omega
    · rw [if_neg h, decide_eq_false (fun hh => h hh.1)]
  have rest : ∀ (x1 : List Int × Int) (x2 x3 : S_cow_Room × Int) (x4 : S_cow_Room × Bool × Int) (x5 : S_cow_Room × Int × Int), G_ringlaw2_CowTells_J5 n s k b r x2.1 x3.1 x4.1 x5.1 x1.1 x1.2 x2.2 x3.2 x4.2.1 x4.2.2 x5.2.1 x5.2.2 (spc r s) = some true →
      ((G_ringref2_Rooms n r).bind fun (v_r3671 : (Int)) =>
       (G_cow_Check n r).bind fun (v_r3714 : (Int)) =>
       if v_r3714 = v_r3671 then
        (G_ringlaw2_CowTells_C1 n s k b x1 x2 x3 x4 x5 v_r3671 r).bind fun v_o3792 => match v_o3792 with
        | .x0 v_z3793 =>
          if v_z3793 = true then
           G_ringlaw2_CowTells_J5 n s k b r x2.1 x3.1 x4.1 x5.1 x1.1 x1.2 x2.2 x3.2 x4.2.1 x4.2.2 x5.2.1 x5.2.2 4
          else
           G_ringlaw2_CowTells_J5 n s k b r x2.1 x3.1 x4.1 x5.1 x1.1 x1.2 x2.2 x3.2 x4.2.1 x4.2.2 x5.2.1 x5.2.2 v_r3671
       else
        some false) = some true := by
    intro x1 x2 x3 x4 x5 hJ
    rw [rooms hn, Option.bind_some, check hn, Option.bind_some, if_pos rfl, ec1, Option.bind_some]
    unfold spc at hJ
    by_cases c : bad r = 0 ∧ ¬ (0 ≤ s ∧ s < r.fSpaces.length)
    · rw [if_pos c] at hJ
      simp only [decide_eq_true c, if_true]
      exact hJ
    · rw [if_neg c] at hJ
      simp only [decide_eq_false c, Bool.false_eq_true, if_false]
      exact hJ
  by_cases h : spc r s = 0
  · obtain ⟨hb, i, y, rfl, hi, hil⟩ := spc_0 h
    have rt := bad_rt hb
    have hy := rt.l y (List.mem_of_getElem? hi)
    rw [seeG hn hb hi, Option.bind_some, forkG hn hb hi, Option.bind_some, moreG hn hb hi, Option.bind_some, writeG hn hb hi, Option.bind_some, dropG hn hb hi, Option.bind_some]
    refine rest _ _ _ _ _ ?_
    rw [h]
    unfold G_ringlaw2_CowTells_J5
    rw [if_pos rfl, getI_nat, hi, Option.bind_some]
    erw [lawL3 (n := n) (s := (i : Int)) (k := k) (b := b) (r := r) (y := y) hy.1 hy.2 n 0 [] (by omega) (by omega) (by simp)]
    rw [Option.bind_some]
    simp only [List.drop_zero, List.nil_append]
    obtain ⟨q, q1, q2⟩ := G_slices_Equal_byte_byte_sp (n := n) (y.map (valC r.fCells)) (y.map (valC r.fCells)) (by simp; omega) (by simp; omega)
    have hleft : ∀ l ∈ (left r i).fSpaces, l.length ≤ 1000 := by
      intro l hl
      obtain ⟨z, hz, rfl⟩ := List.mem_map.1 hl
      have := (rt.l z (others_mem hz)).1
      rw [List.length_map]; omega
    have hls : (left r i).fSpaces.length ≤ 1000 := by
      have := others_len (S := r.fSpaces) (i := i)
      have := rt.s
      simp only [left, List.length_map]; omega
    rw [rdropG hn hb hi, Option.bind_some, q1, Option.bind_some, if_pos (q2.2 rfl), if_pos rfl]
    simp only []
    rw [same _ hn hls hleft, Option.bind_some, if_pos rfl, if_pos trivial]
    exact lawJ4 hn hb hi k b rfl rfl rfl
  · obtain ⟨b1, b2, b3, b4, b5⟩ := bads hn k b h
    rw [b1, Option.bind_some, b2, Option.bind_some, b3, Option.bind_some, b4, Option.bind_some, b5, Option.bind_some]
    refine rest _ _ _ _ _ ?_
    have sn : G_ringref2_RoomSame n ⟨[], []⟩ ⟨[], []⟩ = some true := same _ hn (by simp) (by simp)
    unfold G_ringlaw2_CowTells_J5 G_ringlaw2_CowTells_C2
    rw [if_neg h]
    simp [sn]
end
theorem law (r : S_cow_Room) (s k b : Int) : ∃ n, G_ringlaw2_CowTells n r s k b = some true := ⟨20000, law_at (Nat.le_refl _) s k b⟩
end Go.Proofs.Ytpeakaeblibfmaa.cowTells
