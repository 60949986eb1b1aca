/- Areas: the calls. -/
import Derived.Test.YtnmpnljjaoddhaaAr5
namespace Go.Proofs.Ytnmpnljjaoddhaa.areaT
open Go.RowKit help rep pv
set_option linter.all false

theorem mny_cnt {l : List A} {lo f : Int} (hw : Wk lo l) : ∀ d : Nat, 0 ≤ mny f (f + d) l ∧ mny f (f + d) l ≤ d ∧ (mny f (f + d) l = 0 ↔ ∀ q, f ≤ q → q < f + d → pg l q < 0) ∧ (mny f (f + d) l = d ↔ ∀ q, f ≤ q → q < f + d → 0 ≤ pg l q)
  | 0 => by
    have e : mny f (f + (0 : Nat)) l = 0 := by rw [show f + ((0 : Nat) : Int) = f by omega]; exact mny_zero
    rw [e]
    exact ⟨by omega, by omega, ⟨fun _ q h1 h2 => by omega, fun _ => rfl⟩, ⟨fun _ q h1 h2 => by omega, fun _ => rfl⟩⟩
  | d + 1 => by
    obtain ⟨h1, h2, h3, h4⟩ := mny_cnt (f := f) hw d
    have e : mny f (f + ((d + 1 : Nat) : Int)) l = mny f (f + d) l + (if 0 ≤ pg l (f + d) then 1 else 0) := by
      rw [show f + ((d + 1 : Nat) : Int) = f + d + 1 by omega]
      exact mny_next hw (by omega)
    rw [e]
    by_cases c : 0 ≤ pg l (f + d)
    · rw [if_pos c]
      refine ⟨by omega, by omega, ⟨fun h => by omega, fun h => ?_⟩, ⟨fun h q g1 g2 => ?_, fun h => ?_⟩⟩
      · have := h (f + d) (by omega) (by omega); omega
      · by_cases e2 : q = f + d
        · rw [e2]; exact c
        · exact h4.1 (by omega) q g1 (by omega)
      · have := h4.2 (fun q g1 g2 => h q g1 (by omega)); omega
    · rw [if_neg c]
      refine ⟨by omega, by omega, ⟨fun h q g1 g2 => ?_, fun h => ?_⟩, ⟨fun h => by omega, fun h => ?_⟩⟩
      · by_cases e2 : q = f + d
        · rw [e2]; omega
        · exact h3.1 (by omega) q g1 (by omega)
      · have := h3.2 (fun q g1 g2 => h q g1 (by omega)); omega
      · exact absurd (h (f + d) (by omega) (by omega)) c
theorem check_ok (n : Nat) (l : List A) (a : A) (hc : G_area_Check n l = some 0) : G_area_check n l a = some (if rt a then 0 else 1) := by
  unfold G_area_check
  rw [hc, Option.bind_some, if_pos rfl, right_any, Option.bind_some]
  by_cases h : rt a
  · rw [decide_eq_true h, if_pos rfl, if_pos h]
  · rw [decide_eq_false h, if_neg (by decide), if_neg h]
theorem check_bad (n : Nat) (l : List A) (a : A) (r : Int) (hc : G_area_Check n l = some r) (hr : r ≠ 0) : G_area_check n l a = some r := by
  unfold G_area_check
  rw [hc, Option.bind_some, if_neg hr]
theorem ct_len {f t : Int} : ∀ {l : List A}, (ct f t l).length ≤ 2 * l.length
  | [] => by simp [ct]
  | a :: l => by
    have := ct_len (f := f) (t := t) (l := l)
    rw [ct]; split <;> split <;> simp <;> omega
section
variable (n : Nat) (l : List A) (x : A) (hn : 1001 ≤ n) (hc : G_area_Check n l = some 0) (hw : Nm 0 (-1) l)
include hn hc hw
theorem put_free (hx : rt x) (hf : free l x.fPage x.fN) : G_area_Put n l x = some (mgL (ins x l), 0) ∧ Nm 0 (-1) (mgL (ins x l)) ∧ ∀ q, pg (mgL (ins x l)) q = if x.fPage ≤ q ∧ q < x.fPage + x.fN then x.fRights else pg l q := by
  obtain ⟨p, m, r⟩ := x
  obtain ⟨r1, r2, r3, r4, r5, r6⟩ := hx
  simp only at r1 r2 r3 r4 r5 r6 hf
  have hwk := wk_of_nm hw
  have hl := wk_len hwk
  have hins : Wk 0 (ins ⟨p, m, r⟩ l) := ins_wk r3 (by omega) r5 r6 hwk r1 hf
  refine ⟨?_, mgL_nm hins, fun q => by rw [mgL_pg hins]; exact ins_pg hwk hf⟩
  have e1 : wi .i64 (p + m) = p + m := wi64 (by omega) (by omega)
  have hm : mny p (p + m) l = 0 := by
    obtain ⟨M, rfl⟩ := Int.eq_ofNat_of_zero_le (show 0 ≤ m by omega)
    exact (mny_cnt hwk M).2.2.1.2 hf
  have hcl : G_slices_Clone_area_Area_area_Area n l = some l := by
    unfold G_slices_Clone_area_Area_area_Area; exact app_some (by simp; omega) (by omega)
  unfold G_area_Put
  rw [check_ok n l _ hc, if_pos (show rt ⟨p, m, r⟩ from ⟨r1, r2, r3, r4, r5, r6⟩), Option.bind_some, if_pos rfl]
  simp only
  rw [e1, many_any n p (p + m) l (by omega) (by omega) hwk hn, Option.bind_some, hm, if_neg (by omega), hcl, Option.bind_some, lay_any n _ l hn (by omega) hins, Option.bind_some]
theorem put_full (hx : rt x) (hf : ¬ free l x.fPage x.fN) : G_area_Put n l x = some ([], 5) := by
  obtain ⟨p, m, r⟩ := x
  obtain ⟨r1, r2, r3, r4, r5, r6⟩ := hx
  simp only at r1 r2 r3 r4 r5 r6 hf
  have hwk := wk_of_nm hw
  have e1 : wi .i64 (p + m) = p + m := wi64 (by omega) (by omega)
  have hm : mny p (p + m) l > 0 := by
    obtain ⟨M, rfl⟩ := Int.eq_ofNat_of_zero_le (show 0 ≤ m by omega)
    have h := mny_cnt (f := p) hwk M
    have : mny p (p + M) l ≠ 0 := fun e => hf (h.2.2.1.1 e)
    omega
  unfold G_area_Put
  rw [check_ok n l _ hc, if_pos (show rt ⟨p, m, r⟩ from ⟨r1, r2, r3, r4, r5, r6⟩), Option.bind_some, if_pos rfl]
  simp only
  rw [e1, many_any n p (p + m) l (by omega) (by omega) hwk hn, Option.bind_some, if_pos hm]
theorem out_ok {p m : Int} (hx : rt ⟨p, m, 0⟩) : G_area_Out n l p m = some (ct p (p + m) l, 0) ∧ Nm 0 (-1) (ct p (p + m) l) ∧ ∀ q, pg (ct p (p + m) l) q = if p ≤ q ∧ q < p + m then -1 else pg l q := by
  have hx' := hx
  obtain ⟨r1, r2, r3, r4, r5, r6⟩ := hx
  simp only at r1 r2 r3 r4 r5 r6
  have hwk := wk_of_nm hw
  have e1 : wi .i64 (p + m) = p + m := wi64 (by omega) (by omega)
  refine ⟨?_, ct_nm (by omega) hw, fun q => ct_pg (by omega) hwk⟩
  unfold G_area_Out
  rw [check_ok n l _ hc, if_pos hx', Option.bind_some, if_pos rfl, e1, cut_any n p (p + m) l (by omega) (by omega) hwk hn, Option.bind_some]
theorem turn_ok (hx : rt x) (hf : ∀ q, x.fPage ≤ q → q < x.fPage + x.fN → 0 ≤ pg l q) : ∃ t, G_area_Turn n l x = some (t, 0) ∧ Nm 0 (-1) t ∧ ∀ q, pg t q = if x.fPage ≤ q ∧ q < x.fPage + x.fN then x.fRights else pg l q := by
  obtain ⟨p, m, r⟩ := x
  obtain ⟨r1, r2, r3, r4, r5, r6⟩ := hx
  simp only at r1 r2 r3 r4 r5 r6 hf
  have hwk := wk_of_nm hw
  have hl := wk_len hwk
  have e1 : wi .i64 (p + m) = p + m := wi64 (by omega) (by omega)
  have hcn := ct_nm (f := p) (t := p + m) (by omega) hw
  have hcw := wk_of_nm hcn
  have hcf : ∀ q, p ≤ q → q < p + m → pg (ct p (p + m) l) q < 0 := fun q g1 g2 => by
    rw [ct_pg (by omega) hwk, if_pos ⟨g1, g2⟩]; decide
  have hins : Wk 0 (ins ⟨p, m, r⟩ (ct p (p + m) l)) := ins_wk r3 (by omega) r5 r6 hcw r1 hcf
  have hm : ¬ (mny p (p + m) l < m) := by
    obtain ⟨M, rfl⟩ := Int.eq_ofNat_of_zero_le (show 0 ≤ m by omega)
    have := (mny_cnt hwk M).2.2.2.2 hf
    omega
  have hcl := ct_len (f := p) (t := p + m) (l := l)
  refine ⟨mgL (ins ⟨p, m, r⟩ (ct p (p + m) l)), ?_, mgL_nm hins, fun q => ?_⟩
  · unfold G_area_Turn
    rw [check_ok n l _ hc, if_pos (show rt ⟨p, m, r⟩ from ⟨r1, r2, r3, r4, r5, r6⟩), Option.bind_some, if_pos rfl]
    simp only
    rw [e1, many_any n p (p + m) l (by omega) (by omega) hwk hn, Option.bind_some, if_neg hm, cut_any n p (p + m) l (by omega) (by omega) hwk hn, Option.bind_some, lay_any n _ _ hn (by omega) hins, Option.bind_some]
  · rw [mgL_pg hins, ins_pg hcw hcf]
    simp only
    by_cases c : p ≤ q ∧ q < p + m
    · rw [if_pos c, if_pos c]
    · rw [if_neg c, if_neg c, ct_pg (by omega) hwk, if_neg c]
theorem turn_no (hx : rt x) (hf : ¬ ∀ q, x.fPage ≤ q → q < x.fPage + x.fN → 0 ≤ pg l q) : G_area_Turn n l x = some ([], 11) := by
  obtain ⟨p, m, r⟩ := x
  obtain ⟨r1, r2, r3, r4, r5, r6⟩ := hx
  simp only at r1 r2 r3 r4 r5 r6 hf
  have hwk := wk_of_nm hw
  have e1 : wi .i64 (p + m) = p + m := wi64 (by omega) (by omega)
  have hm : mny p (p + m) l < m := by
    obtain ⟨M, rfl⟩ := Int.eq_ofNat_of_zero_le (show 0 ≤ m by omega)
    have h := mny_cnt (f := p) hwk M
    have : mny p (p + M) l ≠ M := fun e => hf (h.2.2.2.1 e)
    omega
  unfold G_area_Turn
  rw [check_ok n l _ hc, if_pos (show rt ⟨p, m, r⟩ from ⟨r1, r2, r3, r4, r5, r6⟩), Option.bind_some, if_pos rfl]
  simp only
  rw [e1, many_any n p (p + m) l (by omega) (by omega) hwk hn, Option.bind_some, if_pos hm]
end
end Go.Proofs.Ytnmpnljjaoddhaa.areaT
