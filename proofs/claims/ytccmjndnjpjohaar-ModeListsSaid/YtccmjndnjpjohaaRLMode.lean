/- ModeLists returns true for every inode, list, credentials and number, and leaves its arguments alone. No condition. -/
import Derived.Test.YtccmjndnjpjohaaRGuModeLists
import Derived.Test.YtccmjndnjpjohaaRMath
import Derived.ChangeOld
namespace Go.Proofs.YtccmjndnjpjohaaR.modeLists
open Go.ChangeShapes Go.WideShapes Go.ChangeAt Go.RowKit help rep pv
set_option linter.all false

theorem index_loop (n : Nat) (l : List Int) (v : Int) (hl : l.length < 1000000) : ∀ (k i : Nat), l.length - i < k → i ≤ l.length →
    ∃ o, G_slices_Index_int_int_L1 n l v k (i : Int) = some o ∧ (match o with | .x0 j => 0 ≤ j ∧ v ∈ l.drop i | .x1 => ¬ v ∈ l.drop i)
  | 0, i, h, _ => by omega
  | k + 1, i, h, hi => by
    rw [G_slices_Index_int_int_L1]
    by_cases hlt : (i : Int) < (l.length : Int)
    · obtain ⟨x, hx⟩ := get_lt hlt
      rw [if_pos hlt, getI_nat, hx, Option.bind_some, drop_cons hx]
      by_cases e : v = x
      · rw [if_pos e]
        exact ⟨_, rfl, by omega, by simp [e]⟩
      · rw [if_neg e, wi_succ (by omega)]
        obtain ⟨o, h1, h2⟩ := index_loop n l v hl k (i + 1) (by omega) (by omega)
        refine ⟨o, h1, ?_⟩
        cases o with
        | x0 j => exact ⟨h2.1, by simp [h2.2]⟩
        | x1 => simpa [e] using h2
    · rw [if_neg hlt, drop_end hlt]
      exact ⟨_, rfl, by simp⟩
theorem contains_any (n : Nat) (l : List Int) (v : Int) (hl : l.length < 1000000) (hn : l.length < n) : G_slices_Contains_int_int n l v = some (l.contains v) := by
  unfold G_slices_Contains_int_int G_slices_Index_int_int
  obtain ⟨o, h1, h2⟩ := index_loop n l v hl n 0 (by omega) (by omega)
  have h1 : G_slices_Index_int_int_L1 n l v n 0 = some o := h1
  rw [h1, Option.bind_some]
  cases o with
  | x0 j =>
    simp only [List.drop_zero] at h2
    simp [h2.1, h2.2]
  | x1 =>
    simp only [List.drop_zero] at h2
    simp [h2]
/-- credentials that are right -/
def okc (c : S_api_Cred) : Prop := c.fMore.length ≤ 4 ∧ 0 ≤ c.fCaps ∧ c.fCaps ≤ 127
theorem check1 (n : Nat) (c : S_api_Cred) : G_cred_Check_L1 (n + 3) c (n + 3) 0 [c.fUser, c.fGroup] = some (.x0 1) ∨ G_cred_Check_L1 (n + 3) c (n + 3) 0 [c.fUser, c.fGroup] = some .x1 := by
  have w1 : wi .i64 ((0 : Int) + 1) = 1 := rfl
  have w2 : wi .i64 ((1 : Int) + 1) = 2 := rfl
  rw [G_cred_Check_L1]
  simp only [List.length_cons, List.length_nil, w1]
  by_cases h1 : c.fUser < 0
  · left; simp [h1]
  by_cases h2 : c.fUser > 99
  · left; simp [h1, h2]
  by_cases h3 : c.fGroup < 0
  · left; simp [h1, h2, G_cred_Check_L1, h3]
  by_cases h4 : c.fGroup > 99
  · left; simp [h1, h2, G_cred_Check_L1, h3, h4]
  have w3 : wi .i64 (2 : Int) = 2 := rfl
  right; simp [h1, h2, G_cred_Check_L1, h3, h4, w2, w3]
theorem check2 (n : Nat) (c : S_api_Cred) (hl : c.fMore.length < 1000000) : ∀ (k i : Nat), c.fMore.length - i < k → i ≤ c.fMore.length → ∃ o, G_cred_Check_L2 n c k (i : Int) = some o ∧ o ≠ .x0 0
  | 0, i, h, _ => by omega
  | k + 1, i, h, hi => by
    rw [G_cred_Check_L2]
    by_cases hlt : (i : Int) < (c.fMore.length : Int)
    · obtain ⟨x, hx⟩ := get_lt hlt
      rw [if_pos hlt, getI_nat, hx, Option.bind_some]
      by_cases h1 : x < 0
      · exact ⟨_, by rw [if_pos h1], by simp⟩
      rw [if_neg h1]
      by_cases h2 : x > 99
      · exact ⟨_, by rw [if_pos h2], by simp⟩
      rw [if_neg h2]
      by_cases h3 : (i : Int) > 0
      · rw [if_pos h3]
        have e : wi .i64 ((i : Int) - 1) = ((i - 1 : Nat) : Int) := by rw [wi64 (by omega) (by omega)]; omega
        obtain ⟨y, hy⟩ := get_lt (l := c.fMore) (i := i - 1) (by omega)
        rw [e, getI_nat, hy, Option.bind_some]
        by_cases h4 : x ≤ y
        · exact ⟨_, by rw [if_pos h4], by simp⟩
        · rw [if_neg h4, wi_succ (by omega)]
          exact check2 n c hl k (i + 1) (by omega) (by omega)
      · rw [if_neg h3, wi_succ (by omega)]
        exact check2 n c hl k (i + 1) (by omega) (by omega)
    · rw [if_neg hlt]; exact ⟨_, rfl, by simp⟩
theorem check3 (n : Nat) (c : S_api_Cred) : ∃ b, G_cred_Check_C3 n c = some (.x0 b) ∧ (b = false → 0 ≤ c.fCaps ∧ c.fCaps ≤ 127) := by
  unfold G_cred_Check_C3
  by_cases h1 : c.fCaps < 0
  · exact ⟨true, by simp [h1], by simp⟩
  by_cases h2 : c.fCaps > 127
  · exact ⟨true, by simp [h1, h2], by simp⟩
  by_cases h3 : c.fLevel < 0
  · exact ⟨true, by simp [h1, h2, h3], by simp⟩
  by_cases h4 : c.fLevel > 7
  · exact ⟨true, by simp [h1, h2, h3, h4], by simp⟩
  by_cases h5 : c.fKind < 0
  · exact ⟨true, by simp [h1, h2, h3, h4, h5], by simp⟩
  exact ⟨decide (c.fKind > 255), by simp only [h1, h2, h3, h4, h5, if_false], fun _ => by omega⟩
theorem check_any (c : S_api_Cred) : ∃ e, G_cred_Check 20 c = some e ∧ (e = 0 → okc c) := by
  unfold G_cred_Check
  rcases check1 17 c with h1 | h1
  · have h1 : G_cred_Check_L1 20 c 20 0 [c.fUser, c.fGroup] = some (.x0 1) := h1
    rw [h1, Option.bind_some]
    exact ⟨1, rfl, by simp⟩
  · have h1 : G_cred_Check_L1 20 c 20 0 [c.fUser, c.fGroup] = some .x1 := h1
    rw [h1, Option.bind_some]
    by_cases hm : (c.fMore.length : Int) > 4
    · exact ⟨2, by simp only [if_pos hm], by simp⟩
    · simp only [if_neg hm]
      obtain ⟨o2, h2, h3⟩ := check2 20 c (by omega) 20 0 (by omega) (by omega)
      have h2 : G_cred_Check_L2 20 c 20 0 = some o2 := h2
      rw [h2, Option.bind_some]
      cases o2 with
      | x0 z => exact ⟨z, rfl, fun e => absurd (by rw [e]) h3⟩
      | x1 =>
        obtain ⟨b, h3, h4⟩ := check3 20 c
        simp only [h3, Option.bind_some]
        cases b
        · exact ⟨0, by simp, fun _ => ⟨by omega, h4 rfl⟩⟩
        · exact ⟨1, by simp, by simp⟩
theorem in_any (c : S_api_Cred) (g : Int) (h : G_cred_Check 20 c = some 0) (hc : okc c) : G_cred_In 20 c g = some ((g == c.fGroup) || c.fMore.contains g, 0) := by
  unfold G_cred_In
  rw [h, Option.bind_some, if_pos rfl, contains_any 20 _ _ (by have := hc.1; omega) (by have := hc.1; omega)]
  by_cases e : g = c.fGroup
  · simp [e]
  · simp [e]
theorem stat_any (s : S_api_Stat) : ∃ e, G_mode_Check 20 s = some e := by
  unfold G_mode_Check G_mode_Check_C1
  by_cases h1 : s.fMode < 0
  · exact ⟨_, by simp [h1]; rfl⟩
  by_cases h2 : s.fMode > 511
  · exact ⟨_, by simp [h1, h2]; rfl⟩
  by_cases h3 : s.fUser < 0
  · exact ⟨_, by simp [h1, h2, h3]; rfl⟩
  by_cases h4 : s.fUser > 99
  · exact ⟨_, by simp [h1, h2, h3, h4]; rfl⟩
  by_cases h5 : s.fGroup < 0
  · exact ⟨_, by simp [h1, h2, h3, h4, h5]; rfl⟩
  by_cases h6 : s.fGroup > 99
  · exact ⟨1, by simp [h1, h2, h3, h4, h5, h6]⟩
  exact ⟨0, by simp [h1, h2, h3, h4, h5, h6]⟩
def ov (dir c1 c2 : Bool) : Int := (if c1 then 4 else 0) + (if c1 && dir then 1 else 0) + (if c2 then 2 else 0)
theorem caps_nat : ∀ C, C < 128 → ((bits .and .i64 ((C : Nat) : Int) 1 == 0) = !((C : Int) % 2 == 1)) ∧ ((bits .and .i64 ((C : Nat) : Int) 2 == 0) = !((C : Int) / 2 % 2 == 1)) := by decide +kernel
theorem over_any (s : S_api_Stat) (c : S_api_Cred) (hc : okc c) : G_mode_over 20 s c = some (ov (s.fKind == 2) (c.fCaps % 2 == 1) (c.fCaps / 2 % 2 == 1)) := by
  obtain ⟨_, h1, h2⟩ := hc
  unfold G_mode_over G_mode_over_C1
  obtain ⟨C, hC⟩ := Int.eq_ofNat_of_zero_le h1
  obtain ⟨e1, e2⟩ := caps_nat C (by omega)
  rw [← hC] at e1 e2
  have f1 : (bits .and .i64 c.fCaps 1 = 0) = ((c.fCaps % 2 == 1) = false) := by
    have : (bits .and .i64 c.fCaps 1 = 0) = ((bits .and .i64 c.fCaps 1 == 0) = true) := by simp
    rw [this, e1]; simp
  have f2 : (bits .and .i64 c.fCaps 2 = 0) = ((c.fCaps / 2 % 2 == 1) = false) := by
    have : (bits .and .i64 c.fCaps 2 = 0) = ((bits .and .i64 c.fCaps 2 == 0) = true) := by simp
    rw [this, e2]; simp
  have f3 : (s.fKind = 2) = ((s.fKind == 2) = true) := by simp
  simp only [f1, f2, f3]
  generalize (c.fCaps % 2 == 1) = b1
  generalize (c.fCaps / 2 % 2 == 1) = b2
  generalize (s.fKind == 2) = b3
  cases b1 <;> cases b2 <;> cases b3 <;> rfl
theorem may_any (s : S_api_Stat) (c : S_api_Cred) (q : Int) : ∃ r, G_mode_May 20 s c q = some r ∧ (r.2 = 0 → okc c ∧ G_cred_Check 20 c = some 0 ∧ 0 ≤ q ∧ q ≤ 7) := by
  unfold G_mode_May
  obtain ⟨e, h1, h2⟩ := check_any c
  rw [h1, Option.bind_some]
  by_cases he : e = 0
  · rw [if_pos he]
    subst he
    have hc := h2 rfl
    obtain ⟨f, h3⟩ := stat_any s
    rw [h3, Option.bind_some]
    by_cases hf : f = 0
    · rw [if_pos hf]
      by_cases q1 : q < 0
      · exact ⟨_, by rw [if_pos q1], by simp⟩
      · rw [if_neg q1]
        by_cases q2 : q > 7
        · exact ⟨_, by rw [if_pos q2], by simp⟩
        · rw [if_neg q2]
          have hb : ∃ b, G_mode_bits 20 s c = some b := by
            unfold G_mode_bits
            by_cases hu : c.fUser = s.fUser
            · exact ⟨_, by rw [if_pos hu]⟩
            · rw [if_neg hu, in_any c _ h1 hc, Option.bind_some]
              split
              · exact ⟨_, rfl⟩
              · exact ⟨_, rfl⟩
          obtain ⟨b, hb⟩ := hb
          simp only [G_mode_wanted, hb, over_any s c hc, Option.bind_some]
          exact ⟨_, rfl, fun _ => ⟨hc, trivial, by omega, by omega⟩⟩
    · rw [if_neg hf]
      exact ⟨_, rfl, fun e => absurd e hf⟩
  · rw [if_neg he]
    exact ⟨_, rfl, fun e => absurd e he⟩
def bad (x : S_mode_Entry) : Bool := decide (x.fMay < 0) || decide (x.fMay > 7)
def mt (c : S_api_Cred) (x : S_mode_Entry) : Bool := if x.fGroup then (x.fId == c.fGroup) || c.fMore.contains x.fId else x.fId == c.fUser
def rgt (b : Int) : Int := bits .or .i64 (bits .or .i64 (bits .and .i64 (shrI .i64 b 2) 1) (bits .and .i64 b 2)) (shlI .i64 (bits .and .i64 b 1) 2)
def fr (d c1 c2 : Bool) (q y : Int) : Bool := (bits .andNot .i64 (bits .andNot .i64 q y) (rgt (ov d c1 c2))) == 0
def fx (s : S_api_Stat) (c : S_api_Cred) (q : Int) (x : S_mode_Entry) : Bool := fr (s.fKind == 2) (c.fCaps % 2 == 1) (c.fCaps / 2 % 2 == 1) q x.fMay
theorem listed1 (n : Nat) (l : List S_mode_Entry) (hl : l.length < 1000000) (q : Int) (r : Bool × Int) (s : S_api_Stat) (c : S_api_Cred) : ∀ (k i : Nat), l.length - i < k → i ≤ l.length →
    G_mode_Listed_L1 n l q r s c k (i : Int) = some (if (l.drop i).any bad then .x0 false 1 else .x1)
  | 0, i, h, _ => by omega
  | k + 1, i, h, hi => by
    rw [G_mode_Listed_L1]
    by_cases hlt : (i : Int) < (l.length : Int)
    · obtain ⟨x, hx⟩ := get_lt hlt
      rw [if_pos hlt, getI_nat, hx, Option.bind_some, drop_cons hx]
      by_cases h1 : x.fMay < 0
      · simp [h1, bad]
      by_cases h2 : x.fMay > 7
      · simp [h1, h2, bad]
      rw [if_neg h1, if_neg h2, wi_succ (by omega), listed1 n l hl q r s c k (i + 1) (by omega) (by omega)]
      simp [bad, h1, h2]
    · rw [if_neg hlt, drop_end hlt]; rfl
theorem law1 (n : Nat) (l : List S_mode_Entry) (hl : l.length < 1000000) (q : Int) (r r' : Bool × Int) (s : S_api_Stat) (c : S_api_Cred) : ∀ (k i : Nat), l.length - i < k → i ≤ l.length →
    G_ringlaw5_ModeLists_L1 n l q r r' s c k (i : Int) = some (if (l.drop i).any bad then .x0 (if r.2 = 1 then !r.1 else false) else .x1)
  | 0, i, h, _ => by omega
  | k + 1, i, h, hi => by
    rw [G_ringlaw5_ModeLists_L1]
    by_cases hlt : (i : Int) < (l.length : Int)
    · obtain ⟨x, hx⟩ := get_lt hlt
      rw [if_pos hlt, getI_nat, hx, Option.bind_some, drop_cons hx]
      by_cases h1 : x.fMay < 0
      · by_cases h3 : r.2 = 1 <;> simp [h1, bad, h3]
      by_cases h2 : x.fMay > 7
      · by_cases h3 : r.2 = 1 <;> simp [h1, h2, bad, h3]
      rw [if_neg h1, if_neg h2, wi_succ (by omega), law1 n l hl q r r' s c k (i + 1) (by omega) (by omega)]
      simp [bad, h1, h2]
    · rw [if_neg hlt, drop_end hlt]; rfl
theorem listed2 (l : List S_mode_Entry) (hl : l.length < 1000000) (q : Int) (r : Bool × Int) (s : S_api_Stat) (c : S_api_Cred) (hc : okc c) (h0 : G_cred_Check 20 c = some 0) : ∀ (k i : Nat), l.length - i < k → i ≤ l.length →
    G_mode_Listed_L2 20 q r l s c k (i : Int) = some (match (l.drop i).find? (mt c) with | some x => .x0 (fx s c q x) 0 | none => .x1)
  | 0, i, h, _ => by omega
  | k + 1, i, h, hi => by
    rw [G_mode_Listed_L2]
    by_cases hlt : (i : Int) < (l.length : Int)
    · obtain ⟨x, hx⟩ := get_lt hlt
      rw [if_pos hlt, getI_nat, hx, Option.bind_some, drop_cons hx, List.find?_cons]
      have ih := listed2 l hl q r s c hc h0 k (i + 1) (by omega) (by omega)
      cases hg : x.fGroup
      · rw [if_neg (by simp)]
        by_cases hu : x.fId = c.fUser
        · have hm : mt c x = true := by simp [mt, hg, hu]
          rw [if_pos hu, hm, over_any s c hc, Option.bind_some, G_mode_rights, Option.bind_some]; rfl
        · have hm : mt c x = false := by simp [mt, hg, hu]
          rw [if_neg hu, hm, wi_succ (by omega), ih]
      · rw [if_pos rfl, in_any c _ h0 hc, Option.bind_some]
        cases hb : (x.fId == c.fGroup || c.fMore.contains x.fId)
        · have hm : mt c x = false := by unfold mt; rw [if_pos hg]; exact hb
          rw [if_neg (by simp), hm, wi_succ (by omega), ih]
        · have hm : mt c x = true := by unfold mt; rw [if_pos hg]; exact hb
          rw [if_pos rfl, hm, over_any s c hc, Option.bind_some, G_mode_rights, Option.bind_some]; rfl
    · rw [if_neg hlt, drop_end hlt]; rfl
/-- the mode that lets just that -/
def md (y : Int) : Int := wi .i64 ((wi .i64 ((wi .i64 ((wi .i64 ((remI y 2) * 4)) + (wi .i64 ((remI (quoI .i64 y 2) 2) * 2)))) + (quoI .i64 y 4))) * 73)
def al3 (y : Int) : Int := y % 2 * 4 + y / 2 % 2 * 2 + y / 4
theorem md_nat : ∀ Y, Y < 8 → remI (quoI .i64 (md ((Y : Nat) : Int)) 8) 8 = al3 Y ∧ remI (md ((Y : Nat) : Int)) 8 = al3 Y ∧ quoI .i64 (md ((Y : Nat) : Int)) 64 = al3 Y := by decide +kernel
/-- what the reference says, of the bits -/
def rf (d c1 c2 : Bool) (q a : Int) : Bool :=
  if (remI q 2) = 1 ∧ a < 4 ∧ c1 = false then false
  else if (remI (quoI .i64 q 2) 2) = 1 ∧ (remI (quoI .i64 a 2) 2) = 0 ∧ c2 = false then false
  else if q < 4 then true else if (remI a 2) = 1 then true else d && c1
theorem same_nat : ∀ Q, Q < 8 → ∀ Y, Y < 8 → ∀ d c1 c2 : Bool, fr d c1 c2 ((Q : Nat) : Int) ((Y : Nat) : Int) = rf d c1 c2 Q (al3 Y) := by decide +kernel
theorem caps2_nat : ∀ C, C < 128 → remI ((C : Nat) : Int) 2 = (C : Int) % 2 ∧ remI (quoI .i64 ((C : Nat) : Int) 2) 2 = (C : Int) / 2 % 2 := by decide +kernel
theorem mayof (s : S_api_Stat) (c : S_api_Cred) (hc : okc c) (q y : Int) (q0 : 0 ≤ q) (q1 : q ≤ 7) (y0 : 0 ≤ y) (y1 : y ≤ 7) :
    G_ringref5_MayOf 20 (S_api_Stat.mk s.fKind (md y) 0 0 0 0) c q = some (fr (s.fKind == 2) (c.fCaps % 2 == 1) (c.fCaps / 2 % 2 == 1) q y) := by
  obtain ⟨m0, m1, m2⟩ := hc
  unfold G_ringref5_MayOf G_ringref5_Groups
  have ha : app 8 [c.fGroup] c.fMore = some ([c.fGroup] ++ c.fMore) := app_some (by simp; omega) (by omega)
  rw [ha]
  simp only [Option.bind_some]
  rw [contains_any 20 _ _ (by simp; omega) (by simp; omega), Option.bind_some]
  obtain ⟨Y, rfl⟩ := Int.eq_ofNat_of_zero_le y0
  obtain ⟨Q, rfl⟩ := Int.eq_ofNat_of_zero_le q0
  obtain ⟨e1, e2, e3⟩ := md_nat Y (by omega)
  rw [same_nat Q (by omega) Y (by omega)]
  obtain ⟨C, hC⟩ := Int.eq_ofNat_of_zero_le m1
  obtain ⟨k1, k2⟩ := caps2_nat C (by omega)
  rw [← hC] at k1 k2
  have z : ∀ t : Bool, (G_ringref5_MayOf_C1 20 (Q : Int) (S_api_Stat.mk s.fKind (md Y) 0 0 0 0) t c) = some (.x0 (al3 Y)) := by
    intro t; cases t <;> simp [G_ringref5_MayOf_C1, e1, e2]
  rw [z, Option.bind_some]
  have z2 : G_ringref5_MayOf_C2 20 (Q : Int) (al3 Y) c (S_api_Stat.mk s.fKind (md Y) 0 0 0 0) = some (.x0 (al3 Y)) := by
    unfold G_ringref5_MayOf_C2
    simp only [e3]
    split <;> rfl
  simp only [z2, Option.bind_some]
  unfold G_ringref5_MayOf_C3 G_ringref5_MayOf_C4 G_ringref5_MayOf_C5 rf
  simp only [k1, k2]
  have g1 : (c.fCaps % 2 == 0) = !(c.fCaps % 2 == 1) := by
    have : c.fCaps % 2 = 0 ∨ c.fCaps % 2 = 1 := by omega
    rcases this with h | h <;> simp [h]
  have g2 : (c.fCaps / 2 % 2 == 0) = !(c.fCaps / 2 % 2 == 1) := by
    have : c.fCaps / 2 % 2 = 0 ∨ c.fCaps / 2 % 2 = 1 := by omega
    rcases this with h | h <;> simp [h]
  rw [g1, g2]
  have g3 : (s.fKind = 2) = ((s.fKind == 2) = true) := by simp
  simp only [g3]
  generalize (c.fCaps % 2 == 1) = b1
  generalize (c.fCaps / 2 % 2 == 1) = b2
  generalize (s.fKind == 2) = b3
  generalize al3 Y = a
  by_cases p1 : remI (Q : Int) 2 = 1 <;> by_cases p2 : a < 4 <;> by_cases p3 : remI (quoI .i64 (Q : Int) 2) 2 = 1 <;> by_cases p4 : remI (quoI .i64 a 2) 2 = 0 <;> by_cases p5 : (Q : Int) < 4 <;> by_cases p6 : remI a 2 = 1 <;> cases b1 <;> cases b2 <;> cases b3 <;> simp [p1, p2, p3, p4, p5, p6]
theorem law3 (l : List S_mode_Entry) (hl : l.length < 1000000) (q : Int) (q0 : 0 ≤ q) (q1 : q ≤ 7) (r : Bool × Int) (s : S_api_Stat) (c : S_api_Cred) (hc : okc c) : ∀ (k i : Nat) (is : Bool), l.length - i < k → i ≤ l.length → (l.drop i).any bad = false →
    G_ringlaw5_ModeLists_L3 20 q r l s c k is (i : Int) = some (.x0 (match (l.drop i).find? (mt c) with | some x => fx s c q x | none => is))
  | 0, i, is, h, _, _ => by omega
  | k + 1, i, is, h, hi, hb => by
    rw [G_ringlaw5_ModeLists_L3]
    by_cases hlt : (i : Int) < (l.length : Int)
    · obtain ⟨x, hx⟩ := get_lt hlt
      rw [drop_cons hx] at hb
      simp only [List.any_cons, Bool.or_eq_false_iff] at hb
      have hxb := hb.1
      simp [bad] at hxb
      rw [if_pos hlt, getI_nat, hx, Option.bind_some, drop_cons hx, List.find?_cons]
      have hm : G_ringlaw5_ModeLists_C2 20 q r is l (i : Int) s c x = some (.x0 (mt c x)) := by
        unfold G_ringlaw5_ModeLists_C2 mt G_ringref5_Groups
        have ha : app 8 [c.fGroup] c.fMore = some ([c.fGroup] ++ c.fMore) := app_some (by have := hc.1; simp; omega) (by omega)
        rw [ha]
        simp only [Option.bind_some]
        rw [contains_any 20 _ _ (by have := hc.1; simp; omega) (by have := hc.1; simp; omega), Option.bind_some]
        cases x.fGroup
        · by_cases hu : x.fId = c.fUser <;> simp [hu]
        · by_cases hg : x.fId = c.fGroup <;> simp [hg]
      rw [hm, Option.bind_some]
      cases hmm : mt c x
      · simp only
        rw [if_neg (by simp), wi_succ (by omega), law3 l hl q q0 q1 r s c hc k (i + 1) is (by omega) (by omega) hb.2]
      · simp only
        have := mayof s c hc q x.fMay q0 q1 (by omega) (by omega)
        unfold md at this
        rw [if_pos trivial, this]; rfl
    · rw [if_neg hlt, drop_end hlt]; rfl
theorem mays_any : G_ringlaw5_mays 20 = some true := by decide +kernel
theorem law (s : S_api_Stat) (l : List S_mode_Entry) (c : S_api_Cred) (q : Int) : G_ringlaw5_ModeLists 20 s l c q = some true := by
  unfold G_ringlaw5_ModeLists G_mode_Listed
  rw [mays_any, Option.bind_some, if_pos rfl]
  obtain ⟨r, h1, h2⟩ := may_any s c q
  rw [h1]
  simp only [Option.bind_some]
  by_cases hr : r.2 = 0
  · obtain ⟨hc, h0, q0, q1⟩ := h2 hr
    simp only [if_pos hr]
    by_cases hl : (l.length : Int) > 6
    · simp [hl]
    · simp only [if_neg hl]
      have a1 := listed1 20 l (by omega) q r s c 20 0 (by omega) (by omega)
      have a2 := listed2 l (by omega) q r s c hc h0 20 0 (by omega) (by omega)
      simp only [List.drop_zero] at a1 a2
      have a1 : G_mode_Listed_L1 20 l q r s c 20 0 = _ := a1
      have a2 : G_mode_Listed_L2 20 q r l s c 20 0 = _ := a2
      rw [a1, a2]
      cases hb : l.any bad
      · simp only [if_false, Option.bind_some, Bool.false_eq_true]
        cases hf : l.find? (mt c) with
        | none =>
          have b1 := law1 20 l (by omega) q (r.1, 0) r s c 20 0 (by omega) (by omega)
          have b3 := law3 l (by omega) q q0 q1 (r.1, 0) s c hc 20 0 r.1 (by omega) (by omega) (by simpa using hb)
          simp only [List.drop_zero, hb, hf] at b1 b3
          have b1 : G_ringlaw5_ModeLists_L1 20 l q (r.1, 0) r s c 20 0 = _ := b1
          have b3 : G_ringlaw5_ModeLists_L3 20 q (r.1, 0) l s c 20 r.1 0 = _ := b3
          simp [b1, b3, eqRes]
        | some x =>
          have b1 := law1 20 l (by omega) q (fx s c q x, 0) r s c 20 0 (by omega) (by omega)
          have b3 := law3 l (by omega) q q0 q1 (fx s c q x, 0) s c hc 20 0 r.1 (by omega) (by omega) (by simpa using hb)
          simp only [List.drop_zero, hb, hf] at b1 b3
          have b1 : G_ringlaw5_ModeLists_L1 20 l q (fx s c q x, 0) r s c 20 0 = _ := b1
          have b3 : G_ringlaw5_ModeLists_L3 20 q (fx s c q x, 0) l s c 20 r.1 0 = _ := b3
          simp [b1, b3, eqRes]
      · have b1 := law1 20 l (by omega) q (false, 1) r s c 20 0 (by omega) (by omega)
        simp only [List.drop_zero, hb] at b1
        have b1 : G_ringlaw5_ModeLists_L1 20 l q (false, 1) r s c 20 0 = _ := b1
        simp [b1]
  · simp [hr]
end Go.Proofs.YtccmjndnjpjohaaR.modeLists
