/- ModeSays returns true for every inode, credentials and numbers, and leaves its arguments alone. No condition. -/
import Derived.Test.YtnmpnljjaoddhaaGuModeSays
import Derived.Test.YtnmpnljjaoddhaaLib
import Derived.ChangeOld
namespace Go.Proofs.Ytnmpnljjaoddhaa.modeSays
open Go.ChangeShapes Go.WideShapes Go.ChangeAt Go.RowKit help rep pv
set_option linter.all false

theorem index_loop (n : Nat) (l : List Int) (v : Int) (hl : l.length < 1000000) : ∀ (k i : Nat), l.length - i < k → i ≤ l.length →
    ∃ o, G_slices_Index_int_int_L1 n l v k (i : Int) = some o ∧ (match o with | .x0 j => 0 ≤ j ∧ v ∈ l.drop i | .x1 => ¬ v ∈ l.drop i)
  | 0, i, h, _ => by omega
  | k + 1, i, h, hi => by
    rw [G_slices_Index_int_int_L1]
    by_cases hlt : (i : Int) < (l.length : Int)
    · obtain ⟨x, hx⟩ := get_lt hlt
      rw [if_pos hlt, getI_nat, hx, Option.bind_some, drop_cons hx]
      by_cases e : v = x
      · rw [if_pos e]
        exact ⟨_, rfl, by omega, by simp [e]⟩
      · rw [if_neg e, wi_succ (by omega)]
        obtain ⟨o, h1, h2⟩ := index_loop n l v hl k (i + 1) (by omega) (by omega)
        refine ⟨o, h1, ?_⟩
        cases o with
        | x0 j => exact ⟨h2.1, by simp [h2.2]⟩
        | x1 => simpa [e] using h2
    · rw [if_neg hlt, drop_end hlt]
      exact ⟨_, rfl, by simp⟩
theorem contains_any (n : Nat) (l : List Int) (v : Int) (hl : l.length < 1000000) (hn : l.length < n) : G_slices_Contains_int_int n l v = some (l.contains v) := by
  unfold G_slices_Contains_int_int G_slices_Index_int_int
  obtain ⟨o, h1, h2⟩ := index_loop n l v hl n 0 (by omega) (by omega)
  have h1 : G_slices_Index_int_int_L1 n l v n 0 = some o := h1
  rw [h1, Option.bind_some]
  cases o with
  | x0 j =>
    simp only [List.drop_zero] at h2
    simp [h2.1, h2.2]
  | x1 =>
    simp only [List.drop_zero] at h2
    simp [h2]
/-- credentials that are right -/
def okc (c : S_api_Cred) : Prop := c.fMore.length ≤ 4 ∧ 0 ≤ c.fCaps ∧ c.fCaps ≤ 127
theorem l1_eq (n : Nat) (c : S_api_Cred) : G_cred_Check_L1 (n + 3) c (n + 3) 0 = if c.fUser < 0 then some (.x0 1) else if c.fUser > 99 then some (.x0 1) else if c.fGroup < 0 then some (.x0 1) else if c.fGroup > 99 then some (.x0 1) else some .x1 := by
  have g0 : getI [c.fUser, c.fGroup] 0 = some c.fUser := rfl
  have g1 : getI [c.fUser, c.fGroup] 1 = some c.fGroup := rfl
  have w1 : wi .i64 ((0 : Int) + 1) = 1 := rfl
  have w2 : wi .i64 ((1 : Int) + 1) = 2 := rfl
  have t3 : G_cred_Check_L1 (n + 3) c (n + 1) 2 = some .x1 := by rw [G_cred_Check_L1, if_neg (by simp)]
  have t2 : G_cred_Check_L1 (n + 3) c (n + 2) 1 = if c.fGroup < 0 then some (.x0 1) else if c.fGroup > 99 then some (.x0 1) else some .x1 := by rw [G_cred_Check_L1, if_pos (by simp), g1, Option.bind_some, w2, t3]
  rw [G_cred_Check_L1, if_pos (by simp), g0, Option.bind_some, w1, t2]
theorem ids_any (n : Nat) (c : S_api_Cred) : ∃ b : Bool, G_ringref5_CredErr_C1 (n + 3) c = some (.x0 b) ∧ G_cred_Check_L1 (n + 3) c (n + 3) 0 = some (if b then .x0 1 else .x1) := by
  rw [l1_eq]
  by_cases h : 0 ≤ c.fUser ∧ c.fUser ≤ 99 ∧ 0 ≤ c.fGroup ∧ c.fGroup ≤ 99
  · refine ⟨false, ?_, ?_⟩
    · unfold G_ringref5_CredErr_C1 minI maxI
      rw [if_neg (by split <;> omega)]
      have : ¬ ((if c.fGroup > c.fUser then c.fGroup else c.fUser) > 99) := by split <;> omega
      simp only [decide_eq_false this]
    · rw [if_neg (by omega), if_neg (by omega), if_neg (by omega), if_neg (by omega)]; rfl
  · refine ⟨true, ?_, ?_⟩
    · unfold G_ringref5_CredErr_C1 minI maxI
      by_cases h' : (if c.fGroup < c.fUser then c.fGroup else c.fUser) < 0
      · rw [if_pos h']
      · rw [if_neg h']
        have : ((if c.fGroup > c.fUser then c.fGroup else c.fUser) > 99) := by split at h' <;> split <;> omega
        simp only [decide_eq_true this]
    · by_cases a1 : c.fUser < 0
      · rw [if_pos a1]; rfl
      by_cases a2 : c.fUser > 99
      · rw [if_neg a1, if_pos a2]; rfl
      by_cases a3 : c.fGroup < 0
      · rw [if_neg a1, if_neg a2, if_pos a3]; rfl
      by_cases a4 : c.fGroup > 99
      · rw [if_neg a1, if_neg a2, if_neg a3, if_pos a4]; rfl
      omega
theorem more_any (n : Nat) (c : S_api_Cred) (hl : c.fMore.length < 1000000) : ∀ (k i : Nat) (last : Int), c.fMore.length - i < k → i ≤ c.fMore.length → (i = 0 → last = -1) → (∀ j, i = j + 1 → c.fMore[j]? = some last) →
    (∃ e : Int, e ≠ 0 ∧ G_cred_Check_L2 n c k (i : Int) = some (.x0 e) ∧ G_ringref5_CredErr_L2 n c k last (i : Int) = some (.x0 e)) ∨ (G_cred_Check_L2 n c k (i : Int) = some .x1 ∧ G_ringref5_CredErr_L2 n c k last (i : Int) = some .x1)
  | 0, i, last, h, _, _, _ => by omega
  | k + 1, i, last, h, hi, h0, hj => by
    rw [G_cred_Check_L2, G_ringref5_CredErr_L2]
    by_cases hlt : (i : Int) < (c.fMore.length : Int)
    · obtain ⟨x, hx⟩ := get_lt hlt
      rw [if_pos hlt, if_pos hlt, getI_nat, hx, Option.bind_some, Option.bind_some]
      by_cases h1 : x < 0
      · exact .inl ⟨1, by decide, by rw [if_pos h1], by rw [if_pos h1]⟩
      by_cases h2 : x > 99
      · exact .inl ⟨1, by decide, by rw [if_neg h1, if_pos h2], by rw [if_neg h1, if_pos h2]⟩
      rw [if_neg h1, if_neg h1, if_neg h2, if_neg h2, wi_succ (by omega)]
      have ih := more_any n c hl k (i + 1) x (by omega) (by omega) (by omega) (fun j e => by
        have : j = i := by omega
        subst this; exact hx)
      cases i with
      | zero =>
        rw [h0 rfl, if_neg (by omega), if_neg (by omega)]
        exact ih
      | succ j =>
        have hy := hj j rfl
        rw [if_pos (by omega)]
        have e : wi .i64 (((j + 1 : Nat) : Int) - 1) = (j : Int) := by rw [wi64 (by omega) (by omega)]; omega
        rw [e, getI_nat, hy, Option.bind_some]
        by_cases h4 : x ≤ last
        · exact .inl ⟨3, by decide, by rw [if_pos h4], by rw [if_pos h4]⟩
        · rw [if_neg h4, if_neg h4]; exact ih
    · rw [if_neg hlt, if_neg hlt]; exact .inr ⟨rfl, rfl⟩
theorem caps_any (n : Nat) (c : S_api_Cred) : ∃ b, G_cred_Check_C3 n c = some (.x0 b) ∧ G_ringref5_CredErr_C3 n c = some (.x0 b) ∧ (b = false → 0 ≤ c.fCaps ∧ c.fCaps ≤ 127) := by
  by_cases h : 0 ≤ c.fCaps ∧ c.fCaps ≤ 127 ∧ 0 ≤ c.fLevel ∧ c.fLevel ≤ 7 ∧ 0 ≤ c.fKind ∧ c.fKind ≤ 255
  · refine ⟨false, ?_, ?_, fun _ => ⟨h.1, h.2.1⟩⟩
    · unfold G_cred_Check_C3
      rw [if_neg (by omega), if_neg (by omega), if_neg (by omega), if_neg (by omega), if_neg (by omega), decide_eq_false (by omega)]
    · unfold G_ringref5_CredErr_C3 minI
      rw [if_neg (by split <;> split at * <;> omega), if_neg (by omega), if_neg (by omega), decide_eq_false (by omega)]
  · refine ⟨true, ?_, ?_, by simp⟩
    · unfold G_cred_Check_C3
      by_cases h1 : c.fCaps < 0
      · rw [if_pos h1]
      by_cases h2 : c.fCaps > 127
      · rw [if_neg h1, if_pos h2]
      by_cases h3 : c.fLevel < 0
      · rw [if_neg h1, if_neg h2, if_pos h3]
      by_cases h4 : c.fLevel > 7
      · rw [if_neg h1, if_neg h2, if_neg h3, if_pos h4]
      by_cases h5 : c.fKind < 0
      · rw [if_neg h1, if_neg h2, if_neg h3, if_neg h4, if_pos h5]
      rw [if_neg h1, if_neg h2, if_neg h3, if_neg h4, if_neg h5, decide_eq_true (by omega)]
    · unfold G_ringref5_CredErr_C3
      by_cases h1 : minI (minI c.fCaps c.fLevel) c.fKind < 0
      · rw [if_pos h1]
      have h1' : 0 ≤ c.fCaps ∧ 0 ≤ c.fLevel ∧ 0 ≤ c.fKind := by
        unfold minI at h1
        split at h1 <;> split at h1 <;> omega
      by_cases h2 : c.fCaps > 127
      · rw [if_neg h1, if_pos h2]
      by_cases h4 : c.fLevel > 7
      · rw [if_neg h1, if_neg h2, if_pos h4]
      rw [if_neg h1, if_neg h2, if_neg h4, decide_eq_true (by omega)]
theorem check_any (c : S_api_Cred) : ∃ e, G_cred_Check 20 c = some e ∧ G_ringref5_CredErr 20 c = some e ∧ (e = 0 → okc c) := by
  unfold G_cred_Check G_ringref5_CredErr
  obtain ⟨b, h1, h2⟩ := ids_any 17 c
  have h1 : G_ringref5_CredErr_C1 20 c = some (.x0 b) := h1
  have h2 : G_cred_Check_L1 20 c 20 0 = some (if b then .x0 1 else .x1) := h2
  rw [h1, h2, Option.bind_some, Option.bind_some]
  cases b with
  | true => exact ⟨1, rfl, rfl, by simp⟩
  | false =>
    simp only [Bool.false_eq_true, if_false]
    by_cases hm : (c.fMore.length : Int) > 4
    · exact ⟨2, by simp only [if_pos hm], by simp only [if_pos hm], by simp⟩
    · simp only [if_neg hm]
      rcases more_any 20 c (by omega) 20 0 (-1) (by omega) (by omega) (fun _ => rfl) (fun j h => by omega) with ⟨e, h3, h4, h5⟩ | ⟨h4, h5⟩
      · have h4 : G_cred_Check_L2 20 c 20 0 = _ := h4
        have h5 : G_ringref5_CredErr_L2 20 c 20 (-1) 0 = _ := h5
        rw [h4, h5]
        exact ⟨e, rfl, rfl, fun h => absurd h h3⟩
      · have h4 : G_cred_Check_L2 20 c 20 0 = _ := h4
        have h5 : G_ringref5_CredErr_L2 20 c 20 (-1) 0 = _ := h5
        obtain ⟨b, h6, h7, h8⟩ := caps_any 20 c
        rw [h4, h5]
        simp only [Option.bind_some, h6, h7]
        cases b
        · exact ⟨0, by simp, by simp, fun _ => ⟨by omega, h8 rfl⟩⟩
        · exact ⟨1, by simp, by simp, by simp⟩
theorem in_any (c : S_api_Cred) (g : Int) (h : G_cred_Check 20 c = some 0) (hc : okc c) : G_cred_In 20 c g = some ((g == c.fGroup) || c.fMore.contains g, 0) := by
  unfold G_cred_In
  rw [h, Option.bind_some, if_pos rfl, contains_any 20 _ _ (by have := hc.1; omega) (by have := hc.1; omega)]
  by_cases e : g = c.fGroup
  · simp [e]
  · simp [e]
theorem stat_any (s : S_api_Stat) : ∃ e, G_mode_Check 20 s = some e ∧ G_ringref5_StatErr 20 s = some e ∧ (e = 0 → 0 ≤ s.fMode ∧ s.fMode ≤ 511) := by
  unfold G_mode_Check G_ringref5_StatErr G_mode_Check_C1 G_ringref5_StatErr_C1
  by_cases h : 0 ≤ s.fMode ∧ s.fMode ≤ 511 ∧ 0 ≤ s.fUser ∧ s.fUser ≤ 99 ∧ 0 ≤ s.fGroup ∧ s.fGroup ≤ 99
  · refine ⟨0, ?_, ?_, fun _ => ⟨h.1, h.2.1⟩⟩
    · rw [if_neg (by omega), if_neg (by omega), if_neg (by omega), if_neg (by omega), if_neg (by omega), decide_eq_false (by omega)]; rfl
    · unfold minI maxI
      rw [if_neg (by omega), if_neg (by omega), if_neg (by split <;> omega), decide_eq_false (by split <;> omega)]; rfl
  · refine ⟨1, ?_, ?_, by simp⟩
    · by_cases h1 : s.fMode < 0
      · rw [if_pos h1]; rfl
      by_cases h2 : s.fMode > 511
      · rw [if_neg h1, if_pos h2]; rfl
      by_cases h3 : s.fUser < 0
      · rw [if_neg h1, if_neg h2, if_pos h3]; rfl
      by_cases h4 : s.fUser > 99
      · rw [if_neg h1, if_neg h2, if_neg h3, if_pos h4]; rfl
      by_cases h5 : s.fGroup < 0
      · rw [if_neg h1, if_neg h2, if_neg h3, if_neg h4, if_pos h5]; rfl
      rw [if_neg h1, if_neg h2, if_neg h3, if_neg h4, if_neg h5, decide_eq_true (by omega)]; rfl
    · by_cases h1 : s.fMode < 0
      · rw [if_pos h1]; rfl
      by_cases h2 : s.fMode > 511
      · rw [if_neg h1, if_pos h2]; rfl
      rw [if_neg h1, if_neg h2]
      by_cases h3 : minI s.fUser s.fGroup < 0
      · rw [if_pos h3]; rfl
      · rw [if_neg h3]
        unfold minI at h3
        unfold maxI
        rw [decide_eq_true (by split at h3 <;> split <;> omega)]; rfl
def ov (dir c1 c2 : Bool) : Int := (if c1 then 4 else 0) + (if c1 && dir then 1 else 0) + (if c2 then 2 else 0)
theorem caps_nat : ∀ C, C < 128 → ((bits .and .i64 ((C : Nat) : Int) 1 == 0) = !((C : Int) % 2 == 1)) ∧ ((bits .and .i64 ((C : Nat) : Int) 2 == 0) = !((C : Int) / 2 % 2 == 1)) := by decide +kernel
theorem over_any (s : S_api_Stat) (c : S_api_Cred) (hc : okc c) : G_mode_over 20 s c = some (ov (s.fKind == 2) (c.fCaps % 2 == 1) (c.fCaps / 2 % 2 == 1)) := by
  obtain ⟨_, h1, h2⟩ := hc
  unfold G_mode_over G_mode_over_C1
  obtain ⟨C, hC⟩ := Int.eq_ofNat_of_zero_le h1
  obtain ⟨e1, e2⟩ := caps_nat C (by omega)
  rw [← hC] at e1 e2
  have f1 : (bits .and .i64 c.fCaps 1 = 0) = ((c.fCaps % 2 == 1) = false) := by
    have : (bits .and .i64 c.fCaps 1 = 0) = ((bits .and .i64 c.fCaps 1 == 0) = true) := by simp
    rw [this, e1]; simp
  have f2 : (bits .and .i64 c.fCaps 2 = 0) = ((c.fCaps / 2 % 2 == 1) = false) := by
    have : (bits .and .i64 c.fCaps 2 = 0) = ((bits .and .i64 c.fCaps 2 == 0) = true) := by simp
    rw [this, e2]; simp
  have f3 : (s.fKind = 2) = ((s.fKind == 2) = true) := by simp
  simp only [f1, f2, f3]
  generalize (c.fCaps % 2 == 1) = b1
  generalize (c.fCaps / 2 % 2 == 1) = b2
  generalize (s.fKind == 2) = b3
  cases b1 <;> cases b2 <;> cases b3 <;> rfl
/-- what the reference says, of the bits -/
def rf (d c1 c2 : Bool) (q a : Int) : Bool :=
  if (remI q 2) = 1 ∧ a < 4 ∧ c1 = false then false
  else if (remI (quoI .i64 q 2) 2) = 1 ∧ (remI (quoI .i64 a 2) 2) = 0 ∧ c2 = false then false
  else if q < 4 then true else if (remI a 2) = 1 then true else d && c1
theorem caps2_nat : ∀ C, C < 128 → remI ((C : Nat) : Int) 2 = (C : Int) % 2 ∧ remI (quoI .i64 ((C : Nat) : Int) 2) 2 = (C : Int) / 2 % 2 := by decide +kernel
/-- the three bits that stand for who asks -/
def oct (s : S_api_Stat) (c : S_api_Cred) : Int := if c.fUser = s.fUser then s.fMode / 64 else if ((s.fGroup == c.fGroup) || c.fMore.contains s.fGroup) = true then s.fMode / 8 % 8 else s.fMode % 8
theorem mode_nat : ∀ M, M < 512 → shrI .i64 ((M : Nat) : Int) 6 = (M : Int) / 64 ∧ bits .and .i64 (shrI .i64 ((M : Nat) : Int) 3) 7 = (M : Int) / 8 % 8 ∧ bits .and .i64 ((M : Nat) : Int) 7 = (M : Int) % 8 ∧ quoI .i64 ((M : Nat) : Int) 64 = (M : Int) / 64 ∧ remI (quoI .i64 ((M : Nat) : Int) 8) 8 = (M : Int) / 8 % 8 ∧ remI ((M : Nat) : Int) 8 = (M : Int) % 8 := by decide +kernel
def wq (q : Int) : Int := bits .or .i64 (bits .or .i64 (shlI .i64 (bits .and .i64 q 1) 2) (bits .and .i64 q 2)) (shrI .i64 (bits .and .i64 q 4) 2)
theorem same_nat : ∀ Q, Q < 8 → ∀ A, A < 8 → ∀ d c1 c2 : Bool, ((bits .andNot .i64 (wq ((Q : Nat) : Int)) (bits .or .i64 ((A : Nat) : Int) (ov d c1 c2))) == 0) = rf d c1 c2 Q A := by decide +kernel
section
variable (s : S_api_Stat) (c : S_api_Cred) (hc : okc c) (h0 : G_cred_Check 20 c = some 0) (hs : G_mode_Check 20 s = some 0) (m0 : 0 ≤ s.fMode) (m1 : s.fMode ≤ 511)
include hc h0 hs m0 m1
theorem may_val (q : Int) (q0 : 0 ≤ q) (q1 : q ≤ 7) : ∃ b, G_mode_May 20 s c q = some (b, 0) ∧ G_ringref5_MayOf 20 s c q = some b := by
  refine ⟨rf (s.fKind == 2) (c.fCaps % 2 == 1) (c.fCaps / 2 % 2 == 1) q (oct s c), ?_, ?_⟩
  · unfold G_mode_May
    rw [h0, Option.bind_some, if_pos rfl, hs, Option.bind_some, if_pos rfl, if_neg (by omega), if_neg (by omega)]
    have hb : G_mode_bits 20 s c = some (oct s c) := by
      unfold G_mode_bits oct
      obtain ⟨M, hM⟩ := Int.eq_ofNat_of_zero_le m0
      obtain ⟨e1, e2, e3, _⟩ := mode_nat M (by omega)
      rw [← hM] at e1 e2 e3
      by_cases hu : c.fUser = s.fUser
      · rw [if_pos hu, if_pos hu, e1]
      · rw [if_neg hu, if_neg hu, in_any c _ h0 hc, Option.bind_some]
        split
        · rw [e2]
        · rw [e3]
    simp only [G_mode_wanted, hb, over_any s c hc, Option.bind_some]
    have ho : 0 ≤ oct s c ∧ oct s c < 8 := by unfold oct; split <;> (try split) <;> omega
    obtain ⟨A, hA⟩ := Int.eq_ofNat_of_zero_le ho.1
    obtain ⟨Q, hQ⟩ := Int.eq_ofNat_of_zero_le q0
    have := same_nat Q (by omega) A (by omega) (s.fKind == 2) (c.fCaps % 2 == 1) (c.fCaps / 2 % 2 == 1)
    rw [← hA, ← hQ] at this
    rw [← this]; rfl
  · obtain ⟨k0, k1, k2⟩ := hc
    unfold G_ringref5_MayOf G_ringref5_Groups
    have ha : app 8 [c.fGroup] c.fMore = some ([c.fGroup] ++ c.fMore) := app_some (by simp; omega) (by omega)
    rw [ha]
    simp only [Option.bind_some]
    rw [contains_any 20 _ _ (by simp; omega) (by simp; omega), Option.bind_some]
    obtain ⟨M, hM⟩ := Int.eq_ofNat_of_zero_le m0
    obtain ⟨_, _, _, e1, e2, e3⟩ := mode_nat M (by omega)
    rw [← hM] at e1 e2 e3
    have hg : ([c.fGroup] ++ c.fMore).contains s.fGroup = ((s.fGroup == c.fGroup) || c.fMore.contains s.fGroup) := by
      rw [List.singleton_append, List.contains_cons]
    have z : (G_ringref5_MayOf_C1 20 q s (([c.fGroup] ++ c.fMore).contains s.fGroup) c) = some (.x0 (if ((s.fGroup == c.fGroup) || c.fMore.contains s.fGroup) = true then s.fMode / 8 % 8 else s.fMode % 8)) := by
      unfold G_ringref5_MayOf_C1
      rw [hg, e2, e3]
      split <;> rfl
    rw [z, Option.bind_some]
    have z2 : G_ringref5_MayOf_C2 20 q (if ((s.fGroup == c.fGroup) || c.fMore.contains s.fGroup) = true then s.fMode / 8 % 8 else s.fMode % 8) c s = some (.x0 (oct s c)) := by
      unfold G_ringref5_MayOf_C2 oct
      rw [e1]
      split <;> rfl
    simp only [z2, Option.bind_some]
    obtain ⟨C, hC⟩ := Int.eq_ofNat_of_zero_le k1
    obtain ⟨n1, n2⟩ := caps2_nat C (by omega)
    rw [← hC] at n1 n2
    unfold G_ringref5_MayOf_C3 G_ringref5_MayOf_C4 G_ringref5_MayOf_C5 rf
    simp only [n1, n2]
    have g1 : (c.fCaps % 2 == 0) = !(c.fCaps % 2 == 1) := by
      have : c.fCaps % 2 = 0 ∨ c.fCaps % 2 = 1 := by omega
      rcases this with h | h <;> simp [h]
    have g2 : (c.fCaps / 2 % 2 == 0) = !(c.fCaps / 2 % 2 == 1) := by
      have : c.fCaps / 2 % 2 = 0 ∨ c.fCaps / 2 % 2 = 1 := by omega
      rcases this with h | h <;> simp [h]
    rw [g1, g2]
    have g3 : (s.fKind = 2) = ((s.fKind == 2) = true) := by simp
    simp only [g3]
    generalize (c.fCaps % 2 == 1) = b1
    generalize (c.fCaps / 2 % 2 == 1) = b2
    generalize (s.fKind == 2) = b3
    generalize oct s c = a
    by_cases p1 : remI q 2 = 1 <;> by_cases p2 : a < 4 <;> by_cases p3 : remI (quoI .i64 q 2) 2 = 1 <;> by_cases p4 : remI (quoI .i64 a 2) 2 = 0 <;> by_cases p5 : q < 4 <;> by_cases p6 : remI a 2 = 1 <;> cases b1 <;> cases b2 <;> cases b3 <;> simp [p1, p2, p3, p4, p5, p6]
end
def capOwn (c : S_api_Cred) : Bool := c.fCaps / 4 % 2 == 1
theorem own_nat : ∀ C, C < 128 → ((bits .and .i64 ((C : Nat) : Int) 4 == 0) = !((C : Int) / 4 % 2 == 1)) ∧ (remI (quoI .i64 ((C : Nat) : Int) 4) 2 = (C : Int) / 4 % 2) := by decide +kernel
theorem own1 {c : S_api_Cred} (hc : okc c) : (bits .and .i64 c.fCaps 4 = 0) = (capOwn c = false) := by
  obtain ⟨_, h1, h2⟩ := hc
  obtain ⟨C, hC⟩ := Int.eq_ofNat_of_zero_le h1
  obtain ⟨e1, e2⟩ := own_nat C (by omega)
  rw [← hC] at e1
  have : (bits .and .i64 c.fCaps 4 = 0) = ((bits .and .i64 c.fCaps 4 == 0) = true) := by simp
  rw [this, e1]; simp [capOwn]
theorem own2 {c : S_api_Cred} (hc : okc c) : (remI (quoI .i64 c.fCaps 4) 2 = 1) = (capOwn c = true) := by
  obtain ⟨_, h1, h2⟩ := hc
  obtain ⟨C, hC⟩ := Int.eq_ofNat_of_zero_le h1
  obtain ⟨e1, e2⟩ := own_nat C (by omega)
  rw [← hC] at e2
  rw [e2]; simp [capOwn]
def us (s : S_api_Stat) (c : S_api_Cred) : Bool := c.fUser == s.fUser
theorem us1 (s : S_api_Stat) (c : S_api_Cred) : (c.fUser = s.fUser) = (us s c = true) := by simp [us]
def grp (c : S_api_Cred) (m : Int) : Bool := (m == c.fGroup) || c.fMore.contains m
def rg (n m : Int) : Bool := decide (n < 0) || decide (n > 99) || (decide (m < 0) || decide (m > 99))
def bo (s : S_api_Stat) (c : S_api_Cred) (n m : Int) : Bool := !capOwn c && (!us s c || (n != s.fUser || (m != s.fGroup && !grp c m)))
def wO (s : S_api_Stat) (c : S_api_Cred) (n m : Int) : Int := if rg n m = true then 1 else if bo s c n m = true then 7 else 0
def wS (s : S_api_Stat) (c : S_api_Cred) (n : Int) : Int := if n < 0 then 1 else if n > 511 then 1 else if capOwn c = true then 0 else if us s c = true then 0 else 7
abbrev zs : S_api_Stat := S_api_Stat.mk 0 0 0 0 0 0
def pS (s : S_api_Stat) (c : S_api_Cred) (n : Int) : S_api_Stat := if wS s c n = 0 then S_api_Stat.mk s.fKind n s.fUser s.fGroup s.fSize s.fLinks else zs
def pO (s : S_api_Stat) (c : S_api_Cred) (n m : Int) : S_api_Stat := if wO s c n m = 0 then S_api_Stat.mk s.fKind s.fMode n m s.fSize s.fLinks else zs
theorem rgC (f : Option G_ringlaw5_ModeSays_C3_R) (n m : Int) : (minI n m < 0 → rg n m = true) ∧ (¬ minI n m < 0 → decide (maxI n m > 99) = rg n m) := by
  constructor
  · intro h
    unfold minI at h
    unfold rg
    by_cases h1 : n < 0
    · simp [h1]
    · have : m < 0 := by split at h <;> omega
      simp [this]
  · intro h
    unfold minI at h
    unfold maxI rg
    have h1 : ¬ n < 0 := by split at h <;> omega
    have h2 : ¬ m < 0 := by split at h <;> omega
    by_cases h3 : n > 99
    · have : (if m > n then m else n) > 99 := by split <;> omega
      simp [this, h1, h2, h3]
    · by_cases h4 : m > 99
      · have : (if m > n then m else n) > 99 := by split <;> omega
        simp [this, h1, h2, h3, h4]
      · have : ¬ (if m > n then m else n) > 99 := by split <;> omega
        simp [this, h1, h2, h3, h4]
section
variable (s : S_api_Stat) (c : S_api_Cred) (hc : okc c) (h0 : G_cred_Check 20 c = some 0) (b : Bool) (hm : G_mode_May 20 s c 0 = some (b, 0))
include hc h0 hm
theorem set_val (n : Int) : G_mode_Set 20 s c n = some (pS s c n, wS s c n) := by
  unfold G_mode_Set
  rw [hm, Option.bind_some, if_pos rfl]
  simp only [us1, own1 hc]
  unfold pS wS
  by_cases h1 : n < 0
  · simp [h1]
  by_cases h2 : n > 511
  · simp [h1, h2]
  cases us s c <;> cases capOwn c <;> simp [h1, h2]
theorem own_val (n m : Int) : G_mode_Own 20 s c n m = some (pO s c n m, wO s c n m) := by
  unfold G_mode_Own
  rw [hm, Option.bind_some, if_pos rfl]
  have e1 : G_mode_Own_C1 20 n m s c = some (.x0 (rg n m)) := by
    unfold G_mode_Own_C1 rg
    by_cases h1 : n < 0
    · simp [h1]
    by_cases h2 : n > 99
    · simp [h1, h2]
    by_cases h3 : m < 0
    · simp [h1, h2, h3]
    simp [h1, h2, h3]
  rw [e1, Option.bind_some]
  simp only [own1 hc, in_any c _ h0 hc, Option.bind_some]
  have e2 : G_mode_Own_C2 20 n m (((m == c.fGroup) || c.fMore.contains m, 0)) s c = some (.x0 (!us s c || (n != s.fUser || (m != s.fGroup && !grp c m)))) := by
    unfold G_mode_Own_C2
    simp only [us1]
    show (if us s c = true then if n = s.fUser then if grp c m = true then _ else _ else _ else _) = _
    cases us s c
    · simp
    · by_cases h1 : n = s.fUser
      · cases grp c m <;> simp [h1]
      · simp [h1]
  rw [e2, Option.bind_some]
  unfold pO wO bo
  cases rg n m
  · cases capOwn c
    · cases (!us s c || (n != s.fUser || (m != s.fGroup && !grp c m))) <;> simp
    · simp
  · simp
end
section
variable (s : S_api_Stat) (c : S_api_Cred) (hc : okc c) (n m : Int)
include hc
theorem grpC : G_ringref5_Groups 20 c = some ([c.fGroup] ++ c.fMore) ∧ G_slices_Contains_int_int 20 ([c.fGroup] ++ c.fMore) m = some (grp c m) := by
  obtain ⟨k0, k1, k2⟩ := hc
  constructor
  · unfold G_ringref5_Groups
    rw [app_some (by simp; omega) (by omega)]; rfl
  · rw [contains_any 20 _ _ (by simp; omega) (by simp; omega), List.singleton_append, List.contains_cons]; rfl
theorem cR3 (r1 r2 : S_api_Stat × Int) : G_ringlaw5_ModeSays_C3 20 n m r1 r2 c s = some (.x0 (rg n m)) := by
  unfold G_ringlaw5_ModeSays_C3
  by_cases h : minI n m < 0
  · rw [if_pos h, (rgC none n m).1 h]
  · rw [if_neg h, (rgC none n m).2 h]
theorem cB4 (r1 r2 : S_api_Stat × Int) : G_ringlaw5_ModeSays_C4 20 n m r1 r2 c s = some (.x0 (bo s c n m)) := by
  unfold G_ringlaw5_ModeSays_C4 bo
  simp only [own2 hc, us1, (grpC c hc m).1, (grpC c hc m).2, Option.bind_some]
  cases capOwn c
  · cases us s c
    · simp
    · by_cases h1 : n = s.fUser
      · by_cases h2 : m = s.fGroup
        · simp [h1, h2]
        · cases grp c m <;> simp [h1, h2]
      · simp [h1]
  · simp
theorem cO5 (r1 r2 : S_api_Stat × Int) : G_ringlaw5_ModeSays_C5 20 n m r1 r2 c (rg n m) s = some (.x0 (wO s c n m)) := by
  unfold G_ringlaw5_ModeSays_C5 wO
  rw [cB4 s c hc n m r1 r2, Option.bind_some]
  cases rg n m <;> cases bo s c n m <;> simp
theorem cR9 (z : Int) (r1 r2 : S_api_Stat × Int) : G_ringlaw5_ModeSays_C9 20 n m r1 r2 c z s = some (.x0 (rg n m)) := by
  unfold G_ringlaw5_ModeSays_C9
  by_cases h : minI n m < 0
  · rw [if_pos h, (rgC none n m).1 h]
  · rw [if_neg h, (rgC none n m).2 h]
theorem cB10 (z : Int) (r1 r2 : S_api_Stat × Int) : G_ringlaw5_ModeSays_C10 20 n m r1 r2 c z s = some (.x0 (bo s c n m)) := by
  unfold G_ringlaw5_ModeSays_C10 bo
  simp only [own2 hc, us1, (grpC c hc m).1, (grpC c hc m).2, Option.bind_some]
  cases capOwn c
  · cases us s c
    · simp
    · by_cases h1 : n = s.fUser
      · by_cases h2 : m = s.fGroup
        · simp [h1, h2]
        · cases grp c m <;> simp [h1, h2]
      · simp [h1]
  · simp
theorem cO11 (z : Int) (r1 r2 : S_api_Stat × Int) : G_ringlaw5_ModeSays_C11 20 n m r1 r2 c z (rg n m) s = some (.x0 (wO s c n m)) := by
  unfold G_ringlaw5_ModeSays_C11 wO
  rw [cB10 s c hc n m z r1 r2, Option.bind_some]
  cases rg n m <;> cases bo s c n m <;> simp
theorem cR17 (r1 r2 : S_api_Stat × Int) : G_ringlaw5_ModeSays_C17 20 n m r1 r2 c s = some (.x0 (rg n m)) := by
  unfold G_ringlaw5_ModeSays_C17
  by_cases h : minI n m < 0
  · rw [if_pos h, (rgC none n m).1 h]
  · rw [if_neg h, (rgC none n m).2 h]
theorem cB18 (r1 r2 : S_api_Stat × Int) : G_ringlaw5_ModeSays_C18 20 n m r1 r2 c s = some (.x0 (bo s c n m)) := by
  unfold G_ringlaw5_ModeSays_C18 bo
  simp only [own2 hc, us1, (grpC c hc m).1, (grpC c hc m).2, Option.bind_some]
  cases capOwn c
  · cases us s c
    · simp
    · by_cases h1 : n = s.fUser
      · by_cases h2 : m = s.fGroup
        · simp [h1, h2]
        · cases grp c m <;> simp [h1, h2]
      · simp [h1]
  · simp
theorem cO19 (r1 r2 : S_api_Stat × Int) : G_ringlaw5_ModeSays_C19 20 n m r1 r2 c (rg n m) s = some (.x0 (wO s c n m)) := by
  unfold G_ringlaw5_ModeSays_C19 wO
  rw [cB18 s c hc n m r1 r2, Option.bind_some]
  cases rg n m <;> cases bo s c n m <;> simp
theorem cR23 (z : Int) (r1 r2 : S_api_Stat × Int) : G_ringlaw5_ModeSays_C23 20 n m r1 r2 c z s = some (.x0 (rg n m)) := by
  unfold G_ringlaw5_ModeSays_C23
  by_cases h : minI n m < 0
  · rw [if_pos h, (rgC none n m).1 h]
  · rw [if_neg h, (rgC none n m).2 h]
theorem cB24 (z : Int) (r1 r2 : S_api_Stat × Int) : G_ringlaw5_ModeSays_C24 20 n m r1 r2 c z s = some (.x0 (bo s c n m)) := by
  unfold G_ringlaw5_ModeSays_C24 bo
  simp only [own2 hc, us1, (grpC c hc m).1, (grpC c hc m).2, Option.bind_some]
  cases capOwn c
  · cases us s c
    · simp
    · by_cases h1 : n = s.fUser
      · by_cases h2 : m = s.fGroup
        · simp [h1, h2]
        · cases grp c m <;> simp [h1, h2]
      · simp [h1]
  · simp
theorem cO25 (z : Int) (r1 r2 : S_api_Stat × Int) : G_ringlaw5_ModeSays_C25 20 n m r1 r2 c z (rg n m) s = some (.x0 (wO s c n m)) := by
  unfold G_ringlaw5_ModeSays_C25 wO
  rw [cB24 s c hc n m z r1 r2, Option.bind_some]
  cases rg n m <;> cases bo s c n m <;> simp
theorem cS8 (r1 r2 : S_api_Stat × Int) (h : ¬ n < 0) : G_ringlaw5_ModeSays_C8 20 n m r1 r2 c s = some (.x0 (wS s c n)) := by
  unfold G_ringlaw5_ModeSays_C8 wS
  simp only [own2 hc, us1]
  rw [if_neg h]
  by_cases h2 : n > 511
  · simp [h2]
  · cases capOwn c <;> cases us s c <;> simp [h2]
theorem cS22 (r1 r2 : S_api_Stat × Int) (h : ¬ n < 0) : G_ringlaw5_ModeSays_C22 20 n m r1 r2 c s = some (.x0 (wS s c n)) := by
  unfold G_ringlaw5_ModeSays_C22 wS
  simp only [own2 hc, us1]
  rw [if_neg h]
  by_cases h2 : n > 511
  · simp [h2]
  · cases capOwn c <;> cases us s c <;> simp [h2]
end
theorem eqS_refl (x : S_api_Stat) : eqS_api_Stat x x = true := by cases x; simp [eqS_api_Stat]
theorem eqR (x : S_api_Stat) : eqRes .eql (eqS_api_Stat x x) = true := by rw [eqS_refl]; rfl
theorem mays_any : G_ringlaw5_mays 20 = some true := by decide +kernel
theorem law (s : S_api_Stat) (c : S_api_Cred) (q n m : Int) : G_ringlaw5_ModeSays 20 s c q n m = some true := by
  unfold G_ringlaw5_ModeSays
  rw [mays_any, Option.bind_some, if_pos rfl]
  obtain ⟨e, e1, e2, e3⟩ := check_any c
  obtain ⟨f, f1, f2, f3⟩ := stat_any s
  by_cases he : e = 0
  · subst he
    have hc := e3 rfl
    by_cases hf : f = 0
    · subst hf
      obtain ⟨m0, m1⟩ := f3 rfl
      obtain ⟨b0, g1, _⟩ := may_val s c hc e1 f1 m0 m1 0 (by omega) (by omega)
      rw [set_val s c hc e1 b0 g1, own_val s c hc e1 b0 g1]
      have hmay : ∃ r : Bool × Int, G_mode_May 20 s c q = some r ∧ (q < 0 ∨ q > 7 → r = (false, 1)) ∧ (¬ q < 0 → ¬ q > 7 → r.2 = 0 ∧ G_ringref5_MayOf 20 s c q = some r.1) := by
        by_cases q1 : q < 0
        · refine ⟨(false, 1), ?_, fun _ => rfl, fun h => absurd q1 h⟩
          unfold G_mode_May
          rw [e1, Option.bind_some, if_pos rfl, f1, Option.bind_some, if_pos rfl, if_pos q1]
        · by_cases q2 : q > 7
          · refine ⟨(false, 1), ?_, fun _ => rfl, fun _ h => absurd q2 h⟩
            unfold G_mode_May
            rw [e1, Option.bind_some, if_pos rfl, f1, Option.bind_some, if_pos rfl, if_neg q1, if_pos q2]
          · obtain ⟨b, h1, h2⟩ := may_val s c hc e1 f1 m0 m1 q (by omega) (by omega)
            exact ⟨(b, 0), h1, fun h => by omega, fun _ _ => ⟨rfl, h2⟩⟩
      obtain ⟨r, r1, r2, r3⟩ := hmay
      rw [r1]
      simp only [Option.bind_some, e2]
      have hC1 : ∀ a, G_ringlaw5_ModeSays_C1 20 q n m r (pS s c n, wS s c n) (pO s c n m, wO s c n m) 0 s c = some a → a = .x0 0 := by
        intro a h
        unfold G_ringlaw5_ModeSays_C1 at h
        rw [if_pos rfl, f2, Option.bind_some] at h
        exact (Option.some.inj h).symm
      have hC1' : G_ringlaw5_ModeSays_C1 20 q n m r (pS s c n, wS s c n) (pO s c n m, wO s c n m) 0 s c = some (.x0 0) := by
        unfold G_ringlaw5_ModeSays_C1
        rw [if_pos rfl, f2]; rfl
      rw [hC1']
      simp only [Option.bind_some, f1, f2, if_true]
      have hwS : n < 0 → wS s c n = 1 := fun h => by unfold wS; rw [if_pos h]
      have hpS0 : wS s c n = 0 → pS s c n = S_api_Stat.mk s.fKind n s.fUser s.fGroup s.fSize s.fLinks := fun h => by unfold pS; rw [if_pos h]
      have hpS1 : ¬ wS s c n = 0 → pS s c n = zs := fun h => by unfold pS; rw [if_neg h]
      have hpO0 : wO s c n m = 0 → pO s c n m = S_api_Stat.mk s.fKind s.fMode n m s.fSize s.fLinks := fun h => by unfold pO; rw [if_pos h]
      have hpO1 : ¬ wO s c n m = 0 → pO s c n m = zs := fun h => by unfold pO; rw [if_neg h]
      by_cases q1 : q < 0
      · rw [if_pos q1, r2 (.inl q1)]
        simp only [if_true, Bool.false_eq_true, if_false]
        by_cases hn : n < 0
        · rw [if_pos hn, cR3 s c hc n m]
          simp only [Option.bind_some]
          rw [cO5 s c hc n m]
          simp only [Option.bind_some]
          by_cases ho : wO s c n m = 0
          · rw [if_pos ho]
            unfold G_ringlaw5_ModeSays_C7
            simp only [hwS hn, hpS1 (by rw [hwS hn]; decide), hpO0 ho, eqR, if_true, Option.bind_some]
          · rw [if_neg ho]
            unfold G_ringlaw5_ModeSays_C6
            simp only [hwS hn, hpS1 (by rw [hwS hn]; decide), hpO1 ho, eqR, if_true, Option.bind_some]
        · rw [if_neg hn, cS8 s c hc n m _ _ hn]
          simp only [Option.bind_some]
          rw [cR9 s c hc n m]
          simp only [Option.bind_some]
          rw [cO11 s c hc n m]
          simp only [Option.bind_some]
          by_cases hs : wS s c n = 0
          · rw [if_pos hs]
            by_cases ho : wO s c n m = 0
            · rw [if_pos ho]
              unfold G_ringlaw5_ModeSays_C15
              simp only [hpS0 hs, hpO0 ho, eqR, if_true, Option.bind_some]
            · rw [if_neg ho]
              unfold G_ringlaw5_ModeSays_C14
              simp only [hpS0 hs, hpO1 ho, eqR, if_true, Option.bind_some]
          · rw [if_neg hs]
            by_cases ho : wO s c n m = 0
            · rw [if_pos ho]
              unfold G_ringlaw5_ModeSays_C13
              simp only [hpS1 hs, hpO0 ho, eqR, if_true, Option.bind_some]
            · rw [if_neg ho]
              unfold G_ringlaw5_ModeSays_C12
              simp only [hpS1 hs, hpO1 ho, eqR, if_true, Option.bind_some]
      · rw [if_neg q1]
        have hC16 : G_ringlaw5_ModeSays_C16 20 q n m r (pS s c n, wS s c n) (pO s c n m, wO s c n m) s c = some .x1 := by
          unfold G_ringlaw5_ModeSays_C16
          by_cases q2 : q > 7
          · rw [if_pos q2, r2 (.inr q2)]; rfl
          · rw [if_neg q2]
            obtain ⟨k1, k2⟩ := r3 q1 q2
            rw [if_pos k1, k2, Option.bind_some]
            cases r.1 <;> rfl
        rw [hC16]
        simp only [Option.bind_some]
        by_cases hn : n < 0
        · rw [if_pos hn, cR17 s c hc n m]
          simp only [Option.bind_some]
          rw [cO19 s c hc n m]
          simp only [Option.bind_some]
          by_cases ho : wO s c n m = 0
          · rw [if_pos ho]
            unfold G_ringlaw5_ModeSays_C21
            simp only [hwS hn, hpS1 (by rw [hwS hn]; decide), hpO0 ho, eqR, if_true, Option.bind_some]
          · rw [if_neg ho]
            unfold G_ringlaw5_ModeSays_C20
            simp only [hwS hn, hpS1 (by rw [hwS hn]; decide), hpO1 ho, eqR, if_true, Option.bind_some]
        · rw [if_neg hn, cS22 s c hc n m _ _ hn]
          simp only [Option.bind_some]
          rw [cR23 s c hc n m]
          simp only [Option.bind_some]
          rw [cO25 s c hc n m]
          simp only [Option.bind_some]
          by_cases hs : wS s c n = 0
          · rw [if_pos hs]
            by_cases ho : wO s c n m = 0
            · rw [if_pos ho]
              unfold G_ringlaw5_ModeSays_C29
              simp only [hpS0 hs, hpO0 ho, eqR, if_true, Option.bind_some]
            · rw [if_neg ho]
              unfold G_ringlaw5_ModeSays_C28
              simp only [hpS0 hs, hpO1 ho, eqR, if_true, Option.bind_some]
          · rw [if_neg hs]
            by_cases ho : wO s c n m = 0
            · rw [if_pos ho]
              unfold G_ringlaw5_ModeSays_C27
              simp only [hpS1 hs, hpO0 ho, eqR, if_true, Option.bind_some]
            · rw [if_neg ho]
              unfold G_ringlaw5_ModeSays_C26
              simp only [hpS1 hs, hpO1 ho, eqR, if_true, Option.bind_some]
    · have hm : ∀ q, G_mode_May 20 s c q = some (false, f) := by
        intro q
        unfold G_mode_May
        rw [e1, Option.bind_some, if_pos rfl, f1, Option.bind_some, if_neg hf]
      have h1 : G_mode_Set 20 s c n = some (zs, f) := by unfold G_mode_Set; rw [hm, Option.bind_some, if_neg hf]
      have h2 : G_mode_Own 20 s c n m = some (zs, f) := by unfold G_mode_Own; rw [hm, Option.bind_some, if_neg hf]
      rw [hm, h1, h2]
      simp only [Option.bind_some, e2]
      unfold G_ringlaw5_ModeSays_C1
      simp only [if_true, f2, Option.bind_some, f1]
      rw [if_neg hf]
      unfold G_ringlaw5_ModeSays_C2
      simp only [if_true, eqR, Bool.false_eq_true, if_false, Option.bind_some]
  · have hm : ∀ q, G_mode_May 20 s c q = some (false, e) := by
      intro q
      unfold G_mode_May
      rw [e1, Option.bind_some, if_neg he]
    have h1 : G_mode_Set 20 s c n = some (zs, e) := by unfold G_mode_Set; rw [hm, Option.bind_some, if_neg he]
    have h2 : G_mode_Own 20 s c n m = some (zs, e) := by unfold G_mode_Own; rw [hm, Option.bind_some, if_neg he]
    rw [hm, h1, h2]
    simp only [Option.bind_some, e2]
    unfold G_ringlaw5_ModeSays_C1
    simp only [if_neg he, f2, Option.bind_some, f1, if_true]
    unfold G_ringlaw5_ModeSays_C2
    simp only [if_true, eqR, Bool.false_eq_true, if_false, Option.bind_some]
end Go.Proofs.Ytnmpnljjaoddhaa.modeSays
