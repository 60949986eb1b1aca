/- CredSays returns true for every credentials and number, and leaves its arguments alone. No condition. -/
import Derived.Test.YtjjjaakefnnbpaaLCred
import Derived.ChangeOld
namespace Go.Proofs.Ytjjjaakefnnbpaa.credSays
open Go.ChangeShapes Go.WideShapes Go.ChangeAt Go.RowKit help rep pv
set_option linter.all false

theorem law (c : S_api_Cred) (m : Int) : G_ringlaw5_CredSays 20 c m = some true := by
  obtain ⟨e, h1, h2, h3⟩ := check_any c
  have s0 : G_ringref5_SameCred 20 (S_api_Cred.mk 0 0 ([] : (List Int)) 0 0 0) (S_api_Cred.mk 0 0 ([] : (List Int)) 0 0 0) = some true := same_refl _ (by simp)
  by_cases he : e = 0
  · subst he
    have hc := h3 rfl
    obtain ⟨hl, hc0, hc1⟩ := hc
    have hin := in_any c m h1 ⟨hl, hc0, hc1⟩
    have hcp := copied_any 20 c hl
    have hg : G_ringref5_Groups 20 c = some (c.fGroup :: c.fMore) := by
      unfold G_ringref5_Groups
      rw [app_some (by simp; omega) (by omega)]; rfl
    have hct : G_slices_Contains_int_int 20 (c.fGroup :: c.fMore) m = some ((m == c.fGroup) || c.fMore.contains m) := by
      rw [contains_any 20 _ _ (by simp; omega) (by simp; omega), List.contains_cons]
    obtain ⟨S, hS, hSp, _⟩ := sort_any 20 (c.fMore ++ [m]) (by simp; omega) (by omega)
    have hSl : S.length ≤ 5 := by rw [hSp.length_eq]; simp; omega
    have happ : app 8 c.fMore [m] = some (c.fMore ++ [m]) := app_some (by simp; omega) (by omega)
    have hcl := clone_any 20 c.fMore hl
    obtain ⟨A, hA⟩ := Int.eq_ofNat_of_zero_le hc0
    generalize hI : ((m == c.fGroup) || c.fMore.contains m) = I at hin hct
    have hI' : G_cred_In 20 c m = some (I, 0) := hin
    have e5 : G_cred_Join 20 c m = if m < 0 ∨ m > 99 then some (none0, 1) else if bits .and .i64 c.fCaps 8 = 0 then some (none0, 7) else if I = true then some (c, 0) else if (c.fMore.length : Int) = 4 then some (none0, 6) else some (S_api_Cred.mk c.fUser c.fGroup S c.fCaps c.fLevel c.fKind, 0) := by
      unfold G_cred_Join none0
      rw [hI', Option.bind_some, if_pos rfl, hcp]
      by_cases a1 : m < 0
      · rw [if_pos a1, if_pos (.inl a1)]
      by_cases a2 : m > 99
      · rw [if_neg a1, if_pos a2, if_pos (.inr a2)]
      rw [if_neg a1, if_neg a2, if_neg (show ¬ (m < 0 ∨ m > 99) by omega)]
      by_cases a3 : bits .and .i64 c.fCaps 8 = 0
      · rw [if_pos a3, if_pos a3]
      · rw [if_neg a3, if_neg a3, Option.bind_some, happ, Option.bind_some, hS]
        rfl
    have e4 : G_cred_Become 20 c m = if m < 0 ∨ m > 99 then some (none0, 1) else if m ≠ c.fUser ∧ bits .and .i64 c.fCaps 8 = 0 then some (none0, 7) else some (if m = 0 then S_api_Cred.mk m c.fGroup c.fMore c.fCaps c.fLevel c.fKind else S_api_Cred.mk m c.fGroup c.fMore 0 c.fLevel c.fKind, 0) := by
      unfold G_cred_Become none0
      rw [h1, Option.bind_some, if_pos rfl, hcp]
      by_cases a1 : m < 0
      · rw [if_pos a1, if_pos (.inl a1)]
      by_cases a2 : m > 99
      · rw [if_neg a1, if_pos a2, if_pos (.inr a2)]
      rw [if_neg a1, if_neg a2, if_neg (show ¬ (m < 0 ∨ m > 99) by omega)]
      simp only [Option.bind_some]
      by_cases a3 : m = c.fUser
      · rw [if_pos a3, if_neg (show ¬ (m ≠ c.fUser ∧ bits .and .i64 c.fCaps 8 = 0) from fun h => h.1 a3)]
        by_cases a4 : m = 0 <;> simp [a4]
      · rw [if_neg a3]
        by_cases a5 : bits .and .i64 c.fCaps 8 = 0
        · rw [if_pos a5, if_pos ⟨a3, a5⟩]
        · rw [if_neg a5, if_neg (show ¬ (m ≠ c.fUser ∧ bits .and .i64 c.fCaps 8 = 0) from fun h => a5 h.2)]
          by_cases a4 : m = 0 <;> simp [a4]
    have e2 : G_cred_Has 20 c m = if m < 0 ∨ m > 127 then some (false, 1) else some ((bits .andNot .i64 m c.fCaps) == 0, 0) := by
      unfold G_cred_Has
      rw [h1, Option.bind_some, if_pos rfl]
      by_cases a1 : m < 0
      · rw [if_pos a1, if_pos (.inl a1)]
      by_cases a2 : m > 127
      · rw [if_neg a1, if_pos a2, if_pos (.inr a2)]
      rw [if_neg a1, if_neg a2, if_neg (show ¬ (m < 0 ∨ m > 127) by omega)]
    have e3 : G_cred_Drop 20 c m = if m < 0 ∨ m > 127 then some (none0, 1) else some (S_api_Cred.mk c.fUser c.fGroup c.fMore (bits .andNot .i64 c.fCaps m) c.fLevel c.fKind, 0) := by
      unfold G_cred_Drop
      rw [e2]
      by_cases a1 : m < 0 ∨ m > 127
      · rw [if_pos a1, if_pos a1]; rfl
      · rw [if_neg a1, if_neg a1, Option.bind_some, if_pos rfl, hcp]; rfl
    have b8 : (bits .and .i64 c.fCaps 8 = 0) = ((remI (quoI .i64 c.fCaps 8) 2) = 0) := by rw [hA]; exact propext (bit8 A (by omega))
    have hsame : ∀ d : S_api_Cred, d.fMore.length ≤ 5 → G_ringref5_SameCred 20 d d = some true := same_refl
    have hn0 : G_ringref5_SameCred 20 none0 none0 = some true := s0
    unfold G_ringlaw5_CredSays
    rw [hI', Option.bind_some, e2]
    by_cases m0 : m < 0
    · rw [if_pos (.inl m0), Option.bind_some, e3, if_pos (.inl m0), Option.bind_some, e4, if_pos (.inl m0), Option.bind_some, e5, if_pos (.inl m0), Option.bind_some, h2, Option.bind_some, h1, Option.bind_some, if_pos rfl, if_pos rfl, hg, Option.bind_some, hct, Option.bind_some, if_pos rfl, if_neg (by simp [eqRes]), if_pos m0]
      have c3 : G_ringlaw5_CredSays_C3 20 m (false, 1) (none0, 1) (none0, 1) (none0, 1) I c = some (.x0 1 1) := by unfold G_ringlaw5_CredSays_C3; rw [if_pos m0]
      rw [c3, Option.bind_some]
      simp only []
      rw [if_neg (by omega)]
      simp [G_ringlaw5_CredSays_C4, G_ringlaw5_CredSays_C5, G_ringlaw5_pick, eqRes, none0, s0]
    · obtain ⟨B, hB⟩ := Int.eq_ofNat_of_zero_le (show 0 ≤ m by omega)
      have q1 : (I == I) = true := by simp
      by_cases m1 : m > 127
      · have m2 : m > 99 := by omega
        rw [if_pos (.inr m1), Option.bind_some, e3, if_pos (.inr m1), Option.bind_some, e4, if_pos (.inr m2), Option.bind_some, e5, if_pos (.inr m2), Option.bind_some, h2, Option.bind_some, h1, Option.bind_some, if_pos rfl, if_pos rfl, hg, Option.bind_some, hct, Option.bind_some, if_pos rfl, if_neg (by simp [eqRes]), if_neg m0]
        simp [G_ringlaw5_CredSays_C12, G_ringlaw5_CredSays_C14, G_ringlaw5_CredSays_C13, G_ringlaw5_CredSays_C15, G_ringlaw5_CredSays_C16, G_ringlaw5_pick, eqRes, none0, s0, m0, m1, m2, show m ≠ 0 by omega]
      · have hf := facts A (by omega) B (by omega)
        rw [← hA, ← hB] at hf
        obtain ⟨hf1, hf2⟩ := hf
        rw [if_neg (show ¬ (m < 0 ∨ m > 127) by omega), Option.bind_some, e3, if_neg (show ¬ (m < 0 ∨ m > 127) by omega), Option.bind_some, e4, hf1, hf2]
        generalize hX : wi .i64 (c.fCaps - bits .and .i64 c.fCaps m) = X
        have sX := hsame (S_api_Cred.mk c.fUser c.fGroup c.fMore X c.fLevel c.fKind) (by simp; omega)
        have sU0 := hsame (S_api_Cred.mk m c.fGroup c.fMore 0 c.fLevel c.fKind) (by simp; omega)
        have sU := hsame (S_api_Cred.mk m c.fGroup c.fMore c.fCaps c.fLevel c.fKind) (by simp; omega)
        have sc := hsame c (by omega)
        have sS := hsame (S_api_Cred.mk c.fUser c.fGroup S c.fCaps c.fLevel c.fKind) (by simpa using hSl)
        by_cases m2 : m > 99
        · have mz : m ≠ 0 := by omega
          rw [if_pos (.inr m2), Option.bind_some, e5, if_pos (.inr m2), Option.bind_some, h2, Option.bind_some, h1, Option.bind_some, if_pos rfl, if_pos rfl, hg, Option.bind_some, hct, Option.bind_some, if_pos rfl, if_neg (by simp [eqRes]), if_neg m0]
          simp [G_ringlaw5_CredSays_C12, G_ringlaw5_CredSays_C24, G_ringlaw5_CredSays_C23, G_ringlaw5_CredSays_C25, G_ringlaw5_CredSays_C26, G_ringlaw5_pick, eqRes, none0, s0, m0, m1, m2, mz, hX, sX]
        · have m3 : ¬ (m < 0 ∨ m > 99) := by omega
          rw [if_neg m3]
          by_cases k8 : bits .and .i64 c.fCaps 8 = 0
          · have k8' : (remI (quoI .i64 c.fCaps 8) 2) = 0 := b8 ▸ k8
            by_cases mu : m = c.fUser
            · rw [if_neg (show ¬ (m ≠ c.fUser ∧ bits .and .i64 c.fCaps 8 = 0) from fun h => h.1 mu), Option.bind_some, e5, if_neg m3, if_pos k8, Option.bind_some, h2, Option.bind_some, h1, Option.bind_some, if_pos rfl, if_pos rfl, hg, Option.bind_some, hct, Option.bind_some, if_pos rfl, if_neg (by simp [eqRes]), if_neg m0]
              by_cases mz : m = 0
              · subst mz
                simp [G_ringlaw5_CredSays_C12, G_ringlaw5_CredSays_C24, G_ringlaw5_CredSays_C23, G_ringlaw5_CredSays_C27, G_ringlaw5_CredSays_C28, G_ringlaw5_pick, eqRes, none0, s0, k8', show (0 = c.fUser) = True from eq_true mu, hX, sX, sU]
              · simp [G_ringlaw5_CredSays_C12, G_ringlaw5_CredSays_C24, G_ringlaw5_CredSays_C23, G_ringlaw5_CredSays_C25, G_ringlaw5_CredSays_C26, G_ringlaw5_pick, eqRes, none0, s0, m0, m1, m2, k8', show (m = c.fUser) = True from eq_true mu, mz, hX, sX, sU0]
            · rw [if_pos ⟨mu, k8⟩, Option.bind_some, e5, if_neg m3, if_pos k8, Option.bind_some, h2, Option.bind_some, h1, Option.bind_some, if_pos rfl, if_pos rfl, hg, Option.bind_some, hct, Option.bind_some, if_pos rfl, if_neg (by simp [eqRes]), if_neg m0]
              by_cases mz : m = 0
              · subst mz
                simp [G_ringlaw5_CredSays_C12, G_ringlaw5_CredSays_C24, G_ringlaw5_CredSays_C23, G_ringlaw5_CredSays_C27, G_ringlaw5_CredSays_C28, G_ringlaw5_pick, eqRes, none0, s0, k8', mu, hX, sX]
              · simp [G_ringlaw5_CredSays_C12, G_ringlaw5_CredSays_C24, G_ringlaw5_CredSays_C23, G_ringlaw5_CredSays_C25, G_ringlaw5_CredSays_C26, G_ringlaw5_pick, eqRes, none0, s0, m0, m1, m2, k8', mu, mz, hX, sX]
          · have k8' : ¬ (remI (quoI .i64 c.fCaps 8) 2) = 0 := fun h => k8 (b8.symm ▸ h)
            rw [if_neg (show ¬ (m ≠ c.fUser ∧ bits .and .i64 c.fCaps 8 = 0) from fun h => k8 h.2), Option.bind_some, e5, if_neg m3, if_neg k8]
            cases I with
            | true =>
              rw [if_pos rfl, Option.bind_some, h2, Option.bind_some, h1, Option.bind_some, if_pos rfl, if_pos rfl, hg, Option.bind_some, hct, Option.bind_some, if_pos rfl, if_neg (by simp [eqRes]), if_neg m0]
              by_cases mz : m = 0
              · subst mz
                simp [G_ringlaw5_CredSays_C12, G_ringlaw5_CredSays_C24, G_ringlaw5_CredSays_C23, G_ringlaw5_CredSays_C27, G_ringlaw5_CredSays_C28, G_ringlaw5_pick, eqRes, k8', hX, sX, sU, sc]
              · simp [G_ringlaw5_CredSays_C12, G_ringlaw5_CredSays_C24, G_ringlaw5_CredSays_C23, G_ringlaw5_CredSays_C25, G_ringlaw5_CredSays_C26, G_ringlaw5_pick, eqRes, m0, m1, m2, k8', mz, hX, sX, sU0, sc]
            | false =>
              rw [if_neg (show ¬ (false = true) by simp)]
              by_cases h4 : (c.fMore.length : Int) = 4
              · have h4' : c.fMore.length = 4 := by omega
                rw [if_pos h4, Option.bind_some, h2, Option.bind_some, h1, Option.bind_some, if_pos rfl, if_pos rfl, hg, Option.bind_some, hct, Option.bind_some, if_pos rfl, if_neg (by simp [eqRes]), if_neg m0]
                by_cases mz : m = 0
                · subst mz
                  simp [G_ringlaw5_CredSays_C12, G_ringlaw5_CredSays_C24, G_ringlaw5_CredSays_C23, G_ringlaw5_CredSays_C27, G_ringlaw5_CredSays_C28, G_ringlaw5_pick, eqRes, none0, s0, k8', h4, hX, sX, sU, sc]
                · simp [G_ringlaw5_CredSays_C12, G_ringlaw5_CredSays_C24, G_ringlaw5_CredSays_C23, G_ringlaw5_CredSays_C25, G_ringlaw5_CredSays_C26, G_ringlaw5_pick, eqRes, none0, s0, m0, m1, m2, k8', h4, mz, hX, sX, sU0, sc]
              · rw [if_neg h4, Option.bind_some, h2, Option.bind_some, h1, Option.bind_some, if_pos rfl, if_pos rfl, hg, Option.bind_some, hct, Option.bind_some, if_pos rfl, if_neg (by simp [eqRes]), if_neg m0]
                by_cases mz : m = 0
                · subst mz
                  simp [G_ringlaw5_CredSays_C12, G_ringlaw5_CredSays_C24, G_ringlaw5_CredSays_C23, G_ringlaw5_CredSays_C31, G_ringlaw5_CredSays_C32, G_ringlaw5_pick, eqRes, k8', h4, hcl, happ, hS, hX, sX, sU, sS]
                · simp [G_ringlaw5_CredSays_C12, G_ringlaw5_CredSays_C24, G_ringlaw5_CredSays_C23, G_ringlaw5_CredSays_C29, G_ringlaw5_CredSays_C30, G_ringlaw5_pick, eqRes, m0, m1, m2, k8', h4, mz, hcl, happ, hS, hX, sX, sU0, sS]
  · have e1 : G_cred_In 20 c m = some (false, e) := by unfold G_cred_In; rw [h1, Option.bind_some, if_neg he]
    have e2 : G_cred_Has 20 c m = some (false, e) := by unfold G_cred_Has; rw [h1, Option.bind_some, if_neg he]
    have e3 : G_cred_Drop 20 c m = some (none0, e) := by unfold G_cred_Drop; rw [e2, Option.bind_some, if_neg he]; rfl
    have e4 : G_cred_Become 20 c m = some (none0, e) := by unfold G_cred_Become; rw [h1, Option.bind_some, if_neg he]; rfl
    have e5 : G_cred_Join 20 c m = some (none0, e) := by unfold G_cred_Join; rw [e1, Option.bind_some, if_neg he]; rfl
    unfold G_ringlaw5_CredSays
    rw [e1, Option.bind_some, e2, Option.bind_some, e3, Option.bind_some, e4, Option.bind_some, e5, Option.bind_some, h2, Option.bind_some, h1, Option.bind_some, if_pos rfl, if_neg he]
    unfold G_ringlaw5_CredSays_C1 none0
    rw [if_pos rfl, if_pos rfl, if_pos rfl, if_pos rfl, if_pos rfl, if_neg (by simp), if_neg (by simp), s0]
    rfl
end Go.Proofs.Ytjjjaakefnnbpaa.credSays
