/- SigSays: the law. Written by mksig.py. -/
import Derived.Test.YtjjjaakefnnbpaaLSig3
namespace Go.Proofs.Ytjjjaakefnnbpaa.pv
set_option linter.all false
open Go.RowKit help

def tailE (n : Nat) (v_n2 v_how3 : Int) (v_r40 v_r51 : S_sig_Set × Int) (v_r157 : S_ringref5_Signals) : Option Bool :=
  if v_n2 < 1 then
   (G_ringlaw5_SigSays_C10 n v_r40 v_r51).bind fun v_o347 => match v_o347 with
   | .x0 v_z348 =>
     some v_z348
  else
   if v_n2 > 15 then
    (G_ringlaw5_SigSays_C11 n v_r40 v_r51).bind fun v_o359 => match v_o359 with
    | .x0 v_z360 =>
      some v_z360
   else
    (G_ringlaw5_SigSays_C12 n v_n2 v_how3 v_r40 v_r51 v_r157).bind fun v_o1148 => match v_o1148 with
    | .x0 v_z1149 =>
      if v_z1149 = true then
       some false
      else
       if v_how3 < 0 then
        (G_ringlaw5_SigSays_C13 n v_how3 v_r51).bind fun v_o1166 => match v_o1166 with
        | .x0 v_z1167 =>
          some v_z1167
       else
        if v_n2 = 9 then
         (G_ringlaw5_SigSays_C14 n v_how3 v_r51).bind fun v_o1184 => match v_o1184 with
         | .x0 v_z1185 =>
           some v_z1185
        else
         if 0 ≤ v_n2 ∧ v_n2 < (16 : Int) then
          (getA v_r157.fHow v_n2).bind fun (v_y1186 : Int) =>
          if v_how3 = 1 then
           (G_ringref5_Signals_Without n (S_ringref5_Signals.mk v_r157.fWait v_r157.fBack (setA v_r157.fHow v_n2 v_how3)) v_n2).bind fun (v_r1188 : (S_ringref5_Signals)) =>
           if v_r51.2 = 0 then
            (G_ringlaw5_same n v_r51.1 v_r1188).bind fun (v_r1189 : (Bool)) =>
            some v_r1189
           else
            some false
          else
           if v_r51.2 = 0 then
            (G_ringlaw5_same n v_r51.1 (S_ringref5_Signals.mk v_r157.fWait v_r157.fBack (setA v_r157.fHow v_n2 v_how3))).bind fun (v_r1190 : (Bool)) =>
            some v_r1190
           else
            some false
         else none
theorem tailE_ok (n P M : Nat) (H : Fin 16 → Int) (hc : G_sig_Check n ⟨(P : Int), (M : Int), H⟩ = some 0) (g : Good P M H) (hn : 60 < n) (x how : Int) :
    ∃ r40 r51, G_sig_Send n ⟨(P : Int), (M : Int), H⟩ x = some r40 ∧ G_sig_Handle n ⟨(P : Int), (M : Int), H⟩ x how = some r51 ∧ tailE n x how r40 r51 ⟨ints (nums P), ints (nums M), H⟩ = some true := by
  by_cases hx : x < 1 ∨ x > 15
  · refine ⟨_, _, send_bad n P M H hc x hx, handle_bad n P M H hc x how hx, ?_⟩
    unfold tailE
    by_cases h1 : x < 1
    · rw [if_pos h1]
      unfold G_ringlaw5_SigSays_C10
      simp only [eqS_refl]
      rfl
    · rw [if_neg h1, if_pos (by omega)]
      unfold G_ringlaw5_SigSays_C11
      simp only [eqS_refl]
      rfl
  · obtain ⟨m, rfl⟩ := Int.eq_ofNat_of_zero_le (show 0 ≤ x by omega)
    have h1 : 1 ≤ m := by omega
    have h2 : m ≤ 15 := by omega
    have hm : m < 16 := by omega
    obtain ⟨s', r', s1, s2, s3⟩ := send_good n P M H hc g hn m h1 h2
    have c12 : ∀ r51, G_ringlaw5_SigSays_C12 n (m : Int) how (s', 0) r51 ⟨ints (nums P), ints (nums M), H⟩ = some (.x0 false) := by
      intro r51
      unfold G_ringlaw5_SigSays_C12
      simp only
      rw [if_pos trivial, s2, Option.bind_some, s3, Option.bind_some]
      rfl
    by_cases hw : how < 0
    · refine ⟨_, _, s1, handle_neg n P M H hc m how h1 h2 hw, ?_⟩
      unfold tailE
      rw [if_neg (by omega), if_neg (by omega), c12, Option.bind_some]
      simp only [Bool.false_eq_true, if_false]
      rw [if_pos hw]
      unfold G_ringlaw5_SigSays_C13
      rw [if_pos hw]
      simp only [eqS_refl]
      rfl
    · by_cases h9 : m = 9
      · subst h9
        refine ⟨_, _, s1, handle_9 n P M H hc how hw, ?_⟩
        unfold tailE
        rw [if_neg (by omega), if_neg (by omega), c12, Option.bind_some]
        simp only [Bool.false_eq_true, if_false]
        rw [if_neg hw, if_pos (show ((9 : Nat) : Int) = 9 from rfl)]
        unfold G_ringlaw5_SigSays_C14
        rw [if_neg hw, if_pos (show how ≥ 0 by omega)]
        simp only [eqS_refl]
        rfl
      · refine ⟨_, _, s1, handle_good n P M H hc g m how h1 h2 h9 hw, ?_⟩
        unfold tailE
        rw [if_neg (by omega), if_neg (by omega), c12, Option.bind_some]
        simp only [Bool.false_eq_true, if_false]
        rw [if_neg hw, if_neg (show ¬ (m : Int) = 9 by omega), if_pos ⟨by omega, by omega⟩, getH hm, Option.bind_some]
        by_cases q : how = 1
        · simp only [if_pos q]
          rw [without_good n P (ints (nums M)) _ m g.p hm (by omega), Option.bind_some, same_clr n P M H g m hm (by omega), Option.bind_some]
          rfl
        · simp only [if_neg q]
          rw [same_self n P M H g (by omega), Option.bind_some]
          rfl
def tailF (n : Nat) (v_n2 v_how3 : Int) (v_r40 v_r51 : S_sig_Set × Int) (v_r157 : S_ringref5_Signals) : Option Bool :=
  if v_n2 < 1 then
   (G_ringlaw5_SigSays_C19 n v_r40 v_r51).bind fun v_o1229 => match v_o1229 with
   | .x0 v_z1230 =>
     some v_z1230
  else
   if v_n2 > 15 then
    (G_ringlaw5_SigSays_C20 n v_r40 v_r51).bind fun v_o1241 => match v_o1241 with
    | .x0 v_z1242 =>
      some v_z1242
   else
    (G_ringlaw5_SigSays_C21 n v_n2 v_how3 v_r40 v_r51 v_r157).bind fun v_o1249 => match v_o1249 with
    | .x0 v_z1250 =>
      if v_z1250 = true then
       some false
      else
       if v_how3 < 0 then
        (G_ringlaw5_SigSays_C22 n v_how3 v_r51).bind fun v_o1267 => match v_o1267 with
        | .x0 v_z1268 =>
          some v_z1268
       else
        if v_n2 = 9 then
         (G_ringlaw5_SigSays_C23 n v_how3 v_r51).bind fun v_o1285 => match v_o1285 with
         | .x0 v_z1286 =>
           some v_z1286
        else
         if 0 ≤ v_n2 ∧ v_n2 < (16 : Int) then
          (getA v_r157.fHow v_n2).bind fun (v_y1287 : Int) =>
          if v_how3 = 1 then
           (G_ringref5_Signals_Without n (S_ringref5_Signals.mk v_r157.fWait v_r157.fBack (setA v_r157.fHow v_n2 v_how3)) v_n2).bind fun (v_r1289 : (S_ringref5_Signals)) =>
           if v_r51.2 = 0 then
            (G_ringlaw5_same n v_r51.1 v_r1289).bind fun (v_r1290 : (Bool)) =>
            some v_r1290
           else
            some false
          else
           if v_r51.2 = 0 then
            (G_ringlaw5_same n v_r51.1 (S_ringref5_Signals.mk v_r157.fWait v_r157.fBack (setA v_r157.fHow v_n2 v_how3))).bind fun (v_r1291 : (Bool)) =>
            some v_r1291
           else
            some false
         else none
theorem tailF_ok (n P M : Nat) (H : Fin 16 → Int) (hc : G_sig_Check n ⟨(P : Int), (M : Int), H⟩ = some 0) (g : Good P M H) (hn : 60 < n) (x how : Int) :
    ∃ r40 r51, G_sig_Send n ⟨(P : Int), (M : Int), H⟩ x = some r40 ∧ G_sig_Handle n ⟨(P : Int), (M : Int), H⟩ x how = some r51 ∧ tailF n x how r40 r51 ⟨ints (nums P), ints (nums M), H⟩ = some true := by
  by_cases hx : x < 1 ∨ x > 15
  · refine ⟨_, _, send_bad n P M H hc x hx, handle_bad n P M H hc x how hx, ?_⟩
    unfold tailF
    by_cases h1 : x < 1
    · rw [if_pos h1]
      unfold G_ringlaw5_SigSays_C19
      simp only [eqS_refl]
      rfl
    · rw [if_neg h1, if_pos (by omega)]
      unfold G_ringlaw5_SigSays_C20
      simp only [eqS_refl]
      rfl
  · obtain ⟨m, rfl⟩ := Int.eq_ofNat_of_zero_le (show 0 ≤ x by omega)
    have h1 : 1 ≤ m := by omega
    have h2 : m ≤ 15 := by omega
    have hm : m < 16 := by omega
    obtain ⟨s', r', s1, s2, s3⟩ := send_good n P M H hc g hn m h1 h2
    have c12 : ∀ r51, G_ringlaw5_SigSays_C21 n (m : Int) how (s', 0) r51 ⟨ints (nums P), ints (nums M), H⟩ = some (.x0 false) := by
      intro r51
      unfold G_ringlaw5_SigSays_C21
      simp only
      rw [if_pos trivial, s2, Option.bind_some, s3, Option.bind_some]
      rfl
    by_cases hw : how < 0
    · refine ⟨_, _, s1, handle_neg n P M H hc m how h1 h2 hw, ?_⟩
      unfold tailF
      rw [if_neg (by omega), if_neg (by omega), c12, Option.bind_some]
      simp only [Bool.false_eq_true, if_false]
      rw [if_pos hw]
      unfold G_ringlaw5_SigSays_C22
      rw [if_pos hw]
      simp only [eqS_refl]
      rfl
    · by_cases h9 : m = 9
      · subst h9
        refine ⟨_, _, s1, handle_9 n P M H hc how hw, ?_⟩
        unfold tailF
        rw [if_neg (by omega), if_neg (by omega), c12, Option.bind_some]
        simp only [Bool.false_eq_true, if_false]
        rw [if_neg hw, if_pos (show ((9 : Nat) : Int) = 9 from rfl)]
        unfold G_ringlaw5_SigSays_C23
        rw [if_neg hw, if_pos (show how ≥ 0 by omega)]
        simp only [eqS_refl]
        rfl
      · refine ⟨_, _, s1, handle_good n P M H hc g m how h1 h2 h9 hw, ?_⟩
        unfold tailF
        rw [if_neg (by omega), if_neg (by omega), c12, Option.bind_some]
        simp only [Bool.false_eq_true, if_false]
        rw [if_neg hw, if_neg (show ¬ (m : Int) = 9 by omega), if_pos ⟨by omega, by omega⟩, getH hm, Option.bind_some]
        by_cases q : how = 1
        · simp only [if_pos q]
          rw [without_good n P (ints (nums M)) _ m g.p hm (by omega), Option.bind_some, same_clr n P M H g m hm (by omega), Option.bind_some]
          rfl
        · simp only [if_neg q]
          rw [same_self n P M H g (by omega), Option.bind_some]
          rfl
theorem midE (n P M : Nat) (H : Fin 16 → Int) (hc : G_sig_Check n ⟨(P : Int), (M : Int), H⟩ = some 0) (x how : Int) (hx1 : -9223372036854775808 ≤ x) (hx2 : x ≤ 9223372036854775807) :
    ∃ r44, G_sig_Hold n ⟨(P : Int), (M : Int), H⟩ x = some r44 ∧ ∀ r40 r51 R, ∃ b, G_ringlaw5_SigSays_C7 n x how r40 r44 r51 ⟨(P : Int), (M : Int), H⟩ R = some (.x0 b) ∧ G_ringlaw5_SigSays_C9 n x how r40 r44 r51 b ⟨(P : Int), (M : Int), H⟩ R = some .x1 := by
  by_cases h : 0 ≤ x ∧ x ≤ 65535 ∧ x % 2 = 0
  · obtain ⟨N, rfl⟩ := Int.eq_ofNat_of_zero_le h.1
    refine ⟨_, hold_good n P M H hc N (by omega) (by omega), fun r40 r51 R => ⟨false, ?_, ?_⟩⟩
    · unfold G_ringlaw5_SigSays_C7
      rw [if_neg (by omega), if_neg (by omega), rem_nn (by omega), h.2.2]
      rfl
    · unfold G_ringlaw5_SigSays_C9
      rw [if_neg (by simp)]
      unfold G_ringlaw5_SigSays_C8
      simp only [eqH_refl]
      rfl
  · refine ⟨_, hold_bad n P M H hc x hx1 hx2 h, fun r40 r51 R => ⟨true, ?_, ?_⟩⟩
    · unfold G_ringlaw5_SigSays_C7
      by_cases h1 : x < 0
      · rw [if_pos h1]
      · by_cases h2 : x > 65535
        · rw [if_neg h1, if_pos h2]
        · have : x % 2 = 1 := by omega
          rw [if_neg h1, if_neg h2, rem_nn (by omega), this]
          rfl
    · unfold G_ringlaw5_SigSays_C9
      rw [if_pos rfl]
      simp only [eqS_refl]
      rfl
theorem midF (n P M : Nat) (H : Fin 16 → Int) (hc : G_sig_Check n ⟨(P : Int), (M : Int), H⟩ = some 0) (x how : Int) (hx1 : -9223372036854775808 ≤ x) (hx2 : x ≤ 9223372036854775807) :
    ∃ r44, G_sig_Hold n ⟨(P : Int), (M : Int), H⟩ x = some r44 ∧ ∀ r40 r51 R, ∃ b, G_ringlaw5_SigSays_C16 n x how r40 r44 r51 ⟨(P : Int), (M : Int), H⟩ R = some (.x0 b) ∧ G_ringlaw5_SigSays_C18 n x how r40 r44 r51 b ⟨(P : Int), (M : Int), H⟩ R = some .x1 := by
  by_cases h : 0 ≤ x ∧ x ≤ 65535 ∧ x % 2 = 0
  · obtain ⟨N, rfl⟩ := Int.eq_ofNat_of_zero_le h.1
    refine ⟨_, hold_good n P M H hc N (by omega) (by omega), fun r40 r51 R => ⟨false, ?_, ?_⟩⟩
    · unfold G_ringlaw5_SigSays_C16
      rw [if_neg (by omega), if_neg (by omega), rem_nn (by omega), h.2.2]
      rfl
    · unfold G_ringlaw5_SigSays_C18
      rw [if_neg (by simp)]
      unfold G_ringlaw5_SigSays_C17
      simp only [eqH_refl]
      rfl
  · refine ⟨_, hold_bad n P M H hc x hx1 hx2 h, fun r40 r51 R => ⟨true, ?_, ?_⟩⟩
    · unfold G_ringlaw5_SigSays_C16
      by_cases h1 : x < 0
      · rw [if_pos h1]
      · by_cases h2 : x > 65535
        · rw [if_neg h1, if_pos h2]
        · have : x % 2 = 1 := by omega
          rw [if_neg h1, if_neg h2, rem_nn (by omega), this]
          rfl
    · unfold G_ringlaw5_SigSays_C18
      rw [if_pos rfl]
      simp only [eqS_refl]
      rfl
theorem c4_ok (n P M : Nat) (H : Fin 16 → Int) (hc : G_sig_Check n ⟨(P : Int), (M : Int), H⟩ = some 0) (g : Good P M H) (hn : 60 < n) :
    ∃ r64, G_sig_Take n ⟨(P : Int), (M : Int), H⟩ = some r64 ∧ ∀ x how ex r40 r44 r51 r86, G_ringlaw5_SigSays_C4 n x how ex r40 r44 r51 (((nx P M : Nat) : Int), if nx P M = 0 then 4 else 0) r64 r86 ((nx P M : Nat) : Int) ⟨(P : Int), (M : Int), H⟩ ⟨ints (nums P), ints (nums M), H⟩ = some .x1 := by
  by_cases h : nx P M = 0
  · refine ⟨_, take_none n P M H hc g (by omega) h, fun x how ex r40 r44 r51 r86 => ?_⟩
    unfold G_ringlaw5_SigSays_C4
    rw [if_pos (by omega)]
    unfold G_ringlaw5_SigSays_C2
    simp only [h, eqS_refl]
    rfl
  · have hx := (nx_spec P M).1
    refine ⟨_, take_good n P M H hc g (by omega) h, fun x how ex r40 r44 r51 r86 => ?_⟩
    unfold G_ringlaw5_SigSays_C4
    rw [if_neg (by omega)]
    unfold G_ringlaw5_SigSays_C3
    simp only [if_neg h, if_true]
    rw [if_pos ⟨by omega, by omega⟩, getH hx, Option.bind_some, if_pos rfl, without_good n P (ints (nums M)) H _ g.p hx (by omega), Option.bind_some, same_clr n P M H g _ hx (by omega), Option.bind_some]
    rfl
theorem good_law (n P M : Nat) (H : Fin 16 → Int) (hc : G_sig_Check n ⟨(P : Int), (M : Int), H⟩ = some 0) (he : G_ringref5_SignalErr n (P : Int) (M : Int) H = some 0) (g : Good P M H) (hn : 60 < n) (x how : Int) (ex : Bool) (hx1 : -9223372036854775808 ≤ x) (hx2 : x ≤ 9223372036854775807) :
    G_ringlaw5_SigSays n ⟨(P : Int), (M : Int), H⟩ x how ex = some true := by
  obtain ⟨r64, t1, t2⟩ := c4_ok n P M H hc g hn
  have hof : G_ringref5_SignalsOf n (P : Int) (M : Int) H = some ⟨ints (nums P), ints (nums M), H⟩ := by
    unfold G_ringref5_SignalsOf
    rw [numbers_any n P g.p (by omega), Option.bind_some, numbers_any n M g.m (by omega), Option.bind_some]
  have hr := ready_good n P M H (by omega)
  have hnx := next_good n P M H hc g (by omega)
  cases ex with
  | true =>
    obtain ⟨r40, r51, a1, a2, a3⟩ := tailE_ok n P M H hc g hn x how
    obtain ⟨r44, b1, b2⟩ := midE n P M H hc x how hx1 hx2
    obtain ⟨b, b3, b4⟩ := b2 r40 r51 ⟨ints (nums P), ints (nums M), H⟩
    have hch := child_exec n P M H hc (by omega)
    have h5 := ref_loop n x how r40 r44 r51 (⟨(P : Int), (M : Int), hw H 16⟩, 0) ⟨ints (nums P), ints (nums M), H⟩ (P : Int) (M : Int) (ints (nums P)) (ints (nums M)) H n 0 (by omega) (by omega)
    rw [hw0] at h5
    have h5 : G_ringlaw5_SigSays_L5 n x how r40 r44 r51 (⟨(P : Int), (M : Int), hw H 16⟩, 0) ⟨(P : Int), (M : Int), H⟩ ⟨ints (nums P), ints (nums M), H⟩ n 0 ⟨ints (nums P), ints (nums M), H⟩ = _ := h5
    have h6 : G_ringlaw5_SigSays_C6 n x how r40 r44 r51 (⟨(P : Int), (M : Int), hw H 16⟩, 0) ⟨(P : Int), (M : Int), H⟩ ⟨ints (nums P), ints (nums M), H⟩ ⟨ints (nums P), ints (nums M), hw H 16⟩ = some (.x0 false) := by
      unfold G_ringlaw5_SigSays_C6
      simp only
      rw [if_pos trivial, same_self n P M H g (by omega), Option.bind_some]
      rfl
    unfold G_ringlaw5_SigSays
    simp only
    rw [a1, Option.bind_some, b1, Option.bind_some, a2, Option.bind_some, hnx, Option.bind_some, t1, Option.bind_some, hch, Option.bind_some, he, Option.bind_some, hc, Option.bind_some, if_pos (show (0 : Int) = 0 from rfl), if_pos (show (0 : Int) = 0 from rfl), hof, Option.bind_some, hr, Option.bind_some, t2, Option.bind_some]
    simp only []
    rw [if_pos trivial, h5, Option.bind_some]
    simp only []
    rw [h6, Option.bind_some]
    simp only [Bool.false_eq_true, if_false]
    rw [b3, Option.bind_some]
    simp only []
    rw [b4, Option.bind_some]
    exact a3
  | false =>
    obtain ⟨r40, r51, a1, a2, a3⟩ := tailF_ok n P M H hc g hn x how
    obtain ⟨r44, b1, b2⟩ := midF n P M H hc x how hx1 hx2
    obtain ⟨b, b3, b4⟩ := b2 r40 r51 ⟨ints (nums P), ints (nums M), H⟩
    have hch := child_fork n P M H hc
    have h6 : G_ringlaw5_SigSays_C15 n x how r40 r44 r51 (⟨0, (M : Int), H⟩, 0) ⟨(P : Int), (M : Int), H⟩ ⟨ints (nums P), ints (nums M), H⟩ = some (.x0 false) := by
      unfold G_ringlaw5_SigSays_C15
      simp only
      rw [if_pos trivial, same_fork n P M H g (by omega), Option.bind_some]
      rfl
    unfold G_ringlaw5_SigSays
    simp only
    rw [a1, Option.bind_some, b1, Option.bind_some, a2, Option.bind_some, hnx, Option.bind_some, t1, Option.bind_some, hch, Option.bind_some, he, Option.bind_some, hc, Option.bind_some, if_pos (show (0 : Int) = 0 from rfl), if_pos (show (0 : Int) = 0 from rfl), hof, Option.bind_some, hr, Option.bind_some, t2, Option.bind_some]
    simp only []
    rw [if_neg (show ¬ (false : Bool) = true by simp), h6, Option.bind_some]
    simp only [Bool.false_eq_true, if_false]
    rw [b3, Option.bind_some]
    simp only []
    rw [b4, Option.bind_some]
    exact a3
theorem bad_law (n : Nat) (s : S_sig_Set) (e : Int) (hc : G_sig_Check n s = some e) (he : G_ringref5_SignalErr n s.fPending s.fMask s.fHow = some e) (h : e ≠ 0) (x how : Int) (ex : Bool) :
    G_ringlaw5_SigSays n s x how ex = some true := by
  have a1 : G_sig_Send n s x = some (S_sig_Set.mk 0 0 (fun (_ : Fin 16) => 0), e) := by unfold G_sig_Send; rw [hc, Option.bind_some, if_neg h]
  have a2 : G_sig_Hold n s x = some (S_sig_Set.mk 0 0 (fun (_ : Fin 16) => 0), e) := by unfold G_sig_Hold; rw [hc, Option.bind_some, if_neg h]
  have a3 : G_sig_Handle n s x how = some (S_sig_Set.mk 0 0 (fun (_ : Fin 16) => 0), e) := by unfold G_sig_Handle; rw [hc, Option.bind_some, if_neg h]
  have a4 : G_sig_Next n s = some (0, e) := by unfold G_sig_Next; rw [hc, Option.bind_some, if_neg h]
  have a5 : G_sig_Take n s = some (S_sig_Set.mk 0 0 (fun (_ : Fin 16) => 0), 0, 0, e) := by unfold G_sig_Take; rw [a4, Option.bind_some]; simp only; rw [if_neg h]
  have a6 : G_sig_Child n s ex = some (S_sig_Set.mk 0 0 (fun (_ : Fin 16) => 0), e) := by unfold G_sig_Child; rw [hc, Option.bind_some, if_neg h]
  unfold G_ringlaw5_SigSays
  rw [a1, Option.bind_some, a2, Option.bind_some, a3, Option.bind_some, a4, Option.bind_some, a5, Option.bind_some, a6, Option.bind_some, he, Option.bind_some, hc, Option.bind_some, if_pos rfl, if_neg h]
  unfold G_ringlaw5_SigSays_C1
  simp only [eqS_refl, eqRes, if_true]
  rfl
theorem sig_law (n : Nat) (s : S_sig_Set) (x how : Int) (ex : Bool) (hp1 : -9223372036854775808 ≤ s.fPending) (hp2 : s.fPending ≤ 9223372036854775807) (hm1 : -9223372036854775808 ≤ s.fMask) (hm2 : s.fMask ≤ 9223372036854775807) (hx1 : -9223372036854775808 ≤ x) (hx2 : x ≤ 9223372036854775807) (hn : 60 < n) :
    G_ringlaw5_SigSays n s x how ex = some true := by
  obtain ⟨e, e1, e2, e3⟩ := check_any n s hp1 hp2 hm1 hm2 (by omega)
  by_cases he : e = 0
  · subst he
    obtain ⟨P, M, hs, g⟩ := e3 rfl
    generalize s.fHow = H at *
    subst hs
    exact good_law n P M H e1 e2 g hn x how ex hx1 hx2
  · exact bad_law n s e e1 e2 he x how ex
end Go.Proofs.Ytjjjaakefnnbpaa.pv
