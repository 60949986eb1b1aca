/- The plain law of SlabTells, fourth part: what Take and Give answer. -/
import Derived.Test.YtpeakaeblibfmaaLSb3
namespace Go.Proofs.Ytpeakaeblibfmaa.slabTells
open Go.RowKit help pv
set_option linter.all false

def none' : S_slab_Slab := ⟨0, []⟩
def pl0 : S_slab_Place := ⟨0, 0⟩
section
variable {n : Nat} {t : S_slab_Slab}
theorem take_bad (ok : Ok n t) (hb : bad t ≠ 0) (fr : Int) : G_slab_Take n t fr = some (none', pl0, false, bad t) := by
  unfold G_slab_Take
  rw [check ok, Option.bind_some, if_neg hb]; rfl
theorem give_bad (ok : Ok n t) (hb : bad t ≠ 0) (p : S_slab_Place) : G_slab_Give n t p = some (none', false, bad t) := by
  unfold G_slab_Give
  rw [check ok, Option.bind_some, if_neg hb]; rfl
theorem many_bad (ok : Ok n t) (hb : bad t ≠ 0) : G_slab_Many n t = some (0, 0, bad t) := by
  unfold G_slab_Many
  rw [check ok, Option.bind_some, if_neg hb]
variable (ok : Ok n t) (hb : bad t = 0)
include ok hb
theorem many_ok : G_slab_Many n t = some (sumU t.fBoxes, wi .i64 (wi .i64 ((t.fBoxes.length : Int) * 16) - wi .i64 (sumU t.fBoxes * t.fSize)), 0) := by
  obtain ⟨h1, h2, hl, hv⟩ := bad_ok hb
  have hn := ok.m
  have h := manyL (n := n) (t := t) hl (fun b hb => VU_len h1 (hv.1 b hb).2.2.2) n 0 0 (by omega) (by omega) (by omega) (by omega)
  have h : G_slab_Many_L1 n t n 0 0 = _ := h
  unfold G_slab_Many
  rw [check ok, Option.bind_some, if_pos hb, h, Option.bind_some, List.drop_zero, Int.zero_add]
/-- where a new box goes -/
theorem takeL4 {fr : Int} {l : List Bx} (hl : l.length ≤ 64) : ∀ (k i : Nat), l.length - i < k → i ≤ l.length → (∀ x ∈ l.take i, x.fFrame < fr) →
    ∃ j : Nat, G_slab_Take_L4 n t fr k (i : Int) l = some (.x0 (j : Int) l) ∧ j ≤ l.length ∧ (∀ x ∈ l.take j, x.fFrame < fr) ∧ ∀ x, l[j]? = some x → fr ≤ x.fFrame
  | 0, i, h, _, _ => by omega
  | k + 1, i, h, hi, hp => by
    rw [G_slab_Take_L4]
    by_cases hlt : (i : Int) < (l.length : Int)
    · obtain ⟨x, hx⟩ := get_lt hlt
      rw [if_pos hlt, if_pos (by omega), Int.toNat_natCast, hx, Option.bind_some]
      by_cases c : x.fFrame < fr
      · rw [if_pos c, wi_succ (by omega)]
        refine takeL4 hl k (i + 1) (by omega) (by omega) ?_
        intro y hy
        rw [List.take_add_one, hx] at hy
        simp only [Option.toList_some, List.mem_append, List.mem_singleton] at hy
        rcases hy with hy | rfl
        · exact hp y hy
        · exact c
      · rw [if_neg c]
        refine ⟨i, rfl, by omega, hp, ?_⟩
        intro y hy
        rw [hx] at hy
        cases hy
        omega
    · rw [if_neg hlt]
      refine ⟨i, rfl, by omega, hp, ?_⟩
      intro y hy
      have := (List.getElem?_eq_some_iff.1 hy).1
      omega
/-- what Take answers, beside SlabRoom -/
theorem take_ok (fr : Int) :
    (∃ l pl, VB t.fSize l ∧ l.length ≤ 64 ∧ G_slab_Take n t fr = some (⟨t.fSize, l⟩, pl, false, 0) ∧ G_ringref2_SlabRoom n t = some (pl, true) ∧ 0 ≤ pl.fFrame ∧ pl.fFrame < 64 ∧ 0 ≤ pl.fAt ∧ pl.fAt < 16 ∧ (∀ f a, hs l f a = upd2 (hs t.fBoxes) pl.fFrame pl.fAt true f a)) ∨
    (G_ringref2_SlabRoom n t = some (pl0, false) ∧
      ((¬ (0 ≤ fr ∧ fr ≤ 63) ∧ G_slab_Take n t fr = some (none', pl0, false, 6)) ∨
       (0 ≤ fr ∧ fr ≤ 63 ∧ (∃ b ∈ t.fBoxes, b.fFrame = fr) ∧ G_slab_Take n t fr = some (none', pl0, false, 5)) ∨
       (0 ≤ fr ∧ fr ≤ 63 ∧ (¬ ∃ b ∈ t.fBoxes, b.fFrame = fr) ∧ ∃ l, VB t.fSize l ∧ l.length ≤ 65 ∧ G_slab_Take n t fr = some (⟨t.fSize, l⟩, ⟨fr, 0⟩, true, 0) ∧ (∀ f a, hs l f a = upd2 (hs t.fBoxes) fr 0 true f a)))) := by
  obtain ⟨h1, h2, hl, hv⟩ := bad_ok hb
  have hn := ok.m
  have hT : ∀ r, G_slab_Take_L3 n t fr n 0 t.fBoxes = some r → G_slab_Take n t fr = (match r with
      | .x0 v_z724 v_z725 v_z726 v_z727 => some ((S_slab_Slab.mk t.fSize v_z726), v_z727, v_z724, v_z725)
      | .x1 v_z728 =>
        if fr < 0 then G_slab_Take_J1 n 0 (S_slab_Place.mk 0 0)
        else if fr ≥ 64 then G_slab_Take_J1 n 0 (S_slab_Place.mk 0 0)
        else (G_slices_ContainsFunc_slab_Box_slab_Box n v_z728 (fun (y0 : S_slab_Box) => G_slab_Take_1 n y0 fr)).bind fun (v_r756 : (Bool)) =>
          if v_r756 = true then some ((S_slab_Slab.mk 0 ([] : (List S_slab_Box))), (S_slab_Place.mk 0 0), false, 5)
          else (G_slab_Take_L4 n t fr n 0 v_z728).bind fun v_o813 => match v_o813 with
            | .x0 v_z814 v_z815 =>
              (G_slices_Insert_slab_Box_slab_Box_h n v_z815 v_z814 ([(S_slab_Box.mk fr ([0]))])).bind fun (v_r828 : ((List S_slab_Box))) =>
              some ((S_slab_Slab.mk t.fSize v_r828), (S_slab_Place.mk fr 0), true, 0)) := by
    intro r hr
    unfold G_slab_Take
    rw [check ok, Option.bind_some, if_pos hb, copied (by omega) h1 hl hv, Option.bind_some, hr, Option.bind_some]
    cases r <;> rfl
  have hR : ∀ r, G_ringref2_SlabRoom_L2 n t (toA (hs t.fBoxes)) n 0 = some r → G_ringref2_SlabRoom n t = (match r with | .x0 a b => some (b, a) | .x1 => some (pl0, false)) := by
    intro r hr
    unfold G_ringref2_SlabRoom
    rw [has (by omega) h1 hl hv, Option.bind_some, hr, Option.bind_some]
    cases r <;> rfl
  rcases bothL3 (n := n) (t := t) (by omega) h1 h2 hl hv (fr := fr) n 0 (by omega) (by omega) with ⟨j, r, b, e1, e2, e3, e4, e5, e6⟩ | ⟨e5, e6⟩
  · left
    have e5 : G_slab_Take_L3 n t fr n 0 t.fBoxes = _ := e5
    have e6 : G_ringref2_SlabRoom_L2 n t (toA (hs t.fBoxes)) n 0 = _ := e6
    have hbm := List.mem_of_getElem? e1
    obtain ⟨y1, y2, y3, y4⟩ := hv.1 b hbm
    have hi := VU_ins h1 h2 y4 e2 e3 e4
    have hfit := (perN h1 h2).1 e2
    have hnn : 0 ≤ (r : Int) * t.fSize := Int.mul_nonneg (by omega) (by omega)
    refine ⟨_, ⟨b.fFrame, (r : Int) * t.fSize⟩, VB_set hv e1 (by
        intro h
        have : (r : Int) * t.fSize ∈ insU b.fUsed r t.fSize := mem_insU.2 (.inr rfl)
        rw [h] at this; cases this) hi.1, by rw [List.length_set]; exact hl, hT _ e5, hR _ e6, y1, by simp only; omega, hnn, by simp only; omega, fun f a => ?_⟩
    obtain ⟨s1, s2⟩ := set_split (x := ⟨b.fFrame, insU b.fUsed r t.fSize⟩) e1
    rw [s1, hs_app, hs_one]
    unfold upd2
    have s3 : hs t.fBoxes f a = (hs (t.fBoxes.take j) f a || ((decide (b.fFrame = f) && decide (a ∈ b.fUsed)) || hs (t.fBoxes.drop (j + 1)) f a)) := by
      conv => lhs; rw [s2]
      rw [hs_app, hs_one]
    by_cases c : f = b.fFrame ∧ a = (r : Int) * t.fSize
    · rw [if_pos c]
      have : a ∈ insU b.fUsed r t.fSize := mem_insU.2 (.inr c.2)
      simp [c.1.symm, this]
    · rw [if_neg c, s3]
      congr 2
      by_cases d : b.fFrame = f
      · have : a ∈ insU b.fUsed r t.fSize ↔ a ∈ b.fUsed := by
          rw [mem_insU]
          exact ⟨fun h => h.resolve_right fun e => c ⟨d.symm, e⟩, .inl⟩
        simp [d, this]
      · simp [d]
  · right
    have e5 : G_slab_Take_L3 n t fr n 0 t.fBoxes = _ := e5
    have e6 : G_ringref2_SlabRoom_L2 n t (toA (hs t.fBoxes)) n 0 = _ := e6
    refine ⟨hR _ e6, ?_⟩
    rw [hT _ e5]
    simp only []
    by_cases c : 0 ≤ fr ∧ fr ≤ 63
    case neg =>
      left
      refine ⟨c, ?_⟩
      by_cases d : fr < 0
      · rw [if_pos d]; rfl
      · rw [if_neg d, if_pos (by omega)]; rfl
    right
    have hcf := G_slices_ContainsFunc_slab_Box_slab_Box_sp (n := n) (l := t.fBoxes) (f := fun y0 => G_slab_Take_1 n y0 fr) (fun b => b.fFrame == fr) (fun y _ => rfl) (by omega) (by omega)
    rw [if_neg (by omega), if_neg (by omega), hcf, Option.bind_some]
    by_cases d : ∃ b ∈ t.fBoxes, b.fFrame = fr
    · left
      refine ⟨c.1, c.2, d, ?_⟩
      rw [if_pos (by simpa using d)]; rfl
    · right
      refine ⟨c.1, c.2, d, ?_⟩
      rw [if_neg (by simpa using d)]
      obtain ⟨j, f1, f2, f3, f4⟩ := takeL4 (n := n) (t := t) ok hb (fr := fr) hl n 0 (by omega) (by omega) (by simp)
      have f1 : G_slab_Take_L4 n t fr n 0 t.fBoxes = _ := f1
      rw [f1, Option.bind_some]
      simp only []
      unfold G_slices_Insert_slab_Box_slab_Box_h insI
      rw [if_pos (by simp; omega), Option.bind_some, Int.toNat_natCast]
      have hp := hv.2
      rw [← List.take_append_drop j t.fBoxes, List.pairwise_append] at hp
      obtain ⟨p1, p2, p3⟩ := hp
      have hge : ∀ x ∈ t.fBoxes.drop j, fr < x.fFrame := by
        intro x hx
        have hxm := List.mem_of_mem_drop hx
        have hne : x.fFrame ≠ fr := fun e => d ⟨x, hxm, e⟩
        by_cases hj : j < t.fBoxes.length
        · have hg := List.getElem?_eq_getElem hj
          have h4 := f4 _ hg
          rw [drop_cons hg] at hx p2
          rcases List.mem_cons.1 hx with rfl | hx
          · omega
          · have := (List.pairwise_cons.1 p2).1 x hx
            omega
        · rw [List.drop_of_length_le (by omega)] at hx; cases hx
      refine ⟨_, ⟨fun x hx => ?_, ?_⟩, ?_, rfl, fun f a => ?_⟩
      · simp only [List.mem_append, List.mem_singleton] at hx
        rcases hx with (hx | rfl) | hx
        · exact hv.1 x (List.mem_of_mem_take hx)
        · exact ⟨c.1, c.2, by simp, ⟨fun a ha => by
            simp only [List.mem_singleton] at ha
            subst ha
            exact ⟨by omega, by simp, by omega⟩, by simp⟩⟩
        · exact hv.1 x (List.mem_of_mem_drop hx)
      · rw [List.append_assoc, List.pairwise_append]
        refine ⟨p1, .cons hge p2, fun x hx y hy => ?_⟩
        rw [List.singleton_append] at hy
        rcases List.mem_cons.1 hy with rfl | hy
        · exact f3 x hx
        · exact p3 x hx y hy
      · simp; omega
      · have s3 : hs t.fBoxes f a = (hs (t.fBoxes.take j) f a || hs (t.fBoxes.drop j) f a) := by
          conv => lhs; rw [← List.take_append_drop j t.fBoxes]
          rw [hs_app]
        rw [List.append_assoc, hs_app, List.singleton_append, hs_one]
        unfold upd2
        by_cases e : f = fr ∧ a = 0
        · rw [if_pos e]; simp [e.1, e.2]
        · rw [if_neg e, s3]
          by_cases g : fr = f
          · have : a ≠ 0 := fun h => e ⟨g.symm, h⟩
            simp [this]
          · simp [g]
/-- the used parts with one less -/
theorem VU_del {s : Int} {l : List Int} {q : Nat} {a : Int} (hv : VU s l) (hq : l[q]? = some a) : VU s (l.take q ++ l.drop (q + 1)) ∧ ∀ x, x ∈ l.take q ++ l.drop (q + 1) ↔ x ∈ l ∧ x ≠ a := by
  have e : l = l.take q ++ a :: l.drop (q + 1) := by rw [← drop_cons hq, List.take_append_drop]
  have hsub : List.Sublist (l.take q ++ l.drop (q + 1)) l := by
    conv => rhs; rw [e]
    exact List.Sublist.append (List.Sublist.refl _) (List.sublist_cons_self _ _)
  have hp := hv.2
  rw [e, List.pairwise_append] at hp
  obtain ⟨p1, p2, p3⟩ := hp
  refine ⟨⟨fun x hx => hv.1 x (hsub.subset hx), hv.2.sublist hsub⟩, fun x => ⟨fun hx => ⟨hsub.subset hx, ?_⟩, fun ⟨hx, hne⟩ => ?_⟩⟩
  · rintro rfl
    rcases List.mem_append.1 hx with h | h
    · have := p3 x h x (List.mem_cons_self ..); omega
    · have := (List.pairwise_cons.1 p2).1 x h; omega
  · rw [e] at hx
    rcases List.mem_append.1 hx with h | h
    · exact List.mem_append.2 (.inl h)
    · rcases List.mem_cons.1 h with h | h
      · exact absurd h hne
      · exact List.mem_append.2 (.inr h)
theorem giveL1 {p : S_slab_Place} : ∀ (k i : Nat), t.fBoxes.length - i < k → i ≤ t.fBoxes.length →
    (∃ (j q : Nat) (b : Bx), t.fBoxes[j]? = some b ∧ b.fFrame = p.fFrame ∧ b.fUsed[q]? = some p.fAt ∧
      ((1 < b.fUsed.length ∧ G_slab_Give_L1 n t p k (i : Int) = some (.x0 false 0 (t.fBoxes.set j ⟨b.fFrame, b.fUsed.take q ++ b.fUsed.drop (q + 1)⟩))) ∨
       (b.fUsed.length ≤ 1 ∧ G_slab_Give_L1 n t p k (i : Int) = some (.x1 true 0 (t.fBoxes.take j ++ t.fBoxes.drop (j + 1)))))) ∨
    ((∀ b ∈ t.fBoxes.drop i, ¬ (b.fFrame = p.fFrame ∧ p.fAt ∈ b.fUsed)) ∧ G_slab_Give_L1 n t p k (i : Int) = some .x2)
  | 0, i, h, _ => by omega
  | k + 1, i, h, hi => by
    obtain ⟨h1, h2, hl, hv⟩ := bad_ok hb
    have hn := ok.m
    rw [G_slab_Give_L1]
    by_cases hlt : (i : Int) < (t.fBoxes.length : Int)
    · obtain ⟨y, hy⟩ := get_lt hlt
      obtain ⟨y1, y2, y3, y4⟩ := hv.1 y (List.mem_of_getElem? hy)
      have hyl := VU_len h1 y4
      rw [if_pos hlt, if_pos (by omega), Int.toNat_natCast, hy, Option.bind_some]
      have next : ¬ (y.fFrame = p.fFrame ∧ p.fAt ∈ y.fUsed) → (∃ (j q : Nat) (b : Bx), t.fBoxes[j]? = some b ∧ b.fFrame = p.fFrame ∧ b.fUsed[q]? = some p.fAt ∧
          ((1 < b.fUsed.length ∧ G_slab_Give_L1 n t p k (wi .i64 ((i : Int) + 1)) = some (.x0 false 0 (t.fBoxes.set j ⟨b.fFrame, b.fUsed.take q ++ b.fUsed.drop (q + 1)⟩))) ∨
           (b.fUsed.length ≤ 1 ∧ G_slab_Give_L1 n t p k (wi .i64 ((i : Int) + 1)) = some (.x1 true 0 (t.fBoxes.take j ++ t.fBoxes.drop (j + 1)))))) ∨
          ((∀ b ∈ t.fBoxes.drop i, ¬ (b.fFrame = p.fFrame ∧ p.fAt ∈ b.fUsed)) ∧ G_slab_Give_L1 n t p k (wi .i64 ((i : Int) + 1)) = some .x2) := by
        intro hno
        rw [wi_succ (by omega)]
        rcases giveL1 k (i + 1) (by omega) (by omega) with h | ⟨h, h'⟩
        · exact .inl h
        · refine .inr ⟨fun b hb => ?_, h'⟩
          rw [drop_cons hy] at hb
          rcases List.mem_cons.1 hb with rfl | hb
          · exact hno
          · exact h b hb
      rcases G_slices_Index_int_int_sp (n := n) (l := y.fUsed) p.fAt (by omega) (by omega) with ⟨g1, g2⟩ | ⟨q, g1, g2, g3⟩
      · rw [g2, Option.bind_some]
        by_cases c : y.fFrame = p.fFrame
        · rw [if_pos c, if_pos (by decide)]
          exact next (fun h => g1 h.2)
        · rw [if_neg c]
          exact next (fun h => c h.1)
      · have hql := (List.getElem?_eq_some_iff.1 g2).1
        rw [g1, Option.bind_some]
        by_cases c : y.fFrame = p.fFrame
        · left
          refine ⟨i, q, y, hy, c, g2, ?_⟩
          rw [if_pos c, if_neg (by omega), wi_succ (by omega), G_slices_Delete_int_int_h_sp (by omega) (by omega), Option.bind_some, if_pos (by omega), if_pos (by omega)]
          by_cases d : (y.fUsed.length : Int) > 1
          · left
            rw [if_pos d]
            exact ⟨by omega, rfl⟩
          · right
            rw [if_neg d, wi_succ (by omega), G_slices_Delete_slab_Box_slab_Box_h_sp (by omega) (by rw [List.length_set]; omega), Option.bind_some]
            refine ⟨by omega, ?_⟩
            rw [List.take_set_of_le (Nat.le_refl _), List.drop_set_of_lt (by omega)]
        · rw [if_neg c]
          exact next (fun h => c h.1)
    · rw [if_neg hlt]
      refine .inr ⟨fun b hb => ?_, rfl⟩
      rw [drop_end hlt] at hb; cases hb
/-- what Give answers -/
theorem give_ok (p : S_slab_Place) :
    (hs t.fBoxes p.fFrame p.fAt = false ∧ G_slab_Give n t p = some (none', false, 4)) ∨
    (hs t.fBoxes p.fFrame p.fAt = true ∧ 0 ≤ p.fFrame ∧ p.fFrame < 64 ∧ 0 ≤ p.fAt ∧ p.fAt < 16 ∧ ∃ l gone, VB t.fSize l ∧ l.length ≤ 64 ∧ G_slab_Give n t p = some (⟨t.fSize, l⟩, gone, 0) ∧ (∀ f a, hs l f a = upd2 (hs t.fBoxes) p.fFrame p.fAt false f a) ∧ (gone = true ↔ ¬ ∃ b ∈ l, b.fFrame = p.fFrame)) := by
  obtain ⟨h1, h2, hl, hv⟩ := bad_ok hb
  have hn := ok.m
  have hT : ∀ r, G_slab_Give_L1 n t p n 0 = some r → G_slab_Give n t p = (match r with
      | .x0 a b w => some ((S_slab_Slab.mk t.fSize w), a, b)
      | .x1 a b w => some ((S_slab_Slab.mk t.fSize w), a, b)
      | .x2 => some (none', false, 4)) := by
    intro r hr
    unfold G_slab_Give
    rw [check ok, Option.bind_some, if_pos hb, copied (by omega) h1 hl hv, Option.bind_some, hr, Option.bind_some]
    cases r <;> rfl
  rcases giveL1 ok hb (p := p) n 0 (by omega) (by omega) with ⟨j, q, b, e1, e2, e3, e4⟩ | ⟨e1, e2⟩
  · right
    have hbm := List.mem_of_getElem? e1
    obtain ⟨y1, y2, y3, y4⟩ := hv.1 b hbm
    have hpm := List.mem_of_getElem? e3
    have hpa := y4.1 _ hpm
    obtain ⟨d1, d2⟩ := VU_del ok hb y4 e3
    have hql := (List.getElem?_eq_some_iff.1 e3).1
    refine ⟨hs_iff.2 ⟨b, hbm, e2, hpm⟩, by omega, by omega, by omega, by omega, ?_⟩
    obtain ⟨s1, s2⟩ := set_split (x := ⟨b.fFrame, b.fUsed.take q ++ b.fUsed.drop (q + 1)⟩) e1
    have s3 : ∀ f a, hs t.fBoxes f a = (hs (t.fBoxes.take j) f a || ((decide (b.fFrame = f) && decide (a ∈ b.fUsed)) || hs (t.fBoxes.drop (j + 1)) f a)) := by
      intro f a
      conv => lhs; rw [s2]
      rw [hs_app, hs_one]
    have hp := hv.2
    rw [s2, List.pairwise_append] at hp
    obtain ⟨p1, p2, p3⟩ := hp
    have hA : ∀ x ∈ t.fBoxes.take j, x.fFrame ≠ b.fFrame := fun x hx => by have := p3 x hx b (List.mem_cons_self ..); omega
    have hC : ∀ x ∈ t.fBoxes.drop (j + 1), x.fFrame ≠ b.fFrame := fun x hx => by have := (List.pairwise_cons.1 p2).1 x hx; omega
    have hsA : ∀ {L : List Bx} {a : Int}, (∀ x ∈ L, x.fFrame ≠ b.fFrame) → hs L b.fFrame a = false := by
      intro L a hL
      rw [Bool.eq_false_iff, ne_eq, hs_iff]
      rintro ⟨x, hx, hx1, _⟩
      exact hL x hx hx1
    rcases e4 with ⟨e4, e5⟩ | ⟨e4, e5⟩
    · have e5 : G_slab_Give_L1 n t p n 0 = _ := e5
      have hne : b.fUsed.take q ++ b.fUsed.drop (q + 1) ≠ [] := by
        intro h
        have := congrArg List.length h
        rw [List.length_append, List.length_take, List.length_drop, List.length_nil] at this
        omega
      refine ⟨_, false, VB_set hv e1 hne d1, by rw [List.length_set]; exact hl, hT _ e5, fun f a => ?_, ?_⟩
      · rw [s1, hs_app, hs_one]
        unfold upd2
        by_cases c : f = p.fFrame ∧ a = p.fAt
        · rw [if_pos c, c.1, ← e2, hsA hA, hsA hC]
          have : ¬ a ∈ b.fUsed.take q ++ b.fUsed.drop (q + 1) := fun h => ((d2 a).1 h).2 c.2
          rw [decide_eq_false this]; simp
        · rw [if_neg c, s3]
          congr 2
          by_cases g : b.fFrame = f
          · have : a ∈ b.fUsed.take q ++ b.fUsed.drop (q + 1) ↔ a ∈ b.fUsed := by
              rw [d2]
              exact ⟨fun h => h.1, fun h => ⟨h, fun e => c ⟨by rw [← g, e2], e⟩⟩⟩
            rw [decide_eq_decide.2 this]
          · simp [g]
      · simp only [Bool.false_eq_true, false_iff, Classical.not_not]
        refine ⟨⟨b.fFrame, b.fUsed.take q ++ b.fUsed.drop (q + 1)⟩, ?_, e2⟩
        rw [s1]; exact List.mem_append.2 (.inr (List.mem_cons_self ..))
    · have e5 : G_slab_Give_L1 n t p n 0 = _ := e5
      have hone : b.fUsed = [p.fAt] := by
        cases hu : b.fUsed with
        | nil => exact absurd hu y3
        | cons x r =>
          rw [hu] at e4 e3
          have : r = [] := by cases r with | nil => rfl | cons _ _ => simp at e4
          subst this
          have : q = 0 := by rw [hu] at hql; simp at hql; exact hql
          subst this
          simp at e3; rw [e3]
      have hsub : List.Sublist (t.fBoxes.take j ++ t.fBoxes.drop (j + 1)) t.fBoxes := by
        conv => rhs; rw [s2]
        exact List.Sublist.append (List.Sublist.refl _) (List.sublist_cons_self _ _)
      refine ⟨_, true, ⟨fun x hx => hv.1 x (hsub.subset hx), hv.2.sublist hsub⟩, Nat.le_trans hsub.length_le hl, hT _ e5, fun f a => ?_, ?_⟩
      · rw [hs_app]
        unfold upd2
        by_cases c : f = p.fFrame ∧ a = p.fAt
        · rw [if_pos c, c.1, ← e2, hsA hA, hsA hC]; rfl
        · rw [if_neg c, s3, hone]
          by_cases g : b.fFrame = f
          · have : a ≠ p.fAt := fun e => c ⟨by rw [← g, e2], e⟩
            simp [this]
          · simp [g]
      · simp only [true_iff]
        rintro ⟨x, hx, hx1⟩
        rcases List.mem_append.1 hx with h | h
        · exact hA x h (by rw [hx1, e2])
        · exact hC x h (by rw [hx1, e2])
  · left
    have e2 : G_slab_Give_L1 n t p n 0 = _ := e2
    refine ⟨?_, hT _ e2⟩
    rw [Bool.eq_false_iff, ne_eq, hs_iff]
    rintro ⟨b, hb', h3, h4⟩
    rw [List.drop_zero] at e1
    exact e1 b hb' ⟨h3, h4⟩
end
end Go.Proofs.Ytpeakaeblibfmaa.slabTells
