/- The plain law of SlabTells: all of it. -/
import Derived.Test.YtpeakaeblibfmaaLSb4
namespace Go.Proofs.Ytpeakaeblibfmaa.slabTells
open Go.RowKit help pv
set_option linter.all false

theorem upd2_upd2 (h : Int → Int → Bool) (f a : Int) (v v' : Bool) : upd2 (upd2 h f a v) f a v' = upd2 h f a v' := by
  funext x y
  unfold upd2
  split <;> rfl
theorem upd2_same {h : Int → Int → Bool} {f a : Int} {v : Bool} (e : h f a = v) : upd2 h f a v = h := by
  funext x y
  unfold upd2
  split
  · rename_i c; rw [c.1, c.2, e]
  · rfl
theorem eqP (p : S_slab_Place) : (eqRes .eql (eqS_slab_Place p p)) = true := by simp [eqRes, eqS_slab_Place]
theorem eqB (b : Bool) : (eqRes .eql (b == b)) = true := by simp [eqRes]
/-- a frame that has a box -/
theorem boxed_iff {s : Int} {l : List Bx} {f : Int} (h1 : 1 ≤ s) (hv : VB s l) : (∃ a, 0 ≤ a ∧ a < 16 ∧ hs l f a = true) ↔ ∃ b ∈ l, b.fFrame = f := by
  constructor
  · rintro ⟨a, _, _, h⟩
    obtain ⟨b, hb, h2, _⟩ := hs_iff.1 h
    exact ⟨b, hb, h2⟩
  · rintro ⟨b, hb, h2⟩
    obtain ⟨y1, y2, y3, y4⟩ := hv.1 b hb
    cases hu : b.fUsed with
    | nil => exact absurd hu y3
    | cons a r =>
      have ha : a ∈ b.fUsed := by rw [hu]; exact List.mem_cons_self ..
      have := y4.1 a ha
      exact ⟨a, by omega, by omega, hs_iff.2 ⟨b, hb, h2, ha⟩⟩
section
variable {n : Nat} {t : S_slab_Slab} (ok : Ok n t)
include ok
theorem sn : G_ringref2_SlabSame n none' none' = some true := by
  have := ok.m
  exact same _ (by simp [none']) (by simp [none']; omega) (by simp [none'])
theorem lawC1 {sz fr : Int} {x : S_slab_Slab × Int} {x1 : S_slab_Slab × S_slab_Place × Bool × Int} {x2 : S_slab_Slab × Bool × Int} {x3 : Int × Int × Int} {p : S_slab_Place} (h : G_slab_New n sz = some x) :
    G_ringlaw2_SlabTells_C1 n sz fr x x1 x2 x3 t p = some (.x0 false) := by
  have hn := ok.m
  unfold G_ringlaw2_SlabTells_C1
  rw [newG] at h
  rw [inG, Option.bind_some]
  by_cases c : 1 ≤ sz ∧ sz ≤ 16
  · rw [if_pos c] at h
    cases h
    rw [if_pos (by simpa using c), Option.bind_some, if_pos (by simpa using c), same _ (by simp) (by simp; omega) (by simp), Option.bind_some, if_pos rfl]
    rfl
  · rw [if_neg c] at h
    cases h
    have s := sn ok
    unfold none' at s
    rw [if_neg (by simpa using c), s, Option.bind_some, if_pos rfl, if_pos rfl, Option.bind_some, if_neg (by simpa using c)]
variable (hb : bad t = 0)
include hb
/-- the law's last part: what Take answers -/
theorem lawJ {fr : Int} {k : S_slab_Slab × S_slab_Place × Bool × Int} (hk : G_slab_Take n t fr = some k) :
    ∃ rm, G_ringref2_SlabRoom n t = some rm ∧ ∃ bad' pl, ((rm.2 = true ∧ bad' = 0 ∧ pl = rm.1) ∨ (rm.2 = false ∧ ¬ (0 ≤ fr ∧ fr ≤ 63) ∧ bad' = 6 ∧ pl = rm.1) ∨ (rm.2 = false ∧ (0 ≤ fr ∧ fr ≤ 63) ∧ (∃ b ∈ t.fBoxes, b.fFrame = fr) ∧ bad' = 5 ∧ pl = rm.1) ∨ (rm.2 = false ∧ (0 ≤ fr ∧ fr ≤ 63) ∧ (¬ ∃ b ∈ t.fBoxes, b.fFrame = fr) ∧ bad' = 0 ∧ pl = ⟨fr, 0⟩)) ∧
      G_ringlaw2_SlabTells_J1 n t k.1 k.2.1 0 (toA (hs t.fBoxes)) pl k.2.2.1 k.2.2.2 bad' rm.2 = some true := by
  obtain ⟨h1, h2, hl, hv⟩ := bad_ok hb
  have hn := ok.m
  have hJ : ∀ (l : List Bx) (pl : S_slab_Place) (fresh : Bool), VB t.fSize l → l.length ≤ 65 → 0 ≤ pl.fFrame → pl.fFrame < 64 → 0 ≤ pl.fAt → pl.fAt < 16 → (∀ f a, hs l f a = upd2 (hs t.fBoxes) pl.fFrame pl.fAt true f a) →
      G_ringlaw2_SlabTells_J1 n t ⟨t.fSize, l⟩ pl 0 (toA (hs t.fBoxes)) pl fresh 0 0 (!fresh) = some true := by
    intro l pl fresh hvl hll q1 q2 q3 q4 e
    unfold G_ringlaw2_SlabTells_J1 G_ringlaw2_SlabTells_C12
    rw [if_pos rfl, if_pos ⟨q1, q2⟩, if_pos ⟨q3, q4⟩, getA_toA q1 q2, Option.bind_some, getA_row q3 q4, Option.bind_some, setA_toA true q1 q2 q3 q4, slabOf_V (s := t.fSize) (l := l) (by omega) h1 hvl (fun f a _ _ _ _ => (e f a).symm), Option.bind_some, sameV t.fSize h1 hvl (by omega) (by omega), Option.bind_some, if_pos rfl, if_pos (eqP pl)]
    cases fresh <;> simp [eqRes]
  have hE : ∀ (bad' : Int) (pl : S_slab_Place) (o : Bool), bad' ≠ 0 → G_ringlaw2_SlabTells_J1 n t none' pl0 0 (toA (hs t.fBoxes)) pl false bad' bad' o = some true := by
    intro bad' pl o hne
    have s := sn ok
    unfold G_ringlaw2_SlabTells_J1 G_ringlaw2_SlabTells_C11
    rw [if_neg hne]
    have s' : G_ringref2_SlabSame n none' ⟨0, []⟩ = some true := s
    have e0 : (eqRes .eql (eqS_slab_Place pl0 ⟨0, 0⟩)) = true := eqP pl0
    rw [s', Option.bind_some, if_pos rfl, if_pos e0]
    simp
  rcases take_ok ok hb fr with ⟨l, pl, a1, a2, a3, a4, a5, a6, a7, a8, a9⟩ | ⟨a1, a2⟩
  · rw [a3] at hk; cases hk
    exact ⟨_, a4, 0, pl, .inl ⟨rfl, rfl, rfl⟩, hJ l pl false a1 (by omega) a5 a6 a7 a8 a9⟩
  · refine ⟨_, a1, ?_⟩
    rcases a2 with ⟨b1, b2⟩ | ⟨b0, b1, b2, b3⟩ | ⟨b0, b1, b2, l, b3, b4, b5, b6⟩
    · rw [b2] at hk; cases hk
      exact ⟨6, pl0, .inr (.inl ⟨rfl, b1, rfl, rfl⟩), hE 6 pl0 false (by decide)⟩
    · rw [b3] at hk; cases hk
      exact ⟨5, pl0, .inr (.inr (.inl ⟨rfl, ⟨b0, b1⟩, b2, rfl, rfl⟩)), hE 5 pl0 false (by decide)⟩
    · rw [b5] at hk; cases hk
      exact ⟨0, ⟨fr, 0⟩, .inr (.inr (.inr ⟨rfl, ⟨b0, b1⟩, b2, rfl, rfl⟩)), hJ l ⟨fr, 0⟩ true b3 b4 b0 (by simp only; omega) (by simp) (by simp) b6⟩
end
theorem law_at {n : Nat} {t : S_slab_Slab} (ok : Ok n t) (sz fr : Int) (p : S_slab_Place) : G_ringlaw2_SlabTells n t sz fr p = some true := by
  have hn := ok.m
  have hsn : G_ringref2_SlabSame n none' ⟨0, []⟩ = some true := sn ok
  unfold G_ringlaw2_SlabTells
  rw [newG, Option.bind_some]
  by_cases hb : bad t = 0
  · obtain ⟨h1, h2, hl, hv⟩ := bad_ok hb
    obtain ⟨k, hk⟩ : ∃ k, G_slab_Take n t fr = some k := by
      rcases take_ok ok hb fr with ⟨l, pl, _, _, h, _⟩ | ⟨_, ⟨_, h⟩ | ⟨_, _, _, h⟩ | ⟨_, _, _, l, _, _, h, _⟩⟩ <;> exact ⟨_, h⟩
    obtain ⟨rm, hrm, bad', pl, hcase, hJ⟩ := lawJ ok hb hk
    -- what Give answers, in the law's words
    have hG : ∃ g, G_slab_Give n t p = some g ∧ ∃ z, G_ringlaw2_SlabTells_C6 n fr k g 0 t p (toA (hs t.fBoxes)) = some (.x0 z) ∧
        (G_ringlaw2_SlabTells_C8 n fr k g 0 z t p (toA (hs t.fBoxes)) = some .x1 ∨ G_ringlaw2_SlabTells_C8 n fr k g 0 z t p (toA (hs t.fBoxes)) = some (.x2 (toA (hs t.fBoxes)))) := by
      rcases give_ok ok hb p with ⟨a1, a2⟩ | ⟨a1, q1, q2, q3, q4, l, gone, a2, a3, a4, a5, a6⟩
      · refine ⟨_, a2, true, ?_, .inl ?_⟩
        · unfold G_ringlaw2_SlabTells_C6
          rw [inG, Option.bind_some]
          by_cases c : 0 ≤ p.fFrame ∧ p.fFrame ≤ 63
          · rw [if_pos (by simpa using c), inG, Option.bind_some]
            by_cases d : 0 ≤ p.fAt ∧ p.fAt ≤ 15
            · rw [if_pos (by simpa using d), if_pos (by omega), if_pos (by omega), getA_toA c.1 (by omega), Option.bind_some, getA_row d.1 (by omega), Option.bind_some, a1]
              rfl
            · rw [if_neg (by simpa using d)]
          · rw [if_neg (by simpa using c)]
        · unfold G_ringlaw2_SlabTells_C8
          rw [if_pos rfl, hsn, Option.bind_some, if_pos rfl, if_neg (by decide), if_pos rfl]
      · refine ⟨_, a4, false, ?_, .inr ?_⟩
        · unfold G_ringlaw2_SlabTells_C6
          rw [inG, Option.bind_some, if_pos (by simp; omega), inG, Option.bind_some, if_pos (by simp; omega), if_pos ⟨q1, q2⟩, if_pos ⟨q3, q4⟩, getA_toA q1 q2, Option.bind_some, getA_row q3 q4, Option.bind_some, a1]
          rfl
        · unfold G_ringlaw2_SlabTells_C8 G_ringlaw2_SlabTells_C7
          obtain ⟨r, hr, hr2⟩ := boxed (n := n) (f := p.fFrame) (h := upd2 (hs t.fBoxes) p.fFrame p.fAt false) (by omega) q1 q2
          have hne : (eqRes .eql (gone == r)) = false := by
            have e1 : (∃ a, 0 ≤ a ∧ a < 16 ∧ upd2 (hs t.fBoxes) p.fFrame p.fAt false p.fFrame a = true) ↔ ∃ b ∈ l, b.fFrame = p.fFrame := by
              rw [← boxed_iff h1 a2]
              constructor
              · rintro ⟨a, x1, x2, x3⟩; exact ⟨a, x1, x2, by rw [a5]; exact x3⟩
              · rintro ⟨a, x1, x2, x3⟩; exact ⟨a, x1, x2, by rw [← a5]; exact x3⟩
            rw [e1] at hr2
            simp only [eqRes]
            rw [Bool.eq_false_iff, ne_eq, beq_iff_eq]
            intro e
            rw [e] at a6
            cases hrr : r with
            | true => exact a6.1 hrr (hr2.1 hrr)
            | false =>
              have : r = true := a6.2 fun h => by have := hr2.2 h; rw [hrr] at this; cases this
              rw [hrr] at this; cases this
          rw [if_neg (by decide), if_pos ⟨q1, q2⟩, if_pos ⟨q3, q4⟩, getA_toA q1 q2, Option.bind_some, getA_row q3 q4, Option.bind_some, setA_toA false q1 q2 q3 q4, slabOf_V (s := t.fSize) (l := l) (by omega) h1 a2 (fun f a _ _ _ _ => (a5 f a).symm), Option.bind_some, sameV t.fSize h1 a2 (by omega) (by omega), Option.bind_some, if_pos rfl, hr, Option.bind_some, hne, if_neg (by decide)]
          simp only [bne_self_eq_false, Option.bind_some, Bool.false_eq_true, if_false]
          rw [if_pos ⟨q1, q2⟩, if_pos ⟨q3, q4⟩, getA_toA q1 q2, Option.bind_some, getA_row (r := upd2 (hs t.fBoxes) p.fFrame p.fAt false p.fFrame) q3 q4, Option.bind_some, setA_toA true q1 q2 q3 q4, upd2_upd2, upd2_same a1]
    obtain ⟨g, hg, z, hz, hg8⟩ := hG
    rw [hk, Option.bind_some, hg, Option.bind_some, many_ok ok hb, Option.bind_some]
    rw [lawC1 ok (newG n sz), Option.bind_some]
    simp only [Bool.false_eq_true, if_false]
    rw [slabs ok, Option.bind_some, check ok, Option.bind_some, if_pos rfl, if_pos hb, has (by omega) h1 hl hv, Option.bind_some, hb]
    have h4 := lawL4 (n := n) (fr := fr) (x1 := k) (x2 := g) (x3 := (sumU t.fBoxes, wi .i64 (wi .i64 ((t.fBoxes.length : Int) * 16) - wi .i64 (sumU t.fBoxes * t.fSize)), 0)) (x4 := 0) (t := t) (p := p) (h := hs t.fBoxes) (by omega) n 0 0 (by omega) (by omega) (by omega) (by omega)
    have h4 : G_ringlaw2_SlabTells_L4 n fr k g (sumU t.fBoxes, wi .i64 (wi .i64 ((t.fBoxes.length : Int) * 16) - wi .i64 (sumU t.fBoxes * t.fSize)), 0) 0 t p (toA (hs t.fBoxes)) n 0 0 = _ := h4
    have e64 : ofH (hs t.fBoxes) (64 - 0) ((0 : Nat) : Int) = t.fBoxes := ofH_all h1 64 0 t.fBoxes hv (fun b hb => (hv.1 b hb).1) (by omega)
    rw [h4, Option.bind_some, e64, Int.zero_add]
    simp only [G_ringlaw2_SlabTells_C5]
    rw [if_pos trivial, if_pos (by rw [Int.mul_comm (16 : Int)])]
    simp only [bne_self_eq_false, Option.bind_some, Bool.false_eq_true, if_false]
    rw [hz, Option.bind_some]
    simp only []
    have hbox := fun h0 h64 => boxed (n := n) (f := fr) (h := hs t.fBoxes) (by omega) h0 h64
    rcases hg8 with h8 | h8 <;> rw [h8, Option.bind_some] <;> simp only [] <;> rw [hrm, Option.bind_some]
    · unfold G_ringlaw2_SlabTells_C10 G_ringlaw2_SlabTells_C9
      rcases hcase with ⟨c1, c2, c3⟩ | ⟨c1, c2, c3, c4⟩ | ⟨c1, c2, c3, c4, c5⟩ | ⟨c1, c2, c3, c4, c5⟩
      · subst c2 c3
        rw [if_pos c1, Option.bind_some, Option.bind_some]; exact hJ
      · subst c3 c4
        rw [if_neg (by rw [c1]; decide), inG, Option.bind_some, if_neg (by simpa using c2), Option.bind_some, Option.bind_some]; exact hJ
      · subst c4 c5
        obtain ⟨r, hr, hr2⟩ := hbox c2.1 (by omega)
        rw [if_neg (by rw [c1]; decide), inG, Option.bind_some, if_pos (by simpa using c2), hr, Option.bind_some, if_pos (hr2.2 ((boxed_iff h1 hv).2 c3)), Option.bind_some, Option.bind_some]; exact hJ
      · subst c4 c5
        obtain ⟨r, hr, hr2⟩ := hbox c2.1 (by omega)
        rw [if_neg (by rw [c1]; decide), inG, Option.bind_some, if_pos (by simpa using c2), hr, Option.bind_some, if_neg (fun h => c3 ((boxed_iff h1 hv).1 (hr2.1 h))), Option.bind_some, Option.bind_some]; exact hJ
    · unfold G_ringlaw2_SlabTells_C14 G_ringlaw2_SlabTells_C13
      rcases hcase with ⟨c1, c2, c3⟩ | ⟨c1, c2, c3, c4⟩ | ⟨c1, c2, c3, c4, c5⟩ | ⟨c1, c2, c3, c4, c5⟩
      · subst c2 c3
        rw [if_pos c1, Option.bind_some, Option.bind_some]; exact hJ
      · subst c3 c4
        rw [if_neg (by rw [c1]; decide), inG, Option.bind_some, if_neg (by simpa using c2), Option.bind_some, Option.bind_some]; exact hJ
      · subst c4 c5
        obtain ⟨r, hr, hr2⟩ := hbox c2.1 (by omega)
        rw [if_neg (by rw [c1]; decide), inG, Option.bind_some, if_pos (by simpa using c2), hr, Option.bind_some, if_pos (hr2.2 ((boxed_iff h1 hv).2 c3)), Option.bind_some, Option.bind_some]; exact hJ
      · subst c4 c5
        obtain ⟨r, hr, hr2⟩ := hbox c2.1 (by omega)
        rw [if_neg (by rw [c1]; decide), inG, Option.bind_some, if_pos (by simpa using c2), hr, Option.bind_some, if_neg (fun h => c3 ((boxed_iff h1 hv).1 (hr2.1 h))), Option.bind_some, Option.bind_some]; exact hJ
  · rw [take_bad ok hb, Option.bind_some, give_bad ok hb, Option.bind_some, many_bad ok hb, Option.bind_some, lawC1 ok (newG n sz), Option.bind_some]
    simp only [Bool.false_eq_true, if_false]
    rw [slabs ok, Option.bind_some, check ok, Option.bind_some, if_pos rfl, if_neg hb]
    unfold G_ringlaw2_SlabTells_C2
    have e0 : (eqRes .eql (eqS_slab_Place pl0 ⟨0, 0⟩)) = true := eqP pl0
    rw [hsn, Option.bind_some, if_pos rfl, if_pos e0, if_neg Bool.false_ne_true, if_pos rfl, Option.bind_some, if_pos rfl, if_neg Bool.false_ne_true, if_pos rfl, if_pos rfl, if_pos rfl, Option.bind_some]
    simp
def tot (l : List Bx) : Nat := (l.map fun b => b.fUsed.length).sum
theorem sum_ge {l : List Bx} {b : Bx} (h : b ∈ l) : b.fUsed.length ≤ tot l := by
  unfold tot
  induction l with
  | nil => cases h
  | cons x l ih =>
    simp only [List.map_cons, List.sum_cons]
    rcases List.mem_cons.1 h with rfl | h
    · omega
    · have := ih h; omega
theorem law (t : S_slab_Slab) (sz fr : Int) (p : S_slab_Place) (h : okS_slab_Slab t) : ∃ n, G_ringlaw2_SlabTells n t sz fr p = some true := by
  have hl := h.2.1.1
  refine ⟨t.fBoxes.length + tot t.fBoxes + 20001, law_at ⟨by omega, by omega, fun b hb => ?_, fun b hb a ha => ?_⟩ sz fr p⟩
  · have h2 := (h.2.1.2 b hb).2.1.1
    have := sum_ge hb
    exact ⟨by omega, by omega⟩
  · have := (h.2.1.2 b hb).2.1.2 a ha
    exact (wf64.1 this).2
end Go.Proofs.Ytpeakaeblibfmaa.slabTells
