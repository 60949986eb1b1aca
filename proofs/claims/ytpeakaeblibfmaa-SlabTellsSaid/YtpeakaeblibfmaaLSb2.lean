/- The plain law of SlabTells, second part: which parts are used, how many; a slab made of that. -/
import Derived.Test.YtpeakaeblibfmaaLSb
namespace Go.Proofs.Ytpeakaeblibfmaa.slabTells
open Go.RowKit help pv
set_option linter.all false

theorem rise_len : ∀ (l : List Int) (e : Int), l.Pairwise (· < ·) → (∀ a ∈ l, e ≤ a ∧ a ≤ 15) → e ≤ 16 → e + l.length ≤ 16
  | [], e, _, _, h => by simp; omega
  | a :: l, e, hp, ha, h => by
    have h1 := ha a (List.mem_cons_self ..)
    have ih := rise_len l (a + 1) (List.pairwise_cons.1 hp).2 (fun x hx => ⟨by have := (List.pairwise_cons.1 hp).1 x hx; omega, (ha x (List.mem_cons_of_mem _ hx)).2⟩) (by omega)
    simp only [List.length_cons]; omega
theorem VU_len {s : Int} {l : List Int} (h1 : 1 ≤ s) (h : VU s l) : l.length ≤ 16 := by
  have := rise_len l 0 h.2 (fun a ha => by have := h.1 a ha; omega) (by omega)
  omega
theorem copL {n : Nat} {t : S_slab_Slab} {l : List Bx} (hl : l.length ≤ 64) (hu : ∀ b ∈ l, b.fUsed.length ≤ 16) : ∀ (k i : Nat), l.length - i < k → i ≤ l.length → G_slab_copied_h_L1 n l t k (i : Int) l = some (.x0 l)
  | 0, i, h, _ => by omega
  | k + 1, i, h, hi => by
    rw [G_slab_copied_h_L1]
    by_cases hlt : (i : Int) < (l.length : Int)
    · obtain ⟨y, hy⟩ := get_lt hlt
      have := hu y (List.mem_of_getElem? hy)
      rw [if_pos hlt, if_pos (by omega), Int.toNat_natCast, hy, Option.bind_some]
      unfold G_slices_Clone_int_int
      rw [app_le (m := 1000) (by simp; omega) (by omega) (by omega), Option.bind_some, if_pos (by omega), if_pos (by omega), Option.bind_some, wi_succ (by omega), Int.toNat_natCast, if_pos rfl, List.nil_append]
      have e : l.set i ⟨y.fFrame, y.fUsed⟩ = l := set_own hy
      rw [e]
      exact copL hl hu k (i + 1) (by omega) (by omega)
    · rw [if_neg hlt, if_pos (by omega)]
theorem copied {n : Nat} {t : S_slab_Slab} (hn : 1000 < n) (h1 : 1 ≤ t.fSize) (hl : t.fBoxes.length ≤ 64) (hv : VB t.fSize t.fBoxes) : G_slab_copied_h n t = some t := by
  unfold G_slab_copied_h G_slices_Clone_slab_Box_slab_Box
  rw [app_le (m := 1000) (by simp; omega) (by omega) (by omega), Option.bind_some, List.nil_append]
  have h := copL (n := n) (t := t) hl (fun b hb => VU_len h1 (hv.1 b hb).2.2.2) n 0 (by omega) (by omega)
  have h : G_slab_copied_h_L1 n t.fBoxes t n 0 t.fBoxes = _ := h
  rw [h, Option.bind_some]
theorem sameL3 (n : Nat) (x : Nat) (a : S_slab_Slab) {y : Bx} (hy : a.fBoxes[x]? = some y) (hl : y.fUsed.length < 4611686018427387903) : ∀ (k i : Nat), y.fUsed.length - i < k → i ≤ y.fUsed.length → G_ringref2_SlabSame_L3 n (x : Int) a y a k (i : Int) = some .x1
  | 0, i, h, _ => by omega
  | k + 1, i, h, hi => by
    rw [G_ringref2_SlabSame_L3]
    by_cases hlt : (i : Int) < (y.fUsed.length : Int)
    · obtain ⟨z, hz⟩ := get_lt hlt
      rw [if_pos hlt, getI_nat, hy, Option.bind_some, getI_nat, hz, Option.bind_some, Option.bind_some, getI_nat, hz, Option.bind_some, if_pos rfl, wi_succ (by omega)]
      exact sameL3 n x a hy hl k (i + 1) (by omega) (by omega)
    · rw [if_neg hlt]
theorem sameL4 (n : Nat) (a : S_slab_Slab) (hl : a.fBoxes.length < 4611686018427387903) (hu : ∀ b ∈ a.fBoxes, b.fUsed.length < 4611686018427387903 ∧ b.fUsed.length < n) : ∀ (k i : Nat), a.fBoxes.length - i < k → i ≤ a.fBoxes.length → G_ringref2_SlabSame_L4 n a a k (i : Int) = some .x1
  | 0, i, h, _ => by omega
  | k + 1, i, h, hi => by
    rw [G_ringref2_SlabSame_L4]
    by_cases hlt : (i : Int) < (a.fBoxes.length : Int)
    · obtain ⟨y, hy⟩ := get_lt hlt
      have h2 := hu y (List.mem_of_getElem? hy)
      unfold G_ringref2_SlabSame_C2
      rw [if_pos hlt, getI_nat, hy, Option.bind_some, Option.bind_some, if_pos rfl, Option.bind_some, Option.bind_some, Option.bind_some]
      simp only [bne_self_eq_false, Bool.false_eq_true, if_false, Option.bind_some]
      have h3 := sameL3 n i a hy h2.1 n 0 (by omega) (by omega)
      have h3 : G_ringref2_SlabSame_L3 n (i : Int) a y a n 0 = _ := h3
      rw [h3, Option.bind_some]
      simp only []
      rw [wi_succ (by omega)]
      exact sameL4 n a hl hu k (i + 1) (by omega) (by omega)
    · rw [if_neg hlt]
theorem same {n : Nat} (a : S_slab_Slab) (hl : a.fBoxes.length < 4611686018427387903) (hn : a.fBoxes.length < n) (hu : ∀ b ∈ a.fBoxes, b.fUsed.length < 4611686018427387903 ∧ b.fUsed.length < n) : G_ringref2_SlabSame n a a = some true := by
  unfold G_ringref2_SlabSame G_ringref2_SlabSame_C1
  rw [if_pos rfl, Option.bind_some]
  have h := sameL4 n a hl hu n 0 (by omega) (by omega)
  have h : G_ringref2_SlabSame_L4 n a a n 0 = _ := h
  simp [h]
theorem sameV {n : Nat} {s : Int} (z : Int) {l : List Bx} (h1 : 1 ≤ s) (hv : VB s l) (hl : l.length ≤ 1000) (hn : 2000 < n) : G_ringref2_SlabSame n ⟨z, l⟩ ⟨z, l⟩ = some true :=
  same _ (by simp only; omega) (by simp only; omega) (fun b hb => by have := VU_len h1 (hv.1 b hb).2.2.2; omega)

/-- is a part used? -/
def hs (l : List Bx) (f a : Int) : Bool := l.any (fun b => decide (b.fFrame = f) && decide (a ∈ b.fUsed))
theorem hs_iff {l : List Bx} {f a : Int} : hs l f a = true ↔ ∃ b ∈ l, b.fFrame = f ∧ a ∈ b.fUsed := by
  unfold hs
  rw [List.any_eq_true]
  constructor
  · rintro ⟨b, hb, h⟩
    simp only [Bool.and_eq_true, decide_eq_true_eq] at h
    exact ⟨b, hb, h⟩
  · rintro ⟨b, hb, h⟩
    exact ⟨b, hb, by simp only [Bool.and_eq_true, decide_eq_true_eq]; exact h⟩
def toA (h : Int → Int → Bool) : Fin 64 → Fin 16 → Bool := fun f a => h (f.val : Int) (a.val : Int)
def upd2 (h : Int → Int → Bool) (f a : Int) (v : Bool) : Int → Int → Bool := fun f' a' => if f' = f ∧ a' = a then v else h f' a'
theorem getA_toA {h : Int → Int → Bool} {f : Int} (h0 : 0 ≤ f) (h1 : f < 64) : getA (toA h) f = some (fun a : Fin 16 => h f (a.val : Int)) := by
  unfold getA
  rw [dif_pos ⟨h0, h1⟩]
  congr 1
  funext a
  simp only [toA]
  rw [show ((f.toNat : Nat) : Int) = f by omega]
theorem getA_row {r : Int → Bool} {a : Int} (h0 : 0 ≤ a) (h1 : a < 16) : getA (fun a : Fin 16 => r (a.val : Int)) a = some (r a) := by
  unfold getA
  rw [dif_pos ⟨h0, h1⟩]
  simp only
  rw [show ((a.toNat : Nat) : Int) = a by omega]
theorem setA_toA {h : Int → Int → Bool} {f a : Int} (v : Bool) (h0 : 0 ≤ f) (h1 : f < 64) (h2 : 0 ≤ a) (h3 : a < 16) : setA (toA h) f (setA (fun a : Fin 16 => h f (a.val : Int)) a v) = toA (upd2 h f a v) := by
  funext x y
  unfold setA toA upd2
  by_cases c : x.val = f.toNat
  · rw [if_pos c]
    by_cases d : y.val = a.toNat
    · rw [if_pos d, if_pos (by omega)]
    · rw [if_neg d, if_neg (by omega), show ((x.val : Nat) : Int) = f by omega]
  · rw [if_neg c, if_neg (by omega)]
theorem toA_congr {h h' : Int → Int → Bool} (e : ∀ f a, 0 ≤ f → f < 64 → 0 ≤ a → a < 16 → h f a = h' f a) : toA h = toA h' := by
  funext x y
  exact e _ _ (by omega) (by omega) (by omega) (by omega)
theorem hasL2 {n : Nat} {t : S_slab_Slab} {x : Int} {y : Bx} (hf : 0 ≤ y.fFrame) (hf2 : y.fFrame ≤ 63) (hu : ∀ a ∈ y.fUsed, 0 ≤ a ∧ a ≤ 15) (hl : y.fUsed.length ≤ 16) : ∀ (k i : Nat) (h : Int → Int → Bool), y.fUsed.length - i < k → i ≤ y.fUsed.length →
    G_ringref2_SlabHas_L2 n t x y k (i : Int) (toA h) = some (.x0 (toA (fun f a => h f a || (decide (y.fFrame = f) && decide (a ∈ y.fUsed.drop i)))))
  | 0, i, h, hh, _ => by omega
  | k + 1, i, h, hh, hi => by
    rw [G_ringref2_SlabHas_L2]
    by_cases hlt : (i : Int) < (y.fUsed.length : Int)
    · obtain ⟨z, hz⟩ := get_lt hlt
      have hz2 := hu z (List.mem_of_getElem? hz)
      rw [if_pos hlt, getI_nat, hz, Option.bind_some, if_pos (by omega), if_pos (by omega), getA_toA hf (by omega), Option.bind_some, getA_row hz2.1 (by omega), Option.bind_some, setA_toA true hf (by omega) hz2.1 (by omega), wi_succ (by omega), hasL2 hf hf2 hu hl k (i + 1) _ (by omega) (by omega), drop_cons hz]
      congr 2
      apply toA_congr
      intro f a _ _ _ _
      unfold upd2
      by_cases c : f = y.fFrame ∧ a = z
      · rw [if_pos c]; simp [c.1.symm, c.2]
      · rw [if_neg c]
        congr 1
        by_cases d : y.fFrame = f
        · have : a ≠ z := fun e => c ⟨d.symm, e⟩
          simp [d, this]
        · simp [d]
    · rw [if_neg hlt, drop_end hlt]
      simp
theorem hasL3 {n : Nat} {t : S_slab_Slab} (hn : 1000 < n) (h1 : 1 ≤ t.fSize) (hl : t.fBoxes.length ≤ 64) (hv : VB t.fSize t.fBoxes) : ∀ (k i : Nat) (h : Int → Int → Bool), t.fBoxes.length - i < k → i ≤ t.fBoxes.length →
    G_ringref2_SlabHas_L3 n t k (i : Int) (toA h) = some (.x0 (toA (fun f a => h f a || hs (t.fBoxes.drop i) f a)))
  | 0, i, h, hh, _ => by omega
  | k + 1, i, h, hh, hi => by
    rw [G_ringref2_SlabHas_L3]
    by_cases hlt : (i : Int) < (t.fBoxes.length : Int)
    · obtain ⟨y, hy⟩ := get_lt hlt
      obtain ⟨y1, y2, y3, y4⟩ := hv.1 y (List.mem_of_getElem? hy)
      have hyl := VU_len h1 y4
      have h2 := hasL2 (n := n) (t := t) (x := (i : Int)) (y := y) y1 y2 (fun a ha => by have := y4.1 a ha; omega) hyl n 0 h (by omega) (by omega)
      have h2 : G_ringref2_SlabHas_L2 n t (i : Int) y n 0 (toA h) = _ := h2
      rw [if_pos hlt, getI_nat, hy, Option.bind_some, h2, Option.bind_some]
      simp only [List.drop_zero]
      rw [wi_succ (by omega), hasL3 hn h1 hl hv k (i + 1) _ (by omega) (by omega), drop_cons hy]
      simp only [hs, List.any_cons, Bool.or_assoc]
    · rw [if_neg hlt, drop_end hlt]
      simp [hs]
theorem has {n : Nat} {t : S_slab_Slab} (hn : 1000 < n) (h1 : 1 ≤ t.fSize) (hl : t.fBoxes.length ≤ 64) (hv : VB t.fSize t.fBoxes) : G_ringref2_SlabHas n t = some (toA (hs t.fBoxes)) := by
  unfold G_ringref2_SlabHas
  have h := hasL3 (n := n) (t := t) hn h1 hl hv n 0 (fun _ _ => false) (by omega) (by omega)
  have h : G_ringref2_SlabHas_L3 n t n 0 (fun _ => fun _ => false) = _ := h
  rw [h, Option.bind_some, List.drop_zero]
  simp
/-- the used parts of a frame -/
def us (r : Int → Bool) : Nat → Int → List Int
  | 0, _ => []
  | m + 1, x => (if r x = true then [x] else []) ++ us r m (x + 1)
def ofH (h : Int → Int → Bool) : Nat → Int → List Bx
  | 0, _ => []
  | m + 1, f => (if us (h f) 16 0 = [] then [] else [⟨f, us (h f) 16 0⟩]) ++ ofH h m (f + 1)
theorem us_len (r : Int → Bool) : ∀ (m : Nat) (x : Int), (us r m x).length ≤ m
  | 0, _ => Nat.le_refl _
  | m + 1, x => by
    have := us_len r m (x + 1)
    rw [us, List.length_append]
    split <;> simp <;> omega
theorem ofH_len (h : Int → Int → Bool) : ∀ (m : Nat) (f : Int), (ofH h m f).length ≤ m
  | 0, _ => Nat.le_refl _
  | m + 1, f => by
    have := ofH_len h m (f + 1)
    rw [ofH, List.length_append]
    split <;> simp <;> omega
theorem us_congr {r r' : Int → Bool} : ∀ (m : Nat) (x : Int), (∀ a, x ≤ a → a < x + m → r a = r' a) → us r m x = us r' m x
  | 0, _, _ => rfl
  | m + 1, x, h => by rw [us, us, h x (by omega) (by omega), us_congr m (x + 1) (fun a h1 h2 => h a (by omega) (by omega))]
theorem us_none {r : Int → Bool} : ∀ (m : Nat) (x : Int), (∀ a, x ≤ a → a < x + m → r a = false) → us r m x = []
  | 0, _, _ => rfl
  | m + 1, x, h => by rw [us, h x (by omega) (by omega), us_none m (x + 1) (fun a h1 h2 => h a (by omega) (by omega))]; rfl
theorem us_all : ∀ (m : Nat) (x : Int) (l : List Int), l.Pairwise (· < ·) → (∀ a ∈ l, x ≤ a ∧ a ≤ 15) → x + m = 16 → us (fun a => decide (a ∈ l)) m x = l
  | 0, x, l, _, h, hm => by
    cases l with
    | nil => rfl
    | cons a l => have := h a (List.mem_cons_self ..); omega
  | m + 1, x, [], _, _, _ => us_none _ _ (fun _ _ _ => by simp)
  | m + 1, x, a :: l, hp, h, hm => by
    have ha := h a (List.mem_cons_self ..)
    obtain ⟨p1, p2⟩ := List.pairwise_cons.1 hp
    rw [us]
    by_cases c : a = x
    · subst c
      rw [if_pos (by simp), us_congr (r' := fun b => decide (b ∈ l)) m (a + 1) (fun b h1 h2 => by
        have : b ≠ a := by omega
        simp [this]), us_all m (a + 1) l p2 (fun b hb => ⟨by have := p1 b hb; omega, (h b (List.mem_cons_of_mem _ hb)).2⟩) (by omega)]
      rfl
    · have hx : x ∉ a :: l := by
        intro hx
        rcases List.mem_cons.1 hx with e | hx
        · exact c e.symm
        · have := p1 x hx; omega
      rw [if_neg (by simpa using hx), us_all m (x + 1) (a :: l) hp (fun b hb => ⟨by
        rcases List.mem_cons.1 hb with rfl | hb'
        · omega
        · have := p1 b hb'; omega, (h b hb).2⟩) (by omega)]
      rfl
theorem ofH_congr {h h' : Int → Int → Bool} : ∀ (m : Nat) (f : Int), (∀ f' a, f ≤ f' → f' < f + m → 0 ≤ a → a < 16 → h f' a = h' f' a) → ofH h m f = ofH h' m f
  | 0, _, _ => rfl
  | m + 1, f, e => by
    have e1 : us (h f) 16 0 = us (h' f) 16 0 := us_congr 16 0 (fun a h1 h2 => e f a (by omega) (by omega) h1 (by omega))
    rw [ofH, ofH, e1, ofH_congr m (f + 1) (fun f' a h1 h2 => e f' a (by omega) (by omega))]
theorem ofH_nil : ∀ (m : Nat) (f : Int), ofH (hs []) m f = []
  | 0, _ => rfl
  | m + 1, f => by rw [ofH, us_none (r := hs [] f) 16 0 (fun _ _ _ => rfl), if_pos rfl, ofH_nil]; rfl
theorem hs_cons_ne {b : Bx} {l : List Bx} {f a : Int} (h : b.fFrame ≠ f) : hs (b :: l) f a = hs l f a := by
  simp [hs, h]
theorem ofH_all {s : Int} (h1 : 1 ≤ s) : ∀ (m : Nat) (f : Int) (l : List Bx), VB s l → (∀ b ∈ l, f ≤ b.fFrame) → f + m = 64 → ofH (hs l) m f = l
  | 0, f, l, hv, hf, hm => by
    cases l with
    | nil => rfl
    | cons b l => have := hf b (List.mem_cons_self ..); have := (hv.1 b (List.mem_cons_self ..)).2.1; omega
  | m + 1, f, [], hv, hf, hm => ofH_nil _ _
  | m + 1, f, b :: l, hv, hf, hm => by
    have hb := hf b (List.mem_cons_self ..)
    obtain ⟨y1, y2, y3, y4⟩ := hv.1 b (List.mem_cons_self ..)
    obtain ⟨p1, p2⟩ := List.pairwise_cons.1 hv.2
    rw [ofH]
    by_cases c : b.fFrame = f
    · have e : us (hs (b :: l) f) 16 0 = b.fUsed := by
        rw [us_congr (r' := fun a => decide (a ∈ b.fUsed)) 16 0 (fun a _ _ => ?_)]
        · exact us_all 16 0 b.fUsed y4.2 (fun a ha => by have := y4.1 a ha; omega) (by omega)
        · rw [Bool.eq_iff_iff, hs_iff, decide_eq_true_eq]
          constructor
          · rintro ⟨x, hx, hx1, hx2⟩
            rcases List.mem_cons.1 hx with rfl | hx
            · exact hx2
            · have := p1 x hx; omega
          · intro ha
            exact ⟨b, List.mem_cons_self .., c, ha⟩
      rw [e, if_neg y3, ofH_congr (h' := hs l) m (f + 1) (fun f' a h1 _ _ _ => hs_cons_ne (by omega)), ofH_all h1 m (f + 1) l ⟨fun x hx => hv.1 x (List.mem_cons_of_mem _ hx), p2⟩ (fun x hx => by have := p1 x hx; omega) (by omega), ← c]
      rfl
    · have hall : ∀ x ∈ b :: l, f + 1 ≤ x.fFrame := by
        intro x hx
        rcases List.mem_cons.1 hx with rfl | hx
        · omega
        · have := p1 x hx; omega
      rw [us_none 16 0 (fun a _ _ => by
        rw [Bool.eq_false_iff, ne_eq, hs_iff]
        rintro ⟨x, hx, hx1, _⟩
        have := hall x hx; omega), if_pos rfl, ofH_all h1 m (f + 1) (b :: l) hv hall (by omega)]
      rfl
theorem ofL1 {n : Nat} {x sz : Int} {r : Int → Bool} {A : Fin 64 → Fin 16 → Bool} {w : List Bx} : ∀ (k i : Nat) (u : List Int), 16 - i < k → i ≤ 16 → u.length ≤ i →
    G_ringref2_SlabOf_L1 n x (fun a : Fin 16 => r (a.val : Int)) A sz k (i : Int) w u = some (.x0 w (u ++ us r (16 - i) (i : Int)))
  | 0, i, u, h, _, _ => by omega
  | k + 1, i, u, h, hi, hu => by
    rw [G_ringref2_SlabOf_L1]
    by_cases hlt : (i : Int) < 16
    · rw [if_pos hlt, getA_row (by omega) hlt, Option.bind_some, show 16 - i = (16 - (i + 1)) + 1 by omega, us, wi_succ (by omega)]
      by_cases c : r (i : Int) = true
      · rw [if_pos c, if_pos c, app_le (m := 1000) (by simp; omega) (by omega) (by omega), Option.bind_some, ofL1 k (i + 1) _ (by omega) (by omega) (by simp; omega), show ((i + 1 : Nat) : Int) = (i : Int) + 1 by omega, List.append_assoc]
      · rw [if_neg c, if_neg c, ofL1 k (i + 1) _ (by omega) (by omega) (by omega), show ((i + 1 : Nat) : Int) = (i : Int) + 1 by omega, List.nil_append]
    · rw [if_neg hlt, show 16 - i = 0 by omega]; simp [us]
theorem ofL2 {n : Nat} {sz : Int} {h : Int → Int → Bool} (hn : 1000 < n) : ∀ (k i : Nat) (w : List Bx), 64 - i < k → i ≤ 64 → w.length ≤ i →
    G_ringref2_SlabOf_L2 n (toA h) sz k (i : Int) w = some (.x0 (w ++ ofH h (64 - i) (i : Int)))
  | 0, i, w, hh, _, _ => by omega
  | k + 1, i, w, hh, hi, hw => by
    rw [G_ringref2_SlabOf_L2]
    by_cases hlt : (i : Int) < 64
    · have h1 := ofL1 (n := n) (x := (i : Int)) (sz := sz) (r := h (i : Int)) (A := toA h) (w := w) n 0 [] (by omega) (by omega) (by simp)
      have h1 : G_ringref2_SlabOf_L1 n (i : Int) (fun a : Fin 16 => h (i : Int) (a.val : Int)) (toA h) sz n 0 w [] = _ := h1
      rw [if_pos hlt, if_pos (by omega), getA_toA (by omega) hlt, Option.bind_some, h1, Option.bind_some]
      simp only [List.nil_append]
      rw [show 64 - i = (64 - (i + 1)) + 1 by omega, ofH, wi_succ (by omega)]
      have e0 : us (h (i : Int)) (16 - 0) ((0 : Nat) : Int) = us (h (i : Int)) 16 0 := rfl
      rw [e0]
      by_cases c : us (h (i : Int)) 16 0 = []
      · rw [if_neg (by rw [c]; simp), if_pos c, ofL2 hn k (i + 1) _ (by omega) (by omega) (by omega), show ((i + 1 : Nat) : Int) = (i : Int) + 1 by omega, List.nil_append]
      · have hlen : 0 < (us (h (i : Int)) 16 0).length := by
          cases hq : us (h (i : Int)) 16 0 with
          | nil => exact absurd hq c
          | cons a b => simp
        rw [if_pos (by omega), if_neg c, app_le (m := 1000) (by simp; omega) (by omega) (by omega), Option.bind_some, ofL2 hn k (i + 1) _ (by omega) (by omega) (by simp; omega), show ((i + 1 : Nat) : Int) = (i : Int) + 1 by omega, List.append_assoc]
    · rw [if_neg hlt, show 64 - i = 0 by omega]; simp [ofH]
theorem slabOf {n : Nat} {sz : Int} {h : Int → Int → Bool} (hn : 1000 < n) : G_ringref2_SlabOf n sz (toA h) = some ⟨sz, ofH h 64 0⟩ := by
  unfold G_ringref2_SlabOf
  have h1 := ofL2 (n := n) (sz := sz) (h := h) hn n 0 [] (by omega) (by omega) (by simp)
  have h1 : G_ringref2_SlabOf_L2 n (toA h) sz n 0 [] = _ := h1
  rw [h1, Option.bind_some]
  rfl
/-- a slab whose used parts are these -/
theorem slabOf_V {n : Nat} {s sz : Int} {h : Int → Int → Bool} {l : List Bx} (hn : 1000 < n) (h1 : 1 ≤ s) (hv : VB s l) (e : ∀ f a, 0 ≤ f → f < 64 → 0 ≤ a → a < 16 → h f a = hs l f a) : G_ringref2_SlabOf n sz (toA h) = some ⟨sz, l⟩ := by
  rw [toA_congr e, slabOf hn, ofH_all h1 64 0 l hv (fun b hb => (hv.1 b hb).1) (by omega)]
def sumU : List Bx → Int
  | [] => 0
  | b :: l => (b.fUsed.length : Int) + sumU l
theorem sumU_nn : ∀ (l : List Bx), 0 ≤ sumU l
  | [] => by simp [sumU]
  | b :: l => by have := sumU_nn l; simp only [sumU]; omega
theorem sumU_app : ∀ (a b : List Bx), sumU (a ++ b) = sumU a + sumU b
  | [], b => by simp [sumU]
  | x :: a, b => by simp only [List.cons_append, sumU, sumU_app a b]; omega
theorem sumU_le : ∀ (l : List Bx), (∀ b ∈ l, b.fUsed.length ≤ 16) → sumU l ≤ 16 * l.length
  | [], _ => by simp [sumU]
  | b :: l, h => by
    have := sumU_le l (fun x hx => h x (List.mem_cons_of_mem _ hx))
    have := h b (List.mem_cons_self ..)
    simp only [sumU, List.length_cons]; omega
theorem manyL {n : Nat} {t : S_slab_Slab} (hl : t.fBoxes.length ≤ 64) (hu : ∀ b ∈ t.fBoxes, b.fUsed.length ≤ 16) : ∀ (k i : Nat) (N : Int), t.fBoxes.length - i < k → i ≤ t.fBoxes.length → 0 ≤ N → N ≤ 16 * i → G_slab_Many_L1 n t k N (i : Int) = some (.x0 (N + sumU (t.fBoxes.drop i)))
  | 0, i, N, h, _, _, _ => by omega
  | k + 1, i, N, h, hi, h0, h1 => by
    rw [G_slab_Many_L1]
    by_cases hlt : (i : Int) < (t.fBoxes.length : Int)
    · obtain ⟨y, hy⟩ := get_lt hlt
      have := hu y (List.mem_of_getElem? hy)
      rw [if_pos hlt, getI_nat, hy, Option.bind_some, wi64 (by omega) (by omega), wi_succ (by omega), manyL hl hu k (i + 1) _ (by omega) (by omega) (by omega) (by omega), drop_cons hy, sumU, Int.add_assoc]
    · rw [if_neg hlt, drop_end hlt]; simp [sumU]
section
variable {n : Nat} {fr : Int} {x1 : S_slab_Slab × S_slab_Place × Bool × Int} {x2 : S_slab_Slab × Bool × Int} {x3 : Int × Int × Int} {x4 : Int} {t : S_slab_Slab} {p : S_slab_Place} {A : Fin 64 → Fin 16 → Bool}
theorem lawL3 {x : Int} {r : Int → Bool} : ∀ (k i : Nat) (N : Int), 16 - i < k → i ≤ 16 → 0 ≤ N → N + (16 - i : Int) ≤ 100000 →
    G_ringlaw2_SlabTells_L3 n fr x1 x2 x3 x4 x (fun a : Fin 16 => r (a.val : Int)) t p A k N (i : Int) = some (.x0 (N + (us r (16 - i) (i : Int)).length))
  | 0, i, N, h, _, _, _ => by omega
  | k + 1, i, N, h, hi, h0, h1 => by
    rw [G_ringlaw2_SlabTells_L3]
    by_cases hlt : (i : Int) < 16
    · rw [if_pos hlt, getA_row (by omega) hlt, Option.bind_some, show 16 - i = (16 - (i + 1)) + 1 by omega, us]
      by_cases c : r (i : Int) = true
      · rw [if_pos c, if_pos c, wi64 (by omega) (by omega), wi_succ (by omega), lawL3 k (i + 1) (N + 1) (by omega) (by omega) (by omega) (by omega), show ((i + 1 : Nat) : Int) = (i : Int) + 1 by omega]
        congr 2; simp; omega
      · rw [if_neg c, if_neg c, wi_succ (by omega), lawL3 k (i + 1) N (by omega) (by omega) (by omega) (by omega), show ((i + 1 : Nat) : Int) = (i : Int) + 1 by omega]
        rfl
    · rw [if_neg hlt, show 16 - i = 0 by omega]; simp [us]
theorem lawL4 {h : Int → Int → Bool} (hn : 1000 < n) : ∀ (k i : Nat) (N : Int), 64 - i < k → i ≤ 64 → 0 ≤ N → N ≤ 16 * i →
    G_ringlaw2_SlabTells_L4 n fr x1 x2 x3 x4 t p (toA h) k N (i : Int) = some (.x0 (N + sumU (ofH h (64 - i) (i : Int))))
  | 0, i, N, h, _, _, _ => by omega
  | k + 1, i, N, hh, hi, h0, h1 => by
    rw [G_ringlaw2_SlabTells_L4]
    by_cases hlt : (i : Int) < 64
    · have h3 := lawL3 (n := n) (fr := fr) (x1 := x1) (x2 := x2) (x3 := x3) (x4 := x4) (t := t) (p := p) (A := toA h) (x := (i : Int)) (r := h (i : Int)) n 0 N (by omega) (by omega) h0 (by omega)
      have h3 : G_ringlaw2_SlabTells_L3 n fr x1 x2 x3 x4 (i : Int) (fun a : Fin 16 => h (i : Int) (a.val : Int)) t p (toA h) n N 0 = _ := h3
      rw [if_pos hlt, if_pos (by omega), getA_toA (by omega) hlt, Option.bind_some, h3, Option.bind_some]
      simp only []
      have e0 : us (h (i : Int)) (16 - 0) ((0 : Nat) : Int) = us (h (i : Int)) 16 0 := rfl
      have hl := us_len (h (i : Int)) 16 0
      rw [e0, show 64 - i = (64 - (i + 1)) + 1 by omega, ofH, wi_succ (by omega), lawL4 hn k (i + 1) _ (by omega) (by omega) (by omega) (by omega), show ((i + 1 : Nat) : Int) = (i : Int) + 1 by omega]
      congr 2
      rw [sumU_app]
      by_cases c : us (h (i : Int)) 16 0 = []
      · rw [if_pos c, c]; simp [sumU]
      · rw [if_neg c]; simp only [sumU]; omega
    · rw [if_neg hlt, show 64 - i = 0 by omega]; simp [ofH, sumU]
end
/-- does a frame have a box? -/
theorem boxed {n : Nat} {f : Int} {h : Int → Int → Bool} (hn : 1000 < n) (h0 : 0 ≤ f) (h1 : f < 64) : ∃ r, G_ringlaw2_SlabTells_1 n f (toA h) = some r ∧ (r = true ↔ ∃ a, 0 ≤ a ∧ a < 16 ∧ h f a = true) := by
  unfold G_ringlaw2_SlabTells_1
  rw [if_pos ⟨h0, h1⟩, getA_toA h0 h1, Option.bind_some]
  obtain ⟨r, hr, hr2⟩ := G_slices_Contains_bool_bool_sp (n := n) (l := List.ofFn (fun a : Fin 16 => h f (a.val : Int))) true (by simp) (by simp; omega)
  refine ⟨r, by rw [hr]; rfl, hr2.trans ?_⟩
  rw [List.mem_ofFn]
  constructor
  · rintro ⟨a, ha⟩
    exact ⟨(a.val : Int), by omega, by omega, ha⟩
  · rintro ⟨a, a0, a1, ha⟩
    refine ⟨⟨a.toNat, by omega⟩, ?_⟩
    simp only
    rw [show ((a.toNat : Nat) : Int) = a by omega]; exact ha
end Go.Proofs.Ytpeakaeblibfmaa.slabTells
