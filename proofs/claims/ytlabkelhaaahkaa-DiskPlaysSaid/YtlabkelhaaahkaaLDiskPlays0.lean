/- The plain law of DiskPlays: all of it. -/
import Derived.Test.YtlabkelhaaahkaaLDp2
namespace Go.Proofs.Ytlabkelhaaahkaa.diskPlays
set_option linter.all false
open Go.RowKit help pv

section
variable {n S m k : Nat} {P : List (Nat × List Int)} {f : Int} {l : List S_ringlaw3_Act}
theorem act_is (hn : 2000 ≤ n) (h : Inv S P m f k) (hk : k < 60) (x : Int) {y : S_ringlaw3_Act} (hN : y.fN ≤ 9223372036854775807) :
    (∃ P' m' f', Inv S P' m' f' (k + 1) ∧ G_ringlaw3_DiskPlays_C6 n (S : Int) l x y f (img S (P.take m)) (img S P) ((P.drop m).map toW) (S : Int) (m : Int) f (P.map toP) = some (.x1 f' (img S (P'.take m')) (img S P') ((P'.drop m').map toW) (S : Int) (m' : Int) f' (P'.map toP))) ∨
    G_ringlaw3_DiskPlays_C6 n (S : Int) l x y f (img S (P.take m)) (img S P) ((P.drop m).map toW) (S : Int) (m : Int) f (P.map toP) = some (.x2 (img S (P.take m)) (img S P) ((P.drop m).map toW) (P.map toP)) := by
  unfold G_ringlaw3_DiskPlays_C6
  by_cases c0 : y.fKind = 0
  · left
    obtain ⟨e, P', f', h1, h2, h3⟩ := write_is (n := n) h hk y.fN y.fData
    have h1 : G_disk_Disk_Write_h n ⟨img S (P.take m), img S P, (P.drop m).map toW, f⟩ y.fN y.fData = _ := h1
    have h2 : G_ringref3_Disk_Write_h n ⟨(S : Int), (m : Int), f, P.map toP⟩ y.fN (b2s y.fData) = _ := h2
    rw [if_pos c0, h1, Option.bind_some, h2, Option.bind_some, if_pos rfl]
    exact ⟨P', m, f', h3, rfl⟩
  rw [if_neg c0]
  by_cases c1 : y.fKind = 1
  · left
    obtain ⟨m', f', h1, h2, h3⟩ := flush_is (n := n) h hk
    have h1 : G_disk_Disk_Flush_h n ⟨img S (P.take m), img S P, (P.drop m).map toW, f⟩ = _ := h1
    have h2 : G_ringref3_Disk_Flush_h n ⟨(S : Int), (m : Int), f, P.map toP⟩ = _ := h2
    rw [if_pos c1, h1, Option.bind_some, h2, Option.bind_some]
    exact ⟨P, m', f', h3, rfl⟩
  rw [if_neg c1]
  by_cases c2 : y.fKind = 2
  · left
    obtain ⟨P', m', f', h1, h2, h3⟩ := crash_is hn h hk y.fKept
    have h1 : G_disk_Disk_Crash_h n ⟨img S (P.take m), img S P, (P.drop m).map toW, f⟩ y.fKept = _ := h1
    have h2 : G_ringref3_Disk_Crash_h n ⟨(S : Int), (m : Int), f, P.map toP⟩ y.fKept = _ := h2
    rw [if_pos c2, h1, Option.bind_some, h2, Option.bind_some]
    exact ⟨P', m', f', h3, rfl⟩
  rw [if_neg c2]
  by_cases c3 : y.fKind = 3
  · left
    obtain ⟨f', h1, h2, h3⟩ := fuse_is (n := n) h hk hN
    have h1 : G_disk_Disk_Fuse_h n ⟨img S (P.take m), img S P, (P.drop m).map toW, f⟩ y.fN = _ := h1
    have h2 : G_ringref3_Disk_Fused_h n ⟨(S : Int), (m : Int), f, P.map toP⟩ y.fN = _ := h2
    rw [if_pos c3, h1, Option.bind_some, h2, Option.bind_some]
    exact ⟨P, m, f', h3, rfl⟩
  rw [if_neg c3]
  exact .inr rfl
theorem beq_neq (b : Bool) : eqRes .neq (b == b) = false := by cases b <;> rfl
theorem see8 (h : Inv S P m f k) (x : Int) (y : S_ringlaw3_Act) : G_ringlaw3_DiskPlays_C8 n (S : Int) l x f (img S (P.take m)) (img S P) ((P.drop m).map toW) (S : Int) (m : Int) f (P.map toP) y = some (.x0 false f (img S (P.take m)) (img S P) ((P.drop m).map toW) (P.map toP)) := by
  unfold G_ringlaw3_DiskPlays_C8 G_disk_Disk_Waiting_h G_disk_Disk_Dead_h
  have hm := h.mB
  have hk := h.kB
  have hk2 := h.k60
  have e : wi .i64 (((P.map toP).length : Int) - (m : Int)) = (((P.drop m).map toW).length : Int) := by
    rw [List.length_map, List.length_map, List.length_drop, wi64 (by omega) (by omega)]; omega
  simp only [Option.bind_some, e, if_true, beq_neq]
theorem see9 (h : Inv S P m f k) (x : Int) (y : S_ringlaw3_Act) : G_ringlaw3_DiskPlays_C9 n (S : Int) l x f (img S (P.take m)) (img S P) ((P.drop m).map toW) (S : Int) (m : Int) f (P.map toP) y = some (.x0 false f (img S (P.take m)) (img S P) ((P.drop m).map toW) (P.map toP)) := by
  unfold G_ringlaw3_DiskPlays_C9 G_disk_Disk_Waiting_h G_disk_Disk_Dead_h
  have hm := h.mB
  have hk := h.kB
  have hk2 := h.k60
  have e : wi .i64 (((P.map toP).length : Int) - (m : Int)) = (((P.drop m).map toW).length : Int) := by
    rw [List.length_map, List.length_map, List.length_drop, wi64 (by omega) (by omega)]; omega
  simp only [Option.bind_some, e, if_true, beq_neq]
theorem readR (hn : 2000 ≤ n) (h : Inv S P m f k) {q : Nat} (hq : q < S) : G_ringref3_Disk_Read_h n ⟨(S : Int), (m : Int), f, P.map toP⟩ (q : Int) = some (b2s (sector (img S P) q), ⟨(S : Int), (m : Int), f, P.map toP⟩) := by
  unfold G_ringref3_Disk_Read_h
  have hk := h.kB
  have hk2 := h.k60
  rw [sector_img hq h.wf, last_is hn (by omega), Option.bind_some]
theorem round (hn : 2000 ≤ n) (h : Inv S P m f k) (hk : k < 60) {x : Int} {y : S_ringlaw3_Act} (hy : getI l x = some y) (hN : y.fN ≤ 9223372036854775807) :
    ∃ P' m' f', Inv S P' m' f' (k + 1) ∧ (G_ringlaw3_DiskPlays_C10 n (S : Int) l x f (img S (P.take m)) (img S P) ((P.drop m).map toW) (S : Int) (m : Int) f (P.map toP) = some (.x1 f' (img S (P'.take m')) (img S P') ((P'.drop m').map toW) (S : Int) (m' : Int) f' (P'.map toP)) ∨
      (G_ringlaw3_DiskPlays_C10 n (S : Int) l x f (img S (P.take m)) (img S P) ((P.drop m).map toW) (S : Int) (m : Int) f (P.map toP) = some (.x2 f' (img S (P'.take m')) (img S P') ((P'.drop m').map toW) (P'.map toP)) ∧ m' = m ∧ f' = f)) := by
  unfold G_ringlaw3_DiskPlays_C10 G_ringlaw3_DiskPlays_C7
  rw [hy, Option.bind_some]
  rcases act_is (l := l) hn h hk x hN with ⟨P', m', f', h1, h2⟩ | h2
  · refine ⟨P', m', f', h1, .inl ?_⟩
    rw [h2, Option.bind_some]
    simp only [Option.bind_some]
    rw [see8 h1, Option.bind_some]
    simp only [Bool.false_eq_true, if_false]
    have hr : G_disk_Disk_Read_h n ⟨img S (P'.take m'), img S P', (P'.drop m').map toW, f'⟩ y.fN = _ := read_is h1 y.fN
    by_cases c1 : y.fN < 0
    · rw [if_pos (Or.inl c1)] at hr
      rw [hr, Option.bind_some, if_pos c1]; rfl
    by_cases c2 : y.fN ≥ (S : Int)
    · rw [if_pos (Or.inr c2)] at hr
      rw [hr, Option.bind_some, if_neg c1, if_pos c2]; rfl
    rw [if_neg (show ¬ (y.fN < 0 ∨ y.fN ≥ (S : Int)) by omega)] at hr
    rw [hr, Option.bind_some, if_neg c1, if_neg c2]
    simp only [if_true]
    obtain ⟨q, hq⟩ := Int.eq_ofNat_of_zero_le (show 0 ≤ y.fN by omega)
    have hR := readR hn h1 (q := q) (by omega)
    rw [hq, hR, Option.bind_some]
    simp only [Int.toNat_natCast, beq_self_eq_true, Bool.not_true, Bool.false_eq_true, if_false]
    rfl
  · have h1 : Inv S P m f (k + 1) := ⟨h.sB, h.wf, h.mB, by have := h.kB; omega, by omega, h.fB⟩
    refine ⟨P, m, f, h1, ?_⟩
    rw [h2, Option.bind_some]
    simp only [Option.bind_some]
    rw [see9 h1, Option.bind_some]
    simp only [Bool.false_eq_true, if_false]
    have hr : G_disk_Disk_Read_h n ⟨img S (P.take m), img S P, (P.drop m).map toW, f⟩ y.fN = _ := read_is h1 y.fN
    by_cases c1 : y.fN < 0
    · right
      rw [if_pos (Or.inl c1)] at hr
      rw [hr, Option.bind_some, if_pos c1]; exact ⟨rfl, trivial, trivial⟩
    by_cases c2 : y.fN ≥ (S : Int)
    · right
      rw [if_pos (Or.inr c2)] at hr
      rw [hr, Option.bind_some, if_neg c1, if_pos c2]; exact ⟨rfl, trivial, trivial⟩
    left
    rw [if_neg (show ¬ (y.fN < 0 ∨ y.fN ≥ (S : Int)) by omega)] at hr
    rw [hr, Option.bind_some, if_neg c1, if_neg c2]
    simp only [if_true]
    obtain ⟨q, hq⟩ := Int.eq_ofNat_of_zero_le (show 0 ≤ y.fN by omega)
    have hR := readR hn h1 (q := q) (by omega)
    rw [hq, hR, Option.bind_some]
    simp only [Int.toNat_natCast, beq_self_eq_true, Bool.not_true, Bool.false_eq_true, if_false]
    rfl
theorem loop (hn : 2000 ≤ n) (hl : l.length ≤ 60) (hA : ∀ y ∈ l, y.fN ≤ 9223372036854775807) : ∀ (t i : Nat) (P : List (Nat × List Int)) (m : Nat) (f : Int), l.length - i < t → i ≤ l.length → Inv S P m f i →
    ∃ P' m' f', Inv S P' m' f' 60 ∧ G_ringlaw3_DiskPlays_L11 n (S : Int) l t (i : Int) f (img S (P.take m)) (img S P) ((P.drop m).map toW) (S : Int) (m : Int) f (P.map toP) = some (.x1 f' (img S (P'.take m')) (img S P') ((P'.drop m').map toW) (S : Int) (m' : Int) f' (P'.map toP))
  | 0, i, _, _, _, h, _, _ => by omega
  | t + 1, i, P, m, f, ht, hi, h => by
    rw [G_ringlaw3_DiskPlays_L11]
    by_cases hlt : (i : Int) < (l.length : Int)
    · obtain ⟨y, hy⟩ := get_lt hlt
      have hy2 : getI l (i : Int) = some y := by rw [getI_nat]; exact hy
      obtain ⟨P', m', f', h1, h2⟩ := round (n := n) hn h (by omega) hy2 (hA y (List.mem_of_getElem? hy))
      rw [if_pos hlt, wi_succ (by omega)]
      rcases h2 with h2 | ⟨h2, rfl, rfl⟩
      · rw [h2, Option.bind_some]
        exact loop hn hl hA t (i + 1) P' m' f' (by omega) (by omega) h1
      · rw [h2, Option.bind_some]
        exact loop hn hl hA t (i + 1) P' m' f' (by omega) (by omega) h1
    · rw [if_neg hlt]
      exact ⟨P, m, f, ⟨h.sB, h.wf, h.mB, by have := h.kB; have := h.k60; omega, Nat.le_refl _, h.fB⟩, rfl⟩
theorem imageL (hn : 2000 ≤ n) (h : Inv S P m f k) {d : S_ringref3_Disk} (hd : d.fSectors = (S : Int)) : ∀ (t i : Nat), S - i < t → i ≤ S →
    G_ringref3_Disk_Image_h_L1 n d t (b2s ((img S (P.take m)).take (i * 64))) (i : Int) (S : Int) (m : Int) f (P.map toP) = some (.x0 (b2s (img S (P.take m))) (S : Int) (m : Int) f (P.map toP))
  | 0, i, ht, _ => by omega
  | t + 1, i, ht, hi => by
    have hS := h.sB
    have hm := h.mB
    have hk := h.kB
    have hk2 := h.k60
    have hT : ∀ p ∈ P.take m, Wf S p := fun p hp => h.wf p (List.mem_of_mem_take hp)
    have hl := img_len' hT
    rw [G_ringref3_Disk_Image_h_L1, hd]
    by_cases c : (i : Int) < (S : Int)
    · have hs : G_ringref3_Disk_Safe_h n ⟨(S : Int), (m : Int), f, P.map toP⟩ (i : Int) = some (b2s (sector (img S (P.take m)) i), ⟨(S : Int), (m : Int), f, P.map toP⟩) := by
        unfold G_ringref3_Disk_Safe_h
        simp only [List.length_map, Int.toNat_natCast]
        rw [if_pos (by omega), if_pos (by omega), List.drop_zero, ← List.map_take, last_is hn (by rw [List.length_take]; omega), Option.bind_some, sector_img (by omega) hT]
      have hsl : (sector (img S (P.take m)) i).length = 64 := by unfold sector; rw [List.length_drop, List.length_take]; omega
      rw [if_pos c, hs, Option.bind_some]
      simp only []
      rw [cat_b2s _ _ (by rw [hsl, List.length_take]; omega), Option.bind_some, wi_succ (by omega)]
      have e : (img S (P.take m)).take (i * 64) ++ sector (img S (P.take m)) i = (img S (P.take m)).take ((i + 1) * 64) := by
        unfold sector
        have e1 : (img S (P.take m)).take (i * 64) = ((img S (P.take m)).take ((i + 1) * 64)).take (i * 64) := by rw [List.take_take]; congr 1; omega
        rw [e1, List.take_append_drop]
      rw [e]
      exact imageL hn h hd t (i + 1) (by omega) (by omega)
    · have : i = S := by omega
      subst this
      rw [if_neg c, List.take_of_length_le (by omega)]
end
theorem lightL {n : Nat} {l : List S_ringlaw3_Act} (hl : l.length < 4611686018427387903) : ∀ (t i : Nat), l.length - i < t → i ≤ l.length → ∃ o, G_ringlaw3_light_L1 n l t (i : Int) = some o ∧ (o = .x0 false ∨ o = .x1)
  | 0, i, ht, _ => by omega
  | t + 1, i, ht, hi => by
    rw [G_ringlaw3_light_L1]
    by_cases hlt : (i : Int) < (l.length : Int)
    · obtain ⟨y, hy⟩ := get_lt hlt
      rw [if_pos hlt, getI_nat, hy, Option.bind_some, wi_succ (by omega)]
      split
      · exact ⟨_, rfl, .inl rfl⟩
      · split
        · exact ⟨_, rfl, .inl rfl⟩
        · exact lightL hl t (i + 1) (by omega) (by omega)
    · rw [if_neg hlt]
      exact ⟨_, rfl, .inr rfl⟩
theorem light_is {n : Nat} {l : List S_ringlaw3_Act} (hl : l.length < 4611686018427387903) (hn : l.length < n) : ∃ b, G_ringlaw3_light n l = some b ∧ (b = true → l.length ≤ 60) := by
  unfold G_ringlaw3_light
  obtain ⟨o, h1, h2⟩ := lightL (n := n) hl n 0 (by omega) (by omega)
  have h1 : G_ringlaw3_light_L1 n l n 0 = _ := h1
  rw [h1, Option.bind_some]
  rcases h2 with rfl | rfl
  · exact ⟨false, rfl, fun h => by cases h⟩
  · exact ⟨_, rfl, fun h => by have := of_decide_eq_true h; omega⟩
theorem law (s : Int) (l : List S_ringlaw3_Act) (h0 : (Lit.int .i64 s).wf = true) (h1 : okL 64 okS_ringlaw3_Act l) : ∃ n, G_ringlaw3_DiskPlays n s l = some true := by
  refine ⟨l.length + 20000, ?_⟩
  have hn : 2000 ≤ l.length + 20000 := by omega
  have hll : l.length < 4611686018427387903 := by have := h1.1; omega
  obtain ⟨b, hb1, hb2⟩ := light_is (n := l.length + 20000) hll (by omega)
  generalize l.length + 20000 = n at *
  unfold G_ringlaw3_DiskPlays G_disk_New_h
  by_cases c1 : s < 16
  · rw [if_pos c1, Option.bind_some]
    simp only []
    rw [if_pos c1, if_pos trivial]
  rw [if_neg c1]
  by_cases c2 : s > 256
  · rw [if_pos c2, Option.bind_some]
    simp only []
    rw [if_neg c1, if_pos c2, if_pos trivial]
  rw [if_neg c2]
  obtain ⟨S, rfl⟩ := Int.eq_ofNat_of_zero_le (show 0 ≤ s by omega)
  have e : mkL 1 (0 : Int) (wi .i64 ((S : Int) * 64)) = some (List.replicate (S * 64) 0) := by
    rw [wi64 (by omega) (by omega)]
    unfold mkL
    have : ((S : Int) * 64).toNat = S * 64 := by omega
    rw [this, if_pos ⟨by omega, by unfold maxLen; omega, by omega⟩]
  rw [e, Option.bind_some, Option.bind_some, Option.bind_some]
  simp only []
  rw [if_neg c1, if_neg c2, if_pos trivial, hb1, Option.bind_some]
  by_cases cb : b = true
  · rw [if_pos cb]
    have hl := hb2 cb
    unfold G_ringref3_NewDisk_h
    rw [Option.bind_some]
    have hA : ∀ y ∈ l, y.fN ≤ 9223372036854775807 := fun y hy => (wf64.1 (h1.2 y hy).2.1).2
    have i0 : Inv S [] 0 (-1) 0 := ⟨by omega, fun p hp => by simp at hp, Nat.le_refl _, by simp, by omega, by decide⟩
    obtain ⟨P, m, f, hi, hL⟩ := loop (n := n) (S := S) hn hl hA n 0 [] 0 (-1) (by omega) (by omega) i0
    have hL : G_ringlaw3_DiskPlays_L11 n (S : Int) l n 0 (-1) (List.replicate (S * 64) 0) (List.replicate (S * 64) 0) [] (S : Int) 0 (-1) [] = _ := hL
    rw [hL, Option.bind_some]
    simp only []
    have hs : G_disk_Disk_Size_h n ⟨img S (P.take m), img S P, (P.drop m).map toW, f⟩ = _ := size_is n hi
    rw [hs, Option.bind_some]
    simp only []
    rw [if_pos trivial]
    unfold G_disk_Disk_Image_h G_slices_Clone_byte_byte G_ringref3_Disk_Image_h
    have hT : ∀ p ∈ P.take m, Wf S p := fun p hp => hi.wf p (List.mem_of_mem_take hp)
    have hsl : (D S P m f).fsafe.length = S * 64 := img_len' hT
    rw [app_le (m := 1000000) (by rw [hsl, List.length_nil]; omega) (by decide) (by decide), Option.bind_some, Option.bind_some]
    have hI := imageL (n := n) hn hi (d := ⟨(S : Int), (m : Int), f, P.map toP⟩) rfl n 0 (by omega) (by omega)
    have h0' : b2s ((img S (P.take m)).take (0 * 64)) = ByteArray.mk #[] := rfl
    rw [h0'] at hI
    have hI : G_ringref3_Disk_Image_h_L1 n ⟨(S : Int), (m : Int), f, P.map toP⟩ n (ByteArray.mk #[]) 0 (S : Int) (m : Int) f (P.map toP) = _ := hI
    rw [hI, Option.bind_some, Option.bind_some]
    show some ((b2s ([] ++ img S (P.take m))).toList == (b2s (img S (P.take m))).toList) = some true
    rw [List.nil_append, beq_self_eq_true]
  · rw [if_neg cb]
end Go.Proofs.Ytlabkelhaaahkaa.diskPlays
