/- DiskPlays: the steps. -/
import Derived.Test.YtlabkelhaaahkaaLDp
namespace Go.Proofs.Ytlabkelhaaahkaa.diskPlays
set_option linter.all false
open Go.RowKit help pv

section
variable {n S m k : Nat} {P : List (Nat × List Int)} {f : Int}
theorem write_is (h : Inv S P m f k) (hk : k < 60) (N : Int) (data : List Int) : ∃ e P' f', G_disk_Disk_Write_h n (D S P m f) N data = some (e, D S P' m f') ∧ G_ringref3_Disk_Write_h n (Rf S P m f) N (b2s data) = some (e, Rf S P' m f') ∧ Inv S P' m f' (k + 1) := by
  have same : Inv S P m f (k + 1) := ⟨h.sB, h.wf, h.mB, by have := h.kB; omega, by omega, h.fB⟩
  unfold G_disk_Disk_Write_h G_ringref3_Disk_Write_h G_disk_Disk_Write_h_C1 G_ringref3_Disk_Write_h_C1
  by_cases c1 : N < 0
  · rw [if_pos c1, if_pos c1]
    exact ⟨1, P, f, rfl, rfl, same⟩
  rw [if_neg c1, if_neg c1, size_is n h, Option.bind_some]
  show ∃ e P' f', Option.bind (if N ≥ (S : Int) then _ else _) _ = _ ∧ Option.bind (if N ≥ (S : Int) then _ else _) _ = _ ∧ _
  by_cases c2 : N ≥ (S : Int)
  · rw [if_pos c2, if_pos c2]
    exact ⟨1, P, f, rfl, rfl, same⟩
  rw [if_neg c2, if_neg c2, b2s_size, Option.bind_some, Option.bind_some]
  by_cases c3 : data.length = 64
  · have hb : ((data.length : Int) != 64) = false := by simp; omega
    rw [hb]
    simp only [Bool.false_eq_true, if_false]
    have g1 : G_disk_Disk_goes_h n ⟨(D S P m f).fsafe, (D S P m f).fnow, (D S P m f).fwait, (D S P m f).ffuse⟩ = some (decide (f ≠ 0), D S P m (nf f)) := goesD n h.fB
    have g2 : G_ringref3_Disk_goes_h n ⟨(Rf S P m f).fSectors, (Rf S P m f).fMark, (Rf S P m f).fFuse, (Rf S P m f).fAll⟩ = some (decide (f ≠ 0), Rf S P m (nf f)) := goesR n h.fB
    rw [g1, g2, Option.bind_some, Option.bind_some]
    simp only []
    have same2 : Inv S P m (nf f) (k + 1) := ⟨h.sB, h.wf, h.mB, by have := h.kB; omega, by omega, nf_ok h.fB⟩
    by_cases c4 : f = 0
    · rw [decide_eq_false (by omega)]
      simp only [Bool.false_eq_true, if_false]
      exact ⟨0, P, nf f, rfl, rfl, same2⟩
    · rw [decide_eq_true c4]
      simp only [if_true]
      obtain ⟨q, rfl⟩ := Int.eq_ofNat_of_zero_le (show 0 ≤ N by omega)
      have hp : Wf S (q, data) := ⟨by show q < S; omega, c3⟩
      have hPl := h.kB
      have hS := h.sB
      have hl : (D S P m (nf f)).fnow.length = S * 64 := img_len' h.wf
      have e1 : wi .i64 ((q : Int) * 64) = ((q * 64 : Nat) : Int) := by rw [wi64 (by omega) (by omega)]; omega
      unfold G_slices_Clone_byte_byte
      rw [app_le (m := 1000) (by simp; omega) (by decide) (by decide), Option.bind_some,
        app_le (m := 1000) (by simp [D]; omega) (by decide) (by decide), Option.bind_some,
        app_le (m := 1000) (by simp [Rf]; omega) (by decide) (by decide), Option.bind_some, e1, if_pos (by rw [hl]; omega), if_pos (Nat.le_refl _), Int.toNat_natCast]
      refine ⟨0, P ++ [(q, data)], nf f, ?_, ?_, ⟨h.sB, fun p hp' => ?_, by simp; have := h.mB; omega, by simp; omega, by omega, nf_ok h.fB⟩⟩
      · have hc := cpyR_put (img_len' h.wf) hp
        have e2 : (P ++ [(q, data)]).take m = P.take m := List.take_append_of_le_length h.mB
        have e3 : (P ++ [(q, data)]).drop m = P.drop m ++ [(q, data)] := List.drop_append_of_le_length h.mB
        simp only [D, e2, e3, List.map_append, img_snoc, List.nil_append, ← hc]
        rfl
      · simp [Rf, toP]
      · simp at hp'
        rcases hp' with hp' | rfl
        · exact h.wf p hp'
        · exact hp
  · have hb : ((data.length : Int) != 64) = true := by simp; omega
    rw [hb]
    exact ⟨1, P, f, rfl, rfl, same⟩
theorem flush_is (h : Inv S P m f k) (hk : k < 60) : ∃ m' f', G_disk_Disk_Flush_h n (D S P m f) = some (D S P m' f') ∧ G_ringref3_Disk_Flush_h n (Rf S P m f) = some (Rf S P m' f') ∧ Inv S P m' f' (k + 1) := by
  unfold G_disk_Disk_Flush_h G_ringref3_Disk_Flush_h
  rw [goesD n h.fB, goesR n h.fB, Option.bind_some, Option.bind_some]
  simp only []
  by_cases c4 : f = 0
  · rw [decide_eq_false (by omega)]
    simp only [Bool.false_eq_true, if_false]
    exact ⟨m, nf f, rfl, rfl, h.sB, h.wf, h.mB, by have := h.kB; omega, by omega, nf_ok h.fB⟩
  · rw [decide_eq_true c4]
    simp only [if_true]
    refine ⟨P.length, nf f, ?_, ?_, h.sB, h.wf, Nat.le_refl _, by have := h.kB; omega, by omega, nf_ok h.fB⟩
    · have hl : (img S (P.take m)).length = (img S P).length := by rw [img_len' h.wf, img_len' (fun p hp => h.wf p (List.mem_of_mem_take hp))]
      simp only [D, cpyR_all hl, List.take_length, List.drop_length, List.map_nil]
    · simp [Rf]
/-- what is kept of what waits -/
def sel : List (Nat × List Int) → List Bool → List (Nat × List Int)
  | [], _ => []
  | _ :: _, [] => []
  | p :: W, b :: K => if b = true then p :: sel W K else sel W K
theorem sel_nil : ∀ (W : List (Nat × List Int)), sel W [] = []
  | [] => rfl
  | _ :: _ => rfl
theorem sel_mem : ∀ {W : List (Nat × List Int)} {K : List Bool} {p : Nat × List Int}, p ∈ sel W K → p ∈ W
  | [], _, p, h => by simp [sel] at h
  | q :: W, [], p, h => by simp [sel] at h
  | q :: W, b :: K, p, h => by
    rw [sel] at h
    split at h
    · rcases List.mem_cons.1 h with rfl | h
      · simp
      · exact List.mem_cons_of_mem _ (sel_mem h)
    · exact List.mem_cons_of_mem _ (sel_mem h)
theorem sel_len : ∀ (W : List (Nat × List Int)) (K : List Bool), (sel W K).length ≤ W.length
  | [], _ => by simp [sel]
  | q :: W, [] => by simp [sel]
  | q :: W, b :: K => by
    have := sel_len W K
    rw [sel]
    split <;> simp <;> omega
theorem crashD {kept : List Bool} {d : S_disk_Disk} {W : List (Nat × List Int)} {now : List Int} (hS : S ≤ 256) (hW : ∀ p ∈ W, Wf S p) (hWl : W.length ≤ 1000) (hd : d.fwait = W.map toW) : ∀ (k i : Nat) (safe : List Int), W.length - i < k → i ≤ W.length → safe.length = S * 64 →
    G_disk_Disk_Crash_h_L2 n kept d k (i : Int) safe now (W.map toW) = some (.x0 ((sel (W.drop i) (kept.drop i)).foldl put safe) now (W.map toW))
  | 0, i, safe, h, _, _ => by omega
  | k + 1, i, safe, hk, hi, hs => by
    rw [G_disk_Disk_Crash_h_L2, hd, List.length_map]
    by_cases hlt : (i : Int) < (W.length : Int)
    · obtain ⟨p, hp⟩ := get_lt hlt
      have hwp := hW p (List.mem_of_getElem? hp)
      have hw1 := hwp.1
      rw [if_pos hlt, drop_cons hp, wi_succ (by omega)]
      unfold G_disk_Disk_Crash_h_C1
      rw [List.length_map, if_pos (by omega), Int.toNat_natCast, List.getElem?_map, hp]
      simp only [Option.map_some, Option.bind_some]
      by_cases ck : (i : Int) < (kept.length : Int)
      · obtain ⟨b, hb⟩ := get_lt ck
        rw [if_pos ck, getI_nat, hb, Option.bind_some, drop_cons hb, sel]
        have e1 : wi .i64 ((toW p).fn * 64) = ((p.1 * 64 : Nat) : Int) := by
          show wi .i64 ((p.1 : Int) * 64) = _
          rw [wi64 (by omega) (by omega)]; omega
        by_cases cb : b = true
        · rw [if_pos cb, if_pos cb, e1, if_pos (by rw [hs]; omega), if_pos (Nat.le_refl _), Int.toNat_natCast, Option.bind_some]
          have hc := cpyR_put hs hwp
          have hc : cpyR safe (p.1 * 64) safe.length (toW p).fdata = put safe p := hc
          simp only [hc, List.foldl_cons]
          exact crashD (kept := kept) (now := now) hS hW hWl hd k (i + 1) _ (by omega) (by omega) (put_len hs hwp)
        · rw [if_neg cb, if_neg cb, Option.bind_some]
          exact crashD (kept := kept) (now := now) hS hW hWl hd k (i + 1) _ (by omega) (by omega) hs
      · rw [if_neg ck, drop_end ck, sel, Option.bind_some]
        have := crashD (kept := kept) (now := now) hS hW hWl hd k (i + 1) safe (by omega) (by omega) hs
        rw [List.drop_of_length_le (l := kept) (by omega), sel_nil] at this
        exact this
    · rw [if_neg hlt, drop_end hlt]; rfl
theorem crashR {kept : List Bool} {d : S_ringref3_Disk} (hP : P.length ≤ 100) (hm : m ≤ P.length) (hd1 : d.fAll = P.map toP) (hd2 : d.fMark = (m : Int)) : ∀ (k i : Nat) (acc : List (Nat × List Int)), P.length - m - i < k → i ≤ P.length - m → acc.length ≤ m + i →
    G_ringref3_Disk_Crash_h_L2 n kept d k (i : Int) (acc.map toP) = some (.x0 ((acc ++ sel ((P.drop m).drop i) (kept.drop i)).map toP))
  | 0, i, acc, h, _, _ => by omega
  | k + 1, i, acc, hk, hi, ha => by
    rw [G_ringref3_Disk_Crash_h_L2, hd1, hd2, List.length_map, Int.toNat_natCast]
    by_cases hlt : (i : Int) < ((P.length - m : Nat) : Int)
    · have hlt' : (i : Int) < (((P.drop m).length : Nat) : Int) := by rw [List.length_drop]; exact hlt
      obtain ⟨p, hp⟩ := get_lt hlt'
      have hp2 : P[m + i]? = some p := by rw [List.getElem?_drop] at hp; exact hp
      rw [if_pos hlt, drop_cons hp, wi_succ (by omega)]
      unfold G_ringref3_Disk_Crash_h_C1
      rw [hd1, hd2, List.length_map, Int.toNat_natCast, if_pos ⟨by omega, hlt, Nat.le_refl _⟩, Int.toNat_natCast, List.getElem?_map, hp2]
      simp only [Option.map_some, Option.bind_some]
      by_cases ck : (i : Int) < (kept.length : Int)
      · obtain ⟨b, hb⟩ := get_lt ck
        rw [if_pos ck, getI_nat, hb, Option.bind_some, drop_cons hb, sel]
        by_cases cb : b = true
        · rw [if_pos cb, if_pos cb, app_le (m := 1000) (by simp; omega) (by decide) (by decide), Option.bind_some]
          have := crashR (kept := kept) hP hm hd1 hd2 k (i + 1) (acc ++ [p]) (by omega) (by omega) (by simp; omega)
          simp only [List.map_append, List.map_cons, List.map_nil, List.append_assoc, List.singleton_append] at this ⊢
          exact this
        · rw [if_neg cb, if_neg cb, Option.bind_some]
          exact crashR (kept := kept) hP hm hd1 hd2 k (i + 1) acc (by omega) (by omega) (by omega)
      · rw [if_neg ck, drop_end ck, sel, Option.bind_some]
        have := crashR (kept := kept) hP hm hd1 hd2 k (i + 1) acc (by omega) (by omega) (by omega)
        rw [List.drop_of_length_le (l := kept) (by omega), sel_nil] at this
        exact this
    · have hlt' : ¬ (i : Int) < (((P.drop m).length : Nat) : Int) := by rw [List.length_drop]; exact hlt
      rw [if_neg hlt, drop_end hlt', sel, List.append_nil]
theorem crash_is (hn : 2000 ≤ n) (h : Inv S P m f k) (hk : k < 60) (kept : List Bool) : ∃ P' m' f', G_disk_Disk_Crash_h n (D S P m f) kept = some (D S P' m' f') ∧ G_ringref3_Disk_Crash_h n (Rf S P m f) kept = some (Rf S P' m' f') ∧ Inv S P' m' f' (k + 1) := by
  have hPl := h.kB
  have hm := h.mB
  have hW : ∀ p ∈ P.drop m, Wf S p := fun p hp => h.wf p (List.mem_of_mem_drop hp)
  have hT : ∀ p ∈ P.take m, Wf S p := fun p hp => h.wf p (List.mem_of_mem_take hp)
  have hsl := sel_len (P.drop m) kept
  rw [List.length_drop] at hsl
  have hP' : ∀ p ∈ P.take m ++ sel (P.drop m) kept, Wf S p := fun p hp => by
    rcases List.mem_append.1 hp with hp | hp
    · exact hT p hp
    · exact hW p (sel_mem hp)
  have hlen : (P.take m ++ sel (P.drop m) kept).length = m + (sel (P.drop m) kept).length := by rw [List.length_append, List.length_take, Nat.min_eq_left hm]
  refine ⟨P.take m ++ sel (P.drop m) kept, (P.take m ++ sel (P.drop m) kept).length, -1, ?_, ?_, h.sB, hP', Nat.le_refl _, by rw [hlen]; omega, by omega, by decide⟩
  · unfold G_disk_Disk_Crash_h
    have e := crashD (n := n) (kept := kept) (d := D S P m f) (now := img S P) h.sB hW (by simp; omega) rfl n 0 (img S (P.take m)) (by simp; omega) (by omega) (img_len' hT)
    have e : G_disk_Disk_Crash_h_L2 n kept (D S P m f) n 0 (D S P m f).fsafe (D S P m f).fnow (D S P m f).fwait = _ := e
    rw [e, Option.bind_some]
    simp only [List.drop_zero]
    have hi : img S (P.take m ++ sel (P.drop m) kept) = (sel (P.drop m) kept).foldl put (img S (P.take m)) := by simp [img, List.foldl_append]
    have hl : (img S P).length = (img S (P.take m ++ sel (P.drop m) kept)).length := by rw [img_len' h.wf, img_len' hP']
    rw [← hi, cpyR_all hl]
    simp only [D, List.take_length, List.drop_length, List.map_nil]
  · unfold G_ringref3_Disk_Crash_h
    have hc : 0 ≤ (Rf S P m f).fMark ∧ (Rf S P m f).fMark ≤ ((Rf S P m f).fAll.length : Int) := by
      show 0 ≤ (m : Int) ∧ (m : Int) ≤ ((P.map toP).length : Int)
      rw [List.length_map]; omega
    rw [if_pos hc, if_pos hc]
    have e := crashR (n := n) (kept := kept) (P := P) (m := m) (d := Rf S P m f) (by omega) hm rfl rfl n 0 (P.take m) (by omega) (by omega) (by rw [List.length_take]; omega)
    have et : (Rf S P m f).fAll.take (Rf S P m f).fMark.toNat = (P.take m).map toP := by
      show (P.map toP).take (m : Int).toNat = _
      rw [Int.toNat_natCast, List.map_take]
    rw [et]
    have e : G_ringref3_Disk_Crash_h_L2 n kept (Rf S P m f) n 0 ((P.take m).map toP) = _ := e
    rw [e, Option.bind_some]
    simp only [List.drop_zero, Rf, List.length_map]
theorem fuse_is (h : Inv S P m f k) (hk : k < 60) {N : Int} (hN : N ≤ 9223372036854775807) : ∃ f', G_disk_Disk_Fuse_h n (D S P m f) N = some (D S P m f') ∧ G_ringref3_Disk_Fused_h n (Rf S P m f) N = some (Rf S P m f') ∧ Inv S P m f' (k + 1) := by
  have hf := h.fB
  unfold G_disk_Disk_Fuse_h G_ringref3_Disk_Fused_h
  show ∃ f', (if f = 0 then _ else _) = _ ∧ (if f = 0 then _ else _) = _ ∧ _
  by_cases c : f = 0
  · rw [if_pos c, if_pos c]
    exact ⟨f, rfl, rfl, h.sB, h.wf, h.mB, by have := h.kB; omega, by omega, hf⟩
  · rw [if_neg c, if_neg c]
    refine ⟨maxI (-1) N, rfl, rfl, h.sB, h.wf, h.mB, by have := h.kB; omega, by omega, ?_⟩
    unfold maxI
    split <;> omega
theorem read_is (h : Inv S P m f k) (N : Int) : G_disk_Disk_Read_h n (D S P m f) N = some (if N < 0 ∨ N ≥ (S : Int) then ([], 1, D S P m f) else (sector (img S P) N.toNat, 0, D S P m f)) := by
  have hS := h.sB
  have hl : (D S P m f).fnow.length = S * 64 := img_len' h.wf
  unfold G_disk_Disk_Read_h
  by_cases c1 : N < 0
  · rw [if_pos c1, if_pos (.inl c1)]
  rw [if_neg c1, size_is n h, Option.bind_some]
  simp only []
  by_cases c2 : N ≥ (S : Int)
  · rw [if_pos c2, if_pos (.inr c2)]
  rw [if_neg c2, if_neg (show ¬ (N < 0 ∨ N ≥ (S : Int)) by omega)]
  obtain ⟨q, rfl⟩ := Int.eq_ofNat_of_zero_le (show 0 ≤ N by omega)
  have e1 : wi .i64 ((q : Int) * 64) = ((q * 64 : Nat) : Int) := by rw [wi64 (by omega) (by omega)]; omega
  have e2 : wi .i64 ((q : Int) + 1) = ((q + 1 : Nat) : Int) := wi_succ (by omega)
  have e3 : wi .i64 (((q + 1 : Nat) : Int) * 64) = (((q + 1) * 64 : Nat) : Int) := by rw [wi64 (by omega) (by omega)]; omega
  rw [e1, e2, e3, if_pos (by rw [hl]; omega), Int.toNat_natCast, Int.toNat_natCast, if_pos (by rw [hl]; omega), Int.toNat_natCast]
  unfold G_slices_Clone_byte_byte
  rw [app_le (m := 1000000) (by simp only [List.length_nil, List.length_drop, List.length_take]; omega) (by decide) (by decide)]
  rfl
end
end Go.Proofs.Ytlabkelhaaahkaa.diskPlays
