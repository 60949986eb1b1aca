/- LiftRuns: the disk, and the plain law -/
import Derived.Test.YtdimcmpkhbfcnaaGuLiftRuns
import Derived.Test.YtdimcmpkhbfcnaaLib
import Derived.Test.YtdimcmpkhbfcnaaMath
import Derived.Test.YtdimcmpkhbfcnaaMLa
namespace Go.Proofs.Ytdimcmpkhbfcnaa.pv.ld
set_option linter.all false
open Go.RowKit help pv
def u8 (x : Int) : UInt8 := UInt8.ofNat x.toNat
theorem push_fold (L : List Int) : ∀ acc : ByteArray, (L.foldl (fun r n => r.push (UInt8.ofNat n.toNat)) acc).data = acc.data ++ (L.map u8).toArray := by
  induction L with
  | nil => intro acc; simp
  | cons a L ih =>
    intro acc
    rw [List.foldl_cons, ih]
    show acc.data.push (u8 a) ++ (L.map u8).toArray = acc.data ++ ((u8 a :: L.map u8)).toArray
    apply Array.ext'
    simp
theorem b2s_data (L : List Int) : (b2s L).data = (L.map u8).toArray := by
  unfold b2s
  rw [push_fold]
  show (#[] : Array UInt8) ++ _ = _
  simp
theorem b2s_app (L K : List Int) : b2s L ++ b2s K = b2s (L ++ K) := by
  apply ByteArray.ext
  rw [ByteArray.data_append, b2s_data, b2s_data, b2s_data]
  simp
theorem b2s_size (L : List Int) : (b2s L).size = L.length := by
  show (b2s L).data.size = _
  rw [b2s_data]; simp
theorem cat_b2s (L K : List Int) (h : L.length + K.length ≤ 1000000) : catS (b2s L) (b2s K) = some (b2s (L ++ K)) := by
  unfold catS
  rw [b2s_size, b2s_size, if_pos (by omega), b2s_app]
theorem rep_zero (c : Nat) : Lib.repeatL [0] c = List.replicate c (0 : UInt8) := by
  induction c with
  | zero => rfl
  | succ c ih => rw [Lib.repeatL, ih]; rfl
theorem repeat_b2s (n c : Nat) (h : c ≤ 100) : G_strings_Repeat n (ByteArray.mk #[0]) (c : Int) = some (b2s (List.replicate c 0)) := by
  unfold G_strings_Repeat
  have hs : (ByteArray.mk #[0]).size = 1 := rfl
  rw [hs, if_pos ⟨by omega, by omega, by simp; omega⟩, Int.toNat_natCast]
  congr 1
  apply ByteArray.ext
  rw [b2s_data]
  have : (ByteArray.mk #[0]).data.toList = [0] := rfl
  rw [this, rep_zero]
  simp [u8]
/-- a write: a sector's number, its 64 bytes -/
def toW (p : Nat × List Int) : S_disk_write := ⟨(p.1 : Int), p.2⟩
def toP (p : Nat × List Int) : S_ringref3_Put := ⟨(p.1 : Int), b2s p.2⟩
def put (A : List Int) (p : Nat × List Int) : List Int := A.take (p.1 * 64) ++ p.2 ++ A.drop (p.1 * 64 + 64)
def sector (A : List Int) (n : Nat) : List Int := (A.take ((n + 1) * 64)).drop (n * 64)
def Wf (S : Nat) (p : Nat × List Int) : Prop := p.1 < S ∧ p.2.length = 64
def zeros : List Int := List.replicate 64 0
def img (S : Nat) (P : List (Nat × List Int)) : List Int := P.foldl put (List.replicate (S * 64) 0)
theorem put_len {S : Nat} {A : List Int} {p : Nat × List Int} (hA : A.length = S * 64) (hp : Wf S p) : (put A p).length = S * 64 := by
  obtain ⟨h1, h2⟩ := hp
  unfold put
  simp only [List.length_append, List.length_take, List.length_drop]
  omega
theorem cpyR_put {S : Nat} {A : List Int} {p : Nat × List Int} (hA : A.length = S * 64) (hp : Wf S p) : cpyR A (p.1 * 64) A.length p.2 = put A p := by
  obtain ⟨h1, h2⟩ := hp
  unfold cpyR put
  have hm : Nat.min p.2.length (A.length - p.1 * 64) = 64 := by rw [h2]; exact Nat.min_eq_left (by omega)
  rw [hm, List.take_of_length_le (l := p.2) (by omega)]
theorem cpyR_all {A B : List Int} (h : A.length = B.length) : cpyR A 0 A.length B = B := by
  unfold cpyR
  have hm : Nat.min B.length (A.length - 0) = A.length := by rw [← h]; simp
  rw [hm, List.take_of_length_le (l := B) (by omega), Nat.zero_add, List.drop_of_length_le (Nat.le_refl _)]
  simp
theorem put_get {S : Nat} {A : List Int} {p : Nat × List Int} (hA : A.length = S * 64) (hp : Wf S p) (i : Nat) : (put A p)[i]? = if p.1 * 64 ≤ i ∧ i < p.1 * 64 + 64 then p.2[i - p.1 * 64]? else A[i]? := by
  obtain ⟨h1, h2⟩ := hp
  unfold put
  have hl : (A.take (p.1 * 64)).length = p.1 * 64 := by rw [List.length_take]; omega
  rw [List.append_assoc]
  by_cases c1 : i < p.1 * 64
  · rw [List.getElem?_append_left (by omega), List.getElem?_take, if_pos c1, if_neg (by omega)]
  · rw [List.getElem?_append_right (by omega), hl]
    by_cases c2 : i < p.1 * 64 + 64
    · rw [List.getElem?_append_left (by omega), if_pos (by omega)]
    · rw [List.getElem?_append_right (by omega), if_neg (by omega), List.getElem?_drop]
      congr 1; omega
theorem sector_get (A : List Int) (n j : Nat) : (sector A n)[j]? = if j < 64 then A[n * 64 + j]? else none := by
  unfold sector
  rw [List.getElem?_drop, List.getElem?_take]
  by_cases c : j < 64
  · rw [if_pos c, if_pos (by omega)]
  · rw [if_neg c, if_neg (by omega)]
theorem sector_put {S : Nat} {A : List Int} {p : Nat × List Int} (hA : A.length = S * 64) (hp : Wf S p) (n : Nat) : sector (put A p) n = if p.1 = n then p.2 else sector A n := by
  apply List.ext_getElem?
  intro j
  rw [sector_get]
  have h2 := hp.2
  by_cases c : p.1 = n
  · rw [if_pos c]
    subst c
    by_cases cj : j < 64
    · rw [if_pos cj, put_get hA hp, if_pos (by omega)]; congr 1; omega
    · rw [if_neg cj, List.getElem?_eq_none (by omega)]
  · rw [if_neg c, sector_get]
    by_cases cj : j < 64
    · rw [if_pos cj, if_pos cj, put_get hA hp, if_neg (by omega)]
    · rw [if_neg cj, if_neg cj]
theorem img_len {S : Nat} : ∀ {P : List (Nat × List Int)} {A : List Int}, A.length = S * 64 → (∀ p ∈ P, Wf S p) → (P.foldl put A).length = S * 64
  | [], A, hA, _ => hA
  | p :: P, A, hA, h => img_len (P := P) (A := put A p) (put_len hA (h p (by simp))) fun q hq => h q (by simp [hq])
theorem img_len' {S : Nat} {P : List (Nat × List Int)} (h : ∀ p ∈ P, Wf S p) : (img S P).length = S * 64 := img_len (by simp) h
theorem img_snoc (S : Nat) (P : List (Nat × List Int)) (p : Nat × List Int) : img S (P ++ [p]) = put (img S P) p := by simp [img]
/-- what was written last -/
def look (Q : List (Nat × List Int)) (n : Nat) : List Int := match Q.find? (fun p => p.1 == n) with | some p => p.2 | none => zeros
theorem sector_look {S n : Nat} (hn : n < S) : ∀ (Q : List (Nat × List Int)), (∀ p ∈ Q, Wf S p) → sector (img S Q.reverse) n = look Q n
  | [], _ => by
    apply List.ext_getElem?
    intro j
    rw [sector_get]
    show _ = zeros[j]?
    simp only [img, List.reverse_nil, List.foldl_nil, zeros, List.getElem?_replicate]
    by_cases c : j < 64
    · rw [if_pos c, if_pos c, if_pos (by omega)]
    · rw [if_neg c, if_neg c]
  | q :: Q, h => by
    have ih := sector_look hn Q (fun p hp => h p (by simp [hp]))
    rw [List.reverse_cons, img_snoc, sector_put (img_len' (fun p hp => h p (by simp at hp; simp [hp]))) (h q (by simp)), ih]
    unfold look
    rw [List.find?_cons]
    by_cases c : q.1 = n
    · simp [c]
    · rw [if_neg c]
      have : (q.1 == n) = false := by simpa using c
      rw [this]
theorem sector_img {S n : Nat} (hn : n < S) {P : List (Nat × List Int)} (h : ∀ p ∈ P, Wf S p) : sector (img S P) n = look P.reverse n := by
  have := sector_look hn P.reverse (fun p hp => h p (by simpa using hp))
  rwa [List.reverse_reverse] at this
/-- the document's way to it -/
theorem lastL {n : Nat} {P : List (Nat × List Int)} (hP : P.length ≤ 1000) (N : Nat) : ∀ (t k : Nat), t < k → t ≤ P.length →
    G_ringref3_last_L1 n (P.map toP) (N : Int) k ((t : Int) - 1) = some (match (P.take t).reverse.find? (fun p => p.1 == N) with | some p => .x0 (b2s p.2) | none => .x1)
  | 0, k + 1, _, _ => by
    rw [G_ringref3_last_L1, if_neg (by omega)]
    rfl
  | t + 1, k + 1, hk, ht => by
    obtain ⟨p, hp⟩ : ∃ p, P[t]? = some p := ⟨P[t], List.getElem?_eq_getElem (by omega)⟩
    have e : (((t + 1 : Nat) : Int) - 1) = (t : Int) := by omega
    rw [G_ringref3_last_L1, e, if_pos (by omega), getI_nat, List.getElem?_map, hp]
    have ht' : P.take (t + 1) = P.take t ++ [p] := by rw [List.take_succ, hp]; rfl
    rw [ht', List.reverse_append]
    show (if (p.1 : Int) = (N : Int) then _ else _) = _
    by_cases c : p.1 = N
    · subst c
      rw [if_pos rfl]
      simp [toP]
    · rw [if_neg (by omega)]
      have : (p.1 == N) = false := by simpa using c
      have e2 : wi .i64 ((t : Int) - 1) = (t : Int) - 1 := wi64 (by omega) (by omega)
      simp only [List.reverse_cons, List.reverse_nil, List.nil_append, List.singleton_append, List.find?_cons, this]
      rw [e2]
      exact lastL hP N t k (by omega) (by omega)
theorem last_is {n : Nat} (hn : 2000 ≤ n) {P : List (Nat × List Int)} (hP : P.length ≤ 1000) (N : Nat) : G_ringref3_last n (P.map toP) (N : Int) = some (b2s (look P.reverse N)) := by
  unfold G_ringref3_last
  have h := lastL (n := n) hP N P.length n (by omega) (Nat.le_refl _)
  rw [List.take_of_length_le (Nat.le_refl _)] at h
  have e : wi .i64 (((P.map toP).length : Int) - 1) = (P.length : Int) - 1 := by rw [List.length_map, wi64 (by omega) (by omega)]
  rw [e, h, Option.bind_some]
  unfold look
  cases hf : P.reverse.find? (fun p => p.1 == N) with
  | some p => rfl
  | none =>
    simp only []
    have := repeat_b2s n 64 (by omega)
    have this : G_strings_Repeat n (ByteArray.mk #[0]) 64 = _ := this
    rw [this]; rfl
/-- a disk, and the document's, in the same state: all writes, from which on they wait, the fuse -/
def D (S : Nat) (P : List (Nat × List Int)) (m : Nat) (f : Int) : S_disk_Disk := ⟨img S (P.take m), img S P, (P.drop m).map toW, f⟩
def Rf (S : Nat) (P : List (Nat × List Int)) (m : Nat) (f : Int) : S_ringref3_Disk := ⟨(S : Int), (m : Int), f, P.map toP⟩
structure Inv (S : Nat) (P : List (Nat × List Int)) (m : Nat) (f : Int) (k : Nat) : Prop where
  sB : S ≤ 256
  wf : ∀ p ∈ P, Wf S p
  mB : m ≤ P.length
  kB : P.length ≤ k
  k60 : k ≤ 90
  fB : -1 ≤ f ∧ f ≤ 9223372036854775807
def nf (f : Int) : Int := if f > 0 then f - 1 else f
theorem goesD (n : Nat) {S : Nat} {P : List (Nat × List Int)} {m : Nat} {f : Int} (hf : -1 ≤ f ∧ f ≤ 9223372036854775807) : G_disk_Disk_goes_h n (D S P m f) = some (decide (f ≠ 0), D S P m (nf f)) := by
  unfold G_disk_Disk_goes_h nf
  show (if f = 0 then _ else if f > 0 then _ else _) = _
  by_cases c : f = 0
  · subst c; rfl
  · rw [if_neg c, decide_eq_true c]
    by_cases c2 : f > 0
    · rw [if_pos c2, if_pos c2, show (D S P m f).ffuse = f from rfl, wi64 (by omega) (by omega)]; rfl
    · rw [if_neg c2, if_neg c2]
theorem goesR (n : Nat) {S : Nat} {P : List (Nat × List Int)} {m : Nat} {f : Int} (hf : -1 ≤ f ∧ f ≤ 9223372036854775807) : G_ringref3_Disk_goes_h n (Rf S P m f) = some (decide (f ≠ 0), Rf S P m (nf f)) := by
  unfold G_ringref3_Disk_goes_h nf
  show (if f > 0 then _ else _) = _
  by_cases c2 : f > 0
  · rw [if_pos c2, if_pos c2, show (Rf S P m f).fFuse = f from rfl, wi64 (by omega) (by omega), decide_eq_true (by omega)]; rfl
  · rw [if_neg c2, if_neg c2]
    have : decide ((Rf S P m f).fFuse < 0) = decide (f ≠ 0) := by
      show decide (f < 0) = _
      by_cases c : f = 0
      · subst c; rfl
      · rw [decide_eq_true c, decide_eq_true (by omega)]
    rw [this]
theorem nf_ok {f : Int} (hf : -1 ≤ f ∧ f ≤ 9223372036854775807) : -1 ≤ nf f ∧ nf f ≤ 9223372036854775807 := by
  unfold nf; split <;> omega
theorem size_is (n : Nat) {S : Nat} {P : List (Nat × List Int)} {m : Nat} {f : Int} {k : Nat} (h : Inv S P m f k) : G_disk_Disk_Size_h n (D S P m f) = some ((S : Int), D S P m f) := by
  unfold G_disk_Disk_Size_h
  have hl : (D S P m f).fnow.length = S * 64 := img_len' h.wf
  have hs := h.sB
  rw [hl, quo_i64 (by omega) (by omega) (by omega)]
  congr 2
  omega
end Go.Proofs.Ytdimcmpkhbfcnaa.pv.ld
namespace Go.Proofs.Ytdimcmpkhbfcnaa.pv.ld
set_option linter.all false
open Go.RowKit help pv
section
variable {n S m k : Nat} {P : List (Nat × List Int)} {f : Int}
theorem write_is (h : Inv S P m f k) (hk : k < 90) (N : Int) (data : List Int) : ∃ e P' f', G_disk_Disk_Write_h n (D S P m f) N data = some (e, D S P' m f') ∧ G_ringref3_Disk_Write_h n (Rf S P m f) N (b2s data) = some (e, Rf S P' m f') ∧ Inv S P' m f' (k + 1) ∧ (¬ N < 0 → ¬ N ≥ (S : Int) → data.length = 64 → e = 0) := by
  have same : Inv S P m f (k + 1) := ⟨h.sB, h.wf, h.mB, by have := h.kB; omega, by omega, h.fB⟩
  unfold G_disk_Disk_Write_h G_ringref3_Disk_Write_h G_disk_Disk_Write_h_C1 G_ringref3_Disk_Write_h_C1
  by_cases c1 : N < 0
  · rw [if_pos c1, if_pos c1]
    exact ⟨1, P, f, rfl, rfl, same, fun a _ _ => absurd c1 a⟩
  rw [if_neg c1, if_neg c1, size_is n h, Option.bind_some]
  show ∃ e P' f', Option.bind (if N ≥ (S : Int) then _ else _) _ = _ ∧ Option.bind (if N ≥ (S : Int) then _ else _) _ = _ ∧ _ ∧ _
  by_cases c2 : N ≥ (S : Int)
  · rw [if_pos c2, if_pos c2]
    exact ⟨1, P, f, rfl, rfl, same, fun _ b _ => absurd c2 b⟩
  rw [if_neg c2, if_neg c2, b2s_size, Option.bind_some, Option.bind_some]
  by_cases c3 : data.length = 64
  · have hb : ((data.length : Int) != 64) = false := by simp; omega
    rw [hb]
    simp only [Bool.false_eq_true, if_false]
    have g1 : G_disk_Disk_goes_h n ⟨(D S P m f).fsafe, (D S P m f).fnow, (D S P m f).fwait, (D S P m f).ffuse⟩ = some (decide (f ≠ 0), D S P m (nf f)) := goesD n h.fB
    have g2 : G_ringref3_Disk_goes_h n ⟨(Rf S P m f).fSectors, (Rf S P m f).fMark, (Rf S P m f).fFuse, (Rf S P m f).fAll⟩ = some (decide (f ≠ 0), Rf S P m (nf f)) := goesR n h.fB
    rw [g1, g2, Option.bind_some, Option.bind_some]
    simp only []
    have same2 : Inv S P m (nf f) (k + 1) := ⟨h.sB, h.wf, h.mB, by have := h.kB; omega, by omega, nf_ok h.fB⟩
    by_cases c4 : f = 0
    · rw [decide_eq_false (by omega)]
      simp only [Bool.false_eq_true, if_false]
      exact ⟨0, P, nf f, rfl, rfl, same2, fun _ _ _ => rfl⟩
    · rw [decide_eq_true c4]
      simp only [if_true]
      obtain ⟨q, rfl⟩ := Int.eq_ofNat_of_zero_le (show 0 ≤ N by omega)
      have hp : Wf S (q, data) := ⟨by show q < S; omega, c3⟩
      have hPl := h.kB
      have hS := h.sB
      have hl : (D S P m (nf f)).fnow.length = S * 64 := img_len' h.wf
      have e1 : wi .i64 ((q : Int) * 64) = ((q * 64 : Nat) : Int) := by rw [wi64 (by omega) (by omega)]; omega
      unfold G_slices_Clone_byte_byte
      rw [app_le (m := 1000) (by simp; omega) (by decide) (by decide), Option.bind_some,
        app_le (m := 1000) (by simp [D]; omega) (by decide) (by decide), Option.bind_some,
        app_le (m := 1000) (by simp [Rf]; omega) (by decide) (by decide), Option.bind_some, e1, if_pos (by rw [hl]; omega), if_pos (Nat.le_refl _), Int.toNat_natCast]
      refine ⟨0, P ++ [(q, data)], nf f, ?_, ?_, ⟨h.sB, fun p hp' => ?_, by simp; have := h.mB; omega, by simp; omega, by omega, nf_ok h.fB⟩, fun _ _ _ => rfl⟩
      · have hc := cpyR_put (img_len' h.wf) hp
        have e2 : (P ++ [(q, data)]).take m = P.take m := List.take_append_of_le_length h.mB
        have e3 : (P ++ [(q, data)]).drop m = P.drop m ++ [(q, data)] := List.drop_append_of_le_length h.mB
        simp only [D, e2, e3, List.map_append, img_snoc, List.nil_append, ← hc]
        rfl
      · simp [Rf, toP]
      · simp at hp'
        rcases hp' with hp' | rfl
        · exact h.wf p hp'
        · exact hp
  · have hb : ((data.length : Int) != 64) = true := by simp; omega
    rw [hb]
    exact ⟨1, P, f, rfl, rfl, same, fun _ _ c => absurd c c3⟩
theorem flush_is (h : Inv S P m f k) (hk : k < 90) : ∃ m' f', G_disk_Disk_Flush_h n (D S P m f) = some (D S P m' f') ∧ G_ringref3_Disk_Flush_h n (Rf S P m f) = some (Rf S P m' f') ∧ Inv S P m' f' (k + 1) := by
  unfold G_disk_Disk_Flush_h G_ringref3_Disk_Flush_h
  rw [goesD n h.fB, goesR n h.fB, Option.bind_some, Option.bind_some]
  simp only []
  by_cases c4 : f = 0
  · rw [decide_eq_false (by omega)]
    simp only [Bool.false_eq_true, if_false]
    exact ⟨m, nf f, rfl, rfl, h.sB, h.wf, h.mB, by have := h.kB; omega, by omega, nf_ok h.fB⟩
  · rw [decide_eq_true c4]
    simp only [if_true]
    refine ⟨P.length, nf f, ?_, ?_, h.sB, h.wf, Nat.le_refl _, by have := h.kB; omega, by omega, nf_ok h.fB⟩
    · have hl : (img S (P.take m)).length = (img S P).length := by rw [img_len' h.wf, img_len' (fun p hp => h.wf p (List.mem_of_mem_take hp))]
      simp only [D, cpyR_all hl, List.take_length, List.drop_length, List.map_nil]
    · simp [Rf]
/-- what is kept of what waits -/
def sel : List (Nat × List Int) → List Bool → List (Nat × List Int)
  | [], _ => []
  | _ :: _, [] => []
  | p :: W, b :: K => if b = true then p :: sel W K else sel W K
theorem sel_nil : ∀ (W : List (Nat × List Int)), sel W [] = []
  | [] => rfl
  | _ :: _ => rfl
theorem sel_mem : ∀ {W : List (Nat × List Int)} {K : List Bool} {p : Nat × List Int}, p ∈ sel W K → p ∈ W
  | [], _, p, h => by simp [sel] at h
  | q :: W, [], p, h => by simp [sel] at h
  | q :: W, b :: K, p, h => by
    rw [sel] at h
    split at h
    · rcases List.mem_cons.1 h with rfl | h
      · simp
      · exact List.mem_cons_of_mem _ (sel_mem h)
    · exact List.mem_cons_of_mem _ (sel_mem h)
theorem sel_len : ∀ (W : List (Nat × List Int)) (K : List Bool), (sel W K).length ≤ W.length
  | [], _ => by simp [sel]
  | q :: W, [] => by simp [sel]
  | q :: W, b :: K => by
    have := sel_len W K
    rw [sel]
    split <;> simp <;> omega
theorem crashD {kept : List Bool} {d : S_disk_Disk} {W : List (Nat × List Int)} {now : List Int} (hS : S ≤ 256) (hW : ∀ p ∈ W, Wf S p) (hWl : W.length ≤ 1000) (hd : d.fwait = W.map toW) : ∀ (k i : Nat) (safe : List Int), W.length - i < k → i ≤ W.length → safe.length = S * 64 →
    G_disk_Disk_Crash_h_L2 n kept d k (i : Int) safe now (W.map toW) = some (.x0 ((sel (W.drop i) (kept.drop i)).foldl put safe) now (W.map toW))
  | 0, i, safe, h, _, _ => by omega
  | k + 1, i, safe, hk, hi, hs => by
    rw [G_disk_Disk_Crash_h_L2, hd, List.length_map]
    by_cases hlt : (i : Int) < (W.length : Int)
    · obtain ⟨p, hp⟩ := get_lt hlt
      have hwp := hW p (List.mem_of_getElem? hp)
      have hw1 := hwp.1
      rw [if_pos hlt, drop_cons hp, wi_succ (by omega)]
      unfold G_disk_Disk_Crash_h_C1
      rw [List.length_map, if_pos (by omega), Int.toNat_natCast, List.getElem?_map, hp]
      simp only [Option.map_some, Option.bind_some]
      by_cases ck : (i : Int) < (kept.length : Int)
      · obtain ⟨b, hb⟩ := get_lt ck
        rw [if_pos ck, getI_nat, hb, Option.bind_some, drop_cons hb, sel]
        have e1 : wi .i64 ((toW p).fn * 64) = ((p.1 * 64 : Nat) : Int) := by
          show wi .i64 ((p.1 : Int) * 64) = _
          rw [wi64 (by omega) (by omega)]; omega
        by_cases cb : b = true
        · rw [if_pos cb, if_pos cb, e1, if_pos (by rw [hs]; omega), if_pos (Nat.le_refl _), Int.toNat_natCast, Option.bind_some]
          have hc := cpyR_put hs hwp
          have hc : cpyR safe (p.1 * 64) safe.length (toW p).fdata = put safe p := hc
          simp only [hc, List.foldl_cons]
          exact crashD (kept := kept) (now := now) hS hW hWl hd k (i + 1) _ (by omega) (by omega) (put_len hs hwp)
        · rw [if_neg cb, if_neg cb, Option.bind_some]
          exact crashD (kept := kept) (now := now) hS hW hWl hd k (i + 1) _ (by omega) (by omega) hs
      · rw [if_neg ck, drop_end ck, sel, Option.bind_some]
        have := crashD (kept := kept) (now := now) hS hW hWl hd k (i + 1) safe (by omega) (by omega) hs
        rw [List.drop_of_length_le (l := kept) (by omega), sel_nil] at this
        exact this
    · rw [if_neg hlt, drop_end hlt]; rfl
theorem crashR {kept : List Bool} {d : S_ringref3_Disk} (hP : P.length ≤ 100) (hm : m ≤ P.length) (hd1 : d.fAll = P.map toP) (hd2 : d.fMark = (m : Int)) : ∀ (k i : Nat) (acc : List (Nat × List Int)), P.length - m - i < k → i ≤ P.length - m → acc.length ≤ m + i →
    G_ringref3_Disk_Crash_h_L2 n kept d k (i : Int) (acc.map toP) = some (.x0 ((acc ++ sel ((P.drop m).drop i) (kept.drop i)).map toP))
  | 0, i, acc, h, _, _ => by omega
  | k + 1, i, acc, hk, hi, ha => by
    rw [G_ringref3_Disk_Crash_h_L2, hd1, hd2, List.length_map, Int.toNat_natCast]
    by_cases hlt : (i : Int) < ((P.length - m : Nat) : Int)
    · have hlt' : (i : Int) < (((P.drop m).length : Nat) : Int) := by rw [List.length_drop]; exact hlt
      obtain ⟨p, hp⟩ := get_lt hlt'
      have hp2 : P[m + i]? = some p := by rw [List.getElem?_drop] at hp; exact hp
      rw [if_pos hlt, drop_cons hp, wi_succ (by omega)]
      unfold G_ringref3_Disk_Crash_h_C1
      rw [hd1, hd2, List.length_map, Int.toNat_natCast, if_pos ⟨by omega, hlt, Nat.le_refl _⟩, Int.toNat_natCast, List.getElem?_map, hp2]
      simp only [Option.map_some, Option.bind_some]
      by_cases ck : (i : Int) < (kept.length : Int)
      · obtain ⟨b, hb⟩ := get_lt ck
        rw [if_pos ck, getI_nat, hb, Option.bind_some, drop_cons hb, sel]
        by_cases cb : b = true
        · rw [if_pos cb, if_pos cb, app_le (m := 1000) (by simp; omega) (by decide) (by decide), Option.bind_some]
          have := crashR (kept := kept) hP hm hd1 hd2 k (i + 1) (acc ++ [p]) (by omega) (by omega) (by simp; omega)
          simp only [List.map_append, List.map_cons, List.map_nil, List.append_assoc, List.singleton_append] at this ⊢
          exact this
        · rw [if_neg cb, if_neg cb, Option.bind_some]
          exact crashR (kept := kept) hP hm hd1 hd2 k (i + 1) acc (by omega) (by omega) (by omega)
      · rw [if_neg ck, drop_end ck, sel, Option.bind_some]
        have := crashR (kept := kept) hP hm hd1 hd2 k (i + 1) acc (by omega) (by omega) (by omega)
        rw [List.drop_of_length_le (l := kept) (by omega), sel_nil] at this
        exact this
    · have hlt' : ¬ (i : Int) < (((P.drop m).length : Nat) : Int) := by rw [List.length_drop]; exact hlt
      rw [if_neg hlt, drop_end hlt', sel, List.append_nil]
theorem crash_is (hn : 2000 ≤ n) (h : Inv S P m f k) (hk : k < 90) (kept : List Bool) : ∃ P' m' f', G_disk_Disk_Crash_h n (D S P m f) kept = some (D S P' m' f') ∧ G_ringref3_Disk_Crash_h n (Rf S P m f) kept = some (Rf S P' m' f') ∧ Inv S P' m' f' (k + 1) := by
  have hPl := h.kB
  have hm := h.mB
  have hW : ∀ p ∈ P.drop m, Wf S p := fun p hp => h.wf p (List.mem_of_mem_drop hp)
  have hT : ∀ p ∈ P.take m, Wf S p := fun p hp => h.wf p (List.mem_of_mem_take hp)
  have hsl := sel_len (P.drop m) kept
  rw [List.length_drop] at hsl
  have hP' : ∀ p ∈ P.take m ++ sel (P.drop m) kept, Wf S p := fun p hp => by
    rcases List.mem_append.1 hp with hp | hp
    · exact hT p hp
    · exact hW p (sel_mem hp)
  have hlen : (P.take m ++ sel (P.drop m) kept).length = m + (sel (P.drop m) kept).length := by rw [List.length_append, List.length_take, Nat.min_eq_left hm]
  refine ⟨P.take m ++ sel (P.drop m) kept, (P.take m ++ sel (P.drop m) kept).length, -1, ?_, ?_, h.sB, hP', Nat.le_refl _, by rw [hlen]; omega, by omega, by decide⟩
  · unfold G_disk_Disk_Crash_h
    have e := crashD (n := n) (kept := kept) (d := D S P m f) (now := img S P) h.sB hW (by simp; omega) rfl n 0 (img S (P.take m)) (by simp; omega) (by omega) (img_len' hT)
    have e : G_disk_Disk_Crash_h_L2 n kept (D S P m f) n 0 (D S P m f).fsafe (D S P m f).fnow (D S P m f).fwait = _ := e
    rw [e, Option.bind_some]
    simp only [List.drop_zero]
    have hi : img S (P.take m ++ sel (P.drop m) kept) = (sel (P.drop m) kept).foldl put (img S (P.take m)) := by simp [img, List.foldl_append]
    have hl : (img S P).length = (img S (P.take m ++ sel (P.drop m) kept)).length := by rw [img_len' h.wf, img_len' hP']
    rw [← hi, cpyR_all hl]
    simp only [D, List.take_length, List.drop_length, List.map_nil]
  · unfold G_ringref3_Disk_Crash_h
    have hc : 0 ≤ (Rf S P m f).fMark ∧ (Rf S P m f).fMark ≤ ((Rf S P m f).fAll.length : Int) := by
      show 0 ≤ (m : Int) ∧ (m : Int) ≤ ((P.map toP).length : Int)
      rw [List.length_map]; omega
    rw [if_pos hc, if_pos hc]
    have e := crashR (n := n) (kept := kept) (P := P) (m := m) (d := Rf S P m f) (by omega) hm rfl rfl n 0 (P.take m) (by omega) (by omega) (by rw [List.length_take]; omega)
    have et : (Rf S P m f).fAll.take (Rf S P m f).fMark.toNat = (P.take m).map toP := by
      show (P.map toP).take (m : Int).toNat = _
      rw [Int.toNat_natCast, List.map_take]
    rw [et]
    have e : G_ringref3_Disk_Crash_h_L2 n kept (Rf S P m f) n 0 ((P.take m).map toP) = _ := e
    rw [e, Option.bind_some]
    simp only [List.drop_zero, Rf, List.length_map]
theorem imageL (hn : 2000 ≤ n) (h : Inv S P m f k) {d : S_ringref3_Disk} (hd : d.fSectors = (S : Int)) : ∀ (t i : Nat), S - i < t → i ≤ S →
    G_ringref3_Disk_Image_h_L1 n d t (b2s ((img S (P.take m)).take (i * 64))) (i : Int) (S : Int) (m : Int) f (P.map toP) = some (.x0 (b2s (img S (P.take m))) (S : Int) (m : Int) f (P.map toP))
  | 0, i, ht, _ => by omega
  | t + 1, i, ht, hi => by
    have hS := h.sB
    have hm := h.mB
    have hk := h.kB
    have hk2 := h.k60
    have hT : ∀ p ∈ P.take m, Wf S p := fun p hp => h.wf p (List.mem_of_mem_take hp)
    have hl := img_len' hT
    rw [G_ringref3_Disk_Image_h_L1, hd]
    by_cases c : (i : Int) < (S : Int)
    · have hs : G_ringref3_Disk_Safe_h n ⟨(S : Int), (m : Int), f, P.map toP⟩ (i : Int) = some (b2s (sector (img S (P.take m)) i), ⟨(S : Int), (m : Int), f, P.map toP⟩) := by
        unfold G_ringref3_Disk_Safe_h
        simp only [List.length_map, Int.toNat_natCast]
        rw [if_pos (by omega), if_pos (by omega), List.drop_zero, ← List.map_take, last_is hn (by rw [List.length_take]; omega), Option.bind_some, sector_img (by omega) hT]
      have hsl : (sector (img S (P.take m)) i).length = 64 := by unfold sector; rw [List.length_drop, List.length_take]; omega
      rw [if_pos c, hs, Option.bind_some]
      simp only []
      rw [cat_b2s _ _ (by rw [hsl, List.length_take]; omega), Option.bind_some, wi_succ (by omega)]
      have e : (img S (P.take m)).take (i * 64) ++ sector (img S (P.take m)) i = (img S (P.take m)).take ((i + 1) * 64) := by
        unfold sector
        have e1 : (img S (P.take m)).take (i * 64) = ((img S (P.take m)).take ((i + 1) * 64)).take (i * 64) := by rw [List.take_take]; congr 1; omega
        rw [e1, List.take_append_drop]
      rw [e]
      exact imageL hn h hd t (i + 1) (by omega) (by omega)
    · have : i = S := by omega
      subst this
      rw [if_neg c, List.take_of_length_le (by omega)]
end
end Go.Proofs.Ytdimcmpkhbfcnaa.pv.ld
namespace Go.Proofs.Ytdimcmpkhbfcnaa.pv
set_option linter.all false
open Go.RowKit help
namespace lr
open li
theorem nodup_len {α : Type} [DecidableEq α] : ∀ (l m : List α), l.Nodup → (∀ x ∈ l, x ∈ m) → l.length ≤ m.length
  | [], m, _, _ => by simp
  | a :: l, m, h, hs => by
    obtain ⟨h1, h2⟩ := List.nodup_cons.1 h
    have ha := hs a (by simp)
    have := nodup_len l (m.erase a) h2 (fun x hx => (List.mem_erase_of_ne (fun e => h1 (by rw [← e]; exact hx))).2 (hs x (by simp [hx])))
    rw [List.length_erase_of_mem ha] at this
    have hp : 0 < m.length := List.length_pos_of_mem ha
    rw [List.length_cons]; omega
theorem ring_nodup (hd : Int) (E : Ents) : ((ring hd E).map fun x => (x.fSector, x.fData)).Nodup := by
  unfold List.Nodup
  rw [List.pairwise_map]
  refine List.Pairwise.imp ?_ (ring_rising hd E)
  intro a b h e
  have : a.fSector = b.fSector := (Prod.mk.inj e).1
  unfold lt at h
  rw [this] at h
  simp at h
theorem ring_len2 (hd : Int) (E : Ents) : (ring hd E).length ≤ E.length := by
  have := nodup_len _ E (ring_nodup hd E) (fun x hx => by
    obtain ⟨y, hy, rfl⟩ := List.mem_map.1 hx
    obtain ⟨k, _, h1, h2, _⟩ := ring_mem.1 hy
    rw [← h2] at h1
    exact mget_mem h1)
  simpa using this
theorem ring_len3 (hd : Int) (seg : List Rq) : (ring hd (ent seg)).length ≤ seg.length := by
  have h1 := ring_len2 hd (ent seg)
  have h2 := ent_len_le seg []
  unfold ent at h1 ⊢
  simp only [List.length_nil] at h2
  omega
theorem go_len2 : ∀ (l seg : List Rq) (hd : Int), (go seg hd l).length ≤ seg.length + l.length
  | [], seg, hd => by have := ring_len3 hd seg; rw [go, List.length_nil]; omega
  | r :: l, seg, hd => by
    have h1 := ring_len3 hd seg
    have h2 := go_len2 l [] (nh hd (ring hd (ent seg)))
    have h3 := go_len2 l (seg ++ [r]) hd
    rw [go]
    split
    · rw [List.length_append, List.length_cons, List.length_cons]
      simp only [List.length_nil] at h2
      omega
    · rw [List.length_append, List.length_singleton] at h3
      rw [List.length_cons]; omega
theorem ring_from {hd : Int} {seg : List Rq} {x : Rq} (h : x ∈ ring hd (ent seg)) : x.fBarrier = false ∧ ∃ r ∈ seg, r.fSector = x.fSector ∧ r.fData = x.fData := by
  obtain ⟨k, _, h1, h2, h3⟩ := ring_mem.1 h
  rw [← h2] at h1
  obtain ⟨r, hr, e1, e2⟩ := ent_src h1
  exact ⟨h3, r, hr, e1, e2⟩
theorem go_from : ∀ (l seg : List Rq) (hd : Int) (x : Rq), (∀ r ∈ seg, r.fBarrier = false) → x ∈ go seg hd l → x.fBarrier = true ∨ (x.fBarrier = false ∧ ∃ r, (r ∈ seg ∨ r ∈ l) ∧ r.fBarrier = false ∧ r.fSector = x.fSector ∧ r.fData = x.fData)
  | [], seg, hd, x, hs, h => by
    rw [go] at h
    obtain ⟨h1, r, hr, e⟩ := ring_from h
    exact .inr ⟨h1, r, .inl hr, hs r hr, e⟩
  | q :: l, seg, hd, x, hs, h => by
    rw [go] at h
    split at h
    · rcases List.mem_append.1 h with h | h
      · obtain ⟨h1, r, hr, e⟩ := ring_from h
        exact .inr ⟨h1, r, .inl hr, hs r hr, e⟩
      · rcases List.mem_cons.1 h with rfl | h
        · exact .inl rfl
        · rcases go_from l [] _ x (by simp) h with h | ⟨h1, r, hr, e⟩
          · exact .inl h
          · refine .inr ⟨h1, r, .inr ?_, e⟩
            rcases hr with hr | hr
            · cases hr
            · simp [hr]
    · rename_i hq
      rcases go_from l (seg ++ [q]) hd x (fun r hr => by
        rcases List.mem_append.1 hr with hr | hr
        · exact hs r hr
        · rw [List.mem_singleton.1 hr]; exact Bool.eq_false_iff.2 hq) h with h | ⟨h1, r, hr, e⟩
      · exact .inl h
      · refine .inr ⟨h1, r, ?_, e⟩
        rcases hr with hr | hr
        · rcases List.mem_append.1 hr with hr | hr
          · exact .inl hr
          · rw [List.mem_singleton.1 hr]; exact .inr (by simp)
        · exact .inr (by simp [hr])
/-- a sector that is not there -/
def off (S : Nat) (r : Rq) : Bool := !r.fBarrier && decide (r.fSector ≥ (S : Int))
theorem has_loop (n S : Nat) (l : List Rq) (hl : l.length ≤ 1000) : ∀ (k i : Nat), l.length - i < k → i ≤ l.length →
    G_slices_IndexFunc_lift_Req_lift_Req_L1 n l (fun (y0 : S_lift_Req) => G_ringlaw3_LiftRuns_1 n y0 (S : Int)) k (i : Int) = some .x1 ∧ (l.drop i).any (off S) = false ∨
    ∃ j : Nat, G_slices_IndexFunc_lift_Req_lift_Req_L1 n l (fun (y0 : S_lift_Req) => G_ringlaw3_LiftRuns_1 n y0 (S : Int)) k (i : Int) = some (.x0 (j : Int)) ∧ (l.drop i).any (off S) = true
  | 0, i, h, _ => by omega
  | k + 1, i, h, hi => by
    unfold G_slices_IndexFunc_lift_Req_lift_Req_L1
    by_cases h1 : i < l.length
    · have e : G_ringlaw3_LiftRuns_1 n l[i] (S : Int) = some (off S l[i]) := by
        unfold G_ringlaw3_LiftRuns_1 off
        by_cases hb : l[i].fBarrier = true
        · rw [if_pos hb, hb]; rfl
        · rw [if_neg hb, Bool.eq_false_iff.2 hb]; rfl
      rw [if_pos (by omega), getI_nat, List.getElem?_eq_getElem h1, Option.bind_some, e, Option.bind_some, List.drop_eq_getElem_cons h1, List.any_cons, wi_succ (by omega)]
      by_cases h2 : off S l[i] = true
      · rw [if_pos h2, h2]
        exact .inr ⟨i, rfl, rfl⟩
      · rw [if_neg h2, Bool.eq_false_iff.2 h2, Bool.false_or]
        exact has_loop n S l hl k (i + 1) (by omega) (by omega)
    · have : i = l.length := by omega
      rw [if_neg (by omega), this, List.drop_length]
      exact .inl ⟨rfl, rfl⟩
theorem has_ok (n S : Nat) (hn : 2000 < n) (l : List Rq) (hl : l.length ≤ 1000) : G_slices_ContainsFunc_lift_Req_lift_Req n l (fun (y0 : S_lift_Req) => G_ringlaw3_LiftRuns_1 n y0 (S : Int)) = some (l.any (off S)) := by
  unfold G_slices_ContainsFunc_lift_Req_lift_Req G_slices_IndexFunc_lift_Req_lift_Req
  have h := has_loop n S l hl n 0 (by omega) (by omega)
  rw [List.drop_zero] at h
  rcases h with ⟨h1, h2⟩ | ⟨j, h1, h2⟩
  · have h1 : G_slices_IndexFunc_lift_Req_lift_Req_L1 n l (fun (y0 : S_lift_Req) => G_ringlaw3_LiftRuns_1 n y0 (S : Int)) n 0 = _ := h1
    rw [h1, h2]; rfl
  · have h1 : G_slices_IndexFunc_lift_Req_lift_Req_L1 n l (fun (y0 : S_lift_Req) => G_ringlaw3_LiftRuns_1 n y0 (S : Int)) n 0 = _ := h1
    rw [h1, h2]
    show some (decide ((j : Int) ≥ 0)) = some true
    rw [decide_eq_true (by omega)]
/-- the first loop of Run -/
theorem first_loop (n S : Nat) (hS : S ≤ 256) (l : List Rq) (hl : l.length ≤ 1000) (hg : ∀ r ∈ l, bad r = false) (now : List Int) (hnow : now.length = S * 64) (safe : List Int) (w : List S_disk_write) (f : Int) : ∀ (k i : Nat), l.length - i < k → i ≤ l.length →
    G_lift_Run_h_L3 n l k (i : Int) f safe now w = some (if (l.drop i).any (off S) then .x0 1 f safe now w else .x1 f safe now w)
  | 0, i, h, _ => by omega
  | k + 1, i, h, hi => by
    unfold G_lift_Run_h_L3
    by_cases h1 : i < l.length
    · have hz : G_disk_Disk_Size_h n ⟨safe, now, w, f⟩ = some ((S : Int), ⟨safe, now, w, f⟩) := by
        unfold G_disk_Disk_Size_h
        simp only [hnow]
        rw [quo_i64 (by omega) (by omega) (by omega)]
        congr 2
        omega
      have ih := first_loop n S hS l hl hg now hnow safe w f k (i + 1) (by omega) (by omega)
      rw [if_pos (by omega), getI_nat, List.getElem?_eq_getElem h1, Option.bind_some, List.drop_eq_getElem_cons h1, List.any_cons, wi_succ (by omega)]
      unfold G_lift_Run_h_C2
      by_cases hb : l[i].fBarrier = true
      · have e : off S l[i] = false := by unfold off; rw [hb]; rfl
        rw [if_pos hb, Option.bind_some, e, Bool.false_or]
        simp only [Bool.false_eq_true, if_false]
        rw [ih]
      · have gd := good_ok (hg _ (List.getElem_mem h1)) (Bool.eq_false_iff.2 hb)
        have e : off S l[i] = decide (l[i].fSector ≥ (S : Int)) := by unfold off; rw [Bool.eq_false_iff.2 hb]; rfl
        rw [if_neg hb, if_neg (by omega), hz, Option.bind_some, Option.bind_some, e]
        simp only
        by_cases h2 : l[i].fSector ≥ (S : Int)
        · rw [decide_eq_true h2]; simp
        · rw [decide_eq_false h2, Bool.false_or]
          simp only [Bool.false_eq_true, if_false]
          exact ih
    · have : i = l.length := by omega
      rw [if_neg (by omega), this, List.drop_length]; rfl
section
open ld
/-- both disks, step by step -/
theorem both (n : Nat) (S : Nat) (o : List Rq) (e : Int) (ho : o.length ≤ 60) (hx : ∀ x ∈ o, x.fBarrier = true ∨ (x.fBarrier = false ∧ (0 ≤ x.fSector ∧ x.fSector < (S : Int)) ∧ x.fData.length = 64)) (kept : List Bool) : ∀ (t i : Nat) (P : List (Nat × List Int)) (m : Nat) (f : Int), o.length - i < t → i ≤ o.length → Inv S P m f i →
    ∃ P' m' f', Inv S P' m' f' o.length ∧ G_lift_Run_h_L4 n (o, e) t (i : Int) f (img S (P.take m)) (img S P) ((P.drop m).map toW) = some (.x1 f' (img S (P'.take m')) (img S P') ((P'.drop m').map toW)) ∧
      ∀ q a b c, G_ringlaw3_LiftRuns_L2 n kept q (o.map rq) t (i : Int) a b c (S : Int) (m : Int) f (P.map toP) = some (.x0 a b c (S : Int) (m' : Int) f' (P'.map toP))
  | 0, i, _, _, _, h, _, _ => by omega
  | t + 1, i, P, m, f, ht, hi, hI => by
    unfold G_lift_Run_h_L4 G_ringlaw3_LiftRuns_L2
    by_cases h1 : i < o.length
    · have hm : (o.map rq)[i]? = some (rq o[i]) := by rw [List.getElem?_map, List.getElem?_eq_getElem h1]; rfl
      have hxi := hx o[i] (List.getElem_mem h1)
      have d1 : (i : Int) < (((o, e) : List Rq × Int).1.length : Int) := by show (i : Int) < (o.length : Int); omega
      have d2 : (i : Int) < ((o.map rq).length : Int) := by rw [List.length_map]; omega
      have g1 : getI ((o, e) : List Rq × Int).1 (i : Int) = some o[i] := by rw [getI_nat]; exact List.getElem?_eq_getElem h1
      have g2 : getI (o.map rq) (i : Int) = some (rq o[i]) := by rw [getI_nat]; exact hm
      have ws : wi .i64 ((i : Int) + 1) = ((i + 1 : Nat) : Int) := wi_succ (by omega)
      by_cases hb : o[i].fBarrier = true
      · obtain ⟨m', f', w1, w2, w3⟩ := flush_is (n := n) hI (by omega)
        have w1 : G_disk_Disk_Flush_h n ⟨img S (P.take m), img S P, (P.drop m).map toW, f⟩ = _ := w1
        have w2 : G_ringref3_Disk_Flush_h n ⟨(S : Int), (m : Int), f, P.map toP⟩ = _ := w2
        have er : rq o[i] = bar := by unfold rq; rw [if_pos hb]
        obtain ⟨P2, m2, f2, r1, r2, r3⟩ := both n S o e ho hx kept t (i + 1) P m' f' (by omega) (by omega) w3
        refine ⟨P2, m2, f2, r1, ?_, fun q a b c => ?_⟩
        · rw [if_pos d1, g1, Option.bind_some, ws, if_pos hb, w1, Option.bind_some]; exact r2
        · rw [if_pos d2, g2, Option.bind_some, ws, er, if_pos (by decide), w2, Option.bind_some]; exact r3 q a b c
      · obtain ⟨hs, hdl⟩ : (0 ≤ o[i].fSector ∧ o[i].fSector < (S : Int)) ∧ o[i].fData.length = 64 := by
          rcases hxi with h | h
          · exact absurd h hb
          · exact h.2
        obtain ⟨e', P', f', w1, w2, w3, w4⟩ := write_is (n := n) hI (by omega) o[i].fSector o[i].fData
        have w4 := w4 (by omega) (by omega) hdl
        subst w4
        have w1 : G_disk_Disk_Write_h n ⟨img S (P.take m), img S P, (P.drop m).map toW, f⟩ o[i].fSector o[i].fData = _ := w1
        have w2 : G_ringref3_Disk_Write_h n ⟨(S : Int), (m : Int), f, P.map toP⟩ o[i].fSector (b2s o[i].fData) = _ := w2
        have er : rq o[i] = ⟨o[i].fSector, b2s o[i].fData⟩ := by unfold rq; rw [if_neg hb]
        obtain ⟨P2, m2, f2, r1, r2, r3⟩ := both n S o e ho hx kept t (i + 1) P' m f' (by omega) (by omega) w3
        refine ⟨P2, m2, f2, r1, ?_, fun q a b c => ?_⟩
        · rw [if_pos d1, g1, Option.bind_some, ws, if_neg hb, w1, Option.bind_some, if_pos rfl]; exact r2
        · rw [if_pos d2, g2, Option.bind_some, ws, er, if_neg (by simp only; omega), w2, Option.bind_some]; exact r3 q a b c
    · have : i = o.length := by omega
      subst this
      refine ⟨P, m, f, hI, ?_, fun q a b c => ?_⟩
      · rw [if_neg (by show ¬ (o.length : Int) < (o.length : Int); omega)]
      · rw [if_neg (by rw [List.length_map]; omega)]
theorem all_ok (n : Nat) (hn : 40000 < n) (S : Nat) (hS : 16 ≤ S ∧ S ≤ 256) (l : List Rq) (hl : l.length ≤ 60) (hg : ∀ r ∈ l, bad r = false) (kept : List Bool) (s : Int) (hs : wi .i64 (16 + (wi .i64 (remI (wi .u64 s) 241))) = (S : Int)) (hk : kept.length ≤ 100) :
    G_ringlaw3_LiftRuns n s l kept = some true := by
  have he : err l = 0 := by
    unfold err
    rw [if_neg (by omega)]
    have : l.any bad = false := by
      rw [List.any_eq_false]
      intro r hr
      rw [hg r hr]; simp
    rw [this]; rfl
  unfold G_ringlaw3_LiftRuns G_ringlaw3_LiftRuns_C1
  rw [if_neg (by omega), if_neg (by omega), right_ok n (by omega) l (by omega), he, Option.bind_some, Option.bind_some]
  simp only [bne_self_eq_false, Bool.false_eq_true, if_false]
  have em : mkL 1 (0 : Int) (wi .i64 ((S : Int) * 64)) = some (List.replicate (S * 64) 0) := by
    rw [wi64 (by omega) (by omega)]
    unfold mkL
    have : ((S : Int) * 64).toNat = S * 64 := by omega
    rw [this, if_pos ⟨by omega, by unfold maxLen; omega, by omega⟩]
  unfold G_disk_New_h
  rw [hs, if_neg (by omega), if_neg (by omega), em, Option.bind_some, Option.bind_some, Option.bind_some]
  simp only
  unfold G_ringref3_NewDisk_h
  rw [if_pos trivial, Option.bind_some, has_ok n S (by omega) l (by omega), Option.bind_some]
  unfold G_lift_Run_h
  have f1 := first_loop n S hS.2 l (by omega) hg (List.replicate (S * 64) 0) (by simp) (List.replicate (S * 64) 0) [] (-1) n 0 (by omega) (by omega)
  rw [List.drop_zero] at f1
  have f1 : G_lift_Run_h_L3 n l n 0 (-1) (List.replicate (S * 64) 0) (List.replicate (S * 64) 0) [] = _ := f1
  rw [f1]
  by_cases hb : l.any (off S) = true
  · rw [hb]
    rfl
  · rw [Bool.eq_false_iff.2 hb]
    simp only [Bool.false_eq_true, if_false, Option.bind_some]
    have hsaid : said l 0 = 0 := by rw [said_mid (by omega) (by omega)]; exact he
    have hord := order_ok n (by omega) l (by omega) 0
    rw [if_pos hsaid] at hord
    rw [hord, Option.bind_some]
    simp only [if_true]
    have hol := go_len2 l [] 0
    simp only [List.length_nil, Nat.zero_add] at hol
    have i0 : Inv S [] 0 (-1) 0 := ⟨by omega, fun p hp => by simp at hp, Nat.le_refl _, by simp, by omega, by decide⟩
    have hx : ∀ x ∈ go [] 0 l, x.fBarrier = true ∨ (x.fBarrier = false ∧ (0 ≤ x.fSector ∧ x.fSector < (S : Int)) ∧ x.fData.length = 64) := by
      intro x hxm
      rcases go_from l [] 0 x (by simp) hxm with h | ⟨h1, r, hr, h2, e1, e2⟩
      · exact .inl h
      · have hr : r ∈ l := by
          rcases hr with hr | hr
          · cases hr
          · exact hr
        have gd := good_ok (hg r hr) h2
        have ho : off S r = false := by
          have := Bool.eq_false_iff.2 hb
          rw [List.any_eq_false] at this
          exact Bool.eq_false_iff.2 (this r hr)
        unfold off at ho
        rw [h2] at ho
        simp only [Bool.not_false, Bool.true_and, decide_eq_false_iff_not] at ho
        rw [← e1, ← e2]
        exact .inr ⟨h1, ⟨by omega, by omega⟩, gd.2⟩
    obtain ⟨P, m, f, hI, r1, r2⟩ := both n S (go [] 0 l) 0 (by omega) hx kept n 0 [] 0 (-1) (by omega) (by omega) i0
    have r1 : G_lift_Run_h_L4 n (go [] 0 l, 0) n 0 (-1) (List.replicate (S * 64) 0) (List.replicate (S * 64) 0) [] = _ := r1
    rw [r1]
    simp only [Option.bind_some]
    rw [requests_ok n l (by omega) (by omega), Option.bind_some, lift_ok n (by omega) l (by omega) hg 0 (by omega), Option.bind_some]
    have r2 : ∀ q a b c, G_ringlaw3_LiftRuns_L2 n kept q ((go [] 0 l).map rq) n 0 a b c (S : Int) 0 (-1) [] = _ := r2
    rw [r2]
    simp only [Option.bind_some, if_true]
    unfold G_disk_Disk_Waiting_h
    have hm := hI.mB
    have hk1 := hI.kB
    have e : wi .i64 (((P.map toP).length : Int) - (m : Int)) = (((P.drop m).map toW).length : Int) := by
      rw [List.length_map, List.length_map, List.length_drop, wi64 (by omega) (by omega)]; omega
    simp only [Option.bind_some, e, if_true]
    obtain ⟨P', m', f', c1, c2, hI'⟩ := crash_is (n := n) (by omega) hI (by omega) kept
    have c1 : G_disk_Disk_Crash_h n ⟨img S (P.take m), img S P, (P.drop m).map toW, f⟩ kept = _ := c1
    have c2 : G_ringref3_Disk_Crash_h n ⟨(S : Int), (m : Int), f, P.map toP⟩ kept = _ := c2
    rw [c1, c2, Option.bind_some, Option.bind_some]
    unfold G_disk_Disk_Image_h G_slices_Clone_byte_byte G_ringref3_Disk_Image_h
    have hT : ∀ p ∈ P'.take m', Wf S p := fun p hp => hI'.wf p (List.mem_of_mem_take hp)
    have hsl : (D S P' m' f').fsafe.length = S * 64 := img_len' hT
    rw [app_le (m := 1000000) (by rw [hsl, List.length_nil]; omega) (by decide) (by decide), Option.bind_some, Option.bind_some]
    have hIm := imageL (n := n) (by omega) hI' (d := ⟨(S : Int), (m' : Int), f', P'.map toP⟩) rfl n 0 (by omega) (by omega)
    have h0' : b2s ((img S (P'.take m')).take (0 * 64)) = ByteArray.mk #[] := rfl
    rw [h0'] at hIm
    have hIm : G_ringref3_Disk_Image_h_L1 n (Rf S P' m' f') n (ByteArray.mk #[]) 0 (Rf S P' m' f').fSectors (Rf S P' m' f').fMark (Rf S P' m' f').fFuse (Rf S P' m' f').fAll = _ := hIm
    rw [hIm, Option.bind_some, Option.bind_some]
    show some ((b2s ([] ++ img S (P'.take m'))).toList == (b2s (img S (P'.take m'))).toList) = some true
    rw [List.nil_append, beq_self_eq_true]
end
theorem sect (s : Int) : ∃ S : Nat, (16 ≤ S ∧ S ≤ 256) ∧ wi .i64 (16 + (wi .i64 (remI (wi .u64 s) 241))) = (S : Int) := by
  have h0 : 0 ≤ wi .u64 s := by rw [wi, IntKind.wrap_u64]; omega
  have h1 : remI (wi .u64 s) 241 = wi .u64 s % 241 := rem_nn h0
  have h2 : 0 ≤ wi .u64 s % 241 ∧ wi .u64 s % 241 < 241 := by omega
  rw [h1]
  refine ⟨(16 + wi .u64 s % 241).toNat, by omega, ?_⟩
  generalize wi .u64 s % 241 = z at *
  have e : wi .i64 z = z := wi64 (by omega) (by omega)
  rw [e, wi64 (by omega) (by omega)]
  omega
theorem H (s : Int) (l : List Rq) (kept : List Bool) : ∃ n, G_ringlaw3_LiftRuns n s l kept = some true := by
  refine ⟨40001, ?_⟩
  have : ∀ n, 40000 < n → G_ringlaw3_LiftRuns n s l kept = some true := by
    intro n hn
    obtain ⟨S, hS, hs⟩ := sect s
    by_cases h1 : (l.length : Int) > 60
    · unfold G_ringlaw3_LiftRuns G_ringlaw3_LiftRuns_C1
      rw [if_pos h1]; rfl
    by_cases h2 : (kept.length : Int) > 100
    · unfold G_ringlaw3_LiftRuns G_ringlaw3_LiftRuns_C1
      rw [if_neg h1, if_pos h2]; rfl
    by_cases h3 : err l = 0
    · have hz := err_zero h3
      exact all_ok n hn S hS l (by omega) hz.2 kept s hs (by omega)
    · unfold G_ringlaw3_LiftRuns G_ringlaw3_LiftRuns_C1
      rw [if_neg h1, if_neg h2, right_ok n (by omega) l (by omega), Option.bind_some, Option.bind_some]
      have : (err l != 0) = true := by simpa using h3
      simp only [this, if_true]
  exact this 40001 (by decide)
end lr
end Go.Proofs.Ytdimcmpkhbfcnaa.pv
