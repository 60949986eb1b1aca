/- DiskPlays: sectors, what is written, what a disk shows. -/
import Derived.Test.YtlabkelhaaahkaaGuDiskPlays
import Derived.Test.YtlabkelhaaahkaaLib
import Derived.Test.YtlabkelhaaahkaaMath
namespace Go.Proofs.Ytlabkelhaaahkaa.diskPlays
set_option linter.all false
open Go.RowKit help pv

def u8 (x : Int) : UInt8 := UInt8.ofNat x.toNat
theorem push_fold (L : List Int) : ∀ acc : ByteArray, (L.foldl (fun r n => r.push (UInt8.ofNat n.toNat)) acc).data = acc.data ++ (L.map u8).toArray := by
  induction L with
  | nil => intro acc; simp
  | cons a L ih =>
    intro acc
    rw [List.foldl_cons, ih]
    show acc.data.push (u8 a) ++ (L.map u8).toArray = acc.data ++ ((u8 a :: L.map u8)).toArray
    apply Array.ext'
    simp
theorem b2s_data (L : List Int) : (b2s L).data = (L.map u8).toArray := by
  unfold b2s
  rw [push_fold]
  show (#[] : Array UInt8) ++ _ = _
  simp
theorem b2s_app (L K : List Int) : b2s L ++ b2s K = b2s (L ++ K) := by
  apply ByteArray.ext
  rw [ByteArray.data_append, b2s_data, b2s_data, b2s_data]
  simp
theorem b2s_size (L : List Int) : (b2s L).size = L.length := by
  show (b2s L).data.size = _
  rw [b2s_data]; simp
theorem cat_b2s (L K : List Int) (h : L.length + K.length ≤ 1000000) : catS (b2s L) (b2s K) = some (b2s (L ++ K)) := by
  unfold catS
  rw [b2s_size, b2s_size, if_pos (by omega), b2s_app]
theorem rep_zero (c : Nat) : Lib.repeatL [0] c = List.replicate c (0 : UInt8) := by
  induction c with
  | zero => rfl
  | succ c ih => rw [Lib.repeatL, ih]; rfl
theorem repeat_b2s (n c : Nat) (h : c ≤ 100) : G_strings_Repeat n (ByteArray.mk #[0]) (c : Int) = some (b2s (List.replicate c 0)) := by
  unfold G_strings_Repeat
  have hs : (ByteArray.mk #[0]).size = 1 := rfl
  rw [hs, if_pos ⟨by omega, by omega, by simp; omega⟩, Int.toNat_natCast]
  congr 1
  apply ByteArray.ext
  rw [b2s_data]
  have : (ByteArray.mk #[0]).data.toList = [0] := rfl
  rw [this, rep_zero]
  simp [u8]

/-- a write: a sector's number, its 64 bytes -/
def toW (p : Nat × List Int) : S_disk_write := ⟨(p.1 : Int), p.2⟩
def toP (p : Nat × List Int) : S_ringref3_Put := ⟨(p.1 : Int), b2s p.2⟩
def put (A : List Int) (p : Nat × List Int) : List Int := A.take (p.1 * 64) ++ p.2 ++ A.drop (p.1 * 64 + 64)
def sector (A : List Int) (n : Nat) : List Int := (A.take ((n + 1) * 64)).drop (n * 64)
def Wf (S : Nat) (p : Nat × List Int) : Prop := p.1 < S ∧ p.2.length = 64
def zeros : List Int := List.replicate 64 0
def img (S : Nat) (P : List (Nat × List Int)) : List Int := P.foldl put (List.replicate (S * 64) 0)
theorem put_len {S : Nat} {A : List Int} {p : Nat × List Int} (hA : A.length = S * 64) (hp : Wf S p) : (put A p).length = S * 64 := by
  obtain ⟨h1, h2⟩ := hp
  unfold put
  simp only [List.length_append, List.length_take, List.length_drop]
  omega
theorem cpyR_put {S : Nat} {A : List Int} {p : Nat × List Int} (hA : A.length = S * 64) (hp : Wf S p) : cpyR A (p.1 * 64) A.length p.2 = put A p := by
  obtain ⟨h1, h2⟩ := hp
  unfold cpyR put
  have hm : Nat.min p.2.length (A.length - p.1 * 64) = 64 := by rw [h2]; exact Nat.min_eq_left (by omega)
  rw [hm, List.take_of_length_le (l := p.2) (by omega)]
theorem cpyR_all {A B : List Int} (h : A.length = B.length) : cpyR A 0 A.length B = B := by
  unfold cpyR
  have hm : Nat.min B.length (A.length - 0) = A.length := by rw [← h]; simp
  rw [hm, List.take_of_length_le (l := B) (by omega), Nat.zero_add, List.drop_of_length_le (Nat.le_refl _)]
  simp
theorem put_get {S : Nat} {A : List Int} {p : Nat × List Int} (hA : A.length = S * 64) (hp : Wf S p) (i : Nat) : (put A p)[i]? = if p.1 * 64 ≤ i ∧ i < p.1 * 64 + 64 then p.2[i - p.1 * 64]? else A[i]? := by
  obtain ⟨h1, h2⟩ := hp
  unfold put
  have hl : (A.take (p.1 * 64)).length = p.1 * 64 := by rw [List.length_take]; omega
  rw [List.append_assoc]
  by_cases c1 : i < p.1 * 64
  · rw [List.getElem?_append_left (by omega), List.getElem?_take, if_pos c1, if_neg (by omega)]
  · rw [List.getElem?_append_right (by omega), hl]
    by_cases c2 : i < p.1 * 64 + 64
    · rw [List.getElem?_append_left (by omega), if_pos (by omega)]
    · rw [List.getElem?_append_right (by omega), if_neg (by omega), List.getElem?_drop]
      congr 1; omega
theorem sector_get (A : List Int) (n j : Nat) : (sector A n)[j]? = if j < 64 then A[n * 64 + j]? else none := by
  unfold sector
  rw [List.getElem?_drop, List.getElem?_take]
  by_cases c : j < 64
  · rw [if_pos c, if_pos (by omega)]
  · rw [if_neg c, if_neg (by omega)]
theorem sector_put {S : Nat} {A : List Int} {p : Nat × List Int} (hA : A.length = S * 64) (hp : Wf S p) (n : Nat) : sector (put A p) n = if p.1 = n then p.2 else sector A n := by
  apply List.ext_getElem?
  intro j
  rw [sector_get]
  have h2 := hp.2
  by_cases c : p.1 = n
  · rw [if_pos c]
    subst c
    by_cases cj : j < 64
    · rw [if_pos cj, put_get hA hp, if_pos (by omega)]; congr 1; omega
    · rw [if_neg cj, List.getElem?_eq_none (by omega)]
  · rw [if_neg c, sector_get]
    by_cases cj : j < 64
    · rw [if_pos cj, if_pos cj, put_get hA hp, if_neg (by omega)]
    · rw [if_neg cj, if_neg cj]
theorem img_len {S : Nat} : ∀ {P : List (Nat × List Int)} {A : List Int}, A.length = S * 64 → (∀ p ∈ P, Wf S p) → (P.foldl put A).length = S * 64
  | [], A, hA, _ => hA
  | p :: P, A, hA, h => img_len (P := P) (A := put A p) (put_len hA (h p (by simp))) fun q hq => h q (by simp [hq])
theorem img_len' {S : Nat} {P : List (Nat × List Int)} (h : ∀ p ∈ P, Wf S p) : (img S P).length = S * 64 := img_len (by simp) h
theorem img_snoc (S : Nat) (P : List (Nat × List Int)) (p : Nat × List Int) : img S (P ++ [p]) = put (img S P) p := by simp [img]
/-- what was written last -/
def look (Q : List (Nat × List Int)) (n : Nat) : List Int := match Q.find? (fun p => p.1 == n) with | some p => p.2 | none => zeros
theorem look_len {S : Nat} {Q : List (Nat × List Int)} (h : ∀ p ∈ Q, Wf S p) (n : Nat) : (look Q n).length = 64 := by
  unfold look
  cases hf : Q.find? (fun p => p.1 == n) with
  | none => simp [zeros]
  | some p => exact (h p (List.mem_of_find?_eq_some hf)).2
theorem sector_look {S n : Nat} (hn : n < S) : ∀ (Q : List (Nat × List Int)), (∀ p ∈ Q, Wf S p) → sector (img S Q.reverse) n = look Q n
  | [], _ => by
    apply List.ext_getElem?
    intro j
    rw [sector_get]
    show _ = zeros[j]?
    simp only [img, List.reverse_nil, List.foldl_nil, zeros, List.getElem?_replicate]
    by_cases c : j < 64
    · rw [if_pos c, if_pos c, if_pos (by omega)]
    · rw [if_neg c, if_neg c]
  | q :: Q, h => by
    have ih := sector_look hn Q (fun p hp => h p (by simp [hp]))
    rw [List.reverse_cons, img_snoc, sector_put (img_len' (fun p hp => h p (by simp at hp; simp [hp]))) (h q (by simp)), ih]
    unfold look
    rw [List.find?_cons]
    by_cases c : q.1 = n
    · simp [c]
    · rw [if_neg c]
      have : (q.1 == n) = false := by simpa using c
      rw [this]
theorem sector_img {S n : Nat} (hn : n < S) {P : List (Nat × List Int)} (h : ∀ p ∈ P, Wf S p) : sector (img S P) n = look P.reverse n := by
  have := sector_look hn P.reverse (fun p hp => h p (by simpa using hp))
  rwa [List.reverse_reverse] at this
/-- the document's way to it -/
theorem lastL {n : Nat} {P : List (Nat × List Int)} (hP : P.length ≤ 1000) (N : Nat) : ∀ (t k : Nat), t < k → t ≤ P.length →
    G_ringref3_last_L1 n (P.map toP) (N : Int) k ((t : Int) - 1) = some (match (P.take t).reverse.find? (fun p => p.1 == N) with | some p => .x0 (b2s p.2) | none => .x1)
  | 0, k + 1, _, _ => by
    rw [G_ringref3_last_L1, if_neg (by omega)]
    rfl
  | t + 1, k + 1, hk, ht => by
    obtain ⟨p, hp⟩ : ∃ p, P[t]? = some p := ⟨P[t], List.getElem?_eq_getElem (by omega)⟩
    have e : (((t + 1 : Nat) : Int) - 1) = (t : Int) := by omega
    rw [G_ringref3_last_L1, e, if_pos (by omega), getI_nat, List.getElem?_map, hp]
    have ht' : P.take (t + 1) = P.take t ++ [p] := by rw [List.take_succ, hp]; rfl
    rw [ht', List.reverse_append]
    show (if (p.1 : Int) = (N : Int) then _ else _) = _
    by_cases c : p.1 = N
    · subst c
      rw [if_pos rfl]
      simp [toP]
    · rw [if_neg (by omega)]
      have : (p.1 == N) = false := by simpa using c
      have e2 : wi .i64 ((t : Int) - 1) = (t : Int) - 1 := wi64 (by omega) (by omega)
      simp only [List.reverse_cons, List.reverse_nil, List.nil_append, List.singleton_append, List.find?_cons, this]
      rw [e2]
      exact lastL hP N t k (by omega) (by omega)
theorem last_is {n : Nat} (hn : 2000 ≤ n) {P : List (Nat × List Int)} (hP : P.length ≤ 1000) (N : Nat) : G_ringref3_last n (P.map toP) (N : Int) = some (b2s (look P.reverse N)) := by
  unfold G_ringref3_last
  have h := lastL (n := n) hP N P.length n (by omega) (Nat.le_refl _)
  rw [List.take_of_length_le (Nat.le_refl _)] at h
  have e : wi .i64 (((P.map toP).length : Int) - 1) = (P.length : Int) - 1 := by rw [List.length_map, wi64 (by omega) (by omega)]
  rw [e, h, Option.bind_some]
  unfold look
  cases hf : P.reverse.find? (fun p => p.1 == N) with
  | some p => rfl
  | none =>
    simp only []
    have := repeat_b2s n 64 (by omega)
    have this : G_strings_Repeat n (ByteArray.mk #[0]) 64 = _ := this
    rw [this]; rfl
/-- a disk, and the document's, in the same state: all writes, from which on they wait, the fuse -/
def D (S : Nat) (P : List (Nat × List Int)) (m : Nat) (f : Int) : S_disk_Disk := ⟨img S (P.take m), img S P, (P.drop m).map toW, f⟩
def Rf (S : Nat) (P : List (Nat × List Int)) (m : Nat) (f : Int) : S_ringref3_Disk := ⟨(S : Int), (m : Int), f, P.map toP⟩
structure Inv (S : Nat) (P : List (Nat × List Int)) (m : Nat) (f : Int) (k : Nat) : Prop where
  sB : S ≤ 256
  wf : ∀ p ∈ P, Wf S p
  mB : m ≤ P.length
  kB : P.length ≤ k
  k60 : k ≤ 60
  fB : -1 ≤ f ∧ f ≤ 9223372036854775807
def nf (f : Int) : Int := if f > 0 then f - 1 else f
theorem goesD (n : Nat) {S : Nat} {P : List (Nat × List Int)} {m : Nat} {f : Int} (hf : -1 ≤ f ∧ f ≤ 9223372036854775807) : G_disk_Disk_goes_h n (D S P m f) = some (decide (f ≠ 0), D S P m (nf f)) := by
  unfold G_disk_Disk_goes_h nf
  show (if f = 0 then _ else if f > 0 then _ else _) = _
  by_cases c : f = 0
  · subst c; rfl
  · rw [if_neg c, decide_eq_true c]
    by_cases c2 : f > 0
    · rw [if_pos c2, if_pos c2, show (D S P m f).ffuse = f from rfl, wi64 (by omega) (by omega)]; rfl
    · rw [if_neg c2, if_neg c2]
theorem goesR (n : Nat) {S : Nat} {P : List (Nat × List Int)} {m : Nat} {f : Int} (hf : -1 ≤ f ∧ f ≤ 9223372036854775807) : G_ringref3_Disk_goes_h n (Rf S P m f) = some (decide (f ≠ 0), Rf S P m (nf f)) := by
  unfold G_ringref3_Disk_goes_h nf
  show (if f > 0 then _ else _) = _
  by_cases c2 : f > 0
  · rw [if_pos c2, if_pos c2, show (Rf S P m f).fFuse = f from rfl, wi64 (by omega) (by omega), decide_eq_true (by omega)]; rfl
  · rw [if_neg c2, if_neg c2]
    have : decide ((Rf S P m f).fFuse < 0) = decide (f ≠ 0) := by
      show decide (f < 0) = _
      by_cases c : f = 0
      · subst c; rfl
      · rw [decide_eq_true c, decide_eq_true (by omega)]
    rw [this]
theorem nf_ok {f : Int} (hf : -1 ≤ f ∧ f ≤ 9223372036854775807) : -1 ≤ nf f ∧ nf f ≤ 9223372036854775807 := by
  unfold nf; split <;> omega
theorem size_is (n : Nat) {S : Nat} {P : List (Nat × List Int)} {m : Nat} {f : Int} {k : Nat} (h : Inv S P m f k) : G_disk_Disk_Size_h n (D S P m f) = some ((S : Int), D S P m f) := by
  unfold G_disk_Disk_Size_h
  have hl : (D S P m f).fnow.length = S * 64 := img_len' h.wf
  have hs := h.sB
  rw [hl, quo_i64 (by omega) (by omega) (by omega)]
  congr 2
  omega
end Go.Proofs.Ytlabkelhaaahkaa.diskPlays
