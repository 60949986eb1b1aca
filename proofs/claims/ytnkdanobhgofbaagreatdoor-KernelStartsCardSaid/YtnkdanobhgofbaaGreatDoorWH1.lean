/- KernelStarts: what runs on fixed data: run by the kernel. -/
import Derived.Test.YtnkdanobhgofbaaGreatDoorK
import Derived.Test.YtnkdanobhgofbaaGreatDoorWLL
import Derived.KernelRfl
namespace Go.Proofs.YtnkdanobhgofbaaGreatDoor.pv
set_option linter.all false
set_option maxRecDepth 100000
open Go.RowKit
namespace ks
def nodes0 : Ar 16 Int := ⟨[37, 38, 39, 40, 41, 42, 43, 44, 45, 46, 47, 48, 49, 50, 51, 52], rfl⟩
def has0 : Ar 32 Int := ⟨[0, 0, 0, 0, 224, 255, 31, 0, 0, 0, 0, 0, 0, 0, 0, 0, 0, 0, 0, 0, 0, 0, 0, 0, 0, 0, 0, 0, 0, 0, 0, 0], rfl⟩
def tz : S_snap_Tree := (nA 16 0, nA 32 0, ())
/-- the forest of a new file system -/
def F0 : Ar 4 S_snap_Tree := ⟨[(nodes0, has0, ()), tz, tz, tz], rfl⟩
/-- its bytes -/
def B0 : List Int := [37, 38, 39, 40, 41, 42, 43, 44, 45, 46, 47, 48, 49, 50, 51, 52] ++ List.replicate 48 0 ++ [0, 0, 0, 0, 224, 255, 31] ++ List.replicate 121 0
theorem pack0 (N d : Nat) : G_snap_Pack Tryz.prog (N + 100) (d + 10) F0 = some ((B0, 0, ()), ()) := by kernel_rfl
end ks
end Go.Proofs.YtnkdanobhgofbaaGreatDoor.pv
namespace Go.Proofs.YtnkdanobhgofbaaGreatDoor.pv
set_option linter.all false
set_option maxRecDepth 100000
open Go.RowKit
namespace ks
abbrev Wt := List S_disk_write
abbrev DD := Unit × Unit × Unit × Int × Unit
def dd : DD := ((), (), (), -1, ())
def Sec (n : Nat) (S : List (List Int)) : Prop := S.length = n ∧ ∀ s ∈ S, s.length = 64
theorem flat_take : ∀ {S : List (List Int)} (_ : ∀ s ∈ S, s.length = 64) (k : Nat), S.flatten.take (k * 64) = (S.take k).flatten
  | [], _, k => by simp
  | s :: S, h, 0 => by simp
  | s :: S, h, k + 1 => by
    have hs := h s (by simp)
    rw [List.flatten_cons, List.take_succ_cons, List.flatten_cons, show (k + 1) * 64 = s.length + k * 64 by omega, List.take_length_add_append, flat_take (fun x hx => h x (by simp [hx])) k]
theorem flat_drop : ∀ {S : List (List Int)} (_ : ∀ s ∈ S, s.length = 64) (k : Nat), S.flatten.drop (k * 64) = (S.drop k).flatten
  | [], _, k => by simp
  | s :: S, h, 0 => by simp
  | s :: S, h, k + 1 => by
    have hs := h s (by simp)
    rw [List.flatten_cons, List.drop_succ_cons, show (k + 1) * 64 = s.length + k * 64 by omega, List.drop_length_add_append, flat_drop (fun x hx => h x (by simp [hx])) k]
theorem Sec.flat {n : Nat} {S : List (List Int)} (h : Sec n S) : S.flatten.length = n * 64 := by
  obtain ⟨rfl, h⟩ := h
  induction S with
  | nil => rfl
  | cons s S ih => rw [List.flatten_cons, List.length_append, ih fun x hx => h x (by simp [hx]), h s (by simp), List.length_cons]; omega
theorem Sec.set {n k : Nat} {S : List (List Int)} {x : List Int} (h : Sec n S) (hx : x.length = 64) : Sec n (S.set k x) := by
  refine ⟨by rw [List.length_set]; exact h.1, fun s hs => ?_⟩
  rcases List.mem_or_eq_of_mem_set hs with hs | rfl
  · exact h.2 s hs
  · exact hx
theorem sec_read {n k : Nat} {S : List (List Int)} {x : List Int} (h : Sec n S) (hx : S[k]? = some x) : (S.flatten.take ((k + 1) * 64)).drop (k * 64) = x := by
  obtain ⟨hk, rfl⟩ := List.getElem?_eq_some_iff.1 hx
  rw [flat_take h.2, flat_drop (fun s hs => h.2 s (List.mem_of_mem_take hs))]
  rw [show List.take (k + 1) S = List.take k S ++ [S[k]] from List.take_succ_eq_append_getElem hk, List.drop_left' (by rw [List.length_take]; omega)]
  simp
theorem sec_write {n k : Nat} {S : List (List Int)} {x : List Int} (h : Sec n S) (hk : k < n) (hx : x.length = 64) : cpyR S.flatten (k * 64) (n * 64) x = (S.set k x).flatten := by
  unfold cpyR
  have h1 : Nat.min x.length (n * 64 - k * 64) = 64 := by rw [hx]; show min 64 (n * 64 - k * 64) = 64; omega
  rw [h1, List.take_of_length_le (l := x) (by omega), show k * 64 + 64 = (k + 1) * 64 by omega, flat_take h.2, flat_drop h.2, List.set_eq_take_append_cons_drop, if_pos (by rw [h.1]; exact hk)]
  simp
variable {P : Program}
theorem size_eq (hP : P = Tryz.prog) {n : Nat} {S : List (List Int)} (h : Sec n S) (hn : n ≤ 256) (N d : Nat) (s : DD) (F : List Int) (w : Wt) : G_disk_Disk_Size P N (d + 1) s F S.flatten w = some ((n : Int), ()) := by
  rw [G_disk_Disk_Size_eq hP, h.flat]
  have : wi .i64 (((n * 64 : Nat) : Int).tdiv 64) = n := by
    rw [Int.tdiv_eq_ediv_of_nonneg (by omega), wi64 (by omega) (by omega)]; omega
  rw [this]
theorem goes_eq (hP : P = Tryz.prog) (N d : Nat) (F G : List Int) (w : Wt) : G_disk_Disk_goes P N (d + 1) dd F G w = some (true, dd, ()) := by
  rw [G_disk_Disk_goes_eq hP]; rfl
theorem clone_eq (N d : Nat) (xs : List Int) : G_slices_Clone Tryz.prog N (d + 1) xs = bif Nat.ble xs.length 100000 then some ((), xs, ()) else none := by kernel_rfl
theorem clone_ok (hP : P = Tryz.prog) (N d : Nat) (xs : List Int) (h : xs.length ≤ 100000) : G_slices_Clone P N (d + 1) xs = some ((), xs, ()) := by
  subst hP
  rw [clone_eq, Nat.ble_eq_true_of_le h]; rfl
theorem slOk_true {i j : Int} {n : Nat} (h1 : 0 ≤ i) (h2 : i ≤ j) (h3 : j ≤ n) : slOk i j n = true := by
  unfold slOk; rw [dT h1, dT h2, dT h3]; rfl
theorem read_eq (hP : P = Tryz.prog) {n : Nat} {S : List (List Int)} (h : Sec n S) (hn : n ≤ 256) (N d : Nat) (k : Int) (s : DD) (F : List Int) (w : Wt) {x : List Int} (hx : S[k.toNat]? = some x) (hk : 0 ≤ k) : G_disk_Disk_Read P N (d + 2) k s F S.flatten w = some ((x, 0, ()), ()) := by
  obtain ⟨hk1, _⟩ := List.getElem?_eq_some_iff.1 hx
  rw [h.1] at hk1
  have hl : x.length = 64 := h.2 x (List.mem_of_getElem? hx)
  rw [G_disk_Disk_Read_eq hP, dF (by omega), cond_false, size_eq hP h hn, Option.bind_some, dF (by show ¬ k ≥ (n : Int); omega), Option.bind_some, cond_false, h.flat,
    wi64 (x := k * 64) (by omega) (by omega), wi64 (x := k + 1) (by omega) (by omega), wi64 (x := (k + 1) * 64) (by omega) (by omega),
    slOk_true (by omega) (by omega) (by omega), cond_true]
  have e1 : ((k + 1) * 64).toNat = (k.toNat + 1) * 64 := by omega
  have e2 : (k * 64).toNat = k.toNat * 64 := by omega
  have e3 : (Nat.ble ((k * 64).toNat) (((k + 1) * 64).toNat) && Nat.ble (((k + 1) * 64).toNat) (n * 64)) = true := by
    rw [Nat.ble_eq_true_of_le (by omega), Nat.ble_eq_true_of_le (by omega)]; rfl
  rw [e3, e1, e2, sec_read h hx, clone_ok hP _ _ _ (by omega)]
  rfl
theorem write_eq (hP : P = Tryz.prog) {n : Nat} {S : List (List Int)} (h : Sec n S) (hn : n ≤ 256) (N d : Nat) (k : Int) (F : List Int) (w : Wt) {x : List Int} (hx : x.length = 64) (hk : 0 ≤ k) (hk1 : k < n) (hw : w.length ≤ 100000) : G_disk_Disk_Write P N (d + 2) k x dd F S.flatten w = some (0, dd, (S.set k.toNat x).flatten, w ++ [(k, x, ())], ()) := by
  rw [G_disk_Disk_Write_eq hP, dF (by omega), cond_false, size_eq hP h hn, Option.bind_some, dF (by show ¬ k ≥ (n : Int); omega), cond_false, Option.bind_some, hx, neF (by rfl), cond_false, goes_eq hP, Option.bind_some, cond_true,
    clone_ok hP _ _ _ (by omega), Option.bind_some, lenOk_true (by simp; omega) (by omega), cond_true, h.flat, wi64 (x := k * 64) (by omega) (by omega), slOk_true (by omega) (by omega) (by omega), cond_true,
    Nat.ble_eq_true_of_le (by omega), cond_true]
  have e2 : (k * 64).toNat = k.toNat * 64 := by omega
  have e3 : (((n * 64 : Nat) : Int)).toNat = n * 64 := by omega
  rw [e2, e3, sec_write h (by omega) hx]
theorem flush_eq (hP : P = Tryz.prog) {n : Nat} {S T : List (List Int)} (h : Sec n S) (hT : Sec n T) (N d : Nat) (w : Wt) : G_disk_Disk_Flush P N (d + 2) dd T.flatten S.flatten w = some ((), dd, S.flatten, [], ()) := by
  rw [G_disk_Disk_Flush_eq hP, goes_eq hP, Option.bind_some, cond_true]
  have : cpyR T.flatten 0 T.flatten.length S.flatten = S.flatten := by
    unfold cpyR
    rw [List.take_zero, hT.flat, ← h.flat, Nat.sub_zero, List.take_length, show Nat.min S.flatten.length S.flatten.length = S.flatten.length from Nat.min_self _, Nat.zero_add, h.flat, ← hT.flat, List.drop_length]
    simp
  rw [this]
end ks
end Go.Proofs.YtnkdanobhgofbaaGreatDoor.pv
namespace Go.Proofs.YtnkdanobhgofbaaGreatDoor.pv
set_option linter.all false
set_option maxRecDepth 100000
open Go.RowKit
namespace ks
def root32 : List Int := [2, 237, 1, 0, 0, 0, 0, 1, 1] ++ List.replicate 23 0
theorem root_pack (N d : Nat) : G_inode_Pack Tryz.prog (N + 100) (d + 10) (2, 493, 0, 0, 0, 1, 1, [], ()) = some (((), 0, ()), root32, ()) := by kernel_rfl
def withF (s : Ar 32 Int) (n : Int) : Ar 32 Int := if h : inb (wi .i64 (n.tdiv 8)) 32 = true then sA s ⟨(wi .i64 (n.tdiv 8)).toNat, inb_lt h⟩ (bits .or .u8 (gA s ⟨(wi .i64 (n.tdiv 8)).toNat, inb_lt h⟩) (wi .u8 (1 * 2 ^ (min (n.tmod 8).toNat IntKind.u8.bits)))) else s
variable {P : Program}
theorem with_eq (hP : P = Tryz.prog) (N d : Nat) (s : Ar 32 Int) (n : Int) (h0 : 0 ≤ n) (h1 : n < 256) : G_bits_Set_With P N (d + 1) s n = some (withF s n, ()) := by
  have e1 : n.tdiv 8 = n / 8 := Int.tdiv_eq_ediv_of_nonneg h0
  have hi : inb (wi .i64 (n.tdiv 8)) 32 = true := by rw [e1, wi64 (by omega) (by omega)]; exact inb_true (by omega) (by omega)
  have h2 : 0 ≤ n.tmod 8 := Int.tmod_nonneg 8 h0
  rw [G_bits_Set_With_eq hP, dT h0, cond_true, dT h1, Option.bind_some, cond_true, dif_pos hi, dT h2, cond_true, dif_pos hi, withF, dif_pos hi]
def stepF (s : Ar 4 S_snap_Tree) (k : Int) : Ar 4 S_snap_Tree := if h : inb k 16 = true then
    sA (sA s ⟨0, by decide⟩ (u0 (gA s ⟨0, by decide⟩) (sA ((gA s ⟨0, by decide⟩).1) ⟨k.toNat, inb_lt h⟩ (wi .i64 (37 + k))))) ⟨0, by decide⟩ (u1 (gA (sA s ⟨0, by decide⟩ (u0 (gA s ⟨0, by decide⟩) (sA ((gA s ⟨0, by decide⟩).1) ⟨k.toNat, inb_lt h⟩ (wi .i64 (37 + k))))) ⟨0, by decide⟩)
      (withF (gA (sA s ⟨0, by decide⟩ (u0 (gA s ⟨0, by decide⟩) (sA ((gA s ⟨0, by decide⟩).1) ⟨k.toNat, inb_lt h⟩ (wi .i64 (37 + k))))) ⟨0, by decide⟩).2.1 (wi .i64 (37 + k)))) else s
theorem l11_step (hP : P = Tryz.prog) (N d f : Nat) (k : Int) (h0 : 0 ≤ k) (h1 : k < 16) (F G : List Int) (w : Wt) (s : Ar 4 S_snap_Tree) : G_fs_Format_L11 P N (d + 1) (f + 1) k dd F G w s = G_fs_Format_L11 P N (d + 1) f (k + 1) dd F G w (stepF s k) := by
  have hi : inb k 16 = true := inb_true h0 h1
  rw [G_fs_Format_L11_eq hP, dT h1, cond_true, dif_pos hi, with_eq hP _ _ _ _ (by rw [wi64 (by omega) (by omega)]; omega) (by rw [wi64 (by omega) (by omega)]; omega), Option.bind_some, wi64 (x := k + 1) (by omega) (by omega), stepF, dif_pos hi]
def forK : Nat → Ar 4 S_snap_Tree
  | 0 => nA 4 tz
  | k + 1 => stepF (forK k) k
theorem forK_16 : forK 16 = F0 := by
  apply Subtype.ext
  kernel_rfl
theorem l11_run (hP : P = Tryz.prog) (N d f : Nat) (F G : List Int) (w : Wt) : ∀ k, k ≤ 16 → G_fs_Format_L11 P N (d + 1) (f + 16) 0 dd F G w (nA 4 tz) = G_fs_Format_L11 P N (d + 1) (f + 16 - k) k dd F G w (forK k)
  | 0, _ => rfl
  | k + 1, h => by
    rw [l11_run hP N d f F G w k (by omega), show f + 16 - k = (f + 16 - (k + 1)) + 1 by omega, l11_step hP _ _ _ _ (by omega) (by omega)]
    rfl
theorem l11_eq (hP : P = Tryz.prog) (N d f : Nat) (F G : List Int) (w : Wt) : G_fs_Format_L11 P (N + 100) (d + 10) (f + 17) 0 dd F G w (nA 4 tz) = G_fs_Format_L21 P (N + 100) (d + 10) (N + 100) B0 0 dd F G w root32 := by
  rw [show f + 17 = (f + 1) + 16 by omega, l11_run hP _ _ _ _ _ _ 16 (by omega), show f + 1 + 16 - 16 = f + 1 by omega, forK_16, G_fs_Format_L11_eq hP, dF (by decide), cond_false]
  have h1 := pack0 N d
  have h2 := root_pack N d
  rw [← hP] at h1 h2
  rw [h1, Option.bind_some, h2, Option.bind_some]
  rfl
end ks
end Go.Proofs.YtnkdanobhgofbaaGreatDoor.pv
namespace Go.Proofs.YtnkdanobhgofbaaGreatDoor.pv
set_option linter.all false
set_option maxRecDepth 100000
open Go.RowKit
namespace ks
def z64 : List Int := List.replicate 64 0
def mark (n : Int) : List Int := [114, 105, 110, 103, 1, wi .u8 n, wi .u8 (n.fdiv 256)] ++ List.replicate 57 0
def r64 : List Int := root32 ++ List.replicate 32 0
def bs (k : Nat) : List Int := (B0.take (64 * (k + 1))).drop (64 * k)
def Z (n : Nat) : List (List Int) := List.replicate n z64
/-- the sectors of a new file system -/
def secs (n : Nat) : List (List Int) := (((((Z n).set 1 (bs 0)).set 2 (bs 1)).set 3 (bs 2)).set 37 r64).set 0 (mark n)
theorem Z_sec (n : Nat) : Sec n (Z n) := ⟨List.length_replicate, fun s hs => by rw [List.eq_of_mem_replicate hs]; rfl⟩
theorem secs_sec (n : Nat) : Sec n (secs n) := ((((((Z_sec n).set (k := 1) (x := bs 0) rfl).set (k := 2) (x := bs 1) rfl).set (k := 3) (x := bs 2) rfl).set (k := 37) (x := r64) rfl).set (k := 0) (x := mark n) rfl)
theorem Z_flat (n : Nat) : (Z n).flatten = List.replicate (n * 64) 0 := List.flatten_replicate_replicate ..
variable {P : Program}
theorem mark_eq (hP : P = Tryz.prog) (N d : Nat) (n : Int) : G_check_Mark P N (d + 1) n = some (mark n, ()) := by
  rw [G_check_Mark_eq hP]; rfl
theorem l5_eq (hP : P = Tryz.prog) {n : Nat} (hn : n ≤ 256) (N d : Nat) (F : List Int) : ∀ (m f t : Nat) (w : Wt), t + m = n → m + 1 ≤ f → w.length ≤ t → ∃ w' : Wt, w'.length ≤ n ∧ G_fs_Format_L5 P N (d + 2) f z64 n t dd F (Z n).flatten w = G_fs_Format_L11 P N (d + 2) N 0 dd F (Z n).flatten w' (nA 4 tz)
  | 0, f + 1, t, w, h, _, hw => by
    refine ⟨w, by omega, ?_⟩
    rw [G_fs_Format_L5_eq hP, dF (by omega), cond_false]
    rfl
  | m + 1, f + 1, t, w, h, hf, hw => by
    have hs : (Z n).set t z64 = Z n := by
      apply List.ext_getElem?
      intro i
      rw [List.getElem?_set]
      split
      · subst_vars; simp [Z]
      · rfl
    obtain ⟨w', h1, h2⟩ := l5_eq hP hn N d F m f (t + 1) (w ++ [((t : Int), z64, ())]) (by omega) (by omega) (by simp; omega)
    refine ⟨w', h1, ?_⟩
    rw [G_fs_Format_L5_eq hP, dT (by omega), cond_true, write_eq hP (Z_sec n) hn _ _ _ _ _ rfl (by omega) (by omega) (by omega), Option.bind_some, wi64 (by omega) (by omega)]
    show G_fs_Format_L5 P N (d + 2) f z64 n ((t : Int) + 1) dd F ((Z n).set (t : Int).toNat z64).flatten (w ++ [((t : Int), z64, ())]) = _
    rw [Int.toNat_natCast, hs]
    exact h2
theorem l21_eq (hP : P = Tryz.prog) {n : Nat} (hn : n ≤ 256) (h64 : 64 ≤ n) (N d f : Nat) (w : Wt) (hw : w.length ≤ n) : G_fs_Format_L21 P N (d + 4) (f + 4) B0 0 dd (Z n).flatten (Z n).flatten w root32 = some (0, dd, (secs n).flatten, (secs n).flatten, [], ()) := by
  have e : ∀ k : Int, 0 ≤ k → k < 3 → slOk (wi .i64 (64 * k)) (wi .i64 (64 * (wi .i64 (k + 1)))) B0.length = true := by
    intro k h0 h1
    have hl : B0.length = 192 := rfl
    rw [wi64 (x := 64 * k) (by omega) (by omega), wi64 (x := k + 1) (by omega) (by omega), wi64 (by omega) (by omega), hl]
    exact slOk_true (by omega) (by omega) (by omega)
  have b0 : (List.take (wi .i64 (64 * (wi .i64 ((0 : Int) + 1)))).toNat B0).drop (wi .i64 (64 * (0 : Int))).toNat = bs 0 := rfl
  have b1 : (List.take (wi .i64 (64 * (wi .i64 ((1 : Int) + 1)))).toNat B0).drop (wi .i64 (64 * (1 : Int))).toNat = bs 1 := rfl
  have b2 : (List.take (wi .i64 (64 * (wi .i64 ((2 : Int) + 1)))).toNat B0).drop (wi .i64 (64 * (2 : Int))).toNat = bs 2 := rfl
  have s1 : Sec n ((Z n).set 1 (bs 0)) := (Z_sec n).set rfl
  have s2 : Sec n (((Z n).set 1 (bs 0)).set 2 (bs 1)) := s1.set rfl
  have s3 : Sec n ((((Z n).set 1 (bs 0)).set 2 (bs 1)).set 3 (bs 2)) := s2.set rfl
  have s4 : Sec n (((((Z n).set 1 (bs 0)).set 2 (bs 1)).set 3 (bs 2)).set 37 r64) := s3.set rfl
  have w0 : wi .i64 ((0 : Int) + 1) = 1 := rfl
  have w1 : wi .i64 ((1 : Int) + 1) = 2 := rfl
  have w2 : wi .i64 ((1 : Int) + 0) = 1 := rfl
  have w3 : wi .i64 ((1 : Int) + 1) = 2 := rfl
  have w4 : wi .i64 ((1 : Int) + 2) = 3 := rfl
  have w5 : wi .i64 ((2 : Int) + 1) = 3 := rfl
  rw [G_fs_Format_L21_eq hP, dT (by decide), cond_true, e 0 (by decide) (by decide), cond_true, b0, w2, w0, write_eq hP (Z_sec n) hn _ _ _ _ _ rfl (by omega) (by omega) (by omega), Option.bind_some]
  show G_fs_Format_L21 P N (d + 4) (f + 3) B0 1 dd (Z n).flatten ((Z n).set 1 (bs 0)).flatten (w ++ [(1, bs 0, ())]) root32 = _
  rw [G_fs_Format_L21_eq hP, dT (by decide), cond_true, e 1 (by decide) (by decide), cond_true, b1, w3, write_eq hP s1 hn _ _ _ _ _ rfl (by omega) (by omega) (by simp; omega), Option.bind_some]
  show G_fs_Format_L21 P N (d + 4) (f + 2) B0 2 dd (Z n).flatten (((Z n).set 1 (bs 0)).set 2 (bs 1)).flatten (w ++ [(1, bs 0, ())] ++ [(2, bs 1, ())]) root32 = _
  rw [G_fs_Format_L21_eq hP, dT (by decide), cond_true, e 2 (by decide) (by decide), cond_true, b2, w4, w5, write_eq hP s2 hn _ _ _ _ _ rfl (by omega) (by omega) (by simp; omega), Option.bind_some]
  show G_fs_Format_L21 P N (d + 4) (f + 1) B0 3 dd (Z n).flatten ((((Z n).set 1 (bs 0)).set 2 (bs 1)).set 3 (bs 2)).flatten (w ++ [(1, bs 0, ())] ++ [(2, bs 1, ())] ++ [(3, bs 2, ())]) root32 = _
  rw [G_fs_Format_L21_eq hP, dF (by decide), cond_false, lenOk_true (by decide) (by decide), cond_true, show root32 ++ List.replicate (32 : Int).toNat 0 = r64 from rfl, write_eq hP s3 hn _ _ _ _ _ rfl (by omega) (by omega) (by simp; omega), Option.bind_some]
  show ((G_disk_Disk_Size P N (d + 4) dd (Z n).flatten (((((Z n).set 1 (bs 0)).set 2 (bs 1)).set 3 (bs 2)).set 37 r64).flatten _).bind _) = _
  rw [size_eq hP s4 hn, Option.bind_some, mark_eq hP, Option.bind_some]
  show ((G_disk_Disk_Write P N (d + 4) 0 (mark n) dd (Z n).flatten (((((Z n).set 1 (bs 0)).set 2 (bs 1)).set 3 (bs 2)).set 37 r64).flatten _).bind _) = _
  rw [write_eq hP s4 hn _ _ _ _ _ rfl (by omega) (by omega) (by simp; omega), Option.bind_some]
  show ((G_disk_Disk_Flush P N (d + 4) dd (Z n).flatten (secs n).flatten _).bind _) = _
  rw [flush_eq hP (secs_sec n) (Z_sec n), Option.bind_some]
  rfl
theorem format_eq (hP : P = Tryz.prog) {n : Nat} (hn : n ≤ 256) (h64 : 64 ≤ n) (N d : Nat) (hN : 1000 ≤ N) : G_fs_Format P N (d + 20) dd (Z n).flatten (Z n).flatten [] = some (0, dd, (secs n).flatten, (secs n).flatten, [], ()) := by
  obtain ⟨M, rfl⟩ : ∃ M, N = M + 100 := ⟨N - 100, by omega⟩
  rw [G_fs_Format_eq hP, size_eq hP (Z_sec n) hn, Option.bind_some, dF (by show ¬ (n : Int) < 64; omega), cond_false, show mkOk 64 1 = true from rfl, cond_true]
  show G_fs_Format_L5 P (M + 100) (d + 19) (M + 100) z64 n 0 dd (Z n).flatten (Z n).flatten [] = _
  obtain ⟨w, hw, h1⟩ := l5_eq hP hn (M + 100) (d + 17) (Z n).flatten n (M + 100) 0 [] (by omega) (by omega) (by simp)
  have h1 : G_fs_Format_L5 P (M + 100) (d + 19) (M + 100) z64 n 0 dd (Z n).flatten (Z n).flatten [] = _ := h1
  rw [h1]
  have h2 := l11_eq hP M (d + 9) (M + 83) (Z n).flatten (Z n).flatten w
  rw [show M + 83 + 17 = M + 100 by omega] at h2
  have h2 : G_fs_Format_L11 P (M + 100) (d + 19) (M + 100) 0 dd (Z n).flatten (Z n).flatten w (nA 4 tz) = _ := h2
  exact h2.trans (l21_eq hP hn h64 (M + 100) (d + 15) (M + 96) w hw)
end ks
end Go.Proofs.YtnkdanobhgofbaaGreatDoor.pv
