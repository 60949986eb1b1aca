/- KernelStarts: what Mount runs on fixed data, run by the kernel. -/
import Derived.Test.YtnkdanobhgofbaaGreatDoorWH1
namespace Go.Proofs.YtnkdanobhgofbaaGreatDoor.pv
set_option linter.all false
set_option maxRecDepth 100000
open Go.RowKit
namespace ks
theorem unpack0 (N d : Nat) : G_snap_Unpack Tryz.prog (N + 300) (d + 12) B0 = some ((F0, 0, ()), ()) := by kernel_rfl
def node1 : S_inode_Node := (2, 493, 0, 0, 0, 1, 1, [], ())
def node0 : S_inode_Node := (0, 0, 0, 0, 0, 0, 0, [], ())
theorem unroot (N d : Nat) : G_inode_Unpack Tryz.prog (N + 100) (d + 12) root32 = some ((node1, 0, ()), ()) := by kernel_rfl
theorem unzero (N d : Nat) : G_inode_Unpack Tryz.prog (N + 100) (d + 12) (List.replicate 32 0) = some ((node0, 0, ()), ()) := by kernel_rfl
theorem unquota (N d : Nat) : G_quota_Unpack Tryz.prog (N + 100) (d + 12) z64 = some (([], 0, ()), ()) := by kernel_rfl
theorem lost0 (N d : Nat) : G_orphan_Lost Tryz.prog (N + 100) (d + 12) (node1 :: List.replicate 31 node0) [] = some ([], ()) := by kernel_rfl
end ks
end Go.Proofs.YtnkdanobhgofbaaGreatDoor.pv
namespace Go.Proofs.YtnkdanobhgofbaaGreatDoor.pv
set_option linter.all false
set_option maxRecDepth 100000
open Go.RowKit
namespace ks
variable {P : Program}
theorem equal_loop (hP : P = Tryz.prog) (N d : Nat) (xs : List Int) (hl : xs.length ≤ 1000000) : ∀ (m f t : Nat), t + m = xs.length → m + 1 ≤ f → G_slices_Equal_L4 P N d f xs xs xs.length t = some (true, ())
  | 0, f + 1, t, h, _ => by rw [G_slices_Equal_L4_eq hP, dF (by omega), cond_false]
  | m + 1, f + 1, t, h, hf => by
    rw [G_slices_Equal_L4_eq hP, dT (by omega), cond_true, dT (by omega), cond_true, show (t : Int).toNat = t from rfl, lget_lt (by omega), Option.bind_some, cond_true, Option.bind_some, neF rfl, cond_false, wi_nat (by omega)]
    exact equal_loop hP N d xs hl m f (t + 1) (by omega) (by omega)
theorem equal_self (hP : P = Tryz.prog) (N d : Nat) (xs : List Int) (h : xs.length < N) (hl : xs.length ≤ 1000000) : G_slices_Equal P N (d + 1) xs xs = some (true, ()) := by
  rw [G_slices_Equal_eq hP, neF rfl, cond_false]
  exact equal_loop hP N d xs hl xs.length N 0 (by omega) (by omega)
/-- what a sector has -/
def secAt (n : Nat) (k : Nat) : List Int := if k = 0 then mark n else if k = 37 then r64 else if k = 3 then bs 2 else if k = 2 then bs 1 else if k = 1 then bs 0 else z64
theorem secs_get {n k : Nat} (h64 : 64 ≤ n) (hk : k < n) : (secs n)[k]? = some (secAt n k) := by
  have hz : (Z n)[k]? = some z64 := by rw [Z, List.getElem?_replicate, if_pos hk]
  have hl : (Z n).length = n := List.length_replicate
  unfold secs secAt
  rw [List.getElem?_set, List.getElem?_set, List.getElem?_set, List.getElem?_set, List.getElem?_set]
  simp only [List.length_set, hl, hz, eq_comm (b := k)]
  by_cases h0 : k = 0
  · subst h0; simp; omega
  by_cases h1 : k = 37
  · subst h1; simp; omega
  by_cases h2 : k = 3
  · subst h2; simp; omega
  by_cases h3 : k = 2
  · subst h3; simp; omega
  by_cases h4 : k = 1
  · subst h4; simp; omega
  simp [h0, h1, h2, h3, h4]
abbrev lg0 : Unit × Int × Int × Int × Unit := ((), 5, 32, 0, ())
theorem sread (hP : P = Tryz.prog) {n : Nat} (hn : n ≤ 256) (h64 : 64 ≤ n) (N d : Nat) (k : Int) (hk : 0 ≤ k) (hk1 : k < n) (s : DD) (F : List Int) (w : Wt) : G_disk_Disk_Read P N (d + 2) k s F (secs n).flatten w = some ((secAt n k.toNat, 0, ()), ()) :=
  read_eq hP (secs_sec n) hn N d k s F w (secs_get h64 (by omega)) hk
theorem ssize (hP : P = Tryz.prog) {n : Nat} (hn : n ≤ 256) (N d : Nat) (s : DD) (F : List Int) (w : Wt) : G_disk_Disk_Size P N (d + 1) s F (secs n).flatten w = some ((n : Int), ()) := size_eq hP (secs_sec n) hn N d s F w
theorem scan_eq (hP : P = Tryz.prog) {n : Nat} (hn : n ≤ 256) (h64 : 64 ≤ n) (N d : Nat) (F : List Int) (w : Wt) : G_journal_Scan P N (d + 4) 5 32 dd F (secs n).flatten w = some (([], 0, false, 0, ()), ()) := by
  rw [G_journal_Scan_eq hP, G_journal_region_eq hP, dF (by decide), cond_false, dF (by decide), cond_false, dF (by decide), cond_false, ssize hP hn, Option.bind_some, Option.bind_some, dF (by show ¬ (5 : Int) > wi .i64 ((n : Int) - 32); rw [wi64 (by omega) (by omega)]; omega), cond_false, Option.bind_some, neF rfl, cond_false, sread hP hn h64 _ _ _ (by omega) (by omega), Option.bind_some]
  rfl
theorem jopen_eq (hP : P = Tryz.prog) {n : Nat} (hn : n ≤ 256) (h64 : 64 ≤ n) (N d : Nat) (F : List Int) (w : Wt) : G_journal_Open P N (d + 5) 5 32 dd F (secs n).flatten w = some (Sum.inr (((), 0, ()), dd, (secs n).flatten, w, lg0, ())) := by
  rw [G_journal_Open_eq hP, scan_eq hP hn h64, Option.bind_some, neF rfl, cond_false, cond_false]
theorem there_eq (hP : P = Tryz.prog) (N d : Nat) (f : Ar 4 S_snap_Tree) (k : Int) (h0 : 0 ≤ k) (h1 : k < 4) : G_snap_Forest_There P N (d + 1) f k = some ((gA ((gA f ⟨k.toNat, by omega⟩).1) ⟨0, by decide⟩) != 0, ()) := by
  rw [G_snap_Forest_There_eq hP, dT h0, cond_true, dT h1, cond_true, dif_pos (inb_true h0 h1), Option.bind_some]
theorem l17_eq (hP : P = Tryz.prog) {n : Nat} (hn : n ≤ 256) (h64 : 64 ≤ n) (N d f2 : Nat) (k : Int) (h0 : 0 ≤ k) (h1 : k < 4) (t : Int) (F : List Int) (w : Wt) (s : Ar 4 S_snap_Tree) : ∀ (m f : Nat) (i : Nat), i + m = 16 → m + 1 ≤ f →
    G_check_Load_L17 P N (d + 1) f2 f k t (gA F0 ⟨k.toNat, by omega⟩).1 i dd F (secs n).flatten w s F0 = G_check_Load_L14 P N (d + 1) f2 (wi .i64 (t + 1)) dd F (secs n).flatten w s F0
  | 0, f + 1, i, hi, _ => by
    rw [G_check_Load_L17_eq hP, dF (by omega), cond_false]
  | m + 1, f + 1, i, hi, hf => by
    have hall : ∀ (k : Fin 4) (i : Fin 16), ((gA (gA F0 k).1 ⟨0, by decide⟩) != 0) = true → 37 ≤ gA (gA F0 k).1 i ∧ gA (gA F0 k).1 i < 64 := by decide
    rw [G_check_Load_L17_eq hP, dT (by omega), cond_true, dif_pos (inb_true (by omega) (by omega)), there_eq hP _ _ _ _ h0 h1, Option.bind_some]
    have hb : ((bif ((gA (gA F0 ⟨k.toNat, by omega⟩).1 ⟨0, by decide⟩) != 0) then
        (bif (decide ((gA (gA F0 ⟨k.toNat, by omega⟩).1 ⟨(i : Int).toNat, by omega⟩) < 37)) then some true else (G_disk_Disk_Size P N (d + 1) dd F (secs n).flatten w).bind fun x332 => some (decide ((gA (gA F0 ⟨k.toNat, by omega⟩).1 ⟨(i : Int).toNat, by omega⟩) ≥ x332.1)))
        else some false) : Option Bool) = some false := by
      cases hq : ((gA (gA F0 ⟨k.toNat, by omega⟩).1 ⟨0, by decide⟩) != 0) with
      | false => rfl
      | true =>
        obtain ⟨g1, g2⟩ := hall _ ⟨(i : Int).toNat, by omega⟩ hq
        rw [cond_true, dF (by omega), cond_false, ssize hP hn, Option.bind_some, dF (by show ¬ _ ≥ (n : Int); omega)]
    refine (congrArg (fun o : Option Bool => o.bind _) hb).trans ?_
    rw [Option.bind_some, cond_false, wi_nat (by omega)]
    exact l17_eq hP hn h64 N d f2 k h0 h1 t F w s m f (i + 1) (by omega) (by omega)
theorem l14_eq (hP : P = Tryz.prog) {n : Nat} (hn : n ≤ 256) (h64 : 64 ≤ n) (N d : Nat) (hN : 1000 ≤ N) (F : List Int) (w : Wt) (s : Ar 4 S_snap_Tree) : ∀ (m f : Nat) (k : Nat), k + m = 4 → m + 1 ≤ f →
    G_check_Load_L14 P N (d + 1) f k dd F (secs n).flatten w s F0 = some ((F0, 0, ()), ())
  | 0, f + 1, k, hk, _ => by
    rw [G_check_Load_L14_eq hP, dF (by omega), cond_false]
  | m + 1, f + 1, k, hk, hf => by
    rw [G_check_Load_L14_eq hP, dT (by omega), cond_true, dif_pos (inb_true (by omega) (by omega))]
    have h1 := l17_eq hP hn h64 N d f k (by omega) (by omega) k F w s 16 N 0 (by omega) (by omega)
    refine h1.trans ?_
    rw [wi_nat (by omega)]
    exact l14_eq hP hn h64 N d hN F w s m f (k + 1) (by omega) (by omega)
theorem load_eq (hP : P = Tryz.prog) {n : Nat} (hn : n ≤ 256) (h64 : 64 ≤ n) (N d : Nat) (hN : 1000 ≤ N) (F : List Int) (w : Wt) : G_check_Load P N (d + 14) dd F (secs n).flatten w = some ((F0, 0, ()), ()) := by
  obtain ⟨M, rfl⟩ : ∃ M, N = M + 300 := ⟨N - 300, by omega⟩
  have hu := unpack0 M (d + 1)
  rw [← hP] at hu
  have r : ∀ k : Int, 0 ≤ k → k < 4 → G_disk_Disk_Read P (M + 300) (d + 13) k dd F (secs n).flatten w = some ((secAt n k.toNat, 0, ()), ()) := fun k h0 h1 => sread hP hn h64 _ (d + 11) _ h0 (by omega) _ _ _
  rw [G_check_Load_eq hP, show M + 300 = M + 299 + 1 from rfl]
  rw [show G_check_Load_L3 P (M + 299 + 1) (d + 13) (M + 299 + 1) 0 dd F (secs n).flatten w (nA 4 (nA 16 0, nA 32 0, ())) [] = _ from G_check_Load_L3_eq hP .., dT (by decide), cond_true, show wi .i64 ((1 : Int) + 0) = 1 from rfl, r 1 (by decide) (by decide), Option.bind_some, neF rfl, cond_false, show lenOk _ 1 = true from rfl, cond_true]
  rw [show M + 299 = M + 298 + 1 from rfl, G_check_Load_L3_eq hP, show wi .i64 ((0 : Int) + 1) = 1 from rfl, dT (by decide), cond_true, show wi .i64 ((1 : Int) + 1) = 2 from rfl]
  rw [show M + 298 + 1 + 1 = M + 300 from rfl, r 2 (by decide) (by decide), Option.bind_some, neF rfl, cond_false, show lenOk _ 1 = true from rfl, cond_true]
  rw [show M + 298 = M + 297 + 1 from rfl, G_check_Load_L3_eq hP, dT (by decide), cond_true, show wi .i64 ((1 : Int) + 2) = 3 from rfl]
  rw [r 3 (by decide) (by decide), Option.bind_some, neF rfl, cond_false, show lenOk _ 1 = true from rfl, cond_true]
  rw [show M + 297 = M + 296 + 1 from rfl, G_check_Load_L3_eq hP, show wi .i64 ((2 : Int) + 1) = 3 from rfl, dF (by decide), cond_false]
  rw [show ([] ++ ((secAt n (Int.toNat 1), (0 : Int), ()), ()).fst.fst ++ ((secAt n (Int.toNat 2), (0 : Int), ()), ()).fst.fst ++ ((secAt n (Int.toNat 3), (0 : Int), ()), ()).fst.fst : List Int) = B0 from rfl, show G_snap_Unpack P (M + 300) (d + 13) B0 = _ from hu, Option.bind_some]
  rw [show G_snap_Forest_There P (M + 300) (d + 13) F0 0 = some (true, ()) from there_eq hP _ _ _ _ (by decide) (by decide)]
  exact l14_eq hP hn h64 (M + 300) (d + 12) hN F w _ 4 (M + 300) 0 (by omega) (by omega)
end ks
end Go.Proofs.YtnkdanobhgofbaaGreatDoor.pv
namespace Go.Proofs.YtnkdanobhgofbaaGreatDoor.pv
set_option linter.all false
set_option maxRecDepth 100000
open Go.RowKit
namespace ks
variable {P : Program}
theorem l9_eq (hP : P = Tryz.prog) (N d f2 f : Nat) (b : List Int) (hl : b.length = 64) (x y : S_inode_Node) (h1 : G_inode_Unpack P N d (b.take 32) = some ((x, 0, ()), ())) (h2 : G_inode_Unpack P N d (b.drop 32) = some ((y, 0, ()), ())) (t1 : Ar 16 Int) (t2 : Int) (s : DD) (F G : List Int) (w : Wt) (L : List S_inode_Node) (hL : L.length ≤ 1000) :
    G_check_Tree_L9 P N d f2 (f + 3) b t1 t2 0 s F G w L = G_check_Tree_L3 P N d f2 t1 (wi .i64 (t2 + 1)) s F G w (L ++ [x] ++ [y]) := by
  rw [G_check_Tree_L9_eq hP, dT (by decide), cond_true, hl, show slOk _ _ 64 = true from rfl, cond_true]
  rw [show (List.take (wi .i64 (32 * (wi .i64 ((0 : Int) + 1)))).toNat b).drop (wi .i64 (32 * (0 : Int))).toNat = b.take 32 from rfl, h1, Option.bind_some, neF rfl, cond_false, lenOk_true (by simp; omega) (by omega), cond_true]
  rw [show wi .i64 ((0 : Int) + 1) = 1 from rfl, G_check_Tree_L9_eq hP, dT (by decide), cond_true, hl, show slOk _ _ 64 = true from rfl, cond_true]
  have e : (List.take (wi .i64 (32 * (wi .i64 ((1 : Int) + 1)))).toNat b).drop (wi .i64 (32 * (1 : Int))).toNat = b.drop 32 := by
    show (List.take 64 b).drop 32 = _
    rw [List.take_of_length_le (by omega)]
  rw [e, h2, Option.bind_some, neF rfl, cond_false, lenOk_true (by simp; omega) (by omega), cond_true]
  rw [show wi .i64 ((1 : Int) + 1) = 2 from rfl, G_check_Tree_L9_eq hP, dF (by decide), cond_false]
def treeL (i : Nat) : List S_inode_Node := if i = 0 then [] else node1 :: List.replicate (2 * i - 1) node0
theorem l3_eq (hP : P = Tryz.prog) {n : Nat} (hn : n ≤ 256) (h64 : 64 ≤ n) (N d : Nat) (hN : 1000 ≤ N) (F : List Int) (w : Wt) : ∀ (m f i : Nat), i + m = 16 → m + 1 ≤ f →
    G_check_Tree_L3 P N (d + 12) f nodes0 i dd F (secs n).flatten w (treeL i) = some ((treeL 16, 0, ()), ())
  | 0, f + 1, i, hi, _ => by
    rw [G_check_Tree_L3_eq hP, dF (by omega), cond_false, show i = 16 by omega]
  | m + 1, f + 1, i, hi, hf => by
    obtain ⟨M, rfl⟩ : ∃ M, N = M + 100 := ⟨N - 100, by omega⟩
    have hg : ∀ j : Fin 16, gA nodes0 j = 37 + (j.1 : Int) := by decide
    have hr := unroot M d
    have hz := unzero M d
    rw [← hP] at hr hz
    rw [G_check_Tree_L3_eq hP, dT (by omega), cond_true, dif_pos (inb_true (by omega) (by omega)), hg, sread hP hn h64 _ _ _ (by omega) (by show 37 + ((i : Int).toNat : Int) < n; omega), Option.bind_some, neF rfl, cond_false]
    have hx : ∃ x, secAt n (37 + (((i : Int).toNat : Nat) : Int)).toNat = x ∧ x.length = 64 ∧ G_inode_Unpack P (M + 100) (d + 12) (x.take 32) = some ((if i = 0 then node1 else node0, 0, ()), ()) ∧ G_inode_Unpack P (M + 100) (d + 12) (x.drop 32) = some ((node0, 0, ()), ()) := by
      by_cases h0 : i = 0
      · subst h0; exact ⟨r64, rfl, rfl, hr, hz⟩
      · rw [if_neg h0]
        refine ⟨z64, ?_, rfl, hz, hz⟩
        have e : (37 + (((i : Int).toNat : Nat) : Int)).toNat = 37 + i := by omega
        rw [e]
        unfold secAt
        rw [if_neg (by omega), if_neg (by omega), if_neg (by omega), if_neg (by omega), if_neg (by omega)]
    obtain ⟨x, x1, x2, x3, x4⟩ := hx
    show G_check_Tree_L9 P (M + 100) (d + 12) f (M + 100) (secAt n (37 + (((i : Int).toNat : Nat) : Int)).toNat) nodes0 i 0 dd F (secs n).flatten w (treeL i) = _
    have hl : (treeL i).length ≤ 1000 := by unfold treeL; split <;> simp; omega
    rw [x1, show M + 100 = (M + 97) + 3 from rfl, l9_eq hP _ _ _ _ x x2 _ _ x3 x4 _ _ _ _ _ _ _ hl, wi_nat (by omega)]
    have ht : treeL i ++ [if i = 0 then node1 else node0] ++ [node0] = treeL (i + 1) := by
      unfold treeL
      rw [if_neg (by omega : ¬ i + 1 = 0)]
      by_cases h0 : i = 0
      · subst h0; rfl
      · rw [if_neg h0, if_neg h0, show 2 * (i + 1) - 1 = (2 * i - 1) + 1 + 1 by omega, List.replicate_succ', List.replicate_succ']
        simp
    rw [ht]
    exact l3_eq hP hn h64 (M + 100) d hN F w m f (i + 1) (by omega) (by omega)
theorem tree_eq (hP : P = Tryz.prog) {n : Nat} (hn : n ≤ 256) (h64 : 64 ≤ n) (N d : Nat) (hN : 1000 ≤ N) (F : List Int) (w : Wt) : G_check_Tree P N (d + 13) (gA F0 ⟨0, by decide⟩) dd F (secs n).flatten w = some ((treeL 16, 0, ()), ()) := by
  rw [G_check_Tree_eq hP]
  exact l3_eq hP hn h64 N d hN F w 16 N 0 (by omega) (by omega)
abbrev fs0 : Unit × Unit × Ar 4 S_snap_Tree × List S_quota_Row × List S_inode_Node × Unit × Unit × Unit := ((), (), F0, [], treeL 16, (), (), ())
theorem mount_eq (hP : P = Tryz.prog) {n : Nat} (hn : n ≤ 256) (h64 : 64 ≤ n) (N d : Nat) (hN : 1000 ≤ N) (F : List Int) (w : Wt) : G_fs_Mount P N (d + 20) dd F (secs n).flatten w = some (((), 0, ()), dd, (secs n).flatten, w, fs0, lg0, [], [], ()) := by
  obtain ⟨M, rfl⟩ : ∃ M, N = M + 100 := ⟨N - 100, by omega⟩
  have hq := unquota M (d + 7)
  have hl := lost0 M (d + 7)
  rw [← hP] at hq hl
  have hs := ssize hP hn (M + 100) (d + 18) dd F w
  rw [G_fs_Mount_eq hP, sread hP hn h64 _ _ _ (by omega) (by omega), Option.bind_some, neF rfl, cond_false, hs, Option.bind_some, dF (by show ¬ (n : Int) < 64; omega), cond_false, Option.bind_some, mark_eq hP, Option.bind_some]
  rw [show G_slices_Equal P (M + 100) (d + 19) (secAt n (Int.toNat 0)) (mark n) = some (true, ()) from equal_self hP _ _ (mark n) (by show 64 < M + 100; omega) (by show 64 ≤ _; omega), Option.bind_some, Option.bind_some, Bool.not_true, cond_false]
  rw [show G_journal_Open P (M + 100) (d + 19) 5 32 dd F (secs n).flatten w = _ from jopen_eq hP hn h64 (M + 100) (d + 14) F w, Option.bind_some]
  show G_fs_Mount_J5_1 P (M + 100) (d + 19) 0 dd F (secs n).flatten w lg0 = _
  rw [G_fs_Mount_J5_1_eq hP, neF rfl, cond_false]
  rw [show G_check_Load P (M + 100) (d + 19) dd F (secs n).flatten w = _ from load_eq hP hn h64 (M + 100) (d + 5) hN F w, Option.bind_some, neF rfl, cond_false]
  rw [show G_check_Tree P (M + 100) (d + 19) (gA F0 ⟨0, by decide⟩) dd F (secs n).flatten w = _ from tree_eq hP hn h64 (M + 100) (d + 6) hN F w, Option.bind_some, neF rfl, cond_false]
  rw [sread hP hn h64 _ _ _ (by omega) (by omega), Option.bind_some]
  rw [show G_quota_Unpack P (M + 100) (d + 19) (secAt n (Int.toNat 4)) = _ from hq, Option.bind_some, neF rfl, cond_false]
  rw [show G_orphan_Lost P (M + 100) (d + 19) (treeL 16) [] = _ from hl, Option.bind_some]
  rw [show M + 100 = M + 99 + 1 from rfl]
  show G_fs_Mount_L19_1 P (M + 99 + 1) (d + 19) (M + 99 + 1) [] 0 0 dd F (secs n).flatten w fs0 lg0 [] [] = _
  rw [G_fs_Mount_L19_1_eq hP, dF (by decide), cond_false]
end ks
end Go.Proofs.YtnkdanobhgofbaaGreatDoor.pv
