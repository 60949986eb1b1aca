/- Contracts of package frame's functions: Those. -/
import Derived.Test.YtccmjndnjpjohaaRFr7
import Derived.Test.YtccmjndnjpjohaaRInts
namespace Go.Proofs.YtccmjndnjpjohaaR.fr
open Go.ChangeShapes Go.WideShapes Go.ChangeAt Go.RowKit help rep ints
set_option linter.all false

/-- the numbers below k of the frames in state s -/
def those (xs : List F) (s : Int) (k : Nat) : List Int := ((List.range k).filter fun i => st (xs.getD i (mkF 0 0 0)) == s).map fun (i : Nat) => (i : Int)
theorem those_yes (xs : List F) (s : Int) (k : Nat) (hk : k < xs.length) (h : st xs[k] = s) : those xs s (k + 1) = those xs s k ++ [(k : Int)] := by
  unfold those
  rw [List.range_succ, List.filter_append, List.map_append]
  have : (List.filter (fun i => st (xs.getD i (mkF 0 0 0)) == s) [k]) = [k] := by simp [List.getD_eq_getElem?_getD, hk, h]
  rw [this]; rfl
theorem those_no (xs : List F) (s : Int) (k : Nat) (hk : k < xs.length) (h : st xs[k] ≠ s) : those xs s (k + 1) = those xs s k := by
  unfold those
  rw [List.range_succ, List.filter_append, List.map_append]
  have : (List.filter (fun i => st (xs.getD i (mkF 0 0 0)) == s) [k]) = [] := by simp [List.getD_eq_getElem?_getD, hk, h]
  rw [this]; simp
theorem those_len (xs : List F) (s : Int) (k : Nat) : (those xs s k).length ≤ k := by
  unfold those
  rw [List.length_map]
  have := List.length_filter_le (fun i => st (xs.getD i (mkF 0 0 0)) == s) (List.range k)
  simpa using this
theorem those_bad (xs : List F) (v : Value) (s : Int) (w : World) (hS : Sl w S3 xs v) (hw : ∀ x ∈ xs, S3.wf x) (h : (chk xs != 0) = true) :
    Calls Try.prog 45 #[v, .int .i64 s] w (SlE SI [] (chk xs) w) := by
  have HS := Lib.hid hS
  have HW := Lib.hid hw
  clear hS hw
  go_enter Try.func45, Try.ntmps45
  go_wp2_with fail
  refine (check_any xs _ _ HS.out HW.out).mono ?_
  rintro e w1 ⟨rfl, hb1⟩
  have hB1 : Below w.heap.size w w1 := Below.trans (by repeat' (first | (with_reducible exact Below.refl _ _) | (with_reducible assumption) | (with_reducible apply Below.drew) | (with_reducible apply bel_drewN) | (with_reducible refine bel_alloc ?_ _) | (with_reducible refine Below.setCell ?_ ?_ _) | (with_reducible refine Below.alloc ?_ ?_ _) | omega | (simp; done) | (simp; omega) | (simp at *; omega))) (hb1.mono (by first | omega | (simp; done) | (simp; omega) | (simp at *; omega)))
  have z1 := hb1.size; (try simp only [World.size_alloc, World.size_setCell] at z1); clear hb1
  go_wp2_with fail
  go_ret2
  exact ⟨_, rfl, Sl.nil _ _, hB1⟩
theorem check_zero {xs : List F} {v : Value} (h : chk xs = 0) (w : World) (hS : Sl w S3 xs v) (hw : ∀ x ∈ xs, S3.wf x) : Calls Try.prog 47 #[v] w (Ret (.int .i64 0) w) := by
  have := check_any xs v w hS hw
  rw [h] at this
  exact this
set_option maxHeartbeats 1000000 in
theorem those_some (xs : List F) (b off cap n : Nat) (s : Int) (w : World) (hS : Sl w S3 xs (.slice (some ⟨b, off, none⟩) n cap)) (hw : ∀ x ∈ xs, S3.wf x) (h : chk xs = 0) (hn : xs.length = n) (hb : n ≤ 64) :
    Calls Try.prog 45 #[.slice (some ⟨b, off, none⟩) n cap, .int .i64 s] w (SlE SI (those xs s n) 0 w) := by
  obtain ⟨i0, hi, hz0, hz1, hz2⟩ := info_parts infI
  have HS := Lib.hid hS
  have HW := Lib.hid hw
  have HA := Lib.hid h
  have HN := Lib.hid hn
  clear hS hw h hn
  go_enter Try.func45, Try.ntmps45
  go_wp2_with fail
  refine (check_zero HA.out _ HS.out HW.out).mono ?_
  rintro e w1 ⟨rfl, hb1⟩
  go_wp2_with fail
  go_loopw [7, 17] (fun v i wr => ∃ k : Nat, k ≤ n ∧ i = .int .i64 k ∧ wr.ownsRow w.heap.size 3 1 v (those xs s k).length ((those xs s k).map (Value.int .i64)) ∧ Below w.heap.size w wr) (fun _ i _ => n - (intOf i).toNat)
  case atStart => exact ⟨0, by omega, rfl, ⟨rfl, .inl ⟨rfl, rfl⟩⟩, hb1⟩
  case round =>
    obtain ⟨k, hk, rfl, hown, hB⟩ := hrel
    have HO := Lib.hid hown
    clear hown
    by_cases hlt : k < n
    · have hl : k < xs.length := by rw [HN.out]; exact hlt
      obtain ⟨c0, c1, c2⟩ := three HS.out HW.out k hl
      have d0 := cell_later hB c0
      have d1 := cell_later hB c1
      have d2 := cell_later hB c2
      clear c0 c1 c2
      have hle := those_len xs s k
      have hsz := hB.size
      by_cases hq : st xs[k] = s
      · have HT := Lib.hid (those_yes xs s k hl hq)
        have q : (st xs[k] == s) = true := by simpa using hq
        clear hq
        generalize xs[k] = f at *
        go_wp2_with (at_builtin; refine wpList_append_own _ rfl (.tmp 26) (.tmp 28) 42 rfl w.heap.size 3 i0 (.int .i64 0) 1 8 Try.underlying42 hi hz0 hz1 hz2 rfl (by decide) _ (those xs s k).length _ rfl ((HO.out.alloc _).alloc _) ⟨wr.heap.size + 1, 0, none⟩ 1 1 [.int .i64 k] rfl rfl ?c1 ?c2 ?c3 ?c4 ?c5 ?_)
        case c2 => rfl
        case c3 => unfold maxLen; omega
        case c4 => omega
        case c5 => omega
        intro v' w2 hown' hgrow _
        have hb2 := grown_below ((HO.out.alloc _).alloc _) hgrow (by simp; omega)
        have hB' : Below w.heap.size w w2 := Below.trans (by repeat' (first | (with_reducible exact Below.refl _ _) | (with_reducible assumption) | (with_reducible apply Below.drew) | (with_reducible apply bel_drewN) | (with_reducible refine bel_alloc ?_ _) | (with_reducible refine Below.setCell ?_ ?_ _) | (with_reducible refine Below.alloc ?_ ?_ _) | omega | (simp; done) | (simp; omega) | (simp at *; omega))) hb2
        have HO' := Lib.hid hown'
        clear hown' hgrow
        go_wp2
        go_roundw
        case rel =>
          refine ⟨k + 1, by omega, by go_num, ?_, hB'⟩
          rw [HT.out, List.length_append, List.map_append]
          exact HO'.out
        case measure => try (first | (simp [intOf]; done) | (simp [intOf]; omega) | decide)
      · have HT := Lib.hid (those_no xs s k hl hq)
        have q : (st xs[k] == s) = false := by simpa using hq
        clear hq
        generalize xs[k] = f at *
        go_wp2_with fail
        go_roundw
        case rel => exact ⟨k + 1, by omega, by go_num, by rw [HT.out]; exact HO.out.alloc _, (by repeat' (first | (with_reducible exact Below.refl _ _) | (with_reducible assumption) | (with_reducible apply Below.drew) | (with_reducible apply bel_drewN) | (with_reducible refine bel_alloc ?_ _) | (with_reducible refine Below.setCell ?_ ?_ _) | (with_reducible refine Below.alloc ?_ ?_ _) | omega | (simp; done) | (simp; omega) | (simp at *; omega)))⟩
        case measure => try (first | (simp [intOf]; done) | (simp [intOf]; omega) | decide)
    · go_wp2_with fail
      go_ret2
      have hkm : k = n := by omega
      subst hkm
      exact ⟨_, rfl, sl_of_owns (e := SI) (xs := those xs s k) (encI _).symm HO.out, hB⟩
theorem those_empty (a : Option Addr) (cap : Nat) (s : Int) (w : World) (hS : Sl w S3 [] (.slice a 0 cap)) :
    Calls Try.prog 45 #[.slice a 0 cap, .int .i64 s] w (SlE SI [] 0 w) := by
  have HS := Lib.hid hS
  clear hS
  go_enter Try.func45, Try.ntmps45
  go_wp2_with fail
  refine (check_zero (xs := []) rfl _ HS.out (by simp)).mono ?_
  rintro e w1 ⟨rfl, hb1⟩
  go_wp2_with fail
  refine wp_loop_rounds 1 ?_
  rw [rounds_succ]
  go_wp2_with fail
  go_ret2
  exact ⟨_, rfl, Sl.nil _ _, hb1⟩
theorem those_good (xs : List F) (v : Value) (s : Int) (w : World) (hS : Sl w S3 xs v) (hw : ∀ x ∈ xs, S3.wf x) (h : chk xs = 0) :
    Calls Try.prog 45 #[v, .int .i64 s] w (SlE SI (those xs s xs.length) 0 w) := by
  by_cases h0 : 0 < xs.length
  · obtain ⟨b, off, cap, rfl, hm⟩ := sl_open hS h0
    exact those_some xs b off cap _ s w hS hw h rfl (chk_len h)
  · have e1 : xs = [] := List.length_eq_zero_iff.1 (by omega)
    subst e1
    obtain ⟨a, cap, rfl, hm⟩ := hS.len
    exact those_empty a cap s w hS
end Go.Proofs.YtccmjndnjpjohaaR.fr
