/- Contracts of package frame's functions: with; the reference's FrameWith. -/
import Derived.Test.YtccmjndnjpjohaaRFr4
namespace Go.Proofs.YtccmjndnjpjohaaR.fr
open Go.ChangeShapes Go.WideShapes Go.ChangeAt Go.RowKit help rep
set_option linter.all false

/-- a slice and an error -/
def SlE (e : Sh) (xs : List e.T) (er : Int) (w : World) (en : Ending) (w' : World) : Prop :=
  ∃ v, en = .returned (.tuple #[v, .int .i64 er]) ∧ Sl w' e xs v ∧ Below w.heap.size w w'
/-- a slice -/
def SlR (e : Sh) (xs : List e.T) (w : World) (en : Ending) (w' : World) : Prop := ∃ v, en = .returned v ∧ Sl w' e xs v ∧ Below w.heap.size w w'
set_option maxHeartbeats 1000000 in
theorem with_any (xs : List F) (v : Value) (n : Nat) (a b c : Int) (w : World) (hS : Sl w S3 xs v) (hw : ∀ x ∈ xs, S3.wf x) (hb : xs.length ≤ 64) (hn : n < xs.length) (hwf : S3.wf (mkF a b c)) :
    Calls Try.prog 108 #[v, .int .i64 n, .agg #[.int .i64 a, .int .i64 b, .int .i64 c]] w (SlR S3 (xs.set n (mkF a b c)) w) := by
  have HS := Lib.hid hS
  have HW := Lib.hid hw
  clear hS hw
  go_enter Try.func108, Try.ntmps108
  go_wp2_with fail
  refine (clone_any xs v _ (HS.out.later (by repeat' (first | (with_reducible exact Below.refl _ _) | (with_reducible assumption) | (with_reducible apply Below.drew) | (with_reducible apply bel_drewN) | (with_reducible refine bel_alloc ?_ _) | (with_reducible refine Below.setCell ?_ ?_ _) | (with_reducible refine Below.alloc ?_ ?_ _) | omega | (simp; done) | (simp; omega) | (simp at *; omega)))) HW.out (by omega)).mono ?_
  rintro e w1 ⟨v1, rfl, hown, hb1⟩
  have kA := Blk.later hb1 (Blk.new w _ _)
  have cA := kA.cells
  have hB1 : Below w.heap.size w w1 := Below.trans (by repeat' (first | (with_reducible exact Below.refl _ _) | (with_reducible assumption) | (with_reducible apply Below.drew) | (with_reducible apply bel_drewN) | (with_reducible refine bel_alloc ?_ _) | (with_reducible refine Below.setCell ?_ ?_ _) | (with_reducible refine Below.alloc ?_ ?_ _) | omega | (simp; done) | (simp; omega) | (simp at *; omega))) (hb1.mono (by first | omega | (simp; done) | (simp; omega) | (simp at *; omega)))
  obtain ⟨g, cap, cur, hv, hg, kG, hl, hm, hsz, hcur⟩ := owns_open hown (by omega)
  have hc := Lib.hid hcur
  replace hsz : cur.size = cap * 3 := hsz
  have hz : n * 3 + 2 < cur.size := by rw [hsz]; omega
  obtain ⟨u0, q0⟩ : ∃ u, w1.cell? ⟨g, n * 3, none⟩ = some u := ⟨cur[n * 3], by rw [kG.cells]; exact Array.getElem?_eq_getElem _⟩
  obtain ⟨u1, q1⟩ : ∃ u, w1.cell? ⟨g, n * 3 + 1, none⟩ = some u := ⟨cur[n * 3 + 1], by rw [kG.cells]; exact Array.getElem?_eq_getElem _⟩
  obtain ⟨u2, q2⟩ : ∃ u, w1.cell? ⟨g, n * 3 + 2, none⟩ = some u := ⟨cur[n * 3 + 2], by rw [kG.cells]; exact Array.getElem?_eq_getElem _⟩
  have fG := kG.frz
  have hlt : (n : Int) < xs.length := by omega
  have HO := Lib.hid hown
  have HZ := Lib.hid hsz
  have HV := Lib.hid hv
  rw [hv]
  clear hown hsz hv hcur
  go_wp2_with fail
  go_ret
  refine ⟨_, rfl, ?_, (by repeat' (first | (with_reducible exact Below.refl _ _) | (with_reducible assumption) | (with_reducible apply Below.drew) | (with_reducible apply bel_drewN) | (with_reducible refine bel_alloc ?_ _) | (with_reducible refine Below.setCell ?_ ?_ _) | (with_reducible refine Below.alloc ?_ ?_ _) | omega | (simp; done) | (simp; omega) | (simp at *; omega)))⟩
  have kG' := ((kG.set (n * 3) (.int .i64 a)).set (n * 3 + 1) (.int .i64 b)).set (n * 3 + 2) (.int .i64 c)
  have h1 := sl_of_blk (e := S3) (xs := xs.set n (mkF a b c)) (cap := cap) kG' (by simpa using hl) hm (fun j u hu => by
    rw [flat_set S3 rfl xs HW.out n (mkF a b c) hwf hn j] at hu
    simp only [Array.getElem?_setIfInBounds, Array.size_setIfInBounds]
    have e3 : S3.size = 3 := rfl
    rw [e3, encF] at hu
    by_cases h0 : n * 3 ≤ j ∧ j < n * 3 + 3
    · rw [if_pos h0] at hu
      have hd : j = n * 3 ∨ j = n * 3 + 1 ∨ j = n * 3 + 2 := by omega
      rcases hd with rfl | rfl | rfl
      · have e : n * 3 - n * 3 = 0 := by omega
        rw [e] at hu
        rw [if_neg (by omega), if_neg (by omega), if_pos rfl, if_pos (by omega)]
        exact hu
      · have e : n * 3 + 1 - n * 3 = 1 := by omega
        rw [e] at hu
        rw [if_neg (by omega), if_pos rfl, if_pos (by omega)]
        exact hu
      · have e : n * 3 + 2 - n * 3 = 2 := by omega
        rw [e] at hu
        rw [if_pos rfl, if_pos (by omega)]
        exact hu
    · rw [if_neg h0] at hu
      rw [if_neg (by omega), if_neg (by omega), if_neg (by omega)]
      have hj : j < xs.length * 3 := by
        have := (List.getElem?_eq_some_iff.1 hu).1
        rw [flatMap_length S3.enc 3 xs (fun x hx => enc_length S3 x rfl (HW.out x hx))] at this
        exact this
      rw [hc.out j hj]
      exact hu)
  rw [List.length_set] at h1
  exact h1
set_option maxHeartbeats 1000000 in
theorem fwith_some (xs : List F) (b0 off cap : Nat) (n : Nat) (m : Nat) (a b c : Int) (w : World) (hS : Sl w S3 xs (.slice (some ⟨b0, off, none⟩) m cap)) (hw : ∀ x ∈ xs, S3.wf x) (hb : m ≤ 64) (hm : xs.length = m) (hn : n < m) (hwf : S3.wf (mkF a b c)) :
    Calls Try.prog 50 #[.slice (some ⟨b0, off, none⟩) m cap, .int .i64 n, .agg #[.int .i64 a, .int .i64 b, .int .i64 c]] w (SlR S3 (xs.set n (mkF a b c)) w) := by
  obtain ⟨i0, hi, hz0, hz1, hz2⟩ := info_parts inf
  have HS := Lib.hid hS
  have HW := Lib.hid hw
  have HM := Lib.hid hm
  clear hS hw hm
  go_enter Try.func50, Try.ntmps50
  go_wp2_with fail
  have hne : ∀ x ∈ xs.set n (mkF a b c), S3.wf x := fun x hx => by
    rcases List.mem_or_eq_of_mem_set hx with h | h
    · exact HW.out x h
    · subst h; exact hwf
  have HE := Lib.hid hne
  have HF := Lib.hid hwf
  clear hne hwf
  go_loopw [7, 12] (fun v i wr => ∃ k : Nat, k ≤ m ∧ i = .int .i64 k ∧ wr.ownsRow (w.heap.size + 1) 91 3 v k (((xs.set n (mkF a b c)).take k).flatMap S3.enc) ∧ Blk wr w.heap.size #[.int .i64 a, .int .i64 b, .int .i64 c] ∧ Below w.heap.size w wr ∧ w.heap.size + 1 ≤ wr.heap.size) (fun _ i _ => m - (intOf i).toNat)
  case atStart => exact ⟨0, by omega, rfl, ⟨rfl, .inl ⟨rfl, rfl⟩⟩, Blk.new _ _ _, (by repeat' (first | (with_reducible exact Below.refl _ _) | (with_reducible assumption) | (with_reducible apply Below.drew) | (with_reducible apply bel_drewN) | (with_reducible refine bel_alloc ?_ _) | (with_reducible refine Below.setCell ?_ ?_ _) | (with_reducible refine Below.alloc ?_ ?_ _) | omega | (simp; done) | (simp; omega) | (simp at *; omega))), by simp⟩
  case round =>
    obtain ⟨k, hk, rfl, hown, kA, hB, hsz⟩ := hrel
    have cA := kA.cells
    have HO := Lib.hid hown
    clear hown
    by_cases hlt : k < m
    · have hl : k < xs.length := by rw [HM.out]; exact hlt
      obtain ⟨c0, c1, c2⟩ := three HS.out HW.out k hl
      have d0 := cell_later hB c0
      have d1 := cell_later hB c1
      have d2 := cell_later hB c2
      clear c0 c1 c2
      have ha1 := alloc_some; have ha2 := alloc_some2; have ha3 := alloc_some3; have ha4 := alloc_some4; have ha5 := alloc_some5; have hq1 := alloc_frz; have hq2 := alloc_frz2; have hq3 := alloc_frz3
      by_cases hkn : k = n
      · have q : ((k : Int) == (n : Int)) = true := by simp; omega
        have HK := Lib.hid hkn
        clear hkn
        have HX := Lib.hid (show (xs.set n (mkF a b c))[k]'(by simpa using hl) = mkF a b c from by have e := HK.out; subst e; exact List.getElem_set_self _)
        generalize xs[k] = f at *
        go_wp2_with (at_builtin; refine wpList_append_own _ rfl (.tmp 21) (.tmp 23) 81 rfl (w.heap.size + 1) 91 i0 (.agg #[.int .i64 0, .int .i64 0, .int .i64 0]) 3 24 Try.underlying81 hi hz0 hz1 hz2 rfl (by decide) _ k _ rfl ((HO.out.alloc _).alloc _) ⟨wr.heap.size + 1, 0, none⟩ 1 1 [.int .i64 a, .int .i64 b, .int .i64 c] rfl rfl ?e1 ?e2 ?e3 ?e4 ?e5 ?_)
        case e2 => exact ⟨rfl, rfl, rfl⟩
        case e3 => unfold maxLen; omega
        case e4 => omega
        case e5 => first | omega | (simp; omega)
        intro v' w1 hown' hgrow _
        have hb2 := grown_below ((HO.out.alloc _).alloc _) hgrow (by simp; omega)
        have kA' := blk_below hb2 (by omega) ((kA.alloc _).alloc _)
        have hB' : Below w.heap.size w w1 := Below.trans (by repeat' (first | (with_reducible exact Below.refl _ _) | (with_reducible assumption) | (with_reducible apply Below.drew) | (with_reducible apply bel_drewN) | (with_reducible refine bel_alloc ?_ _) | (with_reducible refine Below.setCell ?_ ?_ _) | (with_reducible refine Below.alloc ?_ ?_ _) | omega | (simp; done) | (simp; omega) | (simp at *; omega))) (hb2.mono (by omega))
        have hs' : w.heap.size + 1 ≤ w1.heap.size := by have := hb2.size; simp at this; omega
        have HO' := Lib.hid hown'
        clear hown' hgrow
        go_wp2
        go_roundw
        case rel =>
          refine ⟨k + 1, by omega, by go_num, ?_, kA', hB', hs'⟩
          rw [List.take_succ_eq_append_getElem (by simpa using hl), HX.out, List.flatMap_append]
          exact HO'.out
        case measure => try (first | (simp [intOf]; done) | (simp [intOf]; omega) | decide)
      · have q : ((k : Int) == (n : Int)) = false := by simp; omega
        have HK := Lib.hid hkn
        clear hkn
        have hx : (xs.set n (mkF a b c))[k]'(by simpa using hl) = xs[k] := List.getElem_set_ne (fun h => HK.out h.symm) _
        have HX := Lib.hid hx
        clear hx
        generalize hf : xs[k] = f at *
        have HFF := Lib.hid hf
        clear hf
        go_wp2_with (at_builtin; refine wpList_append_own _ rfl (.tmp 21) (.tmp 23) 81 rfl (w.heap.size + 1) 91 i0 (.agg #[.int .i64 0, .int .i64 0, .int .i64 0]) 3 24 Try.underlying81 hi hz0 hz1 hz2 rfl (by decide) _ k _ rfl ((HO.out.alloc _).alloc _) ⟨wr.heap.size + 1, 0, none⟩ 1 1 [.int .i64 (st f), .int .i64 (ow f), .int .i64 (ct f)] rfl rfl ?c1 ?c2 ?c3 ?c4 ?c5 ?_)
        case c2 => exact ⟨rfl, rfl, rfl⟩
        case c3 => unfold maxLen; omega
        case c4 => omega
        case c5 => first | omega | (simp; omega)
        intro v' w1 hown' hgrow _
        have hb2 := grown_below ((HO.out.alloc _).alloc _) hgrow (by simp; omega)
        have kA' := blk_below hb2 (by omega) ((kA.alloc _).alloc _)
        have hB' : Below w.heap.size w w1 := Below.trans (by repeat' (first | (with_reducible exact Below.refl _ _) | (with_reducible assumption) | (with_reducible apply Below.drew) | (with_reducible apply bel_drewN) | (with_reducible refine bel_alloc ?_ _) | (with_reducible refine Below.setCell ?_ ?_ _) | (with_reducible refine Below.alloc ?_ ?_ _) | omega | (simp; done) | (simp; omega) | (simp at *; omega))) (hb2.mono (by omega))
        have hs' : w.heap.size + 1 ≤ w1.heap.size := by have := hb2.size; simp at this; omega
        have HO' := Lib.hid hown'
        clear hown' hgrow
        go_wp2
        go_roundw
        case rel =>
          refine ⟨k + 1, by omega, by go_num, ?_, kA', hB', hs'⟩
          rw [List.take_succ_eq_append_getElem (by simpa using hl), HX.out, List.flatMap_append]
          exact HO'.out
        case measure => try (first | (simp [intOf]; done) | (simp [intOf]; omega) | decide)
    · go_wp2
      go_ret
      have hkm : k = m := by omega
      subst hkm
      have h1 := HO.out
      rw [List.take_of_length_le (by simp [HM.out])] at h1
      refine ⟨_, rfl, sl_of_owns (e := S3) rfl (base := w.heap.size + 1) (ty := 91) ?_, hB⟩
      rw [List.length_set, HM.out]
      exact h1
theorem fwith_any (xs : List F) (v : Value) (n : Nat) (a b c : Int) (w : World) (hS : Sl w S3 xs v) (hw : ∀ x ∈ xs, S3.wf x) (hb : xs.length ≤ 64) (hn : n < xs.length) (hwf : S3.wf (mkF a b c)) :
    Calls Try.prog 50 #[v, .int .i64 n, .agg #[.int .i64 a, .int .i64 b, .int .i64 c]] w (SlR S3 (xs.set n (mkF a b c)) w) := by
  have g := hS
  obtain ⟨a0, cap, rfl, hm⟩ := hS.len
  rcases hS with ⟨hv, rfl⟩ | ⟨b', off, c', sp, hv, _, _, h3, _⟩
  · simp at hn
  simp at hv
  obtain ⟨rfl, rfl⟩ := hv
  obtain ⟨rfl, _⟩ := h3 (by omega)
  exact fwith_some xs b' off cap n xs.length a b c w g hw hb rfl hn hwf
end Go.Proofs.YtccmjndnjpjohaaR.fr
