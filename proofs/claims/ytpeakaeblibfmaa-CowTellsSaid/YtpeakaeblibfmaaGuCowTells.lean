/- What the functions compute (part 3): written by gen.py. -/
import Derived.Test.YtpeakaeblibfmaaGuCowTellsP2
set_option maxRecDepth 100000
set_option linter.all false
namespace Go.Proofs.Ytpeakaeblibfmaa.pv
open Go.RowKit
theorem G_ringlaw2_CowTells_ok (n : Nat) (v_r1 : S_cow_Room) (v_s2 : Int) (v_k3 : Int) (v_b4 : Int) (r : Bool) (h : G_ringlaw2_CowTells n v_r1 v_s2 v_k3 v_b4 = some r) : Ret Try.prog 3 [eS_cow_Room v_r1, (eI .i64) v_s2, (eI .i64) v_k3, (eI .u8) v_b4] (eB r) := by
  refine ret_run (n := 334) (fn := Try.f3) (c := bodyOf Try.f3) (by kernel_rfl) (by kernel_rfl) (by kernel_rfl) (by kernel_rfl) ?_
  have hF : KC 334 (FinR Try.prog Try.f3 (eB r)) := FinR.kc' (by kernel_rfl)
  unfold G_ringlaw2_CowTells at h
  obtain ⟨v_r3564, h982, h⟩ := bind_some h
  obtain ⟨v_r3571, h983, h⟩ := bind_some h
  obtain ⟨v_r3582, h984, h⟩ := bind_some h
  obtain ⟨v_r3597, h985, h⟩ := bind_some h
  obtain ⟨v_r3618, h986, h⟩ := bind_some h
  obtain ⟨v_r3671, h987, h⟩ := bind_some h
  obtain ⟨v_r3714, h988, h⟩ := bind_some h
  by_cases h989 : v_r3714 = v_r3671
  · rw [if_pos h989] at h
    obtain ⟨v_o3792, h994, h⟩ := bind_some h
    refine pkk_sound TTok mix hF 23 (hs := [.c, .r (.tup [(eL (eI .u8)) v_r3564.1, (eI .i64) v_r3564.2]), .c, .r (.tup [eS_cow_Room v_r3571.1, (eI .i64) v_r3571.2]), .c, .c, .r (.tup [eS_cow_Room v_r3582.1, (eI .i64) v_r3582.2]), .c, .c, .r (.tup [eS_cow_Room v_r3597.1, eB v_r3597.2.1, (eI .i64) v_r3597.2.2]), .c, .c, .r (.tup [eS_cow_Room v_r3618.1, (eI .i64) v_r3618.2.1, (eI .i64) v_r3618.2.2]), .c, .c, .c, .r ((eI .i64) v_r3671), .c, .r ((eI .i64) v_r3714), .t false]) (ts := []) (s := [0, 80, 130, 190, 245, 270]) (l := [1, 2, 3, 4, 9, 10, 11, 12, 13, 14, 15, 16, 17, 18, 19, 20, 21, 22]) (by kernel_rfl) (by kernel_rfl) (.cons (G_cow_See_ok n v_r1 v_s2 _ h982) (.cons (G_cow_Fork_ok n v_r1 v_s2 _ h983) (.cons (show 0 + 2 ≤ 2 by decide) (.cons (G_cow_More_ok n v_r1 v_s2 v_b4 _ h984) (.cons (show 0 + 2 ≤ 2 by decide) (.cons (G_cow_Write_ok n v_r1 v_s2 v_k3 v_b4 _ h985) (.cons (show 0 + 2 ≤ 2 by decide) (.cons (G_cow_Drop_ok n v_r1 v_s2 _ h986) (.cons (show 0 + 2 ≤ 2 by decide) (.cons (show 0 + 2 ≤ 2 by decide) (.cons (G_ringref2_Rooms_ok n v_r1 _ h987) (.cons (G_cow_Check_ok n v_r1 _ h988) (.cons (nf h989) .nil))))))))))))) (G_ringlaw2_CowTells_C1_ok hF (.s (cR (cL (cR (cR (cR (cR (cR (cR (cR (cR (cR (bodyOf Try.f3)))))))))))) :: .s (cR (cR (cR (cR (cR (cR (cR (cR (cR (cR (bodyOf Try.f3))))))))))) :: []) n v_s2 v_k3 v_b4 v_r3564 v_r3571 v_r3582 v_r3597 v_r3618 v_r3671 v_r1 _ h994 ?_)
    cases v_o3792 with
    | x0 v_z3793 =>
      try dsimp only at h
      by_cases h995 : v_z3793 = true
      · rw [if_pos h995] at h
        exact pkk_sound TTok mix hF 2 (hs := [.t true]) (ts := []) (s := [0, 1, 2, 3, 4, 5]) (l := [1, 2, 3, 4, 9, 10, 11, 12, 13, 14, 15, 16, 17, 18, 19, 20, 21, 22]) (by kernel_rfl) (by kernel_rfl) (.cons h995 .nil) (G_ringlaw2_CowTells_J5_ok n v_s2 v_k3 v_b4 v_r1 v_r3571.1 v_r3582.1 v_r3597.1 v_r3618.1 v_r3564.1 v_r3564.2 v_r3571.2 v_r3582.2 v_r3597.2.1 v_r3597.2.2 v_r3618.2.1 v_r3618.2.2 4 _ h)
      · rw [if_neg h995] at h
        exact pkk_sound TTok mix hF 2 (hs := [.t false]) (ts := []) (s := [0, 1, 2, 3, 4, 5]) (l := [1, 2, 3, 4, 9, 10, 11, 12, 13, 14, 15, 16, 17, 18, 19, 20, 21, 22]) (by kernel_rfl) (by kernel_rfl) (.cons (vf h995) .nil) (G_ringlaw2_CowTells_J5_ok n v_s2 v_k3 v_b4 v_r1 v_r3571.1 v_r3582.1 v_r3597.1 v_r3618.1 v_r3564.1 v_r3564.2 v_r3571.2 v_r3582.2 v_r3597.2.1 v_r3597.2.2 v_r3618.2.1 v_r3618.2.2 v_r3671 _ h)
  · rw [if_neg h989] at h
    obtain rfl := Option.some.inj h
    exact pend_sound TTok mix 24 (hs := [.c, .r (.tup [(eL (eI .u8)) v_r3564.1, (eI .i64) v_r3564.2]), .c, .r (.tup [eS_cow_Room v_r3571.1, (eI .i64) v_r3571.2]), .c, .c, .r (.tup [eS_cow_Room v_r3582.1, (eI .i64) v_r3582.2]), .c, .c, .r (.tup [eS_cow_Room v_r3597.1, eB v_r3597.2.1, (eI .i64) v_r3597.2.2]), .c, .c, .r (.tup [eS_cow_Room v_r3618.1, (eI .i64) v_r3618.2.1, (eI .i64) v_r3618.2.2]), .c, .c, .c, .r ((eI .i64) v_r3671), .c, .r ((eI .i64) v_r3714), .t true]) (by kernel_rfl) (by kernel_rfl) (by kernel_rfl) (.cons (G_cow_See_ok n v_r1 v_s2 _ h982) (.cons (G_cow_Fork_ok n v_r1 v_s2 _ h983) (.cons (show 0 + 2 ≤ 2 by decide) (.cons (G_cow_More_ok n v_r1 v_s2 v_b4 _ h984) (.cons (show 0 + 2 ≤ 2 by decide) (.cons (G_cow_Write_ok n v_r1 v_s2 v_k3 v_b4 _ h985) (.cons (show 0 + 2 ≤ 2 by decide) (.cons (G_cow_Drop_ok n v_r1 v_s2 _ h986) (.cons (show 0 + 2 ≤ 2 by decide) (.cons (show 0 + 2 ≤ 2 by decide) (.cons (G_ringref2_Rooms_ok n v_r1 _ h987) (.cons (G_cow_Check_ok n v_r1 _ h988) (.cons (nt h989) .nil)))))))))))))
def okS_cow_Room (x : S_cow_Room) : Prop := (okL 1 (fun a => (Lit.int .u8 a).wf = true)) x.fCells ∧ (okL 24 (okL 8 (fun a => (Lit.int .i64 a).wf = true))) x.fSpaces ∧ True
theorem brS_cow_Room : Br (.pair (.slice 1 (.int .u8)) (.pair (.slice 24 (.slice 8 (.int .i64))) .unit)) (fun x : S_cow_Room => [.sl (x.fCells.map (eI .u8)), .sl (x.fSpaces.map (eL (eI .i64)))]) okS_cow_Room := br_map (br_pair (br_slice (f := (eI .u8)) (ok := (fun a => (Lit.int .u8 a).wf = true)) (br_int .u8) (fun _ => rfl) (by decide)) (br_pair (br_slice (f := (eL (eI .i64))) (ok := (okL 8 (fun a => (Lit.int .i64 a).wf = true))) (br_slice (f := (eI .i64)) (ok := (fun a => (Lit.int .i64 a).wf = true)) (br_int .i64) (fun _ => rfl) (by decide)) (fun _ => rfl) (by decide)) br_unit)) (fun p => S_cow_Room.mk p.1 p.2.1) (fun p h => ⟨rfl, h⟩)
theorem CowTells_walk (H : ∀ (a0 : S_cow_Room) (a1 : Int) (a2 : Int) (a3 : Int), okS_cow_Room a0 → (fun a => (Lit.int .i64 a).wf = true) a1 → (fun a => (Lit.int .i64 a).wf = true) a2 → (fun a => (Lit.int .u8 a).wf = true) a3 → ∃ n, G_ringlaw2_CowTells n a0 a1 a2 a3 = some true) (w : World) (v0 : Value) (v1 : Value) (v2 : Value) (v3 : Value) (h0 : rep.Arg w (.pair (.slice 1 (.int .u8)) (.pair (.slice 24 (.slice 8 (.int .i64))) .unit)) v0) (h1 : rep.Arg w (.int .i64) v1) (h2 : rep.Arg w (.int .i64) v2) (h3 : rep.Arg w (.int .u8) v3) : Calls Try.prog 3 #[v0, v1, v2, v3] w (help.Ret (.bool true) w) := by
  obtain ⟨a0, o0, r0⟩ := arg_agg brS_cow_Room (by rfl) h0
  obtain ⟨a1, o1, r1⟩ := arg_one (br_int .i64) (by rfl) h1
  obtain ⟨a2, o2, r2⟩ := arg_one (br_int .i64) (by rfl) h2
  obtain ⟨a3, o3, r3⟩ := arg_one (br_int .u8) (by rfl) h3
  obtain ⟨n, hn⟩ := H a0 a1 a2 a3 o0 o1 o2 o3
  exact walk_of (G_ringlaw2_CowTells_ok n a0 a1 a2 a3 true hn) (RT_cons r0 (RT_cons r1 (RT_cons r2 (RT_cons r3 RT_nil))))
/- FRAME CowTells; ringhall/ringlaw2.CowTells; (.pair (.slice 1 (.int .u8)) (.pair (.slice 24 (.slice 8 (.int .i64))) .unit)) | (.int .i64) | (.int .i64) | (.int .u8); .agg #[.slice none 0 0, .slice none 0 0] | .int .i64 0 | .int .i64 0 | .int .u8 0 -/
end Go.Proofs.Ytpeakaeblibfmaa.pv
