/- The interpreter's operations are acts: calls (ended); all operations. -/
import Derived.Test.YtnkdanobhgofbaaGreatDoorVT
namespace Go.Proofs.YtnkdanobhgofbaaGreatDoor.pv
set_option linter.all false
open Go.RowKit
theorem kindsOf_length : ∀ hs : List XO, (kindsOf hs).length = hs.length
  | [] => rfl
  | .ob o x :: r => by simp only [kindsOf, List.length_cons, kindsOf_length r]
  | .free :: r => by simp only [kindsOf, List.length_cons, kindsOf_length r]
  | .none :: r => by simp only [kindsOf, List.length_cons, kindsOf_length r]
  | .gh _ _ :: r => by simp only [kindsOf, List.length_cons, kindsOf_length r]
  | .ex _ :: r => by simp only [kindsOf, List.length_cons, kindsOf_length r]
theorem outK_length (kp ls mv : List Nat) (h : Nat) (ks : List OK) : ∀ (k : Nat) (os : List OK), (outK kp ls mv h ks k os).length = os.length
  | _, [] => rfl
  | k, o :: r => by simp only [outK, List.length_cons, outK_length kp ls mv h ks (k + 1) r]
theorem dropK_length (kp : List Nat) : ∀ (k : Nat) (os : List OK), (dropK kp k os).length = os.length
  | _, [] => rfl
  | k, o :: r => by simp only [dropK, List.length_cons, dropK_length kp (k + 1) r]
theorem ksOut_length (E : Env) (g : FuncId) (vs : List XV) (hs : List XO) : (ksOut E g vs hs).length = hs.length := by
  unfold ksOut
  rw [outK_length, kindsOf_length]
theorem kalt_length (E : Env) (g : FuncId) (vs : List XV) (hs : List XO) : (kalt E g vs hs).length = hs.length := by
  unfold kalt ksR
  rw [dropK_length, ksOut_length]
theorem renM_map (m : List PO) (s : List Nat) : ∀ r : List Nat, renM m s r = r.map fun l => renO s (m.getD l .free)
  | [] => rfl
  | l :: r => by simp only [renM, List.map_cons, renM_map m s r]
theorem ren_absO {s : List Nat} {o : XO} (h : okH4 s o = true) : renO s (absO o) = absO (rnO (idxD s) o) := by
  cases o with
  | ob k x =>
    cases k with
    | bx t =>
      simp only [okH4, Bool.and_eq_true, List.all_eq_true] at h
      exact congrArg PO.box (ren_rep s t x h.1 fun l hl => memN_iff.1 (h.2 l hl)).c
    | no => simp [okH4] at h
    | rw e s t => rfl
    | mp a b => rfl
    | ab g t => rfl
    | am g a b => rfl
  | none => simp [okH4] at h
  | free => simp [okH4] at h
  | gh k v => simp [okH4] at h
  | ex e => simp [okH4] at h
theorem mapO_back {s τ : List Nat} (hτ : ∀ (l : Nat), l ∈ s → τ.getD (idxD s l) 0 = l) {o : XO} (h : okH4 s o = true) : mapO τ (renO s (absO o)) = absO o := by
  cases o with
  | ob k x =>
    cases k with
    | bx t =>
      simp only [okH4, Bool.and_eq_true, List.all_eq_true] at h
      refine congrArg PO.box (mapFL_ren hτ _ fun l hl => ?_)
      exact memN_iff.1 (h.2 l ((locs_rep t x h.1).1 hl))
    | no => simp [okH4] at h
    | rw e s t => rfl
    | mp a b => rfl
    | ab g t => rfl
    | am g a b => rfl
  | none => simp [okH4] at h
  | free => simp [okH4] at h
  | gh k v => simp [okH4] at h
  | ex e => simp [okH4] at h
theorem live_rn {s : List Nat} {g1 : Nat → Nat} {o : XO} (h : okH4 s o = true) : liveX (rnO g1 o) = true := by
  cases o with
  | ob k x => cases k <;> first | rfl | simp [okH4] at h
  | none => simp [okH4] at h
  | free => simp [okH4] at h
  | gh k v => simp [okH4] at h
  | ex e => simp [okH4] at h
theorem absO_live {s : List Nat} {o : XO} (h : okH4 s o = true) : (absO o).live = true ∧ o ≠ .free := by
  cases o with
  | ob k x => cases k <;> first | exact ⟨rfl, by simp⟩ | simp [okH4] at h
  | none => simp [okH4] at h
  | free => simp [okH4] at h
  | gh k v => simp [okH4] at h
  | ex e => simp [okH4] at h
theorem live_okH {o : XO} (h : liveX o = true) : okH (absO o) = true := by
  cases o with
  | ob k x => cases k <;> first | rfl | simp [liveX] at h
  | none => simp [liveX] at h
  | free => simp [liveX] at h
  | gh k v => simp [liveX] at h
  | ex e => simp [liveX] at h
theorem zipK_mem {kp : List Nat} : ∀ {r : List Nat} {k : Nat} {os : List XO} {q : Nat × XO}, q ∈ zipK kp k r os → q.1 ∈ r
  | [], k, os, q, h => by simp [zipK] at h
  | l :: r, k, [], q, h => by simp [zipK] at h
  | l :: r, k, o :: os, q, h => by
    simp only [zipK] at h
    cases hk : memN k kp with
    | true => rw [hk] at h; exact List.mem_cons_of_mem _ (zipK_mem h)
    | false =>
      rw [hk] at h
      simp only [cond_false, List.mem_cons] at h
      rcases h with rfl | h
      · exact List.mem_cons_self ..
      · exact List.mem_cons_of_mem _ (zipK_mem h)
section
variable {α : Type} {E : Env} {N : Nat} {f : List (Nat × XV)} {m : List (Nat × XO)} {ps : PS} {nl : Nat} {K : KT α} {out : α} {call : CallT E}
theorem rft_le (A : Abs N f m ps) {B : Nat → Bool} {hd : Nat → Value} {ow : Ow} {w : World} : ∀ (xs : List Operand) (us : List Value), RFT B hd ow w (xs.map (ev ps.f)) us → RFT B hd ow w ((xs.map (evX f)).map XV.fv) us
  | [], us, h => h
  | x :: xs, us, h => by
    simp only [List.map_cons, RFT] at h ⊢
    obtain ⟨u, us', rfl, h1, h2⟩ := h
    refine ⟨u, us', rfl, ?_, rft_le A xs us' h2⟩
    rcases evX_le A x with e | e
    · rw [e]; simp only [RF]
    · rw [← e]; exact h1
theorem clo_of {g : FuncId} {cs : List FV} : cloOf (mkClo g cs) = some (g, cs) := by
  unfold mkClo
  cases h : allD cs with
  | none => rfl
  | some xs => rw [allD_eq h]; rfl
theorem cut_some {α : Type _} {b : Bool} {o : Option α} {x : α} (h : (bif b then none else o) = some x) : o = some x := by
  cases b with
  | true => cases h
  | false => exact h
theorem xCall_core (C : Ctx E N f m ps nl) (hc : CallOk E call) {op : Op} {g : FuncId} {vs cs : List XV} {ara : List Nat} (hext : CallExt E.P E.T op (op.operands.toList.map (ev ps.f)) g (vs.map XV.fv) (cs.map XV.fv))
    (h : xCall E call m nl g ara vs cs K = some out) : Good E ps nl op K out := by
  unfold xCall at h
  simp only at h
  generalize hs0 : addL (reach m 200 [] ((vs ++ cs).flatMap fun v => locsT v.t)) (ara.filterMap fun t => findB t m) = s at h
  obtain ⟨hb, h1⟩ := cond_some h
  clear h
  simp only [Bool.and_eq_true, List.all_eq_true] at hb
  obtain ⟨⟨⟨b1, b2⟩, b3⟩, b4⟩ := hb
  obtain ⟨x, hx, h1⟩ := bind_some h1
  have hx := cut_some hx
  have h1 := (altK_eq _ _ _ _).symm.trans h1
  obtain ⟨q, hq, h1⟩ := bind_some h1
  obtain ⟨rt, new, y⟩ := q
  obtain ⟨hb2, hK⟩ := cond_some h1
  clear h1
  simp only [Bool.and_eq_true] at hb2
  obtain ⟨⟨⟨c1, c2⟩, c3⟩, c4⟩ := hb2
  simp only at c1 c2 c3 c4 hK
  have hlv : (s.map fun l => rnO (idxD s) (lom m l)).all liveX = true := by
    rw [List.all_map, List.all_eq_true]
    intro l hl
    exact live_rn (b2 l hl)
  have hret := hc g _ _ x hx hlv rt new y hq
  generalize hhs : (s.map fun l => rnO (idxD s) (lom m l)) = hs at *
  generalize hws : ((vs ++ cs).map (rnV (idxD s))) = ws at *
  have hhl : hs.length = s.length := by rw [← hhs, List.length_map]
  have hul : (unb (kalt E g ws hs ++ new) (p2 y)).length = hs.length + new.length := by rw [unb_length, List.length_append, kalt_length]
  have hmk : (keepM (E.kp g hs.length) 0 (hs.map absO) ((unb (kalt E g ws hs ++ new) (p2 y)).map absO)).length = s.length + new.length := by
    rw [keepM_length _ _ _ _ (by rw [List.length_map, List.length_map, hul]; omega), List.length_map, hul, hhl]
  generalize hτ : (s ++ (List.range new.length).map (nl + ·)) = τ at *
  have c2 := Nat.le_of_ble_eq_true c2
  have hsτ : ∀ (j l : Nat), s[j]? = some l → τ[j]? = some l := by
    intro j l hj
    rw [← hτ, List.getElem?_append_left (List.getElem?_eq_some_iff.1 hj).1]
    exact hj
  have hback : ∀ (l : Nat), l ∈ s → τ.getD (idxD s l) 0 = l := by
    intro l hl
    have := hsτ _ _ (idx_get (idx_mem hl))
    rw [List.getD_eq_getElem?_getD, this]; rfl
  have huo := unb_ok (kalt E g ws hs ++ new) (p2 y) c4
  let m0 : List (Nat × PO) := s.map (fun l => (l, absO (lom m l))) ++ (List.range new.length).map (fun k => (nl + k, PO.free))
  have hm0 : ∀ q ∈ m0, ps.m[q.1]? = some q.2 := by
    intro q hq
    rcases List.mem_append.1 hq with hq | hq
    · obtain ⟨l, hl, rfl⟩ := List.mem_map.1 hq
      exact C.at rfl (absO_live (b2 l hl)).2
    · obtain ⟨k, hk, rfl⟩ := List.mem_map.1 hq
      exact C.free (by have := List.mem_range.1 hk; omega)
  have hm0s : ∀ l ∈ s, (l, absO (lom m l)) ∈ m0 := fun l hl => List.mem_append.2 (.inl (List.mem_map.2 ⟨l, hl, rfl⟩))
  have hτmem : ∀ l ∈ τ, (∃ l', l' = l ∧ l ∈ s) ∨ ∃ k, k < new.length ∧ l = nl + k := by
    intro l hl
    rw [← hτ, List.mem_append] at hl
    rcases hl with hl | hl
    · exact .inl ⟨l, rfl, hl⟩
    · obtain ⟨k, hk, rfl⟩ := List.mem_map.1 hl
      exact .inr ⟨k, List.mem_range.1 hk, rfl⟩
  have hM : ∀ M : List PO, (∀ q ∈ m0, M[q.1]? = some q.2) → ∀ l ∈ s, M[l]? = some (absO (lom m l)) := fun M h l hl => h _ (hm0s l hl)
  refine good_ext (v := rnV (τ.getD · 0) ⟨rt, p1 y⟩) (F := τ) (r := mapF τ (rep rt (p1 y)).fv) m0 hm0 ?_ ?_ (.inr (map_rep τ rt (p1 y) c3).f) ?_ ?_ hK
  · intro q hq
    obtain ⟨q', hq', rfl⟩ := List.mem_map.1 hq
    have hq2 : q'.1 ∈ τ := zipK_mem hq'
    rcases hτmem _ hq2 with ⟨_, _, hl⟩ | ⟨k, hk, e⟩
    · exact List.mem_map.2 ⟨_, hm0s _ hl, rfl⟩
    · exact List.mem_map.2 ⟨(nl + k, .free), List.mem_append.2 (.inr (List.mem_map.2 ⟨k, List.mem_range.2 hk, rfl⟩)), e.symm⟩
  · refine hext s τ (hs.map absO) (keepM (E.kp g hs.length) 0 (hs.map absO) ((unb (kalt E g ws hs ++ new) (p2 y)).map absO)) _ _ m0 nl c1 (fun l hl => ⟨_, hm0s l hl, (absO_live (b2 l hl)).1⟩) ?_ (fun k hk => ?_) ?_ ?_ (fun M h => ?_) (fun M h => ?_) ?_
    · rw [hmk, Nat.add_sub_cancel_left, hτ]
    · rw [hmk, Nat.add_sub_cancel_left] at hk
      exact List.mem_append.2 (.inr (List.mem_map.2 ⟨k, List.mem_range.2 hk, rfl⟩))
    · refine keepM_all _ _ _ _ _ ?_ ?_
      · rw [List.all_map, List.all_eq_true]
        intro o ho
        exact live_okH (List.all_eq_true.1 hlv o ho)
      · rw [List.all_map, List.all_eq_true]
        intro o ho
        exact objOk_okH (List.all_eq_true.1 huo o ho)
    · rw [hmk]; omega
    · rw [renM_map, ← hhs, List.map_map]
      apply List.map_congr_left
      intro l hl
      rw [List.getD_eq_getElem?_getD, hM M h l hl]
      exact ren_absO (b2 l hl)
    · refine upd_kept τ 0 (hs.map absO) _ M c1 (by rw [hul, ← hτ, List.length_append, List.length_map, List.length_range, hhl]) (by rw [List.length_map, hul]; omega) (List.all_eq_true.1 huo) (fun j l o hj ho => ?_) (fun j hj => ?_)
      · rw [List.getElem?_map] at ho
        cases hjo : hs[j]? with
        | none => rw [hjo] at ho; cases ho
        | some o' =>
          rw [hjo] at ho
          cases ho
          rw [← hhs, List.getElem?_map] at hjo
          cases hjl : s[j]? with
          | none => rw [hjl] at hjo; cases hjo
          | some l' =>
            rw [hjl] at hjo
            cases hjo
            have e := hsτ j l' hjl
            rw [hj] at e; cases e
            have hls := List.mem_of_getElem? hjl
            rw [hM M h l hls, ← ren_absO (b2 l hls), mapO_back hback (b2 l hls)]
      · rw [List.length_map] at hj
        cases hk : memN (0 + j) (E.kp g hs.length) with
        | false => rfl
        | true =>
          have := b4 _ (memN_iff.1 hk)
          have : 0 + j < hs.length := by simpa using this
          omega
    · have e : renL s (vs.map XV.fv) ++ renL s (cs.map XV.fv) = ws.map XV.fv := by
        rw [← renL_app, ← List.map_append, renL_map, ← hws, List.map_map, List.map_map]
        apply List.map_congr_left
        intro v hv
        have hv := b1 v hv
        exact (ren_rep s v.t v.x hv.1 fun l hl => memN_iff.1 (hv.2 l hl)).f
      rw [e]
      exact hret
  · intro q hq
    rcases List.mem_append.1 hq with hq | hq
    · obtain ⟨l, hl, rfl⟩ := List.mem_map.1 hq
      rw [← hτ]; exact List.mem_append.2 (.inl hl)
    · obtain ⟨k, hk, rfl⟩ := List.mem_map.1 hq
      rw [← hτ]; exact List.mem_append.2 (.inr (List.mem_map.2 ⟨k, hk, rfl⟩))
  · intro q hq
    have hq2 : q.1 ∈ τ := zipK_mem hq
    rcases hτmem _ hq2 with ⟨_, _, hl⟩ | ⟨k, hk, e⟩
    · exact C.old rfl (absO_live (b2 _ hl)).2
    · rw [e]; omega
theorem xCall_good (C : Ctx E N f m ps nl) (hc : CallOk E call) {fo : Operand} {args : Array Operand} {tys : Array Nat} {g : FuncId} {t : Ty} {cx : t.den} {ara : List Nat} (hf : evX f fo = ⟨.cl g t, cx⟩) (hcap : capOk t = true)
    (h : xCall E call m nl g ara (argsX E.cd (args.toList.map (evX f)) tys.toList) (capX t cx) K = some out) : Good E ps nl (.call ⟨.value fo, args, tys⟩) K out := by
  have hcf : ev ps.f fo = mkClo g (rep t cx).cells := ev_of (t := .cl g t) (y := cx) C.toAbs hf rfl
  refine xCall_core C hc (vs := argsX E.cd (args.toList.map (evX f)) tys.toList) (cs := capX t cx) ?_ h
  have hops : (Op.call ⟨.value fo, args, tys⟩).operands.toList.map (ev ps.f) = ev ps.f fo :: args.toList.map (ev ps.f) := by
    simp only [Op.operands, Call.operands, Array.toList_append, List.cons_append, List.nil_append, List.map_cons]
  rw [hops, ← cap_cells t cx hcap]
  intro s τ m1 m2 r U m0 nl h2 hs h4 h5 h6 h7 hm1 hU hret
  exact ext_call (by rw [hcf]; exact clo_of) (fun A hd ow w us hr => args_im _ _ _ (rft_le C.toAbs _ _ hr)) h2 hs h4 h5 h6 h7 hm1 hU hret
theorem xInv_good (C : Ctx E N f m ps nl) (hc : CallOk E call) {x : Operand} {args : Array Operand} {tys : Array Nat} {name : String}
    (h : xInv E call m nl name (evX f x) (argsX E.cd (args.toList.map (evX f)) tys.toList) K = some out) : Good E ps nl (.call ⟨.invoke x name, args, tys⟩) K out := by
  unfold xInv at h
  split at h
  · rename_i t u y hf
    split at h
    · rename_i g hg
      have hcf : ev ps.f x = .ifc t (rep u y).fv := ev_of (t := .ic t u) (y := y) C.toAbs hf rfl
      refine xCall_core C hc (vs := ⟨u, y⟩ :: argsX E.cd (args.toList.map (evX f)) tys.toList) (cs := []) ?_ h
      have hops : (Op.call ⟨.invoke x name, args, tys⟩).operands.toList.map (ev ps.f) = ev ps.f x :: args.toList.map (ev ps.f) := by
        simp [Op.operands, Call.operands]
      rw [hops, hcf]
      exact ext_invoke hg (fun A hd ow w us hr => args_im _ _ _ (rft_le C.toAbs _ _ hr))
    · cases h
  · cases h
theorem xIfc_good (C : Ctx E N f m ps nl) {t : Nat} {x : Operand} (h : xIfc E t (evX f x) K = some out) : Good E ps nl (.makeInterface t x) K out := by
  unfold xIfc at h
  split at h
  · rename_i u hu
    obtain ⟨h1, hK⟩ := cond_some h
    simp only [Bool.and_eq_true, one1] at h1
    generalize hf : evX f x = v at h1 hK
    obtain ⟨vt, vx⟩ := v
    have hcf : ev ps.f x = (rep vt vx).fv := ev_of (t := vt) (y := vx) C.toAbs hf (told_cel h1.2.1)
    refine good_ext (v := ⟨.ic t vt, vx⟩) (r := .ifc t (rep vt vx).fv) [] (fun _ h => by cases h) (fun _ h => by cases h) ?_ (.inr rfl) (fun _ h => by cases h) (fun _ h => by cases h) hK
    have hops : (Op.makeInterface t x).operands.toList.map (ev ps.f) = [ev ps.f x] := by simp [Op.operands]
    rw [hops, hcf]
    exact ext_mkIfc hu h1.1
  · cases h
end
end Go.Proofs.YtnkdanobhgofbaaGreatDoor.pv
