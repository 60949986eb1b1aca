/- The interpreter's operations are acts: calls. -/
import Derived.Test.YtnkdanobhgofbaaGreatDoorVR
namespace Go.Proofs.YtnkdanobhgofbaaGreatDoor.pv
set_option linter.all false
open Go.RowKit
theorem allD_ren (s : List Nat) : ∀ cs : List FV, allD (renL s cs) = allD cs
  | [] => rfl
  | x :: cs => by
    cases x with
    | d x => simp only [renL, ren, allD, allD_ren s cs]
    | ref l off => simp only [renL, ren]; cases idx l s <;> rfl
    | ept l sz i off => simp only [renL, ren]; cases idx l s <;> rfl
    | asl l off k c sz ag => simp only [renL, ren]; cases idx l s <;> rfl
    | ssl l i j sz => simp only [renL, ren]; cases idx l s <;> rfl
    | srf l => simp only [renL, ren]; cases idx l s <;> rfl
    | _ => rfl
theorem renL_d (s : List Nat) : ∀ xs : List PV, renL s (xs.map FV.d) = xs.map FV.d
  | [] => rfl
  | x :: xs => by simp only [List.map_cons, renL, ren, renL_d s xs]
theorem ren_mkAgg (s : List Nat) (cs : List FV) : ren s (mkAgg cs) = mkAgg (renL s cs) := by
  unfold mkAgg
  rw [allD_ren]
  cases h : allD cs <;> simp only [ren]
theorem ren_mkClo (s : List Nat) (f : FuncId) (cs : List FV) : ren s (mkClo f cs) = mkClo f (renL s cs) := by
  unfold mkClo
  rw [allD_ren]
  cases h : allD cs <;> simp only [ren]
theorem renL_app (s : List Nat) : ∀ xs ys : List FV, renL s (xs ++ ys) = renL s xs ++ renL s ys
  | [], _ => rfl
  | x :: xs, ys => by simp only [List.cons_append, renL, renL_app s xs ys]
theorem renL_map (s : List Nat) : ∀ xs : List FV, renL s xs = xs.map (ren s)
  | [] => rfl
  | x :: xs => by simp only [List.map_cons, renL, renL_map s xs]
theorem allD_map' (τ : List Nat) : ∀ cs : List FV, allD (mapFL τ cs) = allD cs
  | [] => rfl
  | x :: cs => by
    cases x with
    | d x => simp only [mapFL, mapF, allD, allD_map' τ cs]
    | _ => rfl
theorem mapFL_d (τ : List Nat) : ∀ xs : List PV, mapFL τ (xs.map FV.d) = xs.map FV.d
  | [] => rfl
  | x :: xs => by simp only [List.map_cons, mapFL, mapF, mapFL_d τ xs]
theorem mapF_mkAgg (τ : List Nat) (cs : List FV) : mapF τ (mkAgg cs) = mkAgg (mapFL τ cs) := by
  unfold mkAgg
  rw [allD_map']
  cases h : allD cs <;> simp only [mapF]
theorem mapF_mkClo (τ : List Nat) (f : FuncId) (cs : List FV) : mapF τ (mkClo f cs) = mkClo f (mapFL τ cs) := by
  unfold mkClo
  rw [allD_map']
  cases h : allD cs <;> simp only [mapF]
theorem mapFL_app (τ : List Nat) : ∀ xs ys : List FV, mapFL τ (xs ++ ys) = mapFL τ xs ++ mapFL τ ys
  | [], _ => rfl
  | x :: xs, ys => by simp only [List.cons_append, mapFL, mapFL_app τ xs ys]
/-- other names, told either way -/
structure Rn (g : FV → FV) (gl : List FV → List FV) (p q : Rp) : Prop where
  f : g p.fv = q.fv
  c : gl p.cells = q.cells
  p : gl p.parts = q.parts
theorem idx_mem {s : List Nat} {l : Nat} (h : l ∈ s) : idx l s = some (idxD s l) := by
  obtain ⟨j, hj⟩ := idx_of_get h
  unfold idxD
  rw [hj]
theorem ren_rep (s : List Nat) : ∀ (t : Ty) (x : t.den), t.flt = true → (∀ l ∈ locsT t, l ∈ s) → Rn (ren s) (renL s) (rep t x) (rep (rnT (idxD s) t) (rnX (idxD s) t x))
  | .pr a b, x, hf, hl => by
    simp only [Ty.flt, Bool.and_eq_true] at hf
    simp only [locsT, List.mem_append] at hl
    have ha := ren_rep s a (p1 x) hf.1 fun l h => hl l (.inl h)
    have hb := ren_rep s b (p2 x) hf.2 fun l h => hl l (.inr h)
    have hc : renL s ((rep a (p1 x)).cells ++ (rep b (p2 x)).cells) = (rep _ (rnX (idxD s) a (p1 x))).cells ++ (rep _ (rnX (idxD s) b (p2 x))).cells := by rw [renL_app, ha.c, hb.c]
    refine ⟨?_, hc, ?_⟩
    · show ren s (mkAgg _) = mkAgg _
      rw [ren_mkAgg, hc]; rfl
    · show renL s ((rep a (p1 x)).fv :: (rep b (p2 x)).parts) = _ :: _
      simp only [renL, ha.f, hb.p]; rfl
  | .ar n t, x, hf, hl => by
    have hd : (Ty.ar n t).dat = true := hf
    have h := rep_dat (.ar n t) x hd
    refine ⟨?_, ?_, rfl⟩
    · rw [h.2.1]; simp only [ren]; exact h.2.1.symm
    · rw [h.1, renL_d]; exact h.1.symm
  | .cl f t, x, hf, hl => by
    have ht := ren_rep s t x hf hl
    have hfv : ren s (mkClo f (rep t x).cells) = mkClo f (rep _ (rnX (idxD s) t x)).cells := by rw [ren_mkClo, ht.c]
    exact ⟨hfv, congrArg (fun z => [z]) hfv, rfl⟩
  | .ic i t, x, hf, hl => by
    have ht := ren_rep s t x hf hl
    have hfv : ren s (.ifc i (rep t x).fv) = .ifc i (rep _ (rnX (idxD s) t x)).fv := by simp only [ren, ht.f]
    exact ⟨hfv, congrArg (fun z => [z]) hfv, rfl⟩
  | .tp t, x, hf, hl => by
    have ht := ren_rep s t x hf hl
    refine ⟨?_, rfl, rfl⟩
    show ren s (.tup (rep t x).parts) = .tup _
    simp only [ren, ht.p]; rfl
  | .rf l p, x, hf, hl => by
    have hi := idx_mem (hl l (by simp [locsT]))
    have hfv : ren s (.ref l (offP p x)) = .ref (idxD s l) (offP p x) := by simp only [ren, hi]
    exact ⟨hfv, congrArg (fun z => [z]) hfv, rfl⟩
  | .ep l sz p, x, hf, hl => by
    have hi := idx_mem (hl l (by simp [locsT]))
    have hfv : ∀ i o, ren s (.ept l sz i o) = .ept (idxD s l) sz i o := fun i o => by simp only [ren, hi]
    exact ⟨hfv _ _, congrArg (fun z => [z]) (hfv _ _), rfl⟩
  | .sr l, x, hf, hl => by
    have hi := idx_mem (hl l (by simp [locsT]))
    have hfv : ren s (.srf l) = .srf (idxD s l) := by simp only [ren, hi]
    exact ⟨hfv, congrArg (fun z => [z]) hfv, rfl⟩
  | .ss l sz, x, hf, hl => by
    have hi := idx_mem (hl l (by simp [locsT]))
    have hfv : ∀ i j, ren s (.ssl l i j sz) = .ssl (idxD s l) i j sz := fun i j => by simp only [ren, hi]
    exact ⟨hfv _ _, congrArg (fun z => [z]) (hfv _ _), rfl⟩
  | .as l p n sz ag, x, hf, hl => by
    have hi := idx_mem (hl l (by simp [locsT]))
    have hfv : ∀ o k c, ren s (.asl l o k c sz ag) = .asl (idxD s l) o k c sz ag := fun o k c => by simp only [ren, hi]
    exact ⟨hfv _ _ _, congrArg (fun z => [z]) (hfv _ _ _), rfl⟩
  | .i _, x, _, _ | .bl, x, _, _ | .str, x, _, _ | .un, x, _, _ | .sl _, x, _, _ | .ns, x, _, _ | .nz _, x, _, _ | .np _ _, x, _, _ | .dp _ _, x, _, _ | .mc _ _, x, _, _ | .sm _ _, x, _, _ | .ud, x, _, _ | .dead, x, _, _ => ⟨rfl, rfl, rfl⟩
  | .vp _, x, _, _ => by
    refine ⟨?_, ?_, ?_⟩
    all_goals (simp only [rnT, rnX, rep]; split <;> rfl)
  | .vm _, x, _, _ => by
    refine ⟨?_, ?_, ?_⟩
    all_goals (simp only [rnT, rnX, rep]; split <;> rfl)
theorem map_rep (τ : List Nat) : ∀ (t : Ty) (x : t.den), t.flt = true → Rn (mapF τ) (mapFL τ) (rep t x) (rep (rnT (τ.getD · 0) t) (rnX (τ.getD · 0) t x))
  | .pr a b, x, hf => by
    simp only [Ty.flt, Bool.and_eq_true] at hf
    have ha := map_rep τ a (p1 x) hf.1
    have hb := map_rep τ b (p2 x) hf.2
    have hc : mapFL τ ((rep a (p1 x)).cells ++ (rep b (p2 x)).cells) = (rep _ (rnX (τ.getD · 0) a (p1 x))).cells ++ (rep _ (rnX (τ.getD · 0) b (p2 x))).cells := by rw [mapFL_app, ha.c, hb.c]
    refine ⟨?_, hc, ?_⟩
    · show mapF τ (mkAgg _) = mkAgg _
      rw [mapF_mkAgg, hc]; rfl
    · show mapFL τ ((rep a (p1 x)).fv :: (rep b (p2 x)).parts) = _ :: _
      simp only [mapFL, ha.f, hb.p]; rfl
  | .ar n t, x, hf => by
    have hd : (Ty.ar n t).dat = true := hf
    have h := rep_dat (.ar n t) x hd
    refine ⟨?_, ?_, rfl⟩
    · rw [h.2.1]; simp only [mapF]; exact h.2.1.symm
    · rw [h.1, mapFL_d]; exact h.1.symm
  | .cl f t, x, hf => by
    have ht := map_rep τ t x hf
    have hfv : mapF τ (mkClo f (rep t x).cells) = mkClo f (rep _ (rnX (τ.getD · 0) t x)).cells := by rw [mapF_mkClo, ht.c]
    exact ⟨hfv, congrArg (fun z => [z]) hfv, rfl⟩
  | .ic i t, x, hf => by
    have ht := map_rep τ t x hf
    have hfv : mapF τ (.ifc i (rep t x).fv) = .ifc i (rep _ (rnX (τ.getD · 0) t x)).fv := by simp only [mapF, ht.f]
    exact ⟨hfv, congrArg (fun z => [z]) hfv, rfl⟩
  | .tp t, x, hf => by
    have ht := map_rep τ t x hf
    refine ⟨?_, rfl, rfl⟩
    show mapF τ (.tup (rep t x).parts) = .tup _
    simp only [mapF, ht.p]; rfl
  | .rf _ _, x, _ | .ep _ _ _, x, _ | .sr _, x, _ | .ss _ _, x, _ | .as _ _ _ _ _, x, _ => ⟨rfl, rfl, rfl⟩
  | .i _, x, _ | .bl, x, _ | .str, x, _ | .un, x, _ | .sl _, x, _ | .ns, x, _ | .nz _, x, _ | .np _ _, x, _ | .dp _ _, x, _ | .mc _ _, x, _ | .sm _ _, x, _ | .ud, x, _ | .dead, x, _ => ⟨rfl, rfl, rfl⟩
  | .vp _, x, _ => by
    refine ⟨?_, ?_, ?_⟩
    all_goals (simp only [rnT, rnX, rep]; split <;> rfl)
  | .vm _, x, _ => by
    refine ⟨?_, ?_, ?_⟩
    all_goals (simp only [rnT, rnX, rep]; split <;> rfl)
section
variable {s τ : List Nat} (h : ∀ (l : Nat), l ∈ s → τ.getD (idxD s l) 0 = l)
include h
mutual
theorem mapF_ren : ∀ (x : FV), (∀ l ∈ locs x, l ∈ s) → mapF τ (ren s x) = x
  | .d x, _ => by simp only [ren, mapF]
  | .agg cs, hl => by simp only [ren, mapF]; rw [mapFL_ren cs (by simpa only [locs] using hl)]
  | .tup cs, hl => by simp only [ren, mapF]; rw [mapFL_ren cs (by simpa only [locs] using hl)]
  | .ref l off, hl => by
    have hm := hl l (by simp [locs])
    simp only [ren, idx_mem hm, mapF, h l hm]
  | .ept l sz i off, hl => by
    have hm := hl l (by simp [locs])
    simp only [ren, idx_mem hm, mapF, h l hm]
  | .asl l off k c sz ag, hl => by
    have hm := hl l (by simp [locs])
    simp only [ren, idx_mem hm, mapF, h l hm]
  | .ssl l i j sz, hl => by
    have hm := hl l (by simp [locs])
    simp only [ren, idx_mem hm, mapF, h l hm]
  | .srf l, hl => by
    have hm := hl l (by simp [locs])
    simp only [ren, idx_mem hm, mapF, h l hm]
  | .clo f cs, hl => by simp only [ren, mapF]; rw [mapFL_ren cs (by simpa only [locs] using hl)]
  | .ifc t x, hl => by simp only [ren, mapF]; rw [mapF_ren x (by simpa only [locs] using hl)]
  | .dead, _ => by simp only [ren, mapF]
theorem mapFL_ren : ∀ (xs : List FV), (∀ l ∈ locsL xs, l ∈ s) → mapFL τ (renL s xs) = xs
  | [], _ => rfl
  | x :: xs, hl => by
    simp only [locsL, List.mem_append] at hl
    simp only [renL, mapFL, mapF_ren x (fun l q => hl l (.inl q)), mapFL_ren xs (fun l q => hl l (.inr q))]
end
end
theorem locsL_app : ∀ xs ys : List FV, locsL (xs ++ ys) = locsL xs ++ locsL ys
  | [], _ => rfl
  | x :: xs, ys => by simp only [List.cons_append, locsL, locsL_app xs ys, List.append_assoc]
theorem locsL_d : ∀ xs : List PV, locsL (xs.map FV.d) = []
  | [] => rfl
  | x :: xs => by simp only [List.map_cons, locsL, locs, locsL_d xs, List.append_nil]
theorem locs_mkAgg (cs : List FV) : locs (mkAgg cs) = locsL cs := by
  unfold mkAgg
  split
  · rename_i xs hx; rw [allD_eq hx, locsL_d]; rfl
  · rfl
theorem locs_mkClo (f : FuncId) (cs : List FV) : locs (mkClo f cs) = locsL cs := by
  unfold mkClo
  split
  · rename_i xs hx; rw [allD_eq hx, locsL_d]; rfl
  · rfl
theorem locs_rep : ∀ (t : Ty) (x : t.den), t.flt = true → locsL (rep t x).cells ⊆ locsT t ∧ locs (rep t x).fv ⊆ locsT t ∧ locsL (rep t x).parts ⊆ locsT t
  | .pr a b, x, hf => by
    simp only [Ty.flt, Bool.and_eq_true] at hf
    obtain ⟨a1, a2, _⟩ := locs_rep a (p1 x) hf.1
    obtain ⟨b1, _, b3⟩ := locs_rep b (p2 x) hf.2
    have hc : locsL ((rep a (p1 x)).cells ++ (rep b (p2 x)).cells) ⊆ locsT a ++ locsT b := by
      rw [locsL_app]
      intro l hl
      rcases List.mem_append.1 hl with q | q
      · exact List.mem_append.2 (.inl (a1 q))
      · exact List.mem_append.2 (.inr (b1 q))
    refine ⟨hc, ?_, ?_⟩
    · show locs (mkAgg _) ⊆ _
      rw [locs_mkAgg]; exact hc
    · show locs (rep a (p1 x)).fv ++ locsL (rep b (p2 x)).parts ⊆ _
      intro l hl
      rcases List.mem_append.1 hl with q | q
      · exact List.mem_append.2 (.inl (a2 q))
      · exact List.mem_append.2 (.inr (b3 q))
  | .ar n t, x, hf => by
    have hd : (Ty.ar n t).dat = true := hf
    have h := rep_dat (.ar n t) x hd
    refine ⟨by rw [h.1, locsL_d]; exact List.nil_subset _, by rw [h.2.1]; exact List.nil_subset _, List.nil_subset _⟩
  | .cl f t, x, hf => by
    obtain ⟨a1, _, _⟩ := locs_rep t x hf
    have hfv : locs (mkClo f (rep t x).cells) ⊆ locsT t := by rw [locs_mkClo]; exact a1
    exact ⟨by
      show locs (mkClo f (rep t x).cells) ++ [] ⊆ _
      rw [List.append_nil]; exact hfv, hfv, List.nil_subset _⟩
  | .ic i t, x, hf => by
    obtain ⟨_, a2, _⟩ := locs_rep t x hf
    exact ⟨by
      show locs (rep t x).fv ++ [] ⊆ _
      rw [List.append_nil]; exact a2, a2, List.nil_subset _⟩
  | .tp t, x, hf => by
    obtain ⟨_, _, a3⟩ := locs_rep t x hf
    exact ⟨List.nil_subset _, a3, List.nil_subset _⟩
  | .rf _ _, x, _ | .ep _ _ _, x, _ | .sr _, x, _ | .ss _ _, x, _ | .as _ _ _ _ _, x, _ => ⟨fun _ h => h, fun _ h => h, List.nil_subset _⟩
  | .i _, x, _ | .bl, x, _ | .str, x, _ | .un, x, _ | .sl _, x, _ | .ns, x, _ | .nz _, x, _ | .np _ _, x, _ | .dp _ _, x, _ | .mc _ _, x, _ | .sm _ _, x, _ | .ud, x, _ | .dead, x, _ => ⟨List.nil_subset _, List.nil_subset _, List.nil_subset _⟩
  | .vp _, x, _ => by
    refine ⟨?_, ?_, ?_⟩
    all_goals (simp only [rep]; split <;> exact List.nil_subset _)
  | .vm _, x, _ => by
    refine ⟨?_, ?_, ?_⟩
    all_goals (simp only [rep]; split <;> exact List.nil_subset _)
end Go.Proofs.YtnkdanobhgofbaaGreatDoor.pv
