/- The interpreter's silent steps (continued); cuts. -/
import Derived.Test.YtnkdanobhgofbaaGreatDoorVX
namespace Go.Proofs.YtnkdanobhgofbaaGreatDoor.pv
set_option linter.all false
open Go.RowKit
section
variable {N M : Nat} {w0 : Cx} {st : XS} {a : Act} {w : World}
theorem Sim4.th (S : Sim4 N w0 st a w) (i e s : Nat) (t : Ty) : Sim4 N w0 (sil1 st (.th i e s t)) a w := by
  simp only [sil1]
  split
  · rename_i ht
    generalize hv : look st.f i = v at ht
    obtain ⟨tv, xv⟩ := v
    simp only at ht
    subst ht
    generalize hst : (⟨(i, ⟨.sr st.n, ()⟩) :: st.f, (st.n, .ob (.rw e s t) ([] : List t.den)) :: st.m, st.n + 1⟩ : XS) = st'
    have hf' : ∀ j, look st'.f j = if i = j then ⟨.sr st.n, ()⟩ else look st.f j := fun j => by rw [← hst]; exact look_cons _ _ _ _
    have hm' : ∀ j, lom st'.m j = if st.n = j then .ob (.rw e s t) ([] : List t.den) else lom st.m j := fun j => by rw [← hst]; exact lom_cons _ _ _ _
    have hn' : st'.n = st.n + 1 := by rw [← hst]
    obtain ⟨M, hN, hM, hM'⟩ := bnd2 (N + i + 1) st.f st'.f
    have hsl : (absS M st).f[i]? = some (.d (.v (.slice none 0 0))) := by
      simp only [absS]
      rw [List.getElem?_map, List.getElem?_range (by omega), Option.map_some, hv]; rfl
    have S1 : Sim N w0 ⟨(absS M st).f.set i (.srf (absS M st).m.length), (absS M st).m ++ [.row e s []]⟩ a w := Sim.thaw1 (i := i) (e := e) (s := s) (S.can hM) (by unfold thaw1; rw [hsl]; rfl)
    obtain ⟨ow, hd, hk, W⟩ := S1
    refine Sim4.mk (M := M) (by omega) hM' (fun j hj => ?_) ⟨ow, hd, hk, W.tell (C := fun _ _ _ _ => True) trivial (by simp [absS, hn']) (fun j u hu => ?_) fun j o o' ho1 ho2 => ?_⟩
    · rw [hm', if_neg (by omega)]; exact S.fr j (by omega)
    · rw [absS_slot hM', hf']
      rw [List.getD_eq_getElem?_getD, List.getElem?_set] at hu
      by_cases e : i = j
      · subst e
        have : i < (absS M st).f.length := (List.getElem?_eq_some_iff.1 hsl).1
        rw [if_pos rfl, if_pos this, absS_len] at hu
        rw [if_pos rfl]; exact hu
      · rw [if_neg e, ← List.getD_eq_getElem?_getD, absS_slot hM] at hu
        rw [if_neg e]; exact hu
    · obtain ⟨j1, rfl⟩ := absS_back ho2
      rw [hm']
      simp only at ho1
      rw [List.getElem?_append] at ho1
      split at ho1
      · rename_i hlt
        obtain ⟨j2, rfl⟩ := absS_back ho1
        rw [if_neg (by omega)]; exact ImO.refl _
      · rename_i hge
        rw [absS_len] at hge ho1
        rw [if_pos (by omega)]
        have : j - st.n = 0 := by omega
        rw [this] at ho1
        simp at ho1
        subst ho1
        exact ImO.refl _
  · exact S
theorem Sim4.tb (S : Sim4 N w0 st a w) (l k e s : Nat) (t : Ty) : Sim4 N w0 (tbS st l k e s t) a w := by
  unfold tbS
  split
  · rename_i c x ho
    cases hc : c.cel with
    | false => exact S
    | true =>
      simp only [cond_true]
      split
      · rename_i off u r hg hs
        have hln := S.lt ho obj_ne
        generalize hst : (⟨st.f, (st.n, .ob (.rw e s t) ([] : List t.den)) :: (l, .ob (.bx r.t) r.x) :: st.m, st.n + 1⟩ : XS) = st'
        have hf' : st'.f = st.f := by rw [← hst]
        have hm' : ∀ j, lom st'.m j = if st.n = j then .ob (.rw e s t) ([] : List t.den) else if l = j then .ob (.bx r.t) r.x else lom st.m j := fun j => by rw [← hst]; simp only [lom_cons]
        have hn' : st'.n = st.n + 1 := by rw [← hst]
        obtain ⟨_, pre, post, ⟨l1, l2⟩, h4⟩ := getF_spec k c x off _ hc hg
        obtain ⟨_, h5, _, _⟩ := h4 ⟨.sr st.n, ()⟩ r rfl hs
        have l1 : (rep c x).cells = pre ++ [.d (.v (.slice none 0 0))] ++ post := l1
        have h5 : (rep r.t r.x).cells = pre ++ [.srf st.n] ++ post := h5
        obtain ⟨M, hN, hM, _⟩ := bnd2 N st.f st.f
        have hM' : ∀ i, M ≤ i → (look st'.f i).fv = .dead := by rw [hf']; exact hM
        have hm0 : (absS M st).m[l]? = some (.box (rep c x).cells) := by rw [absS_at hln, ho]; rfl
        have S1 : Sim N w0 ⟨(absS M st).f, (absS M st).m.set l (.box ((rep c x).cells.set off (.srf (absS M st).m.length))) ++ [.row e s []]⟩ a w :=
          Sim.thawB (l := l) (off := off) (e := e) (s := s) (S.can hM) (by
            unfold thawB
            rw [hm0]
            simp only
            rw [l1]
            subst l2
            simp)
        have hcs : (rep c x).cells.set off (.srf (absS M st).m.length) = (rep r.t r.x).cells := by
          rw [absS_len, l1, h5]
          subst l2
          simp
        rw [hcs] at S1
        obtain ⟨ow, hd, hk, W⟩ := S1
        refine Sim4.mk hN hM' (fun j hj => ?_) ⟨ow, hd, hk, W.tell (C := fun _ _ _ _ => True) trivial (by simp [absS, hn']) (fun j u hu => ?_) fun j o o' ho1 ho2 => ?_⟩
        · rw [hm', if_neg (by omega), if_neg (by omega)]; exact S.fr j (by omega)
        · rw [absS_slot hM', hf']
          simp only at hu
          rw [absS_slot hM] at hu
          exact hu
        · obtain ⟨j1, rfl⟩ := absS_back ho2
          rw [hm']
          simp only at ho1
          rw [List.getElem?_append] at ho1
          split at ho1
          · rename_i hlt
            rw [List.length_set, absS_len] at hlt
            rw [if_neg (by omega)]
            rw [List.getElem?_set] at ho1
            by_cases e' : l = j
            · subst e'
              rw [if_pos rfl, if_pos (by rw [absS_len]; exact hlt)] at ho1
              cases ho1
              rw [if_pos rfl]; exact ImO.refl _
            · rw [if_neg e'] at ho1
              obtain ⟨j2, rfl⟩ := absS_back ho1
              rw [if_neg e']; exact ImO.refl _
          · rename_i hge
            rw [List.length_set, absS_len] at hge ho1
            rw [if_pos (by omega)]
            have : j - st.n = 0 := by omega
            rw [this] at ho1
            simp at ho1
            subst ho1
            exact ImO.refl _
      · exact S
  · exact S
/-- an object at another place -/
theorem Sim4.mvG (S : Sim4 N w0 st a w) {l : Nat} {o : XO} (ho : lom st.m l = o) (hlv : (absO o).live = true) (ht : (absO o).tag = none) (hi : ∀ c ow w h A A' hd hd', RO A hd c ow w h (absO o) → RO A' hd' c ow w h (absO o)) :
    Sim4 N w0 ⟨st.f.map fun q => (q.1, mvV l st.n q.2.t q.2.x), (st.n, o) :: (l, .none) :: mapM (mvO l st.n) st.m, st.n + 1⟩ a w := by
  have hfr : o ≠ .free := by intro e; rw [e] at hlv; simp [absO, PO.live] at hlv
  have hln := S.lt ho hfr
  generalize hst : (⟨st.f.map fun q => (q.1, mvV l st.n q.2.t q.2.x), (st.n, o) :: (l, .none) :: mapM (mvO l st.n) st.m, st.n + 1⟩ : XS) = st'
  have hf' : ∀ i, look st'.f i = mvV l st.n (look st.f i).t (look st.f i).x := fun i => by rw [← hst]; exact look_map (mvV l st.n) rfl i st.f
  have hm' : ∀ j, lom st'.m j = if st.n = j then o else if l = j then .none else mvO l st.n (lom st.m j) := fun j => by rw [← hst]; simp only [lom_cons]; rw [lom_mapM _ rfl]
  have hn' : st'.n = st.n + 1 := by rw [← hst]
  obtain ⟨M, hN, hM, hM'⟩ := bnd2 N st.f st'.f
  obtain ⟨ow, hd, hk, W⟩ := S.can hM
  have W1 := W.room 1
  have e1 : ((absS M st).m ++ List.replicate 1 PO.free)[l]? = some (absO o) := by rw [List.getElem?_append_left (by rw [absS_len]; exact hln), absS_at hln, ho]
  have e2 : ((absS M st).m ++ List.replicate 1 PO.free)[st.n]? = some .free := by
    rw [List.getElem?_append_right (by rw [absS_len]; exact Nat.le_refl _), absS_len]; simp
  obtain ⟨W2, hmono, hal, hh⟩ := W1.shift (l := l) (nl := st.n) e1 hlv ht e2 (fun c ow w h A A' hd' _ hr => hi _ _ _ _ _ _ _ _ hr)
  have W3 := W2.tell (st' := absS M st') (C := fun A hd _ _ => A st.n = true ∧ hd st.n = hd l) ⟨hal, hh⟩ (by simp [absS, hn']) (fun j u hu => ?_) fun j p p' ho1 ho2 => ?_
  · exact Sim4.mk hN hM' (fun j hj => by rw [hm', if_neg (by omega), if_neg (by omega), S.fr j (by omega)]; rfl) ⟨ow, _, hk, W3⟩
  · rw [absS_slot hM', hf']
    simp only at hu
    rw [absS_slot hM] at hu
    exact (trV_im (lmv_im ⟨hal, hh⟩) _ _).f u hu
  · obtain ⟨j1, rfl⟩ := absS_back ho2
    rw [hm']
    simp only at ho1
    by_cases e : st.n = j
    · subst e
      rw [List.getElem?_set, if_pos rfl, if_pos (by simp [absS_len])] at ho1
      cases ho1
      rw [if_pos rfl]; exact ImO.refl _
    · rw [if_neg e]
      rw [List.getElem?_set, if_neg e, List.getElem?_set] at ho1
      by_cases e' : l = j
      · subst e'
        rw [if_pos rfl, if_pos (by simp [absS_len]; omega)] at ho1
        cases ho1
        rw [if_pos rfl]; exact ImO.refl _
      · rw [if_neg e'] at ho1 ⊢
        rw [List.getElem?_append_left (by rw [absS_len]; omega)] at ho1
        obtain ⟨j2, rfl⟩ := absS_back ho1
        cases lom st.m j with
        | ob k x =>
          cases k with
          | bx t => exact ImO.box fun A hd ow w us hC => (trV_im (lmv_im hC) t x).c us
          | _ => exact ImO.refl _
        | _ => exact ImO.refl _
theorem Sim4.mv (S : Sim4 N w0 st a w) (l : Nat) : Sim4 N w0 (mvS st l) a w := by
  unfold mvS
  split
  · rename_i e s c xs ho
    exact S.mvG ho rfl rfl fun c ow w h A A' hd hd' hr => hr
  · rename_i a b D ho
    exact S.mvG ho rfl rfl fun c ow w h A A' hd hd' hr => by
      obtain ⟨h1, vs, h2, h3⟩ := hr
      refine ⟨h1, vs, ?_, h3⟩
      simp only [RFL] at h2 ⊢
      exact h2
  · exact S
/-- what is kept is told as it was -/
def Kpd (kp : List Nat) (o : Nat → XO) (st : XS) : Prop := ∀ k ∈ kp, lom st.m k = o k
theorem freeOf_spec {kp : List Nat} {m : List (Nat × XO)} {l : Nat} (h : freeOf kp m l = true) : ∀ k ∈ kp, l ≠ k ∧ l ∉ locsO (lom m k) := by
  intro k hk
  have := List.all_eq_true.1 h k hk
  simp only [Bool.and_eq_true, Bool.not_eq_true'] at this
  refine ⟨fun e => ?_, fun hm => ?_⟩
  · rw [e] at this; simp at this
  · rw [memN_iff.2 hm] at this; cases this.2
theorem sil1_good (S : Sim4 N w0 st a w) : ∀ s : Sil, Sim4 N w0 (sil1 st s) a w
  | .fz l => S.fz l
  | .fs i => by
    simp only [sil1]
    split
    · exact S.fz _
    · exact S
  | .fb l => S.fb l
  | .nb l c => S.nb l c
  | .ns i c => S.ns i c
  | .th i e s t => S.th i e s t
  | .tb l k e s t => S.tb l k e s t
  | .nbs i c => by
    simp only [sil1]
    split
    · exact S.nb _ c
    · exact S
  | .tbs i k e s t => by
    simp only [sil1]
    split
    · exact S.tb _ k e s t
    · exact S
theorem fzS_kpd {kp : List Nat} {o : Nat → XO} {l : Nat} (hf : freeOf kp st.m l = true) (hk : Kpd kp o st) : Kpd kp o (fzS st l) := by
  intro k hkk
  obtain ⟨h1, h2⟩ := freeOf_spec hf k hkk
  unfold fzS
  split
  · rename_i e s c xs ho
    cases hb : (c.dat && Nat.beq s c.sz) with
    | false => exact hk k hkk
    | true =>
      simp only [cond_true]
      rw [lom_cons, if_neg h1, lom_mapM _ rfl]; exact (fzO_id h2).trans (hk k hkk)
  · exact hk k hkk
theorem nbS_kpd {kp : List Nat} {o : Nat → XO} (hk : Kpd kp o st) {l : Nat} {c : Ty} (h : (!memN l kp) = true) : Kpd kp o (nbS st l c) := by
  intro k hkk
  simp only [Bool.not_eq_true'] at h
  unfold nbS
  split
  · split
    · simp only
      rw [lom_cons, if_neg]
      · exact hk k hkk
      · intro e; subst e; rw [memN_iff.2 hkk] at h; cases h
    · exact hk k hkk
  · exact hk k hkk
theorem tbS_kpd {kp : List Nat} {o : Nat → XO} (S : Sim4 N w0 st a w) (hne : ∀ k ∈ kp, o k ≠ .free) (hk : Kpd kp o st) {l q e s : Nat} {t : Ty} (h : (!memN l kp) = true) : Kpd kp o (tbS st l q e s t) := by
  intro k hkk
  have := S.lt (hk k hkk) (hne k hkk)
  simp only [Bool.not_eq_true'] at h
  have hlk : l ≠ k := by intro e; subst e; rw [memN_iff.2 hkk] at h; cases h
  unfold tbS
  split
  · rename_i c x ho
    cases c.cel with
    | false => exact hk k hkk
    | true =>
      simp only [cond_true]
      split
      · simp only
        rw [lom_cons, if_neg (by omega), lom_cons, if_neg hlk]; exact hk k hkk
      · exact hk k hkk
  · exact hk k hkk
theorem sil1_kpd {kp : List Nat} {o : Nat → XO} (S : Sim4 N w0 st a w) (hne : ∀ k ∈ kp, o k ≠ .free) (hk : Kpd kp o st) : ∀ s : Sil, silW kp st s = true → Kpd kp o (sil1 st s)
  | .fz l, h => fzS_kpd h hk
  | .fs i, h => by
    simp only [sil1, silW] at h ⊢
    split
    · rename_i l e; rw [e] at h; exact fzS_kpd h hk
    · exact hk
  | .fb l, h => by
    intro k hkk
    obtain ⟨h1, h2⟩ := freeOf_spec h k hkk
    simp only [sil1]
    split
    · rename_i c y ho
      cases hb : c.dat with
      | false => exact hk k hkk
      | true =>
        simp only [cond_true]
        rw [lom_cons, if_neg h1, lom_mapM _ rfl]; exact (fbO_id h2).trans (hk k hkk)
    · exact hk k hkk
  | .nb l c, h => nbS_kpd hk h
  | .ns i c, h => by
    simp only [sil1]
    split
    · exact hk
    · exact hk
  | .th i e s t, h => by
    intro k hkk
    have := S.lt (hk k hkk) (hne k hkk)
    simp only [sil1]
    split
    · simp only
      rw [lom_cons, if_neg (by omega)]; exact hk k hkk
    · exact hk k hkk
  | .tb l q e s t, h => tbS_kpd S hne hk h
  | .nbs i c, h => by
    simp only [sil1, silW] at h ⊢
    split
    · rename_i l _ e; rw [e] at h; exact nbS_kpd hk h
    · exact hk
  | .tbs i q e s t, h => by
    simp only [sil1, silW] at h ⊢
    split
    · rename_i l _ e'; rw [e'] at h; exact tbS_kpd S hne hk h
    · exact hk
theorem silS_good {kp : List Nat} {o : Nat → XO} (hne : ∀ k ∈ kp, o k ≠ .free) : ∀ (l : List Sil) {st : XS}, Sim4 N w0 st a w → Kpd kp o st → Sim4 N w0 (silS kp l st) a w ∧ Kpd kp o (silS kp l st)
  | [], st, S, hk => ⟨S, hk⟩
  | s :: r, st, S, hk => by
    simp only [silS]
    cases h : silW kp st s with
    | true => exact silS_good hne r (sil1_good S s) (sil1_kpd S hne hk s h)
    | false => exact silS_good hne r S hk
theorem mvS_kpd {kp : List Nat} {o : Nat → XO} {l : Nat} (S : Sim4 N w0 st a w) (hne : ∀ k ∈ kp, o k ≠ .free) (hf : freeOf kp st.m l = true) (hk : Kpd kp o st) : Kpd kp o (mvS st l) := by
  intro k hkk
  obtain ⟨h1, h2⟩ := freeOf_spec hf k hkk
  have := S.lt (hk k hkk) (hne k hkk)
  unfold mvS
  split
  · simp only
    rw [lom_cons, if_neg (by omega), lom_cons, if_neg h1, lom_mapM _ rfl, mvO_id h2]; exact hk k hkk
  · simp only
    rw [lom_cons, if_neg (by omega), lom_cons, if_neg h1, lom_mapM _ rfl, mvO_id h2]; exact hk k hkk
  · exact hk k hkk
theorem mvAll_good {kp : List Nat} {o : Nat → XO} (hne : ∀ k ∈ kp, o k ≠ .free) : ∀ (ks : List OK) (i : Nat) {st : XS}, Sim4 N w0 st a w → Kpd kp o st → Sim4 N w0 (mvAll kp i ks st) a w ∧ Kpd kp o (mvAll kp i ks st)
  | [], i, st, S, hk => ⟨S, hk⟩
  | q :: r, i, st, S, hk => by
    cases q with
    | no =>
      simp only [mvAll]
      cases h : freeOf kp st.m i with
      | true => exact mvAll_good hne r (i + 1) (S.mv i) (mvS_kpd S hne h hk)
      | false => exact mvAll_good hne r (i + 1) S hk
    | _ => exact mvAll_good hne r (i + 1) S hk
theorem reach_pre (m : List (Nat × XO)) : ∀ (n : Nat) (acc todo : List Nat), ∃ t, reach m n acc todo = acc ++ t
  | 0, acc, todo => ⟨[], by simp [reach]⟩
  | n + 1, acc, [] => ⟨[], by simp [reach]⟩
  | n + 1, acc, l :: todo => by
    simp only [reach]
    cases memN l acc with
    | true => exact reach_pre m n acc todo
    | false =>
      simp only [cond_false]
      split
      · obtain ⟨t, h⟩ := reach_pre m n (acc ++ [l]) _
        exact ⟨[l] ++ t, by rw [h, List.append_assoc]⟩
      · obtain ⟨t, h⟩ := reach_pre m n (acc ++ [l]) todo
        exact ⟨[l] ++ t, by rw [h, List.append_assoc]⟩
      · obtain ⟨t, h⟩ := reach_pre m n (acc ++ [l]) _
        exact ⟨[l] ++ t, by rw [h, List.append_assoc]⟩
      · exact reach_pre m n acc todo
theorem idxD_pre {s t : List Nat} {h k : Nat} (hs : s = List.range h ++ t) (hn : nodup s = true) (hk : k < h) : s[k]? = some k ∧ idxD s k = k := by
  have h1 : s[k]? = some k := by rw [hs, List.getElem?_append_left (by simpa using hk), List.getElem?_range hk]
  exact ⟨h1, nodup_get hn _ _ k (idx_get (idx_mem (List.mem_of_getElem? h1))) h1⟩
theorem rnV_id {g : Nat → Nat} : ∀ (t : Ty) (x : t.den), (∀ l ∈ locsT t, g l = l) → rnV g ⟨t, x⟩ = ⟨t, x⟩
  | .pr a b, x, h => by
    simp only [locsT, List.mem_append] at h
    have ha := rnV_id a (p1 x) fun l hl => h l (.inl hl)
    have hb := rnV_id b (p2 x) fun l hl => h l (.inr hl)
    have e : rnV g ⟨.pr a b, x⟩ = (fun u v : XV => (⟨.pr u.t v.t, pmk u.x v.x⟩ : XV)) (rnV g ⟨a, p1 x⟩) (rnV g ⟨b, p2 x⟩) := rfl
    rw [e, ha, hb]; rfl
  | .cl q t, x, h => by
    have ha := rnV_id t x fun l hl => h l hl
    have e : rnV g ⟨.cl q t, x⟩ = (fun u : XV => (⟨.cl q u.t, u.x⟩ : XV)) (rnV g ⟨t, x⟩) := rfl
    rw [e, ha]
  | .ic q t, x, h => by
    have ha := rnV_id t x fun l hl => h l hl
    have e : rnV g ⟨.ic q t, x⟩ = (fun u : XV => (⟨.ic q u.t, u.x⟩ : XV)) (rnV g ⟨t, x⟩) := rfl
    rw [e, ha]
  | .tp t, x, h => by
    have ha := rnV_id t x fun l hl => h l hl
    have e : rnV g ⟨.tp t, x⟩ = (fun u : XV => (⟨.tp u.t, u.x⟩ : XV)) (rnV g ⟨t, x⟩) := rfl
    rw [e, ha]
  | .rf l p, x, h => by
    have : g l = l := h l (by simp [locsT])
    show (⟨.rf (g l) p, x⟩ : XV) = _
    rw [this]
  | .ep l s p, x, h => by
    have : g l = l := h l (by simp [locsT])
    show (⟨.ep (g l) s p, x⟩ : XV) = _
    rw [this]
  | .sr l, x, h => by
    have : g l = l := h l (by simp [locsT])
    show (⟨.sr (g l), x⟩ : XV) = _
    rw [this]
  | .ss l s, x, h => by
    have : g l = l := h l (by simp [locsT])
    show (⟨.ss (g l) s, x⟩ : XV) = _
    rw [this]
  | .as l p n s ag, x, h => by
    have : g l = l := h l (by simp [locsT])
    show (⟨.as (g l) p n s ag, x⟩ : XV) = _
    rw [this]
  | .i _, x, h | .bl, x, h | .str, x, h | .un, x, h | .ar _ _, x, h | .sl _, x, h | .ns, x, h | .nz _, x, h | .vp _, x, h | .np _ _, x, h | .vm _, x, h | .dp _ _, x, h | .mc _ _, x, h | .sm _ _, x, h | .ud, x, h | .dead, x, h => rfl
theorem rnO_id {g : Nat → Nat} {o : XO} (h : ∀ l ∈ locsO o, g l = l) : rnO g o = o := by
  cases o with
  | ob k x =>
    cases k with
    | bx t =>
      have e : rnO g (.ob (.bx t) x) = (fun u : XV => XO.ob (.bx u.t) u.x) (rnV g ⟨t, x⟩) := rfl
      rw [e, rnV_id t x h]
    | _ => rfl
  | gh k v =>
    have e : rnO g (.gh k v) = .gh k (rnV g ⟨v.t, v.x⟩) := rfl
    rw [e, rnV_id v.t v.x h]
  | ex e =>
    cases e with
    | gs => rfl
    | lk a b lg D => show XO.ex (.lk a b (g lg) D) = _; rw [h lg (by simp [locsO, locsE])]
    | ah q a b i lg Ds => show XO.ex (.ah q a b i (g lg) Ds) = _; rw [h lg (by simp [locsO, locsE])]
    | it a b own l lg rest cur pl =>
      cases own with
      | true => show XO.ex (.it a b true (g l) (g lg) rest cur pl) = _; rw [h lg (by simp [locsO, locsE]), h l (by simp [locsO, locsE])]
      | false => show XO.ex (.it a b false l (g lg) rest cur pl) = _; rw [h lg (by simp [locsO, locsE])]
  | _ => rfl
theorem enumM_at : ∀ (os : List XO) (i j : Nat), lom (enumM i os) (i + j) = os.getD j .free
  | [], i, j => rfl
  | o :: r, i, 0 => by simp [enumM, lom_cons]
  | o :: r, i, j + 1 => by
    simp only [enumM]
    rw [lom_cons, if_neg (by omega), show i + (j + 1) = i + 1 + j by omega, enumM_at r (i + 1) j]
    simp [List.getD_eq_getElem?_getD]
theorem look_live (F : Nat → XV) (i : Nat) : ∀ live : List Nat, look (live.map fun i => (i, F i)) i = if i ∈ live then F i else dd
  | [] => rfl
  | k :: r => by
    rw [List.map_cons, look_cons, look_live F i r]
    by_cases e : k = i
    · subst e; simp
    · rw [if_neg e]; simp [Ne.symm e]
theorem okV_ren {s : List Nat} {v : XV} (h : okV s v = true) : ren s v.fv = (rnV (idxD s) v).fv := by
  simp only [okV, Bool.and_eq_true, List.all_eq_true] at h
  exact (ren_rep s v.t v.x h.1 fun l hl => memN_iff.1 (h.2 l hl)).f
theorem okO_ren {s : List Nat} {o : XO} (h : okO s o = true) : renO s (absO o) = absO (rnO (idxD s) o) := by
  cases o with
  | ob k x =>
    cases k with
    | bx t =>
      simp only [okO, Bool.and_eq_true, List.all_eq_true] at h
      exact congrArg PO.box (ren_rep s t x h.1 fun l hl => memN_iff.1 (h.2 l hl)).c
    | _ => rfl
  | gh k v => exact congrArg (PO.gh k) (okV_ren h)
  | ex e =>
    simp only [okO, List.all_eq_true] at h
    have hl : ∀ l ∈ locsE e, ren s (.srf l) = .srf (idxD s l) := fun l hl => by
      have hm := memN_iff.1 (h l hl)
      exact (ren_rep s (.sr l) () rfl fun q hq => by simp [locsT] at hq; rw [hq]; exact hm).f
    cases e with
    | gs => rfl
    | lk a b lg D => exact congrArg (fun x => PO.cu (lkC a b D) [x]) (hl lg (by simp [locsE]))
    | ah q a b i lg Ds => exact congrArg (fun x => PO.cu (ahC q a b i Ds) [x]) (hl lg (by simp [locsE]))
    | it a b own l lg rest cur pl => exact congrArg (fun x => PO.cu (itC a b rest cur) [x]) (hl lg (by cases own <;> simp [locsE]))
  | _ => rfl
theorem renM_length (m : List PO) (s : List Nat) : ∀ r : List Nat, (renM m s r).length = r.length
  | [] => rfl
  | l :: r => by simp only [renM, List.length_cons, renM_length m s r]
/-- only these slots, only these objects, renamed -/
theorem canon_sim (S : Sim4 N w0 st a w) (live s : List Nat) (h1 : ∀ i ∈ live, okV s (look st.f i) = true) (h2 : s.all (fun l => okO s (lom st.m l)) = true) (h3 : nodup s = true) :
    Sim4 N w0 ⟨live.map fun i => (i, rnV (idxD s) (look st.f i)), enumM 0 (s.map fun l => rnO (idxD s) (lom st.m l)), s.length⟩ a w := by
  generalize hst : (⟨live.map fun i => (i, rnV (idxD s) (look st.f i)), enumM 0 (s.map fun l => rnO (idxD s) (lom st.m l)), s.length⟩ : XS) = st'
  have hf' : ∀ i, look st'.f i = if i ∈ live then rnV (idxD s) (look st.f i) else dd := fun i => by rw [← hst]; exact look_live (fun i => rnV (idxD s) (look st.f i)) i live
  have hm' : ∀ j, lom st'.m j = (s.map fun l => rnO (idxD s) (lom st.m l)).getD j .free := fun j => by
    rw [← hst]
    have := enumM_at (s.map fun l => rnO (idxD s) (lom st.m l)) 0 j
    rw [Nat.zero_add] at this
    exact this
  have hn' : st'.n = s.length := by rw [← hst]
  obtain ⟨M, hN, hM, hM'⟩ := bnd2 N st.f st'.f
  obtain ⟨ow, hd, hk, W⟩ := (S.can hM).keep s live h3
  refine Sim4.mk hN hM' (fun j hj => ?_) ⟨ow, hd, hk, W.tell (C := fun _ _ _ _ => True) trivial (by rw [absS_len, hn']; exact (renM_length _ _ _).symm) (fun i u hu => ?_) fun j o o' ho1 ho2 => ?_⟩
  · rw [hm', List.getD_eq_getElem?_getD, List.getElem?_eq_none (by rw [List.length_map]; omega)]; rfl
  · rw [absS_slot hM', hf']
    by_cases hi : i ∈ live
    · rw [if_pos hi]
      rw [← okV_ren (h1 i hi)]
      have hu : RF _ _ ow w ((keepF s live 0 (absS M st).f).getD i .dead) u := hu
      rw [List.getD_eq_getElem?_getD, keepF_get] at hu
      have hsl := absS_slot hM i
      rw [List.getD_eq_getElem?_getD] at hsl
      cases hx : (absS M st).f[i]? with
      | none =>
        rw [hx] at hsl
        have hsl : FV.dead = (look st.f i).fv := hsl
        rw [← hsl]; simp only [ren, RF]
      | some x =>
        rw [hx] at hsl hu
        have hsl : x = (look st.f i).fv := hsl
        simp only [Option.map_some, Option.getD_some] at hu
        have : live.any (Nat.beq (0 + i)) = true := by rw [Nat.zero_add]; exact memN_iff.2 hi
        rw [this, hsl] at hu
        exact hu
    · rw [if_neg hi]; simp [dd, XV.fv, XV.rep, rep, RF]
  · obtain ⟨j1, rfl⟩ := absS_back ho2
    rw [hn'] at j1
    have hj : s[j]? = some s[j] := List.getElem?_eq_getElem j1
    have e1 := renM_at (absS M st).m s s j _ hj
    have ho1 : (renM (absS M st).m s s)[j]? = some o := ho1
    rw [e1] at ho1
    cases ho1
    have e3 : lom st'.m j = rnO (idxD s) (lom st.m s[j]) := by
      rw [hm', List.getD_eq_getElem?_getD, List.getElem?_map, hj]; rfl
    rw [e3]
    have e2 : (absS M st).m.getD s[j] .free = absO (lom st.m s[j]) := by
      rw [List.getD_eq_getElem?_getD]
      rcases Nat.lt_or_ge s[j] st.n with hlt | hge
      · rw [absS_at hlt]; rfl
      · rw [List.getElem?_eq_none (by rw [absS_len]; exact hge), S.fr _ hge]; rfl
    rw [e2, okO_ren (List.all_eq_true.1 h2 _ (List.getElem_mem j1))]
    exact ImO.refl _
theorem canonX_good {kp : List Nat} {o : Nat → XO} {ks : List OK} {live : List Nat} {st' : XS} (S : Sim4 N w0 st a w) (hne : ∀ k ∈ kp, o k ≠ .free) (hlo : ∀ k ∈ kp, k < ks.length ∧ ∀ l ∈ locsO (o k), l < ks.length) (hk : Kpd kp o st) (h : canonX kp ks live st = some st') : Sim4 N w0 st' a w ∧ Kpd kp o st' := by
  obtain ⟨S1, hk1⟩ := mvAll_good hne ks 0 S hk
  unfold canonX at h
  simp only at h
  generalize mvAll kp 0 ks st = st1 at *
  generalize hs : reach st1.m 400 (List.range (2 * ks.length)) ((List.range (2 * ks.length)).flatMap (fun l => locsO (lom st1.m l)) ++ (live.map fun i => (i, look st1.f i)).flatMap fun q => locsT q.2.t) = s at h
  obtain ⟨t, ht⟩ := reach_pre st1.m 400 (List.range (2 * ks.length)) ((List.range (2 * ks.length)).flatMap (fun l => locsO (lom st1.m l)) ++ (live.map fun i => (i, look st1.f i)).flatMap fun q => locsT q.2.t)
  rw [hs] at ht
  obtain ⟨hb, h⟩ := cond_some h
  simp only [Bool.and_eq_true] at hb
  obtain ⟨⟨b1, b2⟩, b3⟩ := hb
  simp only [Option.some.injEq] at h
  have hmm : (live.map fun i => (i, look st1.f i)).map (fun q : Nat × XV => (q.1, rnV (idxD s) q.2)) = live.map fun i => (i, rnV (idxD s) (look st1.f i)) := by rw [List.map_map]; rfl
  rw [hmm] at h
  subst h
  refine ⟨canon_sim S1 live s (fun i hi => ?_) b2 b3, fun k hkk => ?_⟩
  · have := List.all_eq_true.1 b1 (i, look st1.f i) (List.mem_map.2 ⟨i, hi, rfl⟩)
    exact this
  · obtain ⟨k1, k2⟩ := hlo k hkk
    obtain ⟨e1, _⟩ := idxD_pre (k := k) ht b3 (by omega)
    have := enumM_at (s.map fun l => rnO (idxD s) (lom st1.m l)) 0 k
    rw [Nat.zero_add] at this
    rw [this, List.getD_eq_getElem?_getD, List.getElem?_map, e1]
    simp only [Option.map_some, Option.getD_some]
    rw [hk1 k hkk]
    exact rnO_id fun l hl => (idxD_pre (k := l) ht b3 (by have := k2 l hl; omega)).2
theorem cutX_good {kp : List Nat} {o : Nat → XO} {ks : List OK} {c : Cut} {st' : XS} (S : Sim4 N w0 st a w) (hne : ∀ k ∈ kp, o k ≠ .free) (hlo : ∀ k ∈ kp, k < ks.length ∧ ∀ l ∈ locsO (o k), l < ks.length) (hk : Kpd kp o st) (h : cutX kp ks c st = some st') : Sim4 N w0 st' a w ∧ Kpd kp o st' := by
  obtain ⟨S1, hk1⟩ := silS_good hne c.sil S hk
  exact canonX_good S1 hne hlo hk1 h
end
end Go.Proofs.YtnkdanobhgofbaaGreatDoor.pv
