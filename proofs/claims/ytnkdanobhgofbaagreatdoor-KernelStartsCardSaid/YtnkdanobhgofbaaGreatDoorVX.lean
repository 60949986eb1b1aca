/- The interpreter's silent steps. -/
import Derived.Test.YtnkdanobhgofbaaGreatDoorVW
namespace Go.Proofs.YtnkdanobhgofbaaGreatDoor.pv
set_option linter.all false
open Go.RowKit
/-- a nil slice as an empty row of one's own -/
def thaw1 (st : PS) (i e s : Nat) : Option PS := match st.f[i]? with
  | some (.d (.v (.slice none 0 0))) => some ⟨st.f.set i (.srf st.m.length), st.m ++ [.row e s []]⟩
  | _ => none
section
variable {n : Nat}
theorem Sim.thaw1 {w0 : Cx} {st st' : PS} {a : Act} {w : World} {i e s : Nat} (S : Sim n w0 st a w) (h : pv.thaw1 st i e s = some st') : Sim n w0 st' a w := by
  unfold pv.thaw1 at h
  split at h
  · rename_i hi
    simp at h; subst h
    obtain ⟨ow, hd, hold, S⟩ := S
    have ha : ∀ j, al st.m j = true → al (st.m ++ [.row e s []]) j = true ∧ upd hd st.m.length (.slice none 0 0) j = hd j := by
      intro j hj
      have hlt : j < st.m.length := by
        unfold al at hj
        rcases Nat.lt_or_ge j st.m.length with h' | h'
        · exact h'
        · rw [List.getElem?_eq_none h'] at hj; cases hj
      refine ⟨?_, upd_ne _ _ (by omega)⟩
      unfold al at hj ⊢
      rw [List.getElem?_append_left hlt]; exact hj
    have back : ∀ {j : Nat} {oj : PO}, (st.m ++ [PO.row e s []])[j]? = some oj → (j < st.m.length ∧ st.m[j]? = some oj) ∨ (j = st.m.length ∧ oj = .row e s []) := by
      intro j oj hj
      rw [List.getElem?_append] at hj
      split at hj
      · exact .inl ⟨‹_›, hj⟩
      · right
        rename_i hge
        cases hk : j - st.m.length with
        | zero => rw [hk] at hj; simp at hj; exact ⟨by omega, hj.symm⟩
        | succ k => rw [hk] at hj; simp at hj
    have hal : al (st.m ++ [PO.row e s []]) st.m.length = true := by simp [al, PO.made]
    refine ⟨ow, upd hd st.m.length (.slice none 0 0), hold, { below := S.below, fresh := S.fresh, objs := fun j oj hj => ?_, dist := ?_, tags := S.tags.id fun j oj g hj hg => ?_, defers := S.defers, size := S.size, slots := fun k => ?_ }⟩
    · rcases back hj with ⟨hlt, hj⟩ | ⟨rfl, rfl⟩
      · rw [upd_ne _ _ (by omega)]
        exact (S.objs j oj hj).kp (Kp.refl _ _) ha (fun b _ _ => ⟨rfl, rfl⟩) fun _ _ => rfl
      · rw [upd_same]
        exact ⟨[], World.ownsRow_nil _ _ _ _, fun b hb => by simp [blocksOf, blockOf] at hb, by simp [RE]⟩
    · intro j j' oj oj' b hne hj hj' hl hl' hb hb'
      rcases back hj with ⟨hlt, hj⟩ | ⟨rfl, rfl⟩
      · rw [upd_ne _ _ (by omega)] at hb
        rcases back hj' with ⟨hlt', hj'⟩ | ⟨rfl, rfl⟩
        · rw [upd_ne _ _ (by omega)] at hb'
          exact S.dist j j' oj oj' b hne hj hj' hl hl' hb hb'
        · rw [upd_same] at hb'; simp [blocksOf, blockOf] at hb'
      · rw [upd_same] at hb; simp [blocksOf, blockOf] at hb
    · rcases back hj with ⟨hlt, hj⟩ | ⟨rfl, rfl⟩
      · exact ⟨oj, hj, hg⟩
      · cases hg
    · have hlt : i < st.f.length := (List.getElem?_eq_some_iff.1 hi).1
      by_cases hk : k = i
      · subst hk
        have hs := S.slots k
        rw [List.getD_eq_getElem?_getD, hi] at hs
        simp only [Option.getD_some, RF, R] at hs
        rw [List.getD_eq_getElem?_getD, List.getElem?_set, if_pos rfl, if_pos hlt]
        simp only [Option.getD_some, RF]
        exact ⟨hal, by rw [upd_same]; exact hs.1, by rw [upd_same]; rfl⟩
      · rw [List.getD_eq_getElem?_getD, List.getElem?_set, if_neg (fun e => hk e.symm), ← List.getD_eq_getElem?_getD]
        exact RF.mono (Kp.refl _ _) ha _ _ (S.slots k)
  · cases h
end

def absS (M : Nat) (st : XS) : PS := ⟨(List.range M).map fun i => (look st.f i).fv, (List.range st.n).map fun l => absO (lom st.m l)⟩
section
variable {N M : Nat} {w0 : Cx} {st : XS} {a : Act} {w : World}
theorem absS_slot (hM : ∀ i, M ≤ i → (look st.f i).fv = .dead) (i : Nat) : (absS M st).f.getD i .dead = (look st.f i).fv := by
  simp only [absS]
  rw [List.getD_eq_getElem?_getD, List.getElem?_map]
  rcases Nat.lt_or_ge i M with h | h
  · rw [List.getElem?_range h]; simp
  · rw [List.getElem?_eq_none (by simp; omega)]; simp [hM i h]
theorem absS_at {l : Nat} (h : l < st.n) : (absS M st).m[l]? = some (absO (lom st.m l)) := by
  simp only [absS]
  rw [List.getElem?_map, List.getElem?_range h]; simp
theorem absS_len : (absS M st).m.length = st.n := by simp [absS]
theorem absS_back {l : Nat} {o : PO} (h : (absS M st).m[l]? = some o) : l < st.n ∧ o = absO (lom st.m l) := by
  have h1 := (List.getElem?_eq_some_iff.1 h).1
  rw [absS_len] at h1
  rw [absS_at h1] at h
  exact ⟨h1, by cases h; rfl⟩
theorem bnd : ∀ (f : List (Nat × XV)), ∃ M, ∀ i, M ≤ i → look f i = dd
  | [] => ⟨0, fun _ _ => rfl⟩
  | (k, v) :: f => by
    obtain ⟨M, h⟩ := bnd f
    refine ⟨M + k + 1, fun i hi => ?_⟩
    rw [look_cons, if_neg (by omega)]
    exact h i (by omega)
theorem bnd2 (N : Nat) (f f' : List (Nat × XV)) : ∃ M, N ≤ M ∧ (∀ i, M ≤ i → (look f i).fv = .dead) ∧ (∀ i, M ≤ i → (look f' i).fv = .dead) := by
  obtain ⟨M1, h1⟩ := bnd f
  obtain ⟨M2, h2⟩ := bnd f'
  exact ⟨N + M1 + M2, by omega, fun i hi => by rw [h1 i (by omega)]; rfl, fun i hi => by rw [h2 i (by omega)]; rfl⟩
theorem Sim4.fr (S : Sim4 N w0 st a w) : ∀ l, st.n ≤ l → lom st.m l = .free := by
  obtain ⟨ps, A, hn, _⟩ := S
  intro l hl
  exact A.fr l (by omega)
theorem Sim4.can (S : Sim4 N w0 st a w) (hM : ∀ i, M ≤ i → (look st.f i).fv = .dead) : Sim N w0 (absS M st) a w := by
  obtain ⟨ps, A, hn, ow, hd, hk, W⟩ := S
  refine ⟨ow, hd, hk, W.tell (C := fun _ _ _ _ => True) trivial (by rw [absS_len, hn]) (fun i u h => ?_) fun l o o' ho ho' => ?_⟩
  · rw [absS_slot hM]
    rcases A.sl i with e | e
    · rw [e]; simp only [RF]
    · rw [← e]; exact h
  · obtain ⟨h1, rfl⟩ := absS_back ho'
    rw [A.ob l (by omega)] at ho
    cases ho
    exact ImO.refl _
theorem Sim4.mk (hN : N ≤ M) (hM : ∀ i, M ≤ i → (look st.f i).fv = .dead) (fr : ∀ l, st.n ≤ l → lom st.m l = .free) (S : Sim N w0 (absS M st) a w) : Sim4 N w0 st a w := by
  refine ⟨absS M st, ⟨by simp [absS]; exact hN, fun i => .inr (absS_slot hM i), fun l hl => absS_at (by rw [absS_len] at hl; exact hl), fun l hl => fr l (by rw [absS_len] at hl; exact hl)⟩, absS_len, S⟩
theorem Sim4.lt (S : Sim4 N w0 st a w) {l : Nat} {o : XO} (h : lom st.m l = o) (ho : o ≠ .free) : l < st.n := by
  rcases Nat.lt_or_ge l st.n with hl | hl
  · exact hl
  · exact absurd (h.symm.trans (S.fr l hl)) ho
theorem look_map (g : (t : Ty) → t.den → XV) (hg : g .dead () = dd) (i : Nat) : ∀ f : List (Nat × XV), look (f.map fun q => (q.1, g q.2.t q.2.x)) i = g (look f i).t (look f i).x
  | [] => hg.symm
  | (k, v) :: f => by
    rw [List.map_cons, look_cons, look_cons]
    by_cases e : k = i
    · rw [if_pos e, if_pos e]
    · rw [if_neg e, if_neg e]; exact look_map g hg i f
theorem lom_mapM (G : XO → XO) (hG : G .free = .free) (l : Nat) : ∀ m : List (Nat × XO), lom (mapM G m) l = G (lom m l)
  | [] => hG.symm
  | (k, o) :: m => by
    show lom ((k, G o) :: mapM G m) l = _
    rw [lom_cons, lom_cons]
    by_cases e : k = l
    · rw [if_pos e, if_pos e]
    · rw [if_neg e, if_neg e]; exact lom_mapM G hG l m
/-- what does not lead to l is told as it was -/
theorem trV_id {l : Nat} {f : (t : Ty) → t.den → XV} (hf : ∀ t x, t.leaf = true → l ∉ locsT t → f t x = ⟨t, x⟩) : ∀ (t : Ty) (x : t.den), l ∉ locsT t → trV f t x = ⟨t, x⟩
  | .pr a b, x, h => by
    simp only [locsT, List.mem_append, not_or] at h
    simp only [trV]
    rw [trV_id hf a (p1 x) h.1, trV_id hf b (p2 x) h.2]
    rfl
  | .cl g t, x, h => by
    simp only [locsT] at h
    simp only [trV]
    rw [trV_id hf t x h]
  | .ic i t, x, h => by
    simp only [locsT] at h
    simp only [trV]
    rw [trV_id hf t x h]
  | .tp t, x, h => by
    simp only [locsT] at h
    simp only [trV]
    rw [trV_id hf t x h]
  | .i _, x, h | .bl, x, h | .str, x, h | .un, x, h | .ar _ _, x, h | .sl _, x, h | .ns, x, h | .nz _, x, h | .vp _, x, h | .np _ _, x, h | .vm _, x, h | .rf _ _, x, h | .ep _ _ _, x, h | .dp _ _, x, h | .sr _, x, h | .ss _ _, x, h | .as _ _ _ _ _, x, h | .mc _ _, x, h | .sm _ _, x, h | .ud, x, h | .dead, x, h => hf _ x rfl h
theorem beq_ff {a b : Nat} (h : a ≠ b) : Nat.beq a b = false := by rw [← Bool.not_eq_true]; intro h'; exact h (Nat.eq_of_beq_eq_true h')
theorem fzO_id {l : Nat} {c : Ty} {xs : List c.den} {o : XO} (h : l ∉ locsO o) : fzO l c xs o = o := by
  cases o with
  | ob k x =>
    cases k with
    | bx t =>
      have := trV_id (l := l) (f := lfz l c xs) (fun t x _ h => by
        cases t with
        | sr j =>
          simp only [locsT, List.mem_singleton] at h
          simp only [lfz]; rw [beq_ff (Ne.symm h)]; rfl
        | _ => rfl) t x h
      simp only [fzO]
      rw [show fzV l c xs t x = ⟨t, x⟩ from this]
    | _ => rfl
  | _ => rfl
theorem fbO_id {l : Nat} {c : Ty} {y : c.den} {o : XO} (h : l ∉ locsO o) : fbO l c y o = o := by
  cases o with
  | ob k x =>
    cases k with
    | bx t =>
      have := trV_id (l := l) (f := lfb l c y) (fun t x _ h => by
        cases t with
        | rf j p =>
          simp only [locsT, List.mem_singleton] at h
          simp only [lfb]; rw [beq_ff (Ne.symm h)]; rfl
        | _ => rfl) t x h
      simp only [fbO]
      rw [show fbV l c y t x = ⟨t, x⟩ from this]
    | _ => rfl
  | _ => rfl
theorem mvO_id {l n : Nat} {o : XO} (h : l ∉ locsO o) : mvO l n o = o := by
  cases o with
  | ob k x =>
    cases k with
    | bx t =>
      have := trV_id (l := l) (f := lmv l n) (fun t x _ h => by
        cases t with
        | sr j =>
          simp only [locsT, List.mem_singleton] at h
          simp only [lmv]; rw [beq_ff (Ne.symm h)]; rfl
        | ep j s p =>
          simp only [locsT, List.mem_singleton] at h
          simp only [lmv]; rw [beq_ff (Ne.symm h)]; rfl
        | _ => rfl) t x h
      simp only [mvO]
      rw [show mvV l n t x = ⟨t, x⟩ from this]
    | _ => rfl
  | _ => rfl
section
variable {A : Nat → Bool} {hd : Nat → Value} {ow : Ow} {w : World}
theorem lfz_im {l : Nat} {c : Ty} {xs : List c.den} (h : R ow w (.sl (List.map (fun y : c.den => (rep c y).pv) xs)) (hd l)) : ∀ (t : Ty) (x : t.den), t.leaf = true → ImR A hd ow w (rep t x) (lfz l c xs t x).rep := by
  intro t x _
  cases t with
  | sr j =>
    simp only [lfz]
    cases hb : Nat.beq j l with
    | false => exact ImR.refl _
    | true =>
      have e := Nat.eq_of_beq_eq_true hb
      subst e
      refine ImR.one' rfl rfl rfl fun u hu => ?_
      have hu : RF A hd ow w (.srf j) u := hu
      show RF A hd ow w (.d (.sl (List.map (fun y : c.den => (rep c y).pv) xs))) u
      simp only [RF] at hu ⊢
      rw [hu.2.1]; exact h
  | _ => exact ImR.refl _
theorem lfb_im {l : Nat} {c : Ty} {y : c.den} (h : ∃ b, hd l = .pointer (some ⟨b, 0, none⟩) ∧ ∀ off, R ow w (.iptr (rep c y).pcs off) (.pointer (some ⟨b, off, none⟩))) : ∀ (t : Ty) (x : t.den), t.leaf = true → ImR A hd ow w (rep t x) (lfb l c y t x).rep := by
  intro t x _
  cases t with
  | rf j p =>
    simp only [lfb]
    cases hb : Nat.beq j l with
    | false => exact ImR.refl _
    | true =>
      have e := Nat.eq_of_beq_eq_true hb
      subst e
      refine ImR.one' rfl rfl rfl fun u hu => ?_
      have hu : RF A hd ow w (.ref j (offP p x)) u := hu
      show RF A hd ow w (.d (.iptr (rep c y).pcs (offP p x))) u
      simp only [RF] at hu ⊢
      obtain ⟨b, h1, h2⟩ := h
      obtain ⟨_, b', h3, h4⟩ := hu
      rw [h1] at h3
      cases h3
      rw [h4]; exact h2 _
  | _ => exact ImR.refl _
theorem lmv_im {l n : Nat} (h : A n = true ∧ hd n = hd l) : ∀ (t : Ty) (x : t.den), t.leaf = true → ImR A hd ow w (rep t x) (lmv l n t x).rep := by
  intro t x _
  cases t with
  | sr j =>
    simp only [lmv]
    cases hb : Nat.beq j l with
    | false => exact ImR.refl _
    | true =>
      have e := Nat.eq_of_beq_eq_true hb
      subst e
      refine ImR.one' rfl rfl rfl fun u hu => ?_
      have hu : RF A hd ow w (.srf j) u := hu
      show RF A hd ow w (.srf n) u
      simp only [RF] at hu ⊢
      rw [h.2]; exact ⟨h.1, hu.2⟩
  | ep j s p =>
    simp only [lmv]
    cases hb : Nat.beq j l with
    | false => exact ImR.refl _
    | true =>
      have e := Nat.eq_of_beq_eq_true hb
      subst e
      refine ImR.one' rfl rfl rfl fun u hu => ?_
      have hu : RF A hd ow w (.ept j s (Prod.fst (α := Nat) (β := denP p) x) (offP p (Prod.snd (α := Nat) (β := denP p) x))) u := hu
      show RF A hd ow w (.ept n s (Prod.fst (α := Nat) (β := denP p) x) (offP p (Prod.snd (α := Nat) (β := denP p) x))) u
      simp only [RF] at hu ⊢
      rw [h.2]; exact ⟨h.1, hu.2⟩
  | _ => exact ImR.refl _
end
theorem obj_ne {o : OK} {x : o.code.den} : XO.ob o x ≠ .free := by simp
/-- an object given up, and all values retold -/
theorem Sim4.goneG (S : Sim4 N w0 st a w) {l : Nat} {o0 : PO} (hm0 : absO (lom st.m l) = o0) (hlv : o0.live = true) (g : (t : Ty) → t.den → XV) (G : XO → XO) {C : (Nat → Bool) → (Nat → Value) → Ow → World → Prop}
    (hC : ∀ A A' hd ow, RO A hd w0 ow w (hd l) o0 → C A' hd (ow.set fun b => if b ∈ blocksOf (hd l) then false else ow b) w) (hg : g .dead () = dd) (hG : G .free = .free)
    (hl : ∀ A hd ow w, C A hd ow w → ∀ t x, ImR A hd ow w (rep t x) (g t x).rep) (hO : ∀ o, ImO C (absO o) (absO (G o))) : Sim4 N w0 ⟨st.f.map fun q => (q.1, g q.2.t q.2.x), (l, .none) :: mapM G st.m, st.n⟩ a w := by
  have hfr : lom st.m l ≠ .free := by intro e; rw [e] at hm0; rw [← hm0] at hlv; simp [absO, PO.live] at hlv
  have hln := S.lt rfl hfr
  generalize hst : (⟨st.f.map fun q => (q.1, g q.2.t q.2.x), (l, .none) :: mapM G st.m, st.n⟩ : XS) = st'
  have hf' : ∀ i, look st'.f i = g (look st.f i).t (look st.f i).x := fun i => by rw [← hst]; exact look_map g hg i st.f
  have hm' : ∀ j, lom st'.m j = if l = j then .none else G (lom st.m j) := fun j => by rw [← hst]; simp only [lom_cons]; rw [lom_mapM G hG]
  have hn' : st'.n = st.n := by rw [← hst]
  obtain ⟨M, hN, hM, hM'⟩ := bnd2 N st.f st'.f
  obtain ⟨ow, hd, hk, W⟩ := S.can hM
  have hm1 : (absS M st).m[l]? = some o0 := by rw [absS_at hln, hm0]
  have hro := hC _ (al (absS M st').m) _ _ (W.objs l _ hm1)
  refine Sim4.mk hN hM' (fun j hj => ?_) ⟨_, hd, W.gone_keep hm1 hlv hk, W.gone (C := C) hm1 hlv hro (by rw [absS_len, absS_len, hn']) ?_ (fun i u hu => ?_) fun j o o' hne ho1 ho2 => ?_⟩
  · rw [hm', if_neg (by omega), S.fr j (by omega), hG]
  · rw [absS_at (by omega), hm', if_pos rfl]; rfl
  · rw [absS_slot hM] at hu
    rw [absS_slot hM', hf']
    exact (hl _ _ _ _ hro _ _).f u hu
  · obtain ⟨j1, rfl⟩ := absS_back ho1
    obtain ⟨j2, rfl⟩ := absS_back ho2
    rw [hm', if_neg (Ne.symm hne)]
    exact hO _
theorem Sim4.fz (S : Sim4 N w0 st a w) (l : Nat) : Sim4 N w0 (fzS st l) a w := by
  unfold fzS
  split
  · rename_i e s c xs ho
    cases hb : (c.dat && Nat.beq s c.sz) with
    | false => exact S
    | true =>
      refine S.goneG (l := l) (o0 := .row e s (List.map (fun y : c.den => (rep c y).pv) xs)) (by rw [ho]; rfl) rfl (fzV l c xs) (fzO l c xs) (C := fun A hd ow w => R ow w (.sl (List.map (fun y : c.den => (rep c y).pv) xs)) (hd l)) (fun A A' hd ow h => h.row_rest) rfl rfl (fun A hd ow w hC t x => trV_im (lfz_im hC) t x) fun o => ?_
      cases o with
      | ob k x =>
        cases k with
        | bx t => exact ImO.box fun A hd ow w us hC => (trV_im (lfz_im hC) t x).c us
        | _ => exact ImO.refl _
      | _ => exact ImO.refl _
  · exact S
theorem Sim4.fb (S : Sim4 N w0 st a w) (l : Nat) : Sim4 N w0 (sil1 st (.fb l)) a w := by
  simp only [sil1]
  split
  · rename_i c y ho
    cases hb : c.dat with
    | false => exact S
    | true =>
      refine S.goneG (l := l) (o0 := .box ((rep c y).pcs.map .d)) (by rw [ho, ← (rep_dat c y hb).1]; rfl) rfl (fbV l c y) (fbO l c y) (C := fun A hd ow w => ∃ b, hd l = .pointer (some ⟨b, 0, none⟩) ∧ ∀ off, R ow w (.iptr (rep c y).pcs off) (.pointer (some ⟨b, off, none⟩))) (fun A A' hd ow h => h.box_rest) rfl rfl (fun A hd ow w hC t x => trV_im (lfb_im hC) t x) fun o => ?_
      cases o with
      | ob k x =>
        cases k with
        | bx t => exact ImO.box fun A hd ow w us hC => (trV_im (lfb_im hC) t x).c us
        | _ => exact ImO.refl _
      | _ => exact ImO.refl _
  · exact S
theorem Sim4.nb (S : Sim4 N w0 st a w) (l : Nat) (c : Ty) : Sim4 N w0 (nbS st l c) a w := by
  unfold nbS
  split
  · rename_i t x ho
    split
    · rename_i f hf
      obtain ⟨M, hN, hM, _⟩ := bnd2 N st.f st.f
      obtain ⟨ow, hd, hk, W⟩ := S.can hM
      have hl := S.lt ho obj_ne
      refine Sim4.mk (st := ⟨st.f, (l, .ob (.bx c) (f x)) :: st.m, st.n⟩) hN hM (fun j hj => ?_) ⟨ow, hd, hk, W.tell (C := fun _ _ _ _ => True) trivial (by rw [absS_len, absS_len]) (fun i u hu => hu) fun j o o' ho1 ho2 => ?_⟩
      · simp only at hj ⊢
        rw [lom_cons, if_neg (by omega)]; exact S.fr j hj
      · obtain ⟨j1, rfl⟩ := absS_back ho1
        obtain ⟨j2, rfl⟩ := absS_back ho2
        simp only
        rw [lom_cons]
        by_cases e : l = j
        · subst e
          rw [if_pos rfl, ho]
          exact ImO.box fun A hd ow w us _ => ((cvF_im t c f hf).1 x).c us
        · rw [if_neg e]; exact ImO.refl _
    · exact S
  · exact S
theorem Sim4.ns (S : Sim4 N w0 st a w) (i : Nat) (c : Ty) : Sim4 N w0 (sil1 st (.ns i c)) a w := by
  simp only [sil1]
  split
  · rename_i f hf
    obtain ⟨M, hN, hM, hM'⟩ := bnd2 N st.f ((i, ⟨c, f (look st.f i).x⟩) :: st.f)
    obtain ⟨ow, hd, hk, W⟩ := S.can hM
    refine Sim4.mk (st := ⟨(i, ⟨c, f (look st.f i).x⟩) :: st.f, st.m, st.n⟩) hN hM' S.fr ⟨ow, hd, hk, W.tell (C := fun _ _ _ _ => True) trivial rfl (fun j u hu => ?_) fun j o o' ho1 ho2 => ?_⟩
    · rw [absS_slot hM] at hu
      rw [absS_slot hM']
      simp only [look_cons]
      by_cases e : i = j
      · subst e
        rw [if_pos rfl]
        exact ((cvF_im _ c f hf).1 _).f u hu
      · rw [if_neg e]; exact hu
    · have : o = o' := Option.some.inj (ho1.symm.trans ho2)
      subst this
      exact ImO.refl _
  · exact S
end
end Go.Proofs.YtnkdanobhgofbaaGreatDoor.pv
