/- The interpreter's operations are acts: variables, numbers, comparisons. -/
import Derived.Test.YtnkdanobhgofbaaGreatDoorVK
namespace Go.Proofs.YtnkdanobhgofbaaGreatDoor.pv
set_option linter.all false
open Go.RowKit
theorem zEqL_eq : ∀ {a b : List Z}, zEqL a b = true → a = b
  | [], [], _ => rfl
  | [], _ :: _, h => by simp [zEqL] at h
  | _ :: _, [], h => by simp [zEqL] at h
  | x :: xs, y :: ys, h => by
    simp only [zEqL, Bool.and_eq_true] at h
    rw [zEq_eq h.1, zEqL_eq h.2]
theorem cdB_spec {T : List TI} {t : Nat} {c : Ty} (h : cdB T t c = true) : ∃ ti, T[t]? = some ti ∧ ti.zero = zl c ∧ ti.zero ≠ [] ∧ ti.kind.agg = c.agg ∧ ti.size = c.sz := by
  unfold cdB at h
  split at h
  · rename_i ti ht
    simp only [Bool.and_eq_true, Bool.not_eq_true', List.isEmpty_eq_false_iff, beq_iff_eq] at h
    exact ⟨ti, ht, zEqL_eq h.1.1.1, h.1.1.2, h.1.2, Nat.eq_of_beq_eq_true h.2⟩
  · cases h
theorem flatMap_replicate {α β : Type} (g : α → List β) (x : α) : ∀ n : Nat, (List.replicate n x).flatMap g = (List.replicate n (g x)).flatten
  | 0 => rfl
  | n + 1 => by simp [List.replicate_succ, flatMap_replicate g x n]
theorem zv_pcs : ∀ (t : Ty) (h : t.zok = true), (rep (zcd t) (zv t h)).pcs = (zl t).map Z.pv ∧ (zcd t).dat = true ∧ (zcd t).agg = t.agg ∧ (zcd t).sz = t.sz
  | .i _, _ => ⟨rfl, rfl, rfl, rfl⟩
  | .bl, _ => ⟨rfl, rfl, rfl, rfl⟩
  | .str, _ => ⟨rfl, rfl, rfl, rfl⟩
  | .un, _ => ⟨rfl, rfl, rfl, rfl⟩
  | .sl _, _ => ⟨rfl, rfl, rfl, rfl⟩
  | .ns, _ => ⟨rfl, rfl, rfl, rfl⟩
  | .nz _, _ => ⟨rfl, rfl, rfl, rfl⟩
  | .vp _, _ => ⟨rfl, rfl, rfl, rfl⟩
  | .vm _, _ => ⟨rfl, rfl, rfl, rfl⟩
  | .pr a b, h => by
    have h' := h
    simp only [Ty.zok, Bool.and_eq_true] at h'
    obtain ⟨a1, a2, _, a4⟩ := zv_pcs a h'.1
    obtain ⟨b1, b2, _, b4⟩ := zv_pcs b h'.2
    refine ⟨?_, by simp only [zcd, Ty.dat, a2, b2, Bool.and_self], rfl, by simp only [zcd, Ty.sz, a4, b4]⟩
    show (rep (zcd a) (zv a _)).pcs ++ (rep (zcd b) (zv b _)).pcs = _
    rw [a1, b1, ← List.map_append]; rfl
  | .ar n t, h => by
    have h' := h
    simp only [Ty.zok] at h'
    obtain ⟨a1, a2, _, a4⟩ := zv_pcs t h'
    refine ⟨?_, by simp only [zcd, Ty.dat, a2], rfl, by simp only [zcd, Ty.sz, a4]⟩
    show (List.replicate n (zv t h')).flatMap (fun y => (rep (zcd t) y).pcs) = _
    rw [flatMap_replicate, a1]
    simp only [zl]
    clear h
    generalize zl t = q
    induction n with
    | zero => rfl
    | succ n ih => simp only [List.replicate_succ, List.flatten_cons, List.map_append, ih]
  | .np _ _, h | .rf _ _, h | .ep _ _ _, h | .dp _ _, h | .sr _, h | .ss _ _, h | .as _ _ _ _ _, h | .cl _ _, h | .ic _ _, h | .tp _, h | .mc _ _, h | .sm _ _, h | .ud, h | .dead, h => by simp [Ty.zok] at h
theorem zX_spec {c : Ty} {z : XV} (h : zX c = some z) : c.zok = true ∧ (rep z.t z.x).pcs = (zl c).map Z.pv ∧ z.t.dat = true ∧ z.t.agg = c.agg ∧ z.t.sz = c.sz := by
  unfold zX at h
  split at h
  · rename_i hz
    cases h
    obtain ⟨h1, h2, h3, h4⟩ := zv_pcs c hz
    exact ⟨hz, h1, h2, h3, h4⟩
  · cases h
theorem nslL_app : ∀ (xs ys : List PV), nslL (xs ++ ys) = nslL xs ++ nslL ys
  | [], ys => rfl
  | x :: xs, ys => by simp only [List.cons_append, nslL, nslL_app xs ys]
theorem zd_pcs : ∀ (t : Ty) (h : t.zok = true), t.zdk = true → t.dat = true → (rep t (zd t h)).pcs = nslL ((zl t).map Z.pv)
  | .i _, _, _, _ => rfl
  | .bl, _, _, _ => rfl
  | .str, _, _, _ => rfl
  | .un, _, _, _ => rfl
  | .sl _, _, _, _ => rfl
  | .ns, _, h, _ => by simp [Ty.zdk] at h
  | .nz z, _, h, _ => by cases z <;> first | rfl | simp [Ty.zdk] at h
  | .vp _, _, _, _ => rfl
  | .vm _, _, _, _ => rfl
  | .pr a b, h, k, d => by
    have h' := h
    simp only [Ty.zok, Bool.and_eq_true] at h'
    simp only [Ty.zdk, Bool.and_eq_true] at k
    simp only [Ty.dat, Bool.and_eq_true] at d
    show (rep a (zd a _)).pcs ++ (rep b (zd b _)).pcs = _
    rw [zd_pcs a h'.1 k.1 d.1, zd_pcs b h'.2 k.2 d.2, ← nslL_app, ← List.map_append]; rfl
  | .ar n t, h, k, d => by
    have h' := h
    simp only [Ty.zok] at h'
    simp only [Ty.zdk] at k
    simp only [Ty.dat] at d
    show (List.replicate n (zd t h')).flatMap (fun y => (rep t y).pcs) = _
    rw [flatMap_replicate, zd_pcs t h' k d]
    simp only [zl]
    clear h
    generalize zl t = q
    induction n with
    | zero => rfl
    | succ n ih => simp only [List.replicate_succ, List.flatten_cons, List.map_append, nslL_app, ih]
  | .np _ _, h, _, _ | .rf _ _, h, _, _ | .ep _ _ _, h, _, _ | .dp _ _, h, _, _ | .sr _, h, _, _ | .ss _ _, h, _, _ | .as _ _ _ _ _, h, _, _ | .cl _ _, h, _, _ | .ic _ _, h, _, _ | .tp _, h, _, _ | .mc _ _, h, _, _ | .sm _ _, h, _, _ | .ud, h, _, _ | .dead, h, _, _ => by simp [Ty.zok] at h
theorem dat_pv_agg {t : Ty} {x : t.den} (h : t.agg = true) : (rep t x).pv = .agg (rep t x).pcs := by
  cases t <;> first | rfl | simp [Ty.agg] at h
theorem dat_pv_one {t : Ty} {x : t.den} (hd : t.dat = true) (h : t.agg = false) : (rep t x).pcs = [(rep t x).pv] := by
  obtain ⟨h1, h2, h3, h4⟩ := rep_dat t x hd
  have h5 := rep_one t x (dat_cel t hd) h
  rw [h1, h2] at h5
  exact map_d_inj (ys := [(rep t x).pv]) h5
theorem zeroPV_of {ti : TI} {c : Ty} (h1 : ti.zero = zl c) (h2 : ti.zero ≠ []) (h3 : ti.kind.agg = c.agg) (hz : c.zok = true) (hk : c.zdk = true) (hd : c.dat = true) : zeroPV ti = some (rep c (zd c hz)).pv := by
  unfold zeroPV
  have hp := zd_pcs c hz hk hd
  rw [h3, h1]
  cases hq : zl c with
  | nil => rw [h1, hq] at h2; exact absurd rfl h2
  | cons z zs =>
    rw [hq] at hp
    cases ha : c.agg with
    | true =>
      simp only
      rw [dat_pv_agg ha, hp]
    | false =>
      rw [dat_pv_one hd ha] at hp
      simp only [List.map_cons, nslL] at hp
      cases zs with
      | nil => simp only [List.map_nil, nslL, List.cons.injEq, and_true] at hp; simp only; rw [hp]
      | cons z' zs => simp [nslL] at hp
section
variable {A : Nat → Bool} {hd : Nat → Value} {ow : Ow} {w : World}
theorem cvN_im : ∀ (t u : Ty) (x : t.den) (y : u.den), cvN t u x = some y → ImR A hd ow w (rep t x) (rep u y) ∧ u.sz = t.sz := by
  have key : ∀ (t u : Ty) (x : t.den) (y : u.den), conv t u x = some y → ImR A hd ow w (rep t x) (rep u y) ∧ u.sz = t.sz := by
    intro t u x y h
    obtain ⟨h1, h2, _⟩ := conv_spec t u x y h
    exact ⟨by rw [h1]; exact ImR.refl _, h2⟩
  intro t
  induction t with
  | pr a b iha ihb =>
    intro u x y h
    cases u with
    | pr c d =>
      simp only [cvN] at h
      split at h
      · rename_i y' z' h1 h2
        cases h
        obtain ⟨a1, a2⟩ := iha _ _ _ h1
        obtain ⟨b1, b2⟩ := ihb _ _ _ h2
        exact ⟨ImR.pr a1 b1, by simp only [Ty.sz, a2, b2]⟩
      · cases h
    | _ => simp only [cvN] at h; exact key _ _ _ _ h
  | ns =>
    intro u x y h
    cases u with
    | sl u =>
      simp only [cvN] at h
      cases h
      refine ⟨ImR.one' rfl rfl rfl fun v hv => ?_, rfl⟩
      have hv : RF A hd ow w (.d vnil) v := hv
      show RF A hd ow w (.d (.sl [])) v
      simp only [RF] at hv ⊢
      exact R.nsl _ _ hv
    | _ => simp only [cvN] at h; exact key _ _ _ _ h
  | _ => intro u x y h; cases u <;> (simp only [cvN] at h; exact key _ _ _ _ h)
end
/-- data in other words -/
theorem im_RL {t u : Ty} {x : t.den} {y : u.den} (hd : t.dat = true) (hu : u.dat = true) (h : ∀ (A : Nat → Bool) (hd : Nat → Value) (ow : Ow) (w : World), ImR A hd ow w (rep t x) (rep u y)) : ∀ ow w us, RL ow w (rep t x).pcs us → RL ow w (rep u y).pcs us := by
  intro ow w us hr
  have := (h (fun _ => true) (fun _ => undef) ow w).c us (by rw [(rep_dat t x hd).1]; exact RFL.of_RL hr)
  rw [(rep_dat u y hu).1] at this
  exact RFL.to_RL this
theorem im_R {t u : Ty} {x : t.den} {y : u.den} (hd : t.dat = true) (hu : u.dat = true) (h : ∀ (A : Nat → Bool) (hd : Nat → Value) (ow : Ow) (w : World), ImR A hd ow w (rep t x) (rep u y)) : ∀ ow w v, R ow w (rep t x).pv v → R ow w (rep u y).pv v := by
  intro ow w v hr
  have := (h (fun _ => true) (fun _ => undef) ow w).f v (by rw [(rep_dat t x hd).2.1]; simpa only [RF] using hr)
  rw [(rep_dat u y hu).2.1] at this
  simpa only [RF] using this
section
variable {α : Type} {E : Env} {N : Nat} {f : List (Nat × XV)} {m : List (Nat × XO)} {ps : PS} {nl : Nat} {K : KT α} {out : α}
theorem xAlloc_good (C : Ctx E N f m ps nl) {t : Nat} (h : xAlloc E m nl t K = some out) : Good E ps nl (.alloc t) K out := by
  unfold xAlloc at h
  split at h
  · rename_i z hz
    obtain ⟨c, hc, hz⟩ := Option.bind_eq_some_iff.1 hz
    obtain ⟨z1, z2, z3, z4, z5⟩ := zX_spec hz
    obtain ⟨ti, t1, t2, t3, t4, t5⟩ := cdB_spec (C.hE.cd t c hc z1)
    split at h
    · rename_i g hg
      split at h
      · rename_i l c' xs hgb
        split at h
        · rename_i y hy
          obtain ⟨hb, hK⟩ := cond_some h
          clear h
          obtain ⟨hm, hlt⟩ := C.ab hgb
          refine good_ext (r := .d (.vp g xs.length 0)) [(l, .cu (abC g c' xs) [])] (by simpa using hm) (by simp [absU]) ?_ (Le.refl _) (by simp) (by simpa using hlt) hK
          exact ext_arAlloc (c := c') (y := y) t1 t3 (by
            rw [t2, ← z2]
            exact im_RL z3 hb fun A hd ow w => (cvN_im z.t c' z.x y hy).1)
        · cases h
      · cases h
    · refine good_base (F' := [nl]) (r := .ref nl 0) ?_ (Le.refl _) (fun _ h => h) (by simp) h
      have : absU [(nl, XO.ob (.bx z.t) z.x)] = [(nl, .box (ti.zero.map fun z => FV.d z.pv))] := by
        show [(nl, PO.box (rep z.t z.x).cells)] = _
        rw [(rep_dat z.t z.x z3).1, z2, t2, List.map_map]; rfl
      rw [this]
      exact .alloc t ti C.free0 t1 t3
  · cases h
theorem told_cel {t : Ty} (h : t.cel = true) : t.told = true := by cases t <;> first | rfl | simp [Ty.cel] at h
theorem told_dat {t : Ty} (h : t.dat = true) : t.told = true := told_cel (dat_cel t h)
theorem xBox_good (C : Ctx E N f m ps nl) {t : Nat} {x : Operand} (h : xBox E m nl t (evX f x) K = some out) : Good E ps nl (.box t x) K out := by
  generalize hv : evX f x = v at h
  obtain ⟨vt, vx⟩ := v
  unfold xBox at h
  split at h
  · rename_i g hg
    split at h
    · rename_i l c xs hgb
      split at h
      · rename_i y hy
        obtain ⟨hb, hK⟩ := cond_some h
        clear h
        simp only [Bool.and_eq_true] at hb
        obtain ⟨hm, hlt⟩ := C.ab hgb
        have hd := rep_dat vt vx hb.1
        have hx : ev ps.f x = .d (rep vt vx).pv := (ev_of C.toAbs hv (told_dat hb.1)).trans hd.2.1
        refine good_ext (r := .d (.vp g xs.length 0)) [(l, .cu (abC g c xs) [])] (by simpa using hm) (by simp [absU]) ?_ (Le.refl _) (by simp) (by simpa using hlt) hK
        rw [ops1 rfl hx]
        refine ext_arBox (c := c) (y := y) hd.2.2.2 ?_
        rw [hd.2.2.1]
        exact im_RL hb.1 hb.2 fun A hd ow w => (cvN_im vt c vx y hy).1
      · cases h
    · cases h
  · obtain ⟨hb, hK⟩ := cond_some h
    clear h
    have hx : ev ps.f x = _ := ev_of C.toAbs hv (told_cel hb)
    exact good_base (F' := [nl]) (r := .ref nl 0) (.box t x _ C.free0 (by rw [hx]; exact rep_fcells vt vx hb)) (Le.refl _) (fun _ h => h) (by simp) hK
theorem xNil_good (C : Ctx E N f m ps nl) {x : Operand} (h : xNil (evX f x) K = some out) : Good E ps nl (.nilCheck x) K out := by
  generalize hv : evX f x = v at h
  obtain ⟨ty, d⟩ := v
  cases ty with
  | rf l p =>
    simp only [xNil] at h
    have hx : ev ps.f x = _ := ev_of C.toAbs hv rfl
    have := PAct0.nilC (P := E.P) (T := E.T) (ρ := ev ps.f) (m := ps.m) (nl := nl) x (by rw [hx]; rfl)
    rw [hx] at this
    exact good_val (v := ⟨.rf l p, d⟩) this (fun _ h => h) h
  | ep l s p =>
    simp only [xNil] at h
    have hx : ev ps.f x = _ := ev_of C.toAbs hv rfl
    have := PAct0.nilC (P := E.P) (T := E.T) (ρ := ev ps.f) (m := ps.m) (nl := nl) x (by rw [hx]; rfl)
    rw [hx] at this
    exact good_val (v := ⟨.ep l s p, d⟩) this (fun _ h => h) h
  | dp c p =>
    simp only [xNil] at h
    have hx : ev ps.f x = _ := ev_of C.toAbs hv rfl
    have := PAct0.nilC (P := E.P) (T := E.T) (ρ := ev ps.f) (m := ps.m) (nl := nl) x (by rw [hx]; rfl)
    rw [hx] at this
    exact good_val (v := ⟨.dp c p, d⟩) this (fun _ h => h) h
  | np g p =>
    simp only [xNil] at h
    have hx : ev ps.f x = _ := ev_of C.toAbs hv rfl
    have := PAct0.nilC (P := E.P) (T := E.T) (ρ := ev ps.f) (m := ps.m) (nl := nl) x (by rw [hx]; rfl)
    rw [hx] at this
    exact good_val (v := ⟨.np g p, d⟩) this (fun _ h => h) h
  | cl g t =>
    simp only [xNil] at h
    have hx : ev ps.f x = mkClo g (rep t d).cells := ev_of C.toAbs hv rfl
    have := PAct0.nilC (P := E.P) (T := E.T) (ρ := ev ps.f) (m := ps.m) (nl := nl) x (by rw [hx]; unfold mkClo; split <;> rfl)
    rw [hx] at this
    exact good_val (v := ⟨.cl g t, d⟩) this (fun _ h => h) h
  | vp g =>
    simp only [xNil] at h
    obtain ⟨i, hi, h⟩ := bind_some h
    have hi : (show Option Nat from d) = some i := hi
    have hx : ev ps.f x = .d (.vp g i 0) := by
      rw [ev_of C.toAbs hv rfl]
      simp only [rep]
      rw [hi]; rfl
    have := PAct0.nilC (P := E.P) (T := E.T) (ρ := ev ps.f) (m := ps.m) (nl := nl) x (by rw [hx]; rfl)
    rw [hx] at this
    exact good_val (v := mkNp g [] i ()) this (fun _ h => h) h
  | _ => simp [xNil] at h
theorem ofL_toList (x : List UInt8) : (ofL x).toList = x := by
  rw [ByteArray.toList_eq]; rfl
theorem xbin_spec {op : BinOp} {k : IntKind} {a b : Int} {r : XV} (h : xbin op k a b = some r) : ∃ z, pbin op (.int k a) (.int k b) = some z ∧ r.fv = .d (.v z) := by
  unfold xbin at h
  split at h <;> first
    | (cases h; done)
    | (cases h; exact ⟨_, by simp [pbin, wi], rfl⟩)
theorem kEq_eq' {a b : IntKind} (h : kEq a b = true) : a = b := kEq_eq h
theorem xUn_good (C : Ctx E N f m ps nl) {op : UnOp} {t : Nat} {x : Operand} (h : xUn op (evX f x) K = some out) : Good E ps nl (.unOp op t x) K out := by
  generalize hv : evX f x = v at h
  unfold xUn at h
  split at h
  · rename_i k n
    have hx : ev ps.f x = .d (.v (.int k n)) := ev_of (t := .i k) (y := n) C.toAbs hv rfl
    exact good_val (.un .neg t x _ _ hx rfl) (fun _ h => h) h
  · rename_i k n
    have hx : ev ps.f x = .d (.v (.int k n)) := ev_of (t := .i k) (y := n) C.toAbs hv rfl
    exact good_val (.un .xor t x _ _ hx rfl) (fun _ h => h) h
  · rename_i b
    have hx : ev ps.f x = .d (.v (.bool b)) := ev_of (t := .bl) (y := b) C.toAbs hv rfl
    exact good_val (.un .not t x _ _ hx rfl) (fun _ h => h) h
  · cases h
end
end Go.Proofs.YtnkdanobhgofbaaGreatDoor.pv
