/- The interpreter's state as a pure state; its operations are acts. -/
import Derived.Test.YtnkdanobhgofbaaGreatDoorVJJ
namespace Go.Proofs.YtnkdanobhgofbaaGreatDoor.pv
set_option linter.all false
open Go.RowKit

def absO : XO → PO
  | .free => .free
  | .none => .none
  | .gh k v => .gh k v.fv
  | .ob .no _ => .none
  | .ob (.bx t) x => .box (rep t x).cells
  | .ob (.rw e s t) xs => .row e s (List.map (fun y : t.den => (rep t y).pv) xs)
  | .ob (.mp a b) D => .cu (mpC a b D) []
  | .ob (.ab g t) xs => .cu (abC g t xs) []
  | .ob (.am g a b) Ds => .cu (amC g a b Ds) []
  | .ex .gs => .cu gsC []
  | .ex (.lk a b lg D) => .cu (lkC a b D) [.srf lg]
  | .ex (.ah g a b i lg Ds) => .cu (ahC g a b i Ds) [.srf lg]
  | .ex (.it a b _ _ lg rest cur _) => .cu (itC a b rest cur) [.srf lg]
def absU (U : List (Nat × XO)) : List (Nat × PO) := U.map fun q => (q.1, absO q.2)
/-- told, or not -/
def Le (x y : FV) : Prop := x = .dead ∨ y = x
theorem Le.refl (x : FV) : Le x x := .inr rfl
structure Abs (N : Nat) (f : List (Nat × XV)) (m : List (Nat × XO)) (ps : PS) : Prop where
  fl : N ≤ ps.f.length
  sl : ∀ i, Le (look f i).fv (ps.f.getD i .dead)
  ob : ∀ l, l < ps.m.length → ps.m[l]? = some (absO (lom m l))
  fr : ∀ l, ps.m.length ≤ l → lom m l = .free
section
variable {N : Nat} {f : List (Nat × XV)} {m : List (Nat × XO)} {ps : PS}
theorem Abs.at (A : Abs N f m ps) {l : Nat} {o : XO} (h : lom m l = o) (ho : o ≠ .free) : ps.m[l]? = some (absO o) := by
  rcases Nat.lt_or_ge l ps.m.length with hl | hl
  · rw [A.ob l hl, h]
  · exact absurd (h.symm.trans (A.fr l hl)) ho
theorem Abs.lt (A : Abs N f m ps) {l : Nat} {o : XO} (h : lom m l = o) (ho : o ≠ .free) : l < ps.m.length := by
  rcases Nat.lt_or_ge l ps.m.length with hl | hl
  · exact hl
  · exact absurd (h.symm.trans (A.fr l hl)) ho
theorem evX_le (A : Abs N f m ps) (x : Operand) : Le (evX f x).fv (ev ps.f x) := by
  cases x with
  | tmp t => exact A.sl t
  | global g => exact .inl rfl
  | func g => exact .inr rfl
  | const v =>
    cases v with
    | int k n => exact .inr rfl
    | bool b => exact .inr rfl
    | string s => exact .inr (by obtain ⟨⟨l⟩⟩ := s; rfl)
    | slice b n c =>
      cases b with
      | some _ => exact .inl rfl
      | none => cases n <;> cases c <;> first | exact .inl rfl | exact .inr rfl
    | pointer b => cases b <;> first | exact .inl rfl | exact .inr rfl
    | map b => cases b <;> first | exact .inl rfl | exact .inr rfl
    | nilFunc => exact .inr rfl
    | nilIface => exact .inr rfl
    | _ => exact .inl rfl
/-- not told at all -/
def Ty.told : Ty → Bool
  | .mc _ _ | .sm _ _ | .dead => false
  | _ => true
theorem told_fv : ∀ (t : Ty) (x : t.den), t.told = true → (rep t x).fv ≠ .dead := by
  intro t x h
  have hm : ∀ cs, mkAgg cs ≠ .dead := fun cs => by unfold mkAgg; split <;> simp
  have hc : ∀ f cs, mkClo f cs ≠ .dead := fun f cs => by unfold mkClo; split <;> simp
  cases t with
  | mc | sm | dead => simp [Ty.told] at h
  | pr a b => exact hm _
  | ar n t => exact hm _
  | cl f t => exact hc _ _
  | vp g => simp only [rep]; split <;> simp [Rp.dat]
  | vm g => simp only [rep]; split <;> simp [Rp.dat]
  | nz z => cases z <;> simp [rep, Rp.dat]
  | _ => simp [rep, Rp.dat, Rp.one]
theorem ev_of (A : Abs N f m ps) {x : Operand} {t : Ty} {y : t.den} (h : evX f x = ⟨t, y⟩) (ht : t.told = true) : ev ps.f x = (rep t y).fv := by
  have := evX_le A x
  rw [h] at this
  exact this.resolve_left (told_fv t y ht)
end
/-- the operation does this -/
structure Act1 (E : Env) (ps : PS) (nl : Nat) (op : Op) (v : XV) (U : List (Nat × XO)) (F : List Nat) : Prop where
  ex : ∃ r F', PAct E.P E.T (ev ps.f) ps.m nl op r (absU U) F' ∧ Le v.fv r ∧ ∀ l ∈ F', l ∈ F
  lt : ∀ q ∈ U, q.1 < nl + 16
def Good {α : Type} (E : Env) (ps : PS) (nl : Nat) (op : Op) (K : KT α) (out : α) : Prop := ∃ v U F, Act1 E ps nl op v U F ∧ K v U F = some out
/-- what is told of the program is right -/
structure EnvOk (E : Env) : Prop where
  hT : TOk E.P E.T
  hm : E.P.follows .mixedOrders = true
  cd : ∀ t c, E.cd t = some c → c.zok = true → cdB E.T t c = true
  mp : ∀ t a b, E.mpc t = some (a, b) → mpB E.P E.T t a b = true
/-- within a region -/
structure Ctx (E : Env) (N : Nat) (f : List (Nat × XV)) (m : List (Nat × XO)) (ps : PS) (nl : Nat) : Prop extends Abs N f m ps where
  hE : EnvOk E
  room : nl + 16 ≤ ps.m.length
  fresh : ∀ l, nl ≤ l → lom m l = .free
section
variable {α : Type} {E : Env} {N : Nat} {f : List (Nat × XV)} {m : List (Nat × XO)} {ps : PS} {nl : Nat} {K : KT α} {out : α}
theorem Ctx.old (C : Ctx E N f m ps nl) {l : Nat} {o : XO} (h : lom m l = o) (ho : o ≠ .free) : l < nl + 16 := by
  rcases Nat.lt_or_ge l nl with hl | hl
  · omega
  · exact absurd (h.symm.trans (C.fresh l hl)) ho
theorem Ctx.free (C : Ctx E N f m ps nl) {j : Nat} (hj : j < 16) : ps.m[nl + j]? = some .free := by
  rw [C.ob _ (by have := C.room; omega), C.fresh _ (by omega)]; rfl
theorem Ctx.free0 (C : Ctx E N f m ps nl) : ps.m[nl]? = some .free := C.free (j := 0) (by omega)
theorem good_base {op : Op} {v : XV} {U : List (Nat × XO)} {F F' : List Nat} {r : FV} (h : PAct0 E.P E.T (ev ps.f) ps.m nl op r (absU U) F') (hv : Le v.fv r) (hF : ∀ l ∈ F', l ∈ F) (hU : ∀ q ∈ U, q.1 < nl + 16) (hK : K v U F = some out) : Good E ps nl op K out :=
  ⟨v, U, F, ⟨⟨r, F', .base h, hv, hF⟩, hU⟩, hK⟩
/-- nothing changes -/
theorem good_val {op : Op} {v : XV} {F F' : List Nat} (h : PAct0 E.P E.T (ev ps.f) ps.m nl op v.fv [] F') (hF : ∀ l ∈ F', l ∈ F) (hK : K v [] F = some out) : Good E ps nl op K out :=
  good_base h (Le.refl _) hF (by simp) hK
theorem ldOk_cases {T : List TI} {t : Nat} {c : Ty} (h : ldOk T t c = true) : (tagg T t = some false ∧ c.agg = false ∧ c.cel = true) ∨ (tagg T t = some true ∧ c.agg = true ∧ tsz T t = some c.sz) := by
  unfold ldOk at h
  split at h
  · rename_i ht
    simp only [Bool.and_eq_true] at h
    refine .inr ⟨ht, h.1, ?_⟩
    have h2 := h.2
    split at h2
    · rename_i s hs
      rw [hs, Nat.eq_of_beq_eq_true h2]
    · cases h2
  · rename_i ht
    simp only [Bool.and_eq_true, Bool.not_eq_true'] at h
    exact .inl ⟨ht, h.1, h.2⟩
  · cases h
theorem Lies.one {v w : XV} {off : Nat} {pre post : List FV} (h : Lies v w off pre post) (ha : w.t.agg = false) (hc : w.t.cel = true) : v.cells[off]? = some w.fv := by
  obtain ⟨h1, h2⟩ := h
  have h3 : w.cells = [w.fv] := rep_one w.t w.x hc ha
  rw [h1, h3]
  subst h2
  simp
/-- parts of data are data -/
theorem Lies.dat {c : Ty} {y : c.den} {w : XV} {off : Nat} {pre post : List FV} (hd : c.dat = true) (h : Lies ⟨c, y⟩ w off pre post) (hw : w.t.cel = true) (ha : w.t.agg = false) : ∃ q, (rep c y).pcs[off]? = some q ∧ w.fv = .d q := by
  have h1 := h.one ha hw
  have h2 : (rep c y).cells[off]? = some w.fv := h1
  rw [(rep_dat c y hd).1, List.getElem?_map] at h2
  cases hq : (rep c y).pcs[off]? with
  | none => simp [hq] at h2
  | some q => simp [hq] at h2; exact ⟨q, rfl, h2.symm⟩
theorem Lies.datA {c : Ty} {y : c.den} {w : XV} {off : Nat} {pre post : List FV} (hd : c.dat = true) (h : Lies ⟨c, y⟩ w off pre post) (hw : w.t.cel = true) (ha : w.t.agg = true) : off + w.t.sz ≤ (rep c y).pcs.length ∧ w.fv = .d (.agg (((rep c y).pcs.drop off).take w.t.sz)) := by
  obtain ⟨h1, h2⟩ := h.drop
  have h1 : ((rep c y).cells.drop off).take w.cells.length = w.cells := h1
  have h2 : off + w.cells.length ≤ (rep c y).cells.length := h2
  have hl : w.cells.length = w.t.sz := rep_len _ _ hw
  rw [hl] at h1 h2
  rw [(rep_dat c y hd).1] at h1 h2
  refine ⟨by simpa using h2, ?_⟩
  have : w.fv = mkAgg w.cells := rep_agg _ _ ha
  rw [this, ← h1, ← List.map_drop, ← List.map_take, mkAgg_d]
theorem lget_some {β : Type} {xs : List β} {i : Nat} {y : β} (h : lget xs i = some y) : xs[i]? = some y := h
theorem bind_some {β γ : Type} {x : Option β} {k : β → Option γ} {z : γ} (h : x.bind k = some z) : ∃ y, x = some y ∧ k y = some z := by
  cases x with
  | none => cases h
  | some y => exact ⟨y, rfl, h⟩
theorem row_at {c : Ty} {xs : List c.den} {i : Nat} {y : c.den} (h : xs[i]? = some y) : (List.map (fun y : c.den => (rep c y).pv) xs)[i]? = some (rep c y).pv := by
  rw [List.getElem?_map, h]; rfl
theorem xLoad_ok (C : Ctx E N f m ps nl) {t : Nat} {x : Operand} (hnp : ∀ g p d, evX f x = ⟨.np g p, d⟩ → xLoad E.T m t ⟨.np g p, d⟩ K = some out → Good E ps nl (.load t x) K out) (h : xLoad E.T m t (evX f x) K = some out) : Good E ps nl (.load t x) K out := by
  generalize hv : evX f x = v at h
  obtain ⟨ty, d⟩ := v
  cases ty with
  | rf l p =>
    simp only [xLoad] at h
    split at h
    · rename_i c y ho
      split at h
      · rename_i r hr
        obtain ⟨hb, h⟩ := cond_some h
        simp only [Bool.and_eq_true] at hb
        have hm := C.at ho (by simp)
        have hx : ev ps.f x = .ref l (offP p d) := ev_of C.toAbs hv rfl
        obtain ⟨hc, pre, post, hlies, _⟩ := getP_spec p d ⟨c, y⟩ r hb.2 hr
        rcases ldOk_cases hb.1 with ⟨h1, h2, h3⟩ | ⟨h1, h2, h3⟩
        · exact good_val (.loadS t x l _ _ _ h1 hx hm (hlies.one h2 h3)) (fun _ h => h) h
        · have hl : r.cells.length = r.t.sz := rep_len _ _ hc
          obtain ⟨g1, g2⟩ := hlies.drop
          rw [hl] at g1 g2
          have e : r.fv = mkAgg (((rep c y).cells.drop (offP p d)).take r.t.sz) := by
            rw [show r.fv = mkAgg r.cells from rep_agg _ _ h2, ← g1]; rfl
          refine good_val ?_ (fun _ h => h) h
          rw [e]
          exact .loadA t x l _ _ _ h1 h3 hx hm g2
      · cases h
    · cases h
  | dp c p =>
    simp only [xLoad] at h
    split at h
    · rename_i r hr
      obtain ⟨hb, h⟩ := cond_some h
      simp only [Bool.and_eq_true] at hb
      have hx : ev ps.f x = _ := ev_of C.toAbs hv rfl
      obtain ⟨hc, pre, post, hlies, _⟩ := getP_spec p _ _ r (dat_cel _ hb.2) hr
      rcases ldOk_cases hb.1 with ⟨h1, h2, h3⟩ | ⟨h1, h2, h3⟩
      · obtain ⟨q, hq, e⟩ := hlies.dat hb.2 h3 h2
        refine good_val ?_ (fun _ h => h) h
        rw [e]
        exact .loadIS t x _ _ _ h1 hx hq
      · obtain ⟨g1, g2⟩ := hlies.datA hb.2 hc h2
        refine good_val ?_ (fun _ h => h) h
        rw [g2]
        exact .loadIA t x _ _ _ h1 h3 hx g1
    · cases h
  | ep l s p =>
    simp only [xLoad] at h
    split at h
    · rename_i e' s' c xs ho
      obtain ⟨hb, h⟩ := cond_some h
      simp only [Bool.and_eq_true] at hb
      obtain ⟨⟨hb1, hb2⟩, hb3⟩ := hb
      have e1 := Nat.eq_of_beq_eq_true hb1
      have e2 := Nat.eq_of_beq_eq_true hb2
      subst e1
      obtain ⟨y, hy, h⟩ := bind_some h
      split at h
      · rename_i r hr
        obtain ⟨hb, h⟩ := cond_some h
        have hm := C.at ho (by simp)
        have hx : ev ps.f x = _ := ev_of C.toAbs hv rfl
        have hyx := row_at (lget_some hy)
        have hfit : fits s (rep c y).pv = true := by rw [e2]; exact rep_fits c y hb3
        have hpc := (rep_dat c y hb3).2.2.1
        obtain ⟨hc, pre, post, hlies, _⟩ := getP_spec p _ _ r (dat_cel _ hb3) hr
        rcases ldOk_cases hb with ⟨h1, h2, h3⟩ | ⟨h1, h2, h3⟩
        · obtain ⟨q, hq, e⟩ := hlies.dat hb3 h3 h2
          refine good_val ?_ (fun _ h => h) h
          rw [e]
          exact .loadES t x l _ s _ _ _ _ _ h1 hx hm hyx hfit (by rw [hpc]; exact hq)
        · obtain ⟨g1, g2⟩ := hlies.datA hb3 hc h2
          refine good_val ?_ (fun _ h => h) h
          rw [g2]
          have := PAct0.loadEA (P := E.P) (nl := nl) t x l e' s _ _ _ _ _ h1 h3 hx hm hyx hfit (by rw [rep_pcs_len c y hb3, ← e2] at g1; exact g1)
          rw [hpc] at this
          exact this
      · cases h
    · cases h
  | np g p => exact hnp g p d hv h
  | _ => simp [xLoad] at h
theorem map_d_inj : ∀ {xs ys : List PV}, xs.map FV.d = ys.map FV.d → xs = ys
  | [], [], _ => rfl
  | [], _ :: _, h => by simp at h
  | _ :: _, [], h => by simp at h
  | x :: xs, y :: ys, h => by
    simp only [List.map_cons, List.cons.injEq, FV.d.injEq] at h
    rw [h.1, map_d_inj h.2]
theorem splice_map {xs zs : List PV} {off : Nat} : splice (xs.map FV.d) off (zs.map FV.d) = (splice xs off zs).map FV.d := by
  simp [splice, List.map_append, List.map_take, List.map_drop]
/-- a part of data put in, as data -/
theorem put_dat {c : Ty} {y : c.den} {p : List Step} {d : denP p} {w u r : XV} {z : c.den} (hd : c.dat = true) (hu : u.t.dat = true) (hg : getP p d ⟨c, y⟩ = some w) (hs : setP p d ⟨c, y⟩ u = some r) (hz : conv r.t c r.x = some z) :
    (rep c z).pcs = splice (rep c y).pcs (offP p d) (rep u.t u.x).pcs ∧ offP p d + u.t.sz ≤ c.sz := by
  obtain ⟨hc, pre, post, hlies, h4⟩ := getP_spec p d ⟨c, y⟩ w (dat_cel _ hd) hg
  obtain ⟨q1, q2, q3, q4⟩ := h4 u r (dat_cel _ hu) hs
  obtain ⟨z1, z2, z3, z4, z5⟩ := conv_spec _ _ _ _ hz
  obtain ⟨s1, s2⟩ := hlies.splice hc (dat_cel _ hu) q3
  have s1 : splice (rep c y).cells (offP p d) (rep u.t u.x).cells = pre ++ u.cells ++ post := s1
  have s2 : offP p d + (rep u.t u.x).cells.length ≤ (rep c y).cells.length := s2
  rw [rep_len _ _ (dat_cel _ hu), rep_len _ _ (dat_cel _ hd)] at s2
  refine ⟨map_d_inj ?_, s2⟩
  rw [← (rep_dat c z hd).1, z1, ← splice_map, ← (rep_dat c y hd).1, ← (rep_dat _ u.x hu).1, s1]
  exact q2
theorem xStore_ok (C : Ctx E N f m ps nl) {t : Nat} {x y : Operand} (hnp : ∀ g p d, evX f x = ⟨.np g p, d⟩ → xStore E.T m t ⟨.np g p, d⟩ (evX f y) K = some out → Good E ps nl (.store t x y) K out) (h : xStore E.T m t (evX f x) (evX f y) K = some out) : Good E ps nl (.store t x y) K out := by
  generalize hv : evX f x = v at h
  obtain ⟨ty, d⟩ := v
  by_cases hnpq : ∃ g p, ty = .np g p
  · obtain ⟨g, p, rfl⟩ := hnpq
    exact hnp g p d hv h
  unfold xStore at h
  obtain ⟨hb0, h⟩ := cond_some h
  simp only [Bool.and_eq_true] at hb0
  obtain ⟨hu1, hu2⟩ := hb0
  generalize hu : evX f y = u at h hu1 hu2
  have hsz : tsz E.T t = some u.t.sz := by
    split at hu2
    · rename_i s hs; rw [hs, Nat.eq_of_beq_eq_true hu2]
    · cases hu2
  have hye : ev ps.f y = u.fv := by
    obtain ⟨ut, ux⟩ := u
    refine ev_of C.toAbs hu ?_
    cases ut <;> first | rfl | simp [Ty.cel] at hu1
  cases ty with
  | rf l p =>
    simp only at h
    split at h
    · rename_i c z ho
      split at h
      · rename_i w r hg hs
        obtain ⟨hc, h⟩ := cond_some h
        have hm := C.at ho (by simp)
        have hx : ev ps.f x = .ref l (offP p d) := ev_of C.toAbs hv rfl
        obtain ⟨hw, pre, post, hlies, h4⟩ := getP_spec p d ⟨c, z⟩ w hc hg
        obtain ⟨q1, q2, q3, q4⟩ := h4 u r hu1 hs
        obtain ⟨s1, s2⟩ := hlies.splice hw hu1 q3
        have hul : u.cells.length = u.t.sz := rep_len _ _ hu1
        refine good_base (F' := [l]) (r := .dead) ?_ (.inl rfl) (fun _ h => h) ?_ h
        · have : absU [(l, XO.ob (.bx r.t) r.x)] = [(l, .box (splice (rep c z).cells (offP p d) u.cells))] := by
            show [(l, PO.box (rep r.t r.x).cells)] = _
            rw [show (rep r.t r.x).cells = _ from q2, ← s1]; rfl
          rw [this]
          exact .store t x y l _ _ _ hx hm (by rw [hye]; exact rep_fcells _ _ hu1) (by rw [hul]; exact hsz) s2
        · intro q hq
          simp only [List.mem_singleton] at hq; subst hq
          exact C.old ho (by simp)
      · cases h
    · cases h
  | ep l s p =>
    simp only at h
    split at h
    · rename_i e' s' c xs ho
      obtain ⟨hb, h⟩ := cond_some h
      simp only [Bool.and_eq_true] at hb
      obtain ⟨⟨⟨hb1, hb2⟩, hb3⟩, hb4⟩ := hb
      have e1 := Nat.eq_of_beq_eq_true hb1
      have e2 := Nat.eq_of_beq_eq_true hb2
      subst e1
      obtain ⟨z, hz, h⟩ := bind_some h
      split at h
      · rename_i w r hg hs
        split at h
        · rename_i z' hz'
          have hm := C.at ho (by simp)
          have hx : ev ps.f x = _ := ev_of C.toAbs hv rfl
          have hzx := row_at (lget_some hz)
          have hfit : fits s (rep c z).pv = true := by rw [e2]; exact rep_fits c z hb3
          obtain ⟨p1, p2⟩ := put_dat hb3 hb4 hg hs hz'
          have hpu := rep_dat u.t u.x hb4
          have hpz := rep_dat c z hb3
          have hpz' := rep_dat c z' hb3
          have hps : psz (rep u.t u.x).pv = u.t.sz := (fits_spec (rep_fits u.t u.x hb4)).2
          refine good_base (F' := [l]) (r := .dead) ?_ (.inl rfl) (fun _ h => h) ?_ h
          · have : absU [(l, XO.ob (.rw e' s c) (lset (α := c.den) xs (Prod.fst (α := Nat) (β := denP p) d) z'))] = [(l, .row e' s ((List.map (fun y : c.den => (rep c y).pv) xs).set (Prod.fst (α := Nat) (β := denP p) d) (rep c z').pv))] := by
              exact congrArg (fun L => [(l, PO.row e' s L)]) (List.map_set (f := fun y : c.den => (rep c y).pv) (l := xs) (i := Prod.fst (α := Nat) (β := denP p) d) (a := z'))
            rw [this]
            exact .storeE t x y l e' s _ _ _ _ (rep u.t u.x).pv _ hx hm hzx hfit (by rw [hye]; exact hpu.2.1) hpu.2.2.2 (by rw [hps]; exact hsz) (by rw [hps, e2]; exact p2) (by rw [hpz'.2.2.1, hpz.2.2.1, hpu.2.2.1]; exact p1) hpz'.2.2.2
          · intro q hq
            simp only [List.mem_singleton] at hq; subst hq
            exact C.old ho (by simp)
        · cases h
      · cases h
    · cases h
  | np g p => exact absurd ⟨g, p, rfl⟩ hnpq
  | _ => simp at h
end
end Go.Proofs.YtnkdanobhgofbaaGreatDoor.pv
