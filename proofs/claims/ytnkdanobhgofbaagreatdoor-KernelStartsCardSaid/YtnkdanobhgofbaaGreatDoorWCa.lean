/- The interpreter's functions. -/
import Derived.Test.YtnkdanobhgofbaaGreatDoorVZ
namespace Go.Proofs.YtnkdanobhgofbaaGreatDoor.pv
set_option linter.all false
open Go.RowKit
/-- the results -/
def pcell (T : List TI) (m : List PO) (t : Nat) (x : FV) : Option FV :=
  match x with
  | .ref l off => (match m[l]? with
    | some (.box cs) => (match tagg T t with
      | some false => cs[off]?
      | some true => (match tsz T t with
        | some sz => bif Nat.ble (off + sz) cs.length then some (mkAgg ((cs.drop off).take sz)) else none
        | none => none)
      | none => none)
    | _ => none)
  | _ => none
def presL (T : List TI) (st : PS) : List ResultVar → Option (List FV)
  | [] => some []
  | .tmp t :: r => (match presL T st r with | some xs => some (st.f.getD t .dead :: xs) | none => none)
  | .cell a t :: r => (match pcell T st.m t (st.f.getD a .dead), presL T st r with | some x, some xs => some (x :: xs) | _, _ => none)
section
variable {P : Program} {T : List TI} {n : Nat} {w0 : Cx} {st : PS} {a : Act} {w : World} {ow : Ow} {hd : Nat → Value}
def tupOf : List Value → Value
  | [x] => x
  | xs => .tuple xs.toArray
def resAct (tmps : Array Value) : ResultVar → Sem Value
  | .tmp t => pure (tmps.getD t undef)
  | .cell a t => do loadVar t (← asAddr (tmps.getD a undef))
theorem run_results {fn : Func} {tmps : Array Value} : ∀ (rs : List ResultVar) (vs : List Value), fn.results.toList = rs → vs.length = rs.length → (∀ (i : Nat) r v, rs[i]? = some r → vs[i]? = some v → (resAct tmps r).run P w = .ok v w) → rs.length < 8 → (results fn tmps).run P w = .ok (tupOf vs) w := by
  intro rs vs h hl ha h8
  have hr : fn.results = rs.toArray := by apply Array.toList_inj.1; simpa using h
  have hd : results fn tmps = (do let vs ← fn.results.mapM (resAct tmps); pure (if h : vs.size = 1 then vs[0] else .tuple vs)) := by
    unfold results
    congr 2
  rw [hd, hr]
  clear hd hr h
  match rs, vs, hl, ha, h8 with
  | [], [], _, _, _ => simp [tupOf]
  | [a], [x], _, ha, _ => simp [tupOf, ha 0 a x rfl rfl]
  | [a, b], [x, y], _, ha, _ => simp [tupOf, ha 0 a x rfl rfl, ha 1 b y rfl rfl]
  | [a, b, c], [x, y, z], _, ha, _ => simp [tupOf, ha 0 a x rfl rfl, ha 1 b y rfl rfl, ha 2 c z rfl rfl]
  | [a, b, c, d], [x, y, z, u], _, ha, _ => simp [tupOf, ha 0 a x rfl rfl, ha 1 b y rfl rfl, ha 2 c z rfl rfl, ha 3 d u rfl rfl]
  | [a, b, c, d, e], [x, y, z, u, v], _, ha, _ => simp [tupOf, ha 0 a x rfl rfl, ha 1 b y rfl rfl, ha 2 c z rfl rfl, ha 3 d u rfl rfl, ha 4 e v rfl rfl]
  | [a, b, c, d, e, f], [x, y, z, u, v, w1], _, ha, _ => simp [tupOf, ha 0 a x rfl rfl, ha 1 b y rfl rfl, ha 2 c z rfl rfl, ha 3 d u rfl rfl, ha 4 e v rfl rfl, ha 5 f w1 rfl rfl]
  | [a, b, c, d, e, f, g], [x, y, z, u, v, w1, w2], _, ha, _ => simp [tupOf, ha 0 a x rfl rfl, ha 1 b y rfl rfl, ha 2 c z rfl rfl, ha 3 d u rfl rfl, ha 4 e v rfl rfl, ha 5 f w1 rfl rfl, ha 6 g w2 rfl rfl]
  | _ :: _ :: _ :: _ :: _ :: _ :: _ :: _ :: _, _, _, _, hl => simp at hl; omega
theorem pcell_sound (hT : TOk P T) (S : SimW n w0 st a w ow hd) {ad t : Nat} {x : FV} (h : pcell T st.m t (st.f.getD ad .dead) = some x) : ∃ v, (resAct a.tmps (.cell ad t)).run P w = .ok v w ∧ RF (al st.m) hd ow w x v := by
  unfold pcell at h
  split at h
  · rename_i l off hx
    split at h
    · rename_i cs hm
      have he : ev st.f (.tmp ad) = .ref l off := hx
      obtain ⟨b, vals, t', e1, e2, e3, e4, e5, e6⟩ := S.box he hm
      have e2' : a.tmps.getD ad undef = .pointer (some ⟨b, off, none⟩) := e2
      have hgo : ∀ v, (Instr.loadAt t (.pointer (some ⟨b, off, none⟩))).run P w = .ok v w → (resAct a.tmps (.cell ad t)).run P w = .ok v w := by
        intro v hv
        simp only [Instr.loadAt, Instr.sureAddr, Sem.run_bind, Sem.run_pure, Result.andThen_ok] at hv
        simp only [resAct, e2', asAddr, Sem.run_bind, Sem.run_pure, Result.andThen_ok]
        exact hv
      split at h
      · rename_i ha
        obtain ⟨u, hu, hr, _⟩ := e6.get off x h
        exact ⟨u, hgo u (run_loadAt_one hT ha (cell_of_block e5 hu)), hr⟩
      · rename_i ha
        split at h
        · rename_i sz hs
          obtain ⟨hb, h⟩ := cond_some h
          have hb := Nat.le_of_ble_eq_true hb
          simp only [Option.some.injEq] at h
          subst h
          have hl := RFL.length e6
          exact ⟨_, hgo _ (run_loadAt_agg hT ha hs (range_of_block e5 off sz) (by rw [List.length_take, List.length_drop, hl]; omega)), RF.mkAgg (RFL.take sz (RFL.drop off e6))⟩
        · cases h
      · cases h
    · cases h
  · cases h
theorem presL_sound (hT : TOk P T) (S : SimW n w0 st a w ow hd) : ∀ (rs : List ResultVar) (xs : List FV), presL T st rs = some xs →
    ∃ vs : List Value, vs.length = rs.length ∧ RFT (al st.m) hd ow w xs vs ∧ (∀ (i : Nat) r v, rs[i]? = some r → vs[i]? = some v → (resAct a.tmps r).run P w = .ok v w)
  | [], xs, h => by
    simp [presL] at h; subst h
    exact ⟨[], rfl, by simp only [RFT], by simp⟩
  | .tmp t :: r, xs, h => by
    simp only [presL] at h
    split at h
    · rename_i ys hy
      simp at h; subst h
      obtain ⟨vs, h1, h2, h3⟩ := presL_sound hT S r ys hy
      refine ⟨a.tmps.getD t undef :: vs, by simp [h1], ?_, ?_⟩
      · simp only [RFT]; exact ⟨_, _, rfl, S.slots t, h2⟩
      · intro i q v hq hv
        cases i with
        | zero => simp at hq hv; subst hq hv; simp [resAct]
        | succ i => exact h3 i q v (by simpa using hq) (by simpa using hv)
    · cases h
  | .cell ad t :: r, xs, h => by
    simp only [presL] at h
    split at h
    · rename_i x ys hx hy
      simp at h; subst h
      obtain ⟨vs, h1, h2, h3⟩ := presL_sound hT S r ys hy
      obtain ⟨v0, h4, h5⟩ := pcell_sound hT S hx
      refine ⟨v0 :: vs, by simp [h1], ?_, ?_⟩
      · simp only [RFT]; exact ⟨_, _, rfl, h5, h2⟩
      · intro i q v hq hv
        cases i with
        | zero => simp at hq hv; subst hq hv; exact h4
        | succ i => exact h3 i q v (by simpa using hq) (by simpa using hv)
    · cases h

end
/-- what is handed over is remembered -/
def refOf (k : Nat) : PO → FV
  | .box _ => .ref k 0
  | .cu q _ => (match q.tag with | some _ => .dead | none => .srf k)
  | _ => .srf k
theorem refOf_tag {k : Nat} {o : PO} {g : Nat} (h : o.tag = some g) : refOf k o = .dead := by
  cases o with
  | cu q fs => have h : q.tag = some g := h; simp only [refOf, h]
  | _ => cases h
def ghs : Nat → List PO → List PO
  | _, [] => []
  | k, o :: r => .gh k (refOf k o) :: ghs (k + 1) r
def startH (n : Nat) (args : List FV) (m : List PO) : PS := ⟨args ++ List.replicate (n - args.length) .dead, m ++ ghs 0 m⟩
theorem ghs_get : ∀ (k : Nat) (m : List PO) (j : Nat), (ghs k m)[j]? = (m[j]?).map fun o => .gh (k + j) (refOf (k + j) o)
  | k, [], j => by simp [ghs]
  | k, o :: r, 0 => by simp [ghs]
  | k, o :: r, j + 1 => by
    simp only [ghs, List.getElem?_cons_succ]
    rw [ghs_get (k + 1) r j, show k + 1 + j = k + (j + 1) by omega]
section
variable {n : Nat}
theorem start_simH {gr : Nat → Bool} {c : Cx} {hd : Nat → Value} {m : List PO} {args : List FV} {vs : List Value} (hn : args.length ≤ n) (S : SimH c m c.w c.ow hd) (hl : m.all PO.live = true) (h : RFT (al m) hd c.ow c.w args vs) (hgr : ∀ o ∈ m, ∀ g, o.tag = some g → gr g = true) :
    Sim n ⟨c.w, c.own, c.ow, hd, gr⟩ (startH n args m) { tmps := vs.toArray ++ Array.replicate (n - vs.toArray.size) undef, defers := [] } c.w := by
  have hlen := RFT.length h
  have ha : ∀ l, al m l = true → al (m ++ ghs 0 m) l = true ∧ hd l = hd l := by
    intro l hl
    refine ⟨?_, rfl⟩
    unfold al at hl ⊢
    rcases Nat.lt_or_ge l m.length with h' | h'
    · rw [List.getElem?_append_left h']; exact hl
    · rw [List.getElem?_eq_none h'] at hl; cases hl
  have hnew : ∀ b, Cx.New ⟨c.w, c.own, c.ow, hd, gr⟩ b ↔ c.New b := fun b => Iff.rfl
  have back : ∀ {j : Nat} {oj : PO}, (m ++ ghs 0 m)[j]? = some oj → (m[j]? = some oj) ∨ (∃ k o, m[k]? = some o ∧ oj = .gh k (refOf k o)) := by
    intro j oj hj
    rw [List.getElem?_append] at hj
    split at hj
    · exact .inl hj
    · rw [ghs_get] at hj
      cases hq : m[j - m.length]? with
      | none => simp [hq] at hj
      | some o => simp [hq] at hj; exact .inr ⟨_, o, hq, hj.symm⟩
  refine ⟨c.ow, hd, Keep.refl _, { below := Kt.refl _ _, fresh := S.fresh, objs := fun j oj hj => ?_, dist := ?_, tags := ?_, defers := rfl, size := by simp; omega, slots := fun i => ?_ }⟩
  · rcases back hj with hj | ⟨k, o, ho, rfl⟩
    · have := (S.objs j oj hj).kp (Kp.refl _ _) ha (fun b _ _ => ⟨rfl, rfl⟩) fun _ _ => rfl
      cases oj with
      | gh k x => have := List.all_eq_true.1 hl _ (List.mem_of_getElem? hj); simp [PO.live] at this
      | box cs => exact this
      | row ty sz xs => exact this
      | cu q fs => exact this
      | free => trivial
      | none => trivial
    · have hlo := List.all_eq_true.1 hl _ (List.mem_of_getElem? ho)
      have hob := S.objs k o ho
      show RF _ _ _ _ (refOf k o) (hd k)
      cases ht : o.tag with
      | some g => rw [refOf_tag ht]; simp only [RF]
      | none =>
        have hk : al m k = true := by
          unfold al; rw [ho]
          exact PO.made_of_live hlo ht
        cases o with
        | box cs =>
          obtain ⟨b, vals, t, g1, _⟩ := hob
          simp only [refOf, RF]
          exact ⟨(ha k hk).1, b, g1, g1⟩
        | row ty sz xs =>
          obtain ⟨cells, g1, _⟩ := hob
          simp only [refOf, RF]
          refine ⟨(ha k hk).1, trivial, ?_⟩
          rcases g1.2 with ⟨q, _⟩ | ⟨g, cap, cur, q, _⟩
          · rw [q]; rfl
          · rw [q]; rfl
        | cu q fs =>
          obtain ⟨_, vs', _, g3⟩ := hob
          have ht : q.tag = none := ht
          simp only [refOf, ht, RF]
          exact ⟨(ha k hk).1, trivial, q.one g3⟩
        | _ => simp [PO.live] at hlo
  · intro j j' oj oj' b hne hj hj' hlv hlv'
    rcases back hj with hj | ⟨k, o, ho, rfl⟩
    · rcases back hj' with hj' | ⟨k', o', ho', rfl⟩
      · exact S.dist j j' oj oj' b hne hj hj' hlv hlv'
      · simp [PO.live] at hlv'
    · simp [PO.live] at hlv
  · refine ⟨fun j j' oj oj' g hj hj' hg hg' => ?_, fun j oj g hj hg => ?_⟩
    · rcases back hj with hj | ⟨k, o, ho, rfl⟩
      · rcases back hj' with hj' | ⟨k', o', ho', rfl⟩
        · exact S.tags.1 j j' oj oj' g hj hj' hg hg'
        · cases hg'
      · cases hg
    · rcases back hj with hj | ⟨k, o, ho, rfl⟩
      · exact hgr oj (List.mem_of_getElem? hj) g hg
      · cases hg
  · simp only [startH]
    rw [List.getD_eq_getElem?_getD, List.getElem?_append, Array.getD_eq_getD_getElem?, Array.getElem?_append]
    by_cases hi : i < args.length
    · rw [if_pos hi, if_pos (by simp; omega)]
      obtain ⟨u, hu, hr⟩ := RFT.get h i _ (List.getElem?_eq_getElem hi)
      rw [List.getElem?_eq_getElem hi]
      simp [hu]
      exact RF.mono (Kp.refl _ _) ha _ _ hr
    · rw [if_neg hi]
      have : ((List.replicate (n - args.length) FV.dead)[i - args.length]?).getD FV.dead = .dead := by
        rw [List.getElem?_replicate]; split <;> rfl
      rw [this]
      simp only [RF]
end
end Go.Proofs.YtnkdanobhgofbaaGreatDoor.pv
namespace Go.Proofs.YtnkdanobhgofbaaGreatDoor.pv
set_option linter.all false
open Go.RowKit
section
variable {T : List TI} {M : Nat} {st : XS}
theorem resX_presL (hM : ∀ i, M ≤ i → (look st.f i).fv = .dead) (fr : ∀ l, st.n ≤ l → lom st.m l = .free) : ∀ (rs : List ResultVar) (vs : List XV), resX T st rs = some vs → presL T (absS M st) rs = some (vs.map XV.fv)
  | [], vs, h => by
    simp only [resX, Option.some.injEq] at h
    subst h; rfl
  | .tmp t :: r, vs, h => by
    simp only [resX] at h
    split at h
    · rename_i ys hy
      simp only [Option.some.injEq] at h
      subst h
      have := resX_presL hM fr r ys hy
      simp only [presL, this]
      rw [absS_slot hM]; rfl
    · cases h
  | .cell ad t :: r, vs, h => by
    simp only [resX] at h
    split at h
    · rename_i l p d ys hx hy
      split at h
      · rename_i c x ho
        split at h
        · rename_i v hv
          obtain ⟨hb, h⟩ := cond_some h
          simp only [Bool.and_eq_true] at hb
          simp only [Option.some.injEq] at h
          subst h
          have hr := resX_presL hM fr r ys hy
          have hl : l < st.n := by
            rcases Nat.lt_or_ge l st.n with h | h
            · exact h
            · rw [fr l h] at ho; cases ho
          have hm : (absS M st).m[l]? = some (.box (rep c x).cells) := by rw [absS_at hl, ho]; rfl
          obtain ⟨hc, pre, post, hlies, _⟩ := getP_spec p d ⟨c, x⟩ v hb.2 hv
          have hp : pcell T (absS M st).m t ((absS M st).f.getD ad .dead) = some v.fv := by
            rw [absS_slot hM, hx]
            show pcell T (absS M st).m t (.ref l (offP p d)) = _
            simp only [pcell, hm]
            rcases ldOk_cases hb.1 with ⟨h1, h2, h3⟩ | ⟨h1, h2, h3⟩
            · rw [h1]; exact hlies.one h2 h3
            · rw [h1]
              simp only [h3]
              obtain ⟨g1, g2⟩ := hlies.drop
              have hlen : v.cells.length = v.t.sz := rep_len _ _ hc
              rw [hlen] at g1 g2
              have g2 : offP p d + v.t.sz ≤ (rep c x).cells.length := g2
              have g1 : ((rep c x).cells.drop (offP p d)).take v.t.sz = v.cells := g1
              rw [Nat.ble_eq_true_of_le g2, g1]
              exact congrArg some (rep_agg _ _ h2).symm
          simp only [presL, hp, hr]; rfl
        · cases h
      · cases h
    · cases h
end
theorem enumF_at : ∀ (vs : List XV) (i j : Nat), look (enumF i vs) (i + j) = vs.getD j dd
  | [], i, j => rfl
  | o :: r, i, 0 => by simp [enumF, look_cons]
  | o :: r, i, j + 1 => by
    simp only [enumF]
    rw [look_cons, if_neg (by omega), show i + (j + 1) = i + 1 + j by omega, enumF_at r (i + 1) j]
    simp [List.getD_eq_getElem?_getD]
theorem ghX_abs {k : Nat} {o : XO} (h : liveX o = true) : absO (ghX k o) = .gh k (refOf k (absO o)) := by
  cases o with
  | ob q x => cases q <;> first | rfl | simp [liveX] at h
  | none => simp [liveX] at h
  | free => simp [liveX] at h
  | gh k v => simp [liveX] at h
  | ex e => simp [liveX] at h
theorem ghsX_abs : ∀ (hs : List XO) (k : Nat), hs.all liveX = true → (ghsX k hs).map absO = ghs k (hs.map absO)
  | [], k, h => rfl
  | o :: r, k, h => by
    simp only [List.all_cons, Bool.and_eq_true] at h
    simp only [ghsX, List.map_cons, ghs, ghX_abs h.1, ghsX_abs r (k + 1) h.2]
theorem ghsX_length : ∀ (hs : List XO) (k : Nat), (ghsX k hs).length = hs.length
  | [], k => rfl
  | o :: r, k => by simp only [ghsX, List.length_cons, ghsX_length r]
theorem start_m (hs : List XO) (l : Nat) : lom (enumM 0 (hs ++ ghsX 0 hs)) l = (hs ++ ghsX 0 hs).getD l .free := by
  have := enumM_at (hs ++ ghsX 0 hs) 0 l
  rw [Nat.zero_add] at this
  exact this
theorem start_abs {n : Nat} {vs : List XV} {hs : List XO} (hl : hs.all liveX = true) (hn : vs.length ≤ n) : Abs n (startX vs hs).f (startX vs hs).m (startH n (vs.map XV.fv) (hs.map absO)) ∧ (startH n (vs.map XV.fv) (hs.map absO)).m.length = (startX vs hs).n := by
  have hm : (startH n (vs.map XV.fv) (hs.map absO)).m = (hs ++ ghsX 0 hs).map absO := by rw [List.map_append, ghsX_abs hs 0 hl]; rfl
  have hlen : (startH n (vs.map XV.fv) (hs.map absO)).m.length = (startX vs hs).n := by
    rw [hm, List.length_map, List.length_append, ghsX_length]
    show _ = 2 * hs.length
    omega
  refine ⟨⟨by simp [startH]; omega, fun i => .inr ?_, fun l hl' => ?_, fun l hl' => ?_⟩, hlen⟩
  · have := enumF_at vs 0 i
    rw [Nat.zero_add] at this
    show (vs.map XV.fv ++ List.replicate (n - (vs.map XV.fv).length) FV.dead).getD i .dead = (look (enumF 0 vs) i).fv
    rw [this, List.getD_eq_getElem?_getD, List.getD_eq_getElem?_getD, List.getElem?_append]
    split
    · rename_i h
      rw [List.getElem?_map]
      rw [List.length_map] at h
      rw [List.getElem?_eq_getElem h]; rfl
    · rename_i h
      rw [List.length_map] at h
      rw [List.getElem?_eq_none (l := vs) (by omega), List.getElem?_replicate]
      split <;> rfl
  · rw [hm] at hl' ⊢
    show _ = some (absO (lom (enumM 0 (hs ++ ghsX 0 hs)) l))
    rw [List.length_map] at hl'
    rw [start_m, List.getElem?_map, List.getD_eq_getElem?_getD, List.getElem?_eq_getElem hl']; rfl
  · rw [hm, List.length_map] at hl'
    show lom (enumM 0 (hs ++ ghsX 0 hs)) l = .free
    rw [start_m, List.getD_eq_getElem?_getD, List.getElem?_eq_none hl']; rfl
/-- told as promised -/
abbrev ImT (o o' : PO) : Prop := ImO (fun _ _ _ _ => True) o o'
theorem bun_cons {os : List OK} {r : List XO} {o : OK} {x0 x1 : XO} {y : (bun os).den} {ub : List XO} (hu : ub = x1 :: unb os y) (hi : ImT (absO x0) (absO x1)) (ih : r.length = os.length ∧ ∀ (j : Nat) (x : XO), r[j]? = some x → ∃ x', (unb os y)[j]? = some x' ∧ ImT (absO x) (absO x')) :
    (x0 :: r).length = (o :: os).length ∧ ∀ (j : Nat) (x : XO), (x0 :: r)[j]? = some x → ∃ x', ub[j]? = some x' ∧ ImT (absO x) (absO x') := by
  subst hu
  refine ⟨by rw [List.length_cons, List.length_cons, ih.1], fun j x hx => ?_⟩
  cases j with
  | zero => rw [List.getElem?_cons_zero] at hx; cases hx; exact ⟨x1, rfl, hi⟩
  | succ j => rw [List.getElem?_cons_succ] at hx ⊢; exact ih.2 j x hx
theorem bunX_spec : ∀ (os : List OK) (xs : List XO) (y : (bun os).den), bunX os xs = some y → xs.length = os.length ∧ ∀ (j : Nat) (x : XO), xs[j]? = some x → ∃ x', (unb os y)[j]? = some x' ∧ ImT (absO x) (absO x')
  | [], xs, y, h => by
    unfold bunX at h
    split at h
    · exact ⟨rfl, fun j x hx => by rw [List.getElem?_nil] at hx; cases hx⟩
    · cases h
  | .no :: os, [], y, h => nomatch (show (none : Option (bun os).den) = some y from h)
  | .no :: os, x :: r, y, h => by
    cases x with
    | none => exact bun_cons (x0 := .none) (x1 := .none) rfl (ImO.refl _) (bunX_spec os r y h)
    | _ => exact nomatch (show (none : Option (bun os).den) = some y from h)
  | .bx t :: os, xs, y, h => by
    unfold bunX at h
    split at h
    · rename_i t' x r
      split at h
      · rename_i f z hf hz
        cases h
        exact bun_cons (x1 := .ob (.bx t) (f x)) rfl (ImO.box fun A hd ow w us _ => ((cvF_im t' t f hf).1 x).c us) (bunX_spec os r z hz)
      · cases h
    · cases h
  | .rw e s t :: os, xs, y, h => by
    unfold bunX at h
    split at h
    · rename_i e' s' t' x r
      obtain ⟨hb, h⟩ := cond_some h
      split at h
      · rename_i u z hu hz
        cases h
        rw [Bool.and_eq_true] at hb
        have e1 := Nat.eq_of_beq_eq_true hb.1
        have e2 := Nat.eq_of_beq_eq_true hb.2
        obtain ⟨e3, rfl⟩ := castT_spec hu
        cases e3
        subst e1 e2
        exact bun_cons rfl (ImO.refl _) (bunX_spec os r z hz)
      · cases h
    · cases h
  | .mp a b :: os, xs, y, h => by
    unfold bunX at h
    split at h
    · rename_i a' b' x r
      split at h
      · rename_i u z hu hz
        cases h
        obtain ⟨e3, rfl⟩ := castT_spec hu
        cases e3
        exact bun_cons rfl (ImO.refl _) (bunX_spec os r z hz)
      · cases h
    · cases h
  | .ab g t :: os, xs, y, h => by
    unfold bunX at h
    split at h
    · rename_i g' t' x r
      obtain ⟨hb, h⟩ := cond_some h
      split at h
      · rename_i u z hu hz
        cases h
        have e1 := Nat.eq_of_beq_eq_true hb
        obtain ⟨e3, rfl⟩ := castT_spec hu
        cases e3
        subst e1
        exact bun_cons rfl (ImO.refl _) (bunX_spec os r z hz)
      · cases h
    · cases h
  | .am g a b :: os, xs, y, h => by
    unfold bunX at h
    split at h
    · rename_i g' a' b' x r
      obtain ⟨hb, h⟩ := cond_some h
      split at h
      · rename_i u z hu hz
        cases h
        have e1 := Nat.eq_of_beq_eq_true hb
        obtain ⟨e3, rfl⟩ := castT_spec hu
        cases e3
        subst e1
        exact bun_cons rfl (ImO.refl _) (bunX_spec os r z hz)
      · cases h
    · cases h
theorem altX_spec {ks : List OK} {v : XV} {os : List XO} : ∀ (as : List (Ty × List OK)) (x : (altC ks as).den), altX ks v os as = some x → ∀ (rt : Ty) (new : List OK) (y : (Ty.pr rt (bun (ks ++ new))).den), altG ks as x = some ⟨rt, new, y⟩ →
    (rt, new) ∈ as ∧ ∃ f, cvF v.t rt = some f ∧ p1 y = f v.x ∧ bunX (ks ++ new) os = some (p2 y)
  | [], x, h, rt, new, y, hg => by simp [altX] at h
  | (rt0, new0) :: [], x, h, rt, new, y, hg => by
    simp only [altX] at h
    split at h
    · rename_i f z hf hz
      cases h
      unfold altG at hg
      simp only [altK, Option.some.injEq] at hg
      cases hg
      exact ⟨by simp, f, hf, rfl, hz⟩
    · cases h
  | (rt0, new0) :: b :: r, x, h, rt, new, y, hg => by
    simp only [altX] at h
    split at h
    · rename_i f z hf hz
      cases h
      unfold altG at hg
      simp only [altK, Option.some.injEq] at hg
      cases hg
      exact ⟨by simp, f, hf, rfl, hz⟩
    · split at h
      · rename_i z hz
        cases h
        have hg : altG ks (b :: r) z = some ⟨rt, new, y⟩ := hg
        obtain ⟨h1, h2⟩ := altX_spec (b :: r) z hz rt new y hg
        exact ⟨List.mem_cons_of_mem _ h1, h2⟩
      · cases h
theorem hideK_get (kp : List Nat) : ∀ (os : List XO) (k j : Nat), (hideK kp k os)[j]? = (os[j]?).map fun o => bif memN (k + j) kp then .none else o
  | [], k, j => by simp [hideK]
  | o :: r, k, 0 => by simp [hideK]
  | o :: r, k, j + 1 => by
    simp only [hideK, List.getElem?_cons_succ]
    rw [hideK_get kp r (k + 1) j, show k + 1 + j = k + (j + 1) by omega]
theorem hideK_length (kp : List Nat) : ∀ (os : List XO) (k : Nat), (hideK kp k os).length = os.length
  | [], k => rfl
  | o :: r, k => by simp only [hideK, List.length_cons, hideK_length kp r]
theorem keepM_get (kp : List Nat) : ∀ (hs os : List PO) (k j : Nat), hs.length ≤ os.length → (keepM kp k hs os)[j]? = match hs[j]? with | some h => (os[j]?).map fun o => bif memN (k + j) kp then h else o | none => os[j]?
  | [], os, k, j, h => by simp [keepM]
  | _ :: _, [], k, j, h => by simp at h
  | h :: hs, o :: os, k, 0, hl => by simp [keepM]
  | h :: hs, o :: os, k, j + 1, hl => by
    simp only [keepM, List.getElem?_cons_succ]
    rw [keepM_get kp hs os (k + 1) j (by simpa using hl), show k + 1 + j = k + (j + 1) by omega]
theorem capT_parts : ∀ (vs : List XV), (rep (capT vs).t (capT vs).x).parts = vs.map XV.fv
  | [] => rfl
  | v :: r => by
    show (rep v.t v.x).fv :: (rep (capT r).t (capT r).x).parts = _
    rw [capT_parts r]; rfl
theorem resV_fv {A : Nat → Bool} {hd : Nat → Value} {ow : Ow} {w : World} {vs : List XV} {us : List Value} (h : RFT A hd ow w (vs.map XV.fv) us) : RF A hd ow w (resV vs).fv (tupOf us) := by
  have go : (∀ v, vs ≠ [v]) → RF A hd ow w (resV vs).fv (tupOf us) := fun hne => by
    have e1 : resV vs = ⟨.tp (capT vs).t, (capT vs).x⟩ := by
      match vs, hne with
      | [], _ => rfl
      | [v], hne => exact absurd rfl (hne v)
      | _ :: _ :: _, _ => rfl
    have hl := RFT.length h
    rw [List.length_map] at hl
    have e2 : tupOf us = .tuple us.toArray := by
      match us, vs, hl, hne with
      | [], _, _, _ => rfl
      | [u], [v], _, hne => exact absurd rfl (hne v)
      | [u], [], hl, _ => simp at hl
      | [u], _ :: _ :: _, hl, _ => simp at hl
      | _ :: _ :: _, _, _, _ => rfl
    rw [e1, e2]
    show RF A hd ow w (.tup (rep (capT vs).t (capT vs).x).parts) _
    rw [capT_parts]
    simp only [RF]
    exact ⟨us, rfl, h⟩
  match vs with
  | [v] =>
    simp only [List.map_cons, List.map_nil, RFT] at h
    obtain ⟨u, r, rfl, h1, rfl⟩ := h
    exact h1
  | [] => exact go (by simp)
  | _ :: _ :: _ => exact go (by simp)
end Go.Proofs.YtnkdanobhgofbaaGreatDoor.pv
namespace Go.Proofs.YtnkdanobhgofbaaGreatDoor.pv
set_option linter.all false
open Go.RowKit
def tagK : OK → Option Nat
  | .ab g _ => some g
  | .am g _ _ => some g
  | _ => none
def kindOf : XO → OK
  | .ob o _ => o
  | _ => .no
theorem kindsOf_get : ∀ (hs : List XO) (j : Nat), (kindsOf hs)[j]? = (hs[j]?).map kindOf
  | [], j => by simp [kindsOf]
  | o :: r, 0 => by cases o <;> simp [kindsOf, kindOf]
  | o :: r, j + 1 => by cases o <;> simp only [kindsOf, List.getElem?_cons_succ, kindsOf_get r j]
theorem outK_get (kp ls mv : List Nat) (h : Nat) (ks : List OK) : ∀ (os : List OK) (k j : Nat), (outK kp ls mv h ks k os)[j]? = (os[j]?).map fun o => bif isMv kp ls ks (k + j) then .no else match o with
    | .bx t => .bx (rnT (fun l => bif memN l mv then h + idxD mv l else l) t)
    | o => o
  | [], k, j => by simp [outK]
  | o :: r, k, 0 => by cases o <;> rfl
  | o :: r, k, j + 1 => by
    simp only [outK, List.getElem?_cons_succ]
    rw [outK_get kp ls mv h ks r (k + 1) j, show k + 1 + j = k + (j + 1) by omega]
theorem dropK_get (kp : List Nat) : ∀ (os : List OK) (k j : Nat), (dropK kp k os)[j]? = (os[j]?).map fun o => bif memN (k + j) kp then .no else o
  | [], k, j => by simp [dropK]
  | o :: r, k, 0 => by simp [dropK]
  | o :: r, k, j + 1 => by
    simp only [dropK, List.getElem?_cons_succ]
    rw [dropK_get kp r (k + 1) j, show k + 1 + j = k + (j + 1) by omega]
theorem ksOut_tag {E : Env} {g : FuncId} {vs : List XV} {hs : List XO} {j q : Nat} {o : OK} (h : (ksOut E g vs hs)[j]? = some o) (ht : tagK o = some q) : ∃ p, hs[j]? = some p ∧ (absO p).tag = some q := by
  unfold ksOut at h
  rw [outK_get, kindsOf_get] at h
  cases hp : hs[j]? with
  | none => rw [hp] at h; cases h
  | some p =>
    rw [hp] at h
    simp only [Option.map_some, Option.some.injEq] at h
    refine ⟨p, rfl, ?_⟩
    cases hb : isMv (E.kp g hs.length) (argL E g vs) (kindsOf hs) (0 + j) with
    | true => rw [hb] at h; rw [cond_true] at h; subst h; cases ht
    | false =>
      rw [hb, cond_false] at h
      cases p with
      | ob k x =>
        cases k with
        | ab g' t => simp only [kindOf] at h; subst h; exact ht
        | am g' a b => simp only [kindOf] at h; subst h; exact ht
        | _ => simp only [kindOf] at h; subst h; cases ht
      | _ => simp only [kindOf] at h; subst h; cases ht
theorem ksR_tag {E : Env} {g : FuncId} {ks : List OK} {j q : Nat} {o : OK} (h : (ksR E g ks)[j]? = some o) (ht : tagK o = some q) : ks[j]? = some o := by
  unfold ksR at h
  rw [dropK_get] at h
  cases hp : ks[j]? with
  | none => rw [hp] at h; cases h
  | some p =>
    rw [hp] at h
    simp only [Option.map_some, Option.some.injEq] at h
    cases hb : memN (0 + j) (E.kp g ks.length) with
    | true => rw [hb, cond_true] at h; subst h; cases ht
    | false => rw [hb, cond_false] at h; rw [h]
theorem unb_cons {os : List OK} {o : OK} {x1 : XO} {y : (bun os).den} {ub : List XO} (hu : ub = x1 :: unb os y) (h1 : (absO x1).tag = tagK o ∧ ∀ k v, x1 ≠ .gh k v) (ih : ∀ (j : Nat) (x : XO), (unb os y)[j]? = some x → ∃ o, os[j]? = some o ∧ (absO x).tag = tagK o ∧ ∀ k v, x ≠ .gh k v) :
    ∀ (j : Nat) (x : XO), ub[j]? = some x → ∃ p, (o :: os)[j]? = some p ∧ (absO x).tag = tagK p ∧ ∀ k v, x ≠ .gh k v := by
  subst hu
  intro j x hx
  cases j with
  | zero => rw [List.getElem?_cons_zero] at hx; cases hx; exact ⟨o, rfl, h1⟩
  | succ j => rw [List.getElem?_cons_succ] at hx ⊢; exact ih j x hx
theorem unb_kind : ∀ (os : List OK) (y : (bun os).den) (j : Nat) (x : XO), (unb os y)[j]? = some x → ∃ o, os[j]? = some o ∧ (absO x).tag = tagK o ∧ ∀ k v, x ≠ .gh k v
  | [], y, j, x, h => by have h : ([] : List XO)[j]? = some x := h; rw [List.getElem?_nil] at h; cases h
  | .no :: os, y, j, x, h => unb_cons (os := os) (o := .no) (x1 := .none) (y := (show (bun os).den from y)) rfl ⟨rfl, fun _ _ => by simp⟩ (unb_kind os y) j x h
  | .bx t :: os, y, j, x, h => unb_cons (x1 := .ob (.bx t) (p1 y)) (y := p2 y) rfl ⟨rfl, fun _ _ => by simp⟩ (unb_kind os (p2 y)) j x h
  | .rw e s t :: os, y, j, x, h => unb_cons (x1 := .ob (.rw e s t) (p1 y)) (y := p2 y) rfl ⟨rfl, fun _ _ => by simp⟩ (unb_kind os (p2 y)) j x h
  | .mp a b :: os, y, j, x, h => unb_cons (x1 := .ob (.mp a b) (p1 y)) (y := p2 y) rfl ⟨rfl, fun _ _ => by simp⟩ (unb_kind os (p2 y)) j x h
  | .ab g t :: os, y, j, x, h => unb_cons (x1 := .ob (.ab g t) (p1 y)) (y := p2 y) rfl ⟨rfl, fun _ _ => by simp⟩ (unb_kind os (p2 y)) j x h
  | .am g a b :: os, y, j, x, h => unb_cons (x1 := .ob (.am g a b) (p1 y)) (y := p2 y) rfl ⟨rfl, fun _ _ => by simp⟩ (unb_kind os (p2 y)) j x h
theorem absO_gh {o : XO} (h : ∀ k v, o ≠ .gh k v) : ∀ k x, absO o ≠ .gh k x := by
  intro k x
  cases o with
  | gh k v => exact absurd rfl (h k v)
  | ob q x => cases q <;> simp [absO]
  | ex e => cases e <;> simp [absO]
  | _ => simp [absO]
section
variable {E : Env} {M : Nat} {st : XS}
theorem ren_obj {s : List Nat} (fr : ∀ l, st.n ≤ l → lom st.m l = .free) (h2 : s.all (fun l => okO s (lom st.m l)) = true) {j l : Nat} {o : PO} (hj : s[j]? = some l) (ho : (renM (absS M st).m s s)[j]? = some o) : o = absO (rnO (idxD s) (lom st.m l)) := by
  have e1 := renM_at (absS M st).m s s j _ hj
  rw [e1] at ho
  cases ho
  have e2 : (absS M st).m.getD l .free = absO (lom st.m l) := by
    rw [List.getD_eq_getElem?_getD]
    rcases Nat.lt_or_ge l st.n with hlt | hge
    · rw [absS_at hlt]; rfl
    · rw [List.getElem?_eq_none (by rw [absS_len]; exact hge), fr _ hge]; rfl
  rw [e2, okO_ren (List.all_eq_true.1 h2 _ (List.mem_of_getElem? hj))]
theorem ghOk_al {h : Nat} {ks : List OK} {l : Nat} {c' : Cx} {n : Nat} {a : Act} {w : World} {ow : Ow} {hd : Nat → Value} (W : SimW n c' (absS M st) a w ow hd) (fr : ∀ l, st.n ≤ l → lom st.m l = .free) (hg : ghOkX h ks st.m l = true) (hk : ∀ o, ks[l]? = some o → tagK o = none) : al (absS M st).m l = true ∧ hd l = c'.gs l := by
  unfold ghOkX at hg
  have e : tgd (ks[l]?) = false := by
    cases hq : ks[l]? with
    | none => rfl
    | some o =>
      have := hk o hq
      cases o <;> first | rfl | cases this
  rw [e, cond_false] at hg
  have hat : ∀ {k : Nat} {v : XV}, lom st.m (h + l) = .gh k v → RF (al (absS M st).m) hd ow w v.fv (c'.gs k) := by
    intro k v hv
    have hlt : h + l < st.n := by
      rcases Nat.lt_or_ge (h + l) st.n with h' | h'
      · exact h'
      · rw [fr _ h'] at hv; cases hv
    have := W.objs (h + l) _ (absS_at hlt)
    rw [hv] at this
    exact this
  have sr : ∀ {k' l' : Nat} {x : (Ty.sr l').den}, lom st.m (h + l) = .gh k' ⟨.sr l', x⟩ → (Nat.beq l k' && Nat.beq l' l) = true → al (absS M st).m l = true ∧ hd l = c'.gs l := by
    intro k' l' x h1 hb
    rw [Bool.and_eq_true] at hb
    have e1 := Nat.eq_of_beq_eq_true hb.1
    have e2 := Nat.eq_of_beq_eq_true hb.2
    subst e1 e2
    have := hat h1
    have this : RF (al (absS M st).m) hd ow w (.srf l') (c'.gs l') := this
    simp only [RF] at this
    exact ⟨this.1, this.2.1.symm⟩
  split at hg
  · rename_i k' l' d t x h1 h2
    rw [Bool.and_eq_true] at hg
    have e1 := Nat.eq_of_beq_eq_true hg.1
    have e2 := Nat.eq_of_beq_eq_true hg.2
    subst e1 e2
    have := hat h1
    have this : RF (al (absS M st).m) hd ow w (.ref l' 0) (c'.gs l') := this
    simp only [RF] at this
    obtain ⟨h3, b, h4, h5⟩ := this
    exact ⟨h3, by rw [h4, h5]⟩
  · cases hg
  · exact sr (by assumption) hg
  · exact sr (by assumption) hg
  · cases hg
/-- the end of a function -/
theorem fin_good (hT : TOk E.P E.T) {fn : Func} {g : FuncId} {ks : List OK} {hs : List XO} {c' : Cx} {ex : Ex} {st0 : XS} {x : (altC (ksR E g ks) (altsOf E g ks.length)).den} {a : Act} {w : World} (hks : ks.length = hs.length) (hkt : ∀ (j q : Nat) (o : OK), ks[j]? = some o → tagK o = some q → ∃ p, hs[j]? = some p ∧ (absO p).tag = some q)
    (hne : ∀ k ∈ E.kp g ks.length, hs.getD k .free ≠ .free) (hlo : ∀ k ∈ E.kp g ks.length, k < ks.length ∧ ∀ l ∈ locsO (hs.getD k .free), l < ks.length)
    (S : G4 fn.ntmps c' (E.kp g ks.length) (fun k => hs.getD k .free) st0 a w) (h : finX E fn g ks ex st0 = some x) {rt : Ty} {new : List OK} {y : (Ty.pr rt (bun (ksR E g ks ++ new))).den} (hg : altG (ksR E g ks) (altsOf E g ks.length) x = some ⟨rt, new, y⟩) :
    (∀ id, ex ≠ .exit id) ∧ (rt, new) ∈ altsOf E g ks.length ∧ ∃ v ow hd', (results fn a.tmps).run E.P w = .ok v w ∧ a.defers = [] ∧ Keep c' ow ∧ SimH c' (keepM (E.kp g ks.length) 0 (hs.map absO) ((unb (ksR E g ks ++ new) (p2 y)).map absO)) w ow hd' ∧
      (∀ l, al (hs.map absO) l = true → al (keepM (E.kp g ks.length) 0 (hs.map absO) ((unb (ksR E g ks ++ new) (p2 y)).map absO)) l = true ∧ hd' l = c'.gs l) ∧ RF (al (keepM (E.kp g ks.length) 0 (hs.map absO) ((unb (ksR E g ks ++ new) (p2 y)).map absO))) hd' ow w (rep rt (p1 y)).fv v := by
  unfold finX at h
  split at h
  · cases h
  rename_i hex
  refine ⟨fun id e => hex id e, ?_⟩
  simp only at h
  obtain ⟨S1, k1⟩ := silS_good hne (E.pol g ks.length).fin S.s S.k
  obtain ⟨S2, k2⟩ := mvAll_good hne ks 0 S1 k1
  clear S1 k1 S
  generalize mvAll (E.kp g ks.length) 0 ks (silS (E.kp g ks.length) (E.pol g ks.length).fin st0) = st1 at h S2 k2
  split at h
  · rename_i vs' hres
    generalize hs0 : reach st1.m 400 (List.range ks.length) ((List.range ks.length).flatMap (fun l => locsO (lom st1.m l)) ++ locsT (resV vs').t) = s at h
    obtain ⟨t, ht⟩ := reach_pre st1.m 400 (List.range ks.length) ((List.range ks.length).flatMap (fun l => locsO (lom st1.m l)) ++ locsT (resV vs').t)
    rw [hs0] at ht
    obtain ⟨hb, h⟩ := cond_some h
    simp only [Bool.and_eq_true] at hb
    obtain ⟨⟨⟨⟨b1, b2⟩, b3⟩, b4⟩, b5⟩ := hb
    obtain ⟨hin, f, hf, hy, hbun⟩ := altX_spec _ x h rt new y hg
    refine ⟨hin, ?_⟩
    obtain ⟨M, hN, hM, _⟩ := bnd2 fn.ntmps st1.f st1.f
    obtain ⟨ow, hd, hkeep, W⟩ := S2.can hM
    have hpres := resX_presL hM S2.fr _ _ hres
    obtain ⟨us, u1, u2, u3⟩ := presL_sound hT W _ _ hpres
    have hl8 : fn.results.toList.length < 8 := by
      have h1 := RFT.length u2
      rw [List.length_map] at h1
      have h2 : vs'.length + 1 ≤ 8 := Nat.le_of_ble_eq_true b5
      omega
    have hrun := run_results (P := E.P) (w := w) (fn := fn) (tmps := a.tmps) _ us rfl u1 u3 hl8
    have hrf := RF.ren (s := s) _ _ (resV_fv u2)
    rw [okV_ren b2] at hrf
    have W2 : SimW fn.ntmps c' ⟨[], renM (absS M st1).m s s⟩ a w ow (hren hd s) := { W.toSimH.keep b4 with defers := W.defers, size := W.size, slots := fun i => by simp only [List.getD_nil, RF] }
    obtain ⟨hlen1, hobj⟩ := bunX_spec _ _ _ hbun
    rw [hideK_length, List.length_map] at hlen1
    have hul : (unb (ksR E g ks ++ new) (p2 y)).length = s.length := by rw [unb_length, hlen1]
    have hsl : ks.length ≤ s.length := by
      rw [ht, List.length_append, List.length_range]; omega
    have hml : (hs.map absO).length ≤ ((unb (ksR E g ks ++ new) (p2 y)).map absO).length := by rw [List.length_map, List.length_map, hul]; omega
    have hlen2 : (keepM (E.kp g ks.length) 0 (hs.map absO) ((unb (ksR E g ks ++ new) (p2 y)).map absO)).length = (renM (absS M st1).m s s).length := by
      rw [keepM_length _ _ _ _ hml, List.length_map, hul, renM_length]
    have hO : ∀ (l : Nat) (o o' : PO), (renM (absS M st1).m s s)[l]? = some o → (keepM (E.kp g ks.length) 0 (hs.map absO) ((unb (ksR E g ks ++ new) (p2 y)).map absO))[l]? = some o' → ImT o o' := by
      intro l o o' ho1 ho2
      have hls : l < s.length := by have := (List.getElem?_eq_some_iff.1 ho1).1; rwa [renM_length] at this
      have hj : s[l]? = some s[l] := List.getElem?_eq_getElem hls
      have e1 := ren_obj S2.fr b3 hj ho1
      have e2 : (hideK (E.kp g ks.length) 0 (s.map fun l => rnO (idxD s) (lom st1.m l)))[l]? = some (bif memN l (E.kp g ks.length) then .none else rnO (idxD s) (lom st1.m s[l])) := by
        rw [hideK_get, List.getElem?_map, hj, Nat.zero_add]; rfl
      obtain ⟨x', hx', him⟩ := hobj l _ e2
      rw [keepM_get _ _ _ _ _ hml, Nat.zero_add, List.getElem?_map, List.getElem?_map, hx'] at ho2
      cases hmk : memN l (E.kp g ks.length) with
      | true =>
        have hk := memN_iff.1 hmk
        obtain ⟨k3, k4⟩ := hlo l hk
        have hh : hs[l]? = some (hs.getD l .free) := by
          rw [List.getD_eq_getElem?_getD, List.getElem?_eq_getElem (by omega)]; rfl
        rw [hh, hmk] at ho2
        simp only [Option.map_some, cond_true, Option.some.injEq] at ho2
        obtain ⟨i1, _⟩ := idxD_pre ht b4 k3
        rw [i1] at hj
        have e3 : l = s[l] := Option.some.inj hj
        have e4 : lom st1.m s[l] = hs.getD l .free := by rw [← e3]; exact k2 l hk
        rw [e4, rnO_id fun q hq => (idxD_pre ht b4 (k4 q hq)).2] at e1
        rw [e1, ← ho2]
        exact ImO.refl _
      | false =>
        rw [hmk] at him ho2
        rw [cond_false] at him
        rw [e1]
        have : o' = absO x' := by
          cases hq : hs[l]? with
          | none => rw [hq] at ho2; simp only [Option.map_none, Option.map_some, Option.some.injEq] at ho2; exact ho2.symm
          | some q => rw [hq] at ho2; simp only [Option.map_some, cond_false, Option.some.injEq] at ho2; exact ho2.symm
        rw [this]; exact him
    have W3 := W2.tell (st' := ⟨[], keepM (E.kp g ks.length) 0 (hs.map absO) ((unb (ksR E g ks ++ new) (p2 y)).map absO)⟩) (C := fun _ _ _ _ => True) trivial hlen2 (fun i u hu => hu) hO
    have hal : ∀ l, al (keepM (E.kp g ks.length) 0 (hs.map absO) ((unb (ksR E g ks ++ new) (p2 y)).map absO)) l = al (renM (absS M st1).m s s) l := fun l => al_made hlen2 (fun l o o' h h' => (hO l o o' h h').made) l
    refine ⟨tupOf us, ow, hren hd s, hrun, W.defers, hkeep, W3.toSimH, fun l hl => ?_, ?_⟩
    · have hlh : l < hs.length := by
        unfold al at hl
        rcases Nat.lt_or_ge l hs.length with h' | h'
        · exact h'
        · rw [List.getElem?_eq_none (by rw [List.length_map]; exact h')] at hl; cases hl
      have hg1 := List.all_eq_true.1 b1 l (List.mem_range.2 (by omega))
      obtain ⟨a1, a2⟩ := ghOk_al W S2.fr hg1 fun o ho => by
        cases ht : tagK o with
        | none => rfl
        | some q =>
          exfalso
          obtain ⟨p, p1, p2⟩ := hkt l q o ho ht
          rw [al_tag (by rw [List.getElem?_map, p1]; rfl) p2] at hl
          cases hl
      obtain ⟨i1, i2⟩ := idxD_pre (k := l) ht b4 (by omega)
      have hix := idx_mem (List.mem_of_getElem? i1)
      rw [i2] at hix
      obtain ⟨r1, r2⟩ := ren_al (hd := hd) hix a1
      rw [hal]
      exact ⟨r1, by rw [r2, a2]⟩
    · rw [funext hal, hy]
      exact ((cvF_im _ _ _ hf).1 _).f _ hrf
  · cases h
/-- the words given for functions that the interpreter does not run -/
def PrimOk (E : Env) (prim : PrimT E) : Prop := ∀ (g : FuncId) (p : (vs : List XV) → (hs : List XO) → Option (outC E g vs hs).den), prim g = some p → ∀ (vs : List XV) (hs : List XO) (x : (outC E g vs hs).den), p vs hs = some x → hs.all liveX = true → ∀ (rt : Ty) (new : List OK) (y : (Ty.pr rt (bun (kalt E g vs hs ++ new))).den),
  altG (kalt E g vs hs) (altsOf E g (ksOut E g vs hs).length) x = some ⟨rt, new, y⟩ → RetH E.P g (vs.map XV.fv) (hs.map absO) (rep rt (p1 y)).fv (keepM (E.kp g hs.length) 0 (hs.map absO) ((unb (kalt E g vs hs ++ new) (p2 y)).map absO))
theorem live_abs {o : XO} (h : liveX o = true) : (absO o).live = true := by
  cases o with
  | ob k x => cases k <;> first | rfl | simp [liveX] at h
  | none => simp [liveX] at h
  | free => simp [liveX] at h
  | gh k v => simp [liveX] at h
  | ex e => simp [liveX] at h
theorem R4_ok (hE : EnvOk E) {prim : PrimT E} (hp : PrimOk E prim) {sm : SumT} (hsm : ∀ g r, sm g r = none) (Nl : Nat) : ∀ d, CallOk E (R4 E prim sm Nl d)
  | 0 => fun g vs hs x h => by cases h
  | d + 1 => by
    intro g vs hs x h hl rt new y hg
    have h : (match prim g with
      | some p => p vs hs
      | none => match E.P.funcs[g]? with
        | some fn => (match fn.body with
          | some c => bif !startOk E fn g vs hs then none else xcode E (R4 E prim sm Nl d) (E.kp g hs.length) (E.pol g hs.length) (sm g) Nl fn.ntmps (ksOut E g vs hs) c (startX vs hs) (finX E fn g (ksOut E g vs hs))
          | none => none)
        | none => none) = some x := h
    split at h
    · rename_i p hpg
      exact hp g p hpg vs hs x h hl rt new y hg
    · split at h
      · rename_i fn hfn
        split at h
        · rename_i c hbody
          cases hst : startOk E fn g vs hs with
          | false => rw [hst] at h; cases h
          | true =>
            rw [hst, Bool.not_true, cond_false] at h
            have hks := ksOut_length E g vs hs
            simp only [startOk, Bool.and_eq_true, Bool.not_eq_true'] at hst
            obtain ⟨⟨⟨⟨s1, s2⟩, s3⟩, s4⟩, s5⟩ := hst
            rw [hbody] at s5
            have s2 := Nat.le_of_ble_eq_true s2
            have hkp : ∀ k ∈ E.kp g hs.length, k < hs.length ∧ hs.getD k .free ≠ .free ∧ ∀ l ∈ locsO (hs.getD k .free), l < hs.length := by
              intro k hk
              have h3 := List.all_eq_true.1 s3 k hk
              cases hq : hs[k]? with
              | none => rw [hq] at h3; cases h3
              | some q =>
                rw [hq] at h3
                rw [List.getD_eq_getElem?_getD, hq]
                refine ⟨(List.getElem?_eq_some_iff.1 hq).1, fun e => ?_, fun l hl' => Nat.le_of_ble_eq_true (List.all_eq_true.1 h3 l hl')⟩
                have := List.all_eq_true.1 hl q (List.mem_of_getElem? hq)
                simp only [Option.getD_some] at e
                rw [e] at this; cases this
            have hlive : (hs.map absO).all PO.live = true := by
              rw [List.all_map, List.all_eq_true]
              intro o ho
              exact live_abs (List.all_eq_true.1 hl o ho)
            obtain ⟨A, hlen⟩ := start_abs hl s2
            let gr : Nat → Bool := fun q => (hs.map absO).any fun o => o.tag == some q
            have hgr : ∀ q, gr q = true ↔ ∃ o ∈ hs.map absO, o.tag = some q := by
              intro q
              show ((hs.map absO).any fun o => o.tag == some q) = true ↔ _
              rw [List.any_eq_true]
              constructor
              · rintro ⟨o, h1, h2⟩; exact ⟨o, h1, by simpa using h2⟩
              · rintro ⟨o, h1, h2⟩; exact ⟨o, h1, by simpa using h2⟩
            have key : ∀ (c0 : Cx) (hd0 : Nat → Value) (us : List Value), SimH c0 (hs.map absO) c0.w c0.ow hd0 → RFT (al (hs.map absO)) hd0 c0.ow c0.w (vs.map XV.fv) us → ∀ (ex : Ex) (st' : XS) (a' : Act) (w' : World), finX E fn g (ksOut E g vs hs) ex st' = some x → G4 fn.ntmps ⟨c0.w, c0.own, c0.ow, hd0, gr⟩ (E.kp g hs.length) (fun k => hs.getD k .free) st' a' w' →
                (∀ id, ex ≠ .exit id) ∧ (rt, new) ∈ altsOf E g (ksOut E g vs hs).length ∧ ∃ v ow hd', (results fn a'.tmps).run E.P w' = .ok v w' ∧ a'.defers = [] ∧ Keep ⟨c0.w, c0.own, c0.ow, hd0, gr⟩ ow ∧ SimH ⟨c0.w, c0.own, c0.ow, hd0, gr⟩ (keepM (E.kp g hs.length) 0 (hs.map absO) ((unb (kalt E g vs hs ++ new) (p2 y)).map absO)) w' ow hd' ∧
                  (∀ l, al (hs.map absO) l = true → al (keepM (E.kp g hs.length) 0 (hs.map absO) ((unb (kalt E g vs hs ++ new) (p2 y)).map absO)) l = true ∧ hd' l = hd0 l) ∧ RF (al (keepM (E.kp g hs.length) 0 (hs.map absO) ((unb (kalt E g vs hs ++ new) (p2 y)).map absO))) hd' ow w' (rep rt (p1 y)).fv v := by
              intro c0 hd0 us S0 hargs ex st' a' w' hK S'
              have := fin_good (c' := ⟨c0.w, c0.own, c0.ow, hd0, gr⟩) (hs := hs) hE.hT hks (fun j q o h1 h2 => ksOut_tag h1 h2) (by rw [hks]; exact fun k hk => (hkp k hk).2.1) (by rw [hks]; exact fun k hk => ⟨(hkp k hk).1, (hkp k hk).2.2⟩) (by rw [hks]; exact S') hK hg
              rw [hks] at this
              rw [hks]
              exact this
            have hnew : ∀ q, (rt, new) ∈ altsOf E g (ksOut E g vs hs).length → ∀ o ∈ new, tagK o ≠ some q := by
              intro q hin o ho e
              rw [hks] at hin
              have h1 := List.all_eq_true.1 s4 _ hin
              have h2 := List.all_eq_true.1 h1 o ho
              cases o <;> first | (cases e; done) | (simp [untagK] at h2)
            have hmk : (hs.map absO).length ≤ ((unb (kalt E g vs hs ++ new) (p2 y)).map absO).length := by rw [List.length_map, List.length_map, unb_length, List.length_append, kalt_length]; omega
            have htg : (rt, new) ∈ altsOf E g (ksOut E g vs hs).length → ∀ o, o ∈ keepM (E.kp g hs.length) 0 (hs.map absO) ((unb (kalt E g vs hs ++ new) (p2 y)).map absO) → (∀ k x, o ≠ .gh k x) ∧ ∀ q, o.tag = some q → ∃ o', o' ∈ hs.map absO ∧ o'.tag = some q := by
              intro hin o ho
              obtain ⟨j, hj⟩ := List.mem_iff_getElem?.1 ho
              rw [keepM_get _ _ _ _ _ hmk, Nat.zero_add] at hj
              have two : ∀ o, ((unb (kalt E g vs hs ++ new) (p2 y)).map absO)[j]? = some o → (∀ k x, o ≠ .gh k x) ∧ ∀ q, o.tag = some q → ∃ o', o' ∈ hs.map absO ∧ o'.tag = some q := by
                intro o hj
                rw [List.getElem?_map] at hj
                cases hu : (unb (kalt E g vs hs ++ new) (p2 y))[j]? with
                | none => rw [hu] at hj; cases hj
                | some z =>
                  rw [hu] at hj
                  simp only [Option.map_some, Option.some.injEq] at hj
                  subst hj
                  obtain ⟨ok, o1, o2, o3⟩ := unb_kind _ _ j z hu
                  refine ⟨absO_gh o3, fun q hq => ?_⟩
                  rw [o2] at hq
                  rw [List.getElem?_append] at o1
                  split at o1
                  · obtain ⟨p, p1, p2⟩ := ksOut_tag (ksR_tag o1 hq) hq
                    exact ⟨absO p, List.mem_map_of_mem (List.mem_of_getElem? p1), p2⟩
                  · exact absurd hq (hnew q hin ok (List.mem_of_getElem? o1))
              cases hq : (hs.map absO)[j]? with
              | none => rw [hq] at hj; exact two o hj
              | some p =>
                rw [hq] at hj
                simp only at hj
                cases hu : ((unb (kalt E g vs hs ++ new) (p2 y)).map absO)[j]? with
                | none => rw [hu] at hj; cases hj
                | some z =>
                  rw [hu] at hj
                  simp only [Option.map_some, Option.some.injEq] at hj
                  cases hm : memN j (E.kp g hs.length) with
                  | false => rw [hm, cond_false] at hj; subst hj; exact two z hu
                  | true =>
                    rw [hm, cond_true] at hj
                    subst hj
                    refine ⟨fun k x e => ?_, fun q hq' => ⟨p, List.mem_of_getElem? hq, hq'⟩⟩
                    have := List.all_eq_true.1 hlive p (List.mem_of_getElem? hq)
                    rw [e] at this; cases this
            have hin : (rt, new) ∈ altsOf E g (ksOut E g vs hs).length := by
              have : ∀ (ks : List OK) (as : List (Ty × List OK)) (x : (altC ks as).den) (y : (Ty.pr rt (bun (ks ++ new))).den), altG ks as x = some ⟨rt, new, y⟩ → (rt, new) ∈ as := by
                intro ks as
                induction as with
                | nil => intro x y h; cases h
                | cons q r ih =>
                  obtain ⟨rt0, new0⟩ := q
                  intro x y h
                  cases r with
                  | nil =>
                    unfold altG at h
                    simp only [altK, Option.some.injEq] at h
                    cases h; simp
                  | cons b r =>
                    unfold altG at h
                    simp only [altK] at h
                    split at h
                    · simp only [Option.some.injEq] at h
                      cases h; simp
                    · exact List.mem_cons_of_mem _ (ih _ y h)
              exact this _ _ x y hg
            refine ⟨⟨fn, hfn, s1, by rw [hbody]; rfl⟩, fun o ho q hq => (htg hin o ho).2 q hq, fun c0 hd0 us S0 hargs => ?_⟩
            have Sim0 := start_simH (gr := gr) (n := fn.ntmps) (by rw [List.length_map]; exact s2) S0 hlive hargs fun o ho q hq => (hgr q).2 ⟨o, ho, hq⟩
            refine calls_of_wp hfn hbody ((xcode_good hE (R4_ok hE hp hsm Nl d) (fun r => hsm g r) (o := fun k => hs.getD k .free) (fun k hk => (hkp k hk).2.1) (by rw [hks]; exact fun k hk => ⟨(hkp k hk).1, (hkp k hk).2.2⟩) c).1 s5 _ _ (startX vs hs) _ _ c0.w _ h ⟨⟨_, A, hlen, Sim0⟩, fun k hk => ?_⟩ fun ex st' a' w' hK S' => ?_)
            · show lom (enumM 0 (hs ++ ghsX 0 hs)) k = _
              rw [start_m, List.getD_eq_getElem?_getD, List.getElem?_append_left (hkp k hk).1, List.getD_eq_getElem?_getD]
            · obtain ⟨hex, _, v, ow, hd', f1, hdf, hkeep, f3, f4, f5⟩ := key c0 hd0 us S0 hargs ex st' a' w' hK S'
              have hng : ∀ q, (∀ o, o ∈ hs.map absO → o.tag ≠ some q) → gr q = false := by
                intro q hq
                cases hgq : gr q with
                | false => rfl
                | true =>
                  obtain ⟨o, h1, h2⟩ := (hgr q).1 hgq
                  exact absurd h2 (hq o h1)
              have hK2 : Keep c0 ow := ⟨hkeep.1, hkeep.2.1, fun q hq => hkeep.2.2 q (hng q fun o ho ht => by
                obtain ⟨l, hl⟩ := List.mem_iff_getElem?.1 ho
                have := S0.tags.2 l o q hl ht
                rw [this] at hq; cases hq)⟩
              have hF : Ftag (hs.map absO) c0.ow ow := fun q hq => hkeep.2.2 q (hng q hq)
              have S3 : SimH c0 (keepM (E.kp g hs.length) 0 (hs.map absO) ((unb (kalt E g vs hs ++ new) (p2 y)).map absO)) w' ow hd' := by
                refine ⟨⟨f3.below.os, f3.below.tape, f3.below.output, f3.below.size, f3.below.block⟩, f3.fresh, fun l o ho => ?_, f3.dist, f3.tags.1, fun l o q ho hq => ?_⟩
                · have h1 := f3.objs l o ho
                  have h2 := (htg hin o (List.mem_of_getElem? ho)).1
                  cases o with
                  | gh k x => exact absurd rfl (h2 k x)
                  | box cs => exact h1
                  | row ty sz xs => exact h1
                  | cu q fs => exact h1
                  | free => trivial
                  | none => trivial
                · obtain ⟨o', h1, h2⟩ := (htg hin o (List.mem_of_getElem? ho)).2 q hq
                  obtain ⟨l', hl'⟩ := List.mem_iff_getElem?.1 h1
                  exact S0.tags.2 l' o' q hl' h2
              cases ex with
              | normal => exact ⟨hdf, v, f1, v, ow, hd', rfl, hK2, hF, S3, f4, f5⟩
              | ret => exact ⟨hdf, v, f1, v, ow, hd', rfl, hK2, hF, S3, f4, f5⟩
              | exit id => exact absurd rfl (hex id)
        · cases h
      · cases h
end
end Go.Proofs.YtnkdanobhgofbaaGreatDoor.pv
