/- A function, run by the program: its contract. -/
import Derived.Test.YtccmjndnjpjohaaRQl
namespace Go.Proofs.YtccmjndnjpjohaaR.pv
set_option linter.all false
open Go.RowKit

/-- the results -/
def pcell (T : List TI) (m : List PO) (t : Nat) (x : FV) : Option FV :=
  match x with
  | .ref l off => (match m[l]? with
    | some (.box cs) => (match tagg T t with
      | some false => cs[off]?
      | some true => (match tsz T t with
        | some sz => bif Nat.ble (off + sz) cs.length then some (mkAgg ((cs.drop off).take sz)) else none
        | none => none)
      | none => none)
    | _ => none)
  | _ => none
def presL (T : List TI) (st : PS) : List ResultVar → Option (List FV)
  | [] => some []
  | .tmp t :: r => (match presL T st r with | some xs => some (st.f.getD t .dead :: xs) | none => none)
  | .cell a t :: r => (match pcell T st.m t (st.f.getD a .dead), presL T st r with | some x, some xs => some (x :: xs) | _, _ => none)
def pres (T : List TI) (st : PS) (rs : List ResultVar) : Option PV :=
  match presL T st rs with
  | some [x] => (match frz st.m x with | some y => some (nsl y) | none => none)
  | some xs => bif Nat.blt xs.length 8 then (match frzL st.m xs with | some ys => some (.tup (nslL ys)) | none => none) else none
  | none => none
def start (n : Nat) (args : List PV) : PS := ⟨args.map FV.d ++ List.replicate (n - args.length) .dead, []⟩
section
variable {P : Program} {T : List TI} {n : Nat} {w0 : World} {ow0 : Nat → Bool} {st : PS} {a : Act} {w : World} {ow : Nat → Bool} {hd : Nat → Value}
def tupOf : List Value → Value
  | [x] => x
  | xs => .tuple xs.toArray
def resAct (tmps : Array Value) : ResultVar → Sem Value
  | .tmp t => pure (tmps.getD t undef)
  | .cell a t => do loadVar t (← asAddr (tmps.getD a undef))
theorem run_results {fn : Func} {tmps : Array Value} : ∀ (rs : List ResultVar) (vs : List Value), fn.results.toList = rs → vs.length = rs.length → (∀ (i : Nat) r v, rs[i]? = some r → vs[i]? = some v → (resAct tmps r).run P w = .ok v w) → rs.length < 8 → (results fn tmps).run P w = .ok (tupOf vs) w := by
  intro rs vs h hl ha h8
  have hr : fn.results = rs.toArray := by apply Array.toList_inj.1; simpa using h
  have hd : results fn tmps = (do let vs ← fn.results.mapM (resAct tmps); pure (if h : vs.size = 1 then vs[0] else .tuple vs)) := by
    unfold results
    congr 2
  rw [hd, hr]
  clear hd hr h
  match rs, vs, hl, ha, h8 with
  | [], [], _, _, _ => simp [tupOf]
  | [a], [x], _, ha, _ => simp [tupOf, ha 0 a x rfl rfl]
  | [a, b], [x, y], _, ha, _ => simp [tupOf, ha 0 a x rfl rfl, ha 1 b y rfl rfl]
  | [a, b, c], [x, y, z], _, ha, _ => simp [tupOf, ha 0 a x rfl rfl, ha 1 b y rfl rfl, ha 2 c z rfl rfl]
  | [a, b, c, d], [x, y, z, u], _, ha, _ => simp [tupOf, ha 0 a x rfl rfl, ha 1 b y rfl rfl, ha 2 c z rfl rfl, ha 3 d u rfl rfl]
  | [a, b, c, d, e], [x, y, z, u, v], _, ha, _ => simp [tupOf, ha 0 a x rfl rfl, ha 1 b y rfl rfl, ha 2 c z rfl rfl, ha 3 d u rfl rfl, ha 4 e v rfl rfl]
  | [a, b, c, d, e, f], [x, y, z, u, v, w1], _, ha, _ => simp [tupOf, ha 0 a x rfl rfl, ha 1 b y rfl rfl, ha 2 c z rfl rfl, ha 3 d u rfl rfl, ha 4 e v rfl rfl, ha 5 f w1 rfl rfl]
  | [a, b, c, d, e, f, g], [x, y, z, u, v, w1, w2], _, ha, _ => simp [tupOf, ha 0 a x rfl rfl, ha 1 b y rfl rfl, ha 2 c z rfl rfl, ha 3 d u rfl rfl, ha 4 e v rfl rfl, ha 5 f w1 rfl rfl, ha 6 g w2 rfl rfl]
  | _ :: _ :: _ :: _ :: _ :: _ :: _ :: _ :: _, _, _, _, hl => simp at hl; omega
theorem pcell_sound (hT : TOk P T) (S : SimW n w0 st a w ow hd) {ad t : Nat} {x : FV} (h : pcell T st.m t (st.f.getD ad .dead) = some x) : ∃ v, (resAct a.tmps (.cell ad t)).run P w = .ok v w ∧ RF (al st.m) hd ow w x v := by
  unfold pcell at h
  split at h
  · rename_i l off hx
    split at h
    · rename_i cs hm
      have he : ev st.f (.tmp ad) = .ref l off := hx
      obtain ⟨b, vals, t', e1, e2, e3, e4, e5, e6⟩ := S.box he hm
      have e2' : a.tmps.getD ad undef = .pointer (some ⟨b, off, none⟩) := e2
      have hgo : ∀ v, (Instr.loadAt t (.pointer (some ⟨b, off, none⟩))).run P w = .ok v w → (resAct a.tmps (.cell ad t)).run P w = .ok v w := by
        intro v hv
        simp only [Instr.loadAt, Instr.sureAddr, Sem.run_bind, Sem.run_pure, Result.andThen_ok] at hv
        simp only [resAct, e2', asAddr, Sem.run_bind, Sem.run_pure, Result.andThen_ok]
        exact hv
      split at h
      · rename_i ha
        obtain ⟨u, hu, hr, _⟩ := e6.get off x h
        exact ⟨u, hgo u (run_loadAt_one hT ha (cell_of_block e5 hu)), hr⟩
      · rename_i ha
        split at h
        · rename_i sz hs
          obtain ⟨hb, h⟩ := cond_some h
          have hb := Nat.le_of_ble_eq_true hb
          simp only [Option.some.injEq] at h
          subst h
          have hl := RFL.length e6
          exact ⟨_, hgo _ (run_loadAt_agg hT ha hs (range_of_block e5 off sz) (by rw [List.length_take, List.length_drop, hl]; omega)), RF.mkAgg (RFL.take sz (RFL.drop off e6))⟩
        · cases h
      · cases h
    · cases h
  · cases h
theorem presL_sound (hT : TOk P T) (S : SimW n w0 st a w ow hd) : ∀ (rs : List ResultVar) (xs : List FV), presL T st rs = some xs →
    ∃ vs : List Value, vs.length = rs.length ∧ RFT (al st.m) hd ow w xs vs ∧ (∀ (i : Nat) r v, rs[i]? = some r → vs[i]? = some v → (resAct a.tmps r).run P w = .ok v w)
  | [], xs, h => by
    simp [presL] at h; subst h
    exact ⟨[], rfl, by simp only [RFT], by simp⟩
  | .tmp t :: r, xs, h => by
    simp only [presL] at h
    split at h
    · rename_i ys hy
      simp at h; subst h
      obtain ⟨vs, h1, h2, h3⟩ := presL_sound hT S r ys hy
      refine ⟨a.tmps.getD t undef :: vs, by simp [h1], ?_, ?_⟩
      · simp only [RFT]; exact ⟨_, _, rfl, S.slots t, h2⟩
      · intro i q v hq hv
        cases i with
        | zero => simp at hq hv; subst hq hv; simp [resAct]
        | succ i => exact h3 i q v (by simpa using hq) (by simpa using hv)
    · cases h
  | .cell ad t :: r, xs, h => by
    simp only [presL] at h
    split at h
    · rename_i x ys hx hy
      simp at h; subst h
      obtain ⟨vs, h1, h2, h3⟩ := presL_sound hT S r ys hy
      obtain ⟨v0, h4, h5⟩ := pcell_sound hT S hx
      refine ⟨v0 :: vs, by simp [h1], ?_, ?_⟩
      · simp only [RFT]; exact ⟨_, _, rfl, h5, h2⟩
      · intro i q v hq hv
        cases i with
        | zero => simp at hq hv; subst hq hv; exact h4
        | succ i => exact h3 i q v (by simpa using hq) (by simpa using hv)
    · cases h
theorem start_sim {args : List PV} {vs : List Value} (hn : args.length ≤ n) (hfr : ∀ b, w.heap.size ≤ b → ow b = false) (h : RT ow w args vs) :
    Sim n w ow (start n args) { tmps := vs.toArray ++ Array.replicate (n - vs.toArray.size) undef, defers := [] } w := by
  have hl := RT.length h
  refine ⟨ow, fun _ => undef, fun _ _ => rfl, { below := Below.refl _ _, fresh := hfr, objs := fun l o hl => by simp [start] at hl, dist := fun l l' o o' b _ hl => by simp [start] at hl, defers := rfl, size := by simp; omega, slots := fun i => ?_ }⟩
  simp only [start]
  rw [List.getD_eq_getElem?_getD, List.getElem?_append, Array.getD_eq_getD_getElem?, Array.getElem?_append]
  by_cases hi : i < args.length
  · rw [if_pos (by simpa using hi), if_pos (by simp; omega)]
    obtain ⟨u, hu, hr⟩ := RT.get h i _ (List.getElem?_eq_getElem hi)
    rw [List.getElem?_map, List.getElem?_eq_getElem hi]
    simp [hu, RF]
    exact hr
  · rw [if_neg (by simpa using hi)]
    have : ((List.replicate (n - args.length) FV.dead)[i - (args.map FV.d).length]?).getD FV.dead = .dead := by
      rw [List.getElem?_replicate]; split <;> rfl
    rw [this]
    simp only [RF]
end
end Go.Proofs.YtccmjndnjpjohaaR.pv
