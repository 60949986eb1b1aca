/- The acts of a pure run, one operation each. -/
import Derived.Test.YtnkdanobhgofbaaGreatDoorQc
namespace Go.Proofs.YtnkdanobhgofbaaGreatDoor.pv
set_option linter.all false
open Go.RowKit

def FnOk (P : Program) (f : FuncId) : Prop := ∃ fn, P.funcs[f]? = some fn ∧ (fn.name == "runtime.NumGoroutine") = false ∧ fn.body.isNone = false
/-- the call returns r and changes nothing that was there -/
def Ret (P : Program) (f : FuncId) (args : List PV) (r : PV) : Prop := FnOk P f ∧ ∀ (ow : Ow) (w : World) (vs : List Value), (∀ b, w.heap.size ≤ b → ow b = false) → RT ow w args vs →
  Calls P f vs.toArray w (fun e w' => ∃ v, e = .returned v ∧ Below w.heap.size w w' ∧ R ow w' r v)

def splice {α : Type} (cs : List α) (off : Nat) (new : List α) : List α := cs.take off ++ new ++ cs.drop (off + new.length)
def vnil : PV := .v (.slice none 0 0)
mutual
def flat : PV → Bool
  | .v _ => true
  | .agg cs => flatL cs
  | .tup vs => flatL vs
  | _ => false
def flatL : List PV → Bool
  | [] => true
  | x :: xs => flat x && flatL xs
end
/-- parts of a struct or an array laid into its zero value -/
def tpl (T : List TI) : List (Nat × Nat) → Option (List (Nat × Nat))
  | [] => some []
  | (o, ft) :: r => match tsz T ft, tpl T r with
    | some s, some l => some ((o, s) :: l)
    | _, _ => none
def tplaces (T : List TI) (t : Nat) : Option (Nat → Option (Nat × Nat)) :=
  match tk T t with
  | some (.st l) => (tpl T l).map fun q i => q[i]?
  | some (.arr _ e) => (tsz T e).map fun s i => some (i * s, s)
  | _ => none
def pfill (pl : Nat → Option (Nat × Nat)) (cs : List FV) : List (Nat × FV) → Option (List FV)
  | [] => some cs
  | (i, x) :: r => match pl i, fcells x with
    | some (o, s), some zs => bif Nat.beq zs.length s && Nat.ble (o + zs.length) cs.length then pfill pl (splice cs o zs) r else none
    | _, _ => none
def aggCells : FV → Option (List FV)
  | .d (.agg cs) => some (cs.map FV.d)
  | .agg cs => some cs
  | _ => none
def tupCells : FV → Option (List FV)
  | .d (.tup cs) => some (cs.map FV.d)
  | .tup cs => some cs
  | _ => none
def oneFV : FV → Bool
  | .d (.agg _) | .d (.tup _) | .agg _ | .tup _ | .dead => false
  | _ => true
def mkClo (f : FuncId) (cs : List FV) : FV := match allD cs with
  | some xs => .d (.clo f xs)
  | none => .clo f cs
/-- what is appended to: nothing yet, or a private row, which is used up -/
inductive Base (m : List PO) (e s : Nat) : FV → List PV → List (Nat × PO) → List Nat → Prop where
  | nil : Base m e s (.d vnil) [] [] []
  | row (l : Nat) (xs : List PV) : m[l]? = some (.row e s xs) → Base m e s (.srf l) xs [(l, .none)] [l]
  | part (l : Nat) (xs : List PV) (k : Nat) : m[l]? = some (.row e s xs) → k ≤ xs.length → Base m e s (.ssl l 0 k s) (xs.take k) [(l, .none)] [l]
def fits (s : Nat) (x : PV) : Bool := !isTup x && Nat.beq (psz x) s

mutual
/-- nil slices as empty ones -/
def nsl : PV → PV
  | .v (.slice none 0 0) => .sl []
  | .v x => .v x
  | .sl xs => .sl xs
  | .agg cs => .agg (nslL cs)
  | .tup cs => .tup (nslL cs)
  | .iptr cs o => .iptr cs o
  | .clo f cs => .clo f cs
  | .ifc t x => .ifc t x
  | .vp g i o => .vp g i o
  | .vm g i => .vm g i
def nslL : List PV → List PV
  | [] => []
  | x :: xs => nsl x :: nslL xs
end
section
variable {ow ow' : Ow} {w : World}
mutual
theorem R.nsl : ∀ (x : PV) (u : Value), R ow w x u → R ow w (pv.nsl x) u
  | .v x, u, h => by
    unfold pv.nsl
    split
    · rename_i heq
      cases heq
      simp only [R] at h ⊢
      exact ⟨none, 0, h.1, Nat.le_refl _, by simp [maxLen], .inl trivial⟩
    · rename_i heq; cases heq; exact h
    all_goals (rename_i heq; cases heq)
  | .sl xs, u, h => by simpa only [pv.nsl] using h
  | .agg cs, u, h => by
    simp only [pv.nsl, R] at h ⊢
    obtain ⟨vs, e, h⟩ := h
    exact ⟨vs, e, RL.nsl cs vs h⟩
  | .tup cs, u, h => by
    simp only [pv.nsl, R] at h ⊢
    obtain ⟨vs, e, h⟩ := h
    exact ⟨vs, e, RT.nsl cs vs h⟩
  | .iptr cs o, u, h => by simpa only [pv.nsl] using h
  | .clo f cs, u, h => by simpa only [pv.nsl] using h
  | .ifc t x, u, h => by simpa only [pv.nsl] using h
  | .vp g i o, u, h => by simpa only [pv.nsl] using h
  | .vm g i, u, h => by simpa only [pv.nsl] using h
theorem RL.nsl : ∀ (xs : List PV) (us : List Value), RL ow w xs us → RL ow w (nslL xs) us
  | [], us, h => by simpa only [nslL] using h
  | x :: xs, us, h => by
    simp only [nslL, RL] at h ⊢
    obtain ⟨v, r, e, h1, h2, h3⟩ := h
    exact ⟨v, r, e, R.nsl x v h1, h2, RL.nsl xs r h3⟩
theorem RT.nsl : ∀ (xs : List PV) (us : List Value), RT ow w xs us → RT ow w (nslL xs) us
  | [], us, h => by simpa only [nslL] using h
  | x :: xs, us, h => by
    simp only [nslL, RT] at h ⊢
    obtain ⟨v, r, e, h1, h3⟩ := h
    exact ⟨v, r, e, R.nsl x v h1, RT.nsl xs r h3⟩
end
end
/-- cells as elements -/
def chunks (ag : Bool) (sz : Nat) : Nat → List PV → Option (List PV)
  | 0, _ => some []
  | k + 1, xs => match ag, xs with
    | true, xs => bif Nat.ble sz xs.length then (match chunks ag sz k (xs.drop sz) with | some ys => some (.agg (xs.take sz) :: ys) | none => none) else none
    | false, x :: r => bif Nat.beq sz 1 then (match chunks ag sz k r with | some ys => some (x :: ys) | none => none) else none
    | false, [] => none
theorem chunks_len {ag : Bool} {sz : Nat} : ∀ {k : Nat} {xs ys : List PV}, chunks ag sz k xs = some ys → ys.length = k
  | 0, xs, ys, h => by simp [chunks] at h; subst h; rfl
  | k + 1, xs, ys, h => by
    cases ag with
    | true =>
      simp only [chunks] at h
      obtain ⟨_, h⟩ := cond_some h
      split at h
      · rename_i zs hz
        simp at h; subst h
        simp [chunks_len hz]
      · cases h
    | false =>
      cases xs with
      | nil => simp [chunks] at h
      | cons x r =>
        simp only [chunks] at h
        obtain ⟨_, h⟩ := cond_some h
        split at h
        · rename_i zs hz
          simp at h; subst h
          simp [chunks_len hz]
        · cases h
theorem chunks_RE {ow : Ow} {w : World} {ag : Bool} {sz : Nat} : ∀ {k : Nat} {xs ys : List PV} {cells : List Value}, chunks ag sz k xs = some ys → RL ow w xs cells → RE ow w sz ys (cells.take (k * sz)) ∧ k * sz ≤ cells.length
  | 0, xs, ys, cells, h, hr => by simp [chunks] at h; subst h; simp [RE]
  | k + 1, xs, ys, cells, h, hr => by
    cases ag with
    | true =>
      simp only [chunks] at h
      obtain ⟨hb, h⟩ := cond_some h
      have hb := Nat.le_of_ble_eq_true hb
      have hl := hr.length
      split at h
      · rename_i zs hz
        simp at h; subst h
        obtain ⟨i1, i2⟩ := chunks_RE hz (hr.drop sz)
        rw [List.length_drop] at i2
        have hm : (k + 1) * sz = sz + k * sz := by rw [Nat.succ_mul]; omega
        refine ⟨?_, by rw [hm]; omega⟩
        simp only [RE]
        refine ⟨.agg (cells.take sz).toArray, (cells.drop sz).take (k * sz), ?_, ?_, ?_, ?_, i1⟩
        · simp only [Value.cells]; rw [hm, List.take_add]
        · simp only [Value.cells]; simp; omega
        · simp only [Value.cells]; exact RL.one (hr.take sz)
        · simp only [R]; exact ⟨_, rfl, hr.take sz⟩
      · cases h
    | false =>
      cases xs with
      | nil => simp [chunks] at h
      | cons x r =>
        simp only [chunks] at h
        obtain ⟨hb, h⟩ := cond_some h
        have hb1 := Nat.eq_of_beq_eq_true hb
        subst hb1
        split at h
        · rename_i zs hz
          simp at h; subst h
          simp only [RL] at hr
          obtain ⟨v, rr, e, h1, h2, h3⟩ := hr
          subst e
          obtain ⟨i1, i2⟩ := chunks_RE hz h3
          have hc : v.cells = #[v] := by cases v <;> simp_all [Value.cells, Value.oneCell']
          refine ⟨?_, by simp only [List.length_cons]; omega⟩
          simp only [RE]
          refine ⟨v, rr.take (k * 1), ?_, by rw [hc]; rfl, by rw [hc]; simpa using h2, h1, i1⟩
          rw [hc]; simp
        · cases h
mutual
/-- a nil slice in a frame as an empty one -/
def nslF : FV → FV
  | .d x => .d (nsl x)
  | .agg cs => .agg (nslFL cs)
  | .tup cs => .tup (nslFL cs)
  | x => x
def nslFL : List FV → List FV
  | [] => []
  | x :: xs => nslF x :: nslFL xs
end
/-- nil slices as empty ones, but for the arguments that are named -/
def nslM : List Bool → List FV → List FV
  | false :: bs, x :: xs => x :: nslM bs xs
  | true :: bs, x :: xs => nslF x :: nslM bs xs
  | _, xs => nslFL xs
def nslO : PO → PO
  | .box cs => .box (nslFL cs)
  | .cu q cs => .cu q (nslFL cs)
  | o => o
section
variable {A : Nat → Bool} {hd : Nat → Value} {ow : Ow} {w : World}
mutual
theorem RF.nslF : ∀ (x : FV) (u : Value), RF A hd ow w x u → RF A hd ow w (pv.nslF x) u
  | .d x, u, h => by simp only [pv.nslF, RF] at h ⊢; exact R.nsl x u h
  | .agg cs, u, h => by
    simp only [pv.nslF, RF] at h ⊢
    obtain ⟨vs, e, h⟩ := h
    exact ⟨vs, e, RFL.nslF cs vs h⟩
  | .tup cs, u, h => by
    simp only [pv.nslF, RF] at h ⊢
    obtain ⟨vs, e, h⟩ := h
    exact ⟨vs, e, RFT.nslF cs vs h⟩
  | .ref _ _, u, h => by simpa only [pv.nslF] using h
  | .ept _ _ _ _, u, h => by simpa only [pv.nslF] using h
  | .asl _ _ _ _ _ _, u, h => by simpa only [pv.nslF] using h
  | .ssl _ _ _ _, u, h => by simpa only [pv.nslF] using h
  | .srf _, u, h => by simpa only [pv.nslF] using h
  | .clo _ _, u, h => by simpa only [pv.nslF] using h
  | .ifc _ _, u, h => by simpa only [pv.nslF] using h
  | .dead, u, h => by simpa only [pv.nslF] using h
theorem RFL.nslF : ∀ (xs : List FV) (us : List Value), RFL A hd ow w xs us → RFL A hd ow w (nslFL xs) us
  | [], us, h => by simpa only [nslFL] using h
  | x :: xs, us, h => by
    simp only [nslFL, RFL] at h ⊢
    obtain ⟨v, r, e, h1, h2, h3⟩ := h
    exact ⟨v, r, e, RF.nslF x v h1, h2, RFL.nslF xs r h3⟩
theorem RFT.nslF : ∀ (xs : List FV) (us : List Value), RFT A hd ow w xs us → RFT A hd ow w (nslFL xs) us
  | [], us, h => by simpa only [nslFL] using h
  | x :: xs, us, h => by
    simp only [nslFL, RFT] at h ⊢
    obtain ⟨v, r, e, h1, h3⟩ := h
    exact ⟨v, r, e, RF.nslF x v h1, RFT.nslF xs r h3⟩
end
theorem RFT.nslM : ∀ (bs : List Bool) (xs : List FV) (us : List Value), RFT A hd ow w xs us → RFT A hd ow w (pv.nslM bs xs) us
  | [], xs, us, h => by cases xs <;> exact RFT.nslF _ _ h
  | b :: bs, [], us, h => by cases b <;> exact RFT.nslF _ _ h
  | false :: bs, x :: xs, us, h => by
    simp only [pv.nslM, RFT] at h ⊢
    obtain ⟨v, r, e, h1, h3⟩ := h
    exact ⟨v, r, e, h1, RFT.nslM bs xs r h3⟩
  | true :: bs, x :: xs, us, h => by
    simp only [pv.nslM, RFT] at h ⊢
    obtain ⟨v, r, e, h1, h3⟩ := h
    exact ⟨v, r, e, RF.nslF x v h1, RFT.nslM bs xs r h3⟩
end
mutual
/-- other names: the object j is τ[j] now -/
def mapF (τ : List Nat) : FV → FV
  | .d x => .d x
  | .agg cs => .agg (mapFL τ cs)
  | .tup cs => .tup (mapFL τ cs)
  | .ref l off => .ref (τ.getD l 0) off
  | .ept l sz i off => .ept (τ.getD l 0) sz i off
  | .asl l off k c sz ag => .asl (τ.getD l 0) off k c sz ag
  | .ssl l i j sz => .ssl (τ.getD l 0) i j sz
  | .srf l => .srf (τ.getD l 0)
  | .clo f cs => .clo f (mapFL τ cs)
  | .ifc t x => .ifc t (mapF τ x)
  | .dead => .dead
def mapFL (τ : List Nat) : List FV → List FV
  | [] => []
  | x :: xs => mapF τ x :: mapFL τ xs
end
def mapO (τ : List Nat) : PO → PO
  | .box cs => .box (mapFL τ cs)
  | .cu q cs => .cu q (mapFL τ cs)
  | o => o
section
variable {A A' : Nat → Bool} {hd hd' : Nat → Value} {ow : Ow} {w : World} {τ : List Nat}
mutual
theorem RF.mapF (h : ∀ l, A l = true → A' (τ.getD l 0) = true ∧ hd' (τ.getD l 0) = hd l) : ∀ (x : FV) (u : Value), RF A hd ow w x u → RF A' hd' ow w (pv.mapF τ x) u
  | .d x, u, hr => by simpa only [pv.mapF, RF] using hr
  | .agg cs, u, hr => by
    simp only [pv.mapF, RF] at hr ⊢
    obtain ⟨vs, e, hr⟩ := hr
    exact ⟨vs, e, RFL.mapF h cs vs hr⟩
  | .tup cs, u, hr => by
    simp only [pv.mapF, RF] at hr ⊢
    obtain ⟨vs, e, hr⟩ := hr
    exact ⟨vs, e, RFT.mapF h cs vs hr⟩
  | .ref l off, u, hr => by
    simp only [pv.mapF, RF] at hr ⊢
    rw [(h l hr.1).2]; exact ⟨(h l hr.1).1, hr.2⟩
  | .ept l sz i off, u, hr => by
    simp only [pv.mapF, RF] at hr ⊢
    rw [(h l hr.1).2]; exact ⟨(h l hr.1).1, hr.2⟩
  | .asl l off k c sz ag, u, hr => by
    simp only [pv.mapF, RF] at hr ⊢
    rw [(h l hr.1).2]; exact ⟨(h l hr.1).1, hr.2⟩
  | .ssl l i j sz, u, hr => by
    simp only [pv.mapF, RF] at hr ⊢
    rw [(h l hr.1).2]; exact ⟨(h l hr.1).1, hr.2⟩
  | .srf l, u, hr => by
    simp only [pv.mapF, RF] at hr ⊢
    rw [(h l hr.1).2]; exact ⟨(h l hr.1).1, hr.2⟩
  | .clo f cs, u, hr => by
    simp only [pv.mapF, RF] at hr ⊢
    obtain ⟨vs, e, hr⟩ := hr
    exact ⟨vs, e, RFL.mapF h cs vs hr⟩
  | .ifc t x, u, hr => by
    simp only [pv.mapF, RF] at hr ⊢
    obtain ⟨v, e, hr⟩ := hr
    exact ⟨v, e, RF.mapF h x v hr⟩
  | .dead, u, hr => by simp only [pv.mapF, RF]
theorem RFL.mapF (h : ∀ l, A l = true → A' (τ.getD l 0) = true ∧ hd' (τ.getD l 0) = hd l) : ∀ (xs : List FV) (us : List Value), RFL A hd ow w xs us → RFL A' hd' ow w (mapFL τ xs) us
  | [], us, hr => by simpa only [mapFL, RFL] using hr
  | x :: xs, us, hr => by
    simp only [mapFL, RFL] at hr ⊢
    obtain ⟨v, r, e, h1, h2, h3⟩ := hr
    exact ⟨v, r, e, RF.mapF h x v h1, h2, RFL.mapF h xs r h3⟩
theorem RFT.mapF (h : ∀ l, A l = true → A' (τ.getD l 0) = true ∧ hd' (τ.getD l 0) = hd l) : ∀ (xs : List FV) (us : List Value), RFT A hd ow w xs us → RFT A' hd' ow w (mapFL τ xs) us
  | [], us, hr => by simpa only [mapFL, RFT] using hr
  | x :: xs, us, hr => by
    simp only [mapFL, RFT] at hr ⊢
    obtain ⟨v, r, e, h1, h3⟩ := hr
    exact ⟨v, r, e, RF.mapF h x v h1, RFT.mapF h xs r h3⟩
end
end
/-- no names are new but those of the groups that are handed over -/
def Ftag (m : List PO) (ow ow' : Ow) : Prop := ∀ g, (∀ o, o ∈ m → o.tag ≠ some g) → ow'.phi g = ow.phi g
def TagSub (m m' : List PO) : Prop := ∀ o, o ∈ m' → ∀ g, o.tag = some g → ∃ o', o' ∈ m ∧ o'.tag = some g
/-- the call, which is handed the objects m (by references in args), returns r; the objects are m' then (the first ones are those that it was handed), and nothing else has changed -/
def RetH (P : Program) (f : FuncId) (args : List FV) (m : List PO) (r : FV) (m' : List PO) : Prop := FnOk P f ∧ TagSub m m' ∧ ∀ (c : Cx) (hd : Nat → Value) (vs : List Value), SimH c m c.w c.ow hd → RFT (al m) hd c.ow c.w args vs →
  Calls P f vs.toArray c.w (fun e w' => ∃ v ow' hd', e = .returned v ∧ Keep c ow' ∧ Ftag m c.ow ow' ∧ SimH c m' w' ow' hd' ∧ (∀ l, al m l = true → al m' l = true ∧ hd' l = hd l) ∧ RF (al m') hd' ow' w' r v)
mutual
/-- a value at rest -/
def frz (m : List PO) : FV → Option PV
  | .d x => some x
  | .agg cs => (match frzL m cs with | some xs => some (.agg xs) | none => none)
  | .tup cs => (match frzL m cs with | some xs => some (.tup xs) | none => none)
  | .srf l => (match m[l]? with | some (.row _ _ xs) => some (.sl xs) | some (.cu q _) => (match q.dat with | some xs => some (.sl xs) | none => none) | _ => none)
  | .ref l off => (match m[l]? with | some (.box cs) => (match allD cs with | some xs => some (.iptr xs off) | none => none) | _ => none)
  | .asl l off k _ sz ag => (match m[l]? with | some (.box cs) => (match allD cs with | some xs => (match chunks ag sz k (xs.drop off) with | some ys => some (.sl ys) | none => none) | none => none) | _ => none)
  | .clo f cs => (match frzL m cs with | some xs => some (.clo f xs) | none => none)
  | .ifc t x => (match frz m x with | some y => some (.ifc t y) | none => none)
  | _ => none
def frzL (m : List PO) : List FV → Option (List PV)
  | [] => some []
  | x :: xs => match frz m x, frzL m xs with
    | some y, some ys => some (y :: ys)
    | _, _ => none
end
section
variable {w0 : Cx} {m : List PO} {w : World} {ow ow0 : Ow} {hd : Nat → Value}
mutual
theorem frz_sound (S : SimH w0 m w ow hd) (hk : Kp ow w ow0 w) (h0 : ∀ b, w0.New b → ow0 b = false) : ∀ (x : FV) (u : Value) (y : PV), frz m x = some y → RF (al m) hd ow w x u → R ow0 w y u
  | .d x, u, y, h, hr => by
    simp [frz] at h; subst h
    exact R.mono hk _ _ (by simpa only [RF] using hr)
  | .agg cs, u, y, h, hr => by
    simp only [frz] at h
    split at h
    · rename_i xs hx
      simp at h; subst h
      simp only [RF] at hr
      obtain ⟨vs, e, hr⟩ := hr
      simp only [R]
      exact ⟨vs, e, frzL_sound S hk h0 cs vs xs hx hr⟩
    · cases h
  | .tup cs, u, y, h, hr => by
    simp only [frz] at h
    split at h
    · rename_i xs hx
      simp at h; subst h
      simp only [RF] at hr
      obtain ⟨vs, e, hr⟩ := hr
      simp only [R]
      exact ⟨vs, e, frzT_sound S hk h0 cs vs xs hx hr⟩
    · cases h
  | .clo f cs, u, y, h, hr => by
    simp only [frz] at h
    split at h
    · rename_i xs hx
      simp at h; subst h
      simp only [RF] at hr
      obtain ⟨vs, e, hr⟩ := hr
      simp only [R]
      exact ⟨vs, e, frzL_sound S hk h0 cs vs xs hx hr⟩
    · cases h
  | .ifc t x, u, y, h, hr => by
    simp only [frz] at h
    split at h
    · rename_i z hz
      simp at h; subst h
      simp only [RF] at hr
      obtain ⟨v, e, hr⟩ := hr
      simp only [R]
      exact ⟨v, e, frz_sound S hk h0 x v z hz hr⟩
    · cases h
  | .srf l, u, y, h, hr => by
    simp only [frz] at h
    split at h
    · rename_i ty sz xs hm
      simp at h; subst h
      simp only [RF] at hr
      obtain ⟨_, e1, _⟩ := hr
      obtain ⟨cells, ⟨h1, h1'⟩, h2, h3⟩ := S.objs l _ hm
      rw [e1]
      simp only [R]
      rcases h1' with ⟨e2, e3⟩ | ⟨gb, cap, cur, e2, e3, e4, e5, e6, e7, e8⟩
      · rw [e2]; exact ⟨none, 0, by rw [e3], by omega, by simp [maxLen], .inl (List.eq_nil_of_length_eq_zero e3)⟩
      · rw [e2]
        refine ⟨some ⟨gb, 0, none⟩, cap, rfl, e5, e6, .inr ⟨gb, 0, sz, cells, rfl, (Array.getElem?_eq_some_iff.1 e4).1, h0 gb (h2 gb (by rw [e2]; first | rfl | simp [blocksOf, blockOf])).1, fun j v hv => ?_, RE.mono hk _ _ _ h3⟩⟩
        rw [← e8, List.getElem?_take] at hv
        split at hv
        · unfold World.cell?
          simp only [e4]
          simpa using hv
        · cases hv
    · rename_i q fs hm
      split at h
      · rename_i xs hx
        simp at h; subst h
        simp only [RF] at hr
        obtain ⟨_, e1, _⟩ := hr
        obtain ⟨hb, vs, _, hI⟩ := S.objs l _ hm
        rw [e1]
        exact q.fz hx hI hk fun b hb' => h0 b (hb b hb').1
      · cases h
    · cases h
  | .ref l off, u, y, h, hr => by
    simp only [frz] at h
    split at h
    · rename_i cs hm
      split at h
      · rename_i xs hx
        simp at h; subst h
        simp only [RF] at hr
        obtain ⟨_, b, e1, e2⟩ := hr
        obtain ⟨b', vals, t, h1, h2, h3, h4, h5⟩ := S.objs l _ hm
        rw [e1] at h1
        simp at h1
        subst h1
        rw [allD_eq hx] at h5
        rw [e2]
        simp only [R]
        refine ⟨b, 0, vals.toList, by simp, (Array.getElem?_eq_some_iff.1 h4).1, h0 b h2, fun j v hv => ?_, RL.mono hk _ _ (RFL.to_RL h5)⟩
        unfold World.cell?
        simp only [h4]
        simpa using hv
      · cases h
    · cases h
  | .asl l off k cp sz ag, u, y, h, hr => by
    simp only [frz] at h
    split at h
    · rename_i cs hm
      split at h
      · rename_i xs hx
        split at h
        · rename_i ys hy
          simp at h; subst h
          simp only [RF] at hr
          obtain ⟨_, b, e1, e2, hk1, hk2⟩ := hr
          obtain ⟨b', vals, t, h1, h2, h3, h4, h5⟩ := S.objs l _ hm
          rw [e1] at h1
          simp at h1
          subst h1
          rw [allD_eq hx] at h5
          have h6 := RL.drop off (RFL.to_RL h5)
          obtain ⟨c1, c2⟩ := chunks_RE hy h6
          have hl := chunks_len hy
          rw [e2]
          simp only [R]
          refine ⟨some ⟨b, off, none⟩, cp, by rw [hl], by rw [hl]; exact hk1, hk2, .inr ⟨b, off, sz, _, rfl, (Array.getElem?_eq_some_iff.1 h4).1, h0 b h2, fun j v hv => ?_, RE.mono hk _ _ _ c1⟩⟩
          rw [List.getElem?_take] at hv
          split at hv
          · rw [List.getElem?_drop] at hv
            unfold World.cell?
            simp only [h4]
            simpa using hv
          · cases hv
        · cases h
      · cases h
    · cases h
  | .ept _ _ _ _, u, y, h, hr => by simp [frz] at h
  | .dead, u, y, h, hr => by simp [frz] at h
theorem frzL_sound (S : SimH w0 m w ow hd) (hk : Kp ow w ow0 w) (h0 : ∀ b, w0.New b → ow0 b = false) : ∀ (xs : List FV) (us : List Value) (ys : List PV), frzL m xs = some ys → RFL (al m) hd ow w xs us → RL ow0 w ys us
  | [], us, ys, h, hr => by simp [frzL] at h; subst h; simpa only [RFL, RL] using hr
  | x :: xs, us, ys, h, hr => by
    simp only [frzL] at h
    split at h
    · rename_i z zs h1 h2
      simp at h; subst h
      simp only [RFL] at hr
      obtain ⟨v, r, e, g1, g2, g3⟩ := hr
      simp only [RL]
      exact ⟨v, r, e, frz_sound S hk h0 x v z h1 g1, g2, frzL_sound S hk h0 xs r zs h2 g3⟩
    · cases h
theorem frzT_sound (S : SimH w0 m w ow hd) (hk : Kp ow w ow0 w) (h0 : ∀ b, w0.New b → ow0 b = false) : ∀ (xs : List FV) (us : List Value) (ys : List PV), frzL m xs = some ys → RFT (al m) hd ow w xs us → RT ow0 w ys us
  | [], us, ys, h, hr => by simp [frzL] at h; subst h; simpa only [RFT, RT] using hr
  | x :: xs, us, ys, h, hr => by
    simp only [frzL] at h
    split at h
    · rename_i z zs h1 h2
      simp at h; subst h
      simp only [RFT] at hr
      obtain ⟨v, r, e, g1, g3⟩ := hr
      simp only [RT]
      exact ⟨v, r, e, frz_sound S hk h0 x v z h1 g1, frzT_sound S hk h0 xs r zs h2 g3⟩
    · cases h
end
end
/-- the elements of a slice: at rest, or of a private row (its place) -/
inductive Els (m : List PO) : FV → List PV → List Nat → Prop where
  | asl (l off k c sz : Nat) (ag : Bool) (xs : List PV) : frz m (.asl l off k c sz ag) = some (.sl xs) → Els m (.asl l off k c sz ag) xs [l]
  | sl (xs : List PV) : Els m (.d (.sl xs)) xs []
  | nil : Els m (.d vnil) [] []
  | nnil (a : Addr) (c : Nat) : Els m (.d (.v (.slice (some a) 0 c))) [] []
  | row (l ty sz : Nat) (xs : List PV) : m[l]? = some (.row ty sz xs) → Els m (.srf l) xs [l]
mutual
/-- the objects that a value names -/
def locs : FV → List Nat
  | .agg cs => locsL cs
  | .tup cs => locsL cs
  | .srf l => [l]
  | .ref l _ => [l]
  | .ept l _ _ _ => [l]
  | .asl l _ _ _ _ _ => [l]
  | .ssl l _ _ _ => [l]
  | .clo _ cs => locsL cs
  | .ifc _ x => locs x
  | _ => []
def locsL : List FV → List Nat
  | [] => []
  | x :: xs => locs x ++ locsL xs
end
mutual
theorem frz_frame {m m' : List PO} : ∀ (x : FV), (∀ l ∈ locs x, m'[l]? = m[l]?) → frz m' x = frz m x
  | .d x, h => by simp only [frz]
  | .agg cs, h => by simp only [frz]; rw [frzL_frame cs (by simpa only [locs] using h)]
  | .tup cs, h => by simp only [frz]; rw [frzL_frame cs (by simpa only [locs] using h)]
  | .srf l, h => by simp only [frz]; rw [h l (by simp [locs])]
  | .ref l off, h => by simp only [frz]; rw [h l (by simp [locs])]
  | .ept l sz i off, h => by simp only [frz]
  | .asl l off k c sz ag, h => by simp only [frz]; rw [h l (by simp [locs])]
  | .clo f cs, h => by simp only [frz]; rw [frzL_frame cs (by simpa only [locs] using h)]
  | .ifc t x, h => by simp only [frz]; rw [frz_frame x (by simpa only [locs] using h)]
  | .dead, h => by simp only [frz]
  | .ssl _ _ _ _, h => by simp only [frz]
theorem frzL_frame {m m' : List PO} : ∀ (xs : List FV), (∀ l ∈ locsL xs, m'[l]? = m[l]?) → frzL m' xs = frzL m xs
  | [], h => by simp only [frzL]
  | x :: xs, h => by
    simp only [frzL]
    rw [frz_frame x (fun l hl => h l (by simp only [locsL, List.mem_append]; exact .inl hl)), frzL_frame xs (fun l hl => h l (by simp only [locsL, List.mem_append]; exact .inr hl))]
end
def eqlOp : BinOp → Bool
  | .eql | .neq => true
  | _ => false
def eqRes (op : BinOp) (z : Bool) : Bool := match op with
  | .eql => z
  | _ => !z
/-- two structs or arrays of this type, of plain cells, compare so -/
def EqA (P : Program) (t : Nat) (xs ys : List Value) (z : Bool) : Prop := ∀ (op : BinOp) (xo yo : Operand) (w : World), eqlOp op = true → (do eqGuard op t xo yo (.agg xs.toArray) (.agg ys.toArray); binOp op t (.agg xs.toArray) (.agg ys.toArray) : Sem Value).run P w = .ok (.bool (eqRes op z)) w
def plain : List PV → Option (List Value)
  | [] => some []
  | .v x :: r => (plain r).map (x :: ·)
  | _ => none
def ptrLike : FV → Bool
  | .ref _ _ | .ept _ _ _ _ | .d (.iptr _ _) | .d (.clo _ _) | .d (.ifc _ _) | .d (.vp _ _ _) | .clo _ _ => true
  | _ => false
/-- an operand that may be missing, as a number -/
def optInt (ρ : Operand → FV) (dflt : Int) : Option Operand → Option Int
  | none => some dflt
  | some x => match ρ x with
    | .d (.v (.int _ j)) => some j
    | _ => none
/-- a type's zero value -/
def zeroPV (ti : TI) : Option PV := match ti.kind.agg, ti.zero with
  | true, z :: zs => some (.agg (nslL ((z :: zs).map Z.pv)))
  | false, [z] => some (nsl z.pv)
  | _, _ => none
/-- a pointer's type: what it points at -/
def tsl? (T : List TI) (t : Nat) : Bool := match tk T t with | some (.sl _) => true | _ => false
/-- is a slice nil? -/
def nilness : FV → Option Bool
  | .d (.v (.slice none _ _)) => some true
  | .d (.v (.slice (some _) _ _)) => some false
  | .d (.sl (_ :: _)) => some false
  | _ => none
def cloOf : FV → Option (FuncId × List FV)
  | .d (.clo g cs) => some (g, cs.map FV.d)
  | .clo g cs => some (g, cs)
  | _ => none
def liveAt (m : List PO) (l : Nat) : Bool := match m[l]? with | some o => o.live | none => false
def isFreeAt (m : List PO) (l : Nat) : Bool := match m[l]? with | some .free => true | _ => false
def okH : PO → Bool
  | .free | .gh _ _ => false
  | _ => true
def zipO (τ : List Nat) : List Nat → List PO → List (Nat × PO)
  | l :: r, o :: os => (l, mapO τ o) :: zipO τ r os
  | _, _ => []
inductive PAct0 (P : Program) (T : List TI) (ρ : Operand → FV) (m : List PO) (nl : Nat) : Op → FV → List (Nat × PO) → List Nat → Prop where
  | move (x : Operand) : PAct0 P T ρ m nl (.move x) (ρ x) [] []
  | assign (x : Operand) : PAct0 P T ρ m nl (.assign x) (ρ x) [] []
  | pick (c a b : Operand) (t : Bool) : ρ c = .d (.v (.bool t)) → PAct0 P T ρ m nl (.pick c a b) (bif t then ρ a else ρ b) [] []
  | alloc (e : Nat) (ti : TI) : m[nl]? = some .free → T[e]? = some ti → ti.zero ≠ [] → PAct0 P T ρ m nl (.alloc e) (.ref nl 0) [(nl, .box (ti.zero.map fun z => .d z.pv))] [nl]
  | box (e : Nat) (x : Operand) (cs : List FV) : m[nl]? = some .free → fcells (ρ x) = some cs → PAct0 P T ρ m nl (.box e x) (.ref nl 0) [(nl, .box cs)] [nl]
  | loadS (t : Nat) (x : Operand) (l off : Nat) (cs : List FV) (r : FV) : tagg T t = some false → ρ x = .ref l off → m[l]? = some (.box cs) → cs[off]? = some r → PAct0 P T ρ m nl (.load t x) r [] [l]
  | loadA (t : Nat) (x : Operand) (l off : Nat) (cs : List FV) (sz : Nat) : tagg T t = some true → tsz T t = some sz → ρ x = .ref l off → m[l]? = some (.box cs) → off + sz ≤ cs.length →
      PAct0 P T ρ m nl (.load t x) (mkAgg ((cs.drop off).take sz)) [] [l]
  | loadIS (t : Nat) (x : Operand) (off : Nat) (cs : List PV) (r : PV) : tagg T t = some false → ρ x = .d (.iptr cs off) → cs[off]? = some r → PAct0 P T ρ m nl (.load t x) (.d r) [] []
  | loadIA (t : Nat) (x : Operand) (off : Nat) (cs : List PV) (sz : Nat) : tagg T t = some true → tsz T t = some sz → ρ x = .d (.iptr cs off) → off + sz ≤ cs.length →
      PAct0 P T ρ m nl (.load t x) (.d (.agg ((cs.drop off).take sz))) [] []
  | loadES (t : Nat) (x : Operand) (l ty sz i off : Nat) (xs : List PV) (y r : PV) : tagg T t = some false → ρ x = .ept l sz i off → m[l]? = some (.row ty sz xs) → xs[i]? = some y → fits sz y = true → (pcells y)[off]? = some r →
      PAct0 P T ρ m nl (.load t x) (.d r) [] [l]
  | loadEA (t : Nat) (x : Operand) (l ty sz i off : Nat) (xs : List PV) (y : PV) (k : Nat) : tagg T t = some true → tsz T t = some k → ρ x = .ept l sz i off → m[l]? = some (.row ty sz xs) → xs[i]? = some y → fits sz y = true → off + k ≤ sz →
      PAct0 P T ρ m nl (.load t x) (.d (.agg (((pcells y).drop off).take k))) [] [l]
  | store (t : Nat) (x y : Operand) (l off : Nat) (cs zs : List FV) : ρ x = .ref l off → m[l]? = some (.box cs) → fcells (ρ y) = some zs → tsz T t = some zs.length → off + zs.length ≤ cs.length →
      PAct0 P T ρ m nl (.store t x y) .dead [(l, .box (splice cs off zs))] [l]
  | storeE (t : Nat) (x z : Operand) (l ty sz i off : Nat) (xs : List PV) (y zv y' : PV) : ρ x = .ept l sz i off → m[l]? = some (.row ty sz xs) → xs[i]? = some y → fits sz y = true → ρ z = .d zv → isTup zv = false → tsz T t = some (psz zv) → off + psz zv ≤ sz →
      pcells y' = splice (pcells y) off (pcells zv) → isTup y' = false → PAct0 P T ρ m nl (.store t x z) .dead [(l, .row ty sz (xs.set i y'))] [l]
  | fieldP (s : Nat) (x : Operand) (f o ft l off : Nat) : tfo T s f = some (o, ft) → ρ x = .ref l off → PAct0 P T ρ m nl (.fieldAddr s x f) (.ref l (off + o)) [] []
  | fieldE (s : Nat) (x : Operand) (f o ft l sz i off : Nat) : tfo T s f = some (o, ft) → ρ x = .ept l sz i off → PAct0 P T ρ m nl (.fieldAddr s x f) (.ept l sz i (off + o)) [] []
  | fieldI (s : Nat) (x : Operand) (f o ft off : Nat) (cs : List PV) : tfo T s f = some (o, ft) → ρ x = .d (.iptr cs off) → PAct0 P T ρ m nl (.fieldAddr s x f) (.d (.iptr cs (off + o))) [] []
  | fieldS (s : Nat) (x : Operand) (f o ft : Nat) (cs : List FV) (r : FV) : tfo T s f = some (o, ft) → tagg T ft = some false → aggCells (ρ x) = some cs → cs[o]? = some r → PAct0 P T ρ m nl (.field s x f) r [] []
  | fieldA (s : Nat) (x : Operand) (f o ft : Nat) (cs : List FV) (sz : Nat) : tfo T s f = some (o, ft) → tagg T ft = some true → tsz T ft = some sz → aggCells (ρ x) = some cs → o + sz ≤ cs.length → PAct0 P T ρ m nl (.field s x f) (mkAgg ((cs.drop o).take sz)) [] []
  | idxP (t : Nat) (x i : Operand) (n e s l off : Nat) (ik : IntKind) (j : Int) : tarr T t = some (n, e, s) → ρ x = .ref l off → ρ i = .d (.v (.int ik j)) → 0 ≤ j → j < n → PAct0 P T ρ m nl (.indexAddr t x i) (.ref l (off + j.toNat * s)) [] []
  | idxE (t : Nat) (x i : Operand) (n e s l sz q off : Nat) (ik : IntKind) (j : Int) : tarr T t = some (n, e, s) → ρ x = .ept l sz q off → ρ i = .d (.v (.int ik j)) → 0 ≤ j → j < n → PAct0 P T ρ m nl (.indexAddr t x i) (.ept l sz q (off + j.toNat * s)) [] []
  | idxI (t : Nat) (x i : Operand) (n e s off : Nat) (cs : List PV) (ik : IntKind) (j : Int) : tarr T t = some (n, e, s) → ρ x = .d (.iptr cs off) → ρ i = .d (.v (.int ik j)) → 0 ≤ j → j < n → PAct0 P T ρ m nl (.indexAddr t x i) (.d (.iptr cs (off + j.toNat * s))) [] []
  | idxS (t : Nat) (x i : Operand) (e s : Nat) (xs : List PV) (y : PV) (ik : IntKind) (j : Int) : tsl T t = some (e, s) → ρ x = .d (.sl xs) → ρ i = .d (.v (.int ik j)) → 0 ≤ j → xs[j.toNat]? = some y → fits s y = true → PAct0 P T ρ m nl (.indexAddr t x i) (.d (.iptr (pcells y) 0)) [] []
  | idxR (t : Nat) (x i : Operand) (e s l : Nat) (xs : List PV) (ik : IntKind) (j : Int) : tsl T t = some (e, s) → ρ x = .srf l → m[l]? = some (.row e s xs) → ρ i = .d (.v (.int ik j)) → 0 ≤ j → j.toNat < xs.length → PAct0 P T ρ m nl (.indexAddr t x i) (.ept l s j.toNat 0) [] [l]
  | idxVS (t : Nat) (x i : Operand) (n e s : Nat) (cs : List FV) (ik : IntKind) (j : Int) (r : FV) : tarr T t = some (n, e, s) → tagg T e = some false → aggCells (ρ x) = some cs → ρ i = .d (.v (.int ik j)) → 0 ≤ j → j < n → cs[j.toNat * s]? = some r → PAct0 P T ρ m nl (.index t x i) r [] []
  | idxVA (t : Nat) (x i : Operand) (n e s : Nat) (cs : List FV) (ik : IntKind) (j : Int) : tarr T t = some (n, e, s) → tagg T e = some true → aggCells (ρ x) = some cs → ρ i = .d (.v (.int ik j)) → 0 ≤ j → j < n → j.toNat * s + s ≤ cs.length → PAct0 P T ρ m nl (.index t x i) (mkAgg ((cs.drop (j.toNat * s)).take s)) [] []
  | extract (x : Operand) (i : Nat) (cs : List FV) (r : FV) : tupCells (ρ x) = some cs → cs[i]? = some r → PAct0 P T ρ m nl (.extract x i) r [] []
  | bin (op : BinOp) (t : Nat) (x y : Operand) (yt : Nat) (a b z : Value) : ρ x = .d (.v a) → ρ y = .d (.v b) → pbin op a b = some z → PAct0 P T ρ m nl (.binOp op t x y yt) (.d (.v z)) [] []
  | shl (t : Nat) (x y : Operand) (yt : Nat) (k k' : IntKind) (a b : Int) : ρ x = .d (.v (.int k a)) → ρ y = .d (.v (.int k' b)) → 0 ≤ b → PAct0 P T ρ m nl (.binOp .shl t x y yt) (.d (.v (.int k (k.wrap (a * 2 ^ (min b.toNat k.bits)))))) [] []
  | shr (t : Nat) (x y : Operand) (yt : Nat) (k k' : IntKind) (a b : Int) : ρ x = .d (.v (.int k a)) → ρ y = .d (.v (.int k' b)) → 0 ≤ b → PAct0 P T ρ m nl (.binOp .shr t x y yt) (.d (.v (.int k (a.fdiv (2 ^ (min b.toNat k.bits)))))) [] []
  | quo (t : Nat) (x y : Operand) (yt : Nat) (k : IntKind) (a b : Int) : ρ x = .d (.v (.int k a)) → ρ y = .d (.v (.int k b)) → b ≠ 0 → PAct0 P T ρ m nl (.binOp .quo t x y yt) (.d (.v (.int k (k.wrap (a.tdiv b))))) [] []
  | rem (t : Nat) (x y : Operand) (yt : Nat) (k : IntKind) (a b : Int) : ρ x = .d (.v (.int k a)) → ρ y = .d (.v (.int k b)) → b ≠ 0 → PAct0 P T ρ m nl (.binOp .rem t x y yt) (.d (.v (.int k (a.tmod b)))) [] []
  | un (op : UnOp) (t : Nat) (x : Operand) (a z : Value) : ρ x = .d (.v a) → pun op a = some z → PAct0 P T ρ m nl (.unOp op t x) (.d (.v z)) [] []
  | conv (s t : Nat) (x : Operand) (k k' : IntKind) (ti : TI) (n : Int) : T[s]? = some ti → tint T t = some k' → ρ x = .d (.v (.int k n)) → PAct0 P T ρ m nl (.convert s t x) (.d (.v (.int k' (k'.wrap n)))) [] []
  | len (t : Nat) (x : Operand) (e s : Nat) (xs : List PV) (ls : List Nat) : tsl T t = some (e, s) → Els m (ρ x) xs ls → PAct0 P T ρ m nl (.call ⟨.builtin .len, #[x], #[t]⟩) (.d (.v (.int .i64 xs.length))) [] ls
  | min2 (t t' : Nat) (x y : Operand) (k : IntKind) (a b : Int) : ρ x = .d (.v (.int k a)) → ρ y = .d (.v (.int k b)) → PAct0 P T ρ m nl (.call ⟨.builtin .min, #[x, y], #[t, t']⟩) (.d (.v (.int k (if b < a then b else a)))) [] []
  | max2 (t t' : Nat) (x y : Operand) (k : IntKind) (a b : Int) : ρ x = .d (.v (.int k a)) → ρ y = .d (.v (.int k b)) → PAct0 P T ρ m nl (.call ⟨.builtin .max, #[x, y], #[t, t']⟩) (.d (.v (.int k (if b > a then b else a)))) [] []
  | build (t : Nat) (parts : Array (Nat × Operand)) (ti : TI) (pl : Nat → Option (Nat × Nat)) (cs : List FV) : T[t]? = some ti → ti.zero ≠ [] → tplaces T t = some pl → pfill pl (ti.zero.map fun z => .d z.pv) (parts.toList.map fun p => (p.1, ρ p.2)) = some cs →
      PAct0 P T ρ m nl (.build t parts) (mkAgg cs) [] []
  | makeFunc (g : FuncId) (caps : Array Operand) (cs : List FV) : caps.toList.map ρ = cs → cs.all oneFV = true → PAct0 P T ρ m nl (.makeFunc (.func g) #[] caps) (mkClo g cs) [] []
  | call (f : Operand) (args : Array Operand) (tys : Array Nat) (g : FuncId) (caps ps : List PV) (r : PV) : ρ f = .d (.clo g caps) → args.toList.map ρ = ps.map FV.d → Ret P g (nslL ps ++ caps) r → PAct0 P T ρ m nl (.call ⟨.value f, args, tys⟩) (.d r) [] []
  | callF (f : Operand) (args : Array Operand) (tys : Array Nat) (g : FuncId) (caps ps : List PV) (r : PV) : frz m (ρ f) = some (.clo g caps) → frzL m (args.toList.map ρ) = some ps → Ret P g (nslL ps ++ caps) r → flat r = true → PAct0 P T ρ m nl (.call ⟨.value f, args, tys⟩) (.d r) [] (locs (ρ f) ++ locsL (args.toList.map ρ))
  | binB (op : BinOp) (t : Nat) (x y : Operand) (yt : Nat) (a b : Bool) : tk T t = some .bool → eqlOp op = true → ρ x = .d (.v (.bool a)) → ρ y = .d (.v (.bool b)) → PAct0 P T ρ m nl (.binOp op t x y yt) (.d (.v (.bool (eqRes op (a == b))))) [] []
  | binA (op : BinOp) (t : Nat) (x y : Operand) (yt : Nat) (xs ys : List PV) (us vs : List Value) (z : Bool) : eqlOp op = true → ρ x = .d (.agg xs) → ρ y = .d (.agg ys) → plain xs = some us → plain ys = some vs → EqA P t us vs z → PAct0 P T ρ m nl (.binOp op t x y yt) (.d (.v (.bool (eqRes op z)))) [] []
  | nilC (x : Operand) : ptrLike (ρ x) = true → PAct0 P T ρ m nl (.nilCheck x) (ρ x) [] []
  | bslice (t len : Nat) (parts : Array (Nat × Operand)) (e s : Nat) (ti : TI) (xs : List PV) : m[nl]? = some .free → tsl T t = some (e, s) → T[e]? = some ti → ti.zero ≠ [] → 0 < s → 0 < xs.length → xs.length * s ≤ 16777216 → len = xs.length →
      parts.toList.map (fun p => (p.1, ρ p.2)) = (xs.zipIdx 0).map (fun q => (q.2, FV.d q.1)) → (xs.all (fits s)) = true → PAct0 P T ρ m nl (.buildSlice t len parts) (.srf nl) [(nl, .row e s (xs.map nsl))] [nl]
  | mkSl (t : Nat) (x y : Operand) (e s : Nat) (ti : TI) (z : PV) (k k' : IntKind) (j : Int) : m[nl]? = some .free → tsl T t = some (e, s) → T[e]? = some ti → zeroPV ti = some z → ti.zero.length = s → 0 < s → ρ x = .d (.v (.int k j)) → ρ y = .d (.v (.int k' j)) → 0 ≤ j → j.toNat ≤ maxLen → ti.bytes * j.toNat ≤ 281474976710656 →
      PAct0 P T ρ m nl (.makeSlice t x y) (.srf nl) [(nl, .row e s (List.replicate j.toNat z))] [nl]
  | sliceD (t : Nat) (x : Operand) (lo hi : Option Operand) (e s : Nat) (xs : List PV) (l h : Int) : tsl T t = some (e, s) → ρ x = .d (.sl xs) → optInt ρ 0 lo = some l → optInt ρ xs.length hi = some h → 0 ≤ l → l ≤ h → h ≤ xs.length → (xs.all (fits s)) = true →
      PAct0 P T ρ m nl (.slice t x lo hi none) (.d (.sl ((xs.take h.toNat).drop l.toNat))) [] []
  | append (t : Nat) (x y : Operand) (e s : Nat) (ti : TI) (xs ys : List PV) (U : List (Nat × PO)) (ls ks : List Nat) : m[nl]? = some .free → tsl T t = some (e, s) → T[e]? = some ti → ti.zero.length = s → 0 < s → Base m e s (ρ x) xs U ls → Els m (ρ y) ys ks → (ys.all (fits s)) = true →
      xs.length + ys.length ≤ maxLen → (xs.length + ys.length) * ti.bytes ≤ 140737488355328 → PAct0 P T ρ m nl (.call ⟨.builtin .append, #[x, y], #[t, t]⟩) (.srf nl) (U ++ [(nl, .row e s (xs ++ ys))]) (nl :: ls ++ ks)

  | sliceR (t : Nat) (x : Operand) (lo hi : Option Operand) (e s l : Nat) (xs : List PV) (h : Int) : m[nl]? = some .free → tsl T t = some (e, s) → ρ x = .srf l → m[l]? = some (.row e s xs) → optInt ρ 0 lo = some 0 → optInt ρ xs.length hi = some h → 0 ≤ h → h ≤ xs.length →
      PAct0 P T ρ m nl (.slice t x lo hi none) (.srf nl) [(l, .none), (nl, .row e s (xs.take h.toNat))] [nl, l]
  | sliceA (t : Nat) (x : Operand) (lo hi : Option Operand) (n e s l off : Nat) (ag : Bool) (i h : Int) : tarr T t = some (n, e, s) → tagg T e = some ag → ρ x = .ref l off → optInt ρ 0 lo = some i → optInt ρ n hi = some h → 0 ≤ i → i ≤ h → h ≤ n → i < n → n ≤ maxLen →
      PAct0 P T ρ m nl (.slice t x lo hi none) (.asl l (off + i.toNat * s) (h.toNat - i.toNat) (n - i.toNat) s ag) [] []
  | idxA (t : Nat) (x i : Operand) (e s l off k c : Nat) (ag : Bool) (ik : IntKind) (j : Int) : tsl T t = some (e, s) → ρ x = .asl l off k c s ag → ρ i = .d (.v (.int ik j)) → 0 ≤ j → j < k → PAct0 P T ρ m nl (.indexAddr t x i) (.ref l (off + j.toNat * s)) [] []
  | bsliceD (t len : Nat) (parts : Array (Nat × Operand)) (e s : Nat) (ti : TI) (xs : List PV) : tsl T t = some (e, s) → T[e]? = some ti → ti.zero ≠ [] → 0 < s → 0 < xs.length → xs.length * s ≤ 16777216 → len = xs.length →
      parts.toList.map (fun p => (p.1, ρ p.2)) = (xs.zipIdx 0).map (fun q => (q.2, FV.d q.1)) → (xs.all (fits s)) = true → PAct0 P T ρ m nl (.buildSlice t len parts) (.d (.sl (xs.map nsl))) [] []
  | appz (t tn : Nat) (x y : Operand) (e s : Nat) (ti : TI) (z : PV) (kn kq : IntKind) (xs : List PV) (j : Int) (U : List (Nat × PO)) (ls : List Nat) : m[nl]? = some .free → tsl T t = some (e, s) → tint T tn = some kn → T[e]? = some ti → zeroPV ti = some z → ti.zero.length = s → 0 < s → Base m e s (ρ x) xs U ls → ρ y = .d (.v (.int kq j)) → 0 < j →
      xs.length + j.toNat ≤ maxLen → (xs.length + j.toNat) * ti.bytes ≤ 140737488355328 → PAct0 P T ρ m nl (.call ⟨.builtin .append, #[x, y], #[t, tn]⟩) (.srf nl) (U ++ [(nl, .row e s (xs ++ List.replicate j.toNat z))]) (nl :: ls)
  | capN (t : Nat) (x : Operand) (e s : Nat) : tsl T t = some (e, s) → ρ x = .d vnil → PAct0 P T ρ m nl (.call ⟨.builtin .cap, #[x], #[t]⟩) (.d (.v (.int .i64 0))) [] []
  | idxStr (t : Nat) (x i : Operand) (s : ByteArray) (ik : IntKind) (j : Int) (b : UInt8) : tk T t = some .str → ρ x = .d (.v (.string s)) → ρ i = .d (.v (.int ik j)) → 0 ≤ j → s[j.toNat]? = some b → PAct0 P T ρ m nl (.index t x i) (.d (.v (.int .u8 b.toNat))) [] []
  | lenStr (t : Nat) (x : Operand) (s : ByteArray) : tk T t = some .str → ρ x = .d (.v (.string s)) → PAct0 P T ρ m nl (.call ⟨.builtin .len, #[x], #[t]⟩) (.d (.v (.int .i64 s.size))) [] []
  | sliceS (t : Nat) (x : Operand) (lo hi : Option Operand) (e s l : Nat) (xs : List PV) (i h : Int) : tsl T t = some (e, s) → ρ x = .srf l → m[l]? = some (.row e s xs) → optInt ρ 0 lo = some i → optInt ρ xs.length hi = some h → 0 ≤ i → i ≤ h → h ≤ xs.length →
      PAct0 P T ρ m nl (.slice t x lo hi none) (.ssl l i.toNat h.toNat s) [] [l]
  | slice3 (t : Nat) (x : Operand) (lo hi : Option Operand) (mx h0 : Operand) (e s l : Nat) (xs : List PV) (i h q : Int) : hi = some h0 → tsl T t = some (e, s) → ρ x = .srf l → m[l]? = some (.row e s xs) → optInt ρ 0 lo = some i → optInt ρ xs.length hi = some h → optInt ρ 0 (some mx) = some q → 0 ≤ i → i ≤ h → h ≤ q → q ≤ xs.length →
      PAct0 P T ρ m nl (.slice t x lo hi (some mx)) .dead [] [l]
  | moveC (x : Operand) (e s l k : Nat) (xs : List PV) : m[nl]? = some .free → ρ x = .ssl l 0 k s → m[l]? = some (.row e s xs) → k ≤ xs.length → PAct0 P T ρ m nl (.move x) (.srf nl) [(l, .none), (nl, .row e s (xs.take k))] [nl, l]
  | sliceSS (t : Nat) (x : Operand) (lo hi : Option Operand) (e s l k : Nat) (xs : List PV) (i h : Int) : tsl T t = some (e, s) → ρ x = .ssl l 0 k s → m[l]? = some (.row e s xs) → optInt ρ 0 lo = some i → optInt ρ k hi = some h → 0 ≤ i → i ≤ h → h ≤ xs.length →
      PAct0 P T ρ m nl (.slice t x lo hi none) (.ssl l i.toNat h.toNat s) [] [l]
  | lenSS (t : Nat) (x : Operand) (e s l i j : Nat) : tsl T t = some (e, s) → ρ x = .ssl l i j s → PAct0 P T ρ m nl (.call ⟨.builtin .len, #[x], #[t]⟩) (.d (.v (.int .i64 ((j - i : Nat) : Int)))) [] []
  | sliceN (t : Nat) (x : Operand) (lo hi : Option Operand) (e s : Nat) : tsl T t = some (e, s) → ρ x = .d vnil → optInt ρ 0 lo = some 0 → optInt ρ 0 hi = some 0 → PAct0 P T ρ m nl (.slice t x lo hi none) (.d vnil) [] []
  | appendZ (t t' : Nat) (x y : Operand) (e s : Nat) (ti : TI) (z : PV) (k k' : IntKind) (j : Int) : m[nl]? = some .free → tsl T t = some (e, s) → tint T t' = some k' → T[e]? = some ti → zeroPV ti = some z → ti.zero.length = s → 0 < s → ρ x = .d vnil → ρ y = .d (.v (.int k j)) → 0 ≤ j → j.toNat ≤ maxLen → j.toNat * ti.bytes ≤ 140737488355328 →
      PAct0 P T ρ m nl (.call ⟨.builtin .append, #[x, y], #[t, t']⟩) (.srf nl) [(nl, .row e s (List.replicate j.toNat z))] [nl]
  | bslice0 (t : Nat) (parts : Array (Nat × Operand)) (e s : Nat) (ti : TI) : m[nl]? = some .free → tsl T t = some (e, s) → T[e]? = some ti → ti.zero ≠ [] → parts.toList = [] → PAct0 P T ρ m nl (.buildSlice t 0 parts) (.srf nl) [(nl, .row e s [])] [nl]
  | eqNil (op : BinOp) (t : Nat) (x y : Operand) (yt : Nat) (z : Bool) : eqlOp op = true → tsl? T t = true → nilness (ρ x) = some z → ρ y = .d vnil → PAct0 P T ρ m nl (.binOp op t x y yt) (.d (.v (.bool (eqRes op z)))) [] []
  | callH (f : Operand) (args : Array Operand) (tys : Array Nat) (g : FuncId) (cs : List FV) (s τ : List Nat) (bs : List Bool) (m2 : List PO) (r : FV) : cloOf (ρ f) = some (g, cs) → nodup τ = true → s.all (liveAt m) = true → τ = s ++ (List.range (m2.length - s.length)).map (nl + ·) → (List.range (m2.length - s.length)).all (fun k => isFreeAt m (nl + k)) = true → m2.all okH = true → s.length ≤ m2.length →
      RetH P g (nslM bs (renL s (args.toList.map ρ)) ++ renL s cs) ((renM m s s).map nslO) r m2 → PAct0 P T ρ m nl (.call ⟨.value f, args, tys⟩) (mapF τ r) (zipO τ τ m2) τ

/-- what a list of changes makes of the heap -/
def updM (m : List PO) : List (Nat × PO) → List PO
  | [] => m
  | (l, o) :: r => updM (m.set l o) r
def PS.act (st : PS) (d : Option Nat) (r : FV) (U : List (Nat × PO)) : PS := ⟨putF st.f d r, updM st.m U⟩
/-- an act told by what it does: whatever the machine's state is, if the operands hold these values and these objects stand so, the operation gives r and makes the changes U -/
def Ext (P : Program) (T : List TI) (op : Op) (vs : List FV) (m0 : List (Nat × PO)) (r : FV) (U : List (Nat × PO)) : Prop :=
  ∀ (n : Nat) (w0 : Cx) (st : PS) (a : Act) (w : World) (o : Oper), TOk P T → Sim n w0 st a w → o.op = op → (∀ k, o.dst = some k → k < n) → op.operands.toList.map (ev st.f) = vs → (∀ q ∈ m0, st.m[q.1]? = some q.2) →
    ∀ (K : Act → World → Prop) (Q : Exit → Act → World → Prop), (∀ a' w', Sim n w0 (st.act o.dst r U) a' w' → K a' w') → o.wp P a w K Q
inductive PAct (P : Program) (T : List TI) (ρ : Operand → FV) (m : List PO) (nl : Nat) : Op → FV → List (Nat × PO) → List Nat → Prop where
  | base {op : Op} {r : FV} {U : List (Nat × PO)} {F : List Nat} : PAct0 P T ρ m nl op r U F → PAct P T ρ m nl op r U F
  | ext {op : Op} {r : FV} {U m0 : List (Nat × PO)} : (∀ q ∈ m0, m[q.1]? = some q.2) → (∀ q ∈ U, q.1 ∈ m0.map (·.1)) → Ext P T op (op.operands.toList.map ρ) m0 r U → PAct P T ρ m nl op r U (m0.map (·.1))
  | fz {op : Op} {l ty sz : Nat} {xs : List PV} {U1 U2 : List (Nat × PO)} {F : List Nat} : l < m.length → (∀ q ∈ U2, q.1 ≠ l) → PAct P T ρ m nl op (.srf l) (U1 ++ (l, .row ty sz xs) :: U2) F → PAct P T ρ m nl op (.d (.sl xs)) (U1 ++ (l, .row ty sz xs) :: U2 ++ [(l, .none)]) F
  | cp {op : Op} {l e s k : Nat} {xs : List PV} {F : List Nat} : m[l]? = some (.row e s xs) → m[nl]? = some .free → k ≤ xs.length → PAct P T ρ m nl op (.ssl l 0 k s) [] F → PAct P T ρ m nl op (.srf nl) [(l, .none), (nl, .row e s (xs.take k))] (nl :: l :: F)
end Go.Proofs.YtnkdanobhgofbaaGreatDoor.pv
