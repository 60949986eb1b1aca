/- Interface values that hold a variable's address: how they are made, and calls of their methods. -/
import Derived.Test.YtdkfkpoenbenmaaSk
namespace Go.Proofs.Ytdkfkpoenbenmaa.pv
set_option linter.all false
open Go.RowKit

/-- an interface value of this type -/
def ifC (t : Nat) : Cust where
  I := fun _ _ h vs => ∃ v, vs = [v] ∧ h = .iface t v
  lt := by
    rintro ow w h vs ⟨v, _, rfl⟩ b hb
    simp [blocksOf, blockOf] at hb
  kp := fun _ _ h => h
  one := by
    rintro ow w h vs ⟨v, _, rfl⟩
    rfl
def methAt (P : Program) (t : TypeId) (name : String) : Option FuncId :=
  match P.info? t, P.underlying t with
  | some i, some (.pointer _) => (match i.methods.find? (·.name == name) with
    | some m => (match m.path.toList, m.func with
      | [], some (g, true) => some g
      | _, _ => none)
    | none => none)
  | _, _ => none
section
variable {P : Program} {T : List TI} {n : Nat} {w0 : Cx} {st : PS} {a : Act} {w : World} {ow : Nat → Bool} {hd : Nat → Value}
theorem run_method {t : TypeId} {name : String} {g : FuncId} (h : methAt P t name = some g) (N : Nat) (v : Value) : (_root_.Go.method (N + 1) t v name).run P w = .ok (g, v) w := by
  unfold methAt at h
  split at h
  · rename_i i e h1 h2
    split at h
    · rename_i m hm
      split at h
      · rename_i g' hp hg
        cases h
        have hp' : m.path = #[] := by apply Array.toList_inj.1; simpa using hp
        simp [_root_.Go.method, typeInfo, h1, hm, hp, _root_.Go.follow, hg, _root_.Go.receiverAt, run_underlying h2, _root_.Go.Place.get]
      · cases h
    · cases h
  · cases h
theorem run_invoke {x : Operand} {args : Array Operand} {tys : Array Nat} {name : String} {t : TypeId} {v : Value} {g : FuncId} (hx : a.eval x = .iface t v) (hm : methAt P t name = some g) (hg : FnOk P g) (d : Option Nat) (ty : TypeId) (pos : String) (af : Array Edge) (gd : Option (Nat × Bool)) :
    (execOp a.eval ⟨d, .call ⟨.invoke x name, args, tys⟩, ty, pos, af, gd⟩).run P w = .ok (.enter g (#[v] ++ args.map a.eval)) w := by
  obtain ⟨fn, h1, h2, h3⟩ := hg
  have hmm : ∀ N : Nat, (_root_.Go.method (P.types.size + N + 1) t v name).run P w = .ok (g, v) w := fun N => run_method hm _ v
  have hmade : ∃ N, P.types.size + Made.depth = P.types.size + N + 1 := ⟨Made.depth - 1, by unfold Made.depth; omega⟩
  obtain ⟨N, hN⟩ := hmade
  have hm1 := hmm N
  rw [← hN] at hm1
  have e0 : (#[Value.iface t v] ++ args.map a.eval)[0]? = some (.iface t v) := by rw [Array.getElem?_append_left (by simp)]; rfl
  simp [execOp, resolve, hx, invoke]
  rw [e0]
  simp [callMethod, hm1, callFunc, h1]
  rw [if_neg (by simpa using h2), if_neg (by cases hb : fn.body <;> simp [hb] at h3 ⊢)]
  have e1 : (args.map a.eval).extract 0 args.size = args.map a.eval := by
    apply Array.toList_inj.1
    simp only [Array.toList_extract, Array.toList_map, List.extract_eq_drop_take, List.drop_zero, Nat.sub_zero]
    exact List.take_of_length_le (by simp)
  rw [e1]
theorem SimW.addI (S : SimW n w0 st a w ow hd) {nl l off t : Nat} {v : Value} (hf : st.m[nl]? = some .free) (hx : RF (al st.m) hd ow w (.ref l off) v) (hone : v.oneCell' = true) :
    SimW n w0 ⟨st.f, st.m.set nl (.cu (ifC t) [.ref l off])⟩ a w ow (upd hd nl (.iface t v)) ∧ (∀ j, al st.m j = true → al (st.m.set nl (.cu (ifC t) [.ref l off])) j = true ∧ upd hd nl (.iface t v) j = hd j) ∧ al (st.m.set nl (.cu (ifC t) [.ref l off])) nl = true := by
  have hal0 : al st.m nl = false := by simp [al, hf, PO.made]
  have hlt : nl < st.m.length := (List.getElem?_eq_some_iff.1 hf).1
  have hmono : ∀ j, al st.m j = true → al (st.m.set nl (.cu (ifC t) [.ref l off])) j = true ∧ upd hd nl (.iface t v) j = hd j := fun j hj => ⟨al_set_mono rfl j hj, by
    rw [upd_ne]
    intro e; rw [e, hal0] at hj; cases hj⟩
  refine ⟨?_, hmono, by rw [al_set_same hlt]; rfl⟩
  exact S.obj (l := nl) (hv := .iface t v) (o := .cu (ifC t) [.ref l off]) (Kp.refl _ _) (Kt.refl _ _) S.fresh (.inl hal0) rfl
    ⟨fun b hb => by simp [blocksOf, blockOf] at hb, [v], by
      simp only [RFL]
      exact ⟨_, _, rfl, RF.mono (Kp.refl _ _) hmono _ _ hx, hone, rfl⟩, v, rfl, rfl⟩
    (fun j oj b hne hj hlj hb => ⟨rfl, rfl, fun _ hb' => by simp [blocksOf, blockOf] at hb'⟩)
/-- an interface value is made of a variable's address -/
theorem ymkI {t l off nl : Nat} {e : TypeId} {x : Operand} (hu : P.underlying t = some (.pointer e)) :
    Ext P T (.makeInterface t x) [.ref l off] [(nl, .free)] (.srf nl) [(nl, .cu (ifC t) [.ref l off])] := by
  intro n w0 st a w o hT hS ho hn hv hm K Q hK
  obtain ⟨ow, hd, hold, S⟩ := hS
  obtain ⟨d, op, tyo, pos, af, gd⟩ := o
  simp only at ho hn hK
  subst ho
  simp [Op.operands] at hv
  have hf := hm (nl, .free) (by simp)
  simp only at hf
  have hx := S.eval x
  rw [hv] at hx
  have hone : (a.eval x).oneCell' = true := by
    simp only [RF] at hx
    obtain ⟨_, b, _, e2⟩ := hx
    rw [e2]; rfl
  have hal0 : al st.m nl = false := by simp [al, hf, PO.made]
  obtain ⟨S2, ha, hal⟩ := SimW.addI S hf (t := t) hx hone
  refine wp_val (v := .iface t (a.eval x)) (by simp [execOp, Instr.makeInterface, run_underlying hu]) (hK _ _ ⟨ow, _, hold, S2.put hn (x := .srf nl) ?_⟩)
  simp only [RF]
  rw [upd_same]
  exact ⟨hal, rfl, rfl⟩
/-- a method of an interface value is called, and handed private objects -/
theorem icall {x : Operand} {args : Array Operand} {tys : Array Nat} {name : String} {t l off I : Nat} {vs : List FV} {ms : List (Nat × PO)} {g : FuncId} {τ : List Nat} {m2 : List PO} {r : FV} {nl : Nat}
    (hg : methAt P t name = some g) (h2 : nodup τ = true) (h3 : (ms.all fun q => q.2.live) = true) (h4 : τ = ms.map (·.1) ++ (List.range (m2.length - ms.length)).map (nl + ·)) (h6 : m2.all okH = true) (h7 : ms.length ≤ m2.length)
    (hret : RetH P g (nslFL (renL (ms.map (·.1)) (.ref l off :: vs))) (ms.map fun q => nslO (renO (ms.map (·.1)) q.2)) r m2) :
    Ext P T (.call ⟨.invoke x name, args, tys⟩) (.srf I :: vs) ((I, .cu (ifC t) [.ref l off]) :: ms ++ (List.range (m2.length - ms.length)).map (fun k => (nl + k, PO.free))) (mapF τ r) (zipO τ τ m2) := by
  intro n w0 st a w o hT hS ho hn hvs hm K Q hK
  obtain ⟨ow, hd, hold, S⟩ := hS
  obtain ⟨d, op, tyo, pos, af, gd⟩ := o
  simp only at ho hn hK
  subst ho
  have hρ' : ev st.f x :: args.toList.map (ev st.f) = .srf I :: vs := by
    rw [← hvs]; simp [Op.operands, Call.operands]
  obtain ⟨e1, e2⟩ := List.cons.inj hρ'
  have hmI := hm (I, .cu (ifC t) [.ref l off]) (by simp)
  simp only at hmI
  have hms : ∀ q ∈ ms, st.m[q.1]? = some q.2 := fun q hq => hm q (by simp [hq])
  have hx := S.eval x
  rw [e1] at hx
  simp only [RF] at hx
  obtain ⟨i1, vs', i2, v, rfl, i3⟩ := S.objs I _ hmI
  simp only [RFL] at i2
  obtain ⟨v', r', hvv, i4, i5, hr'⟩ := i2
  subst hr'
  simp at hvv; subst hvv
  have hxv : a.eval x = .iface t v := by rw [hx.2.1, i3]
  have hren : renM st.m (ms.map (·.1)) (ms.map (·.1)) = ms.map fun q => renO (ms.map (·.1)) q.2 := by
    have : ∀ (s : List Nat) (l : List (Nat × PO)), (∀ q ∈ l, st.m[q.1]? = some q.2) → renM st.m s (l.map (·.1)) = l.map fun q => renO s q.2 := by
      intro s l
      induction l with
      | nil => intro _; rfl
      | cons q l ih =>
        intro h
        simp only [List.map_cons, renM]
        rw [List.getD_eq_getElem?_getD, h q (by simp), ih (fun q hq => h q (by simp [hq]))]
        rfl
    exact this _ ms hms
  have hcall := S.callH (st := st) hold (g := g) (xs := .ref l off :: vs) (cs := []) (us := v :: args.toList.map a.eval) (vs := []) (s := ms.map (·.1)) (τ := τ) (bs := []) (m2 := m2) (r := r) (nl := nl)
    (by
      simp only [RFT]
      exact ⟨_, _, rfl, i4, by rw [← e2]; exact RFT_of_eval S _⟩)
    (by simp [RFT]) h2 (by
      rw [List.all_eq_true]
      intro j hj
      obtain ⟨q, hq, rfl⟩ := List.mem_map.1 hj
      unfold liveAt
      rw [hms q hq]
      exact List.all_eq_true.1 h3 q hq)
    (by rw [List.length_map]; exact h4)
    (by
      rw [List.all_eq_true, List.length_map]
      intro k hk
      unfold isFreeAt
      rw [hm (nl + k, .free) (by
        simp only [List.mem_append, List.mem_cons, List.mem_map]
        exact .inr ⟨k, hk, rfl⟩)])
    h6 (by rw [List.length_map]; exact h7)
    (by
      rw [hren, List.map_map]
      have e0 : nslM [] (renL (ms.map (·.1)) (.ref l off :: vs)) ++ renL (ms.map (·.1)) [] = nslFL (renL (ms.map (·.1)) (.ref l off :: vs)) := by
        simp [nslM, renL]
      rw [e0]
      exact hret)
  unfold Oper.wp
  rw [run_invoke hxv hg hret.1]
  show Calls P g (#[v] ++ args.map a.eval) w _
  have harr : #[v] ++ args.map a.eval = ((v :: args.toList.map a.eval) ++ []).toArray := by
    apply Array.toList_inj.1; simp
  rw [harr]
  refine hcall.mono fun e w' ⟨u, ow', hd', he, hold', S', hr⟩ => ?_
  subst he
  exact hK _ _ ⟨ow', hd', hold', S'.put hn hr⟩
theorem run_nilAhead {t : TypeId} {name : String} {g : FuncId} (h : methAt P t name = some g) (N : Nat) (v : Value) : (nilAhead (N + 1) t v name).run P w = .ok (some false) w := by
  unfold methAt at h
  split at h
  · rename_i i e h1 h2
    split at h
    · rename_i m hm
      split at h
      · rename_i g' hp hg
        cases h
        simp [nilAhead, typeInfo, h1, hm, hp, followBlind, hg]
      · cases h
    · cases h
  · cases h
/-- an interface value's method as a function value -/
def mfC (name : String) : Cust where
  I := fun _ _ h vs => ∃ u, vs = [u] ∧ h = .func (.method name) #[u] #[]
  lt := by
    rintro ow w h vs ⟨v, _, rfl⟩ b hb
    simp [blocksOf] at hb
  kp := fun _ _ h => h
  one := by
    rintro ow w h vs ⟨v, _, rfl⟩
    rfl
theorem ymkF {name : String} {I nl : Nat} {x : Operand} :
    Ext P T (.makeFunc (.method name) #[x] #[]) [.srf I] [(nl, .free)] (.srf nl) [(nl, .cu (mfC name) [.srf I])] := by
  intro n w0 st a w o hT hS ho hn hv hm K Q hK
  obtain ⟨ow, hd, hold, S⟩ := hS
  obtain ⟨d, op, tyo, pos, af, gd⟩ := o
  simp only at ho hn hK
  subst ho
  simp [Op.operands] at hv
  have hf := hm (nl, .free) (by simp)
  simp only at hf
  have hx := S.eval x
  rw [hv] at hx
  have hal0 : al st.m nl = false := by simp [al, hf, PO.made]
  have hlt : nl < st.m.length := (List.getElem?_eq_some_iff.1 hf).1
  have hmono : ∀ j, al st.m j = true → al (st.m.set nl (.cu (mfC name) [.srf I])) j = true ∧ upd hd nl (.func (.method name) #[a.eval x] #[]) j = hd j := fun j hj => ⟨al_set_mono rfl j hj, by
    rw [upd_ne]
    intro e; rw [e, hal0] at hj; cases hj⟩
  have hone : (a.eval x).oneCell' = true := by
    simp only [RF] at hx
    rw [hx.2.1]; exact hx.2.2
  have S2 := S.obj (l := nl) (hv := .func (.method name) #[a.eval x] #[]) (o := .cu (mfC name) [.srf I]) (Kp.refl _ _) (Kt.refl _ _) S.fresh (.inl hal0) rfl
    ⟨fun b hb => by simp [blocksOf] at hb, [a.eval x], by
      simp only [RFL]
      exact ⟨_, _, rfl, RF.mono (Kp.refl _ _) hmono _ _ hx, hone, rfl⟩, _, rfl, rfl⟩
    (fun j oj b hne hj hlj hb => ⟨rfl, rfl, fun _ hb' => by simp [blocksOf] at hb'⟩)
  refine wp_val (v := .func (.method name) #[a.eval x] #[]) (by simp [execOp, Instr.makeFunc]) (hK _ _ ⟨ow, _, hold, S2.put hn (x := .srf nl) ?_⟩)
  simp only [RF]
  rw [upd_same]
  exact ⟨by rw [al_set_same hlt]; rfl, rfl, rfl⟩
theorem ynilF {name : String} {I M t : Nat} {fs : List FV} {g : FuncId} {x : Operand} (hg : methAt P t name = some g) :
    Ext P T (.nilCheck x) [.srf M] [(M, .cu (mfC name) [.srf I]), (I, .cu (ifC t) fs)] .dead [] := by
  intro n w0 st a w o hT hS ho hn hv hm K Q hK
  obtain ⟨ow, hd, hold, S⟩ := hS
  obtain ⟨d, op, tyo, pos, af, gd⟩ := o
  simp only at ho hn hK
  subst ho
  simp [Op.operands] at hv
  have hmM := hm (M, .cu (mfC name) [.srf I]) (by simp)
  have hmI := hm (I, .cu (ifC t) fs) (by simp)
  simp only at hmM hmI
  have hx := S.eval x
  rw [hv] at hx
  simp only [RF] at hx
  obtain ⟨i1, vs', i2, v, rfl, i3⟩ := S.objs I _ hmI
  obtain ⟨m1, us, m2, u, rfl, m3⟩ := S.objs M _ hmM
  simp only [RFL] at m2
  obtain ⟨u', r', hvv, m4, m5, hr'⟩ := m2
  subst hr'
  simp at hvv; subst hvv
  simp only [RF] at m4
  have hu : u = .iface t v := by rw [m4.2.1, i3]
  have hxv : a.eval x = .func (.method name) #[.iface t v] #[] := by rw [hx.2.1, m3, hu]
  have hmade : ∃ N, P.types.size + Made.depth = P.types.size + N + 1 := ⟨Made.depth - 1, by unfold Made.depth; omega⟩
  obtain ⟨N, hN⟩ := hmade
  have hna := run_nilAhead (w := w) hg (P.types.size + N) v
  rw [← hN] at hna
  refine wp_val (v := .func (.method name) #[.iface t v] #[]) (by simp [execOp, hxv, hna]) (hK _ _ ⟨ow, hd, hold, S.put hn (x := .dead) (by simp only [RF])⟩)
end
end Go.Proofs.Ytdkfkpoenbenmaa.pv
