/- The interpreter's operations are acts: calls (continued). -/
import Derived.Test.YtnkdanobhgofbaaGreatDoorVS
namespace Go.Proofs.YtnkdanobhgofbaaGreatDoor.pv
set_option linter.all false
open Go.RowKit
/-- which of the ways it is -/
def altG (ks : List OK) (as : List (Ty × List OK)) (x : (altC ks as).den) : Option ((rt : Ty) × (new : List OK) × (Ty.pr rt (bun (ks ++ new))).den) := altK ks as x fun rt new y => some ⟨rt, new, y⟩
theorem altK_eq {α : Type} (ks : List OK) : ∀ (as : List (Ty × List OK)) (x : (altC ks as).den) (K : (rt : Ty) → (new : List OK) → (Ty.pr rt (bun (ks ++ new))).den → Option α), altK ks as x K = (altG ks as x).bind fun q => K q.1 q.2.1 q.2.2
  | [], x, K => rfl
  | (rt, new) :: [], x, K => rfl
  | (rt, new) :: b :: r, x, K => by
    unfold altG
    simp only [altK]
    split
    · rfl
    · exact altK_eq ks (b :: r) _ K
/-- what was handed over and is kept stands as it stood -/
def keepM (kp : List Nat) : Nat → List PO → List PO → List PO
  | k, h :: hs, o :: os => (bif memN k kp then h else o) :: keepM kp (k + 1) hs os
  | _, [], os => os
  | _, _ :: _, [] => []
def liveX : XO → Bool
  | .ob .no _ => false
  | .ob _ _ => true
  | _ => false
def kalt (E : Env) (g : FuncId) (vs : List XV) (hs : List XO) : List OK := ksR E g (ksOut E g vs hs)
/-- a call's word is kept -/
def CallOk (E : Env) (call : CallT E) : Prop := ∀ (g : FuncId) (vs : List XV) (hs : List XO) (x : (outC E g vs hs).den), call g vs hs = some x → hs.all liveX = true → ∀ (rt : Ty) (new : List OK) (y : (Ty.pr rt (bun (kalt E g vs hs ++ new))).den),
  altG (kalt E g vs hs) (altsOf E g (ksOut E g vs hs).length) x = some ⟨rt, new, y⟩ → RetH E.P g (vs.map XV.fv) (hs.map absO) (rep rt (p1 y)).fv (keepM (E.kp g hs.length) 0 (hs.map absO) ((unb (kalt E g vs hs ++ new) (p2 y)).map absO))
section
variable {P : Program} {T : List TI}
theorem cloOf_run {n : Nat} {w0 : Cx} {st : PS} {a : Act} {w : World} {ow : Ow} {hd : Nat → Value} (S : SimW n w0 st a w ow hd) {fo : Operand} {fv : FV} {g : FuncId} {cs : List FV} (hx : ev st.f fo = fv) (h1 : cloOf fv = some (g, cs)) : ∃ vs : List Value, a.eval fo = .func (.func g) #[] vs.toArray ∧ RFL (al st.m) hd ow w cs vs := by
  have hf := S.eval fo
  rw [hx] at hf
  unfold cloOf at h1
  split at h1
  · simp at h1; obtain ⟨rfl, rfl⟩ := h1
    simp only [RF, R] at hf
    obtain ⟨vs, e1, e2⟩ := hf
    exact ⟨vs, e1, RFL.of_RL e2⟩
  · simp at h1; obtain ⟨rfl, rfl⟩ := h1
    simp only [RF] at hf
    exact hf
  · cases h1
theorem ext_call {g : FuncId} {fo : Operand} {args : Array Operand} {tys : Array Nat} {fv : FV} {avs xs cs : List FV} {s τ : List Nat} {m1 m2 : List PO} {r : FV} {U m0 : List (Nat × PO)} {nl : Nat} (hclo : cloOf fv = some (g, cs))
    (hxs : ∀ A hd ow w us, RFT A hd ow w avs us → RFT A hd ow w xs us) (h2 : nodup τ = true) (hs : ∀ l ∈ s, ∃ o, (l, o) ∈ m0 ∧ o.live = true) (h4 : τ = s ++ (List.range (m2.length - s.length)).map (nl + ·)) (h5 : ∀ k, k < m2.length - s.length → (nl + k, PO.free) ∈ m0)
    (h6 : m2.all okH = true) (h7 : s.length ≤ m2.length) (hm1 : ∀ M : List PO, (∀ q ∈ m0, M[q.1]? = some q.2) → renM M s s = m1) (hU : ∀ M : List PO, (∀ q ∈ m0, M[q.1]? = some q.2) → updM M (zipO τ τ m2) = updM M U) (hret : RetH P g (renL s xs ++ renL s cs) m1 r m2) :
    Ext P T (.call ⟨.value fo, args, tys⟩) (fv :: avs) m0 (mapF τ r) U := by
  intro n w0 st a w oo hT hS ho hn hv hm K Q hK
  obtain ⟨ow, hd, hold, S⟩ := hS
  obtain ⟨dst, op, ty, pos, af, gd⟩ := oo
  simp only at ho hn hK
  subst ho
  simp only [Op.operands, Call.operands, Array.toList_append, List.cons_append, List.nil_append, List.map_cons, List.cons.injEq] at hv
  obtain ⟨hv1, hv2⟩ := hv
  obtain ⟨vs, hf1, hf2⟩ := cloOf_run S hv1 hclo
  have hargs := RFT_of_eval S args.toList
  rw [hv2] at hargs
  unfold Oper.wp
  rw [run_call hf1 hret.1]
  show Calls P g (args.map a.eval ++ vs.toArray) w _
  have harr : args.map a.eval ++ vs.toArray = (args.toList.map a.eval ++ vs).toArray := by
    apply Array.toList_inj.1; simp
  rw [harr]
  refine (S.callP (r := r) hold (hxs _ _ _ _ _ hargs) (RFT.of_RFL hf2) h2 ?_ h4 ?_ h6 h7 (by rw [hm1 st.m hm]; exact hret)).mono fun e w' ⟨v, ow', hd', he, k', S', hr⟩ => ?_
  · rw [List.all_eq_true]
    intro l hl
    obtain ⟨o, ho, hlv⟩ := hs l hl
    have := hm (l, o) ho
    simp only at this
    unfold liveAt
    rw [this]
    exact hlv
  · rw [List.all_eq_true]
    intro k hk
    have := hm (nl + k, .free) (h5 k (by simpa using hk))
    simp only at this
    unfold isFreeAt
    rw [this]
  · subst he
    rw [hU st.m hm] at S' hr
    exact hK _ _ ⟨ow', hd', k', S'.put hn hr⟩
/-- a call, whatever the callee is told by -/
def CallExt (P : Program) (T : List TI) (op : Op) (fvs : List FV) (g : FuncId) (xs cs : List FV) : Prop :=
  ∀ (s τ : List Nat) (m1 m2 : List PO) (r : FV) (U m0 : List (Nat × PO)) (nl : Nat), nodup τ = true → (∀ l ∈ s, ∃ o, (l, o) ∈ m0 ∧ o.live = true) → τ = s ++ (List.range (m2.length - s.length)).map (nl + ·) → (∀ k, k < m2.length - s.length → (nl + k, PO.free) ∈ m0) →
    m2.all okH = true → s.length ≤ m2.length → (∀ M : List PO, (∀ q ∈ m0, M[q.1]? = some q.2) → renM M s s = m1) → (∀ M : List PO, (∀ q ∈ m0, M[q.1]? = some q.2) → updM M (zipO τ τ m2) = updM M U) → RetH P g (renL s xs ++ renL s cs) m1 r m2 → Ext P T op fvs m0 (mapF τ r) U
theorem run_method {t : TypeId} {name : String} {g : FuncId} {w : World} (h : methAt P t name = some g) (N : Nat) (v : Value) : (_root_.Go.method (N + 1) t v name).run P w = .ok (g, v) w := by
  unfold methAt at h
  split at h
  · rename_i i e h1 h2
    split at h
    · rename_i m hm
      split at h
      · rename_i g' hp hg
        cases h
        have hp' : m.path = #[] := by apply Array.toList_inj.1; simpa using hp
        simp [_root_.Go.method, typeInfo, h1, hm, hp, _root_.Go.follow, hg, _root_.Go.receiverAt, run_underlying h2, _root_.Go.Place.get]
      · cases h
    · cases h
  · cases h
theorem run_invoke {a : Act} {w : World} {x : Operand} {args : Array Operand} {tys : Array Nat} {name : String} {t : TypeId} {v : Value} {g : FuncId} (hx : a.eval x = .iface t v) (hm : methAt P t name = some g) (hg : FnOk P g) (d : Option Nat) (ty : TypeId) (pos : String) (af : Array Edge) (gd : Option (Nat × Bool)) :
    (execOp a.eval ⟨d, .call ⟨.invoke x name, args, tys⟩, ty, pos, af, gd⟩).run P w = .ok (.enter g (#[v] ++ args.map a.eval)) w := by
  obtain ⟨fn, h1, h2, h3⟩ := hg
  have hmm : ∀ N : Nat, (_root_.Go.method (P.types.size + N + 1) t v name).run P w = .ok (g, v) w := fun N => run_method hm _ v
  have hmade : ∃ N, P.types.size + Made.depth = P.types.size + N + 1 := ⟨Made.depth - 1, by unfold Made.depth; omega⟩
  obtain ⟨N, hN⟩ := hmade
  have hm1 := hmm N
  rw [← hN] at hm1
  have e0 : (#[Value.iface t v] ++ args.map a.eval)[0]? = some (.iface t v) := by rw [Array.getElem?_append_left (by simp)]; rfl
  simp [execOp, resolve, hx, invoke]
  rw [e0]
  simp [callMethod, hm1, callFunc, h1]
  rw [if_neg (by simpa using h2), if_neg (by cases hb : fn.body <;> simp [hb] at h3 ⊢)]
  have e1 : (args.map a.eval).extract 0 args.size = args.map a.eval := by
    apply Array.toList_inj.1
    simp only [Array.toList_extract, Array.toList_map, List.extract_eq_drop_take, List.drop_zero, Nat.sub_zero]
    exact List.take_of_length_le (by simp)
  rw [e1]
theorem ext_invoke {g : FuncId} {x : Operand} {args : Array Operand} {tys : Array Nat} {name : String} {t : Nat} {fv : FV} {avs xs : List FV} (hmeth : methAt P t name = some g)
    (hxs : ∀ A hd ow w us, RFT A hd ow w avs us → RFT A hd ow w xs us) : CallExt P T (.call ⟨.invoke x name, args, tys⟩) (.ifc t fv :: avs) g (fv :: xs) [] := by
  intro s τ m1 m2 r U m0 nl h2 hs h4 h5 h6 h7 hm1 hU hret
  intro n w0 st a w oo hT hS ho hn hv hm K Q hK
  obtain ⟨ow, hd, hold, S⟩ := hS
  obtain ⟨dst, op, ty, pos, af, gd⟩ := oo
  simp only at ho hn hK
  subst ho
  have hv : ev st.f x :: args.toList.map (ev st.f) = .ifc t fv :: avs := by
    rw [← hv]; simp [Op.operands, Call.operands]
  obtain ⟨hv1, hv2⟩ := List.cons.inj hv
  have hf := S.eval x
  rw [hv1] at hf
  simp only [RF] at hf
  obtain ⟨v, hxv, hy⟩ := hf
  have hargs := RFT_of_eval S args.toList
  rw [hv2] at hargs
  unfold Oper.wp
  rw [run_invoke hxv hmeth hret.1]
  show Calls P g (#[v] ++ args.map a.eval) w _
  have harr : #[v] ++ args.map a.eval = ((v :: args.toList.map a.eval) ++ []).toArray := by
    apply Array.toList_inj.1; simp
  rw [harr]
  have hall : RFT (al st.m) hd ow w (fv :: xs) (v :: args.toList.map a.eval) := by
    simp only [RFT]
    exact ⟨_, _, rfl, hy, hxs _ _ _ _ _ hargs⟩
  refine (S.callP (r := r) hold hall (show RFT (al st.m) hd ow w [] [] from by simp only [RFT]) h2 ?_ h4 ?_ h6 h7 (by rw [hm1 st.m hm]; exact hret)).mono fun e w' ⟨v, ow', hd', he, k', S', hr⟩ => ?_
  · rw [List.all_eq_true]
    intro l hl
    obtain ⟨o, ho, hlv⟩ := hs l hl
    have := hm (l, o) ho
    simp only at this
    unfold liveAt
    rw [this]
    exact hlv
  · rw [List.all_eq_true]
    intro k hk
    have := hm (nl + k, .free) (h5 k (by simpa using hk))
    simp only at this
    unfold isFreeAt
    rw [this]
  · subst he
    rw [hU st.m hm] at S' hr
    exact hK _ _ ⟨ow', hd', k', S'.put hn hr⟩
/-- an interface value is made -/
theorem ext_mkIfc {t : Nat} {x : Operand} {fv : FV} {u : TypeDesc} (hu : P.underlying t = some u) (hn : notIf u = true) : Ext P T (.makeInterface t x) [fv] [] (.ifc t fv) [] := by
  intro n w0 st a w o hT hS ho hn' hv hm K Q hK
  obtain ⟨ow, hd, hold, S⟩ := hS
  obtain ⟨d, op, tyo, pos, af, gd⟩ := o
  simp only at ho hn' hK
  subst ho
  simp [Op.operands] at hv
  have hf := S.eval x
  rw [hv] at hf
  refine wp_val (v := .iface t (a.eval x)) ?_ (hK _ _ ⟨ow, _, hold, S.put hn' (x := .ifc t fv) ?_⟩)
  · cases u with
    | interface _ => cases hn
    | _ => simp [execOp, Instr.makeInterface, run_underlying hu]
  · simp only [RF]
    exact ⟨_, rfl, hf⟩
end
section
variable {A : Nat → Bool} {hd : Nat → Value} {ow : Ow} {w : World}
theorem nsl_im {c : Ty} : ImR A hd ow w (rep .ns ()) (rep (.sl c) ([] : List c.den)) := ImR.one' rfl rfl rfl fun v hv => by
  have hv : RF A hd ow w (.d vnil) v := hv
  show RF A hd ow w (.d (.sl [])) v
  simp only [RF] at hv ⊢
  exact R.nsl _ _ hv
theorem nslX_im : ∀ (t d : Ty) (x : t.den), ImR A hd ow w (rep t x) (nslX d t x).rep := by
  intro t
  induction t with
  | pr a b iha ihb =>
    intro d x
    cases d with
    | pr c d => exact ImR.pr (iha c (p1 x)) (ihb d (p2 x))
    | _ => exact ImR.pr (iha .un (p1 x)) (ihb .un (p2 x))
  | ns =>
    intro d x
    cases d with
    | sl c => exact nsl_im
    | _ => exact nsl_im
  | np g p =>
    intro d x
    cases p with
    | nil => cases d <;> exact ImR.refl _
    | cons q p => cases d <;> exact ImR.refl _
  | _ => intro d x; cases d <;> exact ImR.refl _
end
theorem args_im {cd : Nat → Option Ty} {A : Nat → Bool} {hd : Nat → Value} {ow : Ow} {w : World} : ∀ (vs : List XV) (ts : List Nat) (us : List Value), RFT A hd ow w (vs.map XV.fv) us → RFT A hd ow w ((argsX cd vs ts).map XV.fv) us
  | [], _, us, h => h
  | v :: r, t :: ts, us, h => by
    simp only [List.map_cons, RFT] at h
    obtain ⟨u, us', rfl, h1, h2⟩ := h
    simp only [argsX, List.map_cons, RFT]
    exact ⟨u, us', rfl, (nslX_im v.t _ v.x).f u h1, args_im r ts us' h2⟩
  | v :: r, [], us, h => by
    simp only [List.map_cons, RFT] at h
    obtain ⟨u, us', rfl, h1, h2⟩ := h
    simp only [argsX, List.map_cons, RFT]
    exact ⟨u, us', rfl, (nslX_im v.t _ v.x).f u h1, args_im r [] us' h2⟩
theorem cap_cells : ∀ (t : Ty) (x : t.den), capOk t = true → (rep t x).cells = (capX t x).map XV.fv
  | .pr a b, x, h => by
    simp only [capOk, Bool.and_eq_true, Bool.not_eq_true'] at h
    show (rep a (p1 x)).cells ++ (rep b (p2 x)).cells = (rep a (p1 x)).fv :: (capX b (p2 x)).map XV.fv
    rw [rep_one a _ h.1.1 h.1.2, cap_cells b (p2 x) h.2]; rfl
  | .un, x, _ => rfl
  | .i _, _, h | .bl, _, h | .str, _, h | .ar _ _, _, h | .sl _, _, h | .ns, _, h | .nz _, _, h | .vp _, _, h | .np _ _, _, h | .vm _, _, h | .rf _ _, _, h | .ep _ _ _, _, h | .dp _ _, _, h | .sr _, _, h | .ss _ _, _, h | .as _ _ _ _ _, _, h | .cl _ _, _, h | .ic _ _, _, h | .tp _, _, h | .mc _ _, _, h | .sm _ _, _, h | .ud, _, h | .dead, _, h => by simp [capOk] at h
theorem memN_iff {l : Nat} {s : List Nat} : memN l s = true ↔ l ∈ s := by
  unfold memN
  rw [List.any_eq_true]
  constructor
  · rintro ⟨x, hx, h⟩
    rw [Nat.eq_of_beq_eq_true h]; exact hx
  · intro h; exact ⟨l, h, by simp⟩
theorem unb_length : ∀ (os : List OK) (x : (bun os).den), (unb os x).length = os.length
  | [], _ => rfl
  | .no :: r, x => congrArg (· + 1) (unb_length r x)
  | .bx t :: r, x => by simp only [unb, List.length_cons, unb_length r]
  | .rw e s t :: r, x => by simp only [unb, List.length_cons, unb_length r]
  | .mp a b :: r, x => by simp only [unb, List.length_cons, unb_length r]
  | .ab g t :: r, x => by simp only [unb, List.length_cons, unb_length r]
  | .am g a b :: r, x => by simp only [unb, List.length_cons, unb_length r]
/-- what a bundle's objects are -/
def objOk : XO → Bool
  | .ob (.bx t) _ => t.flt
  | .ob .no _ => false
  | .ob _ _ => true
  | .none => true
  | _ => false
theorem unb_ok : ∀ (os : List OK) (x : (bun os).den), os.all bxF = true → (unb os x).all objOk = true
  | [], _, _ => rfl
  | .no :: r, x, h => by
    simp only [List.all_cons, Bool.and_eq_true] at h
    simp only [unb, List.all_cons, objOk, unb_ok r x h.2, Bool.and_self]
  | .bx t :: r, x, h => by
    simp only [List.all_cons, Bool.and_eq_true] at h
    simp only [unb, List.all_cons, objOk, unb_ok r _ h.2, Bool.and_true]
    exact h.1
  | .rw e s t :: r, x, h => by
    simp only [List.all_cons, Bool.and_eq_true] at h
    simp only [unb, List.all_cons, objOk, unb_ok r _ h.2, Bool.and_true]
  | .mp a b :: r, x, h => by
    simp only [List.all_cons, Bool.and_eq_true] at h
    simp only [unb, List.all_cons, objOk, unb_ok r _ h.2, Bool.and_true]
  | .ab g t :: r, x, h => by
    simp only [List.all_cons, Bool.and_eq_true] at h
    simp only [unb, List.all_cons, objOk, unb_ok r _ h.2, Bool.and_true]
  | .am g a b :: r, x, h => by
    simp only [List.all_cons, Bool.and_eq_true] at h
    simp only [unb, List.all_cons, objOk, unb_ok r _ h.2, Bool.and_true]
theorem objOk_okH {o : XO} (h : objOk o = true) : okH (absO o) = true := by
  cases o with
  | ob k x => cases k <;> first | rfl | simp [objOk] at h
  | none => rfl
  | free => simp [objOk] at h
  | gh k v => simp [objOk] at h
  | ex e => simp [objOk] at h
theorem map_absO {τ : List Nat} {o : XO} (h : objOk o = true) : mapO τ (absO o) = absO (rnO (τ.getD · 0) o) := by
  cases o with
  | ob k x =>
    cases k with
    | bx t => exact congrArg PO.box (map_rep τ t x h).c
    | no => simp [objOk] at h
    | rw e s t => rfl
    | mp a b => rfl
    | ab g t => rfl
    | am g a b => rfl
  | none => rfl
  | free => simp [objOk] at h
  | gh k v => simp [objOk] at h
  | ex e => simp [objOk] at h
theorem keepM_length (kp : List Nat) : ∀ (k : Nat) (hs os : List PO), hs.length ≤ os.length → (keepM kp k hs os).length = os.length
  | _, [], os, _ => rfl
  | _, _ :: _, [], h => by simp at h
  | k, h :: hs, o :: os, hl => by simp only [keepM, List.length_cons]; rw [keepM_length kp (k + 1) hs os (by simpa using hl)]
theorem keepM_all (kp : List Nat) (p : PO → Bool) : ∀ (k : Nat) (hs os : List PO), hs.all p = true → os.all p = true → (keepM kp k hs os).all p = true
  | _, [], os, _, h => h
  | _, _ :: _, [], _, _ => rfl
  | k, h :: hs, o :: os, h1, h2 => by
    simp only [List.all_cons, Bool.and_eq_true] at h1 h2
    simp only [keepM, List.all_cons, Bool.and_eq_true]
    refine ⟨?_, keepM_all kp p (k + 1) hs os h1.2 h2.2⟩
    cases memN k kp
    · exact h2.1
    · exact h1.1
theorem set_same {m : List PO} {l : Nat} {o : PO} (h : m[l]? = some o) : m.set l o = m := by
  obtain ⟨h1, h2⟩ := List.getElem?_eq_some_iff.1 h
  rw [← h2]; exact List.set_getElem_self h1
/-- what is kept need not be told -/
theorem upd_kept {τ : List Nat} {kp : List Nat} : ∀ (r : List Nat) (k : Nat) (hs : List PO) (xs : List XO) (M : List PO), nodup r = true → r.length = xs.length → hs.length ≤ xs.length → (∀ x ∈ xs, objOk x = true) →
    (∀ (j l : Nat) (o : PO), r[j]? = some l → hs[j]? = some o → M[l]? = some (mapO τ o)) → (∀ j, hs.length ≤ j → memN (k + j) kp = false) →
    updM M (zipO τ r (keepM kp k hs (xs.map absO))) = updM M (absU (zipK kp k r (xs.map (rnO (τ.getD · 0)))))
  | [], k, hs, xs, M, hn, hl, hh, hx, h, hk => by
    have : xs = [] := List.eq_nil_of_length_eq_zero hl.symm
    subst this
    have : hs = [] := List.eq_nil_of_length_eq_zero (by simpa using hh)
    subst this
    rfl
  | l :: r, k, hs, [], M, hn, hl, hh, hx, h, hk => by simp at hl
  | l :: r, k, hs, x :: xs, M, hn, hl, hh, hx, h, hk => by
    simp only [nodup, Bool.and_eq_true, Bool.not_eq_true'] at hn
    have hnm : l ∉ r := by
      intro hm
      have : r.any (Nat.beq l) = true := List.any_eq_true.2 ⟨l, hm, by simp⟩
      rw [this] at hn; cases hn.1
    have hxx := hx x (by simp)
    have hxs : ∀ x ∈ xs, objOk x = true := fun y hy => hx y (by simp [hy])
    cases hs with
    | nil =>
      have hk0 : memN k kp = false := hk 0 (Nat.le_refl _)
      simp only [List.map_cons, keepM, zipO, zipK, hk0, cond_false, absU, updM]
      rw [map_absO hxx]
      have := upd_kept (τ := τ) r (k + 1) [] xs (M.set l (absO (rnO (τ.getD · 0) x))) hn.2 (by simpa using hl) (by simp) hxs (fun j l o _ ho => by simp at ho) (fun j _ => by have := hk (j + 1) (by simp); rw [show k + 1 + j = k + (j + 1) by omega]; exact this)
      simp only [keepM] at this
      exact this
    | cons o hs =>
      simp only [List.map_cons, keepM, zipO, zipK]
      cases hkk : memN k kp with
      | true =>
        simp only [cond_true, updM]
        have h0 := h 0 l o rfl rfl
        rw [set_same h0]
        exact upd_kept r (k + 1) hs xs M hn.2 (by simpa using hl) (by simpa using hh) hxs (fun j l o hj ho => h (j + 1) l o (by simpa using hj) (by simpa using ho)) (fun j hj => by have := hk (j + 1) (by simpa using hj); rw [show k + 1 + j = k + (j + 1) by omega]; exact this)
      | false =>
        simp only [cond_false, absU, List.map_cons, updM]
        rw [map_absO hxx]
        refine upd_kept r (k + 1) hs xs _ hn.2 (by simpa using hl) (by simpa using hh) hxs (fun j l' o' hj ho => ?_) (fun j hj => by have := hk (j + 1) (by simpa using hj); rw [show k + 1 + j = k + (j + 1) by omega]; exact this)
        rw [List.getElem?_set, if_neg]
        · exact h (j + 1) l' o' (by simpa using hj) (by simpa using ho)
        · intro e
          subst e
          exact hnm (List.mem_of_getElem? hj)
end Go.Proofs.YtnkdanobhgofbaaGreatDoor.pv
