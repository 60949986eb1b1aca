/- The interpreter's code. -/
import Derived.Test.YtmjkechkdfobgaaVY
import Derived.LoopN
namespace Go.Proofs.Ytmjkechkdfobgaa.pv
set_option linter.all false
open Go.RowKit
section
variable {α : Type} {E : Env} {call : CallT E} {nt : Nat} {w0 : Cx} {kp : List Nat} {pol : Pol} {hn : List OK} {o : Nat → XO} {out : α}
/-- the state, and what is kept -/
structure G4 (nt : Nat) (w0 : Cx) (kp : List Nat) (o : Nat → XO) (st : XS) (a : Act) (w : World) : Prop where
  s : Sim4 nt w0 st a w
  k : Kpd kp o st
theorem look_deadS (ops : Array Oper) (f : List (Nat × XV)) (i : Nat) : look (deadS ops f) i = dd ∨ (look (deadS ops f) i = look f i ∧ ∀ o ∈ ops.toList, o.dst ≠ some i) := by
  unfold deadS
  generalize ops.toList = L
  induction L generalizing f with
  | nil => exact .inr ⟨rfl, by simp⟩
  | cons o L ih =>
    simp only [List.foldl_cons]
    rcases ih (match o.dst with | some d => (d, dd) :: f | none => f) with h | ⟨h, h'⟩
    · exact .inl h
    · cases hd : o.dst with
      | none =>
        rw [hd] at h
        refine .inr ⟨h, fun p hp => ?_⟩
        rcases List.mem_cons.1 hp with rfl | hp
        · rw [hd]; simp
        · exact h' p hp
      | some d =>
        rw [hd] at h
        simp only at h ⊢
        by_cases e : d = i
        · subst e
          left
          rw [h, look_cons, if_pos rfl]
        · right
          refine ⟨by rw [h, look_cons, if_neg e], fun p hp => ?_⟩
          rcases List.mem_cons.1 hp with rfl | hp
          · rw [hd]; simp [e]
          · exact h' p hp
theorem atR_good (hne : ∀ k ∈ kp, o k ≠ .free) {id : Nat} {st : XS} {a : Act} {w : World} (S : G4 nt w0 kp o st a w) : G4 nt w0 kp o (atR kp pol id st) a w := by
  unfold atR
  split
  · obtain ⟨h1, h2⟩ := silS_good hne _ S.s S.k
    exact ⟨h1, h2⟩
  · exact S
theorem atJ_good (hne : ∀ k ∈ kp, o k ≠ .free) (hlo : ∀ k ∈ kp, k < hn.length ∧ ∀ l ∈ locsO (o k), l < hn.length) {b : Code} {st st' : XS} {a : Act} {w : World} (S : G4 nt w0 kp o st a w) (h : atJ kp pol hn b st = some st') : G4 nt w0 kp o st' a w := by
  unfold atJ at h
  split at h
  · obtain ⟨h1, h2⟩ := cutX_good S.s hne hlo S.k h
    exact ⟨h1, h2⟩
  · cases h; exact S
theorem atL_good (hne : ∀ k ∈ kp, o k ≠ .free) (hlo : ∀ k ∈ kp, k < hn.length ∧ ∀ l ∈ locsO (o k), l < hn.length) {b : Code} {st st' : XS} {a : Act} {w : World} (S : G4 nt w0 kp o st a w) (h : atL kp pol hn b st = some st') : G4 nt w0 kp o st' a w := by
  unfold atL at h
  split at h
  · obtain ⟨h1, h2⟩ := cutX_good S.s hne hlo S.k h
    exact ⟨h1, h2⟩
  · cases h
/-- the code, told -/
theorem xcode_good (hE : EnvOk E) (hc : CallOk E call) {Nl : Nat} {sm : Nat → Option (XS → Option XS)} (hsm : ∀ r, sm r = none) (hne : ∀ k ∈ kp, o k ≠ .free) (hlo : ∀ k ∈ kp, k < hn.length ∧ ∀ l ∈ locsO (o k), l < hn.length) :
    ∀ (c : Code) (st : XS) (K : Ex → XS → Option α) (a : Act) (w : World) (Q : Exit → Act → World → Prop), xcode E call kp pol sm Nl nt hn c st K = some out → G4 nt w0 kp o st a w →
      (∀ ex st' a' w', K ex st' = some out → G4 nt w0 kp o st' a' w' → Q ex.exit' a' w') → c.wp E.P Q a w := by
  intro c
  induction c with
  | skip => intro st K a w Q h S hQ; exact wp_skip (hQ .normal st a w h S)
  | label l => intro st K a w Q h S hQ; exact wp_label (hQ .normal st a w h S)
  | exit id => intro st K a w Q h S hQ; exact wp_exit (hQ (.exit id) st a w h S)
  | ret => intro st K a w Q h S hQ; exact wp_ret (hQ .ret st a w h S)
  | region id ops draw =>
    intro st K a w Q h S hQ
    have S1 := atR_good (pol := pol) hne (id := id) S
    have h : (match alst pol.mrg id with
      | some t => (xmerge E call kp pol.bd pol.cp nt t ops draw (atR kp pol id st)).bind fun b => K .normal ⟨(t, ⟨.bl, b⟩) :: deadS ops (atR kp pol id st).f, (atR kp pol id st).m, (atR kp pol id st).n + 16 * ops.size⟩
      | none => xregion E call kp pol.bd pol.cp nt ops draw (atR kp pol id st) fun f m _ => K .normal ⟨f, m, (atR kp pol id st).n + 16 * ops.size⟩) = some out := h
    generalize atR kp pol id st = st1 at h S1
    split at h
    · rename_i t ht
      obtain ⟨b, hb, h⟩ := bind_some h
      unfold xmerge at hb
      refine xregion_good hE hc hb S1.s fun f' m' L a' w' ⟨ps, ps2, A1, hl1, A2, S2, hm, hl2, hsl⟩ hk hK => ?_
      refine hQ .normal _ a' w' h ⟨⟨ps2, ?_, by rw [hl2, hl1], S2⟩, S1.k⟩
      split at hK
      · rename_i v hv
        obtain ⟨hU, hK⟩ := cond_some hK
        cases hK
        have hm := hm hU
        refine ⟨A2.fl, fun i => ?_, fun l hl => ?_, fun l hl => ?_⟩
        · simp only
          rw [look_cons]
          by_cases e : t = i
          · subst e
            rw [if_pos rfl]
            have := A2.sl t
            rw [hv] at this
            exact this
          · rw [if_neg e]
            rcases look_deadS ops st1.f i with h1 | ⟨h1, h2⟩
            · rw [h1]; exact .inl rfl
            · rw [h1, hsl i h2]; exact A1.sl i
        · rw [hm] at hl ⊢; exact A1.ob l hl
        · rw [hm] at hl; exact A1.fr l hl
      · cases hK
    · refine xregion_good hE hc h S1.s fun f' m' L a' w' ⟨ps, ps2, A1, hl1, A2, S2, hm, hl2, hsl⟩ hk hK => ?_
      exact hQ .normal _ a' w' hK ⟨⟨ps2, A2, by rw [hl2, hl1], S2⟩, fun k hkk => (hk k hkk).trans (S1.k k hkk)⟩
  | seq x y ihx ihy =>
    intro st K a w Q h S hQ
    refine wp_seq (ihx st _ a w _ h S fun ex st' a' w' hK S' => ?_)
    cases ex with
    | normal =>
      show y.wp E.P Q a' w'
      have hK : (match atJ kp pol hn y st' with
        | some st' => xcode E call kp pol sm Nl nt hn y st' K
        | none => none) = some out := hK
      split at hK
      · rename_i st2 h2
        exact ihy st2 K a' w' Q hK (atJ_good hne hlo S' h2) hQ
      · cases hK
    | exit id => exact hQ (.exit id) st' a' w' hK S'
    | ret => exact hQ .ret st' a' w' hK S'
  | cond c x y ihx ihy =>
    intro st K a w Q h S hQ
    have h : (match evX st.f c with
      | ⟨.bl, v⟩ => bif (show Bool from v) then xcode E call kp pol sm Nl nt hn x st K else xcode E call kp pol sm Nl nt hn y st K
      | _ => none) = some out := h
    split at h
    · rename_i v hv
      have he : a.eval c = .bool v := by
        obtain ⟨ps, A, _, ow, hd, _, W⟩ := S.s
        have := W.eval c
        rw [ev_of A hv rfl] at this
        have this : RF (al ps.m) hd ow w (.d (.v (.bool v))) (a.eval c) := this
        simp only [RF, R] at this
        exact this.1
      refine wp_cond he ?_
      cases v with
      | true => exact ihx st K a w Q h S hQ
      | false => exact ihy st K a w Q h S hQ
    · cases h
  | block id x ih =>
    intro st K a w Q h S hQ
    refine wp_block (ih st _ a w _ h S fun ex st' a' w' hK S' => ?_)
    cases ex with
    | normal => exact hQ .normal st' a' w' hK S'
    | ret => exact hQ .ret st' a' w' hK S'
    | exit j =>
      have hK : K (bif Nat.beq j id then .normal else .exit j) st' = some out := hK
      show Exit.inBlock id Q (.exit j) a' w'
      simp only [Exit.inBlock]
      by_cases e : j = id
      · subst e
        rw [if_pos rfl]
        rw [show Nat.beq j j = true by simp] at hK
        exact hQ .normal st' a' w' hK S'
      · rw [if_neg e]
        rw [beq_ff e] at hK
        exact hQ (.exit j) st' a' w' hK S'
  | loop x ih =>
    intro st K a w Q h S hQ
    have h : (match (firstR x).bind sm with
      | some F => (match F st with
        | some st' => K .normal st'
        | none => none)
      | none => (match atL kp pol hn x st with
        | some st' => iterX (xcode E call kp pol sm Nl nt hn x) (atL kp pol hn x) K Nl st'
        | none => none)) = some out := h
    have hn0 : (firstR x).bind sm = none := by
      cases firstR x with
      | none => rfl
      | some r => exact hsm r
    rw [hn0] at h
    simp only at h
    split at h
    · rename_i st1 h1
      have S1 := atL_good hne hlo S h1
      refine wp_loop_rounds Nl ?_
      have : ∀ (n : Nat) (st : XS) (a : Act) (w : World), iterX (xcode E call kp pol sm Nl nt hn x) (atL kp pol hn x) K n st = some out → G4 nt w0 kp o st a w → Code.rounds E.P x Q n a w := by
        intro n
        induction n with
        | zero => intro st a w h; cases h
        | succ n ihn =>
          intro st a w h S
          refine ih st _ a w _ h S fun ex st' a' w' hK S' => ?_
          cases ex with
          | normal =>
            show Code.rounds E.P x Q n a' w'
            have hK : (match atL kp pol hn x st' with
              | some st' => iterX (xcode E call kp pol sm Nl nt hn x) (atL kp pol hn x) K n st'
              | none => none) = some out := hK
            split at hK
            · rename_i st2 h2
              exact ihn st2 a' w' hK (atL_good hne hlo S' h2)
            · cases hK
          | exit id => exact hQ (.exit id) st' a' w' hK S'
          | ret => exact hQ .ret st' a' w' hK S'
      exact this Nl st1 a w h S1
    · cases h
  | rangeFunc => intro st K a w Q h; cases h
  | scope => intro st K a w Q h; cases h
  | goto => intro st K a w Q h; cases h
  | refuse => intro st K a w Q h; cases h
end
end Go.Proofs.Ytmjkechkdfobgaa.pv
