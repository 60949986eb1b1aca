/- The interpreter's code. -/
import Derived.Test.YtnkdanobhgofbaaGreatDoorVYY
import Derived.LoopN
namespace Go.Proofs.YtnkdanobhgofbaaGreatDoor.pv
set_option linter.all false
open Go.RowKit
section
variable {α : Type} {E : Env} {call : CallT E} {nt : Nat} {w0 : Cx} {kp : List Nat} {pol : Pol} {hn : List OK} {o : Nat → XO} {out : α}
/-- the state, and what is kept -/
structure G4 (nt : Nat) (w0 : Cx) (kp : List Nat) (o : Nat → XO) (st : XS) (a : Act) (w : World) : Prop where
  s : Sim4 nt w0 st a w
  k : Kpd kp o st
theorem look_deadS (ops : Array Oper) (f : List (Nat × XV)) (i : Nat) : look (deadS ops f) i = dd ∨ (look (deadS ops f) i = look f i ∧ ∀ o ∈ ops.toList, o.dst ≠ some i) := by
  unfold deadS
  generalize ops.toList = L
  induction L generalizing f with
  | nil => exact .inr ⟨rfl, by simp⟩
  | cons o L ih =>
    simp only [List.foldl_cons]
    rcases ih (match o.dst with | some d => (d, dd) :: f | none => f) with h | ⟨h, h'⟩
    · exact .inl h
    · cases hd : o.dst with
      | none =>
        rw [hd] at h
        refine .inr ⟨h, fun p hp => ?_⟩
        rcases List.mem_cons.1 hp with rfl | hp
        · rw [hd]; simp
        · exact h' p hp
      | some d =>
        rw [hd] at h
        simp only at h ⊢
        by_cases e : d = i
        · subst e
          left
          rw [h, look_cons, if_pos rfl]
        · right
          refine ⟨by rw [h, look_cons, if_neg e], fun p hp => ?_⟩
          rcases List.mem_cons.1 hp with rfl | hp
          · rw [hd]; simp [e]
          · exact h' p hp
theorem atR_good (hne : ∀ k ∈ kp, o k ≠ .free) {id : Nat} {st : XS} {a : Act} {w : World} (S : G4 nt w0 kp o st a w) : G4 nt w0 kp o (atR kp pol id st) a w := by
  unfold atR
  split
  · obtain ⟨h1, h2⟩ := silS_good hne _ S.s S.k
    exact ⟨h1, h2⟩
  · exact S
theorem atJ_good (hne : ∀ k ∈ kp, o k ≠ .free) (hlo : ∀ k ∈ kp, k < hn.length ∧ ∀ l ∈ locsO (o k), l < hn.length) {b : Code} {st st' : XS} {a : Act} {w : World} (S : G4 nt w0 kp o st a w) (h : atJ kp pol hn b st = some st') : G4 nt w0 kp o st' a w := by
  unfold atJ at h
  split at h
  · obtain ⟨h1, h2⟩ := cutX_good S.s hne hlo S.k h
    exact ⟨h1, h2⟩
  · cases h; exact S
theorem atL_good (hne : ∀ k ∈ kp, o k ≠ .free) (hlo : ∀ k ∈ kp, k < hn.length ∧ ∀ l ∈ locsO (o k), l < hn.length) {b : Code} {st st' : XS} {a : Act} {w : World} (S : G4 nt w0 kp o st a w) (h : atL kp pol hn b st = some st') : G4 nt w0 kp o st' a w := by
  unfold atL at h
  split at h
  · obtain ⟨h1, h2⟩ := cutX_good S.s hne hlo S.k h
    exact ⟨h1, h2⟩
  · cases h
/-- behind the question: there is one more -/
theorem next_more {st : XS} {a' : Act} {w' : World} {ps : PS} {li l lg d1 d2 : Nat} {ka kb : Ty} {own : Bool} {ρ : List (ka.den × kb.den)} {cur : Option (ka.den × kb.den)} {p : ka.den × kb.den} (A : Abs nt st.f st.m ps) (hl : ps.m.length = st.n) (h1 : d1 < nt) (h2 : d2 < nt)
    (hlom : lom st.m li = .ex (.it ka kb own l lg ρ cur none)) (hkp : Kpd kp o st) (hli : li ∉ kp) {ow : Ow} {hd : Nat → Value} (hk : Keep w0 ow) {e1 : EX}
    (S : SimW nt w0 ⟨putF (putF ps.f (some d1) .dead) (some d2) (.d (.v (.bool true))), ps.m.set li (.cu (itC ka kb (mdel (eqT ka) ρ p.1) (some p)) [.srf lg])⟩ a' w' ow hd) :
    G4 nt w0 kp o ⟨(d2, ⟨.bl, true⟩) :: (d1, dd) :: st.f, repO (repO st.m li (.ex e1)) li (.ex (.it ka kb own l lg (mdel (eqT ka) ρ p.1) (some p) none)), st.n⟩ a' w' := by
  have hfree : lom st.m li ≠ .free := by rw [hlom]; simp
  have hlt : li < ps.m.length := A.lt hlom (by simp)
  have hat : ∀ j, lom (repO (repO st.m li (.ex e1)) li (.ex (.it ka kb own l lg (mdel (eqT ka) ρ p.1) (some p) none))) j = if j = li then .ex (.it ka kb own l lg (mdel (eqT ka) ρ p.1) (some p) none) else lom st.m j := fun j => by
    by_cases e : j = li
    · subst e
      rw [if_pos rfl]
      exact lom_repO_same _ (by rw [lom_repO_same _ hfree]; simp)
    · rw [if_neg e, lom_repO_ne e, lom_repO_ne e]
  refine ⟨Sim4.at A hl rfl rfl h1 h2 (by rw [List.length_set]) (fun j hj => ?_) (fun j hj => ?_) hk S, fun k hkk => ?_⟩
  · show _ = some (absO (lom (repO (repO st.m li (.ex e1)) li _) j))
    rw [hat]
    by_cases e : j = li
    · subst e
      rw [if_pos rfl, List.getElem?_set_self hlt]; rfl
    · rw [if_neg e, List.getElem?_set_ne (Ne.symm e)]; exact A.ob j hj
  · show lom (repO (repO st.m li (.ex e1)) li _) j = _
    rw [hat, if_neg (by omega)]
    exact A.fr j (by omega)
  · show lom (repO (repO st.m li (.ex e1)) li _) k = _
    rw [hat, if_neg (show k ≠ li from fun e => hli (e ▸ hkk))]
    exact hkp k hkk
/-- behind the question: there is none; the map is as any other again -/
theorem next_done {st : XS} {a' : Act} {w' : World} {ps : PS} {li l lg lq d1 d2 : Nat} {ka kb : Ty} {own : Bool} {ρ : List (ka.den × kb.den)} {cur : Option (ka.den × kb.den)} {oq : XO} {e1 : EX} (A : Abs nt st.f st.m ps) (hl : ps.m.length = st.n) (h1 : d1 < nt) (h2 : d2 < nt)
    (hlom : lom st.m li = .ex (.it ka kb own l lg ρ cur none)) (hlock : lockOf (repO st.m li (.ex e1)) own l lg = some (lq, oq)) (he1 : ∃ ka kb own l lg ρ cur pl, e1 = .it ka kb own l lg ρ cur pl) (hkp : Kpd kp o st) (hli : li ∉ kp) (hlq : lq ∉ kp) {ow : Ow} {hd : Nat → Value} (hk : Keep w0 ow)
    (S : SimW nt w0 ⟨putF (putF ps.f (some d1) .dead) (some d2) (.d (.v (.bool false))), ps.m⟩ a' w' ow hd) :
    G4 nt w0 kp o ⟨(d2, ⟨.bl, false⟩) :: (d1, dd) :: st.f, repO (repO (repO st.m li (.ex e1)) li .none) lq oq, st.n⟩ a' w' := by
  have hfree : lom st.m li ≠ .free := by rw [hlom]; simp
  have hlt : li < ps.m.length := A.lt hlom (by simp)
  obtain ⟨e, q1, q2, q3, q4⟩ := lockOf_lockd hlock
  have hne : lq ≠ li := fun h => by
    subst h
    rw [lom_repO_same _ hfree] at q1
    obtain ⟨_, _, _, _, _, _, _, _, rfl⟩ := he1
    cases q1
    exact q3 _ _ _ _ _ _ _ _ rfl
  rw [lom_repO_ne hne] at q1
  have hltq : lq < ps.m.length := A.lt q1 (by simp)
  have hat : ∀ j, lom (repO (repO (repO st.m li (.ex e1)) li .none) lq oq) j = if j = lq then oq else if j = li then .none else lom st.m j := fun j => by
    by_cases e : j = lq
    · subst e
      rw [if_pos rfl]
      refine lom_repO_same _ ?_
      rw [lom_repO_ne hne, lom_repO_ne hne, q1]; simp
    · rw [if_neg e, lom_repO_ne e]
      by_cases e' : j = li
      · subst e'
        rw [if_pos rfl]
        exact lom_repO_same _ (by rw [lom_repO_same _ hfree]; simp)
      · rw [if_neg e', lom_repO_ne e', lom_repO_ne e']
  obtain ⟨H, ha⟩ := S.toSimH.kill li
  have S1 : SimW nt w0 ⟨putF (putF ps.f (some d1) .dead) (some d2) (.d (.v (.bool false))), ps.m.set li .none⟩ a' w' ow hd := { H with defers := S.defers, size := S.size, slots := fun i => RF.mono (Kp.refl _ _) ha _ _ (S.slots i) }
  have hmq : (ps.m.set li .none)[lq]? = some (absO (.ex e)) := by rw [List.getElem?_set_ne (Ne.symm hne)]; exact A.at q1 (by simp)
  have S2 := q4 _ _ _ _ _ _ _ S1 hmq
  refine ⟨Sim4.at A hl rfl rfl h1 h2 (by rw [List.length_set, List.length_set]) (fun j hj => ?_) (fun j hj => ?_) hk S2, fun k hkk => ?_⟩
  · show _ = some (absO (lom (repO (repO (repO st.m li (.ex e1)) li .none) lq oq) j))
    rw [hat]
    by_cases e : j = lq
    · subst e
      rw [if_pos rfl, List.getElem?_set_self (by rw [List.length_set]; exact hltq)]
    · rw [if_neg e, List.getElem?_set_ne (Ne.symm e)]
      by_cases e' : j = li
      · subst e'
        rw [if_pos rfl, List.getElem?_set_self hlt]; rfl
      · rw [if_neg e', List.getElem?_set_ne (Ne.symm e')]; exact A.ob j hj
  · show lom (repO (repO (repO st.m li (.ex e1)) li .none) lq oq) j = _
    rw [hat, if_neg (by omega), if_neg (by omega)]
    exact A.fr j (by omega)
  · show lom (repO (repO (repO st.m li (.ex e1)) li .none) lq oq) k = _
    rw [hat, if_neg (show k ≠ lq from fun e => hlq (e ▸ hkk)), if_neg (show k ≠ li from fun e => hli (e ▸ hkk))]
    exact hkp k hkk
/-- what is told of a code -/
def XGood (E : Env) (call : CallT E) (kp : List Nat) (pol : Pol) (sm : Nat → Option (XS → Option XS)) (Nl nt : Nat) (hn : List OK) (w0 : Cx) (o : Nat → XO) (c : Code) : Prop :=
  noR c = true → ∀ (α : Type) (out : α) (st : XS) (K : Ex → XS → Option α) (a : Act) (w : World) (Q : Exit → Act → World → Prop), xcode E call kp pol sm Nl nt hn c st K = some out → G4 nt w0 kp o st a w →
      (∀ ex st' a' w', K ex st' = some out → G4 nt w0 kp o st' a' w' → Q ex.exit' a' w') → c.wp E.P Q a w
theorem noR_loop {x : Code} (h : noR (.loop x) = true) (hr : rngHead x = none) : noR x = true := by
  cases x with
  | seq y z =>
    cases y with
    | region id ops draw =>
      have h : noR z = true := by simpa only [noR] using h
      have hr : (match ndOps ops draw with
        | some (it, _, _) => some it
        | none => none) = none := hr
      have hnd : ndOps ops draw = none := by
        cases hq : ndOps ops draw with
        | none => rfl
        | some q => rw [hq] at hr; cases hr
      show ((ndOps ops draw).isNone && noR z) = true
      rw [hnd, h]; rfl
    | _ => simpa only [noR] using h
  | _ => simpa only [noR] using h
theorem Runs_rest {xb : XS → (Ex → XS → Option XS) → Option XS} {cut : XS → Option XS} {it : Nat} {ka kb : Ty} : ∀ {π ρ : List (ka.den × kb.den)} {st stE : XS}, Runs xb cut it ka kb π ρ st stE → ∃ li u own l lg cur, look st.f it = ⟨.sr li, u⟩ ∧ lom st.m li = .ex (.it ka kb own l lg ρ cur none)
  | [], ρ, st, stE, h => by obtain ⟨li, u, own, l, lg, cur, h1, h2, _⟩ := h; exact ⟨li, u, own, l, lg, cur, h1, h2⟩
  | p :: π, ρ, st, stE, h => by obtain ⟨li, u, own, l, lg, cur, st1, h1, h2, _⟩ := h; exact ⟨li, u, own, l, lg, cur, h1, h2⟩
theorem bif_and {β : Type} {c : Bool} {x : Option β} {y : β} (h : (bif c then x else none) = some y) : c = true ∧ x = some y := cond_some h
/-- the question, at a state that knows the answer -/
theorem nextX_plan {β : Type} {it d1 d2 li l lg : Nat} {ka kb : Ty} {own : Bool} {ρ : List (ka.den × kb.den)} {cur cur' : Option (ka.den × kb.den)} {e : Option (ka.den × kb.den)} {st : XS} {u : (Ty.sr li).den} {K : Ex → XS → Option β} {y : β} (hlook : look st.f it = ⟨.sr li, u⟩) (hlom : lom st.m li = .ex (.it ka kb own l lg ρ cur none))
    (h : nextX kp nt it d1 d2 (planX st li (.it ka kb own l lg ρ cur' (some e))) K = some y) :
    ∃ lq oq, lockOf (repO st.m li (.ex (.it ka kb own l lg ρ cur' (some e)))) own l lg = some (lq, oq) ∧ ka.ky = true ∧ d1 < nt ∧ d2 < nt ∧ li ∉ kp ∧ lq ∉ kp ∧ (match e with
      | some p => K .normal ⟨(d2, ⟨.bl, true⟩) :: (d1, dd) :: st.f, repO (repO st.m li (.ex (.it ka kb own l lg ρ cur' (some e)))) li (.ex (.it ka kb own l lg (mdel (eqT ka) ρ p.1) (some p) none)), st.n⟩
      | none => K .normal ⟨(d2, ⟨.bl, false⟩) :: (d1, dd) :: st.f, repO (repO (repO st.m li (.ex (.it ka kb own l lg ρ cur' (some e)))) li .none) lq oq, st.n⟩) = some y := by
  have hlom' : lom (planX st li (.it ka kb own l lg ρ cur' (some e))).m li = .ex (.it ka kb own l lg ρ cur' (some e)) := lom_repO_same _ (by rw [hlom]; simp)
  have hlook' : look (planX st li (.it ka kb own l lg ρ cur' (some e))).f it = ⟨.sr li, u⟩ := hlook
  unfold nextX at h
  rw [hlook'] at h
  simp only at h
  rw [hlom'] at h
  simp only at h
  split at h
  · rename_i lq oq hq
    obtain ⟨hb, h⟩ := cond_some h
    simp only [Bool.and_eq_true, Bool.not_eq_true'] at hb
    obtain ⟨⟨⟨⟨b1, b2⟩, b3⟩, b4⟩, b5⟩ := hb
    refine ⟨lq, oq, hq, b1, Nat.lt_of_lt_of_le (Nat.lt_succ_self _) (Nat.le_of_ble_eq_true b2), Nat.lt_of_lt_of_le (Nat.lt_succ_self _) (Nat.le_of_ble_eq_true b3), (fun hm => by rw [memN_iff.2 hm] at b4; cases b4), (fun hm => by rw [memN_iff.2 hm] at b5; cases b5), ?_⟩
    cases e with
    | none => exact h
    | some p => exact h
  · cases h
/-- a loop over a map -/
theorem rng_good (hE : EnvOk E) (hc : CallOk E call) {Nl : Nat} {sm : Nat → Option (XS → Option XS)} (hne : ∀ k ∈ kp, o k ≠ .free) (hlo : ∀ k ∈ kp, k < hn.length ∧ ∀ l ∈ locsO (o k), l < hn.length) (x : Code)
    (ihy : ∀ x' y, x = .seq x' y → XGood E call kp pol sm Nl nt hn w0 o y) (hno : noR (.loop x) = true) {it : Nat} (hrg : rngHead x = some it) {α : Type} {out : α} (st : XS) (K : Ex → XS → Option α) (a : Act) (w : World) (Q : Exit → Act → World → Prop)
    (h : xcode E call kp pol sm Nl nt hn (.loop x) st K = some out) (S : G4 nt w0 kp o st a w) (hQ : ∀ ex st' a' w', K ex st' = some out → G4 nt w0 kp o st' a' w' → Q ex.exit' a' w') : (Code.loop x).wp E.P Q a w := by
  cases x with
  | seq x' y =>
    cases x' with
    | region id ops draw =>
      have hno : noR y = true := by simpa only [noR] using hno
      have hy := ihy _ _ rfl hno
      have hrg' : (match ndOps ops draw with
        | some (it, _, _) => some it
        | none => none) = some it := hrg
      cases hnd : ndOps ops draw with
      | none => rw [hnd] at hrg'; cases hrg'
      | some q =>
        obtain ⟨it', d1, d2⟩ := q
        rw [hnd] at hrg'
        cases hrg'
        generalize hx : Code.seq (.region id ops draw) y = x at *
        have h : (match rngHead x with
          | some it => (match atL kp pol hn x st with
            | some st' => rngX (xcodeP E call kp pol sm Nl nt hn x XS) (xcodeP E call kp pol sm Nl nt hn x α) (atL kp pol hn x) it K st'
            | none => none)
          | none => match (firstR x).bind sm with
          | some F => (match F st with
            | some st' => K .normal st'
            | none => none)
          | none => (match atL kp pol hn x st with
            | some st' => iterX (xcode E call kp pol sm Nl nt hn x) (atL kp pol hn x) K Nl st'
            | none => none)) = some out := h
        rw [hrg] at h
        simp only at h
        split at h
        · rename_i st0 h0
          have S0 := atL_good hne hlo S h0
          unfold rngX at h
          by_cases hex : ∃ r, RConf (xcodeP E call kp pol sm Nl nt hn x XS) (fun st => xcodeP E call kp pol sm Nl nt hn x α st (endK K)) (atL kp pol hn x) it st0 r
          · rw [dif_pos hex] at h
            have hC := Classical.choose_spec hex
            generalize Classical.choose hex = r at h hC
            cases h
            obtain ⟨ka, kb, ρ, hrest, hperm⟩ := hC
            -- the code of one round, told
            have hun : ∀ {β : Type} (st : XS) (K' : Ex → XS → Option β), xcodeP E call kp pol sm Nl nt hn x β st K' = nextX kp nt it d1 d2 st (kS (xcodeP E call kp pol sm Nl nt hn y β) (atJ kp pol hn y) K') := fun st K' => by
              rw [← hx]
              show (match ndOps ops draw with
                | some (it, d1, d2) => nextX kp nt it d1 d2 st (kS (xcodeP E call kp pol sm Nl nt hn y _) (atJ kp pol hn y) K')
                | none => _) = _
              rw [hnd]
            have main : ∀ (n : Nat) (ρ : List (ka.den × kb.den)) (st1 : XS) (a : Act) (w : World), ρ.length = n → G4 nt w0 kp o st1 a w → (∃ li u own l lg cur, look st1.f it = ⟨.sr li, u⟩ ∧ lom st1.m li = .ex (.it ka kb own l lg ρ cur none)) →
                (∀ π : List (ka.den × kb.den), π.Perm ρ → ∃ stE, Runs (xcodeP E call kp pol sm Nl nt hn x XS) (atL kp pol hn x) it ka kb π ρ st1 stE ∧ xcodeP E call kp pol sm Nl nt hn x α stE (endK K) = some out) → Code.rounds E.P x Q (n + 1) a w := by
              have step : ∀ (n : Nat), (∀ m, n = m + 1 → ∀ (ρ : List (ka.den × kb.den)) (st1 : XS) (a : Act) (w : World), ρ.length = m → G4 nt w0 kp o st1 a w → (∃ li u own l lg cur, look st1.f it = ⟨.sr li, u⟩ ∧ lom st1.m li = .ex (.it ka kb own l lg ρ cur none)) →
                  (∀ π : List (ka.den × kb.den), π.Perm ρ → ∃ stE, Runs (xcodeP E call kp pol sm Nl nt hn x XS) (atL kp pol hn x) it ka kb π ρ st1 stE ∧ xcodeP E call kp pol sm Nl nt hn x α stE (endK K) = some out) → Code.rounds E.P x Q (m + 1) a w) →
                  ∀ (ρ : List (ka.den × kb.den)) (st1 : XS) (a : Act) (w : World), ρ.length = n → G4 nt w0 kp o st1 a w → (∃ li u own l lg cur, look st1.f it = ⟨.sr li, u⟩ ∧ lom st1.m li = .ex (.it ka kb own l lg ρ cur none)) →
                  (∀ π : List (ka.den × kb.den), π.Perm ρ → ∃ stE, Runs (xcodeP E call kp pol sm Nl nt hn x XS) (atL kp pol hn x) it ka kb π ρ st1 stE ∧ xcodeP E call kp pol sm Nl nt hn x α stE (endK K) = some out) → Code.rounds E.P x Q (n + 1) a w := by
                intro n IH ρ st1 a w hlen S1 hrest hperm
                obtain ⟨li, u, own, l, lg, cur, hlook, hlom⟩ := hrest
                -- the same answer whichever entry is asked for: where the loop's object lies
                have huniq : ∀ {li' : Nat} {u' : (Ty.sr li').den} {own' l' lg' cur'}, look st1.f it = ⟨.sr li', u'⟩ → lom st1.m li' = .ex (.it ka kb own' l' lg' ρ cur' none) → li' = li ∧ own' = own ∧ l' = l ∧ lg' = lg := fun {li' u' own' l' lg' cur'} g1 g2 => by
                  rw [hlook] at g1
                  have e := congrArg XV.t g1
                  simp only [Ty.sr.injEq] at e
                  subst e
                  rw [hlom] at g2
                  simp only [XO.ex.injEq, EX.it.injEq, heq_eq_eq, true_and] at g2
                  obtain ⟨e1, e2, e3, _⟩ := g2
                  exact ⟨rfl, e1.symm, e2.symm, e3.symm⟩
                have hendE : ρ = [] → xcodeP E call kp pol sm Nl nt hn x α (planX st1 li (.it ka kb own l lg ρ none (some none))) (endK K) = some out := fun e => by
                  obtain ⟨stE, hR, hE⟩ := hperm [] (by rw [e])
                  obtain ⟨li', u', own', l', lg', cur', g1, g2, g3⟩ := hR
                  obtain ⟨rfl, rfl, rfl, rfl⟩ := huniq g1 g2
                  rw [← g3]; exact hE
                have hstep : ∀ p π', (p :: π').Perm ρ → ∃ st2, nextX kp nt it d1 d2 (planX st1 li (.it ka kb own l lg ρ none (some (some p)))) (kS (xcodeP E call kp pol sm Nl nt hn y XS) (atJ kp pol hn y) fun ex st => match ex with
                    | .normal => atL kp pol hn x st
                    | _ => none) = some st2 ∧ ∃ stE, Runs (xcodeP E call kp pol sm Nl nt hn x XS) (atL kp pol hn x) it ka kb π' (mdel (eqT ka) ρ p.1) st2 stE ∧ xcodeP E call kp pol sm Nl nt hn x α stE (endK K) = some out := fun p π' hp => by
                  obtain ⟨stE, hR, hE⟩ := hperm (p :: π') hp
                  obtain ⟨li', u', own', l', lg', cur', st2, g1, g2, g3, g4⟩ := hR
                  obtain ⟨rfl, rfl, rfl, rfl⟩ := huniq g1 g2
                  rw [hun] at g3
                  exact ⟨st2, g3, stE, g4, hE⟩
                -- what is asked for at all
                have hfacts : ∃ e1 lq oq, (∃ ka kb own l lg ρ cur pl, e1 = EX.it ka kb own l lg ρ cur pl) ∧ lockOf (repO st1.m li (.ex e1)) own l lg = some (lq, oq) ∧ ka.ky = true ∧ d1 < nt ∧ d2 < nt := by
                  cases hρ : ρ with
                  | nil =>
                    have h' := hendE hρ
                    rw [hun] at h'
                    obtain ⟨lq, oq, g1, g2, g3, g4, _⟩ := nextX_plan hlook hlom h'
                    exact ⟨_, lq, oq, ⟨_, _, _, _, _, _, _, _, rfl⟩, g1, g2, g3, g4⟩
                  | cons p0 r =>
                    obtain ⟨st2, g0, _⟩ := hstep p0 r (by rw [hρ])
                    obtain ⟨lq, oq, g1, g2, g3, g4, _⟩ := nextX_plan hlook hlom g0
                    exact ⟨_, lq, oq, ⟨_, _, _, _, _, _, _, _, rfl⟩, g1, g2, g3, g4⟩
                obtain ⟨e1, lq, oq, he1, hlock, hky, hd1, hd2⟩ := hfacts
                obtain ⟨e, q1, q2, q3, _⟩ := lockOf_lockd hlock
                have hneq : lq ≠ li := fun hh => by
                  subst hh
                  rw [lom_repO_same _ (by rw [hlom]; simp)] at q1
                  obtain ⟨_, _, _, _, _, _, _, _, rfl⟩ := he1
                  cases q1
                  exact q3 _ _ _ _ _ _ _ _ rfl
                rw [lom_repO_ne hneq] at q1
                obtain ⟨ps, A, hlp, ow, hd, hkeep, W⟩ := S1.s
                have hit : ps.f.getD it .dead = .srf li := by
                  have := A.sl it
                  rw [hlook] at this
                  rcases this with e | e
                  · cases e
                  · exact e
                have hmi : ps.m[li]? = some (.cu (itC ka kb ρ cur) [.srf lg]) := A.at hlom (by simp)
                have hml : ps.m[lq]? = some (absO (.ex e)) := A.at q1 (by simp)
                show x.wp E.P (Exit.then (Code.rounds E.P x Q n) Q) a w
                rw [← hx]
                refine wp_seq (next_wp W hnd hd1 hd2 hit hmi q2 hml hky (fun hρ a' W' => ?_) fun p hmd a' w' hkt W' => ?_)
                · -- none is left
                  show y.wp E.P (Exit.then (Code.rounds E.P (Code.seq (.region id ops draw) y) Q n) Q) a' w
                  have h' := hendE hρ
                  rw [hun] at h'
                  obtain ⟨lq', oq', g1, g2, g3, g4, g5, g6, g7⟩ := nextX_plan hlook hlom h'
                  have S2 := next_done A hlp g3 g4 hlom g1 ⟨_, _, _, _, _, _, _, _, rfl⟩ S1.k g5 g6 hkeep W'
                  simp only [kS] at g7
                  split at g7
                  · rename_i st3 h3
                    refine hy α out st3 _ a' w _ g7 (atJ_good hne hlo S2 h3) fun ex st' a'' w'' hKe S'' => ?_
                    cases ex with
                    | normal => cases hKe
                    | exit id => exact hQ (.exit id) st' a'' w'' hKe S''
                    | ret => exact hQ .ret st' a'' w'' hKe S''
                  · cases g7
                · -- one more
                  show y.wp E.P (Exit.then (Code.rounds E.P (Code.seq (.region id ops draw) y) Q n) Q) a' w'
                  have hlm : ρ.length = (mdel (eqT ka) ρ p.1).length + 1 := by rw [hmd.length_eq]; rfl
                  obtain ⟨m, rfl⟩ : ∃ m, n = m + 1 := ⟨n - 1, by omega⟩
                  obtain ⟨st2, g0, gR⟩ := hstep p (mdel (eqT ka) ρ p.1) hmd.symm
                  obtain ⟨lq', oq', g1, g2, g3, g4, g5, g6, g7⟩ := nextX_plan hlook hlom g0
                  have S2 := next_more A hlp g3 g4 hlom S1.k g5 hkeep W' (e1 := .it ka kb own l lg ρ none (some (some p)))
                  simp only [kS] at g7
                  split at g7
                  · rename_i st3 h3
                    refine hy XS st2 st3 _ a' w' _ g7 (atJ_good hne hlo S2 h3) fun ex st' a'' w'' hKe S'' => ?_
                    cases ex with
                    | normal =>
                      have hKe : atL kp pol hn x st' = some st2 := hKe
                      show Code.rounds E.P (Code.seq (.region id ops draw) y) Q (m + 1) a'' w''
                      rw [hx]
                      refine IH m rfl (mdel (eqT ka) ρ p.1) st2 a'' w'' (by omega) (atL_good hne hlo S'' hKe) (by obtain ⟨_, g, _⟩ := gR; exact Runs_rest g) fun π' hπ' => ?_
                      obtain ⟨st2', g0', gR'⟩ := hstep p π' ((hπ'.cons p).trans hmd.symm)
                      rw [g0] at g0'
                      cases g0'
                      exact gR'
                    | exit id => cases hKe
                    | ret => cases hKe
                  · cases g7
              intro n
              induction n with
              | zero => exact step 0 (fun m e => by omega)
              | succ n ihn => exact step (n + 1) (fun m e => by obtain rfl : n = m := by omega
                                                                exact ihn)
            exact wp_loop_rounds (ρ.length + 1) (main ρ.length ρ st0 a w rfl S0 hrest hperm)
          · rw [dif_neg hex] at h; cases h
        · cases h
    | _ => cases hrg
  | _ => cases hrg
/-- the code, told -/
theorem xcode_good (hE : EnvOk E) (hc : CallOk E call) {Nl : Nat} {sm : Nat → Option (XS → Option XS)} (hsm : ∀ r, sm r = none) (hne : ∀ k ∈ kp, o k ≠ .free) (hlo : ∀ k ∈ kp, k < hn.length ∧ ∀ l ∈ locsO (o k), l < hn.length) :
    ∀ (c : Code), XGood E call kp pol sm Nl nt hn w0 o c ∧ ∀ x y, c = .seq x y → XGood E call kp pol sm Nl nt hn w0 o y := by
  intro c
  induction c with
  | skip => refine ⟨?_, by intro _ _ e; cases e⟩; intro _ α out st K a w Q h S hQ; exact wp_skip (hQ .normal st a w h S)
  | label l => refine ⟨?_, by intro _ _ e; cases e⟩; intro _ α out st K a w Q h S hQ; exact wp_label (hQ .normal st a w h S)
  | exit id => refine ⟨?_, by intro _ _ e; cases e⟩; intro _ α out st K a w Q h S hQ; exact wp_exit (hQ (.exit id) st a w h S)
  | ret => refine ⟨?_, by intro _ _ e; cases e⟩; intro _ α out st K a w Q h S hQ; exact wp_ret (hQ .ret st a w h S)
  | region id ops draw =>
    refine ⟨?_, by intro _ _ e; cases e⟩
    intro hno α out st K a w Q h S hQ
    have S1 := atR_good (pol := pol) hne (id := id) S
    have hnd : ndOps ops draw = none := by
      have : (ndOps ops draw).isNone = true := hno
      simpa using this
    have h : (match ndOps ops draw with
      | some (it, d1, d2) => nextX kp nt it d1 d2 st K
      | none => match alst pol.mrg id with
      | some t => (xmerge E call kp pol.bd pol.cp nt t ops draw (atR kp pol id st)).bind fun b => K .normal ⟨(t, ⟨.bl, b⟩) :: deadS ops (atR kp pol id st).f, (atR kp pol id st).m, (atR kp pol id st).n + 16 * ops.size⟩
      | none => xregion E call kp pol.bd pol.cp nt ops draw (atR kp pol id st) fun f m _ => K .normal ⟨f, m, (atR kp pol id st).n + 16 * ops.size⟩) = some out := h
    rw [hnd] at h
    simp only at h
    have h : (match alst pol.mrg id with
      | some t => (xmerge E call kp pol.bd pol.cp nt t ops draw (atR kp pol id st)).bind fun b => K .normal ⟨(t, ⟨.bl, b⟩) :: deadS ops (atR kp pol id st).f, (atR kp pol id st).m, (atR kp pol id st).n + 16 * ops.size⟩
      | none => xregion E call kp pol.bd pol.cp nt ops draw (atR kp pol id st) fun f m _ => K .normal ⟨f, m, (atR kp pol id st).n + 16 * ops.size⟩) = some out := h
    generalize atR kp pol id st = st1 at h S1
    split at h
    · rename_i t ht
      obtain ⟨b, hb, h⟩ := bind_some h
      unfold xmerge at hb
      refine xregion_good hE hc hb S1.s fun f' m' L a' w' ⟨ps, ps2, A1, hl1, A2, S2, hm, hl2, hsl⟩ hk hK => ?_
      refine hQ .normal _ a' w' h ⟨⟨ps2, ?_, by rw [hl2, hl1], S2⟩, S1.k⟩
      split at hK
      · rename_i v hv
        obtain ⟨hU, hK⟩ := cond_some hK
        cases hK
        have hm := hm hU
        refine ⟨A2.fl, fun i => ?_, fun l hl => ?_, fun l hl => ?_⟩
        · simp only
          rw [look_cons]
          by_cases e : t = i
          · subst e
            rw [if_pos rfl]
            have := A2.sl t
            rw [hv] at this
            exact this
          · rw [if_neg e]
            rcases look_deadS ops st1.f i with h1 | ⟨h1, h2⟩
            · rw [h1]; exact .inl rfl
            · rw [h1, hsl i h2]; exact A1.sl i
        · rw [hm] at hl ⊢; exact A1.ob l hl
        · rw [hm] at hl; exact A1.fr l hl
      · cases hK
    · refine xregion_good hE hc h S1.s fun f' m' L a' w' ⟨ps, ps2, A1, hl1, A2, S2, hm, hl2, hsl⟩ hk hK => ?_
      exact hQ .normal _ a' w' hK ⟨⟨ps2, A2, by rw [hl2, hl1], S2⟩, fun k hkk => (hk k hkk).trans (S1.k k hkk)⟩
  | seq x y ihx ihy =>
    refine ⟨?_, by intro _ _ e; cases e; exact ihy.1⟩
    intro hno α out st K a w Q h S hQ
    have hno : (noR x && noR y) = true := hno
    rw [Bool.and_eq_true] at hno
    refine wp_seq (ihx.1 hno.1 α out st _ a w _ h S fun ex st' a' w' hK S' => ?_)
    cases ex with
    | normal =>
      show y.wp E.P Q a' w'
      have hK : (match atJ kp pol hn y st' with
        | some st' => xcode E call kp pol sm Nl nt hn y st' K
        | none => none) = some out := hK
      split at hK
      · rename_i st2 h2
        exact ihy.1 hno.2 α out st2 K a' w' Q hK (atJ_good hne hlo S' h2) hQ
      · cases hK
    | exit id => exact hQ (.exit id) st' a' w' hK S'
    | ret => exact hQ .ret st' a' w' hK S'
  | cond c x y ihx ihy =>
    refine ⟨?_, by intro _ _ e; cases e⟩
    intro hno α out st K a w Q h S hQ
    have hno : (noR x && noR y) = true := hno
    rw [Bool.and_eq_true] at hno
    have h : (match evX st.f c with
      | ⟨.bl, v⟩ => bif (show Bool from v) then xcode E call kp pol sm Nl nt hn x st K else xcode E call kp pol sm Nl nt hn y st K
      | _ => none) = some out := h
    split at h
    · rename_i v hv
      have he : a.eval c = .bool v := by
        obtain ⟨ps, A, _, ow, hd, _, W⟩ := S.s
        have := W.eval c
        rw [ev_of A hv rfl] at this
        have this : RF (al ps.m) hd ow w (.d (.v (.bool v))) (a.eval c) := this
        simp only [RF, R] at this
        exact this.1
      refine wp_cond he ?_
      cases v with
      | true => exact ihx.1 hno.1 α out st K a w Q h S hQ
      | false => exact ihy.1 hno.2 α out st K a w Q h S hQ
    · cases h
  | block id x ih =>
    refine ⟨?_, by intro _ _ e; cases e⟩
    intro hno α out st K a w Q h S hQ
    refine wp_block (ih.1 hno α out st _ a w _ h S fun ex st' a' w' hK S' => ?_)
    cases ex with
    | normal => exact hQ .normal st' a' w' hK S'
    | ret => exact hQ .ret st' a' w' hK S'
    | exit j =>
      have hK : K (bif Nat.beq j id then .normal else .exit j) st' = some out := hK
      show Exit.inBlock id Q (.exit j) a' w'
      simp only [Exit.inBlock]
      by_cases e : j = id
      · subst e
        rw [if_pos rfl]
        rw [show Nat.beq j j = true by simp] at hK
        exact hQ .normal st' a' w' hK S'
      · rw [if_neg e]
        rw [beq_ff e] at hK
        exact hQ (.exit j) st' a' w' hK S'
  | loop x ih =>
    refine ⟨?_, by intro _ _ e; cases e⟩
    intro hno α out st K a w Q h S hQ
    cases hrg : rngHead x with
    | some it0 => exact rng_good hE hc hne hlo x ih.2 hno hrg st K a w Q h S hQ
    | none =>
    have hno : noR x = true := noR_loop hno hrg
    have h : (match rngHead x with
      | some it => (match atL kp pol hn x st with
        | some st' => rngX (xcodeP E call kp pol sm Nl nt hn x XS) (xcodeP E call kp pol sm Nl nt hn x α) (atL kp pol hn x) it K st'
        | none => none)
      | none => match (firstR x).bind sm with
      | some F => (match F st with
        | some st' => K .normal st'
        | none => none)
      | none => (match atL kp pol hn x st with
        | some st' => iterX (xcode E call kp pol sm Nl nt hn x) (atL kp pol hn x) K Nl st'
        | none => none)) = some out := h
    rw [hrg] at h
    simp only at h
    have hn0 : (firstR x).bind sm = none := by
      cases firstR x with
      | none => rfl
      | some r => exact hsm r
    rw [hn0] at h
    simp only at h
    split at h
    · rename_i st1 h1
      have S1 := atL_good hne hlo S h1
      refine wp_loop_rounds Nl ?_
      have : ∀ (n : Nat) (st : XS) (a : Act) (w : World), iterX (xcode E call kp pol sm Nl nt hn x) (atL kp pol hn x) K n st = some out → G4 nt w0 kp o st a w → Code.rounds E.P x Q n a w := by
        intro n
        induction n with
        | zero => intro st a w h; cases h
        | succ n ihn =>
          intro st a w h S
          refine ih.1 hno α out st _ a w _ h S fun ex st' a' w' hK S' => ?_
          cases ex with
          | normal =>
            show Code.rounds E.P x Q n a' w'
            have hK : (match atL kp pol hn x st' with
              | some st' => iterX (xcode E call kp pol sm Nl nt hn x) (atL kp pol hn x) K n st'
              | none => none) = some out := hK
            split at hK
            · rename_i st2 h2
              exact ihn st2 a' w' hK (atL_good hne hlo S' h2)
            · cases hK
          | exit id => exact hQ (.exit id) st' a' w' hK S'
          | ret => exact hQ .ret st' a' w' hK S'
      exact this Nl st1 a w h S1
    · cases h
  | rangeFunc => refine ⟨?_, by intro _ _ e; cases e⟩; intro _ α out st K a w Q h; cases h
  | scope => refine ⟨?_, by intro _ _ e; cases e⟩; intro _ α out st K a w Q h; cases h
  | goto => refine ⟨?_, by intro _ _ e; cases e⟩; intro _ α out st K a w Q h; cases h
  | refuse => refine ⟨?_, by intro _ _ e; cases e⟩; intro _ α out st K a w Q h; cases h
end
end Go.Proofs.YtnkdanobhgofbaaGreatDoor.pv
