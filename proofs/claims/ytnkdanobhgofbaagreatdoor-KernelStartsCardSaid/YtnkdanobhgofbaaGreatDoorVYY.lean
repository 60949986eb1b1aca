/- Loops over maps: the next entry, in the machine. -/
import Derived.Test.YtnkdanobhgofbaaGreatDoorVY
namespace Go.Proofs.YtnkdanobhgofbaaGreatDoor.pv
set_option linter.all false
open Go.RowKit Go.MapKept
theorem get_erase_perm {α : Type} : ∀ (l : List α) (i : Nat) (x : α), l[i]? = some x → l.Perm (x :: l.eraseIdx i)
  | [], i, x, h => by simp at h
  | y :: l, 0, x, h => by simp at h; subst h; exact .refl _
  | y :: l, i + 1, x, h => by
    simp at h
    exact ((get_erase_perm l i x h).cons y).trans (List.Perm.swap _ _ _)
theorem filter_born : ∀ (L : List MapEntry) (i : Nat) (e : MapEntry), L.Pairwise (fun x y => x.born ≠ y.born) → L[i]? = some e → L.filter (fun x => !(x.born == e.born)) = L.eraseIdx i
  | [], i, e, _, h => by simp at h
  | y :: L, 0, e, hp, h => by
    simp at h; subst h
    have h1 := List.pairwise_cons.1 hp
    simp only [List.filter_cons, beq_self_eq_true, Bool.not_true, Bool.false_eq_true, if_false, List.eraseIdx_cons_zero]
    rw [List.filter_eq_self]
    intro x hx
    have := h1.1 x hx
    simpa using fun q => this q.symm
  | y :: L, i + 1, e, hp, h => by
    simp at h
    have h1 := List.pairwise_cons.1 hp
    have hne : y.born ≠ e.born := h1.1 e (List.mem_of_getElem? h)
    simp only [List.filter_cons, List.eraseIdx_cons_succ]
    rw [if_pos (by simpa using hne), filter_born L i e h1.2 h]
theorem eval_put {a : Act} {d : Nat} {v : Value} (h : d < a.tmps.size) : (a.put (some d) v).eval (.tmp d) = v := by
  simp [Act.put, Act.eval, Array.getElem?_set, h]
theorem Lockd.run {n : Nat} {w0 : Cx} {st : PS} {ac : Act} {w : World} {ow : Ow} {hd : Nat → Value} {li l lg : Nat} {o : PO} {a b : Ty} {ρ : List (a.den × b.den)} {cur : Option (a.den × b.den)} (ho : Lockd o lg) (S : SimW n w0 st ac w ow hd)
    (hml : st.m[l]? = some o) (hmi : st.m[li]? = some (.cu (itC a b ρ cur) [.srf lg])) : ∃ r blk since seen c0 es clock, hd li = .pointer (some ⟨r, 0, none⟩) ∧ w.heap[r]? = some (.mapIter (some blk) since seen c0) ∧ w.heap[blk]? = some (.map es clock) ∧
      ItOk a b ρ cur ow w es clock since seen c0 ∧ w0.New r ∧ ow r = true ∧ RFL (al st.m) hd ow w [.srf lg] [ghV blk es clock] := by
  obtain ⟨blk', es', clock', e1, e2⟩ := ho S hml
  obtain ⟨g1, vs, g2, r, blk, since, seen, c0, es, clock, q1, q2, q3, I⟩ := S.objs li _ hmi
  have g20 := g2
  simp only [RFL, RF] at g2
  obtain ⟨v, rr, e, ⟨_, hh, _⟩, _, _⟩ := g2
  rw [q2] at e g20
  cases e
  rw [e1] at hh
  obtain ⟨rfl, rfl, rfl⟩ := ghV_inj hh
  obtain ⟨hnw, how⟩ := g1 r (by rw [q1]; simp [blocksOf, blockOf])
  exact ⟨r, blk, since, seen, c0, es, clock, q1, q3, e2, I, hnw, how, g20⟩
theorem next_wp {P : Program} {n : Nat} {w0 : Cx} {st : PS} {ac : Act} {w : World} {ow : Ow} {hd : Nat → Value} {li l lg id it d1 d2 : Nat} {ops : Array Oper} {draw : Bool} {o : PO} {a b : Ty} {ρ : List (a.den × b.den)} {cur : Option (a.den × b.den)} {Q : Exit → Act → World → Prop}
    (S : SimW n w0 st ac w ow hd) (hops : ndOps ops draw = some (it, d1, d2)) (hn1 : d1 < n) (hn2 : d2 < n) (hit : st.f.getD it .dead = .srf li) (hmi : st.m[li]? = some (.cu (itC a b ρ cur) [.srf lg])) (hL : Lockd o lg) (hml : st.m[l]? = some o) (hky : a.ky = true)
    (done : ρ = [] → ∀ a', SimW n w0 ⟨putF (putF st.f (some d1) .dead) (some d2) (.d (.v (.bool false))), st.m⟩ a' w ow hd → Q .normal a' w)
    (more : ∀ p, ρ.Perm (p :: mdel (eqT a) ρ p.1) → ∀ a' w', Kt w0 w w' → SimW n w0 ⟨putF (putF st.f (some d1) .dead) (some d2) (.d (.v (.bool true))), st.m.set li (.cu (itC a b (mdel (eqT a) ρ p.1) (some p)) [.srf lg])⟩ a' w' ow hd → Q .normal a' w') :
    (Code.region id ops draw).wp P Q ac w := by
  cases draw with
  | true => cases hops
  | false =>
  have hops : (match ops.toList with
    | [⟨some d1, .next (.tmp it) false, _, _, _, none⟩, ⟨some d2, .extract (.tmp d1') 0, _, _, _, none⟩] => bif Nat.beq d1 d1' then some (it, d1, d2) else none
    | _ => none) = some (it, d1, d2) := hops
  split at hops
  · rename_i d1 it t1 p1 a1 d2 d1'' t2 p2 a2 hop
    obtain ⟨hd12, hops⟩ := cond_some hops
    have e12 := Nat.eq_of_beq_eq_true hd12
    simp only [Option.some.injEq, Prod.mk.injEq] at hops
    obtain ⟨rfl, rfl, rfl⟩ := hops
    subst e12
    obtain ⟨r, blk, since, seen, c0, es, clock, q1, q2, q3, I, hnw, how, g20⟩ := hL.run S hml hmi
    have hx : ac.eval (.tmp it) = .pointer (some ⟨r, 0, none⟩) := by
      have := S.slots it
      rw [hit] at this
      simp only [RF] at this
      rw [← q1]; exact this.2.1
    have hz1 : d1 < ac.tmps.size := by rw [S.size]; exact hn1
    obtain ⟨Em, hE, hEp⟩ := I.left
    have hLf : (leftOf es seen).toList = es.toList.filter fun e => !seen.toList.contains e.born := by
      unfold leftOf
      rw [Array.toList_filter]
      refine List.filter_congr fun x _ => ?_
      simp
    rw [← hLf] at hE
    refine wp_region_list ?_
    rw [hop]
    refine wpList_plain rfl fun K1 hK1 => ?_
    rcases run_next_at (P := P) w t1 r blk since c0 seen es clock q2 q3 I.old I.l0 with ⟨h0, hrun⟩ | ⟨e, he, w1, hw1, hrun⟩
    · have hr0 : ρ = [] := by
        have hnil : (leftOf es seen).toList = [] := List.eq_nil_of_length_eq_zero (by simpa using h0)
        rw [hnil] at hE
        have hl := hE.length
        have : Em = [] := List.eq_nil_of_length_eq_zero (by simpa using hl.symm)
        subst this
        exact hEp.symm.eq_nil
      have hrun' : (execOp ac.eval ⟨some d1, .next (.tmp it) false, t1, p1, a1, none⟩).run P w = .ok (.value (.tuple #[.bool false])) w := by
        simp only [execOp, hx, Sem.run_bind, hrun, Result.andThen_ok, Sem.run_pure]
      refine wp_val' hrun' (hK1 _ _ ?_)
      refine wpList_plain rfl fun K2 hK2 => ?_
      have hrun2 : (execOp (ac.put (some d1) (.tuple #[.bool false])).eval ⟨some d2, .extract (.tmp d1) 0, t2, p2, a2, none⟩).run P w = .ok (.value (.bool false)) w := by
        simp [execOp, eval_put hz1, Instr.extract]
      refine wp_val' hrun2 (hK2 _ _ ?_)
      have S1 := S.put (d := some d1) (fun k hk => by cases hk; exact hn1) (x := .dead) (v := .tuple #[.bool false]) (by simp only [RF])
      have S2 := S1.put (d := some d2) (fun k hk => by cases hk; exact hn2) (x := .d (.v (.bool false))) (v := .bool false) (by simp only [RF, R]; exact ⟨trivial, rfl⟩)
      exact wpList_nil (done hr0 _ S2)
    · obtain ⟨i, hi⟩ := List.getElem?_of_mem he
      have hlen := hE.length
      have hilt : i < Em.length := by rw [← hlen]; exact (List.getElem?_eq_some_iff.1 hi).1
      have hp : Em[i]? = some Em[i] := List.getElem?_eq_getElem hilt
      obtain ⟨e', c1, c2, c3⟩ := hE.get i _ hp
      rw [hi] at c1
      cases c1
      generalize hpe : Em[i] = p at *
      have O := ky_ord hky
      have hknd : KNd ρ := O.nd I.srt
      have hpm : p ∈ ρ := hEp.mem_iff.1 (List.mem_of_getElem? hp)
      have hmd := O.del_mem hknd (k := p.1) (v := p.2) hpm
      have hperm : (Em.eraseIdx i).Perm (mdel (eqT a) ρ p.1) := (((get_erase_perm Em i p hp).symm.trans hEp).trans hmd).cons_inv
      have hpw : (leftOf es seen).toList.Pairwise (fun x y => x.born ≠ y.born) := by rw [hLf]; exact I.stp.2.filter _
      have hnew : (es.toList.filter fun x => !(seen.push e.born).toList.contains x.born) = (leftOf es seen).toList.eraseIdx i := by
        rw [← filter_born _ i e hpw hi, hLf, List.filter_filter]
        refine List.filter_congr fun x _ => ?_
        rw [Array.toList_push]
        by_cases h1 : x.born = e.born <;> by_cases h2 : x.born ∈ seen.toList <;> simp [h1, h2] <;> simp_all
      have hrun' : (execOp ac.eval ⟨some d1, .next (.tmp it) false, t1, p1, a1, none⟩).run P w = .ok (.value (.tuple #[.bool true, e.key, e.val])) (Go.ChangeMaps.setBlock w1 r (.mapIter (some blk) since (seen.push e.born) clock)) := by
        simp only [execOp, hx, Sem.run_bind, hrun, Result.andThen_ok, Sem.run_pure]
      refine wp_val' hrun' (hK1 _ _ ?_)
      refine wpList_plain rfl fun K2 hK2 => ?_
      generalize hw' : Go.ChangeMaps.setBlock w1 r (.mapIter (some blk) since (seen.push e.born) clock) = w'
      have hrun2 : (execOp (ac.put (some d1) (.tuple #[.bool true, e.key, e.val])).eval ⟨some d2, .extract (.tmp d1) 0, t2, p2, a2, none⟩).run P w' = .ok (.value (.bool true)) w' := by
        simp [execOp, eval_put hz1, Instr.extract]
      refine wp_val' hrun2 (hK2 _ _ ?_)
      have hrw : r < w.heap.size := (Array.getElem?_eq_some_iff.1 q2).1
      have hh : w'.heap = w.heap.setIfInBounds r (.mapIter (some blk) since (seen.push e.born) clock) := by
        rw [← hw']; rcases hw1 with rfl | rfl <;> rfl
      have hos : w'.os = w.os ∧ w'.tape = w.tape ∧ w'.output = w.output := by
        rw [← hw']; rcases hw1 with rfl | rfl <;> exact ⟨rfl, rfl, rfl⟩
      have ho : ∀ j, j ≠ r → w'.heap[j]? = w.heap[j]? := fun j hj => by rw [hh, Array.getElem?_setIfInBounds, if_neg (fun e => hj e.symm)]
      have hr2 : w'.heap[r]? = some (.mapIter (some blk) since (seen.push e.born) clock) := by rw [hh, Array.getElem?_setIfInBounds, if_pos rfl, if_pos hrw]
      have hsz' : w'.heap.size = w.heap.size := by rw [hh]; simp
      have hkp : Kp ow w ow w' := ⟨by omega, fun _ _ h => h, fun j _ hj => ho j (fun e => by rw [e, how] at hj; cases hj)⟩
      have hkt : Kt w0 w w' := Kt.of_one ⟨hos.1, hos.2.1, hos.2.2, by omega, fun j hj => by omega⟩ hnw ho (B := 0)
      obtain ⟨g1, _, _, _⟩ := S.objs li _ hmi
      have S0 := S.set (l := li) (b := r) (o' := .cu (itC a b (mdel (eqT a) ρ p.1) (some p)) [.srf lg]) hmi rfl rfl (by rw [q1]; simp [blocksOf, blockOf]) ho hsz' hkt
        ⟨g1, [ghV blk es clock], RFL.mono hkp (fun j hj => ⟨al_set_mono (.inr rfl) j hj, rfl⟩) _ _ g20, r, blk, since, seen.push e.born, clock, es, clock, q1, rfl, hr2, {
          stp := I.stp
          lo := I.lo
          l0 := I.lo
          old := I.old
          left := ⟨Em.eraseIdx i, by rw [hnew]; exact EnL.mono hkp _ _ (hE.del i), hperm⟩
          srt := I.srt.sublist (mdel_sub _ _)
          cur := fun p0 hp0 => by
            cases hp0
            have hee : e ∈ es.toList := by
              have := he
              rw [hLf] at this
              exact (List.mem_filter.1 this).1
            exact ⟨e, hee, ⟨seen, rfl⟩, c2, R.mono hkp _ _ c3, rfl⟩ }⟩
      have S1 := S0.put (d := some d1) (fun k hk => by cases hk; exact hn1) (x := .dead) (v := .tuple #[.bool true, e.key, e.val]) (by simp only [RF])
      have S2 := S1.put (d := some d2) (fun k hk => by cases hk; exact hn2) (x := .d (.v (.bool true))) (v := .bool true) (by simp only [RF, R]; exact ⟨trivial, rfl⟩)
      exact wpList_nil (more p hmd _ _ hkt S2)
  · cases hops
end Go.Proofs.YtnkdanobhgofbaaGreatDoor.pv
namespace Go.Proofs.YtnkdanobhgofbaaGreatDoor.pv
set_option linter.all false
open Go.RowKit
theorem lom_repO_ne {l j : Nat} {x : XO} (h : j ≠ l) : ∀ m : List (Nat × XO), lom (repO m l x) j = lom m j
  | [] => rfl
  | (k, o) :: m => by
    show lom ((bif Nat.beq k l then (k, x) else (k, o)) :: repO m l x) j = _
    by_cases e : k = l
    · subst e
      rw [show Nat.beq k k = true by simp, cond_true, lom_cons, lom_cons, if_neg (Ne.symm h), if_neg (Ne.symm h)]
      exact lom_repO_ne h m
    · rw [show Nat.beq k l = false from beq_ff e, cond_false, lom_cons, lom_cons, lom_repO_ne h m]
theorem lom_repO_same {l : Nat} {x : XO} : ∀ m : List (Nat × XO), lom m l ≠ .free → lom (repO m l x) l = x
  | [], h => absurd rfl h
  | (k, o) :: m, h => by
    show lom ((bif Nat.beq k l then (k, x) else (k, o)) :: repO m l x) l = _
    rw [lom_cons] at h
    by_cases e : k = l
    · subst e
      rw [show Nat.beq k k = true by simp, cond_true, lom_cons, if_pos rfl]
    · rw [if_neg e] at h
      rw [show Nat.beq k l = false from beq_ff e, cond_false, lom_cons, if_neg e]
      exact lom_repO_same m h
/-- what a loop goes through -/
theorem lockOf_spec {m : List (Nat × XO)} {own : Bool} {l lg lq : Nat} {oq : XO} (h : lockOf m own l lg = some (lq, oq)) :
    (∃ (a b : Ty) (D : List (a.den × b.den)), lom m lq = .ex (.lk a b lg D) ∧ oq = .ob (.mp a b) D) ∨ (∃ (g : Nat) (a b : Ty) (i : Nat) (Ds : List (List (a.den × b.den))), lom m lq = .ex (.ah g a b i lg Ds) ∧ oq = .ob (.am g a b) Ds) := by
  unfold lockOf at h
  cases own with
  | true =>
    rw [cond_true] at h
    split at h
    · rename_i a b lg' D ho
      obtain ⟨h1, h2⟩ := cond_some h
      have e := Nat.eq_of_beq_eq_true h1
      subst e
      cases h2
      exact .inl ⟨a, b, D, ho, rfl⟩
    · cases h
  | false =>
    rw [cond_false] at h
    split at h
    · rename_i l' a b i lg' Ds hq
      obtain ⟨h1, h2⟩ := cond_some h
      have e := Nat.eq_of_beq_eq_true h1
      subst e
      cases h2
      exact .inr ⟨l, a, b, i, Ds, getA_spec hq, rfl⟩
    · cases h
theorem lockOf_lockd {m : List (Nat × XO)} {own : Bool} {l lg lq : Nat} {oq : XO} (h : lockOf m own l lg = some (lq, oq)) : ∃ e : EX, lom m lq = .ex e ∧ Lockd (absO (.ex e)) lg ∧ (∀ a b own l lg rest cur pl, e ≠ .it a b own l lg rest cur pl) ∧
    (∀ (n : Nat) (w0 : Cx) (st : PS) (ac : Act) (w : World) (ow : Ow) (hd : Nat → Value), SimW n w0 st ac w ow hd → st.m[lq]? = some (absO (.ex e)) → SimW n w0 ⟨st.f, st.m.set lq (absO oq)⟩ ac w ow hd) := by
  rcases lockOf_spec h with ⟨a, b, D, h1, rfl⟩ | ⟨g, a, b, i, Ds, h1, rfl⟩
  · refine ⟨_, h1, lockd_lk, (fun _ _ _ _ _ _ _ _ e => by cases e), fun n w0 st ac w ow hd S hm => ?_⟩
    obtain ⟨g1, vs, g2, blk, es, clock, q1, q2, q3, q4⟩ := S.objs lq _ hm
    exact S.set (l := lq) (b := blk) (o' := .cu (mpC a b D) []) hm rfl rfl (by rw [q1]; simp [blocksOf, blockOf]) (fun _ _ => rfl) rfl (Kt.refl _ _) ⟨g1, [], by simp [RFL], blk, q1, clock, es, q3, q4⟩
  · refine ⟨_, h1, lockd_ah, (fun _ _ _ _ _ _ _ _ e => by cases e), fun n w0 st ac w ow hd S hm => ?_⟩
    obtain ⟨g1, vs, g2, gI, blk, es, clock, q1, q2, q3⟩ := S.objs lq _ hm
    obtain ⟨bs, e1, e2, e3, e4, e5⟩ := gI
    exact S.set (l := lq) (b := blk) (o' := .cu (amC g a b Ds) []) hm rfl rfl (by rw [e4, bunH_blocks, ← e1]; exact List.mem_of_getElem? q1) (fun _ _ => rfl) rfl (Kt.refl _ _) ⟨g1, [], by simp [RFL], bs, e1, e2, e3, e4, e5⟩ (fun g' e => e)
/-- a state, told anew at a few places -/
theorem Sim4.at {N : Nat} {w0 : Cx} {st st' : XS} {a' : Act} {w' : World} {ps : PS} {d1 d2 : Nat} {bv : Bool} {m' : List PO} (A : Abs N st.f st.m ps) (hl : ps.m.length = st.n) (hn : st'.n = st.n) (hf : st'.f = (d2, ⟨.bl, bv⟩) :: (d1, dd) :: st.f) (h1 : d1 < N) (h2 : d2 < N)
    (hm : m'.length = ps.m.length) (hob : ∀ l, l < ps.m.length → m'[l]? = some (absO (lom st'.m l))) (hfr : ∀ l, st.n ≤ l → lom st'.m l = .free) {ow : Ow} {hd : Nat → Value} (hk : Keep w0 ow)
    (S : SimW N w0 ⟨putF (putF ps.f (some d1) .dead) (some d2) (.d (.v (.bool bv))), m'⟩ a' w' ow hd) : Sim4 N w0 st' a' w' := by
  refine ⟨_, ⟨?_, fun i => ?_, fun l hl' => ?_, fun l hl' => ?_⟩, ?_, ow, hd, hk, S⟩
  · show N ≤ (putF (putF ps.f (some d1) .dead) (some d2) (.d (.v (.bool bv)))).length
    simp only [putF, List.length_set]; exact A.fl
  · rw [hf]
    show Le _ ((putF (putF ps.f (some d1) .dead) (some d2) (.d (.v (.bool bv)))).getD i .dead)
    rw [look_cons, look_cons]
    have hN := A.fl
    by_cases e2 : d2 = i
    · subst e2
      rw [if_pos rfl]
      right
      simp only [putF]
      rw [List.getD_eq_getElem?_getD, List.getElem?_set_self (by rw [List.length_set]; omega)]; rfl
    · rw [if_neg e2]
      by_cases e1 : d1 = i
      · subst e1
        rw [if_pos rfl]; exact .inl rfl
      · rw [if_neg e1]
        have := A.sl i
        simp only [putF]
        rw [List.getD_eq_getElem?_getD, List.getElem?_set_ne e2, List.getElem?_set_ne e1, ← List.getD_eq_getElem?_getD]
        exact this
  · exact hob l (by rw [← hm]; exact hl')
  · exact hfr l (by rw [← hl, ← hm]; exact hl')
  · show m'.length = st'.n
    rw [hm, hl, hn]
end Go.Proofs.YtnkdanobhgofbaaGreatDoor.pv
