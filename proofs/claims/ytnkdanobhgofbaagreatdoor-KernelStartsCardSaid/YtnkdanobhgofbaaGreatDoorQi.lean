/- A region, run in text order, is what the machine does in whatever order. -/
import Derived.Test.YtnkdanobhgofbaaGreatDoorQh
namespace Go.Proofs.YtnkdanobhgofbaaGreatDoor.pv
set_option linter.all false
open Go.RowKit

section
variable {P : Program} {T : List TI} {ops : Array Oper} {base : Nat} {n : Nat} {w0 : Cx} {st : PS} {a : Act} {w : World}

theorem R_tup_nil {ow : Ow} {w : World} {u : Value} (h : R ow w (.tup []) u) : u = undef := by
  simp only [R] at h
  obtain ⟨vs, rfl, h⟩ := h
  simp only [RT] at h
  subst h; rfl
theorem wanted_of (S : Sim n w0 st a w) {o : Oper} {b : Bool} (h : wantedP ops st.f o = some b) : Region.wanted o (yielded ops a.tmps) = b := by
  obtain ⟨ow, hd, _, S⟩ := S
  unfold wantedP at h
  unfold Region.wanted
  cases hg : o.guard with
  | none => rw [hg] at h; simp at h; rw [← h]
  | some p =>
    obtain ⟨j, want⟩ := p
    rw [hg] at h
    simp only at h ⊢
    cases hd' : (ops[j]?).bind (·.dst) with
    | none => rw [hd'] at h; simp at h
    | some d =>
      rw [hd'] at h
      simp only at h
      have hs := S.slots d
      unfold yielded
      rw [hd']
      simp only [Option.bind_some]
      split at h
      · rename_i b' hb'
        rw [hb'] at hs
        simp only [RF, R] at hs
        have hs1 := hs.1
        rw [Array.getD_eq_getD_getElem?] at hs1
        cases ht : a.tmps[d]? with
        | none => rw [ht] at hs1; simp [undef] at hs1
        | some v =>
          rw [ht] at hs1
          simp at hs1
          subst hs1
          simp at h
          simp [← h]
      · rename_i hb'
        rw [hb'] at hs
        have hs1 := R_tup_nil (by simpa only [RF] using hs)
        rw [Array.getD_eq_getD_getElem?] at hs1
        simp at h
        cases ht : a.tmps[d]? with
        | none => simp [← h]
        | some v =>
          rw [ht] at hs1
          simp at hs1
          subst hs1
          simp [← h, undef]
      · cases h
theorem Sim.undef (S : Sim n w0 st a w) {d : Option Nat} (hn : ∀ k, d = some k → k < n) : Sim n w0 (st.act d fundef []) (a.put d undef) w := by
  obtain ⟨ow, hd, h, S⟩ := S
  exact ⟨ow, hd, h, S.put hn (x := fundef) (by simp only [fundef, RF, R]; exact ⟨[], rfl, by simp [RT]⟩)⟩
def dstOk (n : Nat) (ops : Array Oper) : Bool := ops.toList.all fun o => match o.dst with
  | some d => Nat.blt d n
  | none => true
theorem dstOk_spec (h : dstOk n ops = true) {i : Nat} {o : Oper} (ho : ops[i]? = some o) : ∀ k, o.dst = some k → k < n := by
  intro k hk
  have := List.all_eq_true.1 h o (by simpa using Array.mem_of_getElem? ho)
  rw [hk] at this
  exact Nat.lt_of_lt_of_eq (Nat.le_of_ble_eq_true this) rfl
/-- one step -/
theorem step_wp (hT : TOk P T) (hd : dstOk n ops = true) (S : Sim n w0 st a w) {x : Fp} {st1 : PS} (h : PStep P T ops base st x st1) {K : Act → World → Prop} {Q : Exit → Act → World → Prop}
    (hK : ∀ a' w', Sim n w0 st1 a' w' → K a' w') : wpOp P ops Q x.i K a w := by
  unfold wpOp
  cases h with
  | act i o r U F h1 h2 h3 =>
    simp only [h1]
    rw [if_pos (wanted_of S h2)]
    exact .inl (act_wp hT S (dstOk_spec hd h1) h3 hK)
  | ld i o r t x l off cs h1 h2 h3 h4 h5 h6 h7 =>
    simp only [h1]
    rw [if_pos (wanted_of S h2)]
    exact .inl (act_wp (nl := 0) hT S (dstOk_spec hd h1) (.base (by rw [h3]; exact .loadS t x l off cs r h4 h5 h6 h7)) hK)
  | pass i o h1 h2 =>
    simp only [h1]
    rw [if_neg (by rw [wanted_of S h2]; simp)]
    exact hK _ _ (S.undef (dstOk_spec hd h1))
theorem run_ops (hT : TOk P T) (hd : dstOk n ops = true) {Q : Exit → Act → World → Prop} {st2 : PS} (hQ : ∀ a' w', Sim n w0 st2 a' w' → Q .normal a' w') :
    ∀ {L : List Fp} {st : PS} {a : Act} {w : World}, Sim n w0 st a w → PRun P T ops base st L st2 → wpOps P ops Q (L.map (·.i)) a w
  | [], st, a, w, S, h => by cases h; exact hQ _ _ S
  | x :: L, st, a, w, S, h => by
    cases h with
    | cons h1 h2 =>
      rw [List.map_cons, wpOps_cons]
      exact step_wp hT hd S h1 fun a' w' S' => run_ops hT hd hQ S' h2

/-- j must come before i: by an edge, or by edges -/
def dir (ops : Array Oper) (j i : Nat) : Bool := match ops[i]? with
  | some o => o.after.toList.any fun e => Region.binds .any e && Nat.beq e.on j
  | none => false
def pre (ops : Array Oper) : Nat → Nat → Nat → Bool
  | 0, j, i => dir ops j i
  | k + 1, j, i => dir ops j i || (match ops[i]? with
    | some o => o.after.toList.any fun e => Region.binds .any e && pre ops k j e.on
    | none => false)
def edgesOk (ops : Array Oper) : Bool := (List.range ops.size).all fun i => match ops[i]? with
  | some o => o.after.toList.all fun e => !Region.binds .any e || Nat.blt e.on i
  | none => true
noncomputable def pairs (ops : Array Oper) : List Fp → Bool
  | [] => true
  | x :: r => (r.all fun y => indep ops x y || pre ops 8 x.i y.i) && pairs ops r

theorem ready_spec {listed : Array Bool} {i : Nat} (h : i ∈ Region.ready .any ops listed) : i < ops.size ∧ listed.getD i true = false ∧ ∀ j, dir ops j i = true → listed.getD j false = true := by
  unfold Region.ready at h
  rw [List.mem_filter, List.mem_range] at h
  obtain ⟨h1, h2⟩ := h
  simp only [Bool.and_eq_true, Bool.not_eq_true'] at h2
  refine ⟨h1, h2.1, fun j hj => ?_⟩
  unfold dir at hj
  cases ho : ops[i]? with
  | none => rw [ho] at hj; cases hj
  | some o =>
    rw [ho] at hj h2
    obtain ⟨e, he, hb⟩ := List.any_eq_true.1 hj
    simp only [Bool.and_eq_true] at hb
    have h3 := h2.2
    simp only [Option.map_some, Option.getD_some] at h3
    have := Array.all_eq_true_iff_forall_mem.1 h3 e (by simpa using he)
    simp only [Bool.or_eq_true, Bool.not_eq_true'] at this
    rcases this with this | this
    · rw [hb.1] at this; cases this
    · rw [← Nat.eq_of_beq_eq_true hb.2]; exact this
theorem pre_listed {listed : Array Bool} (hc : ∀ k j, listed.getD k false = true → dir ops j k = true → listed.getD j false = true) : ∀ (k j i : Nat), pre ops k j i = true → (∀ j, dir ops j i = true → listed.getD j false = true) → listed.getD j false = true
  | 0, j, i, h, hi => hi j h
  | k + 1, j, i, h, hi => by
    simp only [pre, Bool.or_eq_true] at h
    rcases h with h | h
    · exact hi j h
    · cases ho : ops[i]? with
      | none => rw [ho] at h; cases h
      | some o =>
        rw [ho] at h
        obtain ⟨e, he, hb⟩ := List.any_eq_true.1 h
        simp only [Bool.and_eq_true] at hb
        have hd : dir ops e.on i = true := by
          unfold dir
          rw [ho]
          exact List.any_eq_true.2 ⟨e, he, by simp [hb.1]⟩
        have hl := hi _ hd
        exact pre_listed hc k j e.on hb.2 fun j' hj' => hc _ _ hl hj'
theorem pairs_sub : ∀ {A B : List Fp} {x : Fp}, pairs ops (A ++ x :: B) = true → pairs ops (A ++ B) = true ∧ ∀ y ∈ A, indep ops y x = true ∨ pre ops 8 y.i x.i = true
  | [], B, x, h => by
    simp only [List.nil_append, pairs, Bool.and_eq_true] at h ⊢
    exact ⟨h.2, by simp⟩
  | y :: A, B, x, h => by
    simp only [List.cons_append, pairs, Bool.and_eq_true] at h ⊢
    obtain ⟨h1, h2⟩ := pairs_sub h.2
    have h3 := h.1
    rw [List.all_append, List.all_cons] at h3
    simp only [Bool.and_eq_true] at h3
    refine ⟨⟨by rw [List.all_append]; simp only [Bool.and_eq_true]; exact ⟨h3.1, h3.2.2⟩, h1⟩, fun z hz => ?_⟩
    simp only [List.mem_cons] at hz
    rcases hz with rfl | hz
    · simpa [Bool.or_eq_true] using h3.2.1
    · exact h2 z hz
theorem getD_set_b (listed : Array Bool) (i k : Nat) (b d : Bool) : (listed.setIfInBounds i b).getD k d = if k = i ∧ i < listed.size then b else listed.getD k d := by
  simp only [Array.getD_eq_getD_getElem?, Array.getElem?_setIfInBounds]
  by_cases e : i = k
  · subst e
    by_cases h : i < listed.size
    · simp [h]
    · simp [h]
  · rw [if_neg (by omega), if_neg (by omega)]
theorem run_any (hT : TOk P T) (hd : dstOk n ops = true) (he : edgesOk ops = true) {Q : Exit → Act → World → Prop} {st2 : PS} (hQ : ∀ a' w', Sim n w0 st2 a' w' → Q .normal a' w') :
    ∀ (fuel : Nat) {L : List Fp} {st : PS} {a : Act} {w : World} {listed : Array Bool}, L.length = fuel → Sim n w0 st a w → PRun P T ops base st L st2 → pairs ops L = true → listed.size = ops.size →
      (∀ i, (∃ x ∈ L, x.i = i) ↔ (i < ops.size ∧ listed.getD i true = false)) → (L.map (·.i)).Pairwise (· < ·) →
      (∀ k j, listed.getD k false = true → dir ops j k = true → listed.getD j false = true) → wpAny P .any ops Q fuel listed a w := by
  intro fuel
  have edge : ∀ {i j : Nat}, dir ops j i = true → j < i ∧ i < ops.size := by
    intro i j h
    unfold dir at h
    cases ho : ops[i]? with
    | none => rw [ho] at h; cases h
    | some o =>
      rw [ho] at h
      have hi : i < ops.size := (Array.getElem?_eq_some_iff.1 ho).1
      obtain ⟨e, he', hb⟩ := List.any_eq_true.1 h
      simp only [Bool.and_eq_true] at hb
      have := List.all_eq_true.1 he i (by simpa using hi)
      rw [ho] at this
      have := List.all_eq_true.1 this e he'
      rw [hb.1] at this
      simp only [Bool.not_true, Bool.false_or] at this
      have h2 : e.on < i := Nat.le_of_ble_eq_true this
      rw [Nat.eq_of_beq_eq_true hb.2] at h2
      exact ⟨h2, hi⟩
  have stuck : ∀ {L : List Fp} {listed : Array Bool}, listed.size = ops.size → (∀ i, (∃ x ∈ L, x.i = i) ↔ (i < ops.size ∧ listed.getD i true = false)) → (L.map (·.i)).Pairwise (· < ·) → Region.ready .any ops listed = [] → L = [] := by
    intro L listed hsz hL hp hr
    cases L with
    | nil => rfl
    | cons x L =>
      exfalso
      obtain ⟨h1, h2⟩ := (hL x.i).1 ⟨x, by simp, rfl⟩
      have : x.i ∈ Region.ready .any ops listed := by
        unfold Region.ready
        rw [List.mem_filter, List.mem_range]
        refine ⟨h1, ?_⟩
        rw [h2]
        simp only [Bool.not_false, Bool.true_and]
        have ho := Array.getElem?_eq_getElem h1
        rw [ho]
        simp only [Option.map_some, Option.getD_some]
        rw [Array.all_eq_true_iff_forall_mem]
        intro e hem
        cases hb : Region.binds .any e with
        | false => simp
        | true =>
          have hdir : dir ops e.on x.i = true := by
            unfold dir
            rw [ho]
            exact List.any_eq_true.2 ⟨e, by simpa using hem, by simp [hb]⟩
          have hlt := (edge hdir).1
          have hnot : ¬ ∃ y ∈ x :: L, y.i = e.on := by
            rintro ⟨y, hy, hye⟩
            simp only [List.mem_cons] at hy
            rcases hy with rfl | hy
            · omega
            · rw [List.map_cons, List.pairwise_cons] at hp
              have := hp.1 y.i (List.mem_map_of_mem (f := (·.i)) hy)
              omega
          have hl := fun h => hnot ((hL e.on).2 h)
          have : listed.getD e.on true = true := by
            cases hx : listed.getD e.on true with
            | true => rfl
            | false => exact absurd ⟨by omega, hx⟩ hl
          have hin : e.on < listed.size := by omega
          simp only [Array.getD_eq_getD_getElem?, Array.getElem?_eq_getElem hin, Option.getD_some] at this ⊢
          simp [this]
      rw [hr] at this
      simp at this
  induction fuel with
  | zero =>
    intro L st a w listed hlen S h hpairs hsz hL hp hc
    have : L = [] := List.eq_nil_of_length_eq_zero hlen
    subst this
    cases h
    refine ⟨?_, hQ _ _ S⟩
    cases hr : Region.ready .any ops listed with
    | nil => rfl
    | cons i r =>
      have := ready_spec (ops := ops) (listed := listed) (i := i) (by rw [hr]; simp)
      have := (hL i).2 ⟨this.1, this.2.1⟩
      simp at this
  | succ fuel ih =>
    intro L st a w listed hlen S h hpairs hsz hL hp hc
    refine ⟨fun hr => ?_, fun i hi => ?_⟩
    · rw [stuck hsz hL hp hr] at hlen; simp at hlen
    · obtain ⟨r1, r2, r3⟩ := ready_spec hi
      obtain ⟨x, hx, rfl⟩ := (hL i).2 ⟨r1, r2⟩
      obtain ⟨A, B, rfl⟩ := List.append_of_mem hx
      obtain ⟨p1, p2⟩ := pairs_sub hpairs
      have hind : ∀ y ∈ A, indep ops y x = true := by
        intro y hy
        rcases p2 y hy with h' | h'
        · exact h'
        · exfalso
          have hl := pre_listed hc 8 y.i x.i h' r3
          obtain ⟨q1, q2⟩ := (hL y.i).1 ⟨y, by simp [hy], rfl⟩
          have hin : y.i < listed.size := by omega
          simp only [Array.getD_eq_getD_getElem?, Array.getElem?_eq_getElem hin, Option.getD_some] at hl q2
          rw [hl] at q2; cases q2
      obtain ⟨st1, h1, h2⟩ := h.front hind
      refine step_wp hT hd S h1 fun a' w' S' => ?_
      rw [List.map_append, List.map_cons, List.pairwise_append, List.pairwise_cons] at hp
      refine ih (by simp at hlen ⊢; omega) S' h2 p1 (by simpa using hsz) (fun k => ?_) ?_ ?_
      · rw [getD_set_b]
        have hk := hL k
        by_cases e : k = x.i
        · subst e
          rw [if_pos ⟨rfl, by omega⟩]
          simp only [Bool.true_eq_false, and_false, iff_false]
          rintro ⟨y, hy, hye⟩
          rw [List.mem_append] at hy
          rcases hy with hy | hy
          · have := hp.2.2 y.i (List.mem_map_of_mem (f := (·.i)) hy) x.i (by simp)
            omega
          · have := hp.2.1.1 y.i (List.mem_map_of_mem (f := (·.i)) hy)
            omega
        · rw [if_neg (fun h => e h.1), ← hk]
          constructor
          · rintro ⟨y, hy, hye⟩
            exact ⟨y, by rw [List.mem_append] at hy ⊢; rcases hy with hy | hy <;> simp [hy], hye⟩
          · rintro ⟨y, hy, hye⟩
            refine ⟨y, ?_, hye⟩
            rw [List.mem_append, List.mem_cons] at hy
            rw [List.mem_append]
            rcases hy with hy | rfl | hy
            · exact .inl hy
            · exact absurd hye.symm e
            · exact .inr hy
      · rw [List.map_append, List.pairwise_append]
        exact ⟨hp.1, hp.2.1.2, fun p hp' q hq => hp.2.2 p hp' q (by simp [hq])⟩
      · intro k j hk hj
        rw [getD_set_b] at hk ⊢
        by_cases ej : j = x.i
        · rw [if_pos ⟨ej, by omega⟩]
        · rw [if_neg (fun h => ej h.1)]
          by_cases ek : k = x.i
          · subst ek; exact r3 j hj
          · rw [if_neg (fun h => ek h.1)] at hk
            exact hc k j hk hj
/-- A REGION -/
theorem region_wp (hT : TOk P T) (hd : dstOk n ops = true) {id : Nat} {draw : Bool} (S : Sim n w0 st a w) {L : List Fp} {st2 : PS} (h : PRun P T ops st.m.length ⟨st.f, st.m ++ List.replicate (16 * ops.size) .free⟩ L st2)
    (hL : L.map (·.i) = List.range ops.size) (hdr : draw = true → P.follows .mixedOrders = true ∧ edgesOk ops = true ∧ pairs ops L = true) {Q : Exit → Act → World → Prop} (hQ : ∀ a' w', Sim n w0 st2 a' w' → Q .normal a' w') :
    (Code.region id ops draw).wp P Q a w := by
  have S1 : Sim n w0 ⟨st.f, st.m ++ List.replicate (16 * ops.size) .free⟩ a w := by
    obtain ⟨ow, hd, h, S⟩ := S
    exact ⟨ow, hd, h, S.room _⟩
  cases draw with
  | false =>
    refine wp_region ?_
    rw [← hL]
    exact run_ops hT hd hQ S1 h
  | true =>
    obtain ⟨m1, m2, m3⟩ := hdr rfl
    refine wp_region_any m1 ?_
    have hlen : L.length = ops.size := by have := congrArg List.length hL; simpa using this
    refine run_any hT hd m2 hQ _ hlen S1.drew h m3 (by simp) (fun i => ?_) (by rw [hL]; exact List.pairwise_lt_range) (fun k j hk hj => ?_)
    · constructor
      · rintro ⟨x, hx, rfl⟩
        have : x.i ∈ List.range ops.size := by rw [← hL]; exact List.mem_map_of_mem (f := (·.i)) hx
        rw [List.mem_range] at this
        exact ⟨this, by simp [Array.getD_eq_getD_getElem?, this]⟩
      · rintro ⟨hi, _⟩
        have : i ∈ L.map (·.i) := by rw [hL, List.mem_range]; exact hi
        obtain ⟨x, hx, e⟩ := List.mem_map.1 this
        exact ⟨x, hx, e⟩
    · exfalso
      simp only [Array.getD_eq_getD_getElem?, Array.getElem?_replicate] at hk
      split at hk <;> simp at hk
end
end Go.Proofs.YtnkdanobhgofbaaGreatDoor.pv
