/- The machine of configurations: what is left to do, by frames; a run of so many steps by hints; from there to a contract. -/
import Derived.Test.YtccmjndnjpjohaaRQm
import Derived.LoopN
namespace Go.Proofs.YtccmjndnjpjohaaR.pv
set_option linter.all false
open Go.RowKit

inductive Fr where
  | s (c : Code)
  | b (id : Nat)
  | l (j : Nat) (c : Code)
section
variable (P : Program) (n : Nat) (Fin : Ex → PS → Prop)
/-- what is left to do comes to an end that is as Fin says -/
def RunE : List Fr → Ex → PS → Prop
  | [], ex, st => Fin ex st
  | .s c :: ks, ex, st => match ex with
    | .normal => Tri P n c st (fun ex st' => RunE ks ex st')
    | e => RunE ks e st
  | .b id :: ks, ex, st => match ex with
    | .exit j => RunE ks (bif Nat.beq j id then .normal else .exit j) st
    | e => RunE ks e st
  | .l j c :: ks, ex, st => match ex with
    | .normal => ∀ (w0 : World) (ow0 : Nat → Bool) (a : Act) (w : World), Sim n w0 ow0 st a w → Code.rounds P c (fun e a' w' => ∃ ex st', e = Ex.exit' ex ∧ RunE ks ex st' ∧ Sim n w0 ow0 st' a' w') j a w
    | e => RunE ks e st
end
structure Cf where
  ks : List Fr
  ex : Ex
  st : PS
structure SO where
  cf : Cf
  ob : List Prop
  hs : List Hn
def pcode (P : Program) (T : List TI) (ks : List Fr) (st : PS) (hs : List Hn) : Code → Option SO
  | .skip => some ⟨⟨ks, .normal, st⟩, [], hs⟩
  | .label _ => some ⟨⟨ks, .normal, st⟩, [], hs⟩
  | .region _ ops draw => (match pregion P T ops draw st hs with
    | some y => some ⟨⟨ks, .normal, y.st⟩, y.ob, y.hs⟩
    | none => none)
  | .seq a b => some ⟨⟨.s a :: .s b :: ks, .normal, st⟩, [], hs⟩
  | .cond c a b => (match c with
    | .tmp d => (match st.f[d]? with
      | some (.d (.v (.bool v))) => (match hs with
        | .t br :: hs => some ⟨⟨.s (bif br then a else b) :: ks, .normal, ⟨st.f.set d (.d (.v (.bool br))), st.m⟩⟩, [v = br], hs⟩
        | .c :: hs => some ⟨⟨.s (bif v then a else b) :: ks, .normal, st⟩, [], hs⟩
        | _ => none)
      | _ => none)
    | _ => none)
  | .block id a => some ⟨⟨.s a :: .b id :: ks, .normal, st⟩, [], hs⟩
  | .exit id => some ⟨⟨ks, .exit id, st⟩, [], hs⟩
  | .ret => some ⟨⟨ks, .ret, st⟩, [], hs⟩
  | .loop a => (match hs with
    | .n j :: hs => some ⟨⟨.l j a :: ks, .normal, st⟩, [], hs⟩
    | _ => none)
  | _ => none
def pstep (P : Program) (T : List TI) (cf : Cf) (hs : List Hn) : Option SO :=
  match cf with
  | ⟨[], _, _⟩ => none
  | ⟨.s c :: ks, ex, st⟩ => (match ex with
    | .normal => pcode P T ks st hs c
    | e => some ⟨⟨ks, e, st⟩, [], hs⟩)
  | ⟨.b id :: ks, ex, st⟩ => (match ex with
    | .exit j => some ⟨⟨ks, bif Nat.beq j id then .normal else .exit j, st⟩, [], hs⟩
    | e => some ⟨⟨ks, e, st⟩, [], hs⟩)
  | ⟨.l j c :: ks, ex, st⟩ => (match ex with
    | .normal => (match j with
      | 0 => none
      | j + 1 => some ⟨⟨.s c :: .l j c :: ks, .normal, st⟩, [], hs⟩)
    | e => some ⟨⟨ks, e, st⟩, [], hs⟩)
def pk (P : Program) (T : List TI) : Nat → Cf → List Hn → Option (Cf × List Prop)
  | 0, cf, hs => (match hs with
    | [] => some (cf, [])
    | _ => none)
  | k + 1, cf, hs => (match pstep P T cf hs with
    | some ⟨cf, ob, hs⟩ => (match pk P T k cf hs with
      | some (c, ob') => some (c, ob ++ ob')
      | none => none)
    | none => none)
section
variable {P : Program} {T : List TI} {n : Nat} {Fin : Ex → PS → Prop}
theorem Tri.ext {c c' : Code} {st : PS} {Q : Ex → PS → Prop} (h : ∀ (Q : Exit → Act → World → Prop) a w, c.wp P Q a w → c'.wp P Q a w) (t : Tri P n c st Q) : Tri P n c' st Q :=
  fun w0 ow0 a w S => h _ _ _ (t w0 ow0 a w S)
theorem pcode_sound (hT : TOk P T) (hm : P.follows .mixedOrders = true) {ks : List Fr} {st : PS} {hs : List Hn} {c : Code} {y : SO} (h : pcode P T ks st hs c = some y) (hn : st.f.length = n) (hob : AllP y.ob)
    (k : y.cf.st.f.length = n → RunE P n Fin y.cf.ks y.cf.ex y.cf.st) : Tri P n c st (fun ex st' => RunE P n Fin ks ex st') := by
  cases c with
  | skip =>
    simp [pcode] at h; subst h
    exact fun w0 ow0 a w S => wp_skip ⟨.normal, st, rfl, k hn, S⟩
  | label l =>
    simp [pcode] at h; subst h
    exact fun w0 ow0 a w S => wp_label ⟨.normal, st, rfl, k hn, S⟩
  | exit id =>
    simp [pcode] at h; subst h
    exact fun w0 ow0 a w S => wp_exit ⟨.exit id, st, rfl, k hn, S⟩
  | ret =>
    simp [pcode] at h; subst h
    exact fun w0 ow0 a w S => wp_ret ⟨.ret, st, rfl, k hn, S⟩
  | region id ops draw =>
    simp only [pcode] at h
    split at h
    · rename_i z hz
      simp at h; subst h
      have hr := peval_sound (n := n) hT hm (.region id ops draw) st hs z (by simpa only [peval] using hz) hn hob
      refine hr.2.mono ?_
      rintro ex st' ⟨rfl, rfl⟩
      have : z.ex = .normal := by
        unfold pregion at hz
        split at hz
        · obtain ⟨_, hz⟩ := cond_some hz
          simp at hz; rw [← hz]
        · cases hz
      rw [this]
      exact k hr.1
    · cases h
  | seq a b =>
    simp [pcode] at h; subst h
    refine Tri.seq ((k hn).mono ?_)
    intro ex st' h
    cases ex with
    | normal => exact h
    | exit id => exact h
    | ret => exact h
  | cond c a b =>
    simp only [pcode] at h
    split at h
    · rename_i d
      split at h
      · rename_i v hv
        split at h
        · rename_i br hs1
          simp at h; subst h
          obtain ⟨o1, _⟩ := hob
          subst o1
          have k := k (by simpa using hn)
          rw [set_self hv] at k
          refine Tri.cond hv ?_
          cases v <;> exact k
        · simp at h; subst h
          refine Tri.cond hv ?_
          cases v <;> exact k hn
        · cases h
      · cases h
    · cases h
  | block id a =>
    simp [pcode] at h; subst h
    refine Tri.block ((k hn).mono ?_)
    intro ex st' h
    cases ex with
    | normal => exact h
    | exit j =>
      have h : RunE P n Fin ks (bif Nat.beq j id then .normal else .exit j) st' := h
      by_cases e : j = id
      · subst e; simpa using h
      · have e' : Nat.beq j id = false := by rw [← Bool.not_eq_true]; intro h; exact e (beq_eq h)
        rw [e'] at h
        simpa [e] using h
    | ret => exact h
  | loop a =>
    simp only [pcode] at h
    split at h
    · rename_i j hs1
      simp at h; subst h
      exact fun w0 ow0 a w S => wp_loop_rounds j (k hn w0 ow0 a w S)
    · cases h
  | _ => simp [pcode] at h
theorem pstep_sound (hT : TOk P T) (hm : P.follows .mixedOrders = true) {cf : Cf} {hs : List Hn} {y : SO} (h : pstep P T cf hs = some y) (hn : cf.st.f.length = n) (hob : AllP y.ob)
    (k : y.cf.st.f.length = n → RunE P n Fin y.cf.ks y.cf.ex y.cf.st) : RunE P n Fin cf.ks cf.ex cf.st := by
  obtain ⟨ks, ex, st⟩ := cf
  cases ks with
  | nil => simp [pstep] at h
  | cons fr ks =>
    cases fr with
    | s c =>
      cases ex with
      | normal => exact pcode_sound hT hm h hn hob k
      | exit id => simp [pstep] at h; subst h; exact k hn
      | ret => simp [pstep] at h; subst h; exact k hn
    | b id =>
      cases ex with
      | normal => simp [pstep] at h; subst h; exact k hn
      | exit id => simp [pstep] at h; subst h; exact k hn
      | ret => simp [pstep] at h; subst h; exact k hn
    | l j c =>
      cases ex with
      | normal =>
        cases j with
        | zero => simp [pstep] at h
        | succ j =>
          simp [pstep] at h; subst h
          intro w0 ow0 a w S
          rw [rounds_succ]
          refine wp_mono (k hn w0 ow0 a w S) ?_
          rintro e a' w' ⟨ex, st', rfl, h, S'⟩
          cases ex with
          | normal => exact h w0 ow0 a' w' S'
          | exit id => exact ⟨.exit id, st', rfl, h, S'⟩
          | ret => exact ⟨.ret, st', rfl, h, S'⟩
      | exit id => simp [pstep] at h; subst h; exact k hn
      | ret => simp [pstep] at h; subst h; exact k hn
theorem pk_sound (hT : TOk P T) (hm : P.follows .mixedOrders = true) : ∀ (k : Nat) {cf cf' : Cf} {hs : List Hn} {ob : List Prop}, pk P T k cf hs = some (cf', ob) → cf.st.f.length = n → AllP ob →
    (cf'.st.f.length = n → RunE P n Fin cf'.ks cf'.ex cf'.st) → RunE P n Fin cf.ks cf.ex cf.st
  | 0, cf, cf', hs, ob, h, hn, hob, q => by
    simp only [pk] at h
    split at h
    · simp at h; obtain ⟨rfl, rfl⟩ := h; exact q hn
    · cases h
  | k + 1, cf, cf', hs, ob, h, hn, hob, q => by
    simp only [pk] at h
    split at h
    · rename_i c1 ob1 hs1 h1
      split at h
      · rename_i c2 ob2 h2
        simp at h; obtain ⟨rfl, rfl⟩ := h
        obtain ⟨o1, o2⟩ := AllP.app hob
        exact pstep_sound hT hm h1 hn o1 fun hn => pk_sound hT hm k h2 hn o2 q
      · cases h
    · cases h
/-- what may be forgotten -/
def KC (n : Nat) (Fin : Ex → PS → Prop) : Prop := ∀ (ex : Ex) (st st' : PS), (∀ (w0 : World) (ow0 : Nat → Bool) (a : Act) (w : World), Sim n w0 ow0 st a w → Sim n w0 ow0 st' a w) → Fin ex st' → Fin ex st
theorem run_weak (hF : KC n Fin) {st st' : PS} (hw : ∀ (w0 : World) (ow0 : Nat → Bool) (a : Act) (w : World), Sim n w0 ow0 st a w → Sim n w0 ow0 st' a w) : ∀ (ks : List Fr) (ex : Ex), RunE P n Fin ks ex st' → RunE P n Fin ks ex st
  | [], ex, h => hF ex st st' hw h
  | .s c :: ks, ex, h => by
    cases ex with
    | normal => exact fun w0 ow0 a w S => h w0 ow0 a w (hw _ _ _ _ S)
    | exit id => exact run_weak hF hw ks _ h
    | ret => exact run_weak hF hw ks _ h
  | .b id :: ks, ex, h => by
    cases ex with
    | normal => exact run_weak hF hw ks _ h
    | exit id => exact run_weak hF hw ks _ h
    | ret => exact run_weak hF hw ks _ h
  | .l j c :: ks, ex, h => by
    cases ex with
    | normal => exact fun w0 ow0 a w S => h w0 ow0 a w (hw _ _ _ _ S)
    | exit id => exact run_weak hF hw ks _ h
    | ret => exact run_weak hF hw ks _ h
/-- a nil slice as an empty row of one's own -/
def thaw1 (st : PS) (i e s : Nat) : Option PS := match st.f[i]? with
  | some (.d (.v (.slice none 0 0))) => some ⟨st.f.set i (.srf st.m.length), st.m ++ [.row e s []]⟩
  | _ => none
def thaws (st : PS) : List (Nat × Nat × Nat) → Option PS
  | [] => some st
  | (i, e, s) :: r => match thaw1 st i e s with
    | some st => thaws st r
    | none => none
theorem Sim.thaw1 {w0 : World} {ow0 : Nat → Bool} {st st' : PS} {a : Act} {w : World} {i e s : Nat} (S : Sim n w0 ow0 st a w) (h : pv.thaw1 st i e s = some st') : Sim n w0 ow0 st' a w := by
  unfold pv.thaw1 at h
  split at h
  · rename_i hi
    simp at h; subst h
    obtain ⟨ow, hd, hold, S⟩ := S
    have ha : ∀ j, al st.m j = true → al (st.m ++ [.row e s []]) j = true ∧ upd hd st.m.length (.slice none 0 0) j = hd j := by
      intro j hj
      have hlt : j < st.m.length := by
        unfold al at hj
        rcases Nat.lt_or_ge j st.m.length with h' | h'
        · exact h'
        · rw [List.getElem?_eq_none h'] at hj; cases hj
      refine ⟨?_, upd_ne _ _ (by omega)⟩
      unfold al at hj ⊢
      rw [List.getElem?_append_left hlt]; exact hj
    have back : ∀ {j : Nat} {oj : PO}, (st.m ++ [PO.row e s []])[j]? = some oj → (j < st.m.length ∧ st.m[j]? = some oj) ∨ (j = st.m.length ∧ oj = .row e s []) := by
      intro j oj hj
      rw [List.getElem?_append] at hj
      split at hj
      · exact .inl ⟨‹_›, hj⟩
      · right
        rename_i hge
        cases hk : j - st.m.length with
        | zero => rw [hk] at hj; simp at hj; exact ⟨by omega, hj.symm⟩
        | succ k => rw [hk] at hj; simp at hj
    have hal : al (st.m ++ [PO.row e s []]) st.m.length = true := by simp [al, PO.made]
    refine ⟨ow, upd hd st.m.length (.slice none 0 0), hold, { below := S.below, fresh := S.fresh, objs := fun j oj hj => ?_, dist := ?_, defers := S.defers, size := S.size, slots := fun k => ?_ }⟩
    · rcases back hj with ⟨hlt, hj⟩ | ⟨rfl, rfl⟩
      · rw [upd_ne _ _ (by omega)]
        exact (S.objs j oj hj).kp (Kp.refl _ _) ha fun b _ _ => ⟨rfl, rfl⟩
      · rw [upd_same]
        exact ⟨[], World.ownsRow_nil _ _ _ _, fun b hb => by simp [blockOf] at hb, by simp [RE]⟩
    · intro j j' oj oj' b hne hj hj' hl hl' hb hb'
      rcases back hj with ⟨hlt, hj⟩ | ⟨rfl, rfl⟩
      · rw [upd_ne _ _ (by omega)] at hb
        rcases back hj' with ⟨hlt', hj'⟩ | ⟨rfl, rfl⟩
        · rw [upd_ne _ _ (by omega)] at hb'
          exact S.dist j j' oj oj' b hne hj hj' hl hl' hb hb'
        · rw [upd_same] at hb'; simp [blockOf] at hb'
      · rw [upd_same] at hb; simp [blockOf] at hb
    · have hlt : i < st.f.length := (List.getElem?_eq_some_iff.1 hi).1
      by_cases hk : k = i
      · subst hk
        have hs := S.slots k
        rw [List.getD_eq_getElem?_getD, hi] at hs
        simp only [Option.getD_some, RF, R] at hs
        rw [List.getD_eq_getElem?_getD, List.getElem?_set, if_pos rfl, if_pos hlt]
        simp only [Option.getD_some, RF]
        exact ⟨hal, by rw [upd_same]; exact hs.1, _, _, _, by rw [upd_same]⟩
      · rw [List.getD_eq_getElem?_getD, List.getElem?_set, if_neg (fun e => hk e.symm), ← List.getD_eq_getElem?_getD]
        exact RF.mono (Kp.refl _ _) ha _ _ (S.slots k)
  · cases h
theorem Sim.thaws {w0 : World} {ow0 : Nat → Bool} {a : Act} {w : World} : ∀ {ts : List (Nat × Nat × Nat)} {st st' : PS}, Sim n w0 ow0 st a w → pv.thaws st ts = some st' → Sim n w0 ow0 st' a w
  | [], st, st', S, h => by simp [pv.thaws] at h; subst h; exact S
  | (i, e, s) :: r, st, st', S, h => by
    simp only [pv.thaws] at h
    split at h
    · rename_i st1 h1; exact Sim.thaws (S.thaw1 h1) h
    · cases h
/-- a run to a place where things are forgotten -/
def pkk (P : Program) (T : List TI) (k : Nat) (cf : Cf) (hs : List Hn) (ts : List (Nat × Nat × Nat)) (s l : List Nat) : Option (Cf × List Prop) :=
  match pk P T k cf hs with
  | some (c, ob) => (match thaws c.st ts with
    | some st => bif nodup s then some (⟨c.ks, c.ex, st.keep s l⟩, ob) else none
    | none => none)
  | none => none
theorem pkk_sound (hT : TOk P T) (hm : P.follows .mixedOrders = true) (hF : KC n Fin) (k : Nat) {ks ks' : List Fr} {ex ex' : Ex} {st st' : PS} {ts : List (Nat × Nat × Nat)} {s l : List Nat} {hs : List Hn} {ob : List Prop} (h : pkk P T k ⟨ks, ex, st⟩ hs ts s l = some (⟨ks', ex', st'⟩, ob)) (hn : st.f.length = n) (hob : AllP ob)
    (q : RunE P n Fin ks' ex' st') : RunE P n Fin ks ex st := by
  unfold pkk at h
  split at h
  · rename_i c ob1 h1
    split at h
    · rename_i st1 ht
      obtain ⟨h2, h3⟩ := cond_some h
      simp at h3
      obtain ⟨⟨rfl, rfl, rfl⟩, rfl⟩ := h3
      exact pk_sound (cf := ⟨ks, ex, st⟩) hT hm k h1 hn hob fun _ => run_weak hF (fun w0 ow0 a w S => (S.thaws ht).keep s l h2) _ _ q
    · cases h
  · cases h
/-- the end of a function -/
def FinR (P : Program) (fn : Func) (r : PV) (ex : Ex) (st : PS) : Prop := (∀ id, ex ≠ .exit id) ∧ ∀ (w0 : World) (ow0 : Nat → Bool) (a : Act) (w : World), (∀ b, w0.heap.size ≤ b → ow0 b = false) → Sim fn.ntmps w0 ow0 st a w → ∃ v, (results fn a.tmps).run P w = .ok v w ∧ R ow0 w r v
theorem FinR.kc {fn : Func} {r : PV} : KC fn.ntmps (FinR P fn r) := fun ex st st' hw h => ⟨h.1, fun w0 ow0 a w hf S => h.2 w0 ow0 a w hf (hw _ _ _ _ S)⟩
theorem FinR.of (hT : TOk P T) {fn : Func} {r : PV} {ex : Ex} {st : PS} (hex : ∀ id, ex ≠ .exit id) (hr : pres T st fn.results.toList = some r) : FinR P fn r ex st := by
  refine ⟨hex, fun w ow a' w' hfr ⟨ow', hd', hold, S⟩ => ?_⟩
  have hk : Kp ow' w' ow w' := by
    refine ⟨Nat.le_refl _, fun b hb h => ?_, fun _ _ _ => rfl⟩
    rcases Nat.lt_or_ge b w.heap.size with h' | h'
    · rw [← hold b h']; exact h
    · exact hfr b h'
  unfold pres at hr
  split at hr
  · rename_i x hx
    split at hr
    · rename_i z hz
      simp at hr; subst hr
      obtain ⟨vs, h1, h2, h3⟩ := presL_sound hT S _ _ hx
      have hl := RFT.length h2
      have hrun := run_results (P := P) (w := w') (fn := fn) (tmps := a'.tmps) _ vs rfl h1 h3 (by simp at hl; omega)
      simp only [RFT] at h2
      obtain ⟨v, r0, hv, h4, rfl⟩ := h2
      rw [hv] at hrun
      exact ⟨v, hrun, R.nsl _ _ (frz_sound S.toSimH hk hfr _ _ _ hz h4)⟩
    · cases hr
  · rename_i xs hne hx
    obtain ⟨hr8, hr⟩ := cond_some hr
    split at hr
    · rename_i zs hz
      simp at hr; subst hr
      obtain ⟨vs, h1, h2, h3⟩ := presL_sound hT S _ _ hx
      have hl := RFT.length h2
      have hrun := run_results (P := P) (w := w') (fn := fn) (tmps := a'.tmps) _ vs rfl h1 h3 (by rw [← h1, hl]; exact Nat.le_of_ble_eq_true hr8)
      refine ⟨.tuple vs.toArray, ?_, ?_⟩
      · rw [hrun]
        congr 1
        match vs, hl with
        | [], _ => rfl
        | [t], hl =>
          exfalso
          match xs, hl, hne with
          | [x], _, hne => exact hne x rfl
        | _ :: _ :: _, _ => rfl
      · simp only [R]
        exact ⟨_, rfl, RT.nsl _ _ (frzT_sound S.toSimH hk hfr _ _ _ hz h2)⟩
    · cases hr
  · cases hr
def pend (P : Program) (T : List TI) (fn : Func) (k : Nat) (cf : Cf) (hs : List Hn) : Option (PV × List Prop) :=
  match pk P T k cf hs with
  | some (⟨[], ex, st⟩, ob) => (match ex, pres T st fn.results.toList with
    | .exit _, _ => none
    | _, some r => some (r, ob)
    | _, none => none)
  | _ => none
theorem pend_sound (hT : TOk P T) (hm : P.follows .mixedOrders = true) {fn : Func} (k : Nat) {ks : List Fr} {ex : Ex} {st : PS} {hs : List Hn} {ob : List Prop} {r : PV} (h : pend P T fn k ⟨ks, ex, st⟩ hs = some (r, ob)) (hnn : fn.ntmps = n) (hn : st.f.length = n) (hob : AllP ob) : RunE P n (FinR P fn r) ks ex st := by
  subst hnn
  unfold pend at h
  split at h
  · rename_i ex' st' ob1 h1
    split at h
    · cases h
    · rename_i r' hne hr
      simp at h
      obtain ⟨rfl, rfl⟩ := h
      exact pk_sound (cf := ⟨ks, ex, st⟩) hT hm k h1 hn hob fun _ => FinR.of hT (fun id e => hne id e) hr
    · cases h
  · cases h
theorem FinR.kc' {fn : Func} {r : PV} (hn : fn.ntmps = n) : KC n (FinR P fn r) := hn ▸ FinR.kc
def fnOk (fn : Func) (k : Nat) : Bool := !(fn.name == "runtime.NumGoroutine") && Nat.ble k fn.ntmps
theorem ret_run {f : FuncId} {fn : Func} {c : Code} {args : List PV} {r : PV} (hf : P.funcs[f]? = some fn) (hb : fn.body = some c) (hc : fnOk fn args.length = true) (hnn : fn.ntmps = n) (h : RunE P n (FinR P fn r) [.s c] .normal (start n args)) : Ret P f args r := by
  subst hnn
  simp only [fnOk, Bool.and_eq_true, Bool.not_eq_true'] at hc
  have hle : args.length ≤ fn.ntmps := Nat.le_of_ble_eq_true hc.2
  refine ⟨⟨fn, hf, hc.1, by rw [hb]; rfl⟩, fun ow w vs hfr hargs => ?_⟩
  refine calls_of_wp hf hb (wp_mono (h w ow _ w (start_sim hle hfr hargs)) ?_)
  rintro e a' w' ⟨ex, st', rfl, ⟨hex, hr⟩, ow', hd', hold, S⟩
  obtain ⟨v, f1, f2⟩ := hr w ow a' w' hfr ⟨ow', hd', hold, S⟩
  cases ex with
  | normal => exact ⟨S.defers, v, f1, v, rfl, S.below, f2⟩
  | ret => exact ⟨S.defers, v, f1, v, rfl, S.below, f2⟩
  | exit id => exact absurd rfl (hex id)
end
end Go.Proofs.YtccmjndnjpjohaaR.pv
