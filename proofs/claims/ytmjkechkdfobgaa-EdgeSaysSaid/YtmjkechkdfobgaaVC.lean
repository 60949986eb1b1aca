/- Typed values: parts by paths, and parts put in. -/
import Derived.Test.YtmjkechkdfobgaaVB
namespace Go.Proofs.Ytmjkechkdfobgaa.pv
set_option linter.all false
open Go.RowKit

/-- part k of a struct, and behind how many cells it lies -/
def getF : Nat → (t : Ty) → t.den → Option (Nat × XV)
  | 0, .pr a _, x => some (0, ⟨a, p1 x⟩)
  | k + 1, .pr a b, x => match getF k b (p2 x) with
    | some (o, v) => some (a.sz + o, v)
    | none => none
  | _, _, _ => none
def setF : Nat → (t : Ty) → t.den → XV → Option XV
  | 0, .pr a b, x, v => some ⟨.pr v.t b, pmk v.x (p2 x)⟩
  | k + 1, .pr a b, x, v => match setF k b (p2 x) v with
    | some r => some ⟨.pr a r.t, pmk (p1 x) r.x⟩
    | none => none
  | _, _, _, _ => none
def finC {n m : Nat} {s z : Nat} (h : (Nat.beq n m && Nat.beq s z) = true) (j : Fin n) : Fin m := ⟨j.1, by
  have := j.2
  simp only [Bool.and_eq_true] at h
  have := Nat.eq_of_beq_eq_true h.1
  omega⟩
def getP : (p : List Step) → denP p → XV → Option XV
  | [], _, v => some v
  | .f k o :: p, d, v => match getF k v.t v.x with
    | some (o', r) => bif Nat.beq o o' then getP p d r else none
    | none => none
  | .x n s :: p, d, v => match v with
    | ⟨.ar m t, x⟩ => if h : (Nat.beq n m && Nat.beq s t.sz) = true then getP p (Prod.snd (α := Fin n) (β := denP p) d) ⟨t, gA (n := m) x (finC h (Prod.fst (α := Fin n) (β := denP p) d))⟩ else none
    | _ => none
def kEq : IntKind → IntKind → Bool
  | .i8, .i8 | .i16, .i16 | .i32, .i32 | .i64, .i64 | .u8, .u8 | .u16, .u16 | .u32, .u32 | .u64, .u64 => true
  | _, _ => false
theorem kEq_eq {a b : IntKind} (h : kEq a b = true) : a = b := by cases a <;> cases b <;> first | rfl | (simp [kEq] at h)
def zEq : Z → Z → Bool
  | .i a, .i b => kEq a b
  | .b, .b | .s, .s | .sl, .sl | .nf, .nf | .np, .np | .ni, .ni | .nm, .nm => true
  | _, _ => false
theorem zEq_eq {a b : Z} (h : zEq a b = true) : a = b := by
  cases a <;> cases b <;> first | rfl | (simp [zEq] at h; done) | (simp only [zEq] at h; rw [kEq_eq h])
def pEq : List Step → List Step → Bool
  | [], [] => true
  | .f a b :: p, .f c d :: q => Nat.beq a c && Nat.beq b d && pEq p q
  | .x a b :: p, .x c d :: q => Nat.beq a c && Nat.beq b d && pEq p q
  | _, _ => false
theorem pEq_eq : ∀ {a b : List Step}, pEq a b = true → a = b
  | [], [], _ => rfl
  | .f a b :: p, .f c d :: q, h => by
    simp only [pEq, Bool.and_eq_true] at h
    rw [Nat.eq_of_beq_eq_true h.1.1, Nat.eq_of_beq_eq_true h.1.2, pEq_eq h.2]
  | .x a b :: p, .x c d :: q, h => by
    simp only [pEq, Bool.and_eq_true] at h
    rw [Nat.eq_of_beq_eq_true h.1.1, Nat.eq_of_beq_eq_true h.1.2, pEq_eq h.2]
  | [], .f _ _ :: _, h | [], .x _ _ :: _, h | .f _ _ :: _, [], h | .x _ _ :: _, [], h | .f _ _ :: _, .x _ _ :: _, h | .x _ _ :: _, .f _ _ :: _, h => by simp [pEq] at h
def Ty.beq : Ty → Ty → Bool
  | .i k, .i k' => kEq k k'
  | .bl, .bl | .str, .str | .un, .un | .ns, .ns | .ud, .ud | .dead, .dead => true
  | .pr a b, .pr c d => a.beq c && b.beq d
  | .ar n t, .ar m u => Nat.beq n m && t.beq u
  | .sl t, .sl u => t.beq u
  | .nz a, .nz b => zEq a b
  | .vp g, .vp g' => Nat.beq g g'
  | .np g p, .np g' p' => Nat.beq g g' && pEq p p'
  | .vm g, .vm g' => Nat.beq g g'
  | .rf l p, .rf l' p' => Nat.beq l l' && pEq p p'
  | .ep l s p, .ep l' s' p' => Nat.beq l l' && Nat.beq s s' && pEq p p'
  | .dp t p, .dp t' p' => t.beq t' && pEq p p'
  | .sr l, .sr l' => Nat.beq l l'
  | .ss l s, .ss l' s' => Nat.beq l l' && Nat.beq s s'
  | .as l p n s ag, .as l' p' n' s' ag' => Nat.beq l l' && pEq p p' && Nat.beq n n' && Nat.beq s s' && (ag == ag')
  | .cl f t, .cl g u => Nat.beq f g && t.beq u
  | .ic a t, .ic b u => Nat.beq a b && t.beq u
  | .tp t, .tp u => t.beq u
  | .mc a b, .mc c d => a.beq c && b.beq d
  | .sm a b, .sm c d => a.beq c && b.beq d
  | _, _ => false
theorem Ty.eq_of : ∀ {a b : Ty}, a.beq b = true → a = b := by
  intro a
  induction a <;> intro b h <;> cases b <;> first
    | rfl
    | (simp [Ty.beq] at h; done)
    | skip
  all_goals simp only [Ty.beq, Bool.and_eq_true, beq_iff_eq] at h
  case i.i => rw [kEq_eq h]
  case pr.pr ha hb _ _ => rw [ha h.1, hb h.2]
  case ar.ar ih _ _ => rw [Nat.eq_of_beq_eq_true h.1, ih h.2]
  case sl.sl ih _ => rw [ih h]
  case nz.nz => rw [zEq_eq h]
  case vp.vp => rw [Nat.eq_of_beq_eq_true h]
  case np.np => rw [Nat.eq_of_beq_eq_true h.1, pEq_eq h.2]
  case vm.vm => rw [Nat.eq_of_beq_eq_true h]
  case rf.rf => rw [Nat.eq_of_beq_eq_true h.1, pEq_eq h.2]
  case ep.ep => rw [Nat.eq_of_beq_eq_true h.1.1, Nat.eq_of_beq_eq_true h.1.2, pEq_eq h.2]
  case dp.dp ih _ _ => rw [ih h.1, pEq_eq h.2]
  case sr.sr => rw [Nat.eq_of_beq_eq_true h]
  case ss.ss => rw [Nat.eq_of_beq_eq_true h.1, Nat.eq_of_beq_eq_true h.2]
  case as.as => rw [Nat.eq_of_beq_eq_true h.1.1.1.1, pEq_eq h.1.1.1.2, Nat.eq_of_beq_eq_true h.1.1.2, Nat.eq_of_beq_eq_true h.1.2, h.2]
  case cl.cl ih _ _ => rw [show _ = _ from Nat.eq_of_beq_eq_true h.1, ih h.2]
  case ic.ic ih _ _ => rw [Nat.eq_of_beq_eq_true h.1, ih h.2]
  case tp.tp ih _ => rw [ih h]
  case mc.mc ha hb _ _ => rw [ha h.1, hb h.2]
  case sm.sm ha hb _ _ => rw [ha h.1, hb h.2]
def castT (t u : Ty) (x : t.den) : Option u.den := if h : t.beq u = true then some (Ty.eq_of h ▸ x) else none
theorem castT_spec {t u : Ty} {x : t.den} {y : u.den} (h : castT t u x = some y) : ∃ e : t = u, y = e ▸ x := by
  unfold castT at h
  split at h
  · rename_i hb
    exact ⟨Ty.eq_of hb, by cases h; rfl⟩
  · cases h
/-- the same value in other words: what is nil for good is a name that is nil, a name that is there may be nil -/
def conv : (t u : Ty) → t.den → Option u.den
  | .pr a b, .pr c d, x => match conv a c (p1 x), conv b d (p2 x) with
    | some y, some z => some (pmk y z)
    | _, _ => none
  | .nz .np, .vp _, _ => some (Option.none (α := Nat))
  | .nz .nm, .vm _, _ => some (Option.none (α := Nat))
  | .np g [], .vp g', x => bif Nat.beq g g' then some (some (Prod.fst (α := Nat) (β := Unit) x)) else none
  | t, u, x => castT t u x
theorem castT_rep {t u : Ty} {x : t.den} {y : u.den} (h : castT t u x = some y) : t = u ∧ rep u y = rep t x := by
  obtain ⟨e, rfl⟩ := castT_spec h
  subst e
  exact ⟨rfl, rfl⟩
theorem conv_spec : ∀ (t u : Ty) (x : t.den) (y : u.den), conv t u x = some y → rep u y = rep t x ∧ u.sz = t.sz ∧ u.cel = t.cel ∧ u.dat = t.dat ∧ u.agg = t.agg := by
  intro t
  have key : ∀ (t u : Ty) (x : t.den) (y : u.den), castT t u x = some y → rep u y = rep t x ∧ u.sz = t.sz ∧ u.cel = t.cel ∧ u.dat = t.dat ∧ u.agg = t.agg := by
    intro t u x y h
    obtain ⟨e, h⟩ := castT_rep h
    subst e
    exact ⟨h, rfl, rfl, rfl, rfl⟩
  induction t with
  | pr a b iha ihb =>
    intro u x y h
    cases u with
    | pr c d =>
      simp only [conv] at h
      split at h
      · rename_i y' z' h1 h2
        cases h
        obtain ⟨a1, a2, a3, a4, a5⟩ := iha _ _ _ h1
        obtain ⟨b1, b2, b3, b4, b5⟩ := ihb _ _ _ h2
        refine ⟨?_, by simp only [Ty.sz, a2, b2], by simp only [Ty.cel, a3, b3], by simp only [Ty.dat, a4, b4], rfl⟩
        show rep (.pr c d) (pmk y' z') = _
        simp only [rep]
        have e1 : p1 (pmk y' z') = y' := rfl
        have e2 : p2 (pmk y' z') = z' := rfl
        rw [e1, e2, a1, b1]
      · cases h
    | _ => simp only [conv] at h; exact key _ _ _ _ h
  | nz z =>
    intro u x y h
    cases z <;> cases u <;> first
      | (simp only [conv] at h; exact key _ _ _ _ h)
      | (simp only [conv] at h; cases h; exact ⟨rfl, rfl, rfl, rfl, rfl⟩)
  | np g p =>
    intro u x y h
    cases p with
    | nil =>
      cases u with
      | vp g' =>
        simp only [conv] at h
        obtain ⟨h1, h2⟩ := cond_some h
        cases h2
        have e := Nat.eq_of_beq_eq_true h1
        subst e
        exact ⟨rfl, rfl, rfl, rfl, rfl⟩
      | _ => simp only [conv] at h; exact key _ _ _ _ h
    | cons s p => cases u <;> (simp only [conv] at h; exact key _ _ _ _ h)
  | _ => intro u x y h; cases u <;> (simp only [conv] at h; exact key _ _ _ _ h)
/-- w lies in v, from there on -/
def Lies (v w : XV) (off : Nat) (pre post : List FV) : Prop := v.cells = pre ++ w.cells ++ post ∧ pre.length = off
theorem getF_spec : ∀ (k : Nat) (t : Ty) (x : t.den) (o : Nat) (v : XV), t.cel = true → getF k t x = some (o, v) → v.t.cel = true ∧ ∃ pre post, Lies ⟨t, x⟩ v o pre post ∧
    ∀ (u r : XV), u.t.cel = true → setF k t x u = some r → r.t.cel = true ∧ r.cells = pre ++ u.cells ++ post ∧ r.t.agg = true ∧ r.t.sz + v.t.sz = t.sz + u.t.sz
  | 0, .pr a b, x, o, v, h, hg => by
    simp only [Ty.cel, Bool.and_eq_true] at h
    simp only [getF] at hg
    cases hg
    refine ⟨h.1, [], (rep b (p2 x)).cells, ⟨by simp [XV.cells, XV.rep, rep], rfl⟩, fun u r hu hs => ?_⟩
    simp only [setF] at hs
    cases hs
    refine ⟨by simp [Ty.cel, hu, h.2], ?_, rfl, by simp only [Ty.sz]; omega⟩
    show (rep (.pr u.t b) (pmk u.x (p2 x))).cells = _
    simp only [rep, List.nil_append]
    rfl
  | k + 1, .pr a b, x, o, v, h, hg => by
    simp only [Ty.cel, Bool.and_eq_true] at h
    simp only [getF] at hg
    split at hg
    · rename_i o' v' hg'
      cases hg
      obtain ⟨h1, pre, post, ⟨h2, h3⟩, h4⟩ := getF_spec k b (p2 x) o' v h.2 hg'
      refine ⟨h1, (rep a (p1 x)).cells ++ pre, post, ⟨?_, ?_⟩, fun u r hu hs => ?_⟩
      · show (rep (.pr a b) x).cells = _
        have h2 : (rep b (p2 x)).cells = pre ++ v.cells ++ post := h2
        simp only [rep, h2, List.append_assoc]
      · rw [List.length_append, rep_len a _ h.1, h3]
      · simp only [setF] at hs
        split at hs
        · rename_i r' hr
          cases hs
          obtain ⟨q1, q2, _, q3⟩ := h4 u r' hu hr
          refine ⟨by simp [Ty.cel, q1, h.1], ?_, rfl, by simp only [Ty.sz]; omega⟩
          show (rep (.pr a r'.t) (pmk (p1 x) r'.x)).cells = _
          have q2 : (rep r'.t r'.x).cells = pre ++ u.cells ++ post := q2
          have e1 : p1 (c := r'.t) (pmk (p1 x) r'.x) = p1 x := rfl
          have e2 : p2 (a := a) (pmk (p1 x) r'.x) = r'.x := rfl
          simp only [rep, e1, e2, q2, List.append_assoc]
        · cases hs
    · cases hg
  | 0, .i _, x, o, v, h, hg | 0, .bl, x, o, v, h, hg | 0, .str, x, o, v, h, hg | 0, .un, x, o, v, h, hg | 0, .ar _ _, x, o, v, h, hg | 0, .sl _, x, o, v, h, hg | 0, .ns, x, o, v, h, hg | 0, .nz _, x, o, v, h, hg | 0, .vp _, x, o, v, h, hg
  | 0, .np _ _, x, o, v, h, hg | 0, .vm _, x, o, v, h, hg | 0, .rf _ _, x, o, v, h, hg | 0, .ep _ _ _, x, o, v, h, hg | 0, .dp _ _, x, o, v, h, hg | 0, .sr _, x, o, v, h, hg | 0, .ss _ _, x, o, v, h, hg | 0, .as _ _ _ _ _, x, o, v, h, hg
  | 0, .cl _ _, x, o, v, h, hg | 0, .ic _ _, x, o, v, h, hg | 0, .tp _, x, o, v, h, hg | 0, .mc _ _, x, o, v, h, hg | 0, .sm _ _, x, o, v, h, hg | 0, .ud, x, o, v, h, hg | 0, .dead, x, o, v, h, hg => by simp [getF] at hg
  | k + 1, .i _, x, o, v, h, hg | k + 1, .bl, x, o, v, h, hg | k + 1, .str, x, o, v, h, hg | k + 1, .un, x, o, v, h, hg | k + 1, .ar _ _, x, o, v, h, hg | k + 1, .sl _, x, o, v, h, hg | k + 1, .ns, x, o, v, h, hg | k + 1, .nz _, x, o, v, h, hg | k + 1, .vp _, x, o, v, h, hg
  | k + 1, .np _ _, x, o, v, h, hg | k + 1, .vm _, x, o, v, h, hg | k + 1, .rf _ _, x, o, v, h, hg | k + 1, .ep _ _ _, x, o, v, h, hg | k + 1, .dp _ _, x, o, v, h, hg | k + 1, .sr _, x, o, v, h, hg | k + 1, .ss _ _, x, o, v, h, hg | k + 1, .as _ _ _ _ _, x, o, v, h, hg
  | k + 1, .cl _ _, x, o, v, h, hg | k + 1, .ic _ _, x, o, v, h, hg | k + 1, .tp _, x, o, v, h, hg | k + 1, .mc _ _, x, o, v, h, hg | k + 1, .sm _ _, x, o, v, h, hg | k + 1, .ud, x, o, v, h, hg | k + 1, .dead, x, o, v, h, hg => by simp [getF] at hg
theorem flatMap_split {α β : Type} (f : α → List β) (xs : List α) (j : Nat) (h : j < xs.length) : xs.flatMap f = (xs.take j).flatMap f ++ f xs[j] ++ (xs.drop (j + 1)).flatMap f := by
  have e : xs = xs.take j ++ xs[j] :: xs.drop (j + 1) := by rw [List.getElem_cons_drop]; simp
  have e2 : xs.flatMap f = (xs.take j ++ xs[j] :: xs.drop (j + 1)).flatMap f := congrArg (List.flatMap f) e
  rw [e2, List.flatMap_append, List.flatMap_cons, List.append_assoc]
theorem flatMap_len {α β : Type} (f : α → List β) (s : Nat) (hf : ∀ a, (f a).length = s) (xs : List α) : (xs.flatMap f).length = xs.length * s := by
  induction xs with
  | nil => simp
  | cons x xs ih => simp only [List.flatMap_cons, List.length_append, hf, ih, List.length_cons, Nat.succ_mul]; omega
/-- put in -/
def setP : (p : List Step) → denP p → XV → XV → Option XV
  | [], _, v, u => bif Nat.beq v.t.sz u.t.sz then some u else none
  | .f k o :: p, d, v, u => match getF k v.t v.x with
    | some (o', r) => (match setP p d r u with
      | some r' => setF k v.t v.x r'
      | none => none)
    | none => none
  | .x n s :: p, d, v, u => match v with
    | ⟨.ar m t, x⟩ => if h : (Nat.beq n m && Nat.beq s t.sz) = true then (match setP p (Prod.snd (α := Fin n) (β := denP p) d) ⟨t, gA (n := m) x (finC h (Prod.fst (α := Fin n) (β := denP p) d))⟩ u with
        | some r => (match conv r.t t r.x with
          | some y => some ⟨.ar m t, sA (n := m) (α := t.den) x (finC h (Prod.fst (α := Fin n) (β := denP p) d)) y⟩
          | none => none)
        | none => none) else none
    | _ => none
theorem getP_spec : ∀ (p : List Step) (d : denP p) (v w : XV), v.t.cel = true → getP p d v = some w → w.t.cel = true ∧ ∃ pre post, Lies v w (offP p d) pre post ∧
    ∀ (u r : XV), u.t.cel = true → setP p d v u = some r → r.t.cel = true ∧ r.cells = pre ++ u.cells ++ post ∧ u.t.sz = w.t.sz ∧ r.t.sz = v.t.sz
  | [], d, v, w, h, hg => by
    simp only [getP] at hg
    cases hg
    refine ⟨h, [], [], ⟨by simp, rfl⟩, fun u r hu hs => ?_⟩
    simp only [setP] at hs
    obtain ⟨h1, h2⟩ := cond_some hs
    cases h2
    have := Nat.eq_of_beq_eq_true h1
    exact ⟨hu, by simp, this.symm, this.symm⟩
  | .f k o :: p, d, v, w, h, hg => by
    simp only [getP] at hg
    split at hg
    · rename_i o' r hr
      obtain ⟨h1, hg2⟩ := cond_some hg
      have e := Nat.eq_of_beq_eq_true h1
      subst e
      obtain ⟨a1, pre, post, ⟨a2, a3⟩, a4⟩ := getF_spec k v.t v.x o r h hr
      obtain ⟨b1, pre', post', ⟨b2, b3⟩, b4⟩ := getP_spec p d r w a1 hg2
      refine ⟨b1, pre ++ pre', post' ++ post, ⟨?_, ?_⟩, fun u z hu hs => ?_⟩
      · have a2 : v.cells = pre ++ r.cells ++ post := a2
        rw [a2, b2]; simp only [List.append_assoc]
      · rw [List.length_append, a3, b3]; rfl
      · simp only [setP, hr] at hs
        split at hs
        · rename_i r' hr'
          obtain ⟨c1, c2, c3, c4⟩ := b4 u r' hu hr'
          obtain ⟨q1, q2, _, q3⟩ := a4 r' z c1 hs
          exact ⟨q1, by rw [q2, c2]; simp only [List.append_assoc], c3, by omega⟩
        · cases hs
    · cases hg
  | .x n s :: p, d, ⟨.ar m t, x⟩, w, h, hg => by
    simp only [getP] at hg
    split at hg
    · rename_i hb
      have h : t.cel = true := h
      obtain ⟨b1, pre', post', ⟨b2, b3⟩, b4⟩ := getP_spec p _ _ w h hg
      have hb' := hb
      simp only [Bool.and_eq_true] at hb'
      have hn := Nat.eq_of_beq_eq_true hb'.1
      have hs := Nat.eq_of_beq_eq_true hb'.2
      let xs : List t.den := Subtype.val (p := fun xs : List t.den => xs.length = m) x
      have hxl : xs.length = m := Subtype.property (p := fun xs : List t.den => xs.length = m) x
      let j : Nat := (finC hb (Prod.fst (α := Fin n) (β := denP p) d)).1
      have hj : j < xs.length := by rw [hxl]; exact (finC hb (Prod.fst (α := Fin n) (β := denP p) d)).2
      have hsp := flatMap_split (fun y => (rep t y).cells) xs j hj
      have hge : gA (n := m) x (finC hb (Prod.fst (α := Fin n) (β := denP p) d)) = xs[j] := rfl
      have hcl : (XV.mk (.ar m t) x).cells = (xs.take j).flatMap (fun y => (rep t y).cells) ++ (rep t xs[j]).cells ++ (xs.drop (j + 1)).flatMap fun y => (rep t y).cells := hsp
      have hpl : ((xs.take j).flatMap fun y => (rep t y).cells).length = j * t.sz := by
        rw [flatMap_len _ t.sz (fun y => rep_len t y h), List.length_take]
        congr 1; omega
      have b2' : (rep t xs[j]).cells = pre' ++ w.cells ++ post' := b2
      refine ⟨b1, (xs.take j).flatMap (fun y => (rep t y).cells) ++ pre', post' ++ (xs.drop (j + 1)).flatMap (fun y => (rep t y).cells), ⟨?_, ?_⟩, fun u z hu hz => ?_⟩
      · rw [hcl, b2']; simp only [List.append_assoc]
      · rw [List.length_append, hpl, b3, hs]; rfl
      · simp only [setP] at hz
        rw [dif_pos hb] at hz
        split at hz
        · rename_i r hr
          split at hz
          · rename_i y hy
            cases hz
            obtain ⟨c1, c2, c3, c4⟩ := b4 u r hu hr
            obtain ⟨e1, e2, e3, _, _⟩ := conv_spec _ _ _ _ hy
            refine ⟨h, ?_, c3, rfl⟩
            show ((xs.set j y).flatMap fun y => (rep t y).cells) = _
            have hj' : j < (xs.set j y).length := by rw [List.length_set]; exact hj
            rw [flatMap_split _ (xs.set j y) j hj', List.take_set_of_le (Nat.le_refl _), List.drop_set_of_lt (Nat.lt_succ_self _), List.getElem_set_self]
            rw [e1]
            have c2 : (rep r.t r.x).cells = pre' ++ u.cells ++ post' := c2
            rw [c2]; simp only [List.append_assoc]
          · cases hz
        · cases hz
    · cases hg
  | .x n s :: p, d, ⟨.i _, x⟩, w, h, hg | .x n s :: p, d, ⟨.bl, x⟩, w, h, hg | .x n s :: p, d, ⟨.str, x⟩, w, h, hg | .x n s :: p, d, ⟨.un, x⟩, w, h, hg | .x n s :: p, d, ⟨.pr _ _, x⟩, w, h, hg | .x n s :: p, d, ⟨.sl _, x⟩, w, h, hg | .x n s :: p, d, ⟨.ns, x⟩, w, h, hg
  | .x n s :: p, d, ⟨.nz _, x⟩, w, h, hg | .x n s :: p, d, ⟨.vp _, x⟩, w, h, hg | .x n s :: p, d, ⟨.np _ _, x⟩, w, h, hg | .x n s :: p, d, ⟨.vm _, x⟩, w, h, hg | .x n s :: p, d, ⟨.rf _ _, x⟩, w, h, hg | .x n s :: p, d, ⟨.ep _ _ _, x⟩, w, h, hg
  | .x n s :: p, d, ⟨.dp _ _, x⟩, w, h, hg | .x n s :: p, d, ⟨.sr _, x⟩, w, h, hg | .x n s :: p, d, ⟨.ss _ _, x⟩, w, h, hg | .x n s :: p, d, ⟨.as _ _ _ _ _, x⟩, w, h, hg | .x n s :: p, d, ⟨.cl _ _, x⟩, w, h, hg | .x n s :: p, d, ⟨.ic _ _, x⟩, w, h, hg
  | .x n s :: p, d, ⟨.tp _, x⟩, w, h, hg | .x n s :: p, d, ⟨.mc _ _, x⟩, w, h, hg | .x n s :: p, d, ⟨.sm _ _, x⟩, w, h, hg | .x n s :: p, d, ⟨.ud, x⟩, w, h, hg | .x n s :: p, d, ⟨.dead, x⟩, w, h, hg => by simp [getP] at hg
theorem Lies.splice {v w u : XV} {off : Nat} {pre post : List FV} (h : Lies v w off pre post) (hw : w.t.cel = true) (hu : u.t.cel = true) (hs : u.t.sz = w.t.sz) : pv.splice v.cells off u.cells = pre ++ u.cells ++ post ∧ off + u.cells.length ≤ v.cells.length := by
  obtain ⟨h1, h2⟩ := h
  have l1 : w.cells.length = w.t.sz := rep_len _ _ hw
  have l2 : u.cells.length = u.t.sz := rep_len _ _ hu
  unfold pv.splice
  rw [h1]
  subst h2
  constructor
  · rw [List.append_assoc pre, List.take_left' rfl, ← List.drop_drop, List.drop_left' rfl, List.drop_left' (by omega)]
  · simp only [List.length_append]; omega
theorem Lies.drop {v w : XV} {off : Nat} {pre post : List FV} (h : Lies v w off pre post) : (v.cells.drop off).take w.cells.length = w.cells ∧ off + w.cells.length ≤ v.cells.length := by
  obtain ⟨h1, h2⟩ := h
  rw [h1]
  subst h2
  constructor
  · rw [List.append_assoc pre, List.drop_left' rfl, List.take_left' rfl]
  · simp only [List.length_append]; omega
end Go.Proofs.Ytmjkechkdfobgaa.pv
