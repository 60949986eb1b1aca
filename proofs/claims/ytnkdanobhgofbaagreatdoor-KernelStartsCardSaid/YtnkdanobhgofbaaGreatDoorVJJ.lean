/- Groups: all variables, or all maps, of a kind, named by numbers; a map of one's own. -/
import Derived.Test.YtnkdanobhgofbaaGreatDoorVGH
import Derived.MapKept
import Derived.DeepKeys3
namespace Go.Proofs.YtnkdanobhgofbaaGreatDoor.pv
set_option linter.all false
open Go.RowKit Go.MapKept

/-- what a block has -/
structure BC where
  P : Ow → World → Nat → Prop
  lt : ∀ {ow : Ow} {w : World} {b : Nat}, P ow w b → b < w.heap.size
  kp : ∀ {ow ow' : Ow} {w w' : World} {b : Nat}, Kp ow w ow' w' → w'.heap[b]? = w.heap[b]? → P ow w b → P ow' w' b
def bunH (bs : List Nat) : Value := .func (.func 0) #[] (bs.map fun b => Value.pointer (some ⟨b, 0, none⟩)).toArray
theorem bunH_blocks (bs : List Nat) : blocksOf (bunH bs) = bs := by
  simp only [bunH, blocksOf, List.filterMap_map]
  induction bs with
  | nil => rfl
  | cons b bs ih => simp only [List.filterMap_cons, Function.comp, blockOf, ih]
/-- a group: what each of its blocks has -/
def arC (g : Nat) (cs : List BC) : Cust where
  tag := some g
  I ow w h vs := ∃ bs : List Nat, ow.phi g = bs ∧ bs.length = cs.length ∧ bs.Nodup ∧ h = bunH bs ∧ ∀ (i b : Nat) (c : BC), bs[i]? = some b → cs[i]? = some c → c.P ow w b
  lt := by
    rintro ow w h vs ⟨bs, h1, h2, h3, rfl, h5⟩ b hb
    rw [bunH_blocks] at hb
    obtain ⟨i, hi⟩ := List.mem_iff_getElem?.1 hb
    have hlt := (List.getElem?_eq_some_iff.1 hi).1
    exact (cs[i]'(by omega)).lt (h5 i b _ hi (List.getElem?_eq_getElem (by omega)))
  kp := by
    rintro ow ow' w w' h vs k hb ht ⟨bs, h1, h2, h3, rfl, h5⟩
    refine ⟨bs, by rw [ht g rfl]; exact h1, h2, h3, rfl, fun i b c hi hc => c.kp k (hb b ?_).1 (h5 i b c hi hc)⟩
    rw [bunH_blocks]; exact List.mem_of_getElem? hi
  one := by rintro ow w h vs ⟨bs, h1, h2, h3, rfl, h5⟩; rfl
/-- a variable's cells -/
def cellBC (xs : List PV) : BC where
  P ow w b := ∃ vals t, w.heap[b]? = some (.cells vals t (0, 0)) ∧ RL ow w xs vals.toList
  lt := by rintro ow w b ⟨vals, t, h, _⟩; exact (Array.getElem?_eq_some_iff.1 h).1
  kp := by rintro ow ow' w w' b k hb ⟨vals, t, h, h2⟩; exact ⟨vals, t, by rw [hb]; exact h, RL.mono k _ _ h2⟩
def abC (g : Nat) (t : Ty) (xs : List t.den) : Cust := arC g (xs.map fun x => cellBC (rep t x).pcs)
/-- each entry has a stamp of its own -/
def Stp (es : List MapEntry) (clock : Nat) : Prop := (∀ e ∈ es, e.born < clock) ∧ es.Pairwise (fun x y => x.born ≠ y.born)
/-- a key -/
def keyV : (t : Ty) → t.den → Value
  | .i k, x => .int k x
  | .str, x => .string (ofL x)
  | .bl, x => .bool x
  | _, _ => .nilFunc
/-- a map's type: its keys' code, its values' -/
def keyB (P : Program) (kt : Nat) : Ty → Bool
  | .i k => (match P.underlying kt with
    | some (.int k') => kEq k k'
    | _ => false)
  | .str => (match P.underlying kt with
    | some .string => true
    | _ => false)
  | _ => false
/-- a type's zero value is a struct, or not -/
def zshB (P : Program) (t : Nat) (b : Ty) : Bool := match P.info? t with
  | some i => (match i.zero with
    | some (.agg _) => b.agg
    | some _ => !b.agg
    | none => false)
  | none => false
def mpB (P : Program) (T : List TI) (t : Nat) (a b : Ty) : Bool := match P.underlying t with
  | some (.map kt et) => keyB P kt a && cdB T et b && zshB P et b
  | _ => false
/-- entries, in the order in which they came -/
def EnL (a b : Ty) (ow : Ow) (w : World) : List (a.den × b.den) → List MapEntry → Prop
  | [], es => es = []
  | p :: D, es => ∃ e r, es = e :: r ∧ e.key = keyV a p.1 ∧ R ow w (rep b p.2).pv e.val ∧ EnL a b ow w D r
theorem EnL.mono {a b : Ty} {ow ow' : Ow} {w w' : World} (k : Kp ow w ow' w') : ∀ (D : List (a.den × b.den)) (es : List MapEntry), EnL a b ow w D es → EnL a b ow' w' D es
  | [], es, h => h
  | p :: D, es, h => by
    obtain ⟨e, r, rfl, h1, h2, h3⟩ := h
    exact ⟨e, r, rfl, h1, R.mono k _ _ h2, EnL.mono k D r h3⟩
/-- in the order of the keys -/
def Srt (a : Ty) {β : Type} (D : List (a.den × β)) : Prop := D.Pairwise fun p q => ltT a p.1 q.1 = true
/-- a map: its entries, in the order of their keys -/
def MpOk (a b : Ty) (D : List (a.den × b.den)) (ow : Ow) (w : World) (es : Array MapEntry) (clock : Nat) : Prop := ∃ Dm : List (a.den × b.den), Dm.Perm D ∧ Srt a D ∧ EnL a b ow w Dm es.toList ∧ Stp es.toList clock
theorem MpOk.mono {a b : Ty} {D : List (a.den × b.den)} {ow ow' : Ow} {w w' : World} {es : Array MapEntry} {clock : Nat} (k : Kp ow w ow' w') (h : MpOk a b D ow w es clock) : MpOk a b D ow' w' es clock := by
  obtain ⟨Dm, h1, h2, h3, h4⟩ := h
  exact ⟨Dm, h1, h2, EnL.mono k _ _ h3, h4⟩
theorem MpOk.nil {a b : Ty} {ow : Ow} {w : World} : MpOk a b [] ow w #[] 0 := ⟨[], .nil, List.Pairwise.nil, by simp [EnL], by simp [Stp]⟩
def mapBC (a b : Ty) (D : List (a.den × b.den)) : BC where
  P ow w blk := ∃ clock es, w.heap[blk]? = some (.map es clock) ∧ MpOk a b D ow w es clock
  lt := by rintro ow w b ⟨vals, t, h, _⟩; exact (Array.getElem?_eq_some_iff.1 h).1
  kp := by rintro ow ow' w w' b k hb ⟨vals, t, h, h2⟩; exact ⟨vals, t, by rw [hb]; exact h, h2.mono k⟩
def amC (g : Nat) (a b : Ty) (Ds : List (List (a.den × b.den))) : Cust := arC g (Ds.map fun D => mapBC a b D)
/-- a map that one variable has -/
def mpC (a b : Ty) (D : List (a.den × b.den)) : Cust where
  I ow w h vs := ∃ blk, h = .map (some blk) ∧ (mapBC a b D).P ow w blk
  lt := by
    rintro ow w h vs ⟨blk, rfl, h⟩ b' hb
    simp [blocksOf, blockOf] at hb
    subst hb
    exact (mapBC a b D).lt h
  kp := by
    rintro ow ow' w w' h vs k hb _ ⟨blk, rfl, h⟩
    exact ⟨blk, rfl, (mapBC a b D).kp k (hb blk (by simp [blocksOf, blockOf])).1 h⟩
  one := by rintro ow w h vs ⟨blk, rfl, h⟩; rfl
section
variable {P : Program} {T : List TI} {n : Nat} {w0 : Cx} {st : PS} {a : Act} {w : World} {ow : Ow} {hd : Nat → Value}
theorem wp_val' {o : Oper} {a : Act} {w w' : World} {v : Value} {K : Act → World → Prop} {Q : Exit → Act → World → Prop} (hrun : (execOp a.eval o).run P w = .ok (.value v) w') (h : K (a.put o.dst v) w') : o.wp P a w K Q := by
  unfold Oper.wp; rw [hrun]; exact h
theorem wp_skip' {o : Oper} {a : Act} {w w' : World} {K : Act → World → Prop} {Q : Exit → Act → World → Prop} (hrun : (execOp a.eval o).run P w = .ok .skip w') (h : K (a.put o.dst undef) w') : o.wp P a w K Q := by
  unfold Oper.wp; rw [hrun]; exact h
/-- one of a group -/
theorem SimW.arAt (S : SimW n w0 st a w ow hd) {l g i b : Nat} {cs : List BC} (hm : st.m[l]? = some (.cu (arC g cs) [])) (hi : (ow.phi g)[i]? = some b) :
    ∃ c, cs[i]? = some c ∧ c.P ow w b ∧ b ∈ blocksOf (hd l) ∧ w0.New b ∧ ow b = true := by
  obtain ⟨h1, vs, _, bs, g1, g2, g3, g4, g5⟩ := S.objs l _ hm
  rw [g1] at hi
  have hlt := (List.getElem?_eq_some_iff.1 hi).1
  have hc : cs[i]? = some cs[i] := List.getElem?_eq_getElem (by omega)
  have hb : b ∈ blocksOf (hd l) := by rw [g4, bunH_blocks]; exact List.mem_of_getElem? hi
  exact ⟨_, hc, g5 i b _ hi hc, hb, (h1 b hb).1, (h1 b hb).2⟩
/-- one of a group changed -/
theorem SimW.arSet (S : SimW n w0 st a w ow hd) {l g i b : Nat} {cs : List BC} {c' : BC} {w' : World} (hm : st.m[l]? = some (.cu (arC g cs) [])) (hi : (ow.phi g)[i]? = some b)
    (ho : ∀ j, j ≠ b → w'.heap[j]? = w.heap[j]?) (hsz : w'.heap.size = w.heap.size) (hbl : Kt w0 w w') (hP : c'.P ow w' b) : SimW n w0 ⟨st.f, st.m.set l (.cu (arC g (cs.set i c')) [])⟩ a w' ow hd := by
  obtain ⟨c, hc, _, hb, hnew, how⟩ := S.arAt hm hi
  have hro := S.objs l _ hm
  obtain ⟨h1, vs, h2, bs, g1, g2, g3, g4, g5⟩ := hro
  have hk : Kp ow w ow w' := ⟨by omega, fun _ _ h => h, fun j _ hj => ho j (fun e => by rw [e, how] at hj; cases hj)⟩
  refine S.set hm rfl rfl hb ho hsz hbl ⟨h1, vs, ?_, bs, g1, by rw [List.length_set]; exact g2, g3, g4, fun j b' c2 hj hc2 => ?_⟩ (fun g hg => hg)
  · simp only [RFL] at h2 ⊢; exact h2
  · rw [g1] at hi
    rw [List.getElem?_set] at hc2
    split at hc2
    · rename_i e
      subst e
      split at hc2
      · cases hc2
        rw [hi] at hj; cases hj
        exact hP
      · cases hc2
    · rename_i hne
      have hbb : b' ≠ b := fun e => hne (by
        subst e
        have q1 := (List.getElem?_eq_some_iff.1 hi)
        have q2 := (List.getElem?_eq_some_iff.1 hj)
        obtain ⟨p1, p2⟩ := q1
        obtain ⟨p3, p4⟩ := q2
        exact (List.getElem_inj g3).1 (p2.trans p4.symm))
      exact c2.kp hk (ho b' hbb) (g5 j b' c2 hj hc2)
/-- one more in a group -/
theorem SimW.arNew (S : SimW n w0 st a w ow hd) {l g : Nat} {cs : List BC} {c : BC} {ob : Obj} (hm : st.m[l]? = some (.cu (arC g cs) []))
    (hP : ∀ ow' : Ow, Kp ow w ow' (w.alloc ob) → c.P ow' (w.alloc ob) w.heap.size) :
    ∃ ow' hd', (Ph ow ow' ∧ (∀ b, b < w.heap.size → ow' b = ow b) ∧ ∀ g', w0.gr g' = false → ow'.phi g' = ow.phi g') ∧ (∀ j, al st.m j = true → al (st.m.set l (.cu (arC g (cs ++ [c])) [])) j = true ∧ hd' j = hd j) ∧ SimW n w0 ⟨st.f, st.m.set l (.cu (arC g (cs ++ [c])) [])⟩ a (w.alloc ob) ow' hd' ∧ (ow'.phi g)[cs.length]? = some w.heap.size := by
  have hsz : (w.alloc ob).heap.size = w.heap.size + 1 := by simp
  obtain ⟨h1, vs, h2, bs, g1, g2, g3, g4, g5⟩ := S.objs l _ hm
  let ow' : Ow := ow.add (fun b => if b = w.heap.size then true else ow b) g w.heap.size
  have hb' : ∀ b, ow' b = if b = w.heap.size then true else ow b := fun b => rfl
  have hphi : ow'.phi g = bs ++ [w.heap.size] := by
    show (if g = g then ow.phi g ++ [w.heap.size] else ow.phi g) = _
    rw [if_pos rfl, g1]
  haveI hph : Ph ow ow' := Ph.add _ _ _ _
  have hk : Kp ow w ow' (w.alloc ob) := ⟨by rw [hsz]; omega, fun b hb h => by rw [hb', if_neg (by omega)]; exact h, fun b hb _ => Below.heap_alloc w _ b hb⟩
  have hlt : ∀ b ∈ bs, b < w.heap.size := fun b hb => ((S.objs l _ hm).lt rfl b (by rw [g4, bunH_blocks]; exact hb)).1
  have hal : al st.m l = false := al_tag hm rfl
  have key := S.obj (l := l) (hv := bunH (bs ++ [w.heap.size])) (o := .cu (arC g (cs ++ [c])) []) hk (Kt.of_below ((Below.refl _ _).alloc S.below.size _) (Nat.le_refl _))
    (fun b hb => by rw [hsz] at hb; rw [hb', if_neg (by omega)]; exact S.fresh b (by omega)) (.inl hal) (.inl hal)
    ⟨fun b hb => by
        rw [bunH_blocks, List.mem_append, List.mem_singleton] at hb
        rcases hb with hb | rfl
        · refine ⟨(h1 b (by rw [g4, bunH_blocks]; exact hb)).1, ?_⟩
          rw [hb', if_neg (by have := hlt b hb; omega)]
          exact (h1 b (by rw [g4, bunH_blocks]; exact hb)).2
        · exact ⟨.inl S.below.size, by rw [hb', if_pos rfl]⟩,
      [], by simp [RFL], bs ++ [w.heap.size], hphi, by simp [g2], by
        rw [List.nodup_append]
        refine ⟨g3, by simp, fun x hx y hy => ?_⟩
        rw [List.mem_singleton.1 hy]
        have := hlt x hx
        omega, rfl, fun i b c2 hi hc2 => by
        rcases Nat.lt_or_ge i bs.length with hi' | hi'
        · rw [List.getElem?_append_left hi'] at hi
          rw [List.getElem?_append_left (by omega)] at hc2
          exact c2.kp hk (Below.heap_alloc w _ b (hlt b (List.mem_of_getElem? hi))) (g5 i b c2 hi hc2)
        · rw [List.getElem?_append_right hi'] at hi
          rw [List.getElem?_append_right (by omega)] at hc2
          have : i - bs.length = 0 := by
            have := (List.getElem?_eq_some_iff.1 hi).1
            simp at this; omega
          rw [this] at hi
          rw [show i - cs.length = 0 by omega] at hc2
          simp at hi hc2
          subst hi; subst hc2
          exact hP ow' hk⟩
    (fun j oj b e hj hl hbk => by
      have hlt' := ((S.objs j oj hj).lt hl b hbk).1
      refine ⟨Below.heap_alloc w _ b hlt', by rw [hb', if_neg (by omega)], fun _ he => ?_⟩
      rw [bunH_blocks, List.mem_append, List.mem_singleton] at he
      rcases he with he | he
      · exact S.dist j l oj _ b e hj hm hl rfl hbk (by rw [g4, bunH_blocks]; exact he)
      · omega)
    (fun j oj g' hne hj hg' => by
      show (if g' = g then ow.phi g ++ [w.heap.size] else ow.phi g') = ow.phi g'
      rw [if_neg]
      intro e
      subst e
      exact hne (S.tags.1 j l oj _ g' hj hm hg' rfl))
    (fun g' hg' => ⟨_, hm, hg'⟩)
  refine ⟨ow', _, ⟨hph, fun b hb => by rw [hb', if_neg (by omega)], fun g' hg' => by
    show (if g' = g then ow.phi g ++ [w.heap.size] else ow.phi g') = ow.phi g'
    rw [if_neg]
    intro e
    rw [e, S.tags.2 l _ g hm rfl] at hg'; cases hg'⟩, fun j hj => ⟨al_set_mono (.inl hal) j hj, upd_ne _ _ ?_⟩, key, ?_⟩
  · intro e; subst e; rw [hal] at hj; cases hj
  · rw [hphi, List.getElem?_append_right (by omega), show cs.length - bs.length = 0 by omega]; rfl
/-- a pointer by name -/
theorem SimW.vpAt (S : SimW n w0 st a w ow hd) {x : Operand} {g i off : Nat} (h : ev st.f x = .d (.vp g i off)) : ∃ b, (ow.phi g)[i]? = some b ∧ a.eval x = .pointer (some ⟨b, off, none⟩) := by
  have := S.d h
  simp only [R] at this
  exact this
theorem ab_at {t : Ty} {xs : List t.den} {i : Nat} {c : BC} (h : (List.map (fun x : t.den => cellBC (rep t x).pcs) xs)[i]? = some c) : ∃ y, xs[i]? = some y ∧ c = cellBC (rep t y).pcs := by
  rw [List.getElem?_map] at h
  cases hq : xs[i]? with
  | none => simp [hq] at h
  | some y => simp [hq] at h; exact ⟨y, rfl, h.symm⟩
theorem ext_npLoad {t : Nat} {x : Operand} {l g i off : Nat} {c : Ty} {xs : List c.den} {y : c.den} (hy : xs[i]? = some y) {r : FV}
    (hr : (tagg T t = some false ∧ ∃ q, (rep c y).pcs[off]? = some q ∧ r = .d q) ∨ (∃ sz, tagg T t = some true ∧ tsz T t = some sz ∧ off + sz ≤ (rep c y).pcs.length ∧ r = .d (.agg (((rep c y).pcs.drop off).take sz)))) :
    Ext P T (.load t x) [.d (.vp g i off)] [(l, .cu (abC g c xs) [])] r [] := by
  intro n w0 st a w o hT hS ho hn hv hm K Q hK
  obtain ⟨ow, hd, hold, S⟩ := hS
  obtain ⟨dst, op, ty, pos, af, gd⟩ := o
  simp only at ho hn hK
  subst ho
  simp [Op.operands] at hv
  have hml := hm (l, .cu (abC g c xs) []) (by simp)
  obtain ⟨b, hb, hx⟩ := S.vpAt hv
  obtain ⟨c', hc', hP, _⟩ := S.arAt hml hb
  obtain ⟨y', hy', rfl⟩ := ab_at hc'
  rw [hy] at hy'; cases hy'
  obtain ⟨vals, ty', hblk, hRL⟩ := hP
  rcases hr with ⟨h1, q, hq, rfl⟩ | ⟨sz, h1, h2, h3, rfl⟩
  · obtain ⟨u, hu, hru, _⟩ := hRL.get off q hq
    refine wp_val' (v := u) (by simp [execOp, hx, run_loadAt_one hT h1 (cell_of_block hblk hu)]) (hK _ _ ⟨ow, hd, hold, S.put hn (by simpa only [RF] using hru)⟩)
  · have hl := hRL.length
    have hrr := RL.take sz (RL.drop off hRL)
    refine wp_val' (v := .agg ((vals.toList.drop off).take sz).toArray) (by simp [execOp, hx, run_loadAt_agg hT h1 h2 (range_of_block hblk off sz) (by rw [List.length_take, List.length_drop, hl]; omega)]) (hK _ _ ⟨ow, hd, hold, S.put hn ?_⟩)
    simp only [RF, R]; exact ⟨_, rfl, hrr⟩
theorem ext_npStore {t : Nat} {x z : Operand} {l g i off : Nat} {c : Ty} {xs : List c.den} {y y' : c.den} {zv : PV} (hy : xs[i]? = some y) (h6 : isTup zv = false) (h7 : tsz T t = some (psz zv)) (h8 : off + psz zv ≤ (rep c y).pcs.length) (h9 : (rep c y').pcs = splice (rep c y).pcs off (pcells zv)) :
    Ext P T (.store t x z) [.d (.vp g i off), .d zv] [(l, .cu (abC g c xs) [])] .dead [(l, .cu (abC g c (xs.set i y')) [])] := by
  intro n w0 st a w o hT hS ho hn hv hm K Q hK
  obtain ⟨ow, hd, hold, S⟩ := hS
  obtain ⟨dst, op, ty, pos, af, gd⟩ := o
  simp only at ho hn hK
  subst ho
  simp [Op.operands] at hv
  have hml := hm (l, .cu (abC g c xs) []) (by simp)
  obtain ⟨b, hb, hx⟩ := S.vpAt hv.1
  obtain ⟨c', hc', hP, hbd, hnew, how⟩ := S.arAt hml hb
  obtain ⟨y2, hy2, rfl⟩ := ab_at hc'
  rw [hy] at hy2; cases hy2
  obtain ⟨vals, ty', hblk, hRL⟩ := hP
  have hz := S.d hv.2
  have hsz := R.size hz h6
  have hcl := R.cells hz h6
  have hl := hRL.length
  simp only [Array.length_toList] at hl
  have hst := run_storeAt_any (P := P) (w := w) hT (t := t) (b := b) (off := off) (v := a.eval z) (by rw [hsz]; exact h7) (there_of_block hblk (by omega)) (RL.one hcl)
  obtain ⟨cur', q1, q2, q3⟩ := setCells_block b ty' (0, 0) (a.eval z).cells.toList off w vals hblk (by simp; omega)
  have ho := fun j hj => setCells_other b (a.eval z).cells.toList off w j hj
  have hkp : Kp ow w ow (w.setCells b off (a.eval z).cells.toList) := ⟨by rw [setCells_size]; exact Nat.le_refl _, fun _ _ h => h, fun j _ hj => ho j (fun e => by rw [e, how] at hj; cases hj)⟩
  have hnewc := splice_RL off hRL hcl
  rw [← h9] at hnewc
  have S' := S.arSet (c' := cellBC (rep c y').pcs) hml hb ho (setCells_size b _ off w) (Kt.of_one (setCells_below b _ (Nat.le_refl _) _ off w) hnew ho) ⟨cur', ty', q1, by rw [q2]; exact RL.mono hkp _ _ hnewc⟩
  have e : arC g ((List.map (fun x : c.den => cellBC (rep c x).pcs) xs).set i (cellBC (rep c y').pcs)) = abC g c (xs.set i y') := by
    unfold abC; rw [List.map_set]
  rw [e] at S'
  unfold Oper.wp
  simp only [execOp, hx, Sem.run_bind, hst, Result.andThen_ok, Sem.run_pure]
  exact hK _ _ ⟨ow, hd, hold, S'.put hn (x := .dead) (by simp only [RF])⟩
theorem ext_npField {s k o ft : Nat} {x : Operand} {g i off : Nat} (h : tfo T s k = some (o, ft)) : Ext P T (.fieldAddr s x k) [.d (.vp g i off)] [] (.d (.vp g i (off + o))) [] := by
  intro n w0 st a w oo hT hS ho hn hv hm K Q hK
  obtain ⟨ow, hd, hold, S⟩ := hS
  obtain ⟨dst, op, ty, pos, af, gd⟩ := oo
  simp only at ho hn hK
  subst ho
  simp [Op.operands] at hv
  obtain ⟨b, hb, hx⟩ := S.vpAt hv
  refine wp_val' (v := .pointer (some ⟨b, off + o, none⟩)) (by simp [execOp, hx, run_fieldAt hT h]) (hK _ _ ⟨ow, hd, hold, S.put hn ?_⟩)
  simp only [RF, R]; exact ⟨b, hb, rfl⟩
theorem ext_npIdx {t nn e s : Nat} {x j : Operand} {g i off : Nat} {ik : IntKind} {q : Int} (h : tarr T t = some (nn, e, s)) (h0 : 0 ≤ q) (h1 : q < nn) : Ext P T (.indexAddr t x j) [.d (.vp g i off), .d (.v (.int ik q))] [] (.d (.vp g i (off + q.toNat * s))) [] := by
  intro n w0 st a w oo hT hS ho hn hv hm K Q hK
  obtain ⟨ow, hd, hold, S⟩ := hS
  obtain ⟨dst, op, ty, pos, af, gd⟩ := oo
  simp only at ho hn hK
  subst ho
  simp [Op.operands] at hv
  obtain ⟨b, hb, hx⟩ := S.vpAt hv.1
  obtain ⟨hj, _⟩ := S.v hv.2
  refine wp_val' (v := .pointer (some ⟨b, off + q.toNat * s, none⟩)) (by simp [execOp, hx, hj, run_indexAt_arr hT h h0 h1]) (hK _ _ ⟨ow, hd, hold, S.put hn ?_⟩)
  simp only [RF, R]; exact ⟨b, hb, rfl⟩
theorem zero_RL {z : Value} {zs : List Z} (h : zsOk z.cells.toList zs = true) : RL ow w (zs.map Z.pv) z.cells.toList := by
  have h1 := zero_RFL (A := fun _ => true) (hd := fun _ => undef) (ow := ow) (w := w) h
  have : zs.map (fun z => FV.d z.pv) = (zs.map Z.pv).map FV.d := by rw [List.map_map]; rfl
  rw [this] at h1
  exact RFL.to_RL h1
theorem ext_arAlloc {e : Nat} {ti : TI} {l g : Nat} {c : Ty} {xs : List c.den} {y : c.den} (h1 : T[e]? = some ti) (h2 : ti.zero ≠ []) (hy : ∀ ow w us, RL ow w (ti.zero.map Z.pv) us → RL ow w (rep c y).pcs us) :
    Ext P T (.alloc e) [] [(l, .cu (abC g c xs) [])] (.d (.vp g xs.length 0)) [(l, .cu (abC g c (xs ++ [y])) [])] := by
  intro n w0 st a w oo hT hS ho hn hv hm K Q hK
  obtain ⟨ow, hd, hold, S⟩ := hS
  obtain ⟨dst, op, ty, pos, af, gd⟩ := oo
  simp only at ho hn hK
  subst ho
  have hml := hm (l, .cu (abC g c xs) []) (by simp)
  obtain ⟨i, dd, e1, e2, e3, e4, e5, e6⟩ := hT.info h1
  obtain ⟨z, hz, e6⟩ := e6 h2
  have hrun : (execOp a.eval ⟨dst, .alloc e, ty, pos, af, gd⟩).run P w = .ok (.value (.pointer (some ⟨w.heap.size, 0, none⟩))) (w.alloc (.cells z.cells e)) := by
    simp [execOp, Instr.alloc, zeroValue, typeInfo, e1, hz, newVar, newRow, newObj, Sem.run]
  obtain ⟨ow', hd', g1, g2, g3, g4⟩ := S.arNew (c := cellBC (rep c y).pcs) (ob := .cells z.cells e) hml (fun ow' hk => ⟨z.cells, e, heap_alloc_new w _, hy _ _ _ (zero_RL e6)⟩)
  have e : arC g ((List.map (fun x : c.den => cellBC (rep c x).pcs) xs) ++ [cellBC (rep c y).pcs]) = abC g c (xs ++ [y]) := by
    unfold abC; rw [List.map_append]; rfl
  rw [e] at g3
  refine wp_val' hrun (hK _ _ ⟨ow', hd', hold.step (p := g1.1) (fun b hb _ => g1.2.1 b (Nat.lt_of_lt_of_le hb S.below.size)) g1.2.2, g3.put hn ?_⟩)
  rw [List.length_map] at g4
  simp only [RF, R]; exact ⟨_, g4, rfl⟩
theorem ext_arBox {e : Nat} {x : Operand} {l g : Nat} {c : Ty} {xs : List c.den} {y : c.den} {zv : PV} (h6 : isTup zv = false) (hy : ∀ ow w us, RL ow w (pcells zv) us → RL ow w (rep c y).pcs us) :
    Ext P T (.box e x) [.d zv] [(l, .cu (abC g c xs) [])] (.d (.vp g xs.length 0)) [(l, .cu (abC g c (xs ++ [y])) [])] := by
  intro n w0 st a w oo hT hS ho hn hv hm K Q hK
  obtain ⟨ow, hd, hold, S⟩ := hS
  obtain ⟨dst, op, ty, pos, af, gd⟩ := oo
  simp only at ho hn hK
  subst ho
  simp [Op.operands] at hv
  have hml := hm (l, .cu (abC g c xs) []) (by simp)
  have hz := S.d hv
  have hrun : (execOp a.eval ⟨dst, .box e x, ty, pos, af, gd⟩).run P w = .ok (.value (.pointer (some ⟨w.heap.size, 0, none⟩))) (w.alloc (.cells (a.eval x).cells e)) := by
    simp [execOp, Instr.box, newVar, newRow, newObj, Sem.run]
  obtain ⟨ow', hd', g1, g2, g3, g4⟩ := S.arNew (c := cellBC (rep c y).pcs) (ob := .cells (a.eval x).cells e) hml (fun ow' hk => ⟨(a.eval x).cells, e, heap_alloc_new w _, hy _ _ _ (RL.mono hk _ _ (R.cells hz h6))⟩)
  have e : arC g ((List.map (fun x : c.den => cellBC (rep c x).pcs) xs) ++ [cellBC (rep c y).pcs]) = abC g c (xs ++ [y]) := by
    unfold abC; rw [List.map_append]; rfl
  rw [e] at g3
  refine wp_val' hrun (hK _ _ ⟨ow', hd', hold.step (p := g1.1) (fun b hb _ => g1.2.1 b (Nat.lt_of_lt_of_le hb S.below.size)) g1.2.2, g3.put hn ?_⟩)
  rw [List.length_map] at g4
  simp only [RF, R]; exact ⟨_, g4, rfl⟩
end
end Go.Proofs.YtnkdanobhgofbaaGreatDoor.pv
namespace Go.Proofs.YtnkdanobhgofbaaGreatDoor.pv
set_option linter.all false
open Go.RowKit
/-- a map's block, entries and clock, as one value (a ghost) -/
def ghV (blk : Nat) (es : Array MapEntry) (clock : Nat) : Value := .iface blk (.tuple #[.int .i64 (clock : Int), .tuple (es.map fun e => .tuple #[e.key, e.val, .int .i64 (e.born : Int)])])
theorem ghV_inj {blk blk' : Nat} {es es' : Array MapEntry} {c c' : Nat} (h : ghV blk es c = ghV blk' es' c') : blk = blk' ∧ es = es' ∧ c = c' := by
  unfold ghV at h
  injection h with h0 h2
  injection h2 with h2
  have h2 := congrArg Array.toList h2
  simp only [List.cons.injEq, Value.int.injEq, and_true, true_and] at h2
  obtain ⟨h1, h2⟩ := h2
  injection h2 with h2
  refine ⟨h0, ?_, by omega⟩
  apply Array.ext'
  have h3 := congrArg Array.toList h2
  rw [Array.toList_map, Array.toList_map] at h3
  have inj : ∀ (l l' : List MapEntry), (l.map fun e => Value.tuple #[e.key, e.val, .int .i64 (e.born : Int)]) = (l'.map fun e => Value.tuple #[e.key, e.val, .int .i64 (e.born : Int)]) → l = l' := by
    intro l
    induction l with
    | nil => intro l' h; cases l' with | nil => rfl | cons _ _ => simp at h
    | cons x r ih =>
      intro l' h
      cases l' with
      | nil => simp at h
      | cons y s =>
        simp only [List.map_cons, List.cons.injEq] at h
        rw [ih s h.2]
        have h4 := h.1
        injection h4 with h4
        have h5 := congrArg Array.toList h4
        simp only [List.cons.injEq, Value.int.injEq, and_true, true_and] at h5
        obtain ⟨a1, a2, a3⟩ := h5
        have a4 : x.born = y.born := by omega
        clear h h4 a3
        obtain ⟨k1, v1, b1⟩ := x
        obtain ⟨k2, v2, b2⟩ := y
        simp only at a1 a2 a4
        rw [a1, a2, a4]
  exact inj _ _ h3
def gsC : Cust where
  I ow w h vs := h.oneCell' = true ∧ blocksOf h = []
  lt := by rintro ow w h vs ⟨_, h2⟩ b hb; rw [h2] at hb; cases hb
  kp := by rintro ow ow' w w' h vs k hb ht h2; exact h2
  one := by rintro ow w h vs ⟨h1, _⟩; exact h1
def lkC (a b : Ty) (D : List (a.den × b.den)) : Cust where
  I ow w h vs := ∃ blk es clock, h = .map (some blk) ∧ vs = [ghV blk es clock] ∧ w.heap[blk]? = some (.map es clock) ∧ MpOk a b D ow w es clock
  lt := by
    rintro ow w h vs ⟨blk, es, clock, rfl, _, h, _⟩ b' hb
    simp [blocksOf, blockOf] at hb
    subst hb
    exact (Array.getElem?_eq_some_iff.1 h).1
  kp := by
    rintro ow ow' w w' h vs k hb _ ⟨blk, es, clock, rfl, h1, h2, h3⟩
    exact ⟨blk, es, clock, rfl, h1, by rw [(hb blk (by simp [blocksOf, blockOf])).1]; exact h2, h3.mono k⟩
  one := by rintro ow w h vs ⟨blk, es, clock, rfl, _⟩; rfl
def ahC (g : Nat) (a b : Ty) (i : Nat) (Ds : List (List (a.den × b.den))) : Cust where
  tag := some g
  I ow w h vs := (arC g (Ds.map fun D => mapBC a b D)).I ow w h [] ∧ ∃ blk es clock, (ow.phi g)[i]? = some blk ∧ vs = [ghV blk es clock] ∧ w.heap[blk]? = some (.map es clock)
  lt := by rintro ow w h vs ⟨h1, _⟩; exact (arC g (Ds.map fun D => mapBC a b D)).lt h1
  kp := by
    rintro ow ow' w w' h vs k hb ht ⟨h1, blk, es, clock, h2, h3, h4⟩
    have h1' := (arC g (Ds.map fun D => mapBC a b D)).kp k hb ht h1
    refine ⟨h1', blk, es, clock, by rw [ht g rfl]; exact h2, h3, ?_⟩
    obtain ⟨bs, e1, e2, e3, e4, e5⟩ := h1
    rw [(hb blk (by rw [e4, bunH_blocks, ← e1]; exact List.mem_of_getElem? h2)).1]
    exact h4
  one := by rintro ow w h vs ⟨h1, _⟩; exact (arC g (Ds.map fun D => mapBC a b D)).one h1
/-- how far a loop is: the entries that are left, the one at hand -/
structure ItOk (a b : Ty) (rest : List (a.den × b.den)) (cur : Option (a.den × b.den)) (ow : Ow) (w : World) (es : Array MapEntry) (clock since : Nat) (seen : Array Nat) (c0 : Nat) : Prop where
  stp : Stp es.toList clock
  lo : since ≤ clock
  l0 : since ≤ c0
  old : ∀ e ∈ es.toList, e.born < since
  left : ∃ Em : List (a.den × b.den), EnL a b ow w Em (es.toList.filter fun e => !seen.toList.contains e.born) ∧ Em.Perm rest
  srt : Srt a rest
  cur : ∀ p, cur = some p → ∃ e, e ∈ es.toList ∧ (∃ s' : Array Nat, seen = s'.push e.born) ∧ e.key = keyV a p.1 ∧ R ow w (rep b p.2).pv e.val ∧ c0 = clock
theorem ItOk.mono {a b : Ty} {rest : List (a.den × b.den)} {cur : Option (a.den × b.den)} {ow ow' : Ow} {w w' : World} {es : Array MapEntry} {clock since : Nat} {seen : Array Nat} {c0 : Nat} (k : Kp ow w ow' w') (h : ItOk a b rest cur ow w es clock since seen c0) : ItOk a b rest cur ow' w' es clock since seen c0 where
  stp := h.stp
  lo := h.lo
  l0 := h.l0
  old := h.old
  left := by
    obtain ⟨Em, h1, h2⟩ := h.left
    exact ⟨Em, EnL.mono k _ _ h1, h2⟩
  srt := h.srt
  cur p hp := by
    obtain ⟨e, h1, h2, h3, h4, h5⟩ := h.cur p hp
    exact ⟨e, h1, h2, h3, R.mono k _ _ h4, h5⟩
def itC (a b : Ty) (rest : List (a.den × b.den)) (cur : Option (a.den × b.den)) : Cust where
  I ow w h vs := ∃ r blk since seen c0 es clock, h = .pointer (some ⟨r, 0, none⟩) ∧ vs = [ghV blk es clock] ∧ w.heap[r]? = some (.mapIter (some blk) since seen c0) ∧ ItOk a b rest cur ow w es clock since seen c0
  lt := by
    rintro ow w h vs ⟨r, blk, since, seen, c0, es, clock, rfl, _, h, _⟩ b' hb
    simp [blocksOf, blockOf] at hb
    subst hb
    exact (Array.getElem?_eq_some_iff.1 h).1
  kp := by
    rintro ow ow' w w' h vs k hb _ ⟨r, blk, since, seen, c0, es, clock, rfl, h1, h2, h3⟩
    exact ⟨r, blk, since, seen, c0, es, clock, rfl, h1, by rw [(hb r (by simp [blocksOf, blockOf])).1]; exact h2, h3.mono k⟩
  one := by rintro ow w h vs ⟨r, blk, since, seen, c0, es, clock, rfl, _⟩; rfl
end Go.Proofs.YtnkdanobhgofbaaGreatDoor.pv
