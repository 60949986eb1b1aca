/- The interpreter's operations are acts: numbers, conversions, slices, building. -/
import Derived.Test.YtnkdanobhgofbaaGreatDoorVMM
namespace Go.Proofs.YtnkdanobhgofbaaGreatDoor.pv
set_option linter.all false
open Go.RowKit
section
variable {α : Type} {E : Env} {N : Nat} {f : List (Nat × XV)} {m : List (Nat × XO)} {ps : PS} {nl : Nat} {K : KT α} {out : α}
theorem strS {x : Operand} {d : List UInt8} (A : Abs N f m ps) (hv : evX f x = ⟨.str, d⟩) : ev ps.f x = .d (.v (.string (ofL d))) := ev_of (t := .str) (y := d) A hv rfl
theorem xbinS_spec {op : BinOp} {a b : List UInt8} {r : XV} (h : xbinS op a b = some r) : ∃ z, pbin op (.string (ofL a)) (.string (ofL b)) = some z ∧ r.fv = .d (.v z) := by
  unfold xbinS at h
  split at h <;> first
    | (cases h; done)
    | (cases h; exact ⟨_, by simp only [pbin, ofL_toList, strLe], rfl⟩)
theorem xBin_good (C : Ctx E N f m ps nl) {op : BinOp} {t yt : Nat} {x y : Operand} (h : xBin E m t op (evX f x) (evX f y) K = some out) : Good E ps nl (.binOp op t x y yt) K out := by
  unfold xBin at h
  split at h
  · rename_i k a k' b ha hb
    have hx := C.int ha
    have hy := C.int hb
    split at h
    · obtain ⟨h1, hK⟩ := cond_some h
      simp only [decide_eq_true_eq] at h1
      exact good_val (v := ⟨.i k, wi k (a * 2 ^ (min b.toNat k.bits))⟩) (.shl t x y yt k k' a b hx hy h1) (fun _ h => h) hK
    · obtain ⟨h1, hK⟩ := cond_some h
      simp only [decide_eq_true_eq] at h1
      exact good_val (v := ⟨.i k, a.fdiv (2 ^ (min b.toNat k.bits))⟩) (.shr t x y yt k k' a b hx hy h1) (fun _ h => h) hK
    · obtain ⟨h1, hK⟩ := cond_some h
      simp only [Bool.and_eq_true, bne_iff_ne, ne_eq] at h1
      have e := kEq_eq h1.1
      subst e
      exact good_val (v := ⟨.i k, wi k (a.tdiv b)⟩) (.quo t x y yt k a b hx hy h1.2) (fun _ h => h) hK
    · obtain ⟨h1, hK⟩ := cond_some h
      simp only [Bool.and_eq_true, bne_iff_ne, ne_eq] at h1
      have e := kEq_eq h1.1
      subst e
      exact good_val (v := ⟨.i k, a.tmod b⟩) (.rem t x y yt k a b hx hy h1.2) (fun _ h => h) hK
    · obtain ⟨h1, hK⟩ := cond_some h
      have e := kEq_eq h1
      subst e
      split at hK
      · rename_i r hr
        obtain ⟨z, hz, hrz⟩ := xbin_spec hr
        refine good_val ?_ (fun _ h => h) hK
        rw [hrz]
        exact .bin op t x y yt _ _ z hx hy hz
      · cases hK
  · generalize hv : evX f x = v at h
    generalize hu : evX f y = u at h
    split at h
    · rename_i a b
      have hx := strS C.toAbs hv
      have hy := strS C.toAbs hu
      split at h
      · obtain ⟨h1, hK⟩ := cond_some h
        have h1 := Nat.le_of_ble_eq_true h1
        refine good_ext (v := ⟨.str, List.append (α := UInt8) a b⟩) (F := []) (r := .d (.v (.string (ofL a ++ ofL b)))) [] (by simp) (by simp [absU]) ?_ (.inr (congrArg (fun s => FV.d (.v (.string s))) (ofL_app a b))) (by simp) (by simp) hK
        rw [show (Op.binOp .add t x y yt).operands.toList.map (ev ps.f) = [.d (.v (.string (ofL a))), .d (.v (.string (ofL b)))] by simp [Op.operands, hx, hy]]
        refine xcatS ?_
        unfold catS
        exact if_pos (by have e1 := ofL_size (a : List UInt8); have e2 := ofL_size (b : List UInt8); exact Nat.le_trans (Nat.le_of_eq (congr (congrArg (· + ·) e1) e2)) h1)
      split at h
      · rename_i r hr
        obtain ⟨z, hz, hrz⟩ := xbinS_spec hr
        refine good_val ?_ (fun _ h => h) h
        rw [hrz]
        exact .bin op t x y yt _ _ z hx hy hz
      · cases h
    · cases hb : (v.t.eqs && v.t.agg) with
      | true =>
        rw [hb] at h
        rw [Bool.and_eq_true] at hb
        exact xEqA_good C hv hu hb.1 hb.2 h
      | false =>
        rw [hb, cond_false, ← hv, ← hu] at h
        exact xEq_good C h
theorem xConv_good (C : Ctx E N f m ps nl) {s t : Nat} {x : Operand} (h : xConv E.T m s t (evX f x) K = some out) : Good E ps nl (.convert s t x) K out := by
  generalize hv : evX f x = v at h
  unfold xConv at h
  split at h
  · rename_i k n
    have hx : ev ps.f x = .d (.v (.int k n)) := ev_of (t := .i k) (y := n) C.toAbs hv rfl
    split at h
    · rename_i ti k' ht hk
      exact good_val (v := ⟨.i k', wi k' n⟩) (.conv s t x k k' ti n ht hk hx) (fun _ h => h) h
    · cases h
  · have hx : ev ps.f x = .d vnil := ev_of (t := .ns) (y := ()) C.toAbs hv rfl
    split at h
    · rename_i e sz h1 h2
      split at h
      · rename_i h3
        refine good_ext (v := ⟨.str, ([] : List UInt8)⟩) (F := []) (r := .d (.v (.string (b2s [])))) [] (by simp) (by simp [absU]) ?_ (.inr (congrArg (fun s => FV.d (.v (.string s))) (b2s_ofL _))) (by simp) (by simp) h
        rw [show (Op.convert s t x).operands.toList.map (ev ps.f) = [.d vnil] by simp [Op.operands, hx]]
        exact xb2sN h1 h3 h2
      · cases h
    · cases h
  · rename_i L
    have hx : ev ps.f x = .d (.sl (List.map (eI .u8) L)) := ev_of (t := .sl (.i .u8)) (y := L) C.toAbs hv rfl
    split at h
    · rename_i e sz h1 h2
      split at h
      · rename_i h3
        refine good_ext (v := ⟨.str, u8i L⟩) (F := []) (r := .d (.v (.string (b2s L)))) [] (by simp) (by simp [absU]) ?_ (.inr (congrArg (fun s => FV.d (.v (.string s))) (b2s_ofL _))) (by simp) (by simp) h
        rw [show (Op.convert s t x).operands.toList.map (ev ps.f) = [.d (.sl (List.map (eI .u8) L))] by simp [Op.operands, hx]]
        exact xb2sD h1 h3 h2
      · cases h
    · cases h
  · rename_i l d
    have hx : ev ps.f x = .srf l := ev_of (t := .sr l) (y := d) C.toAbs hv rfl
    split at h
    · rename_i e sz e' L h1 h2 ho
      split at h
      · rename_i h3
        obtain ⟨hb, h⟩ := cond_some h
        have e1 := Nat.eq_of_beq_eq_true hb
        subst e1
        have hm := C.at ho (by simp)
        refine good_ext (v := ⟨.str, u8i L⟩) (F := [l]) (r := .d (.v (.string (b2s L)))) [(l, .row e 1 (List.map (eI .u8) L))] (fun q hq => by rw [List.mem_singleton.1 hq]; exact hm) (by simp [absU]) ?_ (.inr (congrArg (fun s => FV.d (.v (.string s))) (b2s_ofL _))) (by simp) (by simp) h
        rw [show (Op.convert s t x).operands.toList.map (ev ps.f) = [.srf l] by simp [Op.operands, hx]]
        exact xb2sR h1 h3 h2
      · cases h
    · cases h
  · cases h
theorem parts_get : ∀ (k : Nat) (t : Ty) (x : t.den) (q : Nat × XV), getF k t x = some q → (rep t x).parts[k]? = some q.2.fv
  | 0, .pr a b, x, q, h => by simp only [getF] at h; cases h; rfl
  | k + 1, .pr a b, x, q, h => by
    simp only [getF] at h
    split at h
    · rename_i o v hg
      cases h
      exact parts_get k b (p2 x) (o, v) hg
    · cases h
  | 0, .i _, x, q, h | 0, .bl, x, q, h | 0, .str, x, q, h | 0, .un, x, q, h | 0, .ar _ _, x, q, h | 0, .sl _, x, q, h | 0, .ns, x, q, h | 0, .nz _, x, q, h | 0, .vp _, x, q, h
  | 0, .np _ _, x, q, h | 0, .vm _, x, q, h | 0, .rf _ _, x, q, h | 0, .ep _ _ _, x, q, h | 0, .dp _ _, x, q, h | 0, .sr _, x, q, h | 0, .ss _ _, x, q, h | 0, .as _ _ _ _ _, x, q, h
  | 0, .cl _ _, x, q, h | 0, .ic _ _, x, q, h | 0, .tp _, x, q, h | 0, .mc _ _, x, q, h | 0, .sm _ _, x, q, h | 0, .ud, x, q, h | 0, .dead, x, q, h => by simp [getF] at h
  | k + 1, .i _, x, q, h | k + 1, .bl, x, q, h | k + 1, .str, x, q, h | k + 1, .un, x, q, h | k + 1, .ar _ _, x, q, h | k + 1, .sl _, x, q, h | k + 1, .ns, x, q, h | k + 1, .nz _, x, q, h | k + 1, .vp _, x, q, h
  | k + 1, .np _ _, x, q, h | k + 1, .vm _, x, q, h | k + 1, .rf _ _, x, q, h | k + 1, .ep _ _ _, x, q, h | k + 1, .dp _ _, x, q, h | k + 1, .sr _, x, q, h | k + 1, .ss _ _, x, q, h | k + 1, .as _ _ _ _ _, x, q, h
  | k + 1, .cl _ _, x, q, h | k + 1, .ic _ _, x, q, h | k + 1, .tp _, x, q, h | k + 1, .mc _ _, x, q, h | k + 1, .sm _ _, x, q, h | k + 1, .ud, x, q, h | k + 1, .dead, x, q, h => by simp [getF] at h
theorem xExtract_good (C : Ctx E N f m ps nl) {k : Nat} {x : Operand} (h : xExtract (evX f x) k K = some out) : Good E ps nl (.extract x k) K out := by
  generalize hv : evX f x = v at h
  unfold xExtract at h
  split at h
  · rename_i t y
    have hx : ev ps.f x = .tup (rep t y).parts := ev_of (t := .tp t) (y := y) C.toAbs hv rfl
    split at h
    · rename_i o r hg
      exact good_val (.extract x k _ _ (by rw [hx]; rfl) (parts_get k t y _ hg)) (fun _ h => h) h
    · cases h
  · cases h
theorem xMin2_good (C : Ctx E N f m ps nl) {t t' : Nat} {x y : Operand} (h : xMin2 minI (evX f x) (evX f y) K = some out) : Good E ps nl (.call ⟨.builtin .min, #[x, y], #[t, t']⟩) K out := by
  unfold xMin2 at h
  split at h
  · rename_i k a k' b ha hb
    obtain ⟨h1, hK⟩ := cond_some h
    have e := kEq_eq h1
    subst e
    exact good_val (v := ⟨.i k, minI a b⟩) (.min2 t t' x y k a b (C.int ha) (C.int hb)) (fun _ h => h) hK
  · cases h
theorem xMax2_good (C : Ctx E N f m ps nl) {t t' : Nat} {x y : Operand} (h : xMin2 maxI (evX f x) (evX f y) K = some out) : Good E ps nl (.call ⟨.builtin .max, #[x, y], #[t, t']⟩) K out := by
  unfold xMin2 at h
  split at h
  · rename_i k a k' b ha hb
    obtain ⟨h1, hK⟩ := cond_some h
    have e := kEq_eq h1
    subst e
    exact good_val (v := ⟨.i k, maxI a b⟩) (.max2 t t' x y k a b (C.int ha) (C.int hb)) (fun _ h => h) hK
  · cases h
theorem ops3 {x x' x'' : Operand} {y y' y'' : FV} {op : Op} (h : op.operands.toList = [x, x', x'']) (hx : ev ps.f x = y) (hx' : ev ps.f x' = y') (hx'' : ev ps.f x'' = y'') : op.operands.toList.map (ev ps.f) = [y, y', y''] := by rw [h]; simp [hx, hx', hx'']
theorem xMin3_good (C : Ctx E N f m ps nl) {t t' t'' : Nat} {x y z : Operand} (h : xMin3 minI (evX f x) (evX f y) (evX f z) K = some out) : Good E ps nl (.call ⟨.builtin .min, #[x, y, z], #[t, t', t'']⟩) K out := by
  unfold xMin3 at h
  split at h
  · rename_i k a k' b k'' c ha hb hc
    obtain ⟨h1, hK⟩ := cond_some h
    simp only [Bool.and_eq_true] at h1
    have e := kEq_eq h1.1
    have e' := kEq_eq h1.2
    subst e; subst e'
    refine good_ext (v := ⟨.i k, minI (minI a b) c⟩) (r := .d (.v (.int k (minI (minI a b) c)))) [] (by simp) (by simp [absU]) ?_ (Le.refl _) (by simp) (by simp) hK
    rw [ops3 (x := x) (x' := y) (x'' := z) (by simp [Op.operands, Call.operands]) (C.int ha) (C.int hb) (C.int hc)]
    exact xmin3
  · cases h
theorem xMax3_good (C : Ctx E N f m ps nl) {t t' t'' : Nat} {x y z : Operand} (h : xMin3 maxI (evX f x) (evX f y) (evX f z) K = some out) : Good E ps nl (.call ⟨.builtin .max, #[x, y, z], #[t, t', t'']⟩) K out := by
  unfold xMin3 at h
  split at h
  · rename_i k a k' b k'' c ha hb hc
    obtain ⟨h1, hK⟩ := cond_some h
    simp only [Bool.and_eq_true] at h1
    have e := kEq_eq h1.1
    have e' := kEq_eq h1.2
    subst e; subst e'
    refine good_ext (v := ⟨.i k, maxI (maxI a b) c⟩) (r := .d (.v (.int k (maxI (maxI a b) c)))) [] (by simp) (by simp [absU]) ?_ (Le.refl _) (by simp) (by simp) hK
    rw [ops3 (x := x) (x' := y) (x'' := z) (by simp [Op.operands, Call.operands]) (C.int ha) (C.int hb) (C.int hc)]
    exact xmax3
  · cases h
theorem len_map {β γ : Type} (g : β → γ) (xs : List β) : (List.map g xs).length = xs.length := List.length_map ..
theorem lm (c : Ty) (xs : List c.den) : (List.map (fun y : c.den => (rep c y).pv) xs).length = xs.length := List.length_map ..
theorem lm_td (c : Ty) (xs : List c.den) (i j : Nat) : (List.map (fun y : c.den => (rep c y).pv) ((xs.take j).drop i)) = ((List.map (fun y : c.den => (rep c y).pv) xs).take j).drop i := by rw [List.map_drop, List.map_take]
theorem xLen_good (C : Ctx E N f m ps nl) {t : Nat} {x : Operand} (h : xLen E.T m t (evX f x) K = some out) : Good E ps nl (.call ⟨.builtin .len, #[x], #[t]⟩) K out := by
  generalize hv : evX f x = v at h
  unfold xLen at h
  split at h
  · rename_i s
    split at h
    · rename_i ht
      have hx := strS C.toAbs hv
      refine good_val ?_ (fun _ h => h) h
      have := PAct0.lenStr (P := E.P) (m := ps.m) (nl := nl) t x _ ht hx
      rw [show (ofL (s : List UInt8)).size = (s : List UInt8).length from ofL_size s] at this
      exact this
    · cases h
  · split at h
    · rename_i q ht
      obtain ⟨e, s⟩ := q
      have hx : ev ps.f x = .d vnil := ev_of (t := .ns) (y := ()) C.toAbs hv rfl
      exact good_val (v := ⟨.i .i64, (0 : Int)⟩) (.len t x e s [] [] ht (by rw [hx]; exact .nil)) (fun _ h => h) h
    · cases h
  · rename_i l s d
    split at h
    · rename_i e s' ht
      obtain ⟨h1, hK⟩ := cond_some h
      have e1 := Nat.eq_of_beq_eq_true h1
      subst e1
      have hx : ev ps.f x = .ssl l _ _ s := ev_of (t := .ss l s) (y := d) C.toAbs hv rfl
      exact good_val (v := ⟨.i .i64, (((Prod.snd (α := Nat) (β := Nat) d) - (Prod.fst (α := Nat) (β := Nat) d) : Nat) : Int)⟩) (.lenSS t x e s l _ _ ht hx) (fun _ h => h) hK
    · cases h
  · rename_i c xs
    split at h
    · rename_i q ht
      obtain ⟨e, s⟩ := q
      have hx : ev ps.f x = .d (.sl (List.map (fun y : c.den => (rep c y).pv) xs)) := ev_of (t := .sl c) (y := xs) C.toAbs hv rfl
      have := PAct0.len (P := E.P) (T := E.T) (ρ := ev ps.f) (m := ps.m) (nl := nl) t x e s (List.map (fun y : c.den => (rep c y).pv) xs) [] ht (by rw [hx]; exact .sl _)
      rw [lm c xs] at this
      exact good_val (v := ⟨.i .i64, ((List.length (α := c.den) xs : Nat) : Int)⟩) this (fun _ h => h) h
    · cases h
  · rename_i l d
    split at h
    · rename_i e' s' c xs ho
      split at h
      · rename_i q ht
        obtain ⟨e, s⟩ := q
        have hx : ev ps.f x = .srf l := ev_of (t := .sr l) (y := d) C.toAbs hv rfl
        have hm := C.at ho (by simp)
        have := PAct0.len (P := E.P) (T := E.T) (ρ := ev ps.f) (m := ps.m) (nl := nl) t x e s (List.map (fun y : c.den => (rep c y).pv) xs) [l] ht (by rw [hx]; exact .row l _ _ _ hm)
        rw [lm c xs] at this
        exact good_val (v := ⟨.i .i64, ((List.length (α := c.den) xs : Nat) : Int)⟩) this (fun _ h => h) h
      · cases h
    · cases h
  · cases h
theorem fits_all {c : Ty} (hd : c.dat = true) {s : Nat} (hs : s = c.sz) (xs : List c.den) : (List.map (fun y : c.den => (rep c y).pv) xs).all (fits s) = true := by
  rw [List.all_eq_true]
  intro q hq
  obtain ⟨y, _, rfl⟩ := List.mem_map.1 hq
  rw [hs]; exact rep_fits c y hd
theorem dat_agg (e : Ty) (y : e.den) (he : e.dat = true) (ha : e.agg = true) : (rep e y).pv = .agg (rep e y).pcs ∧ (rep e y).pcs.length = e.sz := by
  obtain ⟨h1, h2, _⟩ := rep_dat e y he
  have h3 := rep_agg e y ha
  rw [h1, mkAgg_d, h2] at h3
  have h4 := rep_len e y (dat_cel e he)
  rw [h1, List.length_map] at h4
  cases h3' : (rep e y).pv with
  | agg cs => rw [h3'] at h3; cases h3; exact ⟨rfl, h4⟩
  | _ => rw [h3'] at h3; cases h3
theorem dat_one (e : Ty) (y : e.den) (he : e.dat = true) (ha : e.agg = false) : (rep e y).pcs = [(rep e y).pv] ∧ e.sz = 1 := by
  obtain ⟨h1, h2, _⟩ := rep_dat e y he
  have h3 := rep_one e y (dat_cel e he) ha
  have h4 := rep_len e y (dat_cel e he)
  rw [h3] at h4
  rw [h1, h2] at h3
  refine ⟨?_, h4.symm⟩
  cases hp : (rep e y).pcs with
  | nil => rw [hp] at h3; simp at h3
  | cons a r =>
    rw [hp] at h3
    cases r with
    | nil => simp at h3; rw [h3]
    | cons b r => simp at h3
theorem chunks_reps {e : Ty} (he : e.dat = true) (rest : List PV) : ∀ (k : Nat) (L : List e.den), k ≤ L.length → chunks e.agg e.sz k ((L.flatMap fun y => (rep e y).pcs) ++ rest) = some ((L.take k).map fun y => (rep e y).pv)
  | 0, L, _ => by simp [chunks]
  | k + 1, [], h => by simp at h
  | k + 1, y :: L, h => by
    have hr := chunks_reps he rest k L (by simpa using h)
    cases ha : e.agg with
    | true =>
      obtain ⟨g1, g2⟩ := dat_agg e y he ha
      rw [ha] at hr
      simp only [List.flatMap_cons, List.append_assoc, chunks, List.take_succ_cons, List.map_cons]
      rw [Nat.ble_eq_true_of_le (by rw [List.length_append, g2]; omega), cond_true, List.drop_left' g2, List.take_left' g2, hr, g1]
    | false =>
      obtain ⟨g1, g2⟩ := dat_one e y he ha
      rw [ha] at hr
      simp only [List.flatMap_cons, g1, List.cons_append, List.nil_append, chunks, List.take_succ_cons, List.map_cons]
      rw [hr, g2]
      rfl
theorem els_arr {m : List PO} {l : Nat} {c e : Ty} {z : c.den} (hc : c.dat = true) (he : e.dat = true) {L : List e.den} {pre post : List FV} {off lo hi cap : Nat} (hm : m[l]? = some (.box (rep c z).cells)) (h1 : (rep c z).cells = pre ++ (L.flatMap fun y => (rep e y).cells) ++ post) (h2 : pre.length = off) (h3 : lo ≤ hi) (h4 : hi ≤ L.length) :
    Els m (.asl l (off + lo * e.sz) (hi - lo) cap e.sz e.agg) (List.map (fun y : e.den => (rep e y).pv) ((L.take hi).drop lo)) [l] := by
  refine .asl _ _ _ _ _ _ _ ?_
  have hd := (rep_dat c z hc).1
  have hf : (L.flatMap fun y => (rep e y).cells) = (L.flatMap fun y => (rep e y).pcs).map FV.d := by
    clear h1 h4
    induction L with
    | nil => rfl
    | cons y L ih => rw [List.flatMap_cons, List.flatMap_cons, List.map_append, ih, (rep_dat e y he).1]
  rw [hd, hf] at h1
  obtain ⟨A, B, e1, e2, e3⟩ := List.map_eq_append_iff.1 h1
  obtain ⟨A1, A2, e4, e5, e6⟩ := List.map_eq_append_iff.1 e2
  have e7 : A2 = L.flatMap fun y => (rep e y).pcs := by
    have hinj : Function.Injective FV.d := fun a b h => by cases h; rfl
    exact (List.map_inj_right (fun a b h => by cases h; rfl)).1 e6
  have e8 : A1.length = off := by rw [← h2, ← e5, List.length_map]
  have hfl : ∀ xs : List e.den, (xs.flatMap fun y => (rep e y).pcs).length = xs.length * e.sz := fun xs => flatMap_len _ e.sz (fun y => by have := rep_len e y (dat_cel e he); rw [(rep_dat e y he).1, List.length_map] at this; exact this) xs
  simp only [frz, hm, hd, allD_map]
  have hdrop : (rep c z).pcs.drop (off + lo * e.sz) = ((L.drop lo).flatMap fun y => (rep e y).pcs) ++ B := by
    rw [e1, e4, e7, List.append_assoc, ← List.drop_drop, List.drop_left' e8]
    have hs : L.flatMap (fun y => (rep e y).pcs) = (L.take lo).flatMap (fun y => (rep e y).pcs) ++ (L.drop lo).flatMap (fun y => (rep e y).pcs) := by rw [← List.flatMap_append, List.take_append_drop]
    rw [hs, List.append_assoc, List.drop_left' (by rw [hfl, List.length_take, Nat.min_eq_left (by omega)])]
  rw [hdrop, chunks_reps he B (hi - lo) (L.drop lo) (by rw [List.length_drop]; omega)]
  simp only
  rw [List.drop_take]
theorem elsX_spec (A : Abs N f m ps) {v : XV} {s : Nat} {c : Ty} {xs : List c.den} {ls : List Nat} (h : elsX m v = some (s, ⟨c, xs⟩, ls)) : v.t.told = true ∧ c.dat = true ∧ s = c.sz ∧ Els ps.m v.fv (List.map (fun y : c.den => (rep c y).pv) xs) ls := by
  unfold elsX at h
  split at h
  · rename_i c' xs'
    obtain ⟨h1, hK⟩ := cond_some h
    cases hK
    exact ⟨rfl, h1, rfl, .sl _⟩
  · rename_i l d
    split at h
    · rename_i e' s' c' xs' ho
      obtain ⟨h1, hK⟩ := cond_some h
      simp only [Bool.and_eq_true] at h1
      cases hK
      exact ⟨rfl, h1.2, Nat.eq_of_beq_eq_true h1.1, .row l e' s _ (A.at ho (by simp))⟩
    · cases h
  · rename_i l p n s0 ag d
    split at h
    · rename_i c0 z ho
      split at h
      · rename_i n' e y hg
        obtain ⟨hb, hK⟩ := cond_some h
        clear h
        simp only [Bool.and_eq_true, beq_iff_eq] at hb
        obtain ⟨⟨⟨⟨⟨⟨b1, b2⟩, b3⟩, b4⟩, b5⟩, b6⟩, b7⟩ := hb
        have b1 := Nat.eq_of_beq_eq_true b1
        have b2 := Nat.eq_of_beq_eq_true b2
        cases hK
        subst b1; subst b5
        have b2' := b2
        subst b2
        refine ⟨rfl, b3, rfl, ?_⟩
        obtain ⟨hw, pre, post, ⟨l1, l2⟩, _⟩ := getP_spec p _ ⟨c0, z⟩ ⟨.ar n c, y⟩ (dat_cel _ b4) hg
        let L : List c.den := Subtype.val (p := fun xs : List c.den => xs.length = n) y
        have hLl : L.length = n := Subtype.property (p := fun xs : List c.den => xs.length = n) y
        have l1 : (rep c0 z).cells = pre ++ (L.flatMap fun y => (rep c y).cells) ++ post := l1
        exact els_arr b4 b3 (A.at ho (by simp)) l1 l2 (Nat.le_of_ble_eq_true b6) (by rw [hLl]; exact Nat.le_of_ble_eq_true b7)
      · cases h
    · cases h
  · cases h
theorem baseX_spec (A : Abs N f m ps) {e s : Nat} {c : Ty} {v : XV} {xs : List c.den} {U : List (Nat × XO)} {ls : List Nat} (h : baseX m e s c v = some (xs, U, ls)) : v.t.told = true ∧ Base ps.m e s v.fv (List.map (fun y : c.den => (rep c y).pv) xs) (absU U) ls ∧ ∀ q ∈ U, lom m q.1 ≠ .free := by
  unfold baseX at h
  split at h
  · cases h; exact ⟨rfl, .nil, by simp⟩
  · rename_i l d
    split at h
    · rename_i e' s' c' xs' ho
      obtain ⟨h1, hK⟩ := cond_some h
      simp only [Bool.and_eq_true] at h1
      have e1 := Nat.eq_of_beq_eq_true h1.1
      have e2 := Nat.eq_of_beq_eq_true h1.2
      subst e1; subst e2
      split at hK
      · rename_i ys hy
        cases hK
        obtain ⟨q1, q2⟩ := castT_spec hy
        cases q1
        have q2 : xs = xs' := q2
        subst q2
        refine ⟨rfl, .row l _ (A.at ho (by simp)), fun q hq => ?_⟩
        rw [List.mem_singleton.1 hq, ho]; simp
      · cases hK
    · cases h
  · rename_i l s0 d
    split at h
    · rename_i e' s' c' xs' ho
      obtain ⟨h1, hK⟩ := cond_some h
      simp only [Bool.and_eq_true] at h1
      obtain ⟨⟨⟨⟨h1, h2⟩, h3⟩, h4⟩, h5⟩ := h1
      have e1 := Nat.eq_of_beq_eq_true h1
      have e2 := Nat.eq_of_beq_eq_true h2
      have e3 := Nat.eq_of_beq_eq_true h3
      have e4 := Nat.eq_of_beq_eq_true h4
      have e5 := Nat.le_of_ble_eq_true h5
      subst e1; subst e2; subst e3
      split at hK
      · rename_i ys hy
        cases hK
        obtain ⟨q1, q2⟩ := castT_spec hy
        cases q1
        have q2 : xs = List.take (α := c.den) (Prod.snd (α := Nat) (β := Nat) d) xs' := q2
        subst q2
        have hb := Base.part (m := ps.m) (e := e) (s := s) l (List.map (fun y : c.den => (rep c y).pv) xs') (Prod.snd (α := Nat) (β := Nat) d) (A.at ho (by simp)) (by rw [lm c xs']; exact e5)
        refine ⟨rfl, ?_, fun q hq => ?_⟩
        · have e6 : (XV.mk (.ss l s) d).fv = .ssl l 0 (Prod.snd (α := Nat) (β := Nat) d) s := by
            show FV.ssl l (Prod.fst (α := Nat) (β := Nat) d) _ s = _
            rw [e4]
          rw [e6, show List.map (fun y : c.den => (rep c y).pv) (List.take (α := c.den) (Prod.snd (α := Nat) (β := Nat) d) xs') = (List.map (fun y : c.den => (rep c y).pv) xs').take (Prod.snd (α := Nat) (β := Nat) d) from List.map_take]
          exact hb
        · rw [List.mem_singleton.1 hq, ho]; simp
      · cases hK
    · cases h
  · cases h
theorem ev_fv (A : Abs N f m ps) {x : Operand} {v : XV} (h : evX f x = v) (ht : v.t.told = true) : ev ps.f x = v.fv := by
  obtain ⟨t, y⟩ := v
  exact ev_of A h ht
theorem absU_app (U V : List (Nat × XO)) : absU (U ++ V) = absU U ++ absU V := List.map_append ..
theorem xAppend_good (C : Ctx E N f m ps nl) {t : Nat} {x y : Operand} (h : xAppend E m nl t (evX f x) (evX f y) K = some out) : Good E ps nl (.call ⟨.builtin .append, #[x, y], #[t, t]⟩) K out := by
  generalize hv : evX f x = v at h
  generalize hu : evX f y = u at h
  unfold xAppend at h
  split at h
  · rename_i e s ht
    split at h
    · rename_i c ti hc hti
      obtain ⟨h1, hK⟩ := cond_some h
      clear h
      simp only [Bool.and_eq_true] at h1
      obtain ⟨⟨⟨h1, h2⟩, h3⟩, h4⟩ := h1
      have e1 := Nat.eq_of_beq_eq_true h1
      split at hK
      · rename_i xs U ls s2 c' ys ks hb he
        split at hK
        · rename_i zs hz
          obtain ⟨h5, hK⟩ := cond_some hK
          simp only [lenOk, Bool.and_eq_true] at h5
          obtain ⟨b1, b2, b3⟩ := baseX_spec C.toAbs hb
          obtain ⟨c1, c2, c3, c4⟩ := elsX_spec C.toAbs he
          obtain ⟨q1, q2⟩ := castT_spec hz
          cases q1
          have q2 : zs = ys := q2
          subst q2
          have hx := ev_fv C.toAbs hv b1
          have hy := ev_fv C.toAbs hu c1
          have key := PAct0.append (P := E.P) (T := E.T) (ρ := ev ps.f) (m := ps.m) (nl := nl) t x y e s ti _ _ _ ls ks C.free0 ht hti (Nat.eq_of_beq_eq_true h2) (Nat.le_of_ble_eq_true h3) (by rw [hx]; exact b2) (by rw [hy]; exact c4) (fits_all h4 e1 zs)
            (by rw [lm c xs, lm c zs]; exact Nat.le_of_ble_eq_true h5.1) (by rw [lm c xs, lm c zs]; exact Nat.le_of_ble_eq_true h5.2)
          refine good_base (v := ⟨.sr nl, ()⟩) (r := .srf nl) (F' := nl :: ls ++ ks) ?_ (Le.refl _) (fun _ h => h) ?_ hK
          · rw [absU_app]
            have : absU [(nl, XO.ob (.rw e s c) (xs ++ (show List c.den from zs)))] = [(nl, .row e s (List.map (fun y : c.den => (rep c y).pv) xs ++ List.map (fun y : c.den => (rep c y).pv) zs))] :=
              congrArg (fun L => [(nl, PO.row e s L)]) (List.map_append (f := fun y : c.den => (rep c y).pv) (l₁ := xs) (l₂ := zs))
            rw [this]
            exact key
          · intro q hq
            rw [List.mem_append, List.mem_singleton] at hq
            rcases hq with hq | rfl
            · exact C.old rfl (b3 q hq)
            · show nl < nl + 16; omega
        · cases hK
      · cases hK
    · cases h
  · cases h
theorem optX_spec (A : Abs N f m ps) {df j : Int} {o : Option Operand} (h : optX (evX f) df o = some j) : optInt (ev ps.f) df o = some j := by
  cases o with
  | none => exact h
  | some x =>
    simp only [optX] at h
    cases hq : asI (evX f x) with
    | none => rw [hq] at h; cases h
    | some q =>
      obtain ⟨k, i⟩ := q
      rw [hq] at h
      cases h
      have hx : ev ps.f x = .d (.v (.int k i)) := ev_of (t := .i k) (y := i) A (asI_spec hq) rfl
      simp only [optInt, hx]
theorem slOk_spec {i h : Int} {n : Nat} (hh : slOk i h n = true) : 0 ≤ i ∧ i ≤ h ∧ h ≤ n := by
  unfold slOk at hh
  simp only [Bool.and_eq_true, decide_eq_true_eq] at hh
  exact ⟨hh.1.1, hh.1.2, hh.2⟩
theorem xSlice_good (C : Ctx E N f m ps nl) {t : Nat} {x : Operand} {lo hi : Option Operand} (h : xSlice E.T (evX f) m t (evX f x) lo hi K = some out) : Good E ps nl (.slice t x lo hi none) K out := by
  generalize hv : evX f x = v at h
  unfold xSlice at h
  split at h
  · rename_i c xs
    split at h
    · rename_i e s i j ht hlo hhi
      obtain ⟨h1, hK⟩ := cond_some h
      simp only [Bool.and_eq_true] at h1
      obtain ⟨⟨h1, h2⟩, h3⟩ := h1
      obtain ⟨g1, g2, g3⟩ := slOk_spec h3
      have hx : ev ps.f x = .d (.sl (List.map (fun y : c.den => (rep c y).pv) xs)) := ev_of (t := .sl c) (y := xs) C.toAbs hv rfl
      have hhi := optX_spec C.toAbs hhi
      have key := PAct0.sliceD (P := E.P) (ρ := ev ps.f) (m := ps.m) (nl := nl) t x lo hi e s _ i j ht hx (optX_spec C.toAbs hlo) (by rw [lm c xs]; exact hhi) g1 g2 (by rw [lm c xs]; exact g3) (fits_all h2 (Nat.eq_of_beq_eq_true h1) xs)
      refine good_val (v := ⟨.sl c, (List.take (α := c.den) j.toNat xs).drop i.toNat⟩) ?_ (fun _ h => h) hK
      have e2 : (XV.mk (.sl c) ((List.take (α := c.den) j.toNat xs).drop i.toNat)).fv = .d (.sl (((List.map (fun y : c.den => (rep c y).pv) xs).take j.toNat).drop i.toNat)) := by
        exact congrArg (fun L => FV.d (.sl L)) (lm_td c xs i.toNat j.toNat)
      rw [e2]
      exact key
    · cases h
  · rename_i l d
    split at h
    · rename_i e s e' s' c xs ht ho
      split at h
      · rename_i i j hlo hhi
        obtain ⟨h1, hK⟩ := cond_some h
        clear h
        simp only [Bool.and_eq_true] at h1
        obtain ⟨⟨h1, h2⟩, h3⟩ := h1
        have e1 := Nat.eq_of_beq_eq_true h1
        have e2 := Nat.eq_of_beq_eq_true h2
        subst e1; subst e2
        obtain ⟨g1, g2, g3⟩ := slOk_spec h3
        have hx : ev ps.f x = .srf l := ev_of (t := .sr l) (y := d) C.toAbs hv rfl
        have hhi := optX_spec C.toAbs hhi
        have hl : (List.map (fun y : c.den => (rep c y).pv) xs).length = List.length (α := c.den) xs := lm c xs
        exact good_val (v := ⟨.ss l s, Prod.mk i.toNat j.toNat⟩) (.sliceS t x lo hi e s l _ i j ht hx (C.at ho (by simp)) (optX_spec C.toAbs hlo) (by rw [hl]; exact hhi) g1 g2 (by rw [hl]; exact g3)) (fun _ h => h) hK
      · cases h
    · cases h
  · rename_i l s0 d
    split at h
    · rename_i e s e' s' c xs ht ho
      split at h
      · rename_i i j hlo hhi
        obtain ⟨h1, hK⟩ := cond_some h
        clear h
        simp only [Bool.and_eq_true] at h1
        obtain ⟨⟨⟨⟨h1, h2⟩, h3⟩, h4⟩, h5⟩ := h1
        have e1 := Nat.eq_of_beq_eq_true h1
        have e2 := Nat.eq_of_beq_eq_true h2
        have e3 := Nat.eq_of_beq_eq_true h3
        have e4 := Nat.eq_of_beq_eq_true h4
        subst e1; subst e2; subst e3
        obtain ⟨g1, g2, g3⟩ := slOk_spec h5
        have hx : ev ps.f x = .ssl l 0 (Prod.snd (α := Nat) (β := Nat) d) s := by
          rw [ev_of (t := .ss l s) (y := d) C.toAbs hv rfl]
          show FV.ssl l (Prod.fst (α := Nat) (β := Nat) d) _ s = _
          rw [e4]
        have hhi := optX_spec C.toAbs hhi
        have hl : (List.map (fun y : c.den => (rep c y).pv) xs).length = List.length (α := c.den) xs := lm c xs
        exact good_val (v := ⟨.ss l s, Prod.mk i.toNat j.toNat⟩) (.sliceSS t x lo hi e s l _ _ i j ht hx (C.at ho (by simp)) (optX_spec C.toAbs hlo) hhi g1 g2 (by rw [hl]; exact g3)) (fun _ h => h) hK
      · cases h
    · cases h
  · rename_i l p d
    split at h
    · rename_i n e s ht
      split at h
      · rename_i ag i j hag hlo hhi
        obtain ⟨h1, hK⟩ := cond_some h
        simp only [Bool.and_eq_true, decide_eq_true_eq] at h1
        obtain ⟨⟨h1, h2⟩, h3⟩ := h1
        obtain ⟨g1, g2, g3⟩ := slOk_spec h2
        have hx : ev ps.f x = .ref l (offP p d) := ev_of (t := .rf l p) (y := d) C.toAbs hv rfl
        exact good_val (v := ⟨.as l p n s ag, Prod.mk d (Prod.mk i.toNat j.toNat)⟩) (.sliceA t x lo hi n e s l _ ag i j ht hag hx (optX_spec C.toAbs hlo) (optX_spec C.toAbs hhi) g1 g2 g3 h3 (Nat.le_of_ble_eq_true h1)) (fun _ h => h) hK
      · cases h
    · cases h
  · split at h
    · rename_i q i j ht hlo hhi
      obtain ⟨e, s⟩ := q
      obtain ⟨h1, hK⟩ := cond_some h
      simp only [Bool.and_eq_true, beq_iff_eq] at h1
      obtain ⟨rfl, rfl⟩ := h1
      have hx : ev ps.f x = .d vnil := ev_of (t := .ns) (y := ()) C.toAbs hv rfl
      exact good_val (v := ⟨.ns, ()⟩) (.sliceN t x lo hi e s ht hx (optX_spec C.toAbs hlo) (optX_spec C.toAbs hhi)) (fun _ h => h) hK
    · cases h
  · cases h
theorem opEq_ev {g : List FV} {x y : Operand} (h : opEq x y = true) : ev g x = ev g y := by
  unfold opEq at h
  split at h
  · rw [Nat.eq_of_beq_eq_true h]
  · rename_i k a k' b
    simp only [Bool.and_eq_true, beq_iff_eq] at h
    rw [kEq_eq h.1, h.2]
  · cases h
theorem xMkSl_good (C : Ctx E N f m ps nl) {t : Nat} {x y : Operand} (hxy : opEq x y = true) (h : xMkSl E nl t (evX f x) K = some out) : Good E ps nl (.makeSlice t x y) K out := by
  unfold xMkSl at h
  split at h
  · rename_i e s k j ht hj
    split at h
    · rename_i c ti hc hti
      split at h
      · rename_i hz
        obtain ⟨h1, hK⟩ := cond_some h
        simp only [Bool.and_eq_true] at h1
        obtain ⟨⟨⟨⟨⟨h1, h2⟩, h3⟩, h4⟩, h5⟩, h6⟩ := h1
        obtain ⟨ti', t1, t2, t3, t4, t5⟩ := cdB_spec (C.hE.cd e c hc hz)
        rw [hti] at t1; cases t1
        have hx := C.int hj
        have hy : ev ps.f y = .d (.v (.int k j)) := by rw [← opEq_ev hxy]; exact hx
        unfold mkOk at h6
        simp only [Bool.and_eq_true, decide_eq_true_eq] at h6
        obtain ⟨⟨q1, q2⟩, q3⟩ := h6
        have key := PAct0.mkSl (P := E.P) (T := E.T) (ρ := ev ps.f) (m := ps.m) (nl := nl) t x y e s ti _ k k j C.free0 ht hti (zeroPV_of t2 t3 t4 hz h1 h5) (Nat.eq_of_beq_eq_true h3) (Nat.le_of_ble_eq_true h4) hx hy q1 (Nat.le_of_ble_eq_true q2) (Nat.le_of_ble_eq_true q3)
        refine good_base (v := ⟨.sr nl, ()⟩) (r := .srf nl) (F' := [nl]) ?_ (Le.refl _) (fun _ h => h) (by simp) hK
        have e2 : absU [(nl, XO.ob (.rw e s c) (List.replicate j.toNat (zd c hz)))] = [(nl, .row e s (List.replicate j.toNat (rep c (zd c hz)).pv))] :=
          congrArg (fun L => [(nl, PO.row e s L)]) (List.map_replicate (f := fun y : c.den => (rep c y).pv))
        rw [e2]
        exact key
      · cases h
    · cases h
  · cases h
theorem xAppZ_good (C : Ctx E N f m ps nl) {t t' : Nat} {x y : Operand} (h : xAppZ E m nl t t' (evX f x) (evX f y) K = some out) : Good E ps nl (.call ⟨.builtin .append, #[x, y], #[t, t']⟩) K out := by
  generalize hv : evX f x = v at h
  unfold xAppZ at h
  split at h
  · rename_i e s kn k j ht ht' hj
    split at h
    · rename_i c ti hc hti
      split at h
      · rename_i hz
        obtain ⟨h1, hK⟩ := cond_some h
        simp only [Bool.and_eq_true, decide_eq_true_eq] at h1
        obtain ⟨⟨⟨⟨⟨h1, h2⟩, h3⟩, h4⟩, h5⟩, h6⟩ := h1
        split at hK
        · rename_i xs U ls hb
          obtain ⟨h7, hK⟩ := cond_some hK
          simp only [lenOk, Bool.and_eq_true] at h7
          obtain ⟨b1, b2, b3⟩ := baseX_spec C.toAbs hb
          obtain ⟨ti', t1, t2, t3, t4, t5⟩ := cdB_spec (C.hE.cd e c hc hz)
          rw [hti] at t1; cases t1
          have hy := C.int hj
          have hx := ev_fv C.toAbs hv b1
          have key := PAct0.appz (P := E.P) (T := E.T) (ρ := ev ps.f) (m := ps.m) (nl := nl) t t' x y e s ti _ kn k _ j _ ls C.free0 ht ht' hti (zeroPV_of t2 t3 t4 hz h1 h5) (Nat.eq_of_beq_eq_true h3) (Nat.le_of_ble_eq_true h4) (by rw [hx]; exact b2) hy h6
            (by rw [lm c xs]; exact Nat.le_of_ble_eq_true h7.1) (by rw [lm c xs]; exact Nat.le_of_ble_eq_true h7.2)
          refine good_base (v := ⟨.sr nl, ()⟩) (r := .srf nl) (F' := nl :: ls) ?_ (Le.refl _) (fun _ h => h) ?_ hK
          · rw [absU_app]
            have : absU [(nl, XO.ob (.rw e s c) (xs ++ List.replicate j.toNat (zd c hz)))] = [(nl, .row e s (List.map (fun y : c.den => (rep c y).pv) xs ++ List.replicate j.toNat (rep c (zd c hz)).pv))] := by
              rw [← List.map_replicate (f := fun y : c.den => (rep c y).pv)]
              exact congrArg (fun L => [(nl, PO.row e s L)]) (List.map_append (f := fun y : c.den => (rep c y).pv) (l₁ := xs) (l₂ := List.replicate j.toNat (zd c hz)))
            rw [this]
            exact key
          · intro q hq
            rw [List.mem_append, List.mem_singleton] at hq
            rcases hq with hq | rfl
            · exact C.old rfl (b3 q hq)
            · show nl < nl + 16; omega
        · cases hK
      · cases h
    · cases h
  · cases h
mutual
theorem nsl_idem : ∀ (t : Ty) (x : t.den), t.zdk = true → t.dat = true → nslL (rep t x).pcs = (rep t x).pcs
  | .pr a b, x, hk, hd => by
    simp only [Ty.zdk, Bool.and_eq_true] at hk
    simp only [Ty.dat, Bool.and_eq_true] at hd
    show nslL ((rep a (p1 x)).pcs ++ (rep b (p2 x)).pcs) = _
    rw [nslL_app, nsl_idem a _ hk.1 hd.1, nsl_idem b _ hk.2 hd.2]; rfl
  | .ar n t, x, hk, hd => by
    simp only [Ty.zdk] at hk
    simp only [Ty.dat] at hd
    exact nsl_flat t hk hd (Subtype.val (α := List t.den) x)
  | .un, _, _, _ | .i _, _, _, _ | .bl, _, _, _ | .str, _, _, _ | .sl _, _, _, _ | .np _ _, _, _, _ | .dp _ _, _, _, _ => rfl
  | .ns, _, hk, _ => by simp [Ty.zdk] at hk
  | .nz z, _, hk, _ => by cases z <;> first | rfl | simp [Ty.zdk] at hk
  | .vp g, x, _, _ => by simp only [rep]; split <;> rfl
  | .vm g, x, _, _ => by simp only [rep]; split <;> rfl
  | .cl f t, x, _, _ => rfl
  | .rf _ _, _, _, h | .ep _ _ _, _, _, h | .sr _, _, _, h | .ss _ _, _, _, h | .as _ _ _ _ _, _, _, h | .ic _ _, _, _, h | .tp _, _, _, h | .mc _ _, _, _, h | .sm _ _, _, _, h | .ud, _, _, h | .dead, _, _, h => by simp [Ty.dat] at h
theorem nsl_flat (t : Ty) (hk : t.zdk = true) (hd : t.dat = true) : ∀ xs : List t.den, nslL (xs.flatMap fun y => (rep t y).pcs) = xs.flatMap fun y => (rep t y).pcs
  | [] => rfl
  | y :: ys => by simp only [List.flatMap_cons, nslL_app, nsl_idem t y hk hd, nsl_flat t hk hd ys]
end
theorem nsl_pv {t : Ty} {x : t.den} (hk : t.zdk = true) (hd : t.dat = true) : nsl (rep t x).pv = (rep t x).pv := by
  have h := nsl_idem t x hk hd
  cases ha : t.agg with
  | true => rw [dat_pv_agg ha]; simp only [nsl, h]
  | false =>
    rw [dat_pv_one hd ha] at h
    simp only [nslL, List.cons.injEq, and_true] at h
    exact h
theorem cvN_nsl : ∀ (t u : Ty) (x : t.den) (y : u.den), cvN t u x = some y → u.zdk = true → u.dat = true → t.dat = true → nslL (rep t x).pcs = (rep u y).pcs ∧ u.agg = t.agg := by
  have key : ∀ (t u : Ty) (x : t.den) (y : u.den), conv t u x = some y → u.zdk = true → u.dat = true → t.dat = true → nslL (rep t x).pcs = (rep u y).pcs ∧ u.agg = t.agg := by
    intro t u x y h hk hd _
    obtain ⟨h1, h2, h3, h4, h5⟩ := conv_spec t u x y h
    rw [← h1]
    exact ⟨nsl_idem u y hk hd, h5⟩
  intro t
  induction t with
  | pr a b iha ihb =>
    intro u x y h hk hd ht
    cases u with
    | pr c d =>
      simp only [cvN] at h
      simp only [Ty.zdk, Bool.and_eq_true] at hk
      simp only [Ty.dat, Bool.and_eq_true] at hd ht
      split at h
      · rename_i y' z' h1 h2
        cases h
        obtain ⟨a1, _⟩ := iha _ _ _ h1 hk.1 hd.1 ht.1
        obtain ⟨b1, _⟩ := ihb _ _ _ h2 hk.2 hd.2 ht.2
        refine ⟨?_, rfl⟩
        show nslL ((rep a (p1 x)).pcs ++ (rep b (p2 x)).pcs) = (rep c y').pcs ++ (rep d z').pcs
        rw [nslL_app, a1, b1]
      · cases h
    | _ => simp only [cvN] at h; exact key _ _ _ _ h hk hd ht
  | ns =>
    intro u x y h hk hd ht
    cases u with
    | sl u => simp only [cvN] at h; cases h; exact ⟨rfl, rfl⟩
    | _ => simp only [cvN] at h; exact key _ _ _ _ h hk hd ht
  | _ => intro u x y h hk hd ht; cases u <;> (simp only [cvN] at h; exact key _ _ _ _ h hk hd ht)
theorem cvN_pv {t u : Ty} {x : t.den} {y : u.den} (h : cvN t u x = some y) (hk : u.zdk = true) (hd : u.dat = true) (ht : t.dat = true) : nsl (rep t x).pv = (rep u y).pv := by
  obtain ⟨h1, h2⟩ := cvN_nsl t u x y h hk hd ht
  cases ha : t.agg with
  | true => rw [dat_pv_agg ha, dat_pv_agg (h2.trans ha)]; simp only [nsl, h1]
  | false =>
    rw [dat_pv_one ht ha, dat_pv_one hd (h2.trans ha)] at h1
    simp only [nslL, List.cons.injEq, and_true] at h1
    exact h1
theorem partsX_spec (A : Abs N f m ps) {c : Ty} (hk : c.zdk = true) (hd : c.dat = true) : ∀ (qs : List (Nat × Operand)) (i : Nat) (xs : List c.den), partsX c i (qs.map fun p => (p.1, evX f p.2)) = some xs →
    ∃ us : List PV, qs.map (fun p => (p.1, ev ps.f p.2)) = (us.zipIdx i).map (fun q => (q.2, FV.d q.1)) ∧ us.map nsl = List.map (fun y : c.den => (rep c y).pv) xs ∧ us.length = qs.length ∧ us.all (fits c.sz) = true
  | [], i, xs, h => by
    simp only [List.map_nil, partsX] at h
    cases h
    exact ⟨[], rfl, rfl, rfl, rfl⟩
  | (k, o) :: qs, i, xs, h => by
    simp only [List.map_cons, partsX] at h
    obtain ⟨h1, hK⟩ := cond_some h
    simp only [Bool.and_eq_true] at h1
    split at hK
    · rename_i y ys hy hys
      cases hK
      obtain ⟨us, u1, u2, u3, u4⟩ := partsX_spec A hk hd qs (i + 1) ys hys
      have hr := rep_dat _ (evX f o).x h1.2
      have ho : ev ps.f o = .d (rep _ (evX f o).x).pv := (ev_fv A rfl (told_dat h1.2)).trans hr.2.1
      have e := Nat.eq_of_beq_eq_true h1.1
      subst e
      refine ⟨(rep _ (evX f o).x).pv :: us, ?_, ?_, by simp [u3], ?_⟩
      · simp only [List.map_cons, List.zipIdx_cons, u1, ho]
      · simp only [List.map_cons, u2]
        rw [cvN_pv hy hk hd h1.2]
      · simp only [List.all_cons, u4, Bool.and_true]
        have := rep_fits _ (evX f o).x h1.2
        rw [(cvN_im (A := fun _ => true) (hd := fun _ => undef) (ow := Ow.zero) (w := default) _ _ _ _ hy).2]
        exact this
    · cases hK
theorem xBuildS_good (C : Ctx E N f m ps nl) {t len : Nat} {parts : Array (Nat × Operand)} (h : xBuildS E nl t len (parts.toList.map fun p => (p.1, evX f p.2)) K = some out) : Good E ps nl (.buildSlice t len parts) K out := by
  unfold xBuildS at h
  split at h
  · rename_i e s ht
    split at h
    · rename_i c ti hc hti
      obtain ⟨h1, hK⟩ := cond_some h
      clear h
      simp only [Bool.and_eq_true, Bool.not_eq_true', List.isEmpty_eq_false_iff] at h1
      obtain ⟨⟨⟨⟨⟨⟨h1, h2⟩, h3⟩, h4⟩, h5⟩, h6⟩, h7⟩ := h1
      have e1 := Nat.eq_of_beq_eq_true h1
      have e6 := Nat.eq_of_beq_eq_true h6
      rw [List.length_map] at e6
      split at hK
      · rename_i xs hxs
        obtain ⟨us, u1, u2, u3, u4⟩ := partsX_spec C.toAbs h5 h4 parts.toList 0 xs hxs
        have e2 : absU [(nl, XO.ob (.rw e s c) xs)] = [(nl, .row e s (us.map nsl))] := by rw [u2]; rfl
        have e7 : len = us.length := by rw [u3]; exact e6
        refine good_base (v := ⟨.sr nl, ()⟩) (r := .srf nl) (F' := [nl]) ?_ (Le.refl _) (fun _ h => h) (by simp) hK
        rw [e2]
        by_cases hz : us.length = 0
        · have hu : us = [] := List.eq_nil_of_length_eq_zero hz
          subst hu
          have hp : parts.toList = [] := List.eq_nil_of_length_eq_zero u3.symm
          rw [e7]
          exact .bslice0 t parts e s ti C.free0 ht hti h2 hp
        · exact .bslice t len parts e s ti us C.free0 ht hti h2 (Nat.le_of_ble_eq_true h3) (by omega) (by rw [← e7]; exact Nat.le_of_ble_eq_true h7) e7 u1 (by rw [e1]; exact u4)
      · cases hK
    · cases h
  · cases h
theorem plB_spec {pl : Nat → Option (Nat × Nat)} {k o s : Nat} (h : plB pl k o s = true) : pl k = some (o, s) := by
  unfold plB at h
  split at h
  · rename_i o' s' hp
    simp only [Bool.and_eq_true] at h
    rw [hp, Nat.eq_of_beq_eq_true h.1, Nat.eq_of_beq_eq_true h.2]
  · cases h
theorem ar_set {n : Nat} {c : Ty} {x : (Ty.ar n c).den} {y : c.den} {k : Nat} (hk : k < n) (hc : c.cel = true) : (rep (.ar n c) (sA (n := n) (α := c.den) x ⟨k, hk⟩ y)).cells = splice (rep (.ar n c) x).cells (k * c.sz) (rep c y).cells ∧ k * c.sz + c.sz ≤ (rep (.ar n c) x).cells.length := by
  let xs : List c.den := Subtype.val (p := fun xs : List c.den => xs.length = n) x
  have hl : xs.length = n := Subtype.property (p := fun xs : List c.den => xs.length = n) x
  have hj : k < xs.length := by omega
  have hsp := flatMap_split (fun y => (rep c y).cells) xs k hj
  have hpl : ((xs.take k).flatMap fun y => (rep c y).cells).length = k * c.sz := by
    rw [flatMap_len _ c.sz (fun y => rep_len c y hc), List.length_take]; congr 1; omega
  have hce : (rep c xs[k]).cells.length = c.sz := rep_len c _ hc
  have hy : (rep c y).cells.length = c.sz := rep_len c _ hc
  have hx : (rep (.ar n c) x).cells = (xs.take k).flatMap (fun y => (rep c y).cells) ++ (rep c xs[k]).cells ++ (xs.drop (k + 1)).flatMap fun y => (rep c y).cells := hsp
  refine ⟨?_, by rw [hx]; simp only [List.length_append, hpl, hce]; omega⟩
  show ((xs.set k y).flatMap fun y => (rep c y).cells) = _
  have hj' : k < (xs.set k y).length := by rw [List.length_set]; exact hj
  rw [flatMap_split _ (xs.set k y) k hj', List.take_set_of_le (Nat.le_refl _), List.drop_set_of_lt (Nat.lt_succ_self _), List.getElem_set_self, hx]
  unfold splice
  rw [List.append_assoc, List.append_assoc ((xs.take k).flatMap _), List.take_left' hpl, ← List.drop_drop, List.drop_left' hpl, List.drop_left' (by rw [hce, hy])]
  exact (List.append_assoc _ _ _).symm
theorem fill1_spec {pl : Nat → Option (Nat × Nat)} {k : Nat} {u v v' : XV} (hc : v.t.cel = true) (h : fill1 pl k u v = some v') :
    ∃ off s, v'.t.cel = true ∧ u.t.cel = true ∧ u.t.sz = s ∧ pl k = some (off, s) ∧ v'.cells = splice v.cells off u.cells ∧ off + s ≤ v.cells.length := by
  unfold fill1 at h
  split at h
  · rename_i n c x
    split at h
    · rename_i hk
      split at h
      · rename_i y hy
        obtain ⟨h1, hK⟩ := cond_some h
        cases hK
        simp only [Bool.and_eq_true] at h1
        have hkn : k < n := by simpa using hk
        obtain ⟨c1, c2, c3, _, _⟩ := conv_spec _ _ _ _ hy
        obtain ⟨s1, s2⟩ := ar_set (x := x) (y := y) hkn h1.2
        refine ⟨k * c.sz, c.sz, hc, h1.1.2, c2.symm, plB_spec h1.1.1, ?_, s2⟩
        show (rep (.ar n c) _).cells = _
        rw [s1, c1]; rfl
      · cases h
    · cases h
  · split at h
    · rename_i o' w v'' hg hs
      obtain ⟨h1, hK⟩ := cond_some h
      cases hK
      simp only [Bool.and_eq_true] at h1
      obtain ⟨⟨h1, h2⟩, h3⟩ := h1
      obtain ⟨g1, pre, post, hlies, g4⟩ := getF_spec k v.t v.x o' w hc hg
      obtain ⟨q1, q2, q3, q4⟩ := g4 u v' h2 hs
      have e3 := Nat.eq_of_beq_eq_true h3
      obtain ⟨s1, s2⟩ := Lies.splice (v := v) hlies g1 h2 e3
      refine ⟨o', w.t.sz, q1, h2, e3, plB_spec h1, q2.trans s1.symm, ?_⟩
      have : u.cells.length = u.t.sz := rep_len _ _ h2
      rw [this, e3] at s2
      exact s2
    · cases h
theorem fillX_spec (A : Abs N f m ps) {pl : Nat → Option (Nat × Nat)} : ∀ (qs : List (Nat × Operand)) (v r : XV), v.t.cel = true → fillX pl v (qs.map fun p => (p.1, evX f p.2)) = some r → r.t.cel = true ∧ pfill pl v.cells (qs.map fun p => (p.1, ev ps.f p.2)) = some r.cells
  | [], v, r, hc, h => by
    simp only [List.map_nil, fillX] at h ⊢
    cases h
    exact ⟨hc, rfl⟩
  | (k, o) :: qs, v, r, hc, h => by
    simp only [List.map_cons, fillX] at h ⊢
    split at h
    · rename_i v' h1
      obtain ⟨off, s, hc', hu, hs, hp, hcells, hle⟩ := fill1_spec hc h1
      obtain ⟨g1, g2⟩ := fillX_spec A qs v' r hc' h
      refine ⟨g1, ?_⟩
      have ho : ev ps.f o = (evX f o).fv := ev_fv A rfl (told_cel hu)
      have hfc : fcells (evX f o).fv = some (evX f o).cells := rep_fcells _ _ hu
      have hl : (evX f o).cells.length = s := (rep_len _ _ hu).trans hs
      simp only [pfill, hp, ho, hfc, hl]
      have hb : (Nat.beq s s && Nat.ble (off + s) v.cells.length) = true := by
        simp only [Bool.and_eq_true]
        exact ⟨by simp, Nat.ble_eq_true_of_le hle⟩
      rw [hb]
      simp only [cond_true]
      rw [← hcells]
      exact g2
    · cases h
theorem xBuild_good (C : Ctx E N f m ps nl) {t : Nat} {parts : Array (Nat × Operand)} (h : xBuild E t (parts.toList.map fun p => (p.1, evX f p.2)) K = some out) : Good E ps nl (.build t parts) K out := by
  unfold xBuild at h
  split at h
  · rename_i z pl hz hpl
    obtain ⟨c, hc, hz⟩ := Option.bind_eq_some_iff.1 hz
    obtain ⟨z1, z2, z3, z4, z5⟩ := zX_spec hz
    obtain ⟨ti, t1, t2, t3, t4, t5⟩ := cdB_spec (C.hE.cd t c hc z1)
    split at h
    · rename_i r hr
      obtain ⟨h1, hK⟩ := cond_some h
      obtain ⟨r1, r2⟩ := fillX_spec C.toAbs parts.toList z r (dat_cel _ z3) hr
      refine good_val (v := r) ?_ (fun _ h => h) hK
      have e1 : z.cells = ti.zero.map fun z => FV.d z.pv := by
        show (rep z.t z.x).cells = _
        rw [(rep_dat z.t z.x z3).1, z2, t2, List.map_map]; rfl
      rw [show r.fv = mkAgg r.cells from rep_agg _ _ h1]
      exact .build t parts ti pl r.cells t1 t3 hpl (by rw [← e1]; exact r2)
    · cases h
  · cases h
theorem capT_cells : ∀ (vs : List XV), vs.all one1 = true → (rep (capT vs).t (capT vs).x).cells = vs.map XV.fv
  | [], _ => rfl
  | v :: r, h => by
    simp only [List.all_cons, Bool.and_eq_true] at h
    have h1 := h.1
    simp only [one1, Bool.and_eq_true, Bool.not_eq_true'] at h1
    show (rep v.t v.x).cells ++ (rep (capT r).t (capT r).x).cells = _
    rw [capT_cells r h.2, rep_one v.t v.x h1.1 h1.2]; rfl
theorem xMkFn_good (C : Ctx E N f m ps nl) {g : FuncId} {caps : Array Operand} (h : xMkFn g (caps.toList.map (evX f)) K = some out) : Good E ps nl (.makeFunc (.func g) #[] caps) K out := by
  unfold xMkFn at h
  obtain ⟨h1, hK⟩ := cond_some h
  have hmap : caps.toList.map (ev ps.f) = (caps.toList.map (evX f)).map XV.fv := by
    rw [List.map_map]
    apply List.map_congr_left
    intro o ho
    have := List.all_eq_true.1 h1 (evX f o) (List.mem_map_of_mem ho)
    simp only [one1, Bool.and_eq_true] at this
    exact ev_fv C.toAbs rfl (told_cel this.1)
  refine good_val (v := ⟨.cl g (capT (caps.toList.map (evX f))).t, (capT (caps.toList.map (evX f))).x⟩) ?_ (fun _ h => h) hK
  show PAct0 _ _ _ _ _ _ (mkClo g (rep (capT (caps.toList.map (evX f))).t (capT (caps.toList.map (evX f))).x).cells) _ _
  rw [capT_cells _ h1]
  refine .makeFunc g caps _ hmap ?_
  rw [List.all_eq_true]
  intro q hq
  obtain ⟨v, hv, rfl⟩ := List.mem_map.1 hq
  have := List.all_eq_true.1 h1 v hv
  simp only [one1, Bool.and_eq_true, Bool.not_eq_true'] at this
  obtain ⟨t, x⟩ := v
  have h2 := this.1
  have h3 := this.2
  cases t with
  | i k => rfl
  | vp g => simp only [XV.fv, XV.rep, rep]; split <;> rfl
  | vm g => simp only [XV.fv, XV.rep, rep]; split <;> rfl
  | nz z => cases z <;> rfl
  | cl f t => show oneFV (mkClo f _) = true; unfold mkClo; split <;> rfl
  | pr a b => simp [Ty.agg] at h3
  | ar n t => simp [Ty.agg] at h3
  | un => simp [Ty.agg] at h3
  | tp => simp [Ty.cel] at h2
  | mc => simp [Ty.cel] at h2
  | sm => simp [Ty.cel] at h2
  | ud => simp [Ty.cel] at h2
  | dead => simp [Ty.cel] at h2
  | _ => rfl
end
end Go.Proofs.YtnkdanobhgofbaaGreatDoor.pv
