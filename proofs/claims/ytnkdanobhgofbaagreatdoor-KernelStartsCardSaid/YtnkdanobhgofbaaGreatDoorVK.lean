/- The interpreter's operations are acts: parts, elements, variables, numbers. -/
import Derived.Test.YtnkdanobhgofbaaGreatDoorVI
namespace Go.Proofs.YtnkdanobhgofbaaGreatDoor.pv
set_option linter.all false
open Go.RowKit
section
variable {α : Type} {E : Env} {N : Nat} {f : List (Nat × XV)} {m : List (Nat × XO)} {ps : PS} {nl : Nat} {K : KT α} {out : α}
theorem Ctx.hT (C : Ctx E N f m ps nl) : TOk E.P E.T := C.hE.hT
/-- an act told by what it does -/
theorem good_ext {op : Op} {v : XV} {U : List (Nat × XO)} {F : List Nat} {r : FV} (m0 : List (Nat × PO)) (hm0 : ∀ q ∈ m0, ps.m[q.1]? = some q.2) (hU : ∀ q ∈ absU U, q.1 ∈ m0.map (·.1))
    (h : Ext E.P E.T op (op.operands.toList.map (ev ps.f)) m0 r (absU U)) (hv : Le v.fv r) (hF : ∀ q ∈ m0, q.1 ∈ F) (hlt : ∀ q ∈ U, q.1 < nl + 16) (hK : K v U F = some out) : Good E ps nl op K out :=
  ⟨v, U, F, ⟨⟨r, _, .ext hm0 hU h, hv, fun l hl => by
    obtain ⟨q, hq, rfl⟩ := List.mem_map.1 hl
    exact hF q hq⟩, hlt⟩, hK⟩
theorem absU_one {l : Nat} {o : XO} : absU [(l, o)] = [(l, absO o)] := rfl
theorem getB_spec {g l : Nat} {t : Ty} {xs : List t.den} (h : getB m g = some (l, ⟨t, xs⟩)) : lom m l = .ob (.ab g t) xs := by
  unfold getB at h
  split at h
  · rename_i l' hl
    split at h
    · rename_i g' t' xs' ho
      obtain ⟨h1, h2⟩ := cond_some h
      have e := Nat.eq_of_beq_eq_true h1
      subst e
      cases h2
      exact ho
    · cases h
  · cases h
theorem Ctx.ab (C : Ctx E N f m ps nl) {g l : Nat} {t : Ty} {xs : List t.den} (h : getB m g = some (l, ⟨t, xs⟩)) : ps.m[l]? = some (.cu (abC g t xs) []) ∧ l < nl + 16 :=
  ⟨C.at (getB_spec h) (by simp), C.old (getB_spec h) (by simp)⟩
theorem ops1 {x : Operand} {y : FV} {op : Op} (h : op.operands.toList = [x]) (hx : ev ps.f x = y) : op.operands.toList.map (ev ps.f) = [y] := by rw [h]; simp [hx]
theorem ops2 {x x' : Operand} {y y' : FV} {op : Op} (h : op.operands.toList = [x, x']) (hx : ev ps.f x = y) (hx' : ev ps.f x' = y') : op.operands.toList.map (ev ps.f) = [y, y'] := by rw [h]; simp [hx, hx']
theorem xLoad_good (C : Ctx E N f m ps nl) {t : Nat} {x : Operand} (h : xLoad E.T m t (evX f x) K = some out) : Good E ps nl (.load t x) K out := by
  refine xLoad_ok C (fun g p d hv h => ?_) h
  simp only [xLoad] at h
  split at h
  · rename_i l c xs hg
    obtain ⟨y, hy, h⟩ := bind_some h
    split at h
    · rename_i r hr
      obtain ⟨hb, h⟩ := cond_some h
      simp only [Bool.and_eq_true] at hb
      obtain ⟨hm, hlt⟩ := C.ab hg
      have hx : ev ps.f x = _ := ev_of C.toAbs hv rfl
      obtain ⟨hc, pre, post, hlies, _⟩ := getP_spec p _ _ r (dat_cel _ hb.2) hr
      refine good_ext (r := r.fv) [(l, .cu (abC g c xs) [])] (by simpa using hm) (by simp [absU]) ?_ (Le.refl _) (by simp) (by simp) h
      rw [ops1 rfl hx]
      refine ext_npLoad (lget_some hy) ?_
      rcases ldOk_cases hb.1 with ⟨h1, h2, h3⟩ | ⟨h1, h2, h3⟩
      · obtain ⟨q, hq, e⟩ := hlies.dat hb.2 h3 h2
        exact .inl ⟨h1, q, hq, e⟩
      · obtain ⟨g1, g2⟩ := hlies.datA hb.2 hc h2
        exact .inr ⟨_, h1, h3, g1, g2⟩
    · cases h
  · cases h
theorem xStore_good (C : Ctx E N f m ps nl) {t : Nat} {x y : Operand} (h : xStore E.T m t (evX f x) (evX f y) K = some out) : Good E ps nl (.store t x y) K out := by
  refine xStore_ok C (fun g p d hv h => ?_) h
  unfold xStore at h
  obtain ⟨hb0, h⟩ := cond_some h
  simp only [Bool.and_eq_true] at hb0
  obtain ⟨hu1, hu2⟩ := hb0
  generalize hu : evX f y = u at h hu1 hu2
  have hsz : tsz E.T t = some u.t.sz := by
    split at hu2
    · rename_i s hs; rw [hs, Nat.eq_of_beq_eq_true hu2]
    · cases hu2
  have hye : ev ps.f y = u.fv := by
    obtain ⟨ut, ux⟩ := u
    refine ev_of C.toAbs hu ?_
    cases ut <;> first | rfl | simp [Ty.cel] at hu1
  simp only at h
  split at h
  · rename_i l c xs hg
    obtain ⟨hb, h⟩ := cond_some h
    simp only [Bool.and_eq_true] at hb
    obtain ⟨z, hz, h⟩ := bind_some h
    split at h
    · rename_i w r hgp hs
      split at h
      · rename_i z' hz'
        obtain ⟨hm, hlt⟩ := C.ab hg
        have hx : ev ps.f x = _ := ev_of C.toAbs hv rfl
        obtain ⟨p1, p2⟩ := put_dat hb.1 hb.2 hgp hs hz'
        have hpu := rep_dat u.t u.x hb.2
        have hps : psz (rep u.t u.x).pv = u.t.sz := (fits_spec (rep_fits u.t u.x hb.2)).2
        refine good_ext (r := .dead) [(l, .cu (abC g c xs) [])] (by simpa using hm) (by simp [absU]) ?_ (.inl rfl) (by simp) (by simpa using hlt) h
        rw [ops2 rfl hx (hye.trans hpu.2.1)]
        exact ext_npStore (c := c) (y' := z') (lget_some hz) hpu.2.2.2 (by rw [hps]; exact hsz) (by rw [hps, rep_pcs_len _ _ hb.1]; exact p2) (by rw [hpu.2.2.1]; exact p1)
      · cases h
    · cases h
  · cases h
theorem offP_addF (k o : Nat) : ∀ (p : List Step) (d : denP p), offP (p ++ [.f k o]) (addF k o p d) = offP p d + o
  | [], _ => by show o + 0 = 0 + o; omega
  | .f a b :: p, d => by
    show b + offP (p ++ [.f k o]) (addF k o p d) = b + offP p d + o
    rw [offP_addF k o p d]; omega
  | .x n s :: p, d => by
    show _ * s + offP (p ++ [.f k o]) (addF k o p _) = _ * s + offP p _ + o
    rw [offP_addF k o p]
    show _ * s + _ = _ * s + _ + o
    simp only [addF]
    omega
theorem offP_addI (n s : Nat) (e : Fin n) : ∀ (p : List Step) (d : denP p), offP (p ++ [.x n s]) (addI n s e p d) = offP p d + e.1 * s
  | [], _ => by show e.1 * s + 0 = 0 + e.1 * s; omega
  | .f a b :: p, d => by
    show b + offP (p ++ [.x n s]) (addI n s e p d) = b + offP p d + e.1 * s
    rw [offP_addI n s e p d]; omega
  | .x n' s' :: p, d => by
    show _ * s' + offP (p ++ [.x n s]) (addI n s e p _) = _ * s' + offP p _ + e.1 * s
    rw [offP_addI n s e p]
    simp only [addI]
    omega
theorem xFieldA_good (C : Ctx E N f m ps nl) {s k : Nat} {x : Operand} (h : xFieldA E.T s (evX f x) k K = some out) : Good E ps nl (.fieldAddr s x k) K out := by
  unfold xFieldA at h
  split at h
  · rename_i o ft ht
    generalize hv : evX f x = v at h
    obtain ⟨ty, d⟩ := v
    cases ty with
    | rf l p =>
      simp only at h
      have hx : ev ps.f x = _ := ev_of C.toAbs hv rfl
      refine good_val ?_ (fun _ h => h) h
      rw [show (mkRf l (p ++ [.f k o]) (addF k o p d)).fv = .ref l (offP p d + o) from congrArg (FV.ref l) (offP_addF k o p d)]
      exact .fieldP s x k o ft l _ ht hx
    | ep l s0 p =>
      simp only at h
      have hx : ev ps.f x = _ := ev_of C.toAbs hv rfl
      refine good_val ?_ (fun _ h => h) h
      rw [show (mkEp l s0 (p ++ [.f k o]) (Prod.fst (α := Nat) (β := denP p) d) (addF k o p (Prod.snd (α := Nat) (β := denP p) d))).fv = .ept l s0 (Prod.fst (α := Nat) (β := denP p) d) (offP p (Prod.snd (α := Nat) (β := denP p) d) + o) from congrArg (FV.ept l s0 _) (offP_addF k o p _)]
      exact .fieldE s x k o ft l _ _ _ ht hx
    | dp c p =>
      simp only at h
      have hx : ev ps.f x = _ := ev_of C.toAbs hv rfl
      refine good_val ?_ (fun _ h => h) h
      rw [show (mkDp c (p ++ [.f k o]) (Prod.fst (α := c.den) (β := denP p) d) (addF k o p (Prod.snd (α := c.den) (β := denP p) d))).fv = .d (.iptr (rep c (Prod.fst (α := c.den) (β := denP p) d)).pcs (offP p (Prod.snd (α := c.den) (β := denP p) d) + o)) from congrArg (fun o => FV.d (.iptr _ o)) (offP_addF k o p _)]
      exact .fieldI s x k o ft _ _ ht hx
    | np g p =>
      simp only at h
      have hx : ev ps.f x = _ := ev_of C.toAbs hv rfl
      refine good_ext (r := .d (.vp g (Prod.fst (α := Nat) (β := denP p) d) (offP p (Prod.snd (α := Nat) (β := denP p) d) + o))) [] (by simp) (by simp [absU]) ?_ (.inr (congrArg (fun o => FV.d (.vp g _ o)) (offP_addF k o p _)).symm) (by simp) (by simp) h
      rw [ops1 rfl hx]
      exact ext_npField ht
    | _ => simp at h
  · cases h
theorem getF_agg : ∀ (k : Nat) (t : Ty) (x : t.den) (q : Nat × XV), getF k t x = some q → ∃ a b, t = .pr a b := by
  intro k t x q h
  cases t with
  | pr a b => exact ⟨a, b, rfl⟩
  | _ => cases k <;> simp [getF] at h
theorem xField_good (C : Ctx E N f m ps nl) {s k : Nat} {x : Operand} (h : xField E.T s (evX f x) k K = some out) : Good E ps nl (.field s x k) K out := by
  generalize hv : evX f x = v at h
  unfold xField at h
  split at h
  · rename_i o ft o' r ht hg
    obtain ⟨hb, hK⟩ := cond_some h
    clear h
    simp only [Bool.and_eq_true] at hb
    obtain ⟨⟨hb1, hb2⟩, hb3⟩ := hb
    have e := Nat.eq_of_beq_eq_true hb1
    subst e
    obtain ⟨vt, vx⟩ := v
    obtain ⟨a, b, rfl⟩ := getF_agg _ _ _ _ hg
    have hx : ev ps.f x = mkAgg (rep (.pr a b) vx).cells := ev_of C.toAbs hv rfl
    have hag : aggCells (ev ps.f x) = some (rep (.pr a b) vx).cells := by rw [hx]; exact aggCells_mkAgg _
    obtain ⟨hc, pre, post, hlies, _⟩ := getF_spec k _ _ o r hb3 hg
    rcases ldOk_cases hb2 with ⟨h1, h2, h3⟩ | ⟨h1, h2, h3⟩
    · exact good_val (.fieldS s x k o ft _ _ ht h1 hag (hlies.one h2 h3)) (fun _ h => h) hK
    · have hl : r.cells.length = r.t.sz := rep_len _ _ hc
      obtain ⟨g1, g2⟩ := hlies.drop
      rw [hl] at g1 g2
      refine good_val ?_ (fun _ h => h) hK
      rw [show r.fv = mkAgg r.cells from rep_agg _ _ h2, ← g1]
      exact .fieldA s x k o ft _ _ ht h1 h3 hag g2
  · cases h
theorem asI_spec {v : XV} {k : IntKind} {j : Int} (h : asI v = some (k, j)) : v = ⟨.i k, j⟩ := by
  obtain ⟨t, x⟩ := v
  cases t <;> simp [asI] at h
  obtain ⟨rfl, rfl⟩ := h
  rfl
theorem Ctx.int (C : Ctx E N f m ps nl) {x : Operand} {k : IntKind} {j : Int} (h : asI (evX f x) = some (k, j)) : ev ps.f x = .d (.v (.int k j)) := by
  have := asI_spec h
  exact ev_of C.toAbs (t := .i k) (y := j) this rfl
theorem inb_nat {j : Int} {n : Nat} (h : inb j n = true) : 0 ≤ j ∧ j.toNat < n := ⟨(inb_le h).1, inb_lt h⟩
theorem xIdxA_good (C : Ctx E N f m ps nl) {t : Nat} {x i : Operand} (h : xIdxA E.T m t (evX f x) (evX f i) K = some out) : Good E ps nl (.indexAddr t x i) K out := by
  unfold xIdxA at h
  split at h
  · rename_i ik j hi
    have hi' := C.int hi
    generalize hv : evX f x = v at h
    obtain ⟨ty, d⟩ := v
    cases ty with
    | rf l p =>
      simp only at h
      split at h
      · rename_i n e s ht
        split at h
        · rename_i hj
          have hx : ev ps.f x = _ := ev_of C.toAbs hv rfl
          refine good_val ?_ (fun _ h => h) h
          rw [show (mkRf l (p ++ [.x n s]) (addI n s ⟨j.toNat, inb_lt hj⟩ p d)).fv = .ref l (offP p d + j.toNat * s) from congrArg (FV.ref l) (offP_addI n s _ p d)]
          exact .idxP t x i n e s l _ ik j ht hx hi' (inb_le hj).1 (inb_le hj).2
        · cases h
      · cases h
    | ep l s0 p =>
      simp only at h
      split at h
      · rename_i n e s ht
        split at h
        · rename_i hj
          have hx : ev ps.f x = _ := ev_of C.toAbs hv rfl
          refine good_val ?_ (fun _ h => h) h
          rw [show (mkEp l s0 (p ++ [.x n s]) (Prod.fst (α := Nat) (β := denP p) d) (addI n s ⟨j.toNat, inb_lt hj⟩ p (Prod.snd (α := Nat) (β := denP p) d))).fv = .ept l s0 (Prod.fst (α := Nat) (β := denP p) d) (offP p (Prod.snd (α := Nat) (β := denP p) d) + j.toNat * s) from congrArg (FV.ept l s0 _) (offP_addI n s _ p _)]
          exact .idxE t x i n e s l _ _ _ ik j ht hx hi' (inb_le hj).1 (inb_le hj).2
        · cases h
      · cases h
    | dp c p =>
      simp only at h
      split at h
      · rename_i n e s ht
        split at h
        · rename_i hj
          have hx : ev ps.f x = _ := ev_of C.toAbs hv rfl
          refine good_val ?_ (fun _ h => h) h
          rw [show (mkDp c (p ++ [.x n s]) (Prod.fst (α := c.den) (β := denP p) d) (addI n s ⟨j.toNat, inb_lt hj⟩ p (Prod.snd (α := c.den) (β := denP p) d))).fv = .d (.iptr (rep c (Prod.fst (α := c.den) (β := denP p) d)).pcs (offP p (Prod.snd (α := c.den) (β := denP p) d) + j.toNat * s)) from congrArg (fun o => FV.d (.iptr _ o)) (offP_addI n s _ p _)]
          exact .idxI t x i n e s _ _ ik j ht hx hi' (inb_le hj).1 (inb_le hj).2
        · cases h
      · cases h
    | np g p =>
      simp only at h
      split at h
      · rename_i n e s ht
        split at h
        · rename_i hj
          have hx : ev ps.f x = _ := ev_of C.toAbs hv rfl
          have e2 : (mkNp g (p ++ [.x n s]) (Prod.fst (α := Nat) (β := denP p) d) (addI n s ⟨j.toNat, inb_lt hj⟩ p (Prod.snd (α := Nat) (β := denP p) d))).fv = FV.d (.vp g (Prod.fst (α := Nat) (β := denP p) d) (offP p (Prod.snd (α := Nat) (β := denP p) d) + j.toNat * s)) := congrArg (fun o => FV.d (.vp g (Prod.fst (α := Nat) (β := denP p) d) o)) (offP_addI n s ⟨j.toNat, inb_lt hj⟩ p (Prod.snd (α := Nat) (β := denP p) d))
          refine good_ext (r := .d (.vp g (Prod.fst (α := Nat) (β := denP p) d) (offP p (Prod.snd (α := Nat) (β := denP p) d) + j.toNat * s))) [] (by simp) (by simp [absU]) ?_ (.inr e2.symm) (by simp) (by simp) h
          rw [ops2 rfl hx hi']
          exact ext_npIdx ht (inb_le hj).1 (inb_le hj).2
        · cases h
      · cases h
    | sl c =>
      simp only at h
      split at h
      · rename_i e s ht
        obtain ⟨hb, h⟩ := cond_some h
        simp only [Bool.and_eq_true, decide_eq_true_eq] at hb
        obtain ⟨⟨hb1, hb2⟩, hb3⟩ := hb
        obtain ⟨y, hy, h⟩ := bind_some h
        have hx : ev ps.f x = .d (.sl (List.map (fun y : c.den => (rep c y).pv) d)) := ev_of C.toAbs hv rfl
        refine good_val ?_ (fun _ h => h) h
        have e1 := Nat.eq_of_beq_eq_true hb1
        have := PAct0.idxS (P := E.P) (m := ps.m) (nl := nl) t x i e s _ _ ik j ht hx hi' hb3 (row_at (lget_some hy)) (by rw [e1]; exact rep_fits c y hb2)
        rw [(rep_dat c y hb2).2.2.1] at this
        exact this
      · cases h
    | sr l =>
      simp only at h
      split at h
      · rename_i e s e' s' c xs ht ho
        obtain ⟨hb, hK⟩ := cond_some h
        clear h
        simp only [Bool.and_eq_true] at hb
        obtain ⟨⟨hb1, hb2⟩, hb3⟩ := hb
        have e1 := Nat.eq_of_beq_eq_true hb1
        have e2 := Nat.eq_of_beq_eq_true hb2
        subst e1; subst e2
        have hx : ev ps.f x = .srf l := ev_of C.toAbs hv rfl
        exact good_val (.idxR t x i e s l _ ik j ht hx (C.at ho (by simp)) hi' (inb_le hb3).1 (Nat.lt_of_lt_of_eq (inb_lt hb3) (List.length_map (as := (xs : List c.den)) (f := fun y : c.den => (rep c y).pv)).symm)) (fun _ h => h) hK
      · cases h
    | as l p n s ag =>
      simp only at h
      split at h
      · rename_i e s' ht
        split at h
        · rename_i hj
          obtain ⟨hb, hK⟩ := cond_some h
          clear h
          simp only [Bool.and_eq_true] at hb
          have e1 := Nat.eq_of_beq_eq_true hb.1
          subst e1
          have hx : ev ps.f x = _ := ev_of C.toAbs hv rfl
          have hj2 := inb_le hb.2
          refine good_val ?_ (fun _ h => h) hK
          have := PAct0.idxA (P := E.P) (m := ps.m) (nl := nl) t x i e s l _ _ _ ag ik j ht hx hi' hj2.1 hj2.2
          have e2 : (mkRf l (p ++ [.x n s]) (addI n s ⟨(j + (Prod.snd (α := denP p) (β := Nat × Nat) d).1).toNat, inb_lt hj⟩ p (Prod.fst (α := denP p) (β := Nat × Nat) d))).fv = .ref l (offP p (Prod.fst (α := denP p) (β := Nat × Nat) d) + (Prod.snd (α := denP p) (β := Nat × Nat) d).1 * s + j.toNat * s) := by
            refine congrArg (FV.ref l) ((offP_addI n s _ p _).trans ?_)
            show _ + (j + ((Prod.snd (α := denP p) (β := Nat × Nat) d).1 : Int)).toNat * s = _
            have : (j + ((Prod.snd (α := denP p) (β := Nat × Nat) d).1 : Int)).toNat = (Prod.snd (α := denP p) (β := Nat × Nat) d).1 + j.toNat := by omega
            rw [this, Nat.add_mul]; omega
          rw [e2]
          exact this
        · cases h
      · cases h
    | _ => simp at h
  · cases h
theorem ofL_get (x : List UInt8) (i : Nat) : (ofL x)[i]? = x[i]? := by
  unfold ofL
  simp only [getElem?_def]
  by_cases h : i < x.length
  · have h' : i < (ByteArray.mk x.toArray).size := by simpa [ByteArray.size] using h
    rw [dif_pos h, dif_pos h']
    rfl
  · have h' : ¬ i < (ByteArray.mk x.toArray).size := by simpa [ByteArray.size] using h
    rw [dif_neg h, dif_neg h']
theorem xIdx_good (C : Ctx E N f m ps nl) {t : Nat} {x i : Operand} (h : xIdx E.T t (evX f x) (evX f i) K = some out) : Good E ps nl (.index t x i) K out := by
  unfold xIdx at h
  split at h
  · rename_i ik j hi
    have hi' := C.int hi
    generalize hv : evX f x = v at h
    obtain ⟨ty, d⟩ := v
    cases ty with
    | ar mm c =>
      simp only at h
      split at h
      · rename_i n e s ht
        split at h
        · rename_i hh
          split at h
          · rename_i hj
            obtain ⟨hb, h⟩ := cond_some h
            simp only [Bool.and_eq_true] at hb
            have hx : ev ps.f x = mkAgg (rep (.ar mm c) d).cells := ev_of C.toAbs hv rfl
            have hag : aggCells (ev ps.f x) = some (rep (.ar mm c) d).cells := by rw [hx]; exact aggCells_mkAgg _
            have hg : getP [.x n s] (Prod.mk (⟨j.toNat, inb_lt hj⟩ : Fin n) ()) ⟨.ar mm c, d⟩ = some ⟨c, gA (n := mm) (α := c.den) d (finC hh ⟨j.toNat, inb_lt hj⟩)⟩ := by
              simp only [getP]
              rw [dif_pos hh]
            obtain ⟨hc, pre, post, hlies, _⟩ := getP_spec _ _ _ _ (show (Ty.ar mm c).cel = true from hb.2) hg
            have hlies : Lies ⟨.ar mm c, d⟩ ⟨c, gA (n := mm) (α := c.den) d (finC hh ⟨j.toNat, inb_lt hj⟩)⟩ (j.toNat * s) pre post := hlies
            have hs : s = c.sz := by
              simp only [Bool.and_eq_true] at hh
              exact Nat.eq_of_beq_eq_true hh.2
            rcases ldOk_cases hb.1 with ⟨h1, h2, h3⟩ | ⟨h1, h2, h3⟩
            · exact good_val (.idxVS t x i n e s _ ik j _ ht h1 hag hi' (inb_le hj).1 (inb_le hj).2 (hlies.one h2 h3)) (fun _ h => h) h
            · have hl : (XV.mk c (gA (n := mm) (α := c.den) d (finC hh ⟨j.toNat, inb_lt hj⟩))).cells.length = s := (rep_len _ _ hc).trans hs.symm
              obtain ⟨g1, g2⟩ := hlies.drop
              rw [hl] at g1 g2
              refine good_val ?_ (fun _ h => h) h
              rw [show (XV.mk c (gA (n := mm) (α := c.den) d (finC hh ⟨j.toNat, inb_lt hj⟩))).fv = mkAgg (XV.mk c (gA (n := mm) (α := c.den) d (finC hh ⟨j.toNat, inb_lt hj⟩))).cells from rep_agg _ _ h2, ← g1]
              exact .idxVA t x i n e s _ ik j ht h1 hag hi' (inb_le hj).1 (inb_le hj).2 g2
          · cases h
        · cases h
      · cases h
    | str =>
      simp only at h
      split at h
      · rename_i ht
        obtain ⟨hb, h⟩ := cond_some h
        simp only [decide_eq_true_eq] at hb
        obtain ⟨y, hy, h⟩ := bind_some h
        have hx : ev ps.f x = .d (.v (.string (ofL d))) := ev_of C.toAbs hv rfl
        exact good_val (.idxStr t x i _ ik j y ht hx hi' hb ((ofL_get d j.toNat).trans hy)) (fun _ h => h) h
      · cases h
    | _ => simp at h
  · cases h
end
end Go.Proofs.YtnkdanobhgofbaaGreatDoor.pv
