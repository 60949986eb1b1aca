/- Regions: an act looks at its operands and its objects alone; acts apart may change places; a region in whatever order. -/
import Derived.Test.YtnkdanobhgofbaaGreatDoorQg
import Derived.Orders
namespace Go.Proofs.YtnkdanobhgofbaaGreatDoor.pv
set_option linter.all false
open Go.RowKit

section
variable {P : Program} {T : List TI}

theorem Els.frame {m m' : List PO} {x : FV} {xs : List PV} {F : List Nat} (h : Els m x xs F) (hm : ∀ l ∈ F, m'[l]? = m[l]?) : Els m' x xs F := by
  cases h with
  | sl => exact .sl _
  | nil => exact .nil
  | nnil a c => exact .nnil a c
  | row l ty sz xs h => exact .row l ty sz xs (by rw [hm l (by simp)]; exact h)
  | asl l off k c sz ag xs h => exact .asl l off k c sz ag xs (by rw [frz_frame _ fun j hj => hm j (by simpa [locs] using hj)]; exact h)
theorem Base.frame {m m' : List PO} {e s : Nat} {x : FV} {xs : List PV} {U : List (Nat × PO)} {F : List Nat} (h : Base m e s x xs U F) (hm : ∀ l ∈ F, m'[l]? = m[l]?) : Base m' e s x xs U F := by
  cases h with
  | nil => exact .nil
  | row l xs h => exact .row l xs (by rw [hm l (by simp)]; exact h)
  | part l xs k h hk => exact .part l xs k (by rw [hm l (by simp)]; exact h) hk
theorem map_agree {ρ ρ' : Operand → FV} {args : Array Operand} (h : ∀ x ∈ args, ρ' x = ρ x) : args.toList.map ρ' = args.toList.map ρ :=
  List.map_congr_left fun x hx => h x (by simpa using hx)

theorem PAct0.frame {ρ ρ' : Operand → FV} {m m' : List PO} {nl : Nat} {op : Op} {r : FV} {U : List (Nat × PO)} {F : List Nat} (h : PAct0 P T ρ m nl op r U F)
    (hρ : ∀ x ∈ op.operands, ρ' x = ρ x) (hm : ∀ l ∈ F, m'[l]? = m[l]?) (hl : m'.length = m.length) : PAct0 P T ρ' m' nl op r U F := by
  cases h with
  | move x => rw [← hρ x (by simp [Op.operands])]; exact .move x
  | assign x => rw [← hρ x (by simp [Op.operands])]; exact .assign x
  | pick c a b t h1 =>
    rw [← hρ a (by simp [Op.operands]), ← hρ b (by simp [Op.operands])]
    exact .pick c a b t ((hρ c (by simp [Op.operands])).trans h1)
  | alloc e ti h0 h1 h2 => exact .alloc e ti ((hm _ (by simp)).trans h0) h1 h2
  | box e x cs h0 h1 => exact .box e x cs ((hm _ (by simp)).trans h0) (by rw [hρ x (by simp [Op.operands])]; exact h1)
  | loadS t x l off cs r h1 h2 h3 h4 => exact .loadS t x l off cs r h1 ((hρ x (by simp [Op.operands])).trans h2) ((hm l (by simp)).trans h3) h4
  | loadA t x l off cs sz h1 h2 h3 h4 h5 => exact .loadA t x l off cs sz h1 h2 ((hρ x (by simp [Op.operands])).trans h3) ((hm l (by simp)).trans h4) h5
  | loadIS t x off cs r h1 h2 h3 => exact .loadIS t x off cs r h1 ((hρ x (by simp [Op.operands])).trans h2) h3
  | loadIA t x off cs sz h1 h2 h3 h4 => exact .loadIA t x off cs sz h1 h2 ((hρ x (by simp [Op.operands])).trans h3) h4
  | loadES t x l ty sz i off xs y r h1 h2 h3 h4 h5 h6 => exact .loadES t x l ty sz i off xs y r h1 ((hρ x (by simp [Op.operands])).trans h2) ((hm l (by simp)).trans h3) h4 h5 h6
  | loadEA t x l ty sz i off xs y k h1 h2 h3 h4 h5 h6 h7 => exact .loadEA t x l ty sz i off xs y k h1 h2 ((hρ x (by simp [Op.operands])).trans h3) ((hm l (by simp)).trans h4) h5 h6 h7
  | store t x y l off cs zs h1 h2 h3 h4 h5 => exact .store t x y l off cs zs ((hρ x (by simp [Op.operands])).trans h1) ((hm l (by simp)).trans h2) (by rw [hρ y (by simp [Op.operands])]; exact h3) h4 h5
  | storeE t x z l ty sz i off xs y zv y' h1 h2 h3 h4 h5 h6 h7 h8 h9 h10 => exact .storeE t x z l ty sz i off xs y zv y' ((hρ x (by simp [Op.operands])).trans h1) ((hm l (by simp)).trans h2) h3 h4 ((hρ z (by simp [Op.operands])).trans h5) h6 h7 h8 h9 h10
  | fieldP s x f o ft l off h1 h2 => exact .fieldP s x f o ft l off h1 ((hρ x (by simp [Op.operands])).trans h2)
  | fieldE s x f o ft l sz i off h1 h2 => exact .fieldE s x f o ft l sz i off h1 ((hρ x (by simp [Op.operands])).trans h2)
  | fieldI s x f o ft off cs h1 h2 => exact .fieldI s x f o ft off cs h1 ((hρ x (by simp [Op.operands])).trans h2)
  | fieldS s x f o ft cs r h1 h2 h3 h4 => exact .fieldS s x f o ft cs r h1 h2 (by rw [hρ x (by simp [Op.operands])]; exact h3) h4
  | fieldA s x f o ft cs sz h1 h2 h3 h4 h5 => exact .fieldA s x f o ft cs sz h1 h2 h3 (by rw [hρ x (by simp [Op.operands])]; exact h4) h5
  | idxP t x i n e s l off ik j h1 h2 h3 h4 h5 => exact .idxP t x i n e s l off ik j h1 ((hρ x (by simp [Op.operands])).trans h2) ((hρ i (by simp [Op.operands])).trans h3) h4 h5
  | idxE t x i n e s l sz q off ik j h1 h2 h3 h4 h5 => exact .idxE t x i n e s l sz q off ik j h1 ((hρ x (by simp [Op.operands])).trans h2) ((hρ i (by simp [Op.operands])).trans h3) h4 h5
  | idxI t x i n e s off cs ik j h1 h2 h3 h4 h5 => exact .idxI t x i n e s off cs ik j h1 ((hρ x (by simp [Op.operands])).trans h2) ((hρ i (by simp [Op.operands])).trans h3) h4 h5
  | idxS t x i e s xs y ik j h1 h2 h3 h4 h5 h6 => exact .idxS t x i e s xs y ik j h1 ((hρ x (by simp [Op.operands])).trans h2) ((hρ i (by simp [Op.operands])).trans h3) h4 h5 h6
  | idxR t x i e s l xs ik j h1 h2 h3 h4 h5 h6 => exact .idxR t x i e s l xs ik j h1 ((hρ x (by simp [Op.operands])).trans h2) ((hm l (by simp)).trans h3) ((hρ i (by simp [Op.operands])).trans h4) h5 h6
  | idxVS t x i n e s cs ik j r h1 h2 h3 h4 h5 h6 h7 => exact .idxVS t x i n e s cs ik j r h1 h2 (by rw [hρ x (by simp [Op.operands])]; exact h3) ((hρ i (by simp [Op.operands])).trans h4) h5 h6 h7
  | idxVA t x i n e s cs ik j h1 h2 h3 h4 h5 h6 h7 => exact .idxVA t x i n e s cs ik j h1 h2 (by rw [hρ x (by simp [Op.operands])]; exact h3) ((hρ i (by simp [Op.operands])).trans h4) h5 h6 h7
  | extract x i cs r h1 h2 => exact .extract x i cs r (by rw [hρ x (by simp [Op.operands])]; exact h1) h2
  | bin op t x y yt a b z h1 h2 h3 => exact .bin op t x y yt a b z ((hρ x (by simp [Op.operands])).trans h1) ((hρ y (by simp [Op.operands])).trans h2) h3
  | shl t x y yt k k' a b h1 h2 h3 => exact .shl t x y yt k k' a b ((hρ x (by simp [Op.operands])).trans h1) ((hρ y (by simp [Op.operands])).trans h2) h3
  | shr t x y yt k k' a b h1 h2 h3 => exact .shr t x y yt k k' a b ((hρ x (by simp [Op.operands])).trans h1) ((hρ y (by simp [Op.operands])).trans h2) h3
  | quo t x y yt k a b h1 h2 h3 => exact .quo t x y yt k a b ((hρ x (by simp [Op.operands])).trans h1) ((hρ y (by simp [Op.operands])).trans h2) h3
  | rem t x y yt k a b h1 h2 h3 => exact .rem t x y yt k a b ((hρ x (by simp [Op.operands])).trans h1) ((hρ y (by simp [Op.operands])).trans h2) h3
  | un op t x a z h1 h2 => exact .un op t x a z ((hρ x (by simp [Op.operands])).trans h1) h2
  | conv s t x k k' ti n h1 h2 h3 => exact .conv s t x k k' ti n h1 h2 ((hρ x (by simp [Op.operands])).trans h3)
  | len t x e s xs ls h1 h2 => exact .len t x e s xs _ h1 (by rw [hρ x (by simp [Op.operands, Call.operands])]; exact h2.frame hm)
  | moveC x e s l k xs h0 h1 h2 h3 => exact .moveC x e s l k xs ((hm _ (by simp)).trans h0) ((hρ x (by simp [Op.operands])).trans h1) ((hm l (by simp)).trans h2) h3
  | lenSS t x e s l i j h1 h2 => exact .lenSS t x e s l i j h1 ((hρ x (by simp [Op.operands, Call.operands])).trans h2)
  | lenStr t x s h1 h2 => exact .lenStr t x s h1 ((hρ x (by simp [Op.operands, Call.operands])).trans h2)
  | idxStr t x i s ik j b h1 h2 h3 h4 h5 => exact .idxStr t x i s ik j b h1 ((hρ x (by simp [Op.operands])).trans h2) ((hρ i (by simp [Op.operands])).trans h3) h4 h5
  | min2 t t' x y k a b h1 h2 => exact .min2 t t' x y k a b ((hρ x (by simp [Op.operands, Call.operands])).trans h1) ((hρ y (by simp [Op.operands, Call.operands])).trans h2)
  | max2 t t' x y k a b h1 h2 => exact .max2 t t' x y k a b ((hρ x (by simp [Op.operands, Call.operands])).trans h1) ((hρ y (by simp [Op.operands, Call.operands])).trans h2)
  | build t parts ti pl cs h1 h2 h3 h4 =>
    refine .build t parts ti pl cs h1 h2 h3 ?_
    rw [← h4]
    congr 1
    apply List.map_congr_left
    intro p hp
    rw [hρ p.2 (by simp [Op.operands]; exact ⟨p.1, by simpa using hp⟩)]
  | makeFunc g caps cs h1 h2 => exact .makeFunc g caps cs (by rw [map_agree fun x hx => hρ x (by simp [Op.operands, hx])]; exact h1) h2
  | call f args tys g caps ps r h1 h2 h3 =>
    exact .call f args tys g caps ps r ((hρ f (by simp [Op.operands, Call.operands])).trans h1) (by rw [map_agree fun x hx => hρ x (by simp [Op.operands, Call.operands, hx])]; exact h2) h3
  | callF f args tys g caps ps r h1 h2 h3 h4 =>
    have e1 : ρ' f = ρ f := hρ f (by simp [Op.operands, Call.operands])
    have e2 : args.toList.map ρ' = args.toList.map ρ := map_agree fun x hx => hρ x (by simp [Op.operands, Call.operands, hx])
    have := PAct0.callF (P := P) (T := T) (ρ := ρ') (m := m') (nl := nl) f args tys g caps ps r (by rw [e1, frz_frame _ fun l hl => hm l (by simp [hl])]; exact h1) (by rw [e2, frzL_frame _ fun l hl => hm l (by simp [hl])]; exact h2) h3 h4
    rw [e1, e2] at this
    exact this
  | binB op t x y yt a b h1 h2 h3 h4 => exact .binB op t x y yt a b h1 h2 ((hρ x (by simp [Op.operands])).trans h3) ((hρ y (by simp [Op.operands])).trans h4)
  | binA op t x y yt xs ys us vs z h1 h2 h3 h4 h5 h6 => exact .binA op t x y yt xs ys us vs z h1 ((hρ x (by simp [Op.operands])).trans h2) ((hρ y (by simp [Op.operands])).trans h3) h4 h5 h6
  | nilC x h1 => rw [← hρ x (by simp [Op.operands])]; exact .nilC x (by rw [hρ x (by simp [Op.operands])]; exact h1)
  | bslice t len parts e s ti xs h0 h1 h2 h3 h4 h5 h6 h7 h8 h9 =>
    refine .bslice t len parts e s ti xs ((hm _ (by simp)).trans h0) h1 h2 h3 h4 h5 h6 h7 ?_ h9
    rw [← h8]
    apply List.map_congr_left
    intro p hp
    rw [hρ p.2 (by simp [Op.operands]; exact ⟨p.1, by simpa using hp⟩)]
  | mkSl t x y e s ti z k k' j h0 h1 h2 h3 h4 h5 h6 h7 h8 h9 h10 => exact .mkSl t x y e s ti z k k' j ((hm _ (by simp)).trans h0) h1 h2 h3 h4 h5 ((hρ x (by simp [Op.operands])).trans h6) ((hρ y (by simp [Op.operands])).trans h7) h8 h9 h10
  | sliceD t x lo hi e s xs l h h1 h2 h3 h4 h5 h6 h7 h8 =>
    have go : ∀ (d : Int) (o : Option Operand), (∀ y ∈ o, ρ' y = ρ y) → optInt ρ' d o = optInt ρ d o := by
      intro d o h
      cases o with
      | none => rfl
      | some y => simp only [optInt]; rw [h y (by simp)]
    refine .sliceD t x lo hi e s xs l h h1 ((hρ x (by simp [Op.operands])).trans h2) ?_ ?_ h5 h6 h7 h8
    · rw [go _ _ fun y hy => hρ y (by simp [Op.operands]; simp at hy; simp [hy])]; exact h3
    · rw [go _ _ fun y hy => hρ y (by simp [Op.operands]; simp at hy; simp [hy])]; exact h4
  | sliceS t x lo hi e s l xs i h h1 h2 h3 h4 h5 h6 h7 h8 =>
    have go : ∀ (d : Int) (o : Option Operand), (∀ y ∈ o, ρ' y = ρ y) → optInt ρ' d o = optInt ρ d o := by
      intro d o h
      cases o with
      | none => rfl
      | some y => simp only [optInt]; rw [h y (by simp)]
    refine .sliceS t x lo hi e s l xs i h h1 ((hρ x (by simp [Op.operands])).trans h2) ((hm l (by simp)).trans h3) ?_ ?_ h6 h7 h8
    · rw [go _ _ fun y hy => hρ y (by simp at hy; subst hy; simp [Op.operands])]; exact h4
    · rw [go _ _ fun y hy => hρ y (by simp at hy; subst hy; cases lo <;> simp [Op.operands])]; exact h5
  | sliceSS t x lo hi e s l k xs i h h1 h2 h3 h4 h5 h6 h7 h8 =>
    have go : ∀ (d : Int) (o : Option Operand), (∀ y ∈ o, ρ' y = ρ y) → optInt ρ' d o = optInt ρ d o := by
      intro d o h
      cases o with
      | none => rfl
      | some y => simp only [optInt]; rw [h y (by simp)]
    refine .sliceSS t x lo hi e s l k xs i h h1 ((hρ x (by simp [Op.operands])).trans h2) ((hm l (by simp)).trans h3) ?_ ?_ h6 h7 h8
    · rw [go _ _ fun y hy => hρ y (by simp at hy; subst hy; simp [Op.operands])]; exact h4
    · rw [go _ _ fun y hy => hρ y (by simp at hy; subst hy; cases lo <;> simp [Op.operands])]; exact h5
  | slice3 t x lo hi mx ho e s l xs i h q hh h1 h2 h3 h4 h5 hq h6 h7 h8 h9 =>
    have go : ∀ (d : Int) (o : Option Operand), (∀ y ∈ o, ρ' y = ρ y) → optInt ρ' d o = optInt ρ d o := by
      intro d o h
      cases o with
      | none => rfl
      | some y => simp only [optInt]; rw [h y (by simp)]
    subst hh
    refine .slice3 t x lo (some ho) mx ho e s l xs i h q rfl h1 ((hρ x (by simp [Op.operands])).trans h2) ((hm l (by simp)).trans h3) ?_ ?_ ?_ h6 h7 h8 h9
    · rw [go _ _ fun y hy => hρ y (by simp at hy; subst hy; simp [Op.operands])]; exact h4
    · rw [go _ _ fun y hy => hρ y (by simp at hy; subst hy; cases lo <;> simp [Op.operands])]; exact h5
    · rw [go _ _ fun y hy => hρ y (by simp at hy; subst hy; cases lo <;> simp [Op.operands])]; exact hq
  | sliceR t x lo hi e s l xs h h0 h1 h2 h3 h4 h5 h6 h7 =>
    have go : ∀ (d : Int) (o : Option Operand), (∀ y ∈ o, ρ' y = ρ y) → optInt ρ' d o = optInt ρ d o := by
      intro d o h
      cases o with
      | none => rfl
      | some y => simp only [optInt]; rw [h y (by simp)]
    refine .sliceR t x lo hi e s l xs h ((hm _ (by simp)).trans h0) h1 ((hρ x (by simp [Op.operands])).trans h2) ((hm l (by simp)).trans h3) ?_ ?_ h6 h7
    · rw [go _ _ fun y hy => hρ y (by simp [Op.operands]; simp at hy; simp [hy])]; exact h4
    · rw [go _ _ fun y hy => hρ y (by simp [Op.operands]; simp at hy; simp [hy])]; exact h5
  | sliceA t x lo hi n e s l off ag i h h1 h2 h3 h4 h5 h6 h7 h8 h9 h10 =>
    have go : ∀ (d : Int) (o : Option Operand), (∀ y ∈ o, ρ' y = ρ y) → optInt ρ' d o = optInt ρ d o := by
      intro d o h
      cases o with
      | none => rfl
      | some y => simp only [optInt]; rw [h y (by simp)]
    refine .sliceA t x lo hi n e s l off ag i h h1 h2 ((hρ x (by simp [Op.operands])).trans h3) ?_ ?_ h6 h7 h8 h9 h10
    · rw [go _ _ fun y hy => hρ y (by simp [Op.operands]; simp at hy; simp [hy])]; exact h4
    · rw [go _ _ fun y hy => hρ y (by simp [Op.operands]; simp at hy; simp [hy])]; exact h5
  | bsliceD t len parts e s ti xs h1 h2 h3 h4 h5 h6 h7 h8 h9 =>
    refine .bsliceD t len parts e s ti xs h1 h2 h3 h4 h5 h6 h7 ?_ h9
    rw [← h8]
    apply List.map_congr_left
    intro p hp
    rw [hρ p.2 (by simp [Op.operands]; exact ⟨p.1, by simpa using hp⟩)]
  | capN t x e s h1 h2 => exact .capN t x e s h1 ((hρ x (by simp [Op.operands, Call.operands])).trans h2)
  | sliceN t x lo hi e s h1 h2 h3 h4 =>
    have go : ∀ (d : Int) (o : Option Operand), (∀ y ∈ o, ρ' y = ρ y) → optInt ρ' d o = optInt ρ d o := by
      intro d o h
      cases o with
      | none => rfl
      | some y => simp only [optInt]; rw [h y (by simp)]
    refine .sliceN t x lo hi e s h1 ((hρ x (by simp [Op.operands])).trans h2) ?_ ?_
    · rw [go _ _ fun y hy => hρ y (by simp [Op.operands]; simp at hy; simp [hy])]; exact h3
    · rw [go _ _ fun y hy => hρ y (by simp [Op.operands]; simp at hy; simp [hy])]; exact h4
  | appendZ t t' x y e s ti z k k' j h0 h1 h1' h2 h3 h4 h5 h6 h7 h8 h9 h10 => exact .appendZ t t' x y e s ti z k k' j ((hm _ (by simp)).trans h0) h1 h1' h2 h3 h4 h5 ((hρ x (by simp [Op.operands, Call.operands])).trans h6) ((hρ y (by simp [Op.operands, Call.operands])).trans h7) h8 h9 h10
  | idxA t x i e s l off k c ag ik j h1 h2 h3 h4 h5 => exact .idxA t x i e s l off k c ag ik j h1 ((hρ x (by simp [Op.operands])).trans h2) ((hρ i (by simp [Op.operands])).trans h3) h4 h5
  | bslice0 t parts e s ti h0 h1 h2 h3 h4 => exact .bslice0 t parts e s ti ((hm _ (by simp)).trans h0) h1 h2 h3 h4
  | eqNil op t x y yt z h1 h2 h3 h4 => exact .eqNil op t x y yt z h1 h2 (by rw [hρ x (by simp [Op.operands])]; exact h3) ((hρ y (by simp [Op.operands])).trans h4)
  | callH f args tys g cs s τ bs m2 r h1 h2 h3 h4 h5 h6 h7 h8 =>
    have e1 : ρ' f = ρ f := hρ f (by simp [Op.operands, Call.operands])
    have e2 : args.toList.map ρ' = args.toList.map ρ := map_agree fun x hx => hρ x (by simp [Op.operands, Call.operands, hx])
    have hs : ∀ l ∈ s, m'[l]? = m[l]? := fun l hl => hm l (by rw [h4]; simp [hl])
    have hn : ∀ k, k < m2.length - s.length → m'[nl + k]? = m[nl + k]? := fun k hk => hm _ (by rw [h4]; simp [hk])
    have e3 : ∀ (r s0 : List Nat), (∀ l ∈ r, m'[l]? = m[l]?) → renM m' s0 r = renM m s0 r := by
      intro r s0
      induction r with
      | nil => intro _; rfl
      | cons x r ih => intro h; simp only [renM, List.getD_eq_getElem?_getD]; rw [h x (by simp), ih fun l hl => h l (by simp [hl])]
    refine .callH f args tys g cs s F bs m2 r (by rw [e1]; exact h1) h2 ?_ h4 ?_ h6 h7 (by rw [e2, e3 s s hs]; exact h8)
    · rw [List.all_eq_true] at h3 ⊢
      intro l hl
      have := h3 l hl
      unfold liveAt at this ⊢
      rw [hs l hl]; exact this
    · rw [List.all_eq_true] at h5 ⊢
      intro k hk
      have := h5 k hk
      unfold isFreeAt at this ⊢
      rw [hn k (by simpa using hk)]; exact this
  | appz t tn x y e s ti z kn kq xs j U ls h0 h1 h1' h2 h3 h4 h4' h5 h6 h7 h8 h9 =>
    refine .appz t tn x y e s ti z kn kq xs j U ls ((hm _ (by simp)).trans h0) h1 h1' h2 h3 h4 h4' ?_ ((hρ y (by simp [Op.operands, Call.operands])).trans h6) h7 h8 h9
    rw [hρ x (by simp [Op.operands, Call.operands])]; exact h5.frame fun l h => hm l (by simp [h])
  | append t x y e s ti xs ys U ls ks h0 h1 h2 h3 h4 h5 h6 h7 h8 h9 =>
    refine .append t x y e s ti xs ys U ls ks ((hm _ (by simp)).trans h0) h1 h2 h3 h4 ?_ ?_ h7 h8 h9
    · rw [hρ x (by simp [Op.operands, Call.operands])]; exact h5.frame fun l h => hm l (by simp [h])
    · rw [hρ y (by simp [Op.operands, Call.operands])]; exact h6.frame fun l h => hm l (by simp [h])

/-- what is changed is looked at -/
theorem PAct0.dom {ρ : Operand → FV} {m : List PO} {nl : Nat} {op : Op} {r : FV} {U : List (Nat × PO)} {F : List Nat} (h : PAct0 P T ρ m nl op r U F) : ∀ q ∈ U, q.1 ∈ F := by
  cases h with
  | appz t tn x y e s ti z kn kq xs j U ls h0 h1 h1' h2 h3 h4 h4' h5 h6 h7 h8 h9 =>
    intro q hq
    rw [List.mem_append] at hq
    rcases hq with hq | hq
    · generalize ρ x = fx at h5
      cases h5 with
      | nil => simp at hq
      | row l xs h => simp at hq; subst hq; simp
      | part l xs k h hk => simp at hq; subst hq; simp
    · simp at hq; subst hq; simp
  | append t x y e s ti xs ys U ls ks h0 h1 h2 h3 h4 h5 h6 h7 h8 h9 =>
    intro q hq
    rw [List.mem_append] at hq
    rcases hq with hq | hq
    · generalize ρ x = fx at h5
      cases h5 with
      | nil => simp at hq
      | row l xs h => simp at hq; subst hq; simp
      | part l xs k h hk => simp at hq; subst hq; simp
    · simp at hq; subst hq; simp
  | callH f args tys g cs s τ bs m2 r h1 h2 h3 h4 h5 h6 h7 h8 =>
    have go : ∀ (r : List Nat) (os : List PO), ∀ q ∈ zipO F r os, q.1 ∈ r := by
      intro r
      induction r with
      | nil => intro os q h; simp [zipO] at h
      | cons x r ih =>
        intro os q h
        cases os with
        | nil => simp [zipO] at h
        | cons o os =>
          simp only [zipO, List.mem_cons] at h
          rcases h with rfl | h
          · simp
          · simp [ih os q h]
    exact go _ _
  | _ => simp
theorem PAct.frame {ρ ρ' : Operand → FV} {m m' : List PO} {nl : Nat} {op : Op} {r : FV} {U : List (Nat × PO)} {F : List Nat} (h : PAct P T ρ m nl op r U F)
    (hρ : ∀ x ∈ op.operands, ρ' x = ρ x) (hm : ∀ l ∈ F, m'[l]? = m[l]?) (hl : m'.length = m.length) : PAct P T ρ' m' nl op r U F := by
  induction h with
  | fz h1 h2 _ ih => exact .fz (by rw [hl]; exact h1) h2 (ih hm)
  | cp h1 h2 h3 _ ih => exact .cp (by rw [hm _ (by simp)]; exact h1) (by rw [hm _ (by simp)]; exact h2) h3 (ih fun l hl' => hm l (by simp [hl']))
  | base h => exact .base (h.frame hρ hm hl)
  | ext h1 h2 h3 => exact .ext (fun q hq => by rw [hm _ (List.mem_map_of_mem hq)]; exact h1 q hq) h2 (by rw [map_agree fun x hx => hρ x hx]; exact h3)
theorem PAct.dom {ρ : Operand → FV} {m : List PO} {nl : Nat} {op : Op} {r : FV} {U : List (Nat × PO)} {F : List Nat} (h : PAct P T ρ m nl op r U F) : ∀ q ∈ U, q.1 ∈ F := by
  induction h with
  | @fz l ty sz xs U1 U2 F h1 h2 _ ih =>
    intro q hq
    rcases List.mem_append.1 hq with hq | hq
    · exact ih q hq
    · rw [List.mem_singleton.1 hq]; exact ih (l, .row ty sz xs) (by simp)
  | cp h1 h2 h3 _ ih => intro q hq; simp at hq; rcases hq with rfl | rfl <;> simp
  | base h => exact h.dom
  | ext h1 h2 h3 => exact h2
end

theorem updM_length : ∀ (m : List PO) (U : List (Nat × PO)), (updM m U).length = m.length
  | m, [] => rfl
  | m, (l, o) :: U => by simp only [updM]; rw [updM_length]; simp
theorem updM_get : ∀ (m : List PO) (U : List (Nat × PO)) (l : Nat), (∀ q ∈ U, q.1 ≠ l) → (updM m U)[l]? = m[l]?
  | m, [], l, _ => rfl
  | m, (k, o) :: U, l, h => by
    simp only [updM]
    rw [updM_get _ U l fun q hq => h q (by simp [hq]), List.getElem?_set, if_neg (h (k, o) (by simp))]
theorem updM_set : ∀ (m : List PO) (U : List (Nat × PO)) (l : Nat) (o : PO), (∀ q ∈ U, q.1 ≠ l) → updM (m.set l o) U = (updM m U).set l o
  | m, [], l, o, _ => rfl
  | m, (k, o') :: U, l, o, h => by
    simp only [updM]
    rw [List.set_comm _ _ (Ne.symm (h (k, o') (by simp))), updM_set _ U l o fun q hq => h q (by simp [hq])]
theorem updM_comm : ∀ (m : List PO) (U V : List (Nat × PO)), (∀ q ∈ U, ∀ p ∈ V, q.1 ≠ p.1) → updM (updM m U) V = updM (updM m V) U
  | m, [], V, _ => rfl
  | m, (l, o) :: U, V, h => by
    simp only [updM]
    rw [updM_comm _ U V fun q hq p hp => h q (by simp [hq]) p hp, updM_set _ V l o fun p hp => Ne.symm (h (l, o) (by simp) p hp)]

/-- one operation, done -/
structure Fp where
  i : Nat
  want : Bool
  r : FV
  U : List (Nat × PO)
  F : List Nat
  C : List (Nat × Nat × FV)
def fundef : FV := .d (.tup [])
def wantedP (ops : Array Oper) (f : List FV) (o : Oper) : Option Bool :=
  match o.guard with
  | none => some true
  | some (j, want) => match (ops[j]?).bind (·.dst) with
    | some d => (match f.getD d .dead with
      | .d (.v (.bool b)) => some (b == want)
      | .d (.tup []) => some false
      | _ => none)
    | none => none
section
variable {P : Program} {T : List TI} {ops : Array Oper} {base : Nat}
inductive PStep (P : Program) (T : List TI) (ops : Array Oper) (base : Nat) : PS → Fp → PS → Prop where
  | act (st : PS) (i : Nat) (o : Oper) (r : FV) (U : List (Nat × PO)) (F : List Nat) : ops[i]? = some o → wantedP ops st.f o = some true → PAct P T (ev st.f) st.m (base + 16 * i) o.op r U F → PStep P T ops base st ⟨i, true, r, U, F, []⟩ (st.act o.dst r U)
  | ld (st : PS) (i : Nat) (o : Oper) (r : FV) (t : Nat) (x : Operand) (l off : Nat) (cs : List FV) : ops[i]? = some o → wantedP ops st.f o = some true → o.op = .load t x → tagg T t = some false → ev st.f x = .ref l off → st.m[l]? = some (.box cs) → cs[off]? = some r → PStep P T ops base st ⟨i, true, r, [], [], [(l, off, r)]⟩ (st.act o.dst r [])
  | pass (st : PS) (i : Nat) (o : Oper) : ops[i]? = some o → wantedP ops st.f o = some false → PStep P T ops base st ⟨i, false, fundef, [], [], []⟩ (st.act o.dst fundef [])
inductive PRun (P : Program) (T : List TI) (ops : Array Oper) (base : Nat) : PS → List Fp → PS → Prop where
  | nil (st : PS) : PRun P T ops base st [] st
  | cons {st st1 st2 : PS} {x : Fp} {r : List Fp} : PStep P T ops base st x st1 → PRun P T ops base st1 r st2 → PRun P T ops base st (x :: r) st2
def memB (l : Nat) (F : List Nat) : Bool := F.any (Nat.beq l)
theorem memB_of {l : Nat} {F : List Nat} (h : memB l F = false) : l ∉ F := by
  intro hm
  have := List.any_eq_false.1 h l hm
  simp at this
/-- a cell that x looks at is, behind y, what it was -/
def cKeep (x y : Fp) : Prop := ∀ c ∈ x.C, ∀ q ∈ y.U, q.1 = c.1 → ∃ cs, q.2 = .box cs ∧ cs[c.2.1]? = some c.2.2
noncomputable def cOk (x y : Fp) : Bool := @decide (cKeep x y) (Classical.propDecidable _)
noncomputable def apartLocs (x y : Fp) : Bool := (x.U.all fun q => !memB q.1 y.F) && (y.U.all fun q => !memB q.1 x.F) && (x.U.all fun q => !memB q.1 (y.C.map (·.1))) && cOk x y
noncomputable def indep (ops : Array Oper) (x y : Fp) : Bool :=
  apartLocs x y && (match ops[x.i]?, ops[y.i]? with
    | some a, some b => a.apart ops b
    | _, _ => false)
theorem ev_putF {f : List FV} {d : Option Nat} {r : FV} {x : Operand} (h : ∀ k, d = some k → x ≠ .tmp k) : ev (putF f d r) x = ev f x := by
  cases d with
  | none => rfl
  | some k =>
    cases x with
    | tmp t =>
      have : t ≠ k := fun e => h k rfl (by rw [e])
      simp only [putF, ev]
      rw [getD_set, if_neg (fun h => this h.1)]
    | _ => rfl
theorem putF_comm {f : List FV} {d e : Option Nat} {r s : FV} (h : ∀ k, d = some k → e ≠ some k) : putF (putF f d r) e s = putF (putF f e s) d r := by
  cases d with
  | none => rfl
  | some k =>
    cases e with
    | none => rfl
    | some j =>
      have : k ≠ j := fun e => h k rfl (by rw [e])
      simp only [putF]
      exact List.set_comm _ _ this
theorem looks_operand {o : Oper} {t : Nat} (h : Operand.tmp t ∈ o.op.operands) : t ∈ o.looksAt ops := by
  unfold Oper.looksAt
  rw [List.mem_append]
  left
  rw [List.mem_filterMap]
  exact ⟨.tmp t, by simpa using h, rfl⟩
theorem wantedP_put {f : List FV} {o : Oper} {d : Option Nat} {r : FV} (h : ∀ k, d = some k → k ∉ o.looksAt ops) : wantedP ops (putF f d r) o = wantedP ops f o := by
  unfold wantedP
  cases hg : o.guard with
  | none => rfl
  | some p =>
    obtain ⟨j, want⟩ := p
    cases hd : (ops[j]?).bind (·.dst) with
    | none => simp only [hd]
    | some q =>
      have : (putF f d r).getD q .dead = f.getD q .dead := by
        have := ev_putF (f := f) (d := d) (r := r) (x := .tmp q) (fun k hk e => by
          cases e
          apply h _ hk
          unfold Oper.looksAt
          rw [List.mem_append]
          right
          rw [hg]
          simp [hd])
        exact this
      simp only [hd, this]
theorem PStep.cell {st st1 : PS} {x : Fp} (h : PStep P T ops base st x st1) : ∀ c ∈ x.C, ∃ cs, st.m[c.1]? = some (.box cs) ∧ cs[c.2.1]? = some c.2.2 := by
  cases h with
  | act i o r U F h1 h2 h3 => intro c hc; cases hc
  | pass i o h1 h2 => intro c hc; cases hc
  | ld i o r t x l off cs h1 h2 h3 h4 h5 h6 h7 =>
    intro c hc
    rw [List.mem_singleton.1 hc]
    exact ⟨cs, h6, h7⟩
theorem PStep.frame {st st1 st2 : PS} {x : Fp} (h : PStep P T ops base st x st1) (hf : ∀ o, ops[x.i]? = some o → (∀ y ∈ o.op.operands, ev st2.f y = ev st.f y) ∧ wantedP ops st2.f o = wantedP ops st.f o) (hm : ∀ l ∈ x.F, st2.m[l]? = st.m[l]?) (hc : ∀ c ∈ x.C, ∃ cs, st2.m[c.1]? = some (.box cs) ∧ cs[c.2.1]? = some c.2.2) (hl : st2.m.length = st.m.length) :
    ∃ o, ops[x.i]? = some o ∧ PStep P T ops base st2 x (st2.act o.dst x.r x.U) ∧ st1 = st.act o.dst x.r x.U := by
  cases h with
  | act i o r U F h1 h2 h3 =>
    obtain ⟨f1, f2⟩ := hf o h1
    exact ⟨o, h1, .act st2 i o r U F h1 (f2.trans h2) (h3.frame f1 hm hl), rfl⟩
  | pass i o h1 h2 =>
    obtain ⟨f1, f2⟩ := hf o h1
    exact ⟨o, h1, .pass st2 i o h1 (f2.trans h2), rfl⟩
  | ld i o r t x l off cs h1 h2 h3 h4 h5 h6 h7 =>
    obtain ⟨f1, f2⟩ := hf o h1
    obtain ⟨cs', g1, g2⟩ := hc (l, off, r) (by simp)
    exact ⟨o, h1, .ld st2 i o r t x l off cs' h1 (f2.trans h2) h3 h4 ((f1 x (by rw [h3]; simp [Op.operands])).trans h5) g1 g2, rfl⟩
theorem PStep.dom {st st1 : PS} {x : Fp} (h : PStep P T ops base st x st1) : ∀ q ∈ x.U, q.1 ∈ x.F := by
  cases h with
  | act i o r U F h1 h2 h3 => exact h3.dom
  | pass i o h1 h2 => simp
  | ld i o r t x l off cs h1 h2 h3 h4 h5 h6 h7 => simp
theorem PStep.eq {st st1 : PS} {x : Fp} (h : PStep P T ops base st x st1) : ∃ o, ops[x.i]? = some o ∧ st1 = st.act o.dst x.r x.U := by
  cases h with
  | act i o r U F h1 h2 h3 => exact ⟨o, h1, rfl⟩
  | pass i o h1 h2 => exact ⟨o, h1, rfl⟩
  | ld i o r t x l off cs h1 h2 h3 h4 h5 h6 h7 => exact ⟨o, h1, rfl⟩
theorem updM_cell {l off : Nat} {r : FV} : ∀ (U : List (Nat × PO)) (m : List PO), (∃ cs, m[l]? = some (.box cs) ∧ cs[off]? = some r) → (∀ q ∈ U, q.1 = l → ∃ cs, q.2 = .box cs ∧ cs[off]? = some r) → ∃ cs, (updM m U)[l]? = some (.box cs) ∧ cs[off]? = some r
  | [], m, h, _ => h
  | (k, o) :: U, m, h, hU => by
    simp only [updM]
    refine updM_cell U _ ?_ fun q hq => hU q (by simp [hq])
    rw [List.getElem?_set]
    by_cases e : k = l
    · subst e
      obtain ⟨cs, h1, h2⟩ := h
      obtain ⟨cs', e1, e2⟩ := hU (k, o) (by simp) rfl
      rw [if_pos rfl, if_pos (List.getElem?_eq_some_iff.1 h1).1]
      exact ⟨cs', congrArg some e1, e2⟩
    · rw [if_neg e]; exact h
theorem PStep.swap {st st1 st2 : PS} {x y : Fp} (h1 : PStep P T ops base st x st1) (h2 : PStep P T ops base st1 y st2) (hi : indep ops x y = true) :
    ∃ st1', PStep P T ops base st y st1' ∧ PStep P T ops base st1' x st2 := by
  obtain ⟨ox, hx, e1⟩ := h1.eq
  obtain ⟨oy, hy, e2⟩ := h2.eq
  simp only [indep, hx, hy, Bool.and_eq_true] at hi
  obtain ⟨hl, ha⟩ := hi
  simp only [apartLocs, Bool.and_eq_true, List.all_eq_true, Bool.not_eq_true'] at hl
  obtain ⟨⟨⟨hl1, hl2⟩, hl3⟩, hl4⟩ := hl
  have hl4 : cKeep x y := @of_decide_eq_true _ (Classical.propDecidable _) hl4
  obtain ⟨a1, a2, a3⟩ := Oper.apart_spec ha
  have lx : ∀ q ∈ x.U, ∀ l ∈ y.F, q.1 ≠ l := fun q hq l hm e => memB_of (hl1 q hq) (by rw [e]; exact hm)
  have ly : ∀ q ∈ y.U, ∀ l ∈ x.F, q.1 ≠ l := fun q hq l hm e => memB_of (hl2 q hq) (by rw [e]; exact hm)
  have lc : ∀ q ∈ x.U, ∀ c ∈ y.C, q.1 ≠ c.1 := fun q hq c hc e => memB_of (hl3 q hq) (by rw [e]; exact List.mem_map_of_mem hc)
  obtain ⟨o, ho, h3, e3⟩ := h2.frame (st2 := st) (fun o ho => by
      rw [hy] at ho; cases ho
      rw [e1]
      refine ⟨fun z hz => ?_, (wantedP_put fun k hk => a1 k hk).symm⟩
      exact (ev_putF fun k hk e => a1 k hk (looks_operand (by rw [← e]; exact hz))).symm) (fun l hm => by
      rw [e1]; exact (updM_get _ _ _ fun q hq => lx q hq l hm).symm) (fun c hc => by
      have := h2.cell c hc
      rw [e1] at this
      simp only [PS.act] at this
      rw [updM_get _ _ _ fun q hq => lc q hq c hc] at this
      exact this) (by rw [e1]; exact (updM_length _ _).symm)
  rw [hy] at ho; cases ho
  refine ⟨_, h3, ?_⟩
  obtain ⟨o, ho, h4, e4⟩ := h1.frame (st2 := st.act oy.dst y.r y.U) (fun o ho => by
      rw [hx] at ho; cases ho
      refine ⟨fun z hz => ?_, wantedP_put fun k hk => a3 k hk⟩
      exact ev_putF fun k hk e => a3 k hk (looks_operand (by rw [← e]; exact hz))) (fun l hm => updM_get _ _ _ fun q hq => ly q hq l hm) (fun c hc => updM_cell _ _ (h1.cell c hc) fun q hq e => hl4 c hc q hq e) (updM_length _ _)
  rw [hx] at ho; cases ho
  have : st2 = (st.act oy.dst y.r y.U).act ox.dst x.r x.U := by
    rw [e2, e1]
    simp only [PS.act]
    rw [putF_comm fun k hk => a2 k hk, updM_comm _ x.U y.U fun q hq p hp => lx q hq p.1 (h2.dom p hp)]
  rw [this]
  exact h4
theorem PRun.front {x : Fp} : ∀ {A B : List Fp} {st st2 : PS}, PRun P T ops base st (A ++ x :: B) st2 → (∀ y ∈ A, indep ops y x = true) → ∃ st1, PStep P T ops base st x st1 ∧ PRun P T ops base st1 (A ++ B) st2
  | [], B, st, st2, h, _ => by
    cases h with
    | cons h1 h2 => exact ⟨_, h1, h2⟩
  | y :: A, B, st, st2, h, hi => by
    cases h with
    | cons h1 h2 =>
      obtain ⟨st3, h3, h4⟩ := PRun.front h2 fun z hz => hi z (by simp [hz])
      obtain ⟨st4, h5, h6⟩ := h1.swap h3 (hi y (by simp))
      exact ⟨st4, h5, .cons h6 h4⟩
end
end Go.Proofs.YtnkdanobhgofbaaGreatDoor.pv
