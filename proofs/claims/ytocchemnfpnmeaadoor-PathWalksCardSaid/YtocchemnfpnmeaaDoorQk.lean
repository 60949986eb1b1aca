/- What the program says of an operation is an act. -/
import Derived.Test.YtocchemnfpnmeaaDoorQj
namespace Go.Proofs.YtocchemnfpnmeaaDoor.pv
set_option linter.all false
open Go.RowKit
section
variable {P:Program} {T:List TI} {ρ:Operand→FV} {m:List PO} {nl:Nat} {hs:List Hn} {o:Out}
theorem some_out {a:Out} (h:some a=some o):o=a:=by simp at h; exact h.symm
theorem val_out {r:FV} (h:val r hs=some o):o=⟨r,[],[],[],hs⟩:=by simp [val] at h; exact h.symm
theorem beq_eq {a b:Nat} (h:Nat.beq a b=true):a=b:=Nat.eq_of_beq_eq_true h
theorem pAlloc_sound {e:Nat} (h:pAlloc T m nl e hs=some o):PAct0 P T ρ m nl (.alloc e) o.r o.U o.F:=by
 unfold pAlloc at h
 split at h
 ·rename_i ti hti
  split at h
  ·cases h
  ·rename_i z zs hz
   obtain ⟨h1,h2⟩:=cond_some h
   have:=some_out h2
   subst this
   have:=PAct0.alloc (P:=P) (ρ:=ρ) e ti (isFree_spec h1) hti (by rw [hz]; simp)
   rw [hz] at this
   exact this
 ·cases h
theorem pBox_sound {e:Nat} {x:Operand} (h:pBox ρ m nl x hs=some o):PAct0 P T ρ m nl (.box e x) o.r o.U o.F:=by
 unfold pBox at h
 split at h
 ·rename_i cs hcs
  obtain ⟨h1,h2⟩:=cond_some h
  have:=some_out h2
  subst this
  exact .box e x cs (isFree_spec h1) hcs
 ·cases h
theorem pLoad_sound {t:Nat} {x:Operand} (h:pLoad T m t (ρ x) hs=some o) (ob:AllP o.ob):PAct0 P T ρ m nl (.load t x) o.r o.U o.F:=by
 unfold pLoad at h
 split at h
 ·rename_i l off ht hx
  split at h
  ·rename_i cs hm
   split at h
   ·have:=some_out h; subst this; exact .loadS t x l off cs _ ht hx hm ob.1
   ·split at h
    ·rename_i r hr; have:=some_out h; subst this; exact .loadS t x l off cs _ ht hx hm hr
    ·cases h
   ·split at h
    ·rename_i r hr; have:=some_out h; subst this; exact .loadS t x l off cs _ ht hx hm hr
    ·cases h
  ·cases h
 ·rename_i l off ht hx
  split at h
  ·rename_i cs sz hm hsz
   split at h
   ·have:=some_out h; subst this
    have e:=ob.1.1
    subst e
    exact .loadA t x l off cs sz ht hsz hx hm ob.1.2
   ·obtain ⟨h1,h2⟩:=cond_some h
    have:=some_out h2; subst this; exact .loadA t x l off cs sz ht hsz hx hm (Nat.le_of_ble_eq_true h1)
   ·obtain ⟨h1,h2⟩:=cond_some h
    have:=some_out h2; subst this; exact .loadA t x l off cs sz ht hsz hx hm (Nat.le_of_ble_eq_true h1)
  ·cases h
 ·rename_i cs off ht hx
  split at h
  ·have:=some_out h; subst this; exact .loadIS t x off cs _ ht hx ob.1
  ·split at h
   ·rename_i r hr; have:=val_out h; subst this; exact .loadIS t x off cs _ ht hx hr
   ·cases h
  ·split at h
   ·rename_i r hr; have:=val_out h; subst this; exact .loadIS t x off cs _ ht hx hr
   ·cases h
 ·rename_i cs off ht hx
  split at h
  ·rename_i sz hsz
   split at h
   ·have:=some_out h; subst this
    have e:=ob.1.1
    subst e
    exact .loadIA t x off cs sz ht hsz hx ob.1.2
   ·obtain ⟨h1,h2⟩:=cond_some h
    have:=val_out h2; subst this; exact .loadIA t x off cs sz ht hsz hx (Nat.le_of_ble_eq_true h1)
  ·cases h
 ·rename_i l sz i off ht hx
  split at h
  ·rename_i ty sz' xs y hs' hm
   split at h
   ·rename_i r hr
    obtain ⟨h1,h2⟩:=cond_some h
    simp only [Bool.and_eq_true] at h1
    have e:=beq_eq h1.1
    subst e
    have:=some_out h2; subst this; exact .loadES t x l ty _ i off xs y r ht hx hm ob.1 h1.2 hr
   ·cases h
  ·cases h
 ·rename_i l sz i off ht hx
  split at h
  ·rename_i ty sz' xs y hs' k hm hk
   obtain ⟨h1,h2⟩:=cond_some h
   simp only [Bool.and_eq_true] at h1
   have e:=beq_eq h1.1.1
   subst e
   have:=some_out h2; subst this; exact .loadEA t x l ty _ i off xs y k ht hk hx hm ob.1 h1.1.2 (Nat.le_of_ble_eq_true h1.2)
  ·cases h
 ·cases h
theorem pStore_sound {t:Nat} {x z:Operand} (h:pStore T m t (ρ x) (ρ z) hs=some o) (ob:AllP o.ob):PAct0 P T ρ m nl (.store t x z) o.r o.U o.F:=by
 unfold pStore at h
 split at h
 ·rename_i l off hx
  split at h
  ·rename_i cs zs k hm hz hk
   obtain ⟨h1,h2⟩:=cond_some h
   have e:=beq_eq h1
   subst e
   split at h2
   ·have:=some_out h2; subst this; exact .store t x z l off cs zs hx hm hz hk ob.1
   ·obtain ⟨h3,h4⟩:=cond_some h2
    have:=some_out h4; subst this; exact .store t x z l off cs zs hx hm hz hk (Nat.le_of_ble_eq_true h3)
  ·cases h
 ·rename_i l sz i off hx
  split at h
  ·rename_i ty sz' xs y hs' zv k hm hz hk
   obtain ⟨h1,h2⟩:=cond_some h
   simp only [Bool.and_eq_true,Bool.not_eq_true'] at h1
   obtain ⟨⟨⟨⟨⟨a1,a2⟩,a3⟩,a4⟩,a5⟩,a6⟩:=h1
   have e:=beq_eq a1
   subst e
   have e:=beq_eq a4
   subst e
   have:=some_out h2; subst this
   exact .storeE t x z l ty _ i off xs y zv _ hx hm ob.1 a2 hz a3 hk (Nat.le_of_ble_eq_true a5) ob.2.1 a6
  ·cases h
 ·cases h
theorem pField_sound {s f:Nat} {x:Operand} (h:pField T s (ρ x) f hs=some o):PAct0 P T ρ m nl (.fieldAddr s x f) o.r o.U o.F:=by
 unfold pField at h
 split at h
 ·rename_i oo ft hf
  split at h
  ·rename_i l off hx; have:=val_out h; subst this; exact .fieldP s x f _ ft l off hf hx
  ·rename_i l sz i off hx; have:=val_out h; subst this; exact .fieldE s x f _ ft l sz i off hf hx
  ·rename_i cs off hx; have:=val_out h; subst this; exact .fieldI s x f _ ft off cs hf hx
  ·cases h
 ·cases h
theorem pFieldV_sound {s f:Nat} {x:Operand} (h:pFieldV T s (ρ x) f hs=some o):PAct0 P T ρ m nl (.field s x f) o.r o.U o.F:=by
 unfold pFieldV at h
 split at h
 ·rename_i oo ft cs hf hc
  split at h
  ·rename_i ht
   split at h
   ·rename_i r hr; have:=val_out h; subst this; exact .fieldS s x f _ ft cs r hf ht hc hr
   ·cases h
  ·rename_i sz ht hsz
   obtain ⟨h1,h2⟩:=cond_some h
   have:=val_out h2; subst this; exact .fieldA s x f _ ft cs sz hf ht hsz hc (Nat.le_of_ble_eq_true h1)
  ·cases h
 ·cases h
theorem pIdx_sound {t:Nat} {x i:Operand} (h:pIdx T m t (ρ x) (ρ i) hs=some o) (ob:AllP o.ob):PAct0 P T ρ m nl (.indexAddr t x i) o.r o.U o.F:=by
 unfold pIdx at h
 split at h
 ·rename_i ik j hi
  split at h
  ·rename_i l off hx
   split at h
   ·rename_i n e s ht; have:=some_out h; subst this; exact .idxP t x i n e s l off ik j ht hx hi ob.1.1 ob.1.2
   ·cases h
  ·rename_i l sz q off hx
   split at h
   ·rename_i n e s ht; have:=some_out h; subst this; exact .idxE t x i n e s l sz q off ik j ht hx hi ob.1.1 ob.1.2
   ·cases h
  ·rename_i cs off hx
   split at h
   ·rename_i n e s ht; have:=some_out h; subst this; exact .idxI t x i n e s off cs ik j ht hx hi ob.1.1 ob.1.2
   ·cases h
  ·rename_i xs hx
   split at h
   ·rename_i e s y hs' ht
    obtain ⟨h1,h2⟩:=cond_some h
    have:=some_out h2; subst this; exact .idxS t x i e s xs y ik j ht hx hi ob.1.1 ob.1.2 h1
   ·cases h
  ·rename_i l off k c s' ag hx
   split at h
   ·rename_i e s ht
    obtain ⟨h1,h2⟩:=cond_some h
    have e1:=beq_eq h1
    subst e1
    have:=some_out h2; subst this; exact .idxA t x i e _ l off k c ag ik j ht hx hi ob.1.1 ob.1.2
   ·cases h
  ·rename_i l hx
   split at h
   ·rename_i e s e' s' xs ht hm
    obtain ⟨h1,h2⟩:=cond_some h
    simp only [Bool.and_eq_true] at h1
    have e1:=beq_eq h1.1
    have e2:=beq_eq h1.2
    subst e1 e2
    have:=some_out h2; subst this; exact .idxR t x i _ _ l xs ik j ht hx hm hi ob.1.1 ob.1.2
   ·cases h
  ·cases h
 ·cases h
theorem pIdxS_sound {t:Nat} {x i:Operand} {s:ByteArray} (hx:ρ x=.d (.v (.string s))) (h:pIdxS T t s (ρ i) hs=some o) (ob:AllP o.ob):PAct0 P T ρ m nl (.index t x i) o.r o.U o.F:=by
 unfold pIdxS at h
 split at h
 ·rename_i ik j r hs' hi ht
  have:=some_out h; subst this
  obtain ⟨o1,o2⟩:=ob.1
  cases hb:s[j.toNat]? with
  | none=>rw [hb] at o2; cases o2
  | some b =>
   rw [hb] at o2
   have:=Option.some.inj o2
   subst this
   exact .idxStr t x i s ik j b ht hx hi o1 hb
 ·cases h
theorem pIdxV_sound {t:Nat} {x i:Operand} (h:pIdxV T t (ρ x) (ρ i) hs=some o) (ob:AllP o.ob):PAct0 P T ρ m nl (.index t x i) o.r o.U o.F:=by
 unfold pIdxV at h
 split at h
 ·rename_i ik j n e s cs hi ht hc
  split at h
  ·rename_i r hs' hte; have:=some_out h; subst this; exact .idxVS t x i n e s cs ik j r ht hte hc hi ob.1.1 ob.1.2.1 ob.1.2.2
  ·rename_i r hs' hte; have:=some_out h; subst this
   have e':=ob.1.2.2.2
   subst e'
   exact .idxVA t x i n e s cs ik j ht hte hc hi ob.1.1 ob.1.2.1 ob.1.2.2.1
  ·rename_i hte _
   split at h
   ·rename_i r hr; have:=some_out h; subst this; exact .idxVS t x i n e s cs ik j r ht hte hc hi ob.1.1 ob.1.2 hr
   ·cases h
  ·rename_i hte _; have:=some_out h; subst this; exact .idxVA t x i n e s cs ik j ht hte hc hi ob.1.1 ob.1.2.1 ob.1.2.2
  ·cases h
 ·cases h
theorem pBin_sound {op:BinOp} {t yt:Nat} {x y:Operand} (h:pBin op (ρ x) (ρ y) hs=some o) (ob:AllP o.ob):PAct0 P T ρ m nl (.binOp op t x y yt) o.r o.U o.F:=by
 unfold pBin at h
 split at h
 ·rename_i k a k' b hx hy; have:=some_out h; subst this; exact .shl t x y yt k _ a b hx hy ob.1
 ·rename_i k a k' b hx hy; have:=some_out h; subst this; exact .shr t x y yt k _ a b hx hy ob.1
 ·rename_i k a k' b hx hy
  split at h
  ·rename_i e; subst e; have:=some_out h; subst this; exact .quo t x y yt _ a b hx hy ob.1
  ·cases h
 ·rename_i k a k' b hx hy
  split at h
  ·rename_i e; subst e; have:=some_out h; subst this; exact .rem t x y yt _ a b hx hy ob.1
  ·cases h
 ·rename_i a b _ _ _ _ hx hy
  split at h
  ·rename_i z hz; have:=val_out h; subst this; exact .bin _ t x y yt a b z hx hy hz
  ·cases h
 ·cases h
theorem pBinB_sound {op:BinOp} {t yt:Nat} {x y:Operand} (h:pBinB T op t (ρ x) (ρ y) hs=some o):PAct0 P T ρ m nl (.binOp op t x y yt) o.r o.U o.F:=by
 unfold pBinB at h
 split at h
 ·rename_i a b h1 h2 h3
  obtain ⟨h4,h5⟩:=cond_some h
  have:=val_out h5; subst this
  exact .binB op t x y yt a b h1 h4 h2 h3
 ·cases h
theorem pBinA_sound {op:BinOp} {t yt:Nat} {x y:Operand} {z:Bool} (h:pBinA P op t (ρ x) (ρ y) z hs=some o) (ob:AllP o.ob):PAct0 P T ρ m nl (.binOp op t x y yt) o.r o.U o.F:=by
 unfold pBinA at h
 split at h
 ·rename_i xs ys h1 h2
  split at h
  ·rename_i us vs h3 h4
   obtain ⟨h5,h6⟩:=cond_some h
   have:=some_out h6; subst this
   exact .binA op t x y yt xs ys us vs z h5 h1 h2 h3 h4 ob.1
  ·cases h
 ·cases h
theorem pBinN_sound {op:BinOp} {t yt:Nat} {x y:Operand} (h:pBinN T op t (ρ x) (ρ y) hs=some o):PAct0 P T ρ m nl (.binOp op t x y yt) o.r o.U o.F:=by
 unfold pBinN at h
 split at h
 ·rename_i z h1 h2
  obtain ⟨h4,h5⟩:=cond_some h
  simp only [Bool.and_eq_true] at h4
  have:=val_out h5; subst this
  exact .eqNil op t x y yt z h4.1 h4.2 h1 h2
 ·cases h
theorem bsParts_sound:∀ (i:Nat) (ps:List (Nat×FV)) (xs:List PV),bsParts i ps=some xs→ps=(xs.zipIdx i).map fun q=>(q.2,FV.d q.1)
 | i,[],xs,h=>by simp [bsParts] at h; subst h; rfl
 | i,(k,x)::r,xs,h=>by
  cases x with
  | d y =>
   simp only [bsParts] at h
   obtain ⟨h1,h2⟩:=cond_some h
   split at h2
   ·rename_i ys hy
    simp at h2; subst h2
    rw [bsParts_sound (i+1) r ys hy,beq_eq h1]
    rfl
   ·cases h2
  | _=>simp [bsParts] at h
theorem pBSlice_sound {t len:Nat} {parts:Array (Nat×Operand)} (h:pBSlice T m nl t len (parts.toList.map fun p=>(p.1,ρ p.2)) hs=some o):PAct0 P T ρ m nl (.buildSlice t len parts) o.r o.U o.F:=by
 unfold pBSlice at h
 split at h
 ·rename_i e s h1 h2
  split at h
  ·rename_i ti h3
   split at h
   ·cases h
   ·rename_i z zs hz
    obtain ⟨h4,h5⟩:=cond_some h
    simp only [Bool.and_eq_true] at h4
    have:=some_out h5; subst this
    have e1:=beq_eq h4.2
    subst e1
    refine .bslice0 t parts e s ti (isFree_spec h4.1) h1 h3 (by rw [hz]; simp) ?_
    have:=bsParts_sound _ _ _ h2
    simpa using this
  ·cases h
 ·rename_i e s xs hne h1 h2
  split at h
  ·rename_i ti h3
   split at h
   ·cases h
   ·rename_i z zs hz
    obtain ⟨h4,h5⟩:=cond_some h
    simp only [Bool.and_eq_true] at h4
    obtain ⟨⟨⟨⟨⟨a1,a2⟩,a3⟩,a4⟩,a5⟩,a6⟩:=h4
    have:=some_out h5; subst this
    exact .bslice t len parts e s ti xs (isFree_spec a1) h1 h3 (by rw [hz]; simp) (Nat.le_of_ble_eq_true a2) (Nat.le_of_ble_eq_true a3) (Nat.le_of_ble_eq_true a4) (beq_eq a5) (bsParts_sound _ _ _ h2) a6
  ·cases h
 ·cases h
theorem pBSliceD_sound {t len:Nat} {parts:Array (Nat×Operand)} (h:pBSliceD T t len (parts.toList.map fun p=>(p.1,ρ p.2)) hs=some o):PAct0 P T ρ m nl (.buildSlice t len parts) o.r o.U o.F:=by
 unfold pBSliceD at h
 split at h
 ·rename_i e s xs h1 h2
  split at h
  ·rename_i ti h3
   split at h
   ·cases h
   ·rename_i z zs hz
    obtain ⟨h4,h5⟩:=cond_some h
    simp only [Bool.and_eq_true] at h4
    obtain ⟨⟨⟨⟨a2,a3⟩,a4⟩,a5⟩,a6⟩:=h4
    have:=some_out h5; subst this
    exact .bsliceD t len parts e s ti xs h1 h3 (by rw [hz]; simp) (Nat.le_of_ble_eq_true a2) (Nat.le_of_ble_eq_true a3) (Nat.le_of_ble_eq_true a4) (beq_eq a5) (bsParts_sound _ _ _ h2) a6
  ·cases h
 ·cases h
theorem pAppZ_sound {t t':Nat} {x y:Operand} (h:pAppZ T m nl t t' (ρ x) (ρ y) hs=some o) (ob:AllP o.ob):PAct0 P T ρ m nl (.call ⟨.builtin .append,#[x,y],#[t,t']⟩) o.r o.U o.F:=by
 unfold pAppZ at h
 split at h
 ·rename_i e s k' k j h1 h2 h3 h4
  split at h
  ·rename_i ti h5
   split at h
   ·rename_i z hz
    obtain ⟨h6,h7⟩:=cond_some h
    simp only [Bool.and_eq_true] at h6
    have:=some_out h7; subst this
    exact .appendZ t t' x y e s ti z _ k' j (isFree_spec h6.1.1) h1 h2 h5 hz (beq_eq h6.1.2) (Nat.le_of_ble_eq_true h6.2) h3 h4 ob.1 ob.2.1 ob.2.2.1
   ·cases h
  ·cases h
 ·cases h
theorem pMkSl_sound {t:Nat} {x y:Operand} (h:pMkSl T m nl t (ρ x) (ρ y) hs=some o) (ob:AllP o.ob):PAct0 P T ρ m nl (.makeSlice t x y) o.r o.U o.F:=by
 unfold pMkSl at h
 split at h
 ·rename_i e s k j k' j' h1 h2 h3
  split at h
  ·rename_i ti h4
   split at h
   ·rename_i z hz
    obtain ⟨h5,h6⟩:=cond_some h
    simp only [Bool.and_eq_true] at h5
    have:=some_out h6; subst this
    obtain ⟨o1,o2,o3,o4,_⟩:=ob
    subst o1
    exact .mkSl t x y e s ti z _ _ _ (isFree_spec h5.1.1) h1 h4 hz (beq_eq h5.1.2) (Nat.le_of_ble_eq_true h5.2) h2 h3 o2 o3 o4
   ·cases h
  ·cases h
 ·cases h
theorem pSlice_sound {t:Nat} {x:Operand} {lo hi mx:Option Operand} (h:pSlice T ρ m nl t (ρ x) lo hi mx hs=some o) (ob:AllP o.ob):PAct0 P T ρ m nl (.slice t x lo hi mx) o.r o.U o.F:=by
 unfold pSlice at h
 split at h
 ·rename_i e s xs h1 h2
  split at h
  ·rename_i l h' h3 h4
   have:=some_out h; subst this
   exact .sliceD t x lo hi e s xs l h' h1 h2 h3 h4 ob.1 ob.2.1 ob.2.2.1 ob.2.2.2.1
  ·cases h
 ·rename_i e s l h1 h2
  split at h
  ·rename_i e' s' xs hm
   split at h
   ·rename_i i h' h3 h4
    obtain ⟨h5,h6⟩:=cond_some h
    simp only [Bool.and_eq_true] at h5
    have e1:=beq_eq h5.1.1
    have e2:=beq_eq h5.1.2
    subst e1 e2
    have:=some_out h6; subst this
    have e3:=ob.1
    subst e3
    exact .sliceR t x lo hi _ _ l xs h' (isFree_spec h5.2) h1 h2 hm h3 h4 ob.2.1 ob.2.2.1
   ·cases h
  ·cases h
 ·rename_i e s h1 h2
  split at h
  ·rename_i i h' hs' h3 h4
   have:=some_out h; subst this
   have e1:=ob.1
   have e2:=ob.2.1
   subst e1 e2
   exact .sliceN t x lo hi e s h1 h2 h3 h4
  ·cases h
 ·rename_i l off h1 h2
  split at h
  ·rename_i n e s h3
   split at h
   ·rename_i ag i h' hs' h4 h5 h6
    obtain ⟨h7,h8⟩:=cond_some h
    have:=some_out h8; subst this
    exact .sliceA t x lo hi n e s l off ag i h' h3 h4 h2 h5 h6 ob.1 ob.2.1 ob.2.2.1 ob.2.2.2.1 (Nat.le_of_ble_eq_true h7)
   ·cases h
  ·cases h
 ·cases h
theorem pSliceS_sound {t:Nat} {x:Operand} {lo hi mx:Option Operand} (h:pSliceS T ρ m t (ρ x) lo hi mx hs=some o) (ob:AllP o.ob):PAct0 P T ρ m nl (.slice t x lo hi mx) o.r o.U o.F:=by
 unfold pSliceS at h
 split at h
 ·rename_i e s l h1 h2
  split at h
  ·rename_i e' s' xs hm
   split at h
   ·rename_i i h' h3 h4
    obtain ⟨h5,h6⟩:=cond_some h
    simp only [Bool.and_eq_true] at h5
    have e1:=beq_eq h5.1
    have e2:=beq_eq h5.2
    subst e1 e2
    split at h6
    ·have:=some_out h6; subst this
     exact .sliceS t x _ _ _ _ l xs i h' h1 h2 hm h3 h4 ob.1 ob.2.1 ob.2.2.1
    ·split at h6
     ·rename_i k hk
      have:=some_out h6; subst this
      exact .slice3 t x _ _ _ _ _ _ l xs i h' k rfl h1 h2 hm h3 h4 hk ob.1 ob.2.1 ob.2.2.1 ob.2.2.2.1
     ·cases h6
    ·cases h6
   ·cases h
  ·cases h
 ·rename_i e s l k s1 h1 h2
  split at h
  ·rename_i e' s' xs hm
   split at h
   ·rename_i i h' h3 h4
    obtain ⟨h5,h6⟩:=cond_some h
    simp only [Bool.and_eq_true] at h5
    have e1:=beq_eq h5.1.1
    have e2:=beq_eq h5.1.2
    have e3:=beq_eq h5.2
    subst e1 e2 e3
    have:=some_out h6; subst this
    exact .sliceSS t x _ _ _ _ l k xs i h' h1 h2 hm h3 h4 ob.1 ob.2.1 ob.2.2.1
   ·cases h
  ·cases h
 ·cases h
theorem pEls_sound {x:FV} {xs:List PV} {ls:List Nat} (h:pEls m x=some (xs,ls)):Els m x xs ls:=by
 unfold pEls at h
 split at h
 ·simp at h; obtain ⟨rfl,rfl⟩:=h; exact .sl _
 ·simp at h; obtain ⟨rfl,rfl⟩:=h; exact .nil
 ·simp at h; obtain ⟨rfl,rfl⟩:=h; exact .nnil _ _
 ·split at h
  ·rename_i hm; simp at h; obtain ⟨rfl,rfl⟩:=h; exact .row _ _ _ _ hm
  ·cases h
 ·split at h
  ·rename_i hz; simp at h; obtain ⟨rfl,rfl⟩:=h; exact .asl _ _ _ _ _ _ _ hz
  ·cases h
 ·cases h
theorem pBase_sound {e s:Nat} {x:FV} {xs:List PV} {U:List (Nat×PO)} {ls:List Nat} (h:pBase m e s x=some (xs,U,ls)):Base m e s x xs U ls:=by
 unfold pBase at h
 split at h
 ·simp at h; obtain ⟨rfl,rfl,rfl⟩:=h; exact .nil
 ·split at h
  ·rename_i hm
   obtain ⟨h1,h2⟩:=cond_some h
   simp only [Bool.and_eq_true] at h1
   have e1:=beq_eq h1.1
   have e2:=beq_eq h1.2
   subst e1 e2
   simp at h2; obtain ⟨rfl,rfl,rfl⟩:=h2; exact .row _ _ hm
  ·cases h
 ·cases h
theorem arr1 {α:Type} {xs:Array α} {a:α} (h:xs.toList=[a]):xs=#[a]:=by cases xs; simp_all
theorem arr2 {α:Type} {xs:Array α} {a b:α} (h:xs.toList=[a,b]):xs=#[a,b]:=by cases xs; simp_all
theorem pBuiltin_sound {b:Builtin} {args:Array Operand} {tys:Array Nat} (h:pBuiltin T ρ m nl b args.toList tys.toList hs=some o) (ob:AllP o.ob):PAct0 P T ρ m nl (.call ⟨.builtin b,args,tys⟩) o.r o.U o.F:=by
 unfold pBuiltin at h
 split at h
 ·rename_i x t ha hty
  rw [arr1 ha,arr1 hty]
  split at h
  ·rename_i s hx
   split at h
   ·rename_i ht; have:=val_out h; subst this; exact .lenStr t x s ht hx
   ·cases h
  ·rename_i l i j s' hx
   split at h
   ·rename_i e s ht
    obtain ⟨h1,h2⟩:=cond_some h
    have e1:=beq_eq h1
    subst e1
    have:=val_out h2; subst this; exact .lenSS t x e _ l i j ht hx
   ·cases h
  ·split at h
   ·rename_i e s xs ls ht hx; have:=some_out h; subst this; exact .len t x e s xs ls ht (pEls_sound hx)
   ·cases h
 ·rename_i x y t t' ha hty
  rw [arr2 ha,arr2 hty]
  split at h
  ·rename_i k a k' b hx hy
   split at h
   ·rename_i e; subst e; have:=val_out h; subst this; exact .min2 t t' x y _ a b hx hy
   ·cases h
  ·cases h
 ·rename_i x y t t' ha hty
  rw [arr2 ha,arr2 hty]
  split at h
  ·rename_i k a k' b hx hy
   split at h
   ·rename_i e; subst e; have:=val_out h; subst this; exact .max2 t t' x y _ a b hx hy
   ·cases h
  ·cases h
 ·rename_i x t ha hty
  rw [arr1 ha,arr1 hty]
  split at h
  ·rename_i e s ht hx; have:=val_out h; subst this; exact .capN t x e s ht hx
  ·cases h
 ·rename_i x y t t' ha hty
  rw [arr2 ha,arr2 hty]
  cases hti:(tint T t').isSome with
  | true=>rw [hti] at h; exact pAppZ_sound h ob
  | false =>
  rw [hti] at h
  simp only [cond_false] at h
  split at h
  ·rename_i e s ht
   split at h
   ·rename_i ti xs U ls ys ks hti hb hy
    obtain ⟨h1,h2⟩:=cond_some h
    simp only [Bool.and_eq_true] at h1
    obtain ⟨⟨⟨a1,a2⟩,a3⟩,a4⟩:=h1
    have e1:=beq_eq a1
    subst e1
    have:=some_out h2; subst this
    exact .append _ x y e s ti xs ys U ls ks (isFree_spec a2) ht hti (beq_eq a3) (Nat.le_of_ble_eq_true a4) (pBase_sound hb) (pEls_sound hy) ob.1 ob.2.1 ob.2.2.1
   ·cases h
  ·cases h
 ·cases h
theorem pCall_sound {f:Operand} {args:Array Operand} {tys:Array Nat} (h:pCall P m nl (ρ f) (args.toList.map ρ) hs=some o) (ob:AllP o.ob):PAct0 P T ρ m nl (.call ⟨.value f,args,tys⟩) o.r o.U o.F:=by
 unfold pCall at h
 split at h
 ·rename_i s bs m2 r hs' 
  split at h
  ·rename_i g cs hf
   obtain ⟨h1,h2⟩:=cond_some h
   simp only [Bool.and_eq_true] at h1
   obtain ⟨⟨⟨⟨a1,a2⟩,a3⟩,a4⟩,a5⟩:=h1
   have:=some_out h2; subst this
   exact .callH f args tys g cs s _ bs m2 r hf a1 a2 rfl a3 a4 (Nat.le_of_ble_eq_true a5) ob.1
  ·cases h
 ·split at h
  ·rename_i g caps ps hf hps
   have:=some_out h; subst this
   exact .call f args tys g caps ps _ hf (allD_eq hps) ob.1
  ·cases h
 ·split at h
  ·rename_i g caps ps hf hps
   obtain ⟨h1,h2⟩:=cond_some h
   have:=some_out h2; subst this
   exact .callF f args tys g caps ps _ hf hps ob.1 h1
  ·cases h
 ·cases h
theorem pact_sound {op:Op} (h:pact P T ρ m nl op hs=some o) (ob:AllP o.ob):PAct0 P T ρ m nl op o.r o.U o.F:=by
 unfold pact at h
 split at h
 ·split at h
  ·split at h
   ·rename_i l k s hx
    split at h
    ·rename_i e s' xs hm
     obtain ⟨h1,h2⟩:=cond_some h
     simp only [Bool.and_eq_true] at h1
     have e1:=beq_eq h1.1
     subst e1
     have:=some_out h2; subst this
     exact .moveC _ e _ l k xs (isFree_spec h1.2) hx hm ob.1
    ·cases h
   ·cases h
  ·have:=val_out h; subst this; exact .move _
 ·have:=val_out h; subst this; exact .assign _
 ·split at h
  ·rename_i t hc; have:=val_out h; subst this; exact .pick _ _ _ t hc
  ·cases h
 ·exact pAlloc_sound h
 ·exact pBox_sound h
 ·exact pLoad_sound h ob
 ·exact pStore_sound h ob
 ·exact pField_sound h
 ·exact pFieldV_sound h
 ·exact pIdx_sound h ob
 ·split at h
  ·rename_i s hx; exact pIdxS_sound hx h ob
  ·exact pIdxV_sound h ob
 ·split at h
  ·rename_i cs hc
   split at h
   ·rename_i r hr; have:=val_out h; subst this; exact .extract _ _ cs r hc hr
   ·cases h
  ·cases h
 ·split at h
  ·exact pBinA_sound h ob
  ·split at h
   ·exact pBinB_sound h
   ·exact pBinN_sound h
   ·exact pBinN_sound h
   ·exact pBin_sound h ob
 ·obtain ⟨h1,h2⟩:=cond_some h
  have:=val_out h2; subst this; exact .nilC _ h1
 ·split at h
  ·exact pBSliceD_sound h
  ·exact pBSlice_sound h
 ·exact pMkSl_sound h ob
 ·split at h
  ·exact pSliceS_sound h ob
  ·exact pSlice_sound h ob
 ·split at h
  ·rename_i a ha
   split at h
   ·rename_i z hz; have:=val_out h; subst this; exact .un _ _ _ a z ha hz
   ·cases h
  ·cases h
 ·split at h
  ·rename_i ti k' k n h1 h2 h3; have:=val_out h; subst this; exact .conv _ _ _ k k' ti n h1 h2 h3
  ·cases h
 ·split at h
  ·rename_i ti pl h1 h2
   split at h
   ·cases h
   ·rename_i z zs hz
    split at h
    ·rename_i cs hcs; have:=val_out h; subst this; exact .build _ _ ti pl cs h1 (by rw [hz]; simp) h2 (by rw [hz]; exact hcs)
    ·cases h
  ·cases h
 ·rename_i g first caps
  split at h
  ·rename_i hf
   obtain ⟨h1,h2⟩:=cond_some h
   have:=val_out h2; subst this
   have e:first=#[]:=by cases first; simp_all
   subst e
   exact .makeFunc g caps _ rfl h1
  ·cases h
 ·exact pBuiltin_sound h ob
 ·exact pCall_sound h ob
 ·cases h
theorem reword_sound {h:Hn} {o o':Out} (e:reword h o=some o') (ob:AllP o'.ob):AllP o.ob∧o'.r=o.r∧o'.U=o.U∧o'.F=o.F:=by
 unfold reword at e
 split at e
 ·split at e
  ·rename_i xs h1 h2
   simp at e; subst e
   obtain ⟨o1,o2,_⟩:=AllP.app ob
   exact ⟨o1,by rw [h1,o2],rfl,rfl⟩
  ·rename_i hU hne
   simp at e; subst e
   obtain ⟨o1,o2,_⟩:=AllP.app ob
   exact ⟨o1,rfl,by rw [‹o.U=_›,o2],rfl⟩
  ·rename_i hU hne
   simp at e; subst e
   obtain ⟨o1,o2,_⟩:=AllP.app ob
   exact ⟨o1,rfl,by rw [‹o.U=_›,o2],rfl⟩
  ·cases e
 ·simp at e; subst e
  obtain ⟨o1,o2,_⟩:=AllP.app ob
  exact ⟨o1,o2.symm,rfl,rfl⟩
 ·split at e
  ·simp at e; subst e
   obtain ⟨o1,o2,_⟩:=AllP.app ob
   exact ⟨o1,rfl,by rw [‹o.U=_›,o2],rfl⟩
  ·cases e
 ·cases e
theorem pickObjs_spec:∀ {m:List PO} {ls:List Nat} {m0:List (Nat×PO)},pickObjs m ls=some m0→m0.map (·.1)=ls∧∀ q∈m0,m[q.1]?=some q.2
 | m,[],m0,h=>by simp [pickObjs] at h; subst h; simp
 | m,l::ls,m0,h=>by
  simp only [pickObjs] at h
  split at h
  ·rename_i o r ho hr
   simp at h; subst h
   obtain ⟨h1,h2⟩:=pickObjs_spec hr
   refine ⟨by simp [h1],fun q hq=>?_⟩
   rcases List.mem_cons.1 hq with rfl | hq
   ·exact ho
   ·exact h2 q hq
  ·cases h
theorem pactW_sound {op:Op} (h:pactW P T ρ m nl op hs=some o) (ob:AllP o.ob):PAct P T ρ m nl op o.r o.U o.F:=by
 unfold pactW at h
 have go:∀ (b:Bool) (q:Hn) (hs':List Hn),(bif b then (match pact P T ρ m nl op hs' with | some o=>reword q o | none=>none) else pact P T ρ m nl op (q::hs'))=some o→PAct P T ρ m nl op o.r o.U o.F:=by
  intro b q hs' h
  cases b with
  | false=>exact .base (pact_sound h ob)
  | true =>
   simp only [cond_true] at h
   split at h
   ·rename_i x hx
    obtain ⟨o1,o2,o3,o4⟩:=reword_sound h ob
    rw [o2,o3,o4]; exact .base (pact_sound hx o1)
   ·cases h
 split at h
 ·rename_i k ls r U hs'
  cases hk:Nat.beq k nl with
  | false=>rw [hk] at h; simp only [cond_false] at h; exact .base (pact_sound h ob)
  | true =>
  rw [hk] at h
  simp only [cond_true] at h
  split at h
  ·rename_i m0 hm0
   obtain ⟨h1,h2⟩:=cond_some h
   have:=some_out h2; subst this
   obtain ⟨g1,g2⟩:=pickObjs_spec hm0
   rw [← g1]
   refine .ext g2 (fun q hq=>?_) ob.1
   have:=List.all_eq_true.1 h1 q hq
   rw [List.any_eq_true] at this
   obtain ⟨x,hx,e⟩:=this
   rw [g1,Nat.eq_of_beq_eq_true e]; exact hx
  ·cases h
 ·exact go _ _ _ h
 ·exact go _ _ _ h
 ·exact go _ _ _ h
 ·exact .base (pact_sound h ob)
end
end Go.Proofs.YtocchemnfpnmeaaDoor.pv
