/- BufferPlays: what isn't on the disk yet, and how it gets there, on both sides. -/
import Derived.Test.YtofjjaagjkbeaaaGreatBc
import Derived.Test.YtofjjaagjkbeaaaGreatSoB
namespace Go.Proofs.YtofjjaagjkbeaaaGreat.pv.bp
set_option linter.all false
open Go.RowKit help pv ld
theorem lessI (n:Nat) (x y:Int):Gj n x y=some (Go.Sort.ltInt x y):=by
 unfold Gj YI Yy Go.Sort.ltInt
 simp
theorem pdirtyL (n:Nat) (C:List Sl) (hC:C.length≤500) (c:Gh) (hc:c.fl=C.map toS) (d:Gf) (a b:List Int) (w:List Gk):∀ (k i:Nat) (out:List Int),C.length-i<k→i≤C.length→out.length≤i →
  GY n c d k (i:Int) a b w (C.map toS) out=some (.x0 a b w (C.map toS) (out++((C.drop i).filter (fun c=>c.2.2)).map nm))
 | 0,i,_,h,_,_=>by omega
 | k+1,i,out,h,hi,ho=>by
  rw [GY,hc,List.length_map]
  by_cases h1:i<C.length
  ·have hg:(C.map toS)[i]?=some (toS C[i]):=by rw [List.getElem?_map,List.getElem?_eq_getElem h1]; rfl
   have hf:(toS C[i]).fdirty=C[i].2.2:=rfl
   rw [if_pos (by omega),if_pos ⟨by omega,by rw [Int.toNat_natCast]; exact h1⟩,Int.toNat_natCast,hg,Option.bind_some,wi_succ (by omega),hf]
   have hd:(C.drop i).filter (fun c=>c.2.2)=if C[i].2.2=true then C[i]::(C.drop (i+1)).filter (fun c=>c.2.2) else (C.drop (i+1)).filter (fun c=>c.2.2):=by
    rw [List.drop_eq_getElem_cons h1,List.filter_cons]
   rw [hd]
   by_cases h2:C[i].2.2=true
   ·rw [if_pos h2,if_pos h2,app_some (by simp; omega) (by omega),Option.bind_some,pdirtyL n C hC c hc d a b w k (i+1) _ (by omega) (by omega) (by simp; omega),List.map_cons,List.append_assoc]
    rfl
   ·rw [if_neg h2,if_neg h2,pdirtyL n C hC c hc d a b w k (i+1) _ (by omega) (by omega) (by omega)]
  ·rw [if_neg (by omega),List.drop_eq_nil_of_le (by omega)]; simp
theorem rdirtyL (n:Nat) (r:Gb) (hr:r.fSectors=16) (c:Gg) (A:List Gi) (da:List (Int×ByteArray)) (u:List (Int×Int)) (di:List (Int×Bool)):∀ (k i:Nat) (out:List Int),16-i<k→i≤16→out.length≤i →
  GP n r c k (i:Int) A da u di out=some (.x0 A da u di (out++((List.range' i (16-i)).filter (fun x:Nat=>(mget di (x:Int)).getD false)).map fun x:Nat=>(x:Int)))
 | 0,i,_,h,_,_=>by omega
 | k+1,i,out,h,hi,ho=>by
  rw [GP,hr]
  by_cases h1:i<16
  ·obtain ⟨j,hj⟩:∃ j,16-i=j+1:=⟨16-i-1,by omega⟩
   have hj2:16-(i+1)=j:=by omega
   rw [if_pos (by omega),wi_succ (by omega),hj,List.range'_succ,List.filter_cons]
   by_cases h2:(mget di (i:Int)).getD false=true
   ·rw [if_pos h2,if_pos h2,app_some (by simp; omega) (by omega),Option.bind_some,rdirtyL n r hr c A da u di k (i+1) _ (by omega) (by omega) (by simp; omega),hj2,List.map_cons,List.append_assoc]
    rfl
   ·rw [if_neg h2,if_neg h2,rdirtyL n r hr c A da u di k (i+1) _ (by omega) (by omega) (by omega),hj2]
  ·rw [if_neg (by omega)]
   have:16-i=0:=by omega
   rw [this]; simp
section
variable {n k:Nat} {C:List Sl} {u:List (Int×Int)} {da:List (Int×ByteArray)} {di:List (Int×Bool)} {now:Int} {d:Gf} {r:Gb}
def dl (di:List (Int×Bool)):List Int:=((List.range' 0 16).filter (fun x:Nat=>(mget di (x:Int)).getD false)).map fun x:Nat=>(x:Int)
theorem dl_mem (h:CI 16 C u da di now k) (x:Int):x∈dl di↔∃ c∈C,nm c=x∧c.2.2=true:=by
 unfold dl
 simp only [List.mem_map,List.mem_filter,List.mem_range'_1]
 constructor
 ·rintro ⟨a,⟨h1,h2⟩,rfl⟩
  rw [h.dirty] at h2
  cases hf:fnd C (a:Int) with
  | none=>rw [hf] at h2; cases h2
  | some c =>
   rw [hf] at h2
   have hc:c∈C∧nm c=(a:Int):=by
    unfold fnd at hf
    exact ⟨List.mem_of_find?_eq_some hf,by simpa using List.find?_some hf⟩
   exact ⟨c,hc.1,hc.2,h2⟩
 ·rintro ⟨c,hc,rfl,h2⟩
  refine ⟨c.1,⟨⟨by omega,by have:=(h.wf c hc).1; omega⟩,?_⟩,rfl⟩
  have e:((c.1:Nat):Int)=nm c:=rfl
  rw [e,h.dirty,fnd_mem h.nd hc]
  exact h2
theorem dl_sorted (di:List (Int×Bool)):(dl di).Pairwise (·<·):=by
 unfold dl
 refine List.pairwise_map.2 ((List.Pairwise.filter _ List.pairwise_lt_range').imp fun {a b} h=>?_)
 omega
theorem dl_len (di:List (Int×Bool)):(dl di).length≤16:=by
 unfold dl
 rw [List.length_map]
 exact Nat.le_trans (List.length_filter_le _ _) (by simp)
theorem rdirty (hn:5000≤n) (R:Rel 16 d r k) (m now:Int) (da:List (Int×ByteArray)) (u:List (Int×Int)) (di:List (Int×Bool)) :
  Ke n ⟨(),m,now,da,u,di⟩ r=some (dl di,⟨(),m,now,da,u,di⟩,r):=by
 unfold Ke
 have h:=rdirtyL n r R.sect ⟨(),m,now,da,u,di⟩ r.fAll da u di n 0 [] (by omega) (by omega) (by simp)
 have h:GP n r ⟨(),m,now,da,u,di⟩ n 0 r.fAll da u di []=_:=h
 simp only
 rw [h]; rfl
theorem pdirty (hn:5000≤n) (h:CI 16 C u da di now k) (m:Int) (d:Gf) :
  Kv n ⟨(),m,C.map toS⟩ d=some (dl di,⟨(),m,C.map toS⟩,d):=by
 have hC:=h.small
 unfold Kv
 have hL:=pdirtyL n C (by omega) ⟨(),m,C.map toS⟩ rfl d d.fsafe d.fnow d.fwait n 0 [] (by omega) (by omega) (by simp)
 have hL:GY n ⟨(),m,C.map toS⟩ d n 0 d.fsafe d.fnow d.fwait (C.map toS) []=_:=hL
 simp only
 rw [hL,Option.bind_some]
 simp only [List.nil_append,List.drop_zero]
 have hfl:((C.filter fun c=>c.2.2).map nm).length≤16:=by
  rw [List.length_map]; exact Nat.le_trans (List.length_filter_le _ _) hC
 obtain ⟨q,q1,q2,q3⟩:=so.sorted n (Q:=fun _=>True) (lt:=Go.Sort.ltInt) (fun n x y _ _=>lessI n x y) Go.Sort.swo_ltInt ((C.filter fun c=>c.2.2).map nm) (fun _ _=>trivial) (by omega) (by omega)
 rw [q1,Option.bind_some]
 have hnd:((C.filter fun c=>c.2.2).map nm).Nodup:=(List.Sublist.map nm List.filter_sublist).nodup h.nd
 have hp:q.Perm (dl di):=by
  refine q2.trans ((List.perm_ext_iff_of_nodup hnd ?_).2 fun x=>?_)
  ·exact (dl_sorted di).imp fun {a b} h=>by omega
  ·rw [dl_mem h]
   simp only [List.mem_map,List.mem_filter]
   constructor
   ·rintro ⟨c,⟨h1,h2⟩,rfl⟩; exact ⟨c,h1,rfl,h2⟩
   ·rintro ⟨c,h1,rfl,h2⟩; exact ⟨c,⟨h1,h2⟩,rfl⟩
 have hq:q=dl di:=List.Perm.eq_of_pairwise (le:=fun a b:Int=>a≤b) (fun a b _ _ h1 h2=>by omega) (q3.imp fun {a b} h=>by simp only [Go.Sort.ltInt,decide_eq_false_iff_not] at h; omega) ((dl_sorted di).imp fun {a b} h=>by omega) hp
 rw [hq]
theorem at_find {C:List Sl} {N:Int} (h:N∈C.map nm):∃ (X:List Sl) (c:Sl) (Y:List Sl),C=X++c::Y∧nm c=N∧findI (fun c=>nm c == N) C=(X.length:Int):=by
 rcases findI_cases (fun c=>nm c == N) C with ⟨f1,f2⟩ | ⟨j,c,f1,f2,f3,f4⟩
 ·obtain ⟨c,hc,e⟩:=List.mem_map.1 h
  have:=f2 c hc
  simp [e] at this
 ·have hj:j<C.length:=(List.getElem?_eq_some_iff.1 f2).1
  have hc:C[j]=c:=(List.getElem?_eq_some_iff.1 f2).2
  refine ⟨C.take j,c,C.drop (j+1),?_,by simpa using f3,by rw [f1,List.length_take,Nat.min_eq_left (by omega)]⟩
  rw [← hc,← List.drop_eq_getElem_cons hj,List.take_append_drop]
theorem syncL (hn:5000≤n) (m:Nat) (L:List Int) (hL:L.length≤16) (p1:List Int×Gh×Gf) (e1:p1.1=L) (p2:List Int×Gg×Gb) (e2:p2.1=L):∀ (t i:Nat) (C:List Sl) (di:List (Int×Bool)) (d:Gf) (r:Gb) (k:Nat),L.length-i<t→i≤L.length→(∀ x∈L,x∈C.map nm)→CI 16 C u da di now k→Rel 16 d r k→k+L.length-i<1500 →
  ∃ C' di' d' r',Sj n p1 t (i:Int) (m:Int) d.ffuse d.fsafe d.fnow d.fwait (C.map toS)=some (.x0 (m:Int) d'.ffuse d'.fsafe d'.fnow d'.fwait (C'.map toS)) ∧
   Sa n p2 t (i:Int) r.fSectors r.fMark r.fFuse r.fAll da u di=some (.x0 r'.fSectors r'.fMark r'.fFuse r'.fAll da u di')∧CI 16 C' u da di' now (k+L.length-i)∧Rel 16 d' r' (k+L.length-i)∧C'.length=C.length
 | 0,i,_,_,_,_,_,h,_,_,_,_,_=>by omega
 | t+1,i,C,di,d,r,k,h,hi,hm,hI,R,hk=>by
  have hC:=hI.small
  rw [Sj,Sa,e1,e2]
  by_cases h1:i<L.length
  ·rw [if_pos (by omega),if_pos (by omega),getI_nat,List.getElem?_eq_getElem h1,Option.bind_some,Option.bind_some,wi_succ (by omega)]
   obtain ⟨X,c,Y,rfl,hc,hf⟩:=at_find (hm L[i] (List.getElem_mem h1))
   have hfi:=find_is hn (by omega:(X++c::Y).length≤500) (m:Int) d L[i]
   have hfi:SL n ⟨(),(m:Int),(X++c::Y).map toS⟩ ⟨d.fsafe,d.fnow,d.fwait,d.ffuse⟩ L[i]=_:=hfi
   have hcw:=hI.wf c (by simp)
   have hda:(mget da L[i]).getD (ByteArray.mk #[])=b2s c.2.1:=by rw [← hc,hI.data,fnd_mem hI.nd (by simp)]; rfl
   obtain ⟨e,d',r',w1,w2,w3,_⟩:=R.write n (by omega) L[i] c.2.1 hcw.2.2
   have w2:Ss n ⟨r.fSectors,r.fMark,r.fFuse,r.fAll⟩ L[i] (b2s c.2.1)=some (e,r'):=w2
   have hg:((X++c::Y).map toS)[X.length]?=some (toS c):=by simp
   rw [hfi,Option.bind_some,hf]
   simp only
   rw [if_pos ⟨by omega,by rw [Int.toNat_natCast]; simp⟩,Int.toNat_natCast,hg,Option.bind_some]
   have hcd:(toS c).fdata=c.2.1:=rfl
   rw [hcd,w1,Option.bind_some,if_pos ⟨by omega,by simp⟩,Option.bind_some,hda,w2,Option.bind_some]
   simp only
   have hset:((X++c::Y).map toS).set X.length ⟨(toS c).fn,(toS c).fdata,false⟩=(X++(c.1,c.2.1,false)::Y).map toS:=by
    rw [List.map_append,List.map_cons,List.set_append_right _ _ (by simp)]
    simp [toS]
   have hcl:=hI.clean
   have hnm:(X++(c.1,c.2.1,false)::Y).map nm=(X++c::Y).map nm:=by simp [nm]
   rw [hset,← hc]
   obtain ⟨C',di',d2,r2,s1,s2,s3,s4,s5⟩:=syncL hn m L hL p1 e1 p2 e2 t (i+1) (X++(c.1,c.2.1,false)::Y) (mput di (nm c) false) d' r' (k+1) (by omega) (by omega) (by rw [hnm]; exact hm) (hcl.mono (by omega)) w3 (by omega)
   rw [s1,s2]
   have ek:k+1+L.length-(i+1)=k+L.length-i:=by omega
   rw [ek] at s3 s4
   exact ⟨C',di',d2,r2,rfl,rfl,s3,s4,by rw [s5]; simp⟩
  ·rw [if_neg (by omega),if_neg (by omega)]
   exact ⟨C,di,d,r,rfl,rfl,hI.mono (by omega),R.mono (by omega) (by omega),rfl⟩
theorem sync_is (hn:5000≤n) (h:CI 16 C u da di now k) (R:Rel 16 d r k) (hk:k<1480) (m:Nat) :
  ∃ C' di' d' r',KD n ⟨(),(m:Int),C.map toS⟩ d=some (⟨(),(m:Int),C'.map toS⟩,d') ∧
   Kk n ⟨(),(m:Int),now,da,u,di⟩ r=some (⟨(),(m:Int),now,da,u,di'⟩,r')∧CI 16 C' u da di' now (k+18)∧Rel 16 d' r' (k+18)∧C'.length=C.length:=by
 unfold KD Kk
 rw [pdirty hn h (m:Int) d,rdirty hn R,Option.bind_some,Option.bind_some]
 simp only
 have hl:=dl_len di
 obtain ⟨C',di',d2,r2,s1,s2,s3,s4,s5⟩:=syncL (u:=u) (da:=da) (now:=now) hn m (dl di) hl (dl di,⟨(),(m:Int),C.map toS⟩,d) rfl (dl di,⟨(),(m:Int),now,da,u,di⟩,r) rfl n 0 C di d r k (by omega) (by omega) (fun x hx=>by
  obtain ⟨c,hc,e,_⟩:=(dl_mem h x).1 hx
  exact List.mem_map.2 ⟨c,hc,e⟩) h R (by omega)
 have s1:Sj n (dl di,⟨(),(m:Int),C.map toS⟩,d) n 0 (m:Int) d.ffuse d.fsafe d.fnow d.fwait (C.map toS)=_:=s1
 have s2:Sa n (dl di,⟨(),(m:Int),now,da,u,di⟩,r) n 0 r.fSectors r.fMark r.fFuse r.fAll da u di=_:=s2
 rw [s1,s2,Option.bind_some,Option.bind_some]
 obtain ⟨d3,r3,f1,f2,f3⟩:=s4.flush n (by omega)
 have f1:Kx n ⟨d2.fsafe,d2.fnow,d2.fwait,d2.ffuse⟩=some d3:=f1
 have f2:SN n ⟨r2.fSectors,r2.fMark,r2.fFuse,r2.fAll⟩=some r3:=f2
 simp only
 rw [f1,f2,Option.bind_some,Option.bind_some]
 exact ⟨C',di',d3,r3,rfl,rfl,s3.mono (by omega),f3.mono (by omega) (by omega),s5⟩
end
end Go.Proofs.YtofjjaagjkbeaaaGreat.pv.bp
