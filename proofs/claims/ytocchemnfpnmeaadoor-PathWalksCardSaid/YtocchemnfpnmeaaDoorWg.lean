/- Ways: Walk and Last; PathWalks answers true. -/
import Derived.Test.YtocchemnfpnmeaaDoorWf
namespace Go.Proofs.YtocchemnfpnmeaaDoor.pv.pw
set_option linter.all false
open Go.RowKit help pv
theorem cloneI (n:Nat) (l:List Int) (h:l.length*8≤140737488355328):G3 n l=some l:=by
 unfold G3
 rw [app_big (by simpa using h) (by simp; unfold maxLen; omega)]; rfl
section
variable {n N0:Nat} {t:Tr} {m:List M} {c:Gc} {cwd:List Int} {s:ByteArray} (F:∀ k,N0≤k→Fit k t) (hN:200≤N0) (hn:N0+500≤n) (hm:m.length+40<n) (hw:cwd.length*8≤140737488351232)
def Begun (n:Nat) (t:Tr) (m:List M) (c:Gc) (cwd:List Int) (s:ByteArray):Prop :=
 (∃ e:Int,e≠0∧Kx n t m c cwd s=some (none,[],e)∧SD n (m.map pr) c cwd s=some e) ∨
 (∃ (r:Bool×List ByteArray×Int) (st:List Int),r.2.1.length≤32∧st≠[]∧st.length≤cwd.length∧okc c∧Sm n c=some 0∧m.length≤8∧Ki n m=some 0 ∧
  Kx n t m c cwd s=some (some ⟨t,m,c,st,0⟩,r.2.1,0)∧SD n (m.map pr) c cwd s=some 0∧Gv n s=some r∧(r.1=true→sub cwd 0 1=some st)∧(r.1=false→st=cwd))
include hN hn hm hw in
theorem start_is:Begun n t m c cwd s:=by
 unfold Begun Kx SD
 obtain ⟨e1,a1,a2,a3,_⟩:=checkG n m hm
 rw [a1,a2,Option.bind_some,Option.bind_some]
 by_cases h1:¬ e1=0
 ·left
  rw [if_neg h1,if_neg h1]
  exact ⟨e1,h1,rfl,rfl⟩
 have h1:e1=0:=Classical.not_not.1 h1
 subst h1
 obtain ⟨e2,b1,b2,b3⟩:=check_any (show 20≤n by omega) c
 rw [b1,b2,if_pos rfl,if_pos rfl,Option.bind_some,Option.bind_some]
 by_cases h2:¬ e2=0
 ·left
  rw [if_neg h2,if_neg h2]
  exact ⟨e2,h2,rfl,rfl⟩
 have h2:e2=0:=Classical.not_not.1 h2
 subst h2
 rw [if_pos rfl,if_pos rfl]
 by_cases h3:(cwd.length:Int)=0
 ·left
  rw [if_pos h3,if_pos h3]
  exact ⟨4,by omega,rfl,rfl⟩
 rw [if_neg h3,if_neg h3]
 obtain ⟨r,r1,r2⟩:=splitG s
 obtain ⟨r3,r4⟩:=r2 n (by omega)
 rw [r3,r4,Option.bind_some,Option.bind_some]
 by_cases h4:¬ r.2.2=0
 ·left
  rw [if_neg h4]
  exact ⟨_,h4,rfl,rfl⟩
 have h4:r.2.2=0:=Classical.not_not.1 h4
 right
 rw [if_pos h4,cloneI n cwd (by omega),Option.bind_some]
 have hc:cwd≠[]:=fun q=>h3 (by rw [q]; rfl)
 have hpos:0<cwd.length:=List.length_pos_iff.2 hc
 cases h5:r.1 with
 | true =>
  refine ⟨r,cwd.take 1,r1,fun q=>hc (by cases cwd with | nil=>rfl | cons a b=>simp at q),by rw [List.length_take]; omega,b3 rfl,rfl,a3 rfl,rfl,?_,by rw [h4],rfl,fun _=>subH1 hpos,fun q=>by rw [h5] at q; cases q⟩
  rw [if_pos rfl,subH1 hpos]; rfl
 | false =>
  refine ⟨r,cwd,r1,hc,Nat.le_refl _,b3 rfl,rfl,a3 rfl,rfl,?_,by rw [h4],rfl,fun q=>(by rw [h5] at q; cases q),fun _=>rfl⟩
  rw [if_neg (by simp)]
include F hN hn hm hw
theorem walk_is (fol:Bool):∃ L:List Int,∃ e:Int,L.length≤cwd.length+400∧Yk n t m c cwd s fol=some (L,e)∧KY n t (m.map pr) c cwd s fol=some (L,e):=by
 unfold Yk KY
 rcases start_is (t:=t) (c:=c) (s:=s) hN hn hm hw with ⟨e,h1,h2,h3⟩ | ⟨r,st,h1,h2,h3,h4,h5,h6,h7,h8,h9,h10,h11,h12⟩
 ·rw [h2,h3,Option.bind_some,Option.bind_some]
  simp only
  rw [if_neg h1,if_neg h1]
  exact ⟨[],e,by simp,rfl,rfl⟩
 ·rw [h8,h9,Option.bind_some,Option.bind_some]
  simp only [if_true]
  rw [h10,Option.bind_some]
  have hO:∀ X:Option (List Int×Int),Gi n ⟨t,m.map pr,c,fol⟩ st r.2.1 0=X→(if r.1=true then (sub cwd 0 1).bind fun s_1=>(Gi n ⟨t,m.map pr,c,fol⟩ s_1 r.2.1 0).bind fun v=>some (v.1,v.2) else (Gi n ⟨t,m.map pr,c,fol⟩ cwd r.2.1 0).bind fun v=>some (v.1,v.2))=X.bind fun v=>some (v.1,v.2):=by
   intro X hX
   cases h5:r.1 with
   | true=>rw [if_pos rfl,h11 h5,Option.bind_some,hX]
   | false=>rw [if_neg (by simp),← h12 h5,hX]
  unfold Sv
  simp only
  obtain ⟨z0,hz0⟩:∃ z0:Nat,z0=0:=⟨0,rfl⟩
  have h0:((z0:Nat):Int)=0:=by rw [hz0]; rfl
  obtain ⟨μ,hμ⟩:∃ μ:Nat,μ=300:=⟨_,rfl⟩
  have hS:(st.length+r.2.1.length+33*(8-z0))*8≤140737488355328:=by omega
  rcases on_walk F hN (by omega) h4 h5 h6 h7 (fol:=fol) μ r.2.1 z0 st (by omega) (by omega) (by omega) h2 hS n n (by omega) (by omega) with ⟨st',lk',b1,b2,b3,b4⟩ | ⟨e,lk',st',b1,b2,b3⟩
  ·rw [h0] at b3 b4
   rw [b3,hO _ b4]
   simp only [Option.bind_some,if_true]
   rw [cloneI n st' (by omega)]
   exact ⟨st',0,by omega,rfl,rfl⟩
  ·rw [h0] at b2 b3
   rw [b2,hO _ b3]
   simp only [Option.bind_some]
   rw [if_neg b1]
   exact ⟨[],e,by simp,rfl,rfl⟩
theorem last_is:∃ L:List Int,∃ nm:ByteArray,∃ e:Int,L.length≤cwd.length+400∧Yl n t m c cwd s=some (L,nm,e)∧KZ n t (m.map pr) c cwd s=some (L,nm,e):=by
 unfold Yl KZ
 rcases start_is (t:=t) (c:=c) (s:=s) hN hn hm hw with ⟨e,h1,h2,h3⟩ | ⟨r,st,h1,h2,h3,h4,h5,h6,h7,h8,h9,h10,h11,h12⟩
 ·rw [h2,h3,Option.bind_some,Option.bind_some]
  simp only
  rw [if_neg h1,if_neg h1]
  exact ⟨[],_,e,by simp,rfl,rfl⟩
 ·rw [h8,h9,Option.bind_some,Option.bind_some]
  simp only [if_true]
  rw [h10,Option.bind_some]
  by_cases hz:r.2.1.length=0
  ·have e1:Kz n r.2.1 ⟨t,m,c,st,0⟩=some (.x0 true st):=by unfold Kz; rw [if_pos (by omega)]
   have e2:Sl n (m.map pr) cwd r t c=some (.x0 true):=by unfold Sl; rw [if_pos (by rw [wi64 (by omega) (by omega)]; omega)]
   rw [e1,e2]
   exact ⟨[],_,3,by simp,rfl,rfl⟩
  have ew:wi .i64 ((r.2.1.length:Int)-1)=((r.2.1.length-1:Nat):Int):=by rw [wi64 (by omega) (by omega)]; omega
  obtain ⟨nm,hnm⟩:∃ nm,r.2.1[r.2.1.length-1]?=some nm:=⟨_,List.getElem?_eq_getElem (by omega)⟩
  have hb:∃ b:Bool,Kz n r.2.1 ⟨t,m,c,st,0⟩=some (.x0 b st)∧Sl n (m.map pr) cwd r t c=some (.x0 b):=by
   unfold Kz Sl
   rw [ew,if_neg (by omega),if_neg (by omega),getI_nat,hnm]
   simp only [Option.bind_some]
   by_cases q:(nm.toList == (ByteArray.mk #[46]).toList)=true
   ·rw [if_pos q,if_pos q]; exact ⟨true,rfl,rfl⟩
   ·rw [if_neg q,if_neg q]; exact ⟨_,rfl,rfl⟩
  obtain ⟨b,e1,e2⟩:=hb
  rw [e1,e2,Option.bind_some,Option.bind_some]
  simp only
  cases b with
  | true=>exact ⟨[],_,3,by simp,rfl,rfl⟩
  | false =>
   simp only [Bool.false_eq_true,if_false]
   have e3:Kf n (m.map pr) cwd r t c=some (.x0 st):=by
    unfold Kf
    cases h5:r.1 with
    | true=>rw [if_pos rfl,h11 h5]; rfl
    | false=>rw [if_neg (by simp),← h12 h5]
   rw [e3,ew,subH _ _ (by omega)]
   simp only [Option.bind_some]
   unfold Sv
   simp only
   obtain ⟨z0,hz0⟩:∃ z0:Nat,z0=0:=⟨0,rfl⟩
   have h0:((z0:Nat):Int)=0:=by rw [hz0]; rfl
   obtain ⟨μ,hμ⟩:∃ μ:Nat,μ=300:=⟨_,rfl⟩
   have hl:(r.2.1.take (r.2.1.length-1)).length≤32:=by rw [List.length_take]; omega
   have hS:(st.length+(r.2.1.take (r.2.1.length-1)).length+33*(8-z0))*8≤140737488355328:=by omega
   rcases on_walk F hN (by omega) h4 h5 h6 h7 (fol:=true) μ (r.2.1.take (r.2.1.length-1)) z0 st (by omega) (by omega) (by omega) h2 hS n n (by omega) (by omega) with ⟨st',lk',b1,b2,b3,b4⟩ | ⟨e,lk',st',b1,b2,b3⟩
   ·rw [h0] at b3 b4
    have hpos:0<st'.length:=List.length_pos_iff.2 b1
    obtain ⟨z,hz'⟩:∃ z,st'[st'.length-1]?=some z:=⟨_,List.getElem?_eq_getElem (by omega)⟩
    have ew2:wi .i64 ((st'.length:Int)-1)=((st'.length-1:Nat):Int):=by rw [wi64 (by omega) (by omega)]; omega
    rw [b3,b4]
    simp only [Option.bind_some,if_true]
    rw [mayG (w:=⟨t,m,c,st',lk'⟩) (F n (by omega)) h4 h5 hz' (by simp only; omega),ew2]
    simp only [getI_nat,hz',hnm,Option.bind_some]
    rw [thrG (w:=⟨t,m.map pr,c,true⟩) (F n (by omega)) h4]
    simp only [Option.bind_some]
    by_cases ht:thr t c z=0
    ·rw [if_pos ht,if_pos ht,cloneI n st' (by omega)]
     exact ⟨st',nm,0,by omega,rfl,rfl⟩
    ·rw [if_neg ht,if_neg ht]
     exact ⟨[],_,_,by simp,rfl,rfl⟩
   ·rw [h0] at b2 b3
    rw [b2,b3]
    simp only [Option.bind_some]
    rw [if_neg b1,if_neg b1]
    exact ⟨[],_,e,by simp,rfl,rfl⟩
end
def toM (p:Fin 2→Int):M:=Gd.mk (p 0) (p 1)
theorem pr_toM (l:List (Fin 2→Int)):(l.map toM).map pr=l:=by
 rw [List.map_map]
 conv=>rhs; rw [← List.map_id l]
 apply List.map_congr_left
 intro p _
 funext i
 match i with
 | 0=>rfl
 | 1=>rfl
theorem mountsL (n:Nat) (ps:List (Fin 2→Int)) (cwd:List Int) (s:ByteArray) (fol:Bool) (t:Tr) (c:Gc) (hp:ps.length*16≤140737488351232):∀ (k i:Nat) (w:List M),ps.length-i<k→i≤ps.length→w.length=i →
  GM n ps cwd s fol t c k (i:Int) w=some (.x0 (w++(ps.drop i).map toM))
 | 0,i,w,h,_,_=>by omega
 | k+1,i,w,h,hi,hw=>by
  rw [GM]
  by_cases h1:i<ps.length
  ·rw [if_pos (by omega),getI_nat,List.getElem?_eq_getElem h1,Option.bind_some,app_big (by simp; omega) (by simp; unfold maxLen; omega),Option.bind_some,wi_succ (by omega),mountsL n ps cwd s fol t c hp k (i+1) _ (by omega) (by omega) (by simp; omega),List.drop_eq_getElem_cons h1,List.map_cons,List.append_assoc]
   rfl
  ·rw [if_neg (by omega),List.drop_eq_nil_of_le (by omega)]; simp
theorem H (t:Tr) (ps:List (Fin 2→Int)) (c:Gc) (cwd:List Int) (s:ByteArray) (fol:Bool) (ht:Ye t) (hp:ps.length*16≤140737488351232) (hw:cwd.length*8≤140737488351232):∃ n,Kg n t ps c cwd s fol=some true:=by
 obtain ⟨⟨ht1,ht2⟩,_⟩:=ht
 have hB:∀ l:List Nd,(∀ y∈l,Zz y)→∃ B,∀ y∈l,y.fNames.length<B∧y.fNames.length<4611686018427387903:=by
  intro l
  induction l with
  | nil=>intro _; exact ⟨0,by simp⟩
  | cons y l ih =>
   intro h
   obtain ⟨B,hB⟩:=ih fun z hz=>h z (by simp [hz])
   have hy:=(h y (by simp)).2.1.1
   refine ⟨B+y.fNames.length+1,fun z hz=>?_⟩
   rcases List.mem_cons.1 hz with rfl | hz
   ·exact ⟨by omega,by omega⟩
   ·have:=hB z hz; exact ⟨by omega,this.2⟩
 obtain ⟨B,hB⟩:=hB t.fNodes ht2
 have F:∀ k,B+200≤k→Fit k t:=fun k hk=>⟨by omega,fun y hy=>⟨by have:=(hB y hy).1; omega,(hB y hy).2⟩,by omega⟩
 refine ⟨B+ps.length+cwd.length+2000,?_⟩
 have hn:B+200+500≤B+ps.length+cwd.length+2000:=by omega
 have hn2:ps.length+40<B+ps.length+cwd.length+2000:=by omega
 have hn3:cwd.length+400<B+ps.length+cwd.length+2000:=by omega
 generalize B+ps.length+cwd.length+2000=n at *
 have hL:=mountsL n ps cwd s fol t c hp n 0 [] (by omega) (by omega) rfl
 have hL:GM n ps cwd s fol t c n 0 []=_:=hL
 rw [List.drop_zero,List.nil_append] at hL
 unfold Kg
 rw [hL,Option.bind_some]
 simp only
 obtain ⟨L,e,a1,a2,a3⟩:=walk_is (m:=ps.map toM) (c:=c) (s:=s) F (by omega) hn (by rw [List.length_map]; exact hn2) hw fol
 obtain ⟨L2,nm,e2,b1,b2,b3⟩:=last_is (m:=ps.map toM) (c:=c) (s:=s) F (by omega) hn (by rw [List.length_map]; exact hn2) hw
 rw [pr_toM] at a3 b3
 rw [a2,b2,a3,b3]
 simp only [Option.bind_some]
 unfold Kr
 obtain ⟨q1,q2,q3⟩:=ZU (n:=n) L L (by omega) (by omega)
 obtain ⟨u1,u2,u3⟩:=ZU (n:=n) L2 L2 (by omega) (by omega)
 have hq:q1=true:=q3.2 rfl
 have hu:u1=true:=u3.2 rfl
 subst hq hu
 simp only [if_true,q2,u2,Option.bind_some]
 simp
end Go.Proofs.YtocchemnfpnmeaaDoor.pv.pw
