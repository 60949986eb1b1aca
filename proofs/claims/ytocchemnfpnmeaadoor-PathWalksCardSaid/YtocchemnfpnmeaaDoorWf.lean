/- Ways: the walk by pieces, on both sides. -/
import Derived.Test.YtocchemnfpnmeaaDoorWe
namespace Go.Proofs.YtocchemnfpnmeaaDoor.pv.pw
set_option linter.all false
open Go.RowKit help pv
theorem concS (n:Nat) (hn:3≤n) (a b:List ByteArray) (h:(a.length+b.length)*16≤140737488355328):Gw n [a,b]=some (a++b):=by
 obtain ⟨m,rfl⟩:∃ m,n=m+3:=⟨n-3,by omega⟩
 unfold Gw
 have e0:∀ (x y:List ByteArray),getI [x,y] 0=some x:=fun x y=>rfl
 have e1:∀ (x y:List ByteArray),getI [x,y] 1=some y:=fun x y=>rfl
 have w1:wi .i64 ((0:Int)+1)=1:=wi64 (by omega) (by omega)
 have w2:wi .i64 ((1:Int)+1)=2:=wi64 (by omega) (by omega)
 have wa:wi .i64 (0+(a.length:Int))=a.length:=by rw [wi64 (by omega) (by omega)]; omega
 have wb:wi .i64 ((a.length:Int)+(b.length:Int))=((a.length+b.length:Nat):Int):=by rw [wi64 (by omega) (by omega)]; omega
 have l1:Gp (m+3) [a,b] (m+3) 0 0=some (.x0 ((a.length+b.length:Nat):Int)):=by
  rw [Gp,if_pos (by simp),e0,Option.bind_some,wa,if_neg (by omega),w1,
   Gp,if_pos (by simp),e1,Option.bind_some,wb,if_neg (by omega),w2,
   Gp,if_neg (by simp)]
 rw [l1,Option.bind_some]
 have hg:G7 (m+3) ((a.length+b.length:Nat):Int)=some []:=by
  unfold G7
  have w0:wi .i64 ((0:Int)-0)=0:=wi64 (by omega) (by omega)
  have w3:wi .i64 (((a.length+b.length:Nat):Int)-0)=((a.length+b.length:Nat):Int):=by rw [wi64 (by omega) (by omega)]; omega
  rw [if_neg (by omega),w0,w3]
  by_cases hz:((a.length+b.length:Nat):Int) > 0
  ·rw [if_pos hz]
   have:appZ 16 (ByteArray.mk #[]) ((a.length+b.length:Nat):Int)=some (List.replicate (a.length+b.length) (ByteArray.mk #[])):=by
    unfold appZ
    rw [if_pos (by simp only [Int.toNat_natCast,maxLen]; omega),Int.toNat_natCast]
   rw [this,Option.bind_some]
   have:sub (List.replicate (a.length+b.length) (ByteArray.mk #[])) 0 0=some []:=by
    unfold sub
    rw [if_pos (by simp; omega)]; rfl
   rw [this]; rfl
  ·rw [if_neg hz]
 simp only
 rw [hg,Option.bind_some]
 have l2:Gq (m+3) [a,b] (m+3) 0 []=some (.x0 (a++b)):=by
  rw [Gq,if_pos (by simp),e0,Option.bind_some,app_big (by simp; omega) (by simp; unfold maxLen; omega),Option.bind_some,w1,
   Gq,if_pos (by simp),e1,Option.bind_some,app_big (by simp; omega) (by simp; unfold maxLen; omega),Option.bind_some,w2,
   Gq,if_neg (by simp)]
  simp
 rw [l2]; rfl
theorem get0 {α:Type} (p:α) (l:List α):getI (p::l) 0=some p:=rfl
theorem subT {α:Type} (p:α) (l:List α):sub (p::l) 1 (((p::l).length:Nat):Int)=some l:=by
 unfold sub
 rw [if_pos ⟨by omega,by simp; omega,by omega⟩]
 simp
theorem subH {α:Type} (l:List α) (k:Nat) (h:k≤l.length):sub l 0 (k:Int)=some (l.take k):=by
 unfold sub
 rw [if_pos ⟨by omega,by omega,by omega⟩]
 simp
theorem subH1 {α:Type} {l:List α} (h:0<l.length):sub l 0 1=some (l.take 1):=subH l 1 (by omega)
def lnkV (s:Gh) (fol:Bool) (l:List ByteArray):Bool:=if s.fKind=3 then (if fol=true then true else decide ((l.length:Int) > 0)) else false
theorem c5 (n:Nat) (l:List ByteArray) (fol:Bool) (r:Int×Int) (e:Int) (w:Ge) (s:Gh×Int):Sz n l fol r (e,w) s=some (.x0 (lnkV s.1 fol l) w.fstack):=by
 unfold Sz lnkV
 by_cases h1:s.1.fKind=3
 ·rw [if_pos h1,if_pos h1]
  by_cases h2:fol=true
  ·rw [if_pos h2,if_pos h2]
  ·rw [if_neg h2,if_neg h2]
 ·rw [if_neg h1,if_neg h1]
theorem c1 (n:Nat) (st:List Int) (p:ByteArray) (l:List ByteArray) (lk:Int) (r:Int×Int) (w:Gn) (s:Gh×Int):Ke n st (p::l) lk r w s=some (.x0 (!lnkV s.1 w.ffollow l)):=by
 unfold Ke lnkV
 by_cases h1:s.1.fKind=3
 ·rw [if_pos h1,if_pos h1]
  by_cases h2:l.length=0
  ·rw [if_pos (by simp; omega)]
   have:¬ ((l.length:Int) > 0):=by omega
   rw [decide_eq_false this]
   cases w.ffollow <;> rfl
  ·rw [if_neg (by simp; omega)]
   have:((l.length:Int) > 0):=by omega
   rw [decide_eq_true this]
   cases w.ffollow <;> rfl
 ·rw [if_neg h1,if_neg h1]; rfl
def dotB:ByteArray:=ByteArray.mk #[46]
section
variable {n N0:Nat} {t:Tr} {m:List M} {c:Gc} {fol:Bool} (F:∀ k,N0≤k→Fit k t) (hN:200≤N0) (hn:N0≤n) (hc:okc c) (h0:Sm n c=some 0) (hm:m.length≤8) (h1:Ki n m=some 0)
include F hN hn hc h0 hm h1
theorem on_walk:∀ (μ:Nat) (l:List ByteArray) (lk:Nat) (st:List Int),μ≤1000→l.length+33*(8-lk)≤μ→lk≤8→st≠[]→(st.length+l.length+33*(8-lk))*8≤140737488355328→∀ (k n':Nat),μ<k→N0+μ+1≤n' →
  (∃ (st':List Int) (lk':Int),st'≠[]∧st'.length≤st.length+l.length+33*(8-lk)∧Gj n fol k l t m c (lk:Int) st=some (.x1 t m c lk' st')∧Gi n' ⟨t,m.map pr,c,fol⟩ st l (lk:Int)=some (st',0)) ∨
  (∃ (e lk':Int) (st':List Int),e≠0∧Gj n fol k l t m c (lk:Int) st=some (.x0 e t m c lk' st')∧Gi n' ⟨t,m.map pr,c,fol⟩ st l (lk:Int)=some ([],e))
 | _,_,_,_,_,_,_,_,_,0,_,h,_=>by omega
 | _,_,_,_,_,_,_,_,_,_,0,_,h=>by omega
 | μ,[],lk,st,_,_,_,hst,_,k+1,n'+1,_,_=>by
  left
  refine ⟨st,lk,hst,by omega,?_,?_⟩
  ·rw [Gj,if_neg (by simp)]
  ·rw [Gi,if_pos (by simp)]
 | 0,p::l,lk,st,_,hμ,_,_,_,k+1,n'+1,_,_=>by simp at hμ
 | μ+1,p::l,lk,st,h1000,hμ,hlk,hst,hS,k+1,n'+1,hk,hn'=>by
  have hpos:0<st.length:=List.length_pos_iff.2 hst
  have hlen:(p::l).length=l.length+1:=rfl
  rw [hlen] at hμ hS
  have hst2:st.length<4611686018427387903:=by omega
  obtain ⟨z,hz⟩:∃ z,st[st.length-1]?=some z:=⟨_,List.getElem?_eq_getElem (by omega)⟩
  have ew:wi .i64 ((st.length:Int)-1)=((st.length-1:Nat):Int):=by rw [wi64 (by omega) (by omega)]; omega
  have FN:=F n hn
  have FN':=F n' (by omega)
  have hL0:Gj n fol (k+1) (p::l) t m c (lk:Int) st=(Gs n (p::l) fol t m c (lk:Int) st).bind fun o=>match o with
    | .x0 a1 a2 a3 a4 a5 a6=>some (.x0 a1 a2 a3 a4 a5 a6)
    | .x1 a1 a2 a3 a4 a5 a6=>Gj n fol k a1 a2 a3 a4 a5 a6
    | .x2 a1 a2 a3 a4 a5 a6=>Gj n fol k a6 a1 a2 a3 a4 a5:=by
   rw [Gj,if_pos (by rw [hlen]; omega)]
   rfl
  have err:∀ (e lk':Int) (st':List Int),e≠0→Gs n (p::l) fol t m c (lk:Int) st=some (.x0 e t m c lk' st')→Gi (n'+1) ⟨t,m.map pr,c,fol⟩ st (p::l) (lk:Int)=some ([],e) →
    (∃ (st':List Int) (lk':Int),st'≠[]∧st'.length≤st.length+(p::l).length+33*(8-lk)∧Gj n fol (k+1) (p::l) t m c (lk:Int) st=some (.x1 t m c lk' st')∧Gi (n'+1) ⟨t,m.map pr,c,fol⟩ st (p::l) (lk:Int)=some (st',0)) ∨
    (∃ (e lk':Int) (st':List Int),e≠0∧Gj n fol (k+1) (p::l) t m c (lk:Int) st=some (.x0 e t m c lk' st')∧Gi (n'+1) ⟨t,m.map pr,c,fol⟩ st (p::l) (lk:Int)=some ([],e)):=by
   intro e lk' st' a b d
   exact Or.inr ⟨e,lk',st',a,by rw [hL0,b]; rfl,d⟩
  have go:∀ (l2:List ByteArray) (lk2:Nat) (st2:List Int),l2.length+33*(8-lk2)≤μ→lk2≤8→st2≠[]→st2.length+l2.length+33*(8-lk2)≤st.length+(l.length+1)+33*(8-lk) →
    Gj n fol (k+1) (p::l) t m c (lk:Int) st=Gj n fol k l2 t m c (lk2:Int) st2 →
    Gi (n'+1) ⟨t,m.map pr,c,fol⟩ st (p::l) (lk:Int)=((Gi n' ⟨t,m.map pr,c,fol⟩ st2 l2 (lk2:Int)).bind fun r=>some (r.1,r.2)) →
    (∃ (st':List Int) (lk':Int),st'≠[]∧st'.length≤st.length+(p::l).length+33*(8-lk)∧Gj n fol (k+1) (p::l) t m c (lk:Int) st=some (.x1 t m c lk' st')∧Gi (n'+1) ⟨t,m.map pr,c,fol⟩ st (p::l) (lk:Int)=some (st',0)) ∨
    (∃ (e lk':Int) (st':List Int),e≠0∧Gj n fol (k+1) (p::l) t m c (lk:Int) st=some (.x0 e t m c lk' st')∧Gi (n'+1) ⟨t,m.map pr,c,fol⟩ st (p::l) (lk:Int)=some ([],e)):=by
   intro l2 lk2 st2 a1 a2 a3 a4 a5 a6
   rcases on_walk μ l2 lk2 st2 (by omega) a1 a2 a3 (by omega) k n' (by omega) (by omega) with ⟨st',lk',b1,b2,b3,b4⟩ | ⟨e,lk',st',b1,b2,b3⟩
   ·exact Or.inl ⟨st',lk',b1,by rw [hlen]; omega,by rw [a5,b3],by rw [a6,b4]; rfl⟩
   ·exact Or.inr ⟨e,lk',st',b1,by rw [a5,b2],by rw [a6,b3]; rfl⟩
  by_cases he':¬ thr t c z=0
  ·refine err _ (lk:Int) st he' ?_ ?_
   ·unfold Gs
    rw [get0,subT,Option.bind_some,Option.bind_some,mayG (w:=Ge.mk t m c st (lk:Int)) FN hc h0 hz hst2,Option.bind_some]
    simp only
    rw [if_neg he']
   ·rw [Gi,if_neg (by rw [hlen]; omega),ew,getI_nat,hz,Option.bind_some,thrG FN' hc,Option.bind_some]
    simp only
    rw [if_neg he']
  have he:thr t c z=0:=Classical.not_not.1 he'
  by_cases p1:(p.toList == (ByteArray.mk #[46]).toList)=true
  ·refine go l lk st (by omega) hlk hst (by omega) ?_ ?_
   ·have hC:Gs n (p::l) fol t m c (lk:Int) st=some (.x1 l t m c (lk:Int) st):=by
     unfold Gs
     rw [get0,subT,Option.bind_some,Option.bind_some,mayG (w:=Ge.mk t m c st (lk:Int)) FN hc h0 hz hst2,Option.bind_some]
     simp only
     rw [if_pos he,if_pos p1]
    rw [hL0,hC]; rfl
   ·rw [Gi,if_neg (by rw [hlen]; omega),ew,getI_nat,hz,Option.bind_some,thrG FN' hc,Option.bind_some]
    simp only
    rw [if_pos he,get0,Option.bind_some,if_pos p1,subT,Option.bind_some]
  by_cases p2:(p.toList == (ByteArray.mk #[46,46]).toList)=true
  ·have hcut:∃ st2,(Sy n l fol (thr t c z,Ge.mk t m c st (lk:Int))=some (.x0 st2))∧sub st 0 (maxI 1 ((st.length-1:Nat):Int))=some st2∧st2≠[]∧st2.length≤st.length:=by
    unfold Sy
    simp only
    rw [ew]
    by_cases q:(st.length:Int) > 1
    ·refine ⟨st.take (st.length-1),?_,?_,?_,?_⟩
     ·rw [if_pos q,subH _ _ (by omega),Option.bind_some]
     ·have:maxI 1 ((st.length-1:Nat):Int)=((st.length-1:Nat):Int):=by unfold maxI; split <;> omega
      rw [this,subH _ _ (by omega)]
     ·intro q2
      have:=congrArg List.length q2
      rw [List.length_take] at this
      simp at this; omega
     ·rw [List.length_take]; omega
    ·refine ⟨st,?_,?_,hst,Nat.le_refl _⟩
     ·rw [if_neg q]
     ·have:maxI 1 ((st.length-1:Nat):Int)=((st.length:Nat):Int):=by unfold maxI; split <;> omega
      rw [this,subH _ _ (by omega),List.take_length]
   obtain ⟨st2,q1,q2,q3,q4⟩:=hcut
   refine go l lk st2 (by omega) hlk q3 (by omega) ?_ ?_
   ·have hC:Gs n (p::l) fol t m c (lk:Int) st=some (.x1 l t m c (lk:Int) st2):=by
     unfold Gs
     rw [get0,subT,Option.bind_some,Option.bind_some,mayG (w:=Ge.mk t m c st (lk:Int)) FN hc h0 hz hst2,Option.bind_some]
     simp only
     rw [if_pos he,if_neg p1,if_pos p2,q1]; rfl
    rw [hL0,hC]; rfl
   ·rw [Gi,if_neg (by rw [hlen]; omega),ew,getI_nat,hz,Option.bind_some,thrG FN' hc,Option.bind_some]
    simp only
    rw [if_pos he,get0,Option.bind_some,if_neg p1,Option.bind_some,if_pos p2,q2,Option.bind_some,subT,Option.bind_some]
  have hC1:Gs n (p::l) fol t m c (lk:Int) st=(if (lookV t z p).2=0 then (if (statV t (lookV t z p).1).2=0 then (if lnkV (statV t (lookV t z p).1).1 fol l=true then (S7 n (Ge.mk t m c st (lk:Int)) (lookV t z p).1).bind fun r=>if r.2.1=0 then (app 16 r.1 l).bind fun a=>some (.x2 r.2.2.ft r.2.2.fmounts r.2.2.fc r.2.2.flinks r.2.2.fstack a) else some (.x0 r.2.1 r.2.2.ft r.2.2.fmounts r.2.2.fc r.2.2.flinks r.2.2.fstack) else (ZY n m (lookV t z p).1).bind fun r=>if r.2=0 then (app 8 st [r.1]).bind fun a=>some (.x1 l t m c (lk:Int) a) else some (.x0 r.2 t m c (lk:Int) st)) else some (.x0 (statV t (lookV t z p).1).2 t m c (lk:Int) st)) else some (.x0 (lookV t z p).2 t m c (lk:Int) st)):=by
   unfold Gs
   rw [get0,subT,Option.bind_some,Option.bind_some,mayG (w:=Ge.mk t m c st (lk:Int)) FN hc h0 hz hst2,Option.bind_some]
   simp only
   rw [if_pos he,if_neg p1,if_neg p2,top_is n (Ge.mk t m c st (lk:Int)) hz hst2,Option.bind_some,lookG FN,Option.bind_some]
   by_cases a1:(lookV t z p).2=0
   ·rw [if_pos a1,if_pos a1,statG FN,Option.bind_some]
    by_cases a2:(statV t (lookV t z p).1).2=0
    ·rw [if_pos a2,if_pos a2,c5,Option.bind_some]
    ·rw [if_neg a2,if_neg a2]
   ·rw [if_neg a1,if_neg a1]
  have hO1:Gi (n'+1) ⟨t,m.map pr,c,fol⟩ st (p::l) (lk:Int)=(if (lookV t z p).2=0 then (if (statV t (lookV t z p).1).2=0 then (if (!lnkV (statV t (lookV t z p).1).1 fol l)=true then (if (lookV t z p).1<1 then some ([],1) else if (lookV t z p).1 > 32 then some ([],1) else (SC n' (m.map pr) (lookV t z p).1).bind fun d=>(Sf n' [st,[d]]).bind fun a=>(Gi n' ⟨t,m.map pr,c,fol⟩ a l (lk:Int)).bind fun r=>some (r.1,r.2)) else if (lk:Int)=8 then some ([],14) else (nodeV t (lookV t z p).1).bind fun y=>(Gv n' y.fTell).bind fun r=>if r.2.2=0 then (if r.1=true then (sub st 0 1).bind fun s=>(Gw n' [r.2.1,l]).bind fun a=>(Gi n' ⟨t,m.map pr,c,fol⟩ s a (wi .i64 ((lk:Int)+1))).bind fun r=>some (r.1,r.2) else (Gw n' [r.2.1,l]).bind fun a=>(Gi n' ⟨t,m.map pr,c,fol⟩ st a (wi .i64 ((lk:Int)+1))).bind fun r=>some (r.1,r.2)) else some ([],r.2.2)) else some ([],(statV t (lookV t z p).1).2)) else some ([],(lookV t z p).2)):=by
   rw [Gi,if_neg (by rw [hlen]; omega),ew,getI_nat,hz,Option.bind_some,thrG FN' hc,Option.bind_some]
   simp only
   rw [if_pos he,get0,Option.bind_some,if_neg p1,Option.bind_some,if_neg p2,Option.bind_some,lookG FN',Option.bind_some]
   by_cases a1:(lookV t z p).2=0
   ·rw [if_pos a1,if_pos a1,statG FN',Option.bind_some]
    by_cases a2:(statV t (lookV t z p).1).2=0
    ·rw [if_pos a2,if_pos a2,c1,Option.bind_some]
     simp only
     rw [subT]
     simp only [Option.bind_some,nodeG n' t _ FN'.l]
    ·rw [if_neg a2,if_neg a2]
   ·rw [if_neg a1,if_neg a1]
  generalize lookV t z p=lv at hC1 hO1
  by_cases a1:¬ lv.2=0
  ·rw [if_neg a1] at hC1 hO1
   exact err _ _ _ a1 hC1 hO1
  have a1:lv.2=0:=Classical.not_not.1 a1
  by_cases a2:¬ (statV t lv.1).2=0
  ·rw [if_pos a1,if_neg a2] at hC1 hO1
   exact err _ _ _ a2 hC1 hO1
  have a2:(statV t lv.1).2=0:=Classical.not_not.1 a2
  rw [if_pos a1,if_pos a2] at hC1 hO1
  cases hlnk:lnkV (statV t lv.1).1 fol l with
  | false =>
   rw [hlnk] at hC1 hO1
   simp only [Bool.false_eq_true,if_false,Bool.not_false,if_true] at hC1 hO1
   unfold ZY at hC1
   rw [h1,Option.bind_some,if_pos rfl,inode_any,Option.bind_some] at hC1
   by_cases b1:1≤lv.1∧lv.1≤32
   ·rw [decide_eq_true b1.1,decide_eq_true b1.2,Bool.and_self,if_pos rfl,downG n m (by omega) (by omega),Option.bind_some,Option.bind_some] at hC1
    simp only [if_true] at hC1
    rw [if_neg (by omega),if_neg (by omega),refG n' m (by omega) (by omega),Option.bind_some] at hO1
    generalize (downF m (m.length+1) lv.1).1=d at hC1 hO1
    have hlim:(st.length+1)*8≤140737488355328:=by omega
    rw [app_big (by simpa using hlim) (by simp; unfold maxLen; omega),Option.bind_some] at hC1
    rw [concI n' (by omega) st [d] (by simpa using hlim),Option.bind_some] at hO1
    refine go l lk (st++[d]) (by omega) hlk (by simp) (by simp; omega) ?_ hO1
    rw [hL0,hC1]; rfl
   ·have hb:(decide (1≤lv.1)&&decide (lv.1≤32))=false:=by
     by_cases b2:1≤lv.1
     ·rw [decide_eq_false (fun q=>b1 ⟨b2,q⟩),Bool.and_false]
     ·rw [decide_eq_false b2,Bool.false_and]
    rw [hb] at hC1
    simp only [Bool.false_eq_true,if_false,Option.bind_some] at hC1
    rw [if_neg (by omega)] at hC1
    refine err 1 _ _ (by omega) hC1 ?_
    by_cases b2:lv.1<1
    ·rw [hO1,if_pos b2]
    ·rw [hO1,if_neg b2,if_pos (by omega)]
  | true =>
   rw [hlnk] at hC1 hO1
   simp only [if_true,Bool.not_true,Bool.false_eq_true,if_false] at hC1 hO1
   have hk3:(statV t lv.1).1.fKind=3:=by
    unfold lnkV at hlnk
    split at hlnk
    ·assumption
    ·cases hlnk
   obtain ⟨y,hy⟩:∃ y,nodeV t lv.1=some y:=by
    unfold statV at a2
    cases hq:nodeV t lv.1 with
    | none=>rw [hq] at a2; simp at a2
    | some y=>exact ⟨y,rfl⟩
   have hy3:y.fStat.fKind=3:=by unfold statV at hk3; rw [hy] at hk3; exact hk3
   unfold S7 at hC1
   simp only at hC1
   have e1:wi .i64 ((lk:Int)+1)=((lk+1:Nat):Int):=by rw [wi64 (by omega) (by omega)]; omega
   rw [e1] at hC1 hO1
   rw [hy,Option.bind_some] at hO1
   by_cases b1:lk=8
   ·rw [if_pos (by omega),Option.bind_some] at hC1
    simp only at hC1
    rw [if_neg (by omega)] at hC1
    rw [if_pos (by omega)] at hO1
    exact err 14 _ _ (by omega) hC1 hO1
   rw [if_neg (by omega),tellG FN hy hy3,Option.bind_some] at hC1
   rw [if_neg (by omega)] at hO1
   obtain ⟨r,r1,r2⟩:=splitG y.fTell
   simp only [if_true] at hC1
   rw [(r2 n (by omega)).1,Option.bind_some] at hC1
   rw [(r2 n' (by omega)).2,Option.bind_some] at hO1
   by_cases b2:¬ r.2.2=0
   ·rw [if_neg b2,Option.bind_some] at hC1
    simp only at hC1
    rw [if_neg b2] at hC1 hO1
    exact err _ _ _ b2 hC1 hO1
   have b2:r.2.2=0:=Classical.not_not.1 b2
   rw [if_pos b2] at hC1 hO1
   have hcl:GP n r.2.1=some r.2.1:=by
    unfold GP
    rw [app_some (by simp; omega) (by omega)]; rfl
   have hap:app 16 r.2.1 l=some (r.2.1++l):=app_some (by omega) (by omega)
   have hco:=concS n' (by omega) r.2.1 l (by omega)
   have h33:33*(8-lk)=33*(8-(lk+1))+33:=by omega
   by_cases b3:r.1=true
   ·rw [if_pos b3,subH1 hpos,Option.bind_some,hcl,Option.bind_some,Option.bind_some] at hC1
    simp only [if_true,hap,Option.bind_some] at hC1
    rw [if_pos b3,subH1 hpos,Option.bind_some,hco,Option.bind_some] at hO1
    refine go (r.2.1++l) (lk+1) (st.take 1) (by simp; omega) (by omega) (fun q=>hst (by cases st with | nil=>rfl | cons a b=>simp at q)) (by have:=List.length_take_le 1 st; simp only [List.length_append]; omega) ?_ hO1
    rw [hL0,hC1]; rfl
   ·rw [if_neg b3,hcl,Option.bind_some,Option.bind_some] at hC1
    simp only [if_true,hap,Option.bind_some] at hC1
    rw [if_neg b3,hco,Option.bind_some] at hO1
    refine go (r.2.1++l) (lk+1) st (by simp; omega) (by omega) hst (by simp; omega) ?_ hO1
    rw [hL0,hC1]; rfl
end
end Go.Proofs.YtocchemnfpnmeaaDoor.pv.pw
