/- BufferPlays: what is asked and put, and any sequence of it. -/
import Derived.Test.YtofjjaagjkbeaaaGreatBd
namespace Go.Proofs.YtofjjaagjkbeaaaGreat.pv.bp
set_option linter.all false
open Go.RowKit help pv ld
section
variable {n k:Nat} {C:List Sl} {u:List (Int×Int)} {da:List (Int×ByteArray)} {di:List (Int×Bool)} {now:Int} {d:Gf} {r:Gb}
theorem Rel.bad (n:Nat) (R:Rel 16 d r k) {N:Int} (h:N<0∨N≥16):KN n d N=some ([],1,d):=by
 obtain ⟨P,m,f,h',rfl,rfl⟩:=R
 have h1:=read_is (n:=n) h' N
 rw [if_pos (by exact h)] at h1
 exact h1
theorem clone_is (n:Nat) (b:List Int) (h:b.length≤1000):Gq n b=some b:=by
 unfold Gq
 rw [app_some (by simp; omega) (by omega)]; rfl
theorem get_is (hn:5000≤n) (h:CI 16 C u da di now k) (R:Rel 16 d r k) (hk:k<1499) {m:Nat} (hm:C.length≤m) (m1:1≤m) (m2:m≤32) (N:Int) :
  ∃ b e C' u' da' di' now' d' r',KS n ⟨(),(m:Int),C.map toS⟩ d N=some (b,e,⟨(),(m:Int),C'.map toS⟩,d') ∧
   Kw n ⟨(),(m:Int),now,da,u,di⟩ r N=some (b2s b,e,⟨(),(m:Int),now',da',u',di'⟩,r')∧CI 16 C' u' da' di' now' (k+1)∧Rel 16 d' r' (k+1)∧C'.length≤m:=by
 have hC:=h.small
 have R1:Rel 16 d r (k+1):=R.mono (by omega) (by omega)
 have hs:=R.sect
 unfold KS Kw Zu
 rw [find_is hn (by omega) _ d N,Option.bind_some]
 simp only
 rcases findI_cases (fun c=>nm c == N) C with ⟨f1,f2⟩ | ⟨j,c,f1,f2,f3,f4⟩
 ·have hni:N ∉ C.map nm:=fun hm=>by
   obtain ⟨c,hc,e⟩:=List.mem_map.1 hm
   have:=f2 c hc
   simp [e] at this
  have hd:mget da N=none:=by rw [h.data,fnd_none.2 hni]; rfl
  have hdi:(mget di N).getD false=false:=by rw [h.dirty,fnd_none.2 hni]; rfl
  rw [f1,if_neg (by omega)]
  by_cases h1:N<0
  ·rw [R.bad n (.inl h1),if_pos h1,Option.bind_some,Option.bind_some]
   simp only
   rw [if_neg (by omega),if_pos trivial]
   exact ⟨[],1,C,u,da,di,now,d,r,rfl,rfl,h.mono (by omega),R1,hm⟩
  rw [if_neg h1,hs,Option.bind_some]
  simp only
  by_cases h2:N≥16
  ·rw [R.bad n (.inr h2),Option.bind_some,decide_eq_true (by exact h2),if_pos rfl]
   simp only
   rw [if_neg (by omega)]
   exact ⟨[],1,C,u,da,di,now,d,r,rfl,by rw [← hs]; rfl,h.mono (by omega),R1,hm⟩
  ·obtain ⟨q,rfl⟩:=Int.eq_ofNat_of_zero_le (show 0≤N by omega)
   obtain ⟨g1,g2,g3,g4⟩:=R.read hn (q:=q) (by omega)
   have g2:SX n ⟨r.fSectors,r.fMark,r.fFuse,r.fAll⟩ (q:Int)=_:=g2
   rw [decide_eq_false (by omega),if_neg (by simp),hd,if_neg (by simp),← hs,g1,g2,Option.bind_some,Option.bind_some]
   simp only [if_true]
   rw [hdi,clone_is n _ (by omega)]
   obtain ⟨C',u',da',di',d',r',u1,u2,u3,u4,u5⟩:=use_is hn h R hk hm m1 m2 (q,sector d.fnow q,false) ⟨by omega,g3,g4⟩
   have u1:Si n ⟨(),(m:Int),C.map toS⟩ d ⟨(q:Int),sector d.fnow q,false⟩=_:=u1
   have u2:G1 n ⟨(),(m:Int),now,da,u,di⟩ r (q:Int) (b2s (sector d.fnow q)) false=_:=u2
   rw [u1,u2,Option.bind_some,Option.bind_some,Option.bind_some]
   exact ⟨_,0,C',u',da',di',now+1,d',r',rfl,rfl,u3,u4,u5⟩
 ·have hcm:=List.mem_of_getElem? f2
  have hcs:nm c=N:=by simpa using f3
  subst hcs
  have hj:j<C.length:=(List.getElem?_eq_some_iff.1 f2).1
  have hcw:=h.wf c hcm
  have hd:mget da (nm c)=some (b2s c.2.1):=by rw [h.data,fnd_mem h.nd hcm]; rfl
  have hdi:(mget di (nm c)).getD false=c.2.2:=by rw [h.dirty,fnd_mem h.nd hcm]; rfl
  have hg:(C.map toS)[j]?=some (toS c):=by rw [List.getElem?_map,f2]; rfl
  have hnc:nm c=(c.1:Int):=rfl
  rw [f1,if_pos (by omega),if_pos ⟨by omega,by rw [Int.toNat_natCast,List.length_map]; exact hj⟩,Int.toNat_natCast,hg,Option.bind_some,if_neg (by omega),hs,Option.bind_some]
  simp only
  have hsm:(some (b2s c.2.1)).isSome=true:=rfl
  rw [decide_eq_false (by omega),if_neg (by simp),hd,if_pos hsm,hdi]
  obtain ⟨C',u',da',di',d',r',u1,u2,u3,u4,u5⟩:=use_is hn h R hk hm m1 m2 c hcw
  have hcd:(toS c).fdata=c.2.1:=rfl
  rw [u1,hcd,clone_is n _ (by omega),← hs]
  simp only [Option.getD_some]
  have u2:G1 n ⟨(),(m:Int),now,da,u,di⟩ ⟨r.fSectors,r.fMark,r.fFuse,r.fAll⟩ (nm c) (b2s c.2.1) c.2.2=_:=u2
  rw [u2,Option.bind_some,Option.bind_some,Option.bind_some]
  exact ⟨_,0,C',u',da',di',now+1,d',r',rfl,rfl,u3,u4,u5⟩
theorem put_is (hn:5000≤n) (h:CI 16 C u da di now k) (R:Rel 16 d r k) (hk:k<1499) {m:Nat} (hm:C.length≤m) (m1:1≤m) (m2:m≤32) (N:Int) (b:List Int) (hb:By b) :
  ∃ e C' u' da' di' now' d' r',KP n ⟨(),(m:Int),C.map toS⟩ d N b=some (e,⟨(),(m:Int),C'.map toS⟩,d') ∧
   Ku n ⟨(),(m:Int),now,da,u,di⟩ r N (b2s b)=some (e,⟨(),(m:Int),now',da',u',di'⟩,r')∧CI 16 C' u' da' di' now' (k+1)∧Rel 16 d' r' (k+1)∧C'.length≤m:=by
 have R1:Rel 16 d r (k+1):=R.mono (by omega) (by omega)
 have hs:=R.sect
 unfold KP Ku ZE Zt
 by_cases h1:N<0
 ·rw [if_pos h1,if_pos h1,Option.bind_some,Option.bind_some]
  exact ⟨1,C,u,da,di,now,d,r,rfl,rfl,h.mono (by omega),R1,hm⟩
 rw [if_neg h1,if_neg h1,R.size n,Option.bind_some,hs]
 simp only
 by_cases h2:N≥16
 ·rw [if_pos (by exact h2),if_pos (by exact h2),Option.bind_some,Option.bind_some]
  exact ⟨1,C,u,da,di,now,d,r,rfl,(by rw [← hs]; rfl),h.mono (by omega),R1,hm⟩
 rw [if_neg (by omega),if_neg (by omega),b2s_size,Option.bind_some,Option.bind_some]
 simp only
 by_cases h3:b.length=64
 ·have hb0:((b.length:Int) != 64)=false:=by simp; omega
  rw [hb0,if_neg (by simp),if_neg (by simp),clone_is n b (by omega),Option.bind_some,← hs]
  obtain ⟨q,rfl⟩:=Int.eq_ofNat_of_zero_le (show 0≤N by omega)
  obtain ⟨C',u',da',di',d',r',u1,u2,u3,u4,u5⟩:=use_is hn h R hk hm m1 m2 (q,b,true) ⟨by omega,h3,hb⟩
  have u1:Si n ⟨(),(m:Int),C.map toS⟩ ⟨d.fsafe,d.fnow,d.fwait,d.ffuse⟩ ⟨(q:Int),b,true⟩=_:=u1
  have u2:G1 n ⟨(),(m:Int),now,da,u,di⟩ ⟨r.fSectors,r.fMark,r.fFuse,r.fAll⟩ (q:Int) (b2s b) true=_:=u2
  rw [u1,u2,Option.bind_some,Option.bind_some]
  exact ⟨0,C',u',da',di',now+1,d',r',rfl,rfl,u3,u4,u5⟩
 ·have hb1:((b.length:Int) != 64)=true:=by simp; omega
  rw [hb1,if_pos rfl,if_pos rfl]
  exact ⟨1,C,u,da,di,now,d,r,rfl,(by rw [← hs]),h.mono (by omega),R1,hm⟩
theorem eq_true (n:Nat) (a:List Int) (ha:a.length≤500) (hn:5000≤n):SY n a a=some true:=by
 obtain ⟨x,h1,h2⟩:=VQ (n:=n) a a (by omega) (by omega)
 rw [h1,h2.2 rfl]
theorem see (hn:5000≤n) (h:CI 16 C u da di now k) (R:Rel 16 d r k) (m:Nat) (l:List Gm) (x:Int) :
  S8 n l x d.ffuse d.fsafe d.fnow d.fwait (m:Int) (C.map toS) (m:Int) now r.fSectors r.fMark r.fFuse r.fAll da u di=some (.x0 false d.ffuse d.fsafe d.fnow d.fwait (m:Int) (C.map toS) (m:Int) now r.fSectors r.fMark r.fFuse r.fAll da u di):=by
 have hC:=h.small
 unfold S8
 have h1:=pheld hn (by omega:C.length≤500) (m:Int) d
 have h1:KE n ⟨(),(m:Int),C.map toS⟩ ⟨d.fsafe,d.fnow,d.fwait,d.ffuse⟩=_:=h1
 have h2:=rheld hn h (by omega) (m:Int) r
 have h2:Sr n ⟨(),(m:Int),now,da,u,di⟩ ⟨r.fSectors,r.fMark,r.fFuse,r.fAll⟩=_:=h2
 rw [h1,h2,Option.bind_some,Option.bind_some]
 simp only
 rw [eq_true n _ (by simp; omega) hn,Option.bind_some,if_pos rfl,pdirty hn h (m:Int) d,rdirty hn R,Option.bind_some,Option.bind_some]
 simp only
 have hl:=dl_len di
 rw [eq_true n _ (by omega) hn,Option.bind_some,if_pos rfl]
 unfold ZY
 rw [Option.bind_some,R.waits]
 simp
theorem loop (hn:5000≤n) {m:Nat} (m1:1≤m) (m2:m≤32) (l:List Gm) (hl:l.length≤60) (hb:∀ a∈l,By a.fData):∀ (t i:Nat) (C:List Sl) (u:List (Int×Int)) (da:List (Int×ByteArray)) (di:List (Int×Bool)) (now:Int) (d:Gf) (r:Gb),l.length-i<t→i≤l.length→CI 16 C u da di now (18*i)→Rel 16 d r (18*i)→C.length≤m →
  ∃ u' da' di' now' d' r',GZ n l t (i:Int) d.ffuse d.fsafe d.fnow d.fwait (m:Int) (C.map toS) (m:Int) now r.fSectors r.fMark r.fFuse r.fAll da u di=some (.x1 d'.ffuse d'.fsafe d'.fnow d'.fwait (m:Int) now' r'.fSectors r'.fMark r'.fFuse r'.fAll da' u' di')∧Rel 16 d' r' (18*l.length)
 | 0,i,_,_,_,_,_,_,_,h,_,_,_,_=>by omega
 | t+1,i,C,u,da,di,now,d,r,h,hi,hI,R,hm=>by
  rw [GZ]
  by_cases h1:i<l.length
  ·rw [if_pos (by omega),getI_nat,List.getElem?_eq_getElem h1,Option.bind_some,wi_succ (by omega)]
   have fin:∀ (C':List Sl) u' da' di' now' d' r',CI 16 C' u' da' di' now' (18*(i+1))→Rel 16 d' r' (18*(i+1))→C'.length≤m →
     S7 n l (i:Int) l[i] d.ffuse d.fsafe d.fnow d.fwait (m:Int) (C.map toS) (m:Int) now r.fSectors r.fMark r.fFuse r.fAll da u di=some (.x1 d'.ffuse d'.fsafe d'.fnow d'.fwait (m:Int) (C'.map toS) (m:Int) now' r'.fSectors r'.fMark r'.fFuse r'.fAll da' u' di') →
     ∃ u' da' di' now' d' r',(S7 n l (i:Int) l[i] d.ffuse d.fsafe d.fnow d.fwait (m:Int) (C.map toS) (m:Int) now r.fSectors r.fMark r.fFuse r.fAll da u di).bind (fun v_o2268=>match v_o2268 with
      | .x0 v_z2269=>some (.x0 v_z2269)
      | .x1 v_z2271 v_z2272 v_z2273 v_z2274 v_z2275 v_z2276 v_z2277 v_z2278 v_z2279 v_z2280 v_z2281 v_z2282 v_z2283 v_z2284 v_z2285 =>
       (S8 n l (i:Int) v_z2271 v_z2272 v_z2273 v_z2274 v_z2275 v_z2276 v_z2277 v_z2278 v_z2279 v_z2280 v_z2281 v_z2282 v_z2283 v_z2284 v_z2285).bind fun v_o2349=>match v_o2349 with
       | .x0 v_z2350 v_z2351 v_z2352 v_z2353 v_z2354 v_z2355 v_z2356 v_z2357 v_z2358 v_z2359 v_z2360 v_z2361 v_z2362 v_z2363 v_z2364 v_z2365 =>
        if v_z2350=true then some (.x0 false) else GZ n l t ((i+1:Nat):Int) v_z2351 v_z2352 v_z2353 v_z2354 v_z2355 v_z2356 v_z2357 v_z2358 v_z2359 v_z2360 v_z2361 v_z2362 v_z2363 v_z2364 v_z2365)=some (.x1 d'.ffuse d'.fsafe d'.fnow d'.fwait (m:Int) now' r'.fSectors r'.fMark r'.fFuse r'.fAll da' u' di')∧Rel 16 d' r' (18*l.length):=by
    intro C' u' da' di' now' d' r' I' R' hm' he
    rw [he,Option.bind_some]
    simp only
    rw [see hn I' R' m l (i:Int),Option.bind_some]
    simp only [Bool.false_eq_true,if_false]
    exact loop hn m1 m2 l hl hb t (i+1) C' u' da' di' now' d' r' (by omega) (by omega) I' R' hm'
   unfold S7 at fin ⊢
   have hby:=hb l[i] (List.getElem_mem h1)
   by_cases k0:l[i].fKind=0
   ·simp only [if_pos k0] at fin ⊢
    obtain ⟨e,C',u',da',di',now',d',r',g1,g2,g3,g4,g5⟩:=put_is hn hI R (by omega) hm m1 m2 l[i].fN l[i].fData hby
    have g1:KP n ⟨(),(m:Int),C.map toS⟩ ⟨d.fsafe,d.fnow,d.fwait,d.ffuse⟩ l[i].fN l[i].fData=_:=g1
    have g2:Ku n ⟨(),(m:Int),now,da,u,di⟩ ⟨r.fSectors,r.fMark,r.fFuse,r.fAll⟩ l[i].fN (b2s l[i].fData)=_:=g2
    refine fin C' u' da' di' now' d' r' (g3.mono (by omega)) (g4.mono (by omega) (by omega)) g5 ?_
    rw [g1,g2,Option.bind_some,Option.bind_some,if_pos rfl]
   ·simp only [if_neg k0] at fin ⊢
    by_cases k1:l[i].fKind=1
    ·simp only [if_pos k1] at fin ⊢
     obtain ⟨C',di',d',r',g1,g2,g3,g4,g5⟩:=sync_is hn hI R (by omega) m
     have g1:KD n ⟨(),(m:Int),C.map toS⟩ ⟨d.fsafe,d.fnow,d.fwait,d.ffuse⟩=_:=g1
     have g2:Kk n ⟨(),(m:Int),now,da,u,di⟩ ⟨r.fSectors,r.fMark,r.fFuse,r.fAll⟩=_:=g2
     refine fin C' u da di' now d' r' (g3.mono (by omega)) (g4.mono (by omega) (by omega)) (by omega) ?_
     rw [g1,g2,Option.bind_some,Option.bind_some]
    ·simp only [if_neg k1] at fin ⊢
     obtain ⟨b,e,C',u',da',di',now',d',r',g1,g2,g3,g4,g5⟩:=get_is hn hI R (by omega) hm m1 m2 l[i].fN
     have g1:KS n ⟨(),(m:Int),C.map toS⟩ ⟨d.fsafe,d.fnow,d.fwait,d.ffuse⟩ l[i].fN=_:=g1
     have g2:Kw n ⟨(),(m:Int),now,da,u,di⟩ ⟨r.fSectors,r.fMark,r.fFuse,r.fAll⟩ l[i].fN=_:=g2
     refine fin C' u' da' di' now' d' r' (g3.mono (by omega)) (g4.mono (by omega) (by omega)) g5 ?_
     rw [g1,g2,Option.bind_some,Option.bind_some,if_pos rfl]
     simp
  ·have hil:i=l.length:=by omega
   rw [if_neg (by omega)]
   exact ⟨u,da,di,now,d,r,rfl,by rw [← hil]; exact R⟩
end
theorem lightL (n:Nat) (l:List Gm) (hl:l.length<4611686018427387903):∀ (t i:Nat),l.length-i<t→i≤l.length→(∃ o,Sd n l t (i:Int)=some o)
 | 0,i,h,_=>by omega
 | t+1,i,h,hi=>by
  rw [Sd]
  by_cases h1:i<l.length
  ·rw [if_pos (by omega),getI_nat,List.getElem?_eq_getElem h1,Option.bind_some,wi_succ (by omega)]
   split
   ·exact ⟨_,rfl⟩
   split
   ·exact ⟨_,rfl⟩
   ·exact lightL n l hl t (i+1) (by omega) (by omega)
  ·rw [if_neg (by omega)]; exact ⟨_,rfl⟩
theorem lightX (n:Nat) (l:List Gm) (hl:l.length<4611686018427387903):∀ (t i:Nat) (b:Bool),i≤l.length→Sd n l t (i:Int)=some (.x0 b)→b=false
 | 0,i,b,_,h=>by rw [Sd] at h; cases h
 | t+1,i,b,hi,h=>by
  rw [Sd] at h
  by_cases h1:i<l.length
  ·rw [if_pos (by omega),getI_nat,List.getElem?_eq_getElem h1,Option.bind_some,wi_succ (by omega)] at h
   split at h
   ·simp at h; exact h
   split at h
   ·simp at h; exact h
   ·exact lightX n l hl t (i+1) b (by omega) h
  ·rw [if_neg (by omega)] at h; cases h
theorem light_is (n:Nat) (l:List Gm) (hl:l.length<4611686018427387903) (hn:l.length<n):∃ b,Z8 n l=some b∧(b=true→l.length≤60):=by
 obtain ⟨o,ho⟩:=lightL n l hl n 0 (by omega) (by omega)
 have ho':Sd n l n 0=some o:=ho
 unfold Z8
 rw [ho',Option.bind_some]
 cases o with
 | x0 b =>
  have:=lightX n l hl n 0 b (by omega) ho
  exact ⟨b,rfl,fun h=>by rw [this] at h; cases h⟩
 | x1=>exact ⟨_,rfl,fun h=>by have:=of_decide_eq_true h; omega⟩
theorem by_of {b:List Int} (h:okL 1 (fun a=>(Lit.int .u8 a).wf=true) b):By b:=fun x hx=>by
 have:=wf8.1 (h.2 x hx)
 omega
theorem H (s:Int) (l:List Gm) (h3:okL 64 Y9 l):∃ n,Zf n s l=some true:=by
 refine ⟨l.length+20000,?_⟩
 have hll:l.length<4611686018427387903:=by have:=h3.1; omega
 have hn:5000≤l.length+20000:=by omega
 have hn2:l.length<l.length+20000:=by omega
 generalize l.length+20000=n at *
 unfold Zf
 have em:mkL 1 (0:Int) (wi .i64 ((16:Int)*64))=some (List.replicate (16*64) 0):=by
  rw [wi64 (by omega) (by omega)]
  unfold mkL
  rw [if_pos ⟨by omega,by unfold maxLen; omega,by omega⟩]
  rfl
 have i0:Inv 16 [] 0 (-1) 0:=⟨by omega,fun p hp=>by simp at hp,Nat.le_refl _,by simp,by omega,by decide,fun p hp=>by simp at hp⟩
 have R0:Rel 16 (D 16 [] 0 (-1)) (Rf 16 [] 0 (-1)) 0:=⟨[],0,-1,i0,rfl,rfl⟩
 have e1:D 16 [] 0 (-1)=⟨List.replicate (16*64) 0,List.replicate (16*64) 0,[],-1⟩:=rfl
 have e2:Rf 16 [] 0 (-1)=⟨16,0,-1,[]⟩:=rfl
 unfold Ut
 rw [if_neg (by omega),if_neg (by omega),em,Option.bind_some,Option.bind_some,Option.bind_some]
 simp only [if_true]
 unfold XQ
 by_cases s1:s<1
 ·simp only [if_pos s1,Option.bind_some,if_true]
 by_cases s2:s > 32
 ·simp only [if_neg s1,if_pos s2,Option.bind_some,if_true]
 simp only [if_neg s1,if_neg s2,Option.bind_some,if_true]
 obtain ⟨b,hb,hb2⟩:=light_is n l hll hn2
 rw [hb,Option.bind_some]
 cases b with
 | false=>rfl
 | true =>
  have hl60:=hb2 rfl
  rw [if_pos rfl]
  unfold Z2 ZU
  simp only [Option.bind_some]
  obtain ⟨m,rfl⟩:=Int.eq_ofNat_of_zero_le (show 0≤s by omega)
  have hCI:CI 16 [] [] [] [] 0 0:=⟨by simp,by simp,by simp,by simp,by simp,by simp,fun N=>rfl,fun N=>rfl,by simp,by omega⟩
  obtain ⟨u',da',di',now',d',r',g1,g2⟩:=loop hn (m:=m) (by omega) (by omega) l hl60 (fun a ha=>by_of (h3.2 a ha).2.2.1) n 0 [] [] [] [] 0 _ _ (by omega) (by omega) hCI R0 (by simp)
  have g1:GZ n l n 0 (-1) (List.replicate (16*64) 0) (List.replicate (16*64) 0) [] (m:Int) [] (m:Int) 0 16 0 (-1) [] [] [] []=_:=g1
  rw [g1,Option.bind_some]
  simp only
  obtain ⟨b,v1,v2⟩:=g2.image hn
  have v1:Zc n ⟨d'.fsafe,d'.fnow,d'.fwait,d'.ffuse⟩=_:=v1
  have v2:Kl n ⟨r'.fSectors,r'.fMark,r'.fFuse,r'.fAll⟩=_:=v2
  rw [v1,v2,Option.bind_some,Option.bind_some]
  simp
end Go.Proofs.YtofjjaagjkbeaaaGreat.pv.bp
