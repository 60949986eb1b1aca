/- BufferPlays: what is held, and how a sector is brought ahead, on both sides. -/
import Derived.Test.YtofjjaagjkbeaaaGreatBb
namespace Go.Proofs.YtofjjaagjkbeaaaGreat.pv.bp
set_option linter.all false
open Go.RowKit help pv ld
theorem sortD_is {S:Nat} {C:List Sl} {u:List (Int×Int)} {da:List (Int×ByteArray)} {di:List (Int×Bool)} {now:Int} {k:Nat} (h:CI S C u da di now k) {xs:List Int} (hp:xs.Perm (C.map nm)):sortD u xs=C.map nm:=by
 obtain ⟨h1,h2⟩:=sortD_spec u xs
 refine List.Perm.eq_of_pairwise (le:=fun x y=>gtD u y x=false) ?_ h2 ?_ (h1.trans hp)
 ·intro a b ha hb hab hba
  have hb':=hb
  obtain ⟨cb,hcb,rfl⟩:=List.mem_map.1 hb
  have ha':a∈C.map nm:=(h1.trans hp).mem_iff.1 ha
  obtain ⟨ca,hca,rfl⟩:=List.mem_map.1 ha'
  simp only [gtD,decide_eq_false_iff_not,Int.not_lt] at hab hba
  apply Classical.byContradiction
  intro hne
  have hne':ca≠cb:=fun e=>hne (by rw [e])
  have key:∀ (L:List Sl),(L.Pairwise fun a b=>(mget u (nm b)).getD 0<(mget u (nm a)).getD 0)→ca∈L→cb∈L→(mget u (nm ca)).getD 0≠(mget u (nm cb)).getD 0:=by
   intro L
   induction L with
   | nil=>intro _ h; cases h
   | cons x L ih =>
    intro hL h1 h2
    rw [List.pairwise_cons] at hL
    rcases List.mem_cons.1 h1 with g1 | g1 <;> rcases List.mem_cons.1 h2 with g2 | g2
    ·exact absurd (g1.trans g2.symm) hne'
    ·have:=hL.1 _ g2; rw [← g1] at this; omega
    ·have:=hL.1 _ g1; rw [← g2] at this; omega
    ·exact ih hL.2 g1 g2
  have:=key C h.ord hca hcb
  omega
 ·refine List.pairwise_map.2 (h.ord.imp fun {a b} hab=>?_)
  simp only [gtD,decide_eq_false_iff_not]
  omega
theorem rheldL (n:Nat) (c:Gg) (r:Gb) (A:List Gi) (da:List (Int×ByteArray)) (di:List (Int×Bool)):∀ (ord:List (Int×Int)) (k:Nat) (w:List Int),ord.length<k→w.length+ord.length≤1000 →
  GH n c r k A da di w ord=some (.x0 A da di (w++ord.map (·.1)))
 | [],k+1,w,_,_=>by rw [GH]; simp
 | p::ord,k+1,w,h,hw=>by
  obtain ⟨a,b⟩:=p
  simp only [List.length_cons] at h hw
  rw [GH,app_some (by simp; omega) (by omega),Option.bind_some,rheldL n c r A da di ord k _ (by omega) (by simp; omega)]
  simp
 | [],0,_,h,_=>by omega
 | _::_,0,_,h,_=>by omega
theorem rheld {n S:Nat} (hn:5000≤n) {C:List Sl} {u:List (Int×Int)} {da:List (Int×ByteArray)} {di:List (Int×Bool)} {now:Int} {k:Nat} (h:CI S C u da di now k) (hC:C.length≤500) (sl:Int) (r:Gb) :
  Sr n ⟨(),sl,now,da,u,di⟩ r=some (C.map nm,⟨(),sl,now,da,u,di⟩,r):=by
 have hul:=h.len
 have ho:∀ q:List (Int×Int),q.Perm u→SB n ⟨(),sl,now,da,u,di⟩ r q=some (C.map nm,⟨(),sl,now,da,u,di⟩,r):=by
  intro q hq
  have hql:=hq.length_eq
  unfold SB
  rw [rheldL n _ r _ _ _ q n [] (by omega) (by simp; omega),Option.bind_some]
  simp only [List.nil_append]
  rw [if_pos (by simp; omega),sortD_is h ((hq.map _).trans h.perm)]
 unfold Sr Zq
 simp only [Option.bind_some]
 rw [ho u (List.Perm.refl _),Option.bind_some,if_pos]
 rw [List.all_eq_true]
 intro q hq
 exact decide_eq_true (ho q (of_perms hq))
theorem pheldL (n:Nat) (C:List Sl) (hC:C.length≤500) (c:Gh) (hc:c.fl=C.map toS) (d:Gf) (a b:List Int) (w:List Gk):∀ (k i:Nat) (out:List Int),C.length-i<k→i≤C.length→out.length≤i →
  Sk n c d k (i:Int) a b w (C.map toS) out=some (.x0 a b w (C.map toS) (out++(C.drop i).map nm))
 | 0,i,_,h,_,_=>by omega
 | k+1,i,out,h,hi,ho=>by
  rw [Sk,hc,List.length_map]
  by_cases h1:i<C.length
  ·have hg:(C.map toS)[i]?=some (toS C[i]):=by rw [List.getElem?_map,List.getElem?_eq_getElem h1]; rfl
   rw [if_pos (by omega),if_pos ⟨by omega,by rw [Int.toNat_natCast]; exact h1⟩,Int.toNat_natCast,hg,Option.bind_some,app_some (by simp; omega) (by omega),Option.bind_some,wi_succ (by omega),pheldL n C hC c hc d a b w k (i+1) _ (by omega) (by omega) (by simp; omega)]
   have hd:(C.drop i).map nm=nm C[i]::(C.drop (i+1)).map nm:=by rw [List.drop_eq_getElem_cons h1,List.map_cons]
   rw [hd,List.append_assoc]; rfl
  ·rw [if_neg (by omega),List.drop_eq_nil_of_le (by omega)]; simp
theorem pheld {n:Nat} (hn:5000≤n) {C:List Sl} (hC:C.length≤500) (sl:Int) (d:Gf) :
  KE n ⟨(),sl,C.map toS⟩ d=some (C.map nm,⟨(),sl,C.map toS⟩,d):=by
 unfold KE
 have h:=pheldL n C hC ⟨(),sl,C.map toS⟩ rfl d d.fsafe d.fnow d.fwait n 0 [] (by omega) (by omega) (by simp)
 have h:Sk n ⟨(),sl,C.map toS⟩ d n 0 d.fsafe d.fnow d.fwait (C.map toS) []=_:=h
 simp only
 rw [h]; rfl
theorem find_is {n:Nat} (hn:5000≤n) {C:List Sl} (hC:C.length≤500) (sl:Int) (d:Gf) (N:Int) :
  SL n ⟨(),sl,C.map toS⟩ d N=some (findI (fun c=>nm c == N) C,⟨(),sl,C.map toS⟩,d):=by
 unfold SL
 simp only
 have hI:=Yz (n:=n) (l:=C.map toS) (f:=fun y0=>Zj n y0 N) (fun s=>s.fn == N) (fun y _=>rfl) (by simp; omega) (by simp; omega)
 rw [hI,Option.bind_some]
 congr 2
 unfold findI
 rw [List.findIdx?_map]
 rfl
theorem filt_at {C:List Sl} (hn:(C.map nm).Nodup):∀ {i:Nat} {c:Sl},C[i]?=some c→C.filter (fun x=>nm x != nm c)=C.take i++C.drop (i+1):=by
 induction C with
 | nil=>intro i c h; simp at h
 | cons a C ih =>
  rw [List.map_cons,List.nodup_cons] at hn
  intro i c h
  cases i with
  | zero =>
   simp at h; subst h
   rw [List.filter_cons_of_neg (by simp)]
   simp only [List.take_zero,List.nil_append,Nat.zero_add,List.drop_succ_cons,List.drop_zero]
   exact List.filter_eq_self.2 fun x hx=>by
    have:nm x≠nm a:=fun e=>hn.1 (by rw [← e]; exact List.mem_map.2 ⟨x,hx,rfl⟩)
    simpa using this
  | succ i =>
   simp at h
   have hm:=List.mem_of_getElem? h
   have hne:nm a≠nm c:=fun e=>hn.1 (by rw [e]; exact List.mem_map.2 ⟨c,hm,rfl⟩)
   rw [List.filter_cons_of_pos (by simpa using hne),ih hn.2 h]
   simp
theorem filt_none {C:List Sl} {N:Int} (h:N ∉ C.map nm):C.filter (fun x=>nm x != N)=C:=List.filter_eq_self.2 fun x hx=>by
 have:nm x≠N:=fun e=>h (by rw [← e]; exact List.mem_map.2 ⟨x,hx,rfl⟩)
 simpa using this
theorem ins0 (n:Nat) (l:List Gd) (s:Gd) (h:l.length≤1000):Gx n l 0 [s]=some (s::l):=by
 unfold Gx insI
 rw [if_pos ⟨by omega,by omega,by simp; omega,by simp; omega⟩]
 simp
theorem put_sub {l:List Gd} {x:Gd} (h:l.length≤1000):sub (l++[x]) 0 (wi .i64 (((l++[x]).length:Int)-1))=some l:=by
 have e:wi .i64 (((l++[x]).length:Int)-1)=(l.length:Int):=by
  rw [List.length_append,List.length_singleton,wi64 (by omega) (by omega)]; omega
 rw [e]
 unfold sub
 rw [if_pos ⟨by omega,by omega,by simp; omega⟩]
 simp
section
variable {n k:Nat} {C:List Sl} {u:List (Int×Int)} {da:List (Int×ByteArray)} {di:List (Int×Bool)} {now:Int} {d:Gf} {r:Gb}
theorem use_is (hn:5000≤n) (h:CI 16 C u da di now k) (R:Rel 16 d r k) (hk:k<1499) {m:Nat} (hm:C.length≤m) (m1:1≤m) (m2:m≤32) (s:Sl) (hs:s.1<16∧s.2.1.length=64∧By s.2.1) :
  ∃ C' u' da' di' d' r',Si n ⟨(),(m:Int),C.map toS⟩ d (toS s)=some (⟨(),(m:Int),C'.map toS⟩,d') ∧
   G1 n ⟨(),(m:Int),now,da,u,di⟩ r (nm s) (b2s s.2.1) s.2.2=some (⟨(),(m:Int),now+1,da',u',di'⟩,r')∧CI 16 C' u' da' di' (now+1) (k+1)∧Rel 16 d' r' (k+1)∧C'.length≤m:=by
 have hC:=h.small
 have hn0:=h.now0
 have hul:=h.len
 have ew:wi .i64 (now+1)=now+1:=wi64 (by omega) (by omega)
 have R1:Rel 16 d r (k+1):=R.mono (by omega) (by omega)
 unfold Si G1
 have hfs:(toS s).fn=nm s:=rfl
 rw [hfs,find_is hn (by omega) _ d (nm s),Option.bind_some]
 unfold ZC Zs
 have hhas:=h.has (nm s)
 simp only
 have h':=h.ins s hs
 rcases findI_cases (fun c=>nm c == nm s) C with ⟨f1,f2⟩ | ⟨j,c,f1,f2,f3,f4⟩
 ·-- it is not there
  have hni:nm s ∉ C.map nm:=fun hm=>by
   obtain ⟨c,hc,e⟩:=List.mem_map.1 hm
   have:=f2 c hc
   simp [e] at this
  rw [fnd_none.2 hni] at hhas
  rw [f1,if_neg (by omega),Option.bind_some,hhas,if_neg (by simp),Option.bind_some]
  unfold KU Ky
  simp only [List.length_map,hul]
  by_cases hf:C.length=m
  ·-- one goes
   rw [if_pos (by omega)]
   have hb:((C.length:Int) == (m:Int))=true:=by rw [hf]; exact beq_self_eq_true _
   rw [hb,if_pos rfl]
   obtain ⟨C0,c,rfl⟩:∃ C0 c,C=C0++[c]:=⟨C.dropLast,C.getLast (fun e=>by subst e; simp at hf; omega),(List.dropLast_concat_getLast _).symm⟩
   have hl:(C0++[c]).length=C0.length+1:=by simp
   have e1:wi .i64 (((C0++[c]).length:Int)-1)=(C0.length:Int):=by rw [hl,wi64 (by omega) (by omega)]; omega
   have hev:=h.evict
   have hc:=h.wf c (by simp)
   have hni0:nm s ∉ C0.map nm:=fun q=>hni (by simp at q ⊢; obtain ⟨x,hx,e⟩:=q; exact .inl ⟨x,hx,e⟩)
   have hin:=hev.ins s hs
   rw [filt_none hni0] at hin
   have eta1:(⟨(),(m:Int),now,da,u,di⟩:Gg)=⟨(),(m:Int),now,da,u,di⟩:=rfl
   have hheld:=rheld hn h (by omega) (m:Int) r
   have hheld:Sr n ⟨(),(m:Int),now,da,u,di⟩ ⟨r.fSectors,r.fMark,r.fFuse,r.fAll⟩=_:=hheld
   rw [hheld,Option.bind_some]
   simp only [List.length_map]
   rw [e1,if_pos ⟨by omega,by rw [Int.toNat_natCast,hl]; omega⟩,Int.toNat_natCast,getI_nat]
   have g1:((C0++[c]).map toS)[C0.length]?=some (toS c):=by simp
   have g2:((C0++[c]).map nm)[C0.length]?=some (nm c):=by simp
   have hdi:(mget di (nm c)).getD false=c.2.2:=by rw [h.dirty,fnd_mem h.nd (by simp)]; rfl
   have hda:(mget da (nm c)).getD (ByteArray.mk #[])=b2s c.2.1:=by rw [h.data,fnd_mem h.nd (by simp)]; rfl
   have hsub:sub ((C0++[c]).map toS) 0 (C0.length:Int)=some (C0.map toS):=by
    have:=put_sub (l:=C0.map toS) (x:=toS c) (by simp; omega)
    rw [show ((C0.map toS++[toS c]).length:Int)=((C0++[c]).length:Int) by simp,e1] at this
    simpa using this
   rw [g1,g2,Option.bind_some,Option.bind_some,hdi,hda]
   have hd2:(toS c).fdirty=c.2.2:=rfl
   rw [hd2]
   by_cases hdirty:c.2.2=true
   ·rw [if_pos hdirty,if_pos hdirty]
    obtain ⟨e,d',r',w1,w2,w3,_⟩:=R.write n (by omega) (nm c) c.2.1 hc.2.2
    have w1:S9 n ⟨d.fsafe,d.fnow,d.fwait,d.ffuse⟩ (toS c).fn (toS c).fdata=some (e,d'):=w1
    rw [w1,w2,Option.bind_some,Option.bind_some,hsub,Option.bind_some,Option.bind_some,Option.bind_some]
    simp only
    rw [ins0 n _ _ (by simp; omega),Option.bind_some,ew]
    exact ⟨s::C0,_,_,_,d',r',rfl,rfl,hin,w3,by simp; omega⟩
   ·rw [if_neg hdirty,if_neg hdirty,hsub,Option.bind_some,Option.bind_some,Option.bind_some]
    simp only
    rw [ins0 n _ _ (by simp; omega),Option.bind_some,ew]
    exact ⟨s::C0,_,_,_,d,r,rfl,rfl,hin,R1,by simp; omega⟩
  ·rw [if_neg (by omega)]
   have hb:((C.length:Int) == (m:Int))=false:=by simp; omega
   rw [hb,if_neg (by simp),Option.bind_some,Option.bind_some]
   simp only
   rw [ins0 n _ _ (by simp; omega),Option.bind_some,ew]
   rw [filt_none hni] at h'
   exact ⟨s::C,_,_,_,d,r,rfl,rfl,h',R1,by simp; omega⟩
 ·have hcm:=List.mem_of_getElem? f2
  have hcs:nm c=nm s:=by simpa using f3
  have hj:j<C.length:=(List.getElem?_eq_some_iff.1 f2).1
  have hh:(mget u (nm s)).isSome=true:=by rw [hhas,← hcs,fnd_mem h.nd hcm]; rfl
  have ej:wi .i64 ((j:Int)+1)=((j+1:Nat):Int):=wi_succ (by omega)
  rw [f1,if_pos (by omega),ej,YB (by omega) (by simp; omega),Option.bind_some,hh,if_pos rfl,Option.bind_some]
  simp only [Option.bind_some]
  have hfl:(C.map toS).take j++(C.map toS).drop (j+1)=(C.filter fun x=>nm x != nm s).map toS:=by
   rw [← hcs,filt_at h.nd f2]; simp
  have hlen:(C.filter fun x=>nm x != nm s).length=C.length-1:=by
   rw [← hcs,filt_at h.nd f2]; simp; omega
  unfold KU Ky
  simp only [Option.bind_some]
  rw [hfl,List.length_map,hlen,if_neg (by omega),if_neg (by simp)]
  simp only [Option.bind_some]
  rw [ins0 n _ _ (by rw [List.length_map,hlen]; omega),Option.bind_some,ew]
  exact ⟨s::C.filter fun x=>nm x != nm s,_,_,_,d,r,rfl,rfl,h',R1,by simp only [List.length_cons]; omega⟩
end
end Go.Proofs.YtofjjaagjkbeaaaGreat.pv.bp
