/- The plain law of MountSays: what comes down a list of mounts, and what is wrong with a list, in the program's words and in the reference's. -/
import Derived.Test.YtocchemnfpnmeaaDoorWa
import Derived.Test.YtocchemnfpnmeaaDoorSpW
namespace Go.Proofs.YtocchemnfpnmeaaDoor.pv.pw
open Go.RowKit help pv
set_option linter.all false
abbrev M:=Gd
def pr (m:M):Fin 2→Int:=fun i:Fin 2=>[m.fAt,m.fRoot].get i
theorem pr0 (m:M):pr m 0=m.fAt:=rfl
theorem pr1 (m:M):pr m 1=m.fRoot:=rfl
def at' (a:Int) (m:M):Bool:=m.fAt == a
def nxt (l:List M) (a:Int):Option Int:=(l.find? (at' a)).map (·.fRoot)
def downF (l:List M):Nat→Int→Int×Bool
 | 0,_=>(0,false)
 | k+1,a=>match nxt l a with
  | none=>(a,true)
  | some r=>downF l k r
theorem downF_false {l:List M}:∀ (k:Nat) (a:Int),(downF l k a).2=false→(downF l k a).1=0
 | 0,a,_=>rfl
 | k+1,a,h=>by
  simp only [downF] at h ⊢
  cases hx:nxt l a with
  | none=>simp [hx] at h
  | some r=>simp only [hx] at h ⊢; exact downF_false k r h
theorem find_none {l:List M} {a:Int} (h:findI (at' a) l<0):nxt l a=none:=by
 rw [findI_lt] at h
 unfold nxt
 rw [List.find?_eq_none.2 (fun x hx=>by simp [h x hx])]
 rfl
theorem find_some {l:List M} {a:Int} (h:¬ findI (at' a) l<0):∃ (j:Nat) (m:M),findI (at' a) l=(j:Int)∧l[j]?=some m∧m.fAt=a∧nxt l a=some m.fRoot∧∀ (i:Nat) (y:M),i<j→l[i]?=some y→y.fAt≠a:=by
 rcases findI_cases (at' a) l with ⟨h1,h2⟩ | ⟨j,x,h1,h2,h3,h4⟩
 ·omega
 ·refine ⟨j,x,h1,h2,by simpa [at'] using h3,?_,fun i y hi hy=>by have:=h4 i y hi hy; simpa [at'] using this⟩
  unfold nxt
  have:l.find? (at' a)=some x:=by
   rw [List.find?_eq_some_iff_getElem]
   obtain ⟨hj,e⟩:=List.getElem?_eq_some_iff.1 h2
   refine ⟨h3,j,hj,e,fun i hi=>?_⟩
   have:=h4 i l[i] hi (List.getElem?_eq_getElem (by omega))
   simp [this]
  rw [this]; rfl
section
variable (n:Nat) (l:List M) (hl:l.length<100000) (hn:l.length+40<n)
include hl hn
theorem findG (a:Int):ZA n l a=some (findI (at' a) l):=by
 unfold ZA
 rw [Zo (at' a) (by intro y _; rfl) (by omega) (by omega)]
 rfl
theorem downG_l:∀ (k i:Nat) (a:Int),l.length+1-i<k→i≤l.length+1→SE n l k a (i:Int)=some (match downF l (l.length+1-i) a with | (d,true)=>.x0 d true | (_,false)=>.x1)
 | 0,i,a,h,_=>by omega
 | k+1,i,a,h,hi=>by
  rw [SE,wi_succ (by omega),findG n l hl hn]
  by_cases hlt:(i:Int)<((l.length+1:Nat):Int)
  ·rw [if_pos hlt,Option.bind_some,show l.length+1-i=(l.length+1-(i+1))+1 by omega]
   by_cases hf:findI (at' a) l<0
   ·rw [if_pos hf]
    simp only [downF,find_none hf]
   ·rw [if_neg hf]
    obtain ⟨j,m,h1,h2,h3,h4,_⟩:=find_some hf
    rw [h1,getI_nat,h2,Option.bind_some,wi_succ (by omega),downG_l k (i+1) m.fRoot (by omega) (by omega)]
    simp only [downF,h4]
  ·rw [if_neg hlt,show l.length+1-i=0 by omega]
   rfl
theorem downG (a:Int):ZB n l a=some (downF l (l.length+1) a):=by
 unfold ZB
 have h:=downG_l n l hl hn n 0 a (by omega) (by omega)
 have h:SE n l n a 0=_:=h
 rw [h,Option.bind_some,Nat.sub_zero]
 cases hd:downF l (l.length+1) a with
 | mk d b =>
  cases b with
  | true=>rfl
  | false =>
   have:=downF_false (l:=l) (l.length+1) a (by rw [hd])
   rw [hd] at this
   simp at this; subst this; rfl
end
theorem closed_down {l:List M} {C:List Int} (hC:∀ c∈C,∃ c',nxt l c=some c'∧c'∈C):∀ (k:Nat) (c:Int),c∈C→downF l k c=(0,false)
 | 0,c,_=>rfl
 | k+1,c,h=>by
  obtain ⟨c',h1,h2⟩:=hC c h
  simp only [downF,h1]
  exact closed_down hC k c' h2
theorem nodup_len:∀ {s t:List Int},s.Nodup→(∀ x∈s,x∈t)→s.length≤t.length
 | [],t,_,_=>Nat.zero_le _
 | x::s,t,hs,h=>by
  have hx:=h x (by simp)
  have h1:=nodup_len (s:=s) (t:=t.erase x) (List.nodup_cons.1 hs).2 (fun y hy=>by
   rw [List.mem_erase_of_ne]
   ·exact h y (by simp [hy])
   ·intro e; subst e; exact (List.nodup_cons.1 hs).1 hy)
  have h2:=List.length_erase_of_mem hx
  have h3:=List.length_pos_of_mem hx
  simp only [List.length_cons]; omega
theorem map_findI (l:List M) (b:Int):findI (fun m:Fin 2→Int=>m 0 == b) (l.map pr)=findI (at' b) l:=by
 unfold findI
 rw [List.findIdx?_map]
 rfl
section
variable (n:Nat) (l:List M) (hl:l.length<100000) (hn:l.length+40<n)
include hl hn
theorem refG_l:∀ (k:Nat) (b:Int) (seen:List Int) (K:Nat),seen.Nodup→(∀ c∈seen,∃ c',nxt l c=some c'∧(c'∈seen∨c'=b))→(∀ c∈seen,c∈l.map (·.fAt))→K+seen.length=l.length+1→l.length+1<k+seen.length →
  Sj n (l.map pr) k b seen=some (match downF l K b with | (d,true)=>.x0 d | (_,false)=>.x1)
 | 0,b,seen,K,hs,hc,ha,hK,hk=>by
  have:=nodup_len hs ha
  rw [List.length_map] at this
  omega
 | k+1,b,seen,K,hs,hc,ha,hK,hk=>by
  have hsl:=nodup_len hs ha
  rw [List.length_map] at hsl
  rw [Sj]
  obtain ⟨r,h1,h2⟩:=YK (n:=n) (l:=seen) b (by omega) (by omega)
  rw [h1,Option.bind_some]
  by_cases hb:b∈seen
  ·rw [if_pos (h2.2 hb)]
   have:downF l K b=(0,false):=closed_down (C:=seen) (fun c hcc=>by
    obtain ⟨c',q1,q2⟩:=hc c hcc
    exact ⟨c',q1,q2.elim id (fun q=>q ▸ hb)⟩) K b hb
   rw [this]
  ·rw [if_neg (fun h=>hb (h2.1 h)),app_le (m:=2000000000000) (by simp; omega) (by omega) (by omega),Option.bind_some,
    Yn (fun m:Fin 2→Int=>m 0 == b) (by intro y _; rfl) (by rw [List.length_map]; omega) (by rw [List.length_map]; omega),Option.bind_some,map_findI]
   obtain ⟨K',rfl⟩:∃ K',K=K'+1:=⟨K-1,by omega⟩
   by_cases hf:findI (at' b) l<0
   ·rw [if_pos hf]
    simp only [downF,find_none hf]
   ·rw [if_neg hf]
    obtain ⟨j,m,g1,g2,g3,g4,_⟩:=find_some hf
    rw [g1,getI_nat,List.getElem?_map,g2,Option.map_some,Option.bind_some,pr1]
    rw [refG_l k m.fRoot (seen++[b]) K' ?_ ?_ ?_ (by simp; omega) (by simp; omega)]
    ·simp only [downF,g4]
    ·rw [List.nodup_append]
     refine ⟨hs,by simp,fun x hx y hy=>?_⟩
     simp at hy; subst hy
     intro e; subst e; exact hb hx
    ·intro c hcc
     rw [List.mem_append] at hcc
     rcases hcc with hcc | hcc
     ·obtain ⟨c',q1,q2⟩:=hc c hcc
      refine ⟨c',q1,.inl ?_⟩
      rcases q2 with q2 | q2
      ·simp [q2]
      ·simp [q2]
     ·simp at hcc; subst hcc
      exact ⟨_,g4,.inr rfl⟩
    ·intro c hcc
     rw [List.mem_append] at hcc
     rcases hcc with hcc | hcc
     ·exact ha c hcc
     ·simp at hcc; subst hcc
      rw [← g3]; exact List.mem_map_of_mem (List.mem_of_getElem? g2)
theorem refG (a:Int):SC n (l.map pr) a=some (downF l (l.length+1) a).1:=by
 unfold SC
 rw [refG_l n l hl hn n a [] (l.length+1) List.nodup_nil (by simp) (by simp) (by simp) (by simp; omega),Option.bind_some]
 cases hd:downF l (l.length+1) a with
 | mk d b =>
  cases b with
  | true=>rfl
  | false =>
   have:=downF_false (l:=l) (l.length+1) a (by rw [hd])
   rw [hd] at this
   simp at this; subst this; rfl
end
theorem downF_pos {l:List M} (hr:∀ m∈l,1≤m.fRoot):∀ (k:Nat) (a:Int),1≤a→(downF l k a).2=true→1≤(downF l k a).1
 | 0,a,_,h=>by simp [downF] at h
 | k+1,a,ha,h=>by
  simp only [downF] at h ⊢
  cases hx:nxt l a with
  | none=>simpa [hx] using ha
  | some r =>
   simp only [hx] at h ⊢
   refine downF_pos hr k r ?_ h
   unfold nxt at hx
   cases hf:l.find? (at' a) with
   | none=>simp [hf] at hx
   | some m=>simp [hf] at hx; subst hx; exact hr m (List.mem_of_find?_eq_some hf)
theorem inode_any (n:Nat) (a:Int):KU n a=some (decide (1≤a)&&decide (a≤32)):=by
 unfold KU
 by_cases h:a≥1
 ·rw [if_pos h]; simp [h]
 ·rw [if_neg h]
  have:¬ 1≤a:=by omega
  simp [this]
def inr (m:M):Bool:=decide (1≤m.fAt)&&decide (m.fAt≤32)&&(decide (1≤m.fRoot)&&decide (m.fRoot≤32))
theorem inr_iff (m:M):inr m=true↔(1≤m.fAt∧m.fAt≤32∧1≤m.fRoot∧m.fRoot≤32):=by simp [inr,and_assoc]
theorem c1_any (n:Nat) (l:List (Fin 2→Int)) (i:Int) (m:M):SL n l i (pr m)=some (.x0 (!inr m)):=by
 unfold SL minI maxI
 rw [pr0,pr1]
 by_cases hi:inr m=true
 ·have h:=(inr_iff m).1 hi
  rw [hi,if_neg (by split <;> omega)]
  have:¬ ((if m.fRoot > m.fAt then m.fRoot else m.fAt) > 32):=by split <;> omega
  simp only [decide_eq_false this]; rfl
 ·have hf:inr m=false:=by simpa using hi
  rw [hf]
  by_cases h:(if m.fRoot<m.fAt then m.fRoot else m.fAt)<1
  ·rw [if_pos h]; rfl
  ·rw [if_neg h]
   have:((if m.fRoot > m.fAt then m.fRoot else m.fAt) > 32):=by
    refine Decidable.byContradiction fun hc=>hi ((inr_iff m).2 ?_)
    split at h <;> split at hc <;> omega
   simp only [decide_eq_true this]; rfl
theorem l2_any (n:Nat) (L:List (Fin 2→Int)) (x:Int) (s:List M) (m:M) (hs:s.length<100000):∀ (k i:Nat),s.length-i<k→i≤s.length→∃ o,GO n L x (s.map pr) (pr m) k (i:Int)=some o∧(match o with | .x0 e=>e=5∧∃ y∈s.drop i,y.fAt=m.fAt | .x1=>∀ y∈s.drop i,y.fAt≠m.fAt)
 | 0,i,h,_=>by omega
 | k+1,i,h,hi=>by
  rw [GO,List.length_map]
  by_cases hlt:(i:Int)<(s.length:Int)
  ·obtain ⟨y,hy⟩:=get_lt hlt
   rw [if_pos hlt,getI_nat,List.getElem?_map,hy,Option.map_some,Option.bind_some,drop_cons hy,pr0,pr0]
   by_cases e:y.fAt=m.fAt
   ·rw [if_pos e]; exact ⟨_,rfl,rfl,y,by simp,e⟩
   ·rw [if_neg e,wi_succ (by omega)]
    obtain ⟨o,h1,h2⟩:=l2_any n L x s m hs k (i+1) (by omega) (by omega)
    refine ⟨o,h1,?_⟩
    cases o with
    | x0 e'=>exact ⟨h2.1,by obtain ⟨z,hz,q⟩:=h2.2; exact ⟨z,by simp [hz],q⟩⟩
    | x1 =>
     intro z hz
     rcases List.mem_cons.1 hz with rfl | hz
     ·exact e
     ·exact h2 z hz
  ·rw [if_neg hlt,drop_end hlt]
   exact ⟨_,rfl,by simp⟩
section
variable (n:Nat) (l:List M) (hl:l.length<100000) (hn:l.length+40<n)
include hl hn
theorem c3:∀ (k i:Nat),l.length-i<k→i≤l.length→(∃ e:Int,e≠0∧e≠2∧G1 n l k (i:Int)=some (.x0 e)∧GC n (l.map pr) k (i:Int)=some (.x0 e)) ∨
  (G1 n l k (i:Int)=some .x1∧GC n (l.map pr) k (i:Int)=some .x1∧∀ x∈l.drop i,inr x=true)
 | 0,i,h,_=>by omega
 | k+1,i,h,hi=>by
  rw [G1,GC,List.length_map]
  by_cases hlt:(i:Int)<(l.length:Int)
  ·obtain ⟨x,hx⟩:=get_lt hlt
   rw [if_pos hlt,if_pos hlt,getI_nat,getI_nat,List.getElem?_map,hx,Option.map_some,Option.bind_some,Option.bind_some,inode_any,Option.bind_some,c1_any,Option.bind_some,inode_any,drop_cons hx]
   by_cases hr:inr x=true
   ·have hr':=hr
    unfold inr at hr'
    rw [Bool.and_eq_true] at hr'
    simp only [hr'.1,hr'.2,hr,Option.bind_some,if_true,Bool.not_true,Bool.false_eq_true,if_false]
    rw [findG n l hl hn,Option.bind_some]
    have hsub:sub (l.map pr) 0 (i:Int)=some ((l.take i).map pr):=by
     unfold sub
     rw [if_pos (by simp; omega)]
     simp [List.map_take]
    rw [hsub,Option.bind_some]
    have hlt':i<l.length:=by omega
    obtain ⟨o,h1,h2⟩:=l2_any n (l.map pr) (i:Int) (l.take i) x (by rw [List.length_take]; omega) n 0 (by rw [List.length_take]; omega) (by omega)
    have h1:GO n (l.map pr) (i:Int) ((l.take i).map pr) (pr x) n 0=some o:=h1
    rw [h1,Option.bind_some]
    rw [List.drop_zero] at h2
    have hf:¬ findI (at' x.fAt) l<0:=by
     rw [findI_lt]
     intro h
     have:=h x (List.mem_of_getElem? hx)
     simp [at'] at this
    obtain ⟨j,m,g1,g2,g3,g4,g5⟩:=find_some hf
    rw [g1]
    cases o with
    | x0 e =>
     obtain ⟨rfl,y,hy,hya⟩:=h2
     left
     obtain ⟨q,hq,e⟩:=List.mem_iff_getElem.1 hy
     rw [List.length_take] at hq
     have hjq:j≤q:=by
      rcases Nat.lt_or_ge q j with h' | h'
      ·exact absurd hya (g5 q y h' (by rw [← e,List.getElem_take]; exact List.getElem?_eq_getElem (by omega)))
      ·exact h'
     rw [if_pos (by omega)]
     exact ⟨5,by decide,by decide,rfl,rfl⟩
    | x1 =>
     have hji:¬ (j:Int)<(i:Int):=by
      intro h'
      refine h2 m ?_ g3
      have hjl:=(List.getElem?_eq_some_iff.1 g2).1
      have:(l.take i)[j]?=some m:=by rw [List.getElem?_take,if_pos (by omega)]; exact g2
      exact List.mem_of_getElem? this
     rw [if_neg hji,wi_succ (by omega)]
     simp only
     rcases c3 k (i+1) (by omega) (by omega) with h' | ⟨h',h'',h3⟩
     ·exact .inl h'
     ·refine .inr ⟨h',h'',fun y hy=>?_⟩
      rcases List.mem_cons.1 hy with rfl | hy
      ·exact hr
      ·exact h3 y hy
   ·left
    refine ⟨1,by decide,by decide,?_,?_⟩
    ·by_cases hA:(decide (1≤x.fAt)&&decide (x.fAt≤32))=true
     ·have hB:(decide (1≤x.fRoot)&&decide (x.fRoot≤32))=false:=by
       cases hb:(decide (1≤x.fRoot)&&decide (x.fRoot≤32)) with
       | false=>rfl
       | true=>exact absurd (by unfold inr; rw [hA,hb]; rfl) hr
      rw [if_pos hA,hB]; rfl
     ·rw [if_neg hA]
    ·have:inr x=false:=by cases h':inr x with | false=>rfl | true=>exact absurd h' hr
     rw [this]; rfl
  ·right
   rw [if_neg hlt,if_neg hlt,drop_end hlt]
   exact ⟨rfl,rfl,by simp⟩
theorem c4 (hr:∀ x∈l,inr x=true):∀ (k i:Nat),l.length-i<k→i≤l.length→(G2 n l k (i:Int)=some (.x0 14)∧GD n (l.map pr) k (i:Int)=some (.x0 14)) ∨
  (G2 n l k (i:Int)=some .x1∧GD n (l.map pr) k (i:Int)=some .x1)
 | 0,i,h,_=>by omega
 | k+1,i,h,hi=>by
  rw [G2,GD,List.length_map]
  by_cases hlt:(i:Int)<(l.length:Int)
  ·obtain ⟨x,hx⟩:=get_lt hlt
   rw [if_pos hlt,if_pos hlt,getI_nat,getI_nat,List.getElem?_map,hx,Option.map_some,Option.bind_some,Option.bind_some,pr0,downG n l hl hn,refG n l hl hn,Option.bind_some,Option.bind_some]
   have hx1:=hr x (List.mem_of_getElem? hx)
   have hroot:∀ m∈l,1≤m.fRoot:=fun m hm=>by have:=hr m hm; simp [inr] at this; omega
   have hat:1≤x.fAt:=by simp [inr] at hx1; omega
   by_cases hd:(downF l (l.length+1) x.fAt).2=true
   ·have:=downF_pos hroot (l.length+1) x.fAt hat hd
    rw [if_pos hd,if_neg (by omega),wi_succ (by omega)]
    exact c4 hr k (i+1) (by omega) (by omega)
   ·have:=downF_false (l:=l) (l.length+1) x.fAt (by simpa using hd)
    rw [if_neg hd,if_pos this]
    exact .inl ⟨rfl,rfl⟩
  ·right
   rw [if_neg hlt,if_neg hlt]
   exact ⟨rfl,rfl⟩
end
theorem checkG (n:Nat) (l:List M) (hn:l.length+40<n):∃ c:Int,Ki n l=some c∧Ku n (l.map pr)=some c∧(c=0→l.length≤8)∧(c=2↔8<l.length):=by
 unfold Ki Ku
 rw [List.length_map]
 by_cases h8:(l.length:Int) > 8
 ·rw [if_pos h8,if_pos h8]
  exact ⟨2,rfl,rfl,by simp,by simp; omega⟩
 ·rw [if_neg h8,if_neg h8]
  have hl:l.length<100000:=by omega
  rcases c3 n l hl hn n 0 (by omega) (by omega) with ⟨e,h1,h1',h2,h3⟩ | ⟨h2,h3,h4⟩
  ·have h2:G1 n l n 0=_:=h2
   have h3:GC n (l.map pr) n 0=_:=h3
   rw [h2,h3]
   exact ⟨e,rfl,rfl,fun h=>absurd h h1,⟨fun h=>absurd h h1',fun h=>by omega⟩⟩
  ·have h2:G1 n l n 0=_:=h2
   have h3:GC n (l.map pr) n 0=_:=h3
   rw [List.drop_zero] at h4
   rw [h2,h3,Option.bind_some,Option.bind_some]
   rcases c4 n l hl hn h4 n 0 (by omega) (by omega) with ⟨h5,h6⟩ | ⟨h5,h6⟩
   ·have h5:G2 n l n 0=_:=h5
    have h6:GD n (l.map pr) n 0=_:=h6
    simp only [h5,h6,Option.bind_some]
    exact ⟨14,rfl,rfl,by simp,by simp; omega⟩
   ·have h5:G2 n l n 0=_:=h5
    have h6:GD n (l.map pr) n 0=_:=h6
    simp only [h5,h6,Option.bind_some]
    exact ⟨0,rfl,rfl,fun _=>by omega,by simp; omega⟩
end Go.Proofs.YtocchemnfpnmeaaDoor.pv.pw
