/- Directories: Find, Put and Out of entries that lie right; DirTurns answers true. -/
import Derived.Test.YtdgocccbagbhjaaGreatDoorUh
namespace Go.Proofs.YtdgocccbagbhjaaGreatDoor.pv.dr
set_option linter.all false
open Go.RowKit help pv
structure Srt (T:List Ga):Prop where
 r:right T=0
 s:T.Pairwise fun x y=>bl (nf x)<bl (nf y)
 e:sortN nf T=T
theorem Srt.of {l:List Ga} (h:right l=0):Srt (sortN nf l):=by
 have hT:right (sortN nf l)=0:=(right_perm (srt_perm l)).2 h
 have h2:=(sortN_spec nf l).2
 exact ⟨hT,strict hT h2,(sort_eq ((right_zero _).1 hT).2.2 (List.Perm.refl _) h2).symm⟩
def Bt (T:List Ga):List Int:=(laid T).flatten
section
variable {n:Nat} {T:List Ga}
theorem Srt.len (S:Srt T):(Bt T).length=16*T.length:=by
 have h16:∀ z∈laid T,z.length=16:=fun z hz=>by
  obtain ⟨i,hi⟩:=List.getElem?_of_mem hz
  have hil:i<T.length:=by have:=(List.getElem?_eq_some_iff.1 hi).1; rwa [laid_len] at this
  rw [laid_get _ hil] at hi
  rw [← Option.some.inj hi]
  exact rowB_len (sized S.r _ (List.getElem_mem _))
 unfold Bt
 rw [flat_len _ h16,laid_len]
theorem Srt.good (S:Srt T):good (Bt T) T.length:=by
 have h:=O_laid S.r
 unfold dr.good
 have h:O (Bt T) T.length=T:=h
 rw [h,S.e]
 exact ⟨S.r,rfl⟩
theorem Srt.le (S:Srt T):T.length≤32:=((right_zero T).1 S.r).1
theorem Srt.list (S:Srt T) (hn:5000≤n):S6 n (Bt T)=some (T,0):=by
 obtain ⟨r,h1,h2,_⟩:=plist hn S.len S.le laid_by
 rw [h1,h2 S.good]
 have h:O (Bt T) T.length=T:=O_laid S.r
 rw [h]
theorem Srt.listed (S:Srt T) (hn:5000≤n):Su n (b2s (Bt T))=some (T,0):=by
 obtain ⟨r,h1,h2,_⟩:=rlist hn S.len S.le laid_by
 rw [h1,h2 S.good]
 have h:O (Bt T) T.length=T:=O_laid S.r
 rw [h,S.e]
def inoOf (s:ByteArray):List Ga→Int→Int
 | [],a=>a
 | y::l,a=>inoOf s l (if y.fName=s then y.fIno else a)
def oth (s:ByteArray) (l:List Ga):List Ga:=l.filter fun y=>decide (y.fName≠s)
theorem allL (n:Nat) (b:List Int) (e:Int) (x:Ga) (hl:T.length≤1000):∀ (t i:Nat),T.length-i<t→i≤T.length→∀ (a:Int) (o:List Ga),o.length≤i →
  Sl n b (T,e) x t a (i:Int) T o=some (.x0 (inoOf x.fName (T.drop i) a) T (o++oth x.fName (T.drop i)))
 | 0,i,h,_,_,_,_=>by omega
 | t+1,i,h,hi,a,o,ho=>by
  rw [Sl]
  simp only
  by_cases h1:i<T.length
  ·rw [if_pos (by omega),if_pos ⟨by omega,by rw [Int.toNat_natCast]; exact h1⟩,Int.toNat_natCast,List.getElem?_eq_getElem h1,Option.bind_some,beq_bl,wi_succ (by omega),List.drop_eq_getElem_cons h1]
   unfold inoOf oth
   by_cases h2:T[i].fName=x.fName
   ·rw [decide_eq_true h2,if_pos rfl,if_pos h2,List.filter_cons_of_neg (by simpa using h2)]
    exact allL n b e x hl t (i+1) (by omega) (by omega) _ _ (by omega)
   ·rw [decide_eq_false h2,if_neg (by simp),if_neg h2,List.filter_cons_of_pos (by simpa using h2),app_some (by simp; omega) (by omega),Option.bind_some,allL n b e x hl t (i+1) (by omega) (by omega) _ _ (by simp; omega),List.append_assoc]
    rfl
  ·rw [if_neg (by omega),List.drop_eq_nil_of_le (by omega)]
   simp [inoOf,oth]
theorem inoOf_none {s:ByteArray}:∀ (l:List Ga) (a:Int),(∀ y∈l,y.fName≠s)→inoOf s l a=a
 | [],a,_=>rfl
 | y::l,a,h=>by
  unfold inoOf
  rw [if_neg (h y (by simp))]
  exact inoOf_none l a fun z hz=>h z (by simp [hz])
theorem oth_none {s:ByteArray} {l:List Ga} (h:∀ y∈l,y.fName≠s):oth s l=l:=by
 unfold oth
 rw [List.filter_eq_self]
 intro y hy
 simpa using h y hy
theorem inoOf_app (s:ByteArray):∀ (l r:List Ga) (a:Int),inoOf s (l++r) a=inoOf s r (inoOf s l a)
 | [],r,a=>rfl
 | y::l,r,a=>by
  exact inoOf_app s l r _
theorem uniq (h:(T.map nf).Nodup) {y:Ga} (hy:y∈T):∃ A C,T=A++y::C∧(∀ z∈A,z.fName≠y.fName)∧∀ z∈C,z.fName≠y.fName:=by
 obtain ⟨A,C,rfl⟩:=List.append_of_mem hy
 refine ⟨A,C,rfl,fun z hz e=>?_,fun z hz e=>?_⟩
 ·rw [List.map_append,List.nodup_append] at h
  exact h.2.2 (nf z) (List.mem_map.2 ⟨z,hz,rfl⟩) (nf y) (by simp) e
 ·rw [List.map_append,List.nodup_append] at h
  have:=h.2.1
  rw [List.map_cons,List.nodup_cons] at this
  exact this.1 (List.mem_map.2 ⟨z,hz,e⟩)
theorem del_is (n:Nat) (A C:List Ga) (y:Ga) (hl:(A++y::C).length≤1000):Sk n (A++y::C) (A.length:Int) (wi .i64 ((A.length:Int)+1))=some (A++C):=by
 have hlen:(A++y::C).length=A.length+(C.length+1):=by simp
 rw [wi_succ (by omega)]
 unfold Sk
 have hd:=delR_len (l:=A++y::C) (i:=A.length) (j:=A.length+1) (by omega) (by omega)
 have hc:=cut_take (l:=A++y::C) (i:=A.length) (j:=A.length+1) (z:=Ga.mk (ByteArray.mk #[]) 0) (by omega) (by omega)
 simp only [Int.toNat_natCast]
 rw [if_pos (by omega),if_neg (by omega),if_pos (by omega),if_pos (by omega),if_pos (by omega),if_pos (by omega),if_pos (by omega),if_pos,hc]
 ·congr 1
  rw [List.take_left',List.drop_append]
  ·have:A.drop (A.length+1)=[]:=List.drop_eq_nil_of_le (by omega)
   rw [this]
   have e:A.length+1-A.length=1:=by omega
   rw [e]; rfl
  ·rfl
 ·rw [clrR_len (by omega) (by omega),hd]; omega
theorem sub_right {l r:List Ga} (h:right l=0) (hs:r.Sublist l):right r=0:=by
 obtain ⟨h1,h2,h3⟩:=(right_zero l).1 h
 exact (right_zero r).2 ⟨Nat.le_trans hs.length_le h1,fun x hx=>h2 x (hs.subset hx),h3.sublist (hs.map _)⟩
theorem putC (n:Nat) (x:Ga) (r:List Ga×Int):XQ n x r=some (.x0 (decide (¬ okE x)) r.1):=by
 unfold XQ
 rw [pname,Option.bind_some]
 by_cases h1:okN x.fName
 ·rw [decide_eq_true h1,if_pos rfl]
  by_cases h2:x.fIno<1
  ·rw [if_pos h2,decide_eq_true (show ¬ okE x from fun q=>by have:=q.2.1; omega)]
  ·rw [if_neg h2]
   by_cases h3:x.fIno > 32
   ·rw [decide_eq_true h3,decide_eq_true (show ¬ okE x from fun q=>by have:=q.2.2; omega)]
   ·rw [decide_eq_false h3,decide_eq_false (not_not_intro (show okE x from ⟨h1,by omega,by omega⟩))]
 ·rw [decide_eq_false h1,if_neg (by simp),decide_eq_true (show ¬ okE x from fun q=>h1 q.1)]
theorem wantC (n:Nat) (x:Ga) (a:Int) (r1:Int×Int×Int) (r2 r3:List Int×Int) (A C:List Ga):Ky n a r1 r2 r3 x A C=some (.x0 (decide (¬ okE x)) A C):=by
 unfold Ky
 rw [rname,Option.bind_some]
 by_cases h1:okN x.fName
 ·rw [decide_eq_true h1,if_pos rfl]
  by_cases h2:x.fIno<1
  ·rw [if_pos h2,decide_eq_true (show ¬ okE x from fun q=>by have:=q.2.1; omega)]
  ·rw [if_neg h2]
   by_cases h3:x.fIno > 32
   ·rw [decide_eq_true h3,decide_eq_true (show ¬ okE x from fun q=>by have:=q.2.2; omega)]
   ·rw [decide_eq_false h3,decide_eq_false (not_not_intro (show okE x from ⟨h1,by omega,by omega⟩))]
 ·rw [decide_eq_false h1,if_neg (by simp),decide_eq_true (show ¬ okE x from fun q=>h1 q.1)]
theorem Srt.put (S:Srt T) (hn:5000≤n) (x:Ga):XA n (Bt T) x=some (if ¬ okE x then ([],3) else if ∃ y∈T,y.fName=x.fName then ([],5) else if T.length=32 then ([],6) else (Bt (sortN nf (T++[x])),0)):=by
 have hl:=S.le
 unfold XA
 rw [S.list hn,Option.bind_some]
 simp only [if_true]
 rw [putC,Option.bind_some]
 simp only
 by_cases h1:okE x
 ·rw [decide_eq_false (not_not_intro h1),if_neg (by simp),if_neg (not_not_intro h1)]
  rw [KB (f:=fun y0=>Yi n y0 x) (fun y=>x.fName.toList == y.fName.toList) (fun y _=>rfl) (by omega) (by omega),Option.bind_some]
  have hany:(T.any fun y=>x.fName.toList == y.fName.toList)=true↔∃ y∈T,y.fName=x.fName:=by
   rw [List.any_eq_true]
   constructor
   ·rintro ⟨y,hy,e⟩
    rw [beq_bl] at e
    exact ⟨y,hy,(of_decide_eq_true e).symm⟩
   ·rintro ⟨y,hy,e⟩
    exact ⟨y,hy,by rw [beq_bl]; exact decide_eq_true e.symm⟩
  by_cases h2:∃ y∈T,y.fName=x.fName
  ·rw [if_pos (hany.2 h2),if_pos h2]
  ·rw [if_neg (fun q=>h2 (hany.1 q)),if_neg h2]
   by_cases h3:T.length=32
   ·rw [if_pos (by omega),if_pos h3]
   ·rw [if_neg (by omega),if_neg h3,app_some (by simp; omega) (by omega),Option.bind_some]
    have hr:right (T++[x])=0:=by
     obtain ⟨g1,g2,g3⟩:=(right_zero T).1 S.r
     refine (right_zero _).2 ⟨by simp; omega,fun y hy=>?_,?_⟩
     ·rcases List.mem_append.1 hy with hy | hy
      ·exact g2 y hy
      ·rw [List.mem_singleton.1 hy]; exact h1
     ·rw [List.map_append,List.nodup_append]
      refine ⟨g3,by simp,?_⟩
      intro a ha b hb
      obtain ⟨y,hy,rfl⟩:=List.mem_map.1 ha
      simp at hb
      rw [hb]
      exact fun q=>h2 ⟨y,hy,q⟩
    rw [play hn hr]; rfl
 ·rw [decide_eq_true h1,if_pos rfl,if_pos h1]
theorem Srt.out_no (S:Srt T) (hn:5000≤n) (s:ByteArray) (h:∀ y∈T,y.fName≠s):ZG n (Bt T) s=some ([],4):=by
 have hl:=S.le
 unfold ZG
 rw [S.list hn,Option.bind_some]
 simp only [if_true]
 rw [SR (f:=fun y0=>Yj n y0 s) (fun y=>s.toList == y.fName.toList) (fun y _=>rfl) (by omega) (by omega),Option.bind_some,if_pos]
 refine findI_lt.2 fun y hy=>?_
 rw [beq_bl]
 exact decide_eq_false fun q=>h y hy q.symm
theorem Srt.out_at {A C:List Ga} {y:Ga} (S:Srt (A++y::C)) (hn:5000≤n) (h1:∀ z∈A,z.fName≠y.fName):ZG n (Bt (A++y::C)) y.fName=some (Bt (sortN nf (A++C)),0):=by
 have hl:=S.le
 have hlen:(A++y::C).length=A.length+(C.length+1):=by simp
 have hr:right (A++C)=0:=sub_right S.r (by simp)
 unfold ZG
 rw [S.list hn,Option.bind_some]
 simp only [if_true]
 have hf:findI (fun z:Ga=>y.fName.toList == z.fName.toList) (A++y::C)=(A.length:Int):=by
  rcases findI_cases (fun z:Ga=>y.fName.toList == z.fName.toList) (A++y::C) with ⟨_,q⟩ | ⟨j,z,q1,q2,q3,q4⟩
  ·have:=q y (by simp)
   rw [beq_bl] at this
   simp at this
  ·have hj:j=A.length:=by
    rcases Nat.lt_trichotomy j A.length with hlt | he | hgt
    ·rw [List.getElem?_append_left hlt] at q2
     rw [beq_bl] at q3
     exact absurd (of_decide_eq_true q3).symm (h1 z (List.mem_of_getElem? q2))
    ·exact he
    ·have:=q4 A.length y hgt (by simp)
     rw [beq_bl] at this
     simp at this
   rw [q1,hj]
 rw [SR (f:=fun y0=>Yj n y0 y.fName) (fun z=>y.fName.toList == z.fName.toList) (fun z _=>rfl) (by omega) (by omega),Option.bind_some,hf,if_neg (by omega),del_is n A C y (by omega),Option.bind_some,play hn hr]
 rfl
theorem find_at (S:Srt T) (hn:5000≤n) {s:ByteArray} {y:Ga} {lk:Int} (h:Sv n (laid T).flatten s n 0 0=some (.x0 y.fIno lk 0)):Zd n (Bt T) s=some (y.fIno,lk,0):=by
 unfold Zd
 rw [S.list hn,Option.bind_some]
 simp only [if_true]
 have h:Sv n (Bt T) s n 0 0=_:=h
 rw [h]; rfl
theorem find_no (S:Srt T) (hn:5000≤n) {s:ByteArray} {lk:Int} (h:Sv n (laid T).flatten s n 0 0=some (.x1 lk)):Zd n (Bt T) s=some (0,lk,4):=by
 unfold Zd
 rw [S.list hn,Option.bind_some]
 simp only [if_true]
 have h:Sv n (Bt T) s n 0 0=_:=h
 rw [h]; rfl
end
end Go.Proofs.YtdgocccbagbhjaaGreatDoor.pv.dr
