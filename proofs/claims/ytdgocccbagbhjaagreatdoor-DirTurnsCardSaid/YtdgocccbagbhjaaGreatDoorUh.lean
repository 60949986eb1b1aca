/- Directories: a name's way down the tree, on both sides. -/
import Derived.Test.YtdgocccbagbhjaaGreatDoorUg
namespace Go.Proofs.YtdgocccbagbhjaaGreatDoor.pv.dr
set_option linter.all false
open Go.RowKit help pv
abbrev bl (s:ByteArray):List UInt8:=s.data.toList
theorem beq_bl (s t:ByteArray):(s.toList == t.toList)=decide (s=t):=by
 rw [ByteArray.toList_eq,ByteArray.toList_eq]
 by_cases h:s=t
 ·rw [decide_eq_true h,h]; simp
 ·rw [decide_eq_false h]
  have:s.data.toList≠t.data.toList:=fun q=>h (ba_ext q)
  simpa using this
theorem compare_is (n:Nat) (s t:ByteArray):SZ n s t=some (if bl s<bl t then -1 else if s=t then 0 else 1):=by
 unfold SZ KK
 rw [beq_bl,beq_bl,beq_bl,decide_eq_true rfl,decide_eq_true rfl,bytesLess_eq,ByteArray.toList_eq,ByteArray.toList_eq]
 simp only [Option.bind_some,Bool.not_true,Bool.false_eq_true,if_false]
 by_cases h:s.data.toList<t.data.toList
 ·rw [if_pos (decide_eq_true h),if_pos h]
 ·rw [if_neg (by simpa using h),if_neg h,decide_eq_false h]
  by_cases h2:s=t
  ·rw [decide_eq_true h2,if_pos h2]; rfl
  ·rw [decide_eq_false h2,if_neg h2]; rfl
theorem strict {T:List Ga} (hT:right T=0) (hs:T.Pairwise fun x y=>ltN nf y x=false):T.Pairwise fun x y=>bl (nf x)<bl (nf y):=by
 have hn:(T.map nf).Nodup:=((right_zero T).1 hT).2.2
 have hn:T.Pairwise fun x y=>nf x≠nf y:=by
  have:=hn; unfold List.Nodup at this
  rwa [List.pairwise_map] at this
 refine (hs.and hn).imp ?_
 rintro x y ⟨h1,h2⟩
 simp only [ltN,Go.Sort.ltStr,decide_eq_false_iff_not,List.not_lt] at h1
 rcases List.le_iff_lt_or_eq.1 h1 with h | h
 ·exact h
 ·exact absurd (ba_ext h) h2
def P0 (T:List Ga) (s:ByteArray) (at_:Nat):Prop:=∀ i y,T[i]?=some y→nf y=s→base T.length at_≤i∧i<base T.length at_+(io T.length at_).length
theorem walk_down {n:Nat} (hn:5000≤n) {T:List Ga} (hT:right T=0) (hs:T.Pairwise fun x y=>bl (nf x)<bl (nf y)) (s:ByteArray):∀ (m a:Nat),T.length-a≤m→a≤1000→∀ (looks:Nat),looks+m≤1000→∀ t,m+1≤t→P0 T s a →
  ∃ lk:Int,SI n T s t (looks:Int) (a:Int)=some (.x0 lk)∧((∃ y∈T,nf y=s∧Sv n (laid T).flatten s t (looks:Int) (a:Int)=some (.x0 y.fIno lk 0))∨((∀ y∈T,nf y≠s)∧Sv n (laid T).flatten s t (looks:Int) (a:Int)=some (.x1 lk)))
 | m,a,hm,ha,looks,hk,t+1,ht,hP=>by
  have h32:T.length≤32:=((right_zero T).1 hT).1
  have h16:∀ z∈laid T,z.length=16:=fun z hz=>by
   obtain ⟨i,hi⟩:=List.getElem?_of_mem hz
   have hil:i<T.length:=by have:=(List.getElem?_eq_some_iff.1 hi).1; rwa [laid_len] at this
   rw [laid_get _ hil] at hi
   rw [← Option.some.inj hi]
   exact rowB_len (sized hT _ (List.getElem_mem _))
  have hB:(laid T).flatten.length=16*T.length:=by rw [flat_len _ h16,laid_len]
  have e0:wi .i64 (16*(a:Int))=((16*a:Nat):Int):=by rw [wi64 (by omega) (by omega)]; omega
  rw [SI,Sv,e0]
  by_cases h1:a<T.length
  ·obtain ⟨m,rfl⟩:∃ z,m=z+1:=⟨m-1,by omega⟩
   have hr:=rk_lt h1
   have hrow:=ent_laid hT h1
   have hrk:rk T.length a=base T.length a+(io T.length (2*a+1)).length:=rfl
   have hio:(io T.length a).length=(io T.length (2*a+1)).length+((io T.length (2*a+2)).length+1):=by rw [io_lt h1]; simp
   generalize hy:T[rk T.length a]'hr=y at hrow
   have hyg:T[rk T.length a]?=some y:=by rw [List.getElem?_eq_getElem hr,hy]
   have hym:y∈T:=List.mem_of_getElem? hyg
   have e1:wi .i64 ((wi .i64 (2*(a:Int)))+1)=((2*a+1:Nat):Int):=by rw [wi64 (x:=2*(a:Int)) (by omega) (by omega),wi64 (by omega) (by omega)]; omega
   have e2:wi .i64 ((wi .i64 (2*(a:Int)))+2)=((2*a+2:Nat):Int):=by rw [wi64 (x:=2*(a:Int)) (by omega) (by omega),wi64 (by omega) (by omega)]; omega
   have e3:wi .i64 (((2*a+1:Nat):Int)+1)=((2*a+2:Nat):Int):=by rw [wi64 (by omega) (by omega)]; omega
   have e4:wi .i64 ((looks:Int)+1)=((looks+1:Nat):Int):=by rw [wi64 (by omega) (by omega)]; omega
   rw [if_pos (by omega),if_pos (by omega),rank_is (by omega) (by omega) h1,Option.bind_some,getI_nat,hyg,Option.bind_some,row_is n hB h1 (by omega) laid_by,Option.bind_some,hrow,compare_is,Option.bind_some,e1,e2,e3,e4,beq_bl,beq_bl,bytesLess_eq,ByteArray.toList_eq,ByteArray.toList_eq]
   have lt_of:∀ i z,T[i]?=some z→∀ j w,T[j]?=some w→i<j→bl (nf z)<bl (nf w):=fun i z hz j w hw hij=>by
    obtain ⟨i1,rfl⟩:=List.getElem?_eq_some_iff.1 hz
    obtain ⟨j1,rfl⟩:=List.getElem?_eq_some_iff.1 hw
    exact List.pairwise_iff_getElem.1 hs i j i1 j1 hij
   by_cases q1:bl s<bl y.fName
   ·have q2:s≠y.fName:=fun q=>by rw [q] at q1; exact List.lt_irrefl _ q1
    have q2':¬ y.fName=s:=fun q=>q2 q.symm
    have q1':s.data.toList<y.fName.data.toList:=q1
    rw [if_pos q1,if_neg (show ¬ ((-1:Int)=0) by omega),if_pos (show (-1:Int)<0 by omega),decide_eq_false q2',decide_eq_true q1']
    simp only [Bool.false_eq_true,if_false,Bool.true_or,Bool.not_true]
    refine walk_down hn hT hs s m (2*a+1) (by omega) (by omega) (looks+1) (by omega) t (by omega) ?_
    intro i z hz hzs
    obtain ⟨p1,p2⟩:=hP i z hz hzs
    rw [base_l]
    refine ⟨p1,?_⟩
    rw [← hrk]
    apply Classical.byContradiction
    intro hc
    by_cases e:i=rk T.length a
    ·rw [e,hyg] at hz
     have:=Option.some.inj hz
     rw [← this] at hzs; exact q2 hzs.symm
    ·have:=lt_of _ _ hyg _ _ hz (by omega)
     rw [hzs] at this
     exact List.lt_irrefl _ (List.lt_trans this q1)
   ·by_cases q2:s=y.fName
    ·have q2':y.fName=s:=q2.symm
     rw [if_neg q1,if_pos q2,if_pos (show (0:Int)=0 from rfl),decide_eq_true q2']
     simp only [if_true]
     exact ⟨_,rfl,.inl ⟨y,hym,q2',rfl⟩⟩
    ·have q2':¬ y.fName=s:=fun q=>q2 q.symm
     have q1':¬ s.data.toList<y.fName.data.toList:=q1
     rw [if_neg q1,if_neg q2,if_neg (show ¬ ((1:Int)=0) by omega),if_neg (show ¬ ((1:Int)<0) by omega),decide_eq_false q2',decide_eq_false q1',decide_eq_false q2]
     simp only [Bool.false_eq_true,if_false,Bool.or_self,Bool.not_false,if_true]
     refine walk_down hn hT hs s m (2*a+2) (by omega) (by omega) (looks+1) (by omega) t (by omega) ?_
     intro i z hz hzs
     obtain ⟨p1,p2⟩:=hP i z hz hzs
     rw [base_r]
     have hgt:rk T.length a<i:=by
      apply Classical.byContradiction
      intro hc
      by_cases e:i=rk T.length a
      ·rw [e,hyg] at hz
       have:=Option.some.inj hz
       rw [← this] at hzs; exact q2 hzs.symm
      ·have:=lt_of _ _ hz _ _ hyg (by omega)
       rw [hzs] at this
       exact q1 this
     exact ⟨by omega,by omega⟩
  ·rw [if_neg (by omega),if_neg (by omega)]
   refine ⟨_,rfl,.inr ⟨fun y hy hys=>?_,rfl⟩⟩
   obtain ⟨i,hi⟩:=List.getElem?_of_mem hy
   obtain ⟨p1,p2⟩:=hP i y hi hys
   rw [io_ge h1] at p2
   simp at p2; omega
theorem found {n:Nat} (hn:5000≤n) {T:List Ga} (hT:right T=0) (hs:T.Pairwise fun x y=>bl (nf x)<bl (nf y)) (s:ByteArray) :
  ∃ lk:Int,ZR n T s=some lk∧((∃ y∈T,nf y=s∧Sv n (laid T).flatten s n 0 0=some (.x0 y.fIno lk 0))∨((∀ y∈T,nf y≠s)∧Sv n (laid T).flatten s n 0 0=some (.x1 lk))):=by
 have h32:T.length≤32:=((right_zero T).1 hT).1
 obtain ⟨lk,h1,h2⟩:=walk_down hn hT hs s T.length 0 (by omega) (by omega) 0 (by omega) n (by omega) (fun i y hi _=>by
  have:=(List.getElem?_eq_some_iff.1 hi).1
  have hb:base T.length 0=0:=by rw [base]; simp
  rw [hb,io_len]; omega)
 have h1:SI n T s n 0 0=_:=h1
 refine ⟨lk,?_,h2⟩
 unfold ZR
 rw [h1]; rfl
end Go.Proofs.YtdgocccbagbhjaaGreatDoor.pv.dr
