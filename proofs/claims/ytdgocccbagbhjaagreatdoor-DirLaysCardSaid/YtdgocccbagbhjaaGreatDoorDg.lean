/- Directories: what is laid is read again; the law. -/
import Derived.Test.YtdgocccbagbhjaaGreatDoorDf
namespace Go.Proofs.YtdgocccbagbhjaaGreatDoor.pv.dr
set_option linter.all false
open Go.RowKit help pv
theorem flat_at {R:List (List Int)} (h:∀ z∈R,z.length=16) {k:Nat} {z:List Int} (hk:R[k]?=some z):∃ A B,R.flatten=A++(z++B)∧A.length=16*k:=by
 have hlt:=(List.getElem?_eq_some_iff.1 hk).1
 refine ⟨(R.take k).flatten,(R.drop (k+1)).flatten,?_,?_⟩
 ·have e:R=R.take k++z::R.drop (k+1):=by
   have:=(List.getElem?_eq_some_iff.1 hk).2
   rw [← this,← List.drop_eq_getElem_cons hlt,List.take_append_drop]
  conv=>lhs; rw [e]
  rw [List.flatten_append,List.flatten_cons]
 ·rw [flat_len _ (fun y hy=>h y (List.mem_of_mem_take hy)),List.length_take]; omega
theorem ent_laid {T:List Ga} (hT:right T=0) {k:Nat} (hk:k<T.length):ent (laid T).flatten k=T[rk T.length k]'(rk_lt hk):=by
 have hg:=laid_get T hk
 generalize hy:T[rk T.length k]'(rk_lt hk)=y at hg
 have hm:y∈T:=by rw [← hy]; exact List.getElem_mem _
 obtain ⟨h1,h2,h3⟩:=((right_zero T).1 hT).2.1 y hm
 obtain ⟨n1,n2,n3,n4,n5,n6⟩:=h1
 have h16:∀ z∈laid T,z.length=16:=fun z hz=>by
  obtain ⟨i,hi⟩:=List.getElem?_of_mem hz
  have hil:i<T.length:=by have:=(List.getElem?_eq_some_iff.1 hi).1; rwa [laid_len] at this
  rw [laid_get _ hil] at hi
  rw [← Option.some.inj hi]
  exact rowB_len (sized hT _ (List.getElem_mem _))
 obtain ⟨A,B,e1,e2⟩:=flat_at h16 hg
 rw [e1]
 have hsz:(s2b y.fName).length=y.fName.size:=s2b_len _
 have c1:chk (A++(rowB y++B)) k=s2b y.fName++List.replicate (14-y.fName.size) 0:=by
  unfold chk rowB
  rw [show 16*k+14=A.length+14 by omega,List.take_append,← e2,List.take_of_length_le (by omega),List.drop_left,show A.length+14-A.length=14 by omega,List.append_assoc,List.append_assoc,← List.append_assoc (s2b y.fName),List.take_append,List.take_of_length_le (by simp [hsz]; omega)]
  simp [hsz]
  omega
 have c2:(A++(rowB y++B)).getD (16*k+14) 0=y.fIno:=by
  rw [List.getD_eq_getElem?_getD,List.getElem?_append_right (by omega),show 16*k+14-A.length=14 by omega]
  have hl:=rowB_len n2
  rw [List.getElem?_append_left (by omega)]
  unfold rowB
  rw [List.getElem?_append_right (by simp [hsz]; omega)]
  have:14-(s2b y.fName++List.replicate (14-y.fName.size) 0).length=0:=by simp [hsz]; omega
  rw [this]
  simp
  unfold wi; rw [IntKind.wrap_u8]; omega
 unfold ent
 rw [c1,c2]
 have c3:(b2s (s2b y.fName++List.replicate (14-y.fName.size) 0)).data.toList=y.fName.data.toList++List.replicate (14-y.fName.size) 0:=by
  rw [← b2s_app,ByteArray.data_append,Array.toList_append,b2s_s2b,b2s_data]
  simp [u8]
 rw [c3,trim_zeros n5 (fun x hx=>(List.mem_replicate.1 hx).2)]
theorem O_laid {T:List Ga} (hT:right T=0):O (laid T).flatten T.length=T:=by
 apply List.ext_getElem?
 intro i
 unfold O
 rw [List.getElem?_map]
 by_cases h2:i<T.length
 ·have hk:(io T.length 0)[i]?=some ((io T.length 0)[i]'(by rw [io_len]; exact h2)):=List.getElem?_eq_getElem _
  generalize (io T.length 0)[i]'(by rw [io_len]; exact h2)=k at hk
  have hkl:=io_mem T.length T.length 0 (by omega) k (List.mem_of_getElem? hk)
  have hr:=io_rk T.length T.length 0 (by omega) i k hk
  have:base T.length 0=0:=by rw [base]; simp
  rw [this,Nat.zero_add] at hr
  rw [hk,Option.map_some,ent_laid hT hkl,List.getElem?_eq_getElem h2]
  simp only [hr]
 ·rw [List.getElem?_eq_none (by rw [io_len]; omega),List.getElem?_eq_none (by omega)]; rfl
theorem good_sorted {b:List Int} {N:Nat} (h:good b N):O b N=sortN nf (O b N):=by
 obtain ⟨h1,h2⟩:=h
 have hT:right (sortN nf (O b N))=0:=(right_perm (srt_perm _)).2 h1
 have:=O_laid hT
 rw [h2,srt_len,O_len] at this
 exact this
theorem lists {n:Nat} (hn:5000≤n) {b:List Int} (hb:b.length≤600) (hy:By b):∃ r:List Ga×Int,ZM n b=some r∧SX n (b2s b)=some r∧r.1.length≤1000:=by
 by_cases h1:remI (b.length:Int) 16=0
 ·by_cases h2:(b.length:Int) > 512
  ·refine ⟨([],3),?_,?_,by simp⟩
   ·unfold ZM; rw [if_pos h1,if_pos h2]
   ·unfold SX; rw [b2s_size,if_pos h1,if_pos h2]
  ·obtain ⟨N,hN⟩:=(len16 b hb).1 h1
   obtain ⟨r,a1,a2,a3⟩:=plist hn hN (by omega) hy
   obtain ⟨q,b1,b2,b3⟩:=rlist hn hN (by omega) hy
   by_cases hg:good b N
   ·have e:q=r:=by rw [a2 hg,b2 hg,← good_sorted hg]
    refine ⟨r,a1,by rw [b1,e],?_⟩
    rw [a2 hg]; show (O b N).length≤_; rw [O_len]; omega
   ·refine ⟨r,a1,by rw [b1,a3 hg,b3 hg],?_⟩
    rw [a3 hg]; simp
 ·refine ⟨([],3),?_,?_,by simp⟩
  ·unfold ZM; rw [if_neg h1]
  ·unfold SX; rw [b2s_size,if_neg h1]
end Go.Proofs.YtdgocccbagbhjaaGreatDoor.pv.dr
