/- Directories: what entries are as bytes, on both sides. -/
import Derived.Test.YtdgocccbagbhjaaGreatDoorDc
import Derived.Sort.Walk0
namespace Go.Proofs.YtdgocccbagbhjaaGreatDoor.pv.dr
set_option linter.all false
open Go.RowKit help pv
abbrev nf:Ga→ByteArray:=Ga.fName
theorem name_inj {l:List Ga} (h:(l.map nf).Nodup) {a b:Ga} (ha:a∈l) (hb:b∈l) (e:nf a=nf b):a=b:=by
 induction l with
 | nil=>cases ha
 | cons x l ih =>
  rw [List.map_cons,List.nodup_cons] at h
  rcases List.mem_cons.1 ha with ha | ha <;> rcases List.mem_cons.1 hb with hb | hb
  ·rw [ha,hb]
  ·exact absurd (List.mem_map.2 ⟨b,hb,by rw [← e,ha]⟩) h.1
  ·exact absurd (List.mem_map.2 ⟨a,ha,by rw [e,hb]⟩) h.1
  ·exact ih h.2 ha hb
theorem sort_eq {l r:List Ga} (h:(l.map nf).Nodup) (hp:r.Perm l) (hs:r.Pairwise fun x y=>ltN nf y x=false):r=sortN nf l:=by
 obtain ⟨q1,q2⟩:=sortN_spec nf l
 refine List.Perm.eq_of_pairwise (le:=fun x y=>ltN nf y x=false) ?_ hs q2 (hp.trans q1.symm)
 intro a b ha hb h1 h2
 refine name_inj h (hp.mem_iff.1 ha) (q1.mem_iff.1 hb) ?_
 simp only [ltN,Go.Sort.ltStr,decide_eq_false_iff_not,List.not_lt] at h1 h2
 exact ByteArray.ext (Array.toList_inj.1 (List.le_antisymm h1 h2))
def e0:Ga:=⟨ByteArray.empty,0⟩
def laid (T:List Ga):List (List Int):=(List.range T.length).map fun k=>rowB (T.getD (rk T.length k) e0)
theorem laid_get (T:List Ga) {k:Nat} (hk:k<T.length):(laid T)[k]?=some (rowB (T[rk T.length k]'(rk_lt hk))):=by
 unfold laid
 rw [List.getElem?_map,List.getElem?_range hk]
 simp only [Option.map_some]
 rw [List.getD_eq_getElem?_getD,List.getElem?_eq_getElem (rk_lt hk)]
 rfl
theorem laid_len (T:List Ga):(laid T).length=T.length:=by simp [laid]
theorem wr_laid (T:List Ga):wr (List.replicate T.length Z16) (io T.length 0) (T.map rowB)=laid T:=by
 apply List.ext_getElem?
 intro k
 by_cases hk:k<T.length
 ·rw [wr_top (by simp) (by simp) hk,laid_get T hk,List.getElem?_map,List.getElem?_eq_getElem (rk_lt hk)]; rfl
 ·rw [List.getElem?_eq_none (by rw [wr_len]; simp; omega),List.getElem?_eq_none (by rw [laid_len]; omega)]
theorem cmp_is (n:Nat) (x y:Ga):∃ c,ZT n x y=some c∧ltN nf x y=decide (c<0):=by
 unfold ZT Zi KS
 have hx:(!(x.fName.toList == x.fName.toList))=false:=by simp
 have hy:(!(y.fName.toList == y.fName.toList))=false:=by simp
 rw [hx,hy]
 simp only [Option.bind_some,Bool.false_eq_true,if_false]
 rw [bytesLess_eq]
 unfold ltN Go.Sort.ltStr
 rw [← ByteArray.toList_eq,← ByteArray.toList_eq]
 by_cases h:x.fName.toList<y.fName.toList
 ·rw [if_pos (decide_eq_true h)]
  exact ⟨-1,rfl,by rw [decide_eq_true h]; rfl⟩
 ·rw [if_neg (by simpa using h),decide_eq_false h]
  split
  ·exact ⟨1,rfl,rfl⟩
  ·exact ⟨0,rfl,rfl⟩
theorem rep_flat (n:Nat):List.replicate (16*n) (0:Int)=(List.replicate n Z16).flatten:=by
 induction n with
 | zero=>rfl
 | succ n ih =>
  rw [List.replicate_succ,List.flatten_cons,← ih]
  unfold Z16
  rw [List.replicate_append_replicate]
  congr 1; omega
section
variable {n:Nat} {l:List Ga}
theorem srt_perm (l:List Ga):(sortN nf l).Perm l:=(sortN_spec nf l).1
theorem srt_len (l:List Ga):(sortN nf l).length=l.length:=(srt_perm l).length_eq
theorem sized (h:right l=0):∀ x∈l,x.fName.size≤14:=fun x hx=>(((right_zero l).1 h).2.1 x hx).1.2.1
theorem play (hn:5000≤n) (h:right l=0):Za n l=some ((laid (sortN nf l)).flatten,0):=by
 obtain ⟨h1,h2,h3⟩:=(right_zero l).1 h
 unfold Za SM
 rw [pright (by omega) l (by omega),Option.bind_some,if_pos h,app_some (by simp; omega) (by omega),Option.bind_some,List.nil_append]
 obtain ⟨r,s1,s2,s3⟩:=so.sorted n (Q:=fun _=>True) (lt:=ltN nf) (cmp:=fun (y0:Ga) (y1:Ga)=>ZT n y0 y1) (fun x y _ _=>cmp_is n x y) (swo_ltN nf) l (fun _ _=>trivial) (by omega) (by omega)
 rw [s1,Option.bind_some]
 have hr:r=sortN nf l:=sort_eq h3 s2 s3
 subst hr
 have hl:=srt_len l
 have em:mkL 1 (0:Int) (wi .i64 (16*((sortN nf l).length:Int)))=some (List.replicate (16*(sortN nf l).length) 0):=by
  rw [wi64 (by omega) (by omega)]
  unfold mkL
  have:(16*((sortN nf l).length:Int)).toNat=16*(sortN nf l).length:=by omega
  rw [this,if_pos ⟨by omega,by unfold maxLen; omega,by omega⟩]
 rw [em,Option.bind_some,rep_flat]
 have hli:=lay_is (L:=sortN nf l) (by omega) (fun x hx=>sized h x ((srt_perm l).mem_iff.1 hx)) (sortN nf l).length 0 (by omega) (by omega) n (by omega) (List.replicate (sortN nf l).length Z16) 0 (by simp) (fun z hz=>by rw [(List.mem_replicate.1 hz).2]; rfl)
  (fun k hk=>by rw [List.getElem?_replicate,if_pos (io_mem _ (sortN nf l).length 0 (by omega) k hk)]) (by rw [io_len]; omega)
 have hli:Ko n 0 (sortN nf l) (List.replicate (sortN nf l).length Z16).flatten 0=_:=hli
 rw [hli,Option.bind_some,List.drop_zero,wr_laid]
theorem play_bad (hn:5000≤n) (hl:l.length≤1000) (h:right l≠0):Za n l=some ([],right l):=by
 unfold Za
 rw [pright (by omega) l (by omega),Option.bind_some,if_neg h]
theorem rlayL (hn:5000≤n) (h:right l=0):∀ (t k:Nat),(sortN nf l).length-k<t→k≤(sortN nf l).length →
  SW n l t (b2s (((laid (sortN nf l)).take k).flatten)) (k:Int) (sortN nf l)=some (.x0 (b2s ((laid (sortN nf l)).flatten)))
 | 0,k,h,_=>by omega
 | t+1,k,ht,hk=>by
  have hl:=srt_len l
  obtain ⟨g1,g2,g3⟩:=(right_zero l).1 h
  have hs:∀ x∈sortN nf l,x.fName.size≤14:=fun x hx=>sized h x ((srt_perm l).mem_iff.1 hx)
  have h16:∀ z∈laid (sortN nf l),z.length=16:=fun z hz=>by
   obtain ⟨i,hi⟩:=List.getElem?_of_mem hz
   have hil:i<(sortN nf l).length:=by have:=(List.getElem?_eq_some_iff.1 hi).1; rwa [laid_len] at this
   rw [laid_get _ hil] at hi
   rw [← Option.some.inj hi]
   exact rowB_len (hs _ (List.getElem_mem _))
  rw [SW]
  have hc:((sortN Ga.fName l).length:Int)=((sortN nf l).length:Int):=rfl
  rw [hc]
  by_cases h1:k<(sortN nf l).length
  ·have hr:=rk_lt h1
   have hg:=List.getElem?_eq_getElem hr
   generalize hy:(sortN nf l)[rk (sortN nf l).length k]=y at hg
   have hys:y.fName.size≤14:=by rw [← hy]; exact hs _ (List.getElem_mem _)
   have hrow:=laid_get (sortN nf l) h1
   rw [hy] at hrow
   rw [if_pos (by omega),rank_is (by omega) (by omega) h1,Option.bind_some,if_pos ⟨by omega,by rw [Int.toNat_natCast]; exact hr⟩,Int.toNat_natCast,hg,Option.bind_some,wi_succ (by omega)]
   have er:wi .i64 (14-(y.fName.size:Int))=((14-y.fName.size:Nat):Int):=by rw [wi64 (by omega) (by omega)]; omega
   have c1:catS y.fName (b2s (List.replicate (14-y.fName.size) 0))=some (b2s (s2b y.fName++List.replicate (14-y.fName.size) 0)):=by
    conv=>lhs; rw [← b2s_s2b y.fName]
    rw [b2s_size,s2b_len]
    exact cat_b2s _ _ (by rw [s2b_len]; simp; omega)
   rw [er,repeat_b2s n _ (by omega),Option.bind_some,c1,Option.bind_some]
   unfold XA
   have c3:ByteArray.mk #[0]=b2s [0]:=rfl
   rw [Option.bind_some,cat_b2s _ _ (by simp [s2b_len]; omega),Option.bind_some,c3,cat_b2s _ _ (by simp [s2b_len]; omega),Option.bind_some]
   have e1:s2b y.fName++List.replicate (14-y.fName.size) 0++[wi .u8 y.fIno]++[0]=rowB y:=by simp [rowB]
   have htk:((laid (sortN nf l)).take (k+1)).flatten=((laid (sortN nf l)).take k).flatten++rowB y:=by
    rw [List.take_succ,hrow]; simp
   have hfl:(((laid (sortN nf l)).take k).flatten).length≤16*32:=by
    rw [flat_len _ (fun z hz=>h16 z (List.mem_of_mem_take hz)),List.length_take]; omega
   rw [e1,cat_b2s _ _ (by rw [rowB_len hys]; omega),Option.bind_some,← htk]
   exact rlayL hn h t (k+1) (by omega) (by omega)
  ·rw [if_neg (by omega),List.take_of_length_le (by rw [laid_len]; omega)]
theorem rlay (hn:5000≤n) (h:right l=0):Zl n l=some (b2s (laid (sortN nf l)).flatten):=by
 obtain ⟨h1,h2,h3⟩:=(right_zero l).1 h
 unfold Zl
 rw [app_some (by simp; omega) (by omega),Option.bind_some,List.nil_append,if_pos (by omega)]
 have hL:=rlayL hn h n 0 (by rw [srt_len]; omega) (by omega)
 have hL:SW n l n (ByteArray.mk #[]) 0 (sortN Ga.fName l)=_:=hL
 rw [hL]; rfl
end
end Go.Proofs.YtdgocccbagbhjaaGreatDoor.pv.dr
