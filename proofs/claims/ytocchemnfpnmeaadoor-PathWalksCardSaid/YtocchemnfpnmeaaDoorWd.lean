/- Ways: a path's pieces, on both sides (PathSplits' text turned to any fuel). -/
import Derived.Test.YtocchemnfpnmeaaDoorWc
namespace Go.Proofs.YtocchemnfpnmeaaDoor.pv.pw
open Go.RowKit help pv
set_option linter.all false
def long (y:ByteArray):Bool:=decide (y.size > 14)
def some_ (y:ByteArray):Bool:=decide (y.size≠0)
theorem empty_iff (y:ByteArray):(y.toList == (ByteArray.mk #[]).toList)=decide (y.size=0):=by
 rw [ByteArray.toList_eq,ByteArray.toList_eq,Lib.size_eq]
 cases h:y.data.toList with
 | nil=>rfl
 | cons a t=>simp
theorem prog_loop (n:Nat) (s:ByteArray) (L:List ByteArray) (hL:L.length≤100):∀ (k i:Nat) (w:List ByteArray),L.length-i<k→i≤L.length→w.length≤i→Sq n s L k (i:Int) w=if (L.drop i).any long=true then some (.x0 false 3) else some (.x1 (w++(L.drop i).filter some_))
 | 0,i,w,h,_,_=>by omega
 | k+1,i,w,h,hi,hw=>by
  rw [Sq]
  by_cases hlt:(i:Int)<(L.length:Int)
  ·obtain ⟨y,hy⟩:=get_lt hlt
   rw [if_pos hlt,getI_nat,hy,Option.bind_some,drop_cons hy,List.any_cons,List.filter_cons,empty_iff]
   by_cases h1:(y.size:Int) > 14
   ·rw [if_pos h1]
    have:long y=true:=by unfold long; exact decide_eq_true (by omega)
    rw [this]; rfl
   ·have:long y=false:=by unfold long; exact decide_eq_false (by omega)
    rw [if_neg h1,this,Bool.false_or,wi_succ (by omega)]
    by_cases h2:y.size=0
    ·rw [if_neg (show ¬ (!decide (y.size=0))=true by simp [h2]),if_neg (show ¬ some_ y=true by simp [some_,h2]),prog_loop n s L hL k (i+1) w (by omega) (by omega) (by omega)]
    ·rw [if_pos (show (!decide (y.size=0))=true by simp [h2]),if_pos (show some_ y=true by simp [some_,h2]),app_some (by simp; omega) (by omega),Option.bind_some,prog_loop n s L hL k (i+1) (w++[y]) (by omega) (by omega) (by simp; omega)]
     simp
  ·rw [if_neg hlt,drop_end hlt]; simp
theorem ref_loop (n:Nat) (s:ByteArray) (L:List ByteArray) (hL:L.length≤100):∀ (k i:Nat),L.length-i<k→i≤L.length→GR n s L k (i:Int)=if (L.drop i).any long=true then some (.x0 false 3) else some .x1
 | 0,i,h,_=>by omega
 | k+1,i,h,hi=>by
  rw [GR]
  by_cases hlt:(i:Int)<(L.length:Int)
  ·obtain ⟨y,hy⟩:=get_lt hlt
   rw [if_pos hlt,getI_nat,hy,Option.bind_some,drop_cons hy,List.any_cons]
   by_cases h1:(y.size:Int) > 14
   ·rw [if_pos h1]
    have:long y=true:=by unfold long; exact decide_eq_true (by omega)
    rw [this]; rfl
   ·have:long y=false:=by unfold long; exact decide_eq_false (by omega)
    rw [if_neg h1,this,Bool.false_or,wi_succ (by omega),ref_loop n s L hL k (i+1) (by omega) (by omega)]
  ·rw [if_neg hlt,drop_end hlt]; simp
theorem splitL_sum:∀ l:List UInt8,((splitL l).map (fun x=>x.length+1)).sum=l.length+1
 | []=>rfl
 | b::t=>by
  have ih:=splitL_sum t
  unfold splitL
  split
  ·simp [ih]; omega
  ·obtain ⟨h,r,e⟩:=splitL_cons t
   rw [e] at ih ⊢
   simp at ih ⊢
   omega
theorem few:∀ L:List (List UInt8),2*(L.filter (fun x=>decide (x≠[]))).length≤(L.map (fun x=>x.length+1)).sum
 | []=>by simp
 | x::L=>by
  have ih:=few L
  cases x with
  | nil=>simp at ih ⊢; omega
  | cons a x =>
   rw [List.filter_cons_of_pos (by simp)]
   simp only [List.length_cons,List.map_cons,List.sum_cons]
   omega
theorem splitG (s:ByteArray):∃ r:Bool×List ByteArray×Int,r.2.1.length≤32∧∀ n,200≤n→SJ n s=some r∧Gv n s=some r:=by
 obtain ⟨l,rfl⟩:∃ l,s=mk l:=⟨s.data.toList,by unfold mk; apply ByteArray.ext; simp⟩
 by_cases h1:((mk l).size:Int) > 64
 ·exact ⟨(false,[],2),by simp,fun n _=>⟨by unfold SJ; rw [if_pos h1],by unfold Gv; rw [if_pos h1]⟩⟩
 ·have hl:l.length≤64:=by rw [mk_size] at h1; omega
  by_cases h2:(mk l).size=0
  ·exact ⟨(false,[],3),by simp,fun n _=>⟨by unfold SJ; rw [if_neg h1,if_pos (by rw [empty_iff]; exact decide_eq_true h2)],by unfold Gv; rw [if_neg h1,if_pos (by omega)]⟩⟩
  ·obtain ⟨b,hb⟩:∃ b,getS (mk l) 0=some b:=by
    have hs:0<(mk l).size:=by omega
    refine ⟨((mk l)[0].toNat:Int),?_⟩
    unfold getS
    rw [if_pos (by omega)]
    simp only [Int.toNat_zero]
    have hq:(mk l)[0]?=some ((mk l)[0]'hs):=getElem?_pos (mk l) 0 hs
    rw [hq]
    rfl
   have hsum:=splitL_sum l
   generalize hA:splitL l=A at hsum
   have hAl:A.length≤65:=by rw [← hA,splitL_len]; have:l.count 47≤l.length:=List.count_le_length; omega
   have hfm:(A.map mk).filter some_=(A.filter (fun x=>decide (x≠[]))).map mk:=by
    rw [List.filter_map]
    congr 1
    apply List.filter_congr
    intro x _
    simp only [Function.comp,some_,mk_size]
    cases x <;> simp
   have hfl:((A.map mk).filter some_).length≤32:=by
    rw [hfm,List.length_map]
    have:=few A
    omega
   have key:∀ n,200≤n→SJ n (mk l)=(if (A.map mk).any long=true then some (false,[],3) else some ((b == 47),(A.map mk).filter some_,0))∧Gv n (mk l)=(if (A.map mk).any long=true then some (false,[],3) else some ((b == 47),(A.map mk).filter some_,0)):=by
    intro n hn
    have hf:Kc n (mk l) (fun (y0:Int)=>Sk n y0)=some ((A.map mk).filter some_):=by
     unfold Kc
     rw [if_pos (by omega),fields_any _ (fun r=>by
      show (Sk n (r:Int)).getD false=_
      unfold Sk
      rw [Option.getD_some]
      by_cases hr:r=47
      ·subst hr; rfl
      ·rw [decide_eq_false hr]; simpa using (show ¬ (r:Int)=47 by omega)) l,hA,hfm]
    have hp:=prog_loop n (mk l) (A.map mk) (by simp; omega) n 0 [] (by simp; omega) (by omega) (by simp)
    have hr:=ref_loop n (mk l) ((A.map mk).filter some_) (by omega) n 0 (by omega) (by omega)
    rw [show ((0:Nat):Int)=0 from rfl,List.drop_zero,List.nil_append] at hp
    rw [show ((0:Nat):Int)=0 from rfl,List.drop_zero] at hr
    have same:((A.map mk).filter some_).any long=(A.map mk).any long:=by
     rw [List.any_filter]
     congr 1
     funext y
     unfold some_ long
     by_cases hy:y.size > 14
     ·rw [decide_eq_true hy,decide_eq_true (show y.size≠0 by omega)]; rfl
     ·rw [decide_eq_false hy,Bool.and_false]
    rw [same] at hr
    have e1:SJ n (mk l)=(Sq n (mk l) (A.map mk) n 0 []).bind fun o=>match o with | .x0 a b=>some (a,[],b) | .x1 w=>(getS (mk l) 0).bind fun (y:Int)=>some ((y == 47),w,0):=by
     unfold SJ
     rw [if_neg h1,if_neg (by rw [empty_iff]; simpa using h2)]
     have:=split_any n l hl (by omega)
     unfold sep at this
     rw [this,Option.bind_some,hA]
     rfl
    have e2:Gv n (mk l)=(GR n (mk l) ((A.map mk).filter some_) n 0).bind fun o=>match o with | .x0 a b=>some (a,[],b) | .x1=>(getS (mk l) 0).bind fun (y:Int)=>some ((y == 47),(A.map mk).filter some_,0):=by
     unfold Gv
     rw [if_neg h1,if_neg (by omega),hf,Option.bind_some]
     rfl
    rw [hp] at e1
    rw [hr] at e2
    by_cases ha:(A.map mk).any long=true
    ·rw [if_pos ha] at e1 e2 ⊢
     exact ⟨e1,by rw [e2]; rfl⟩
    ·rw [if_neg ha] at e1 e2 ⊢
     simp only [Option.bind_some,hb] at e1 e2
     exact ⟨e1,e2⟩
   by_cases ha:(A.map mk).any long=true
   ·exact ⟨(false,[],3),by simp,fun n hn=>by have:=key n hn; rwa [if_pos ha] at this⟩
   ·exact ⟨((b == 47),(A.map mk).filter some_,0),hfl,fun n hn=>by have:=key n hn; rwa [if_neg ha] at this⟩
end Go.Proofs.YtocchemnfpnmeaaDoor.pv.pw
