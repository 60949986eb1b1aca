/- PathSplits: strings.Split at one byte and strings.FieldsFunc, as plain functions on the bytes. -/
import Derived.Test.YtocchemnfpnmeaaDoorWb
import Derived.Test.YtocchemnfpnmeaaDoorMath
namespace Go.Proofs.YtocchemnfpnmeaaDoor.pv.pw
open Go.RowKit help pv
set_option linter.all false
set_option maxRecDepth 100000
def mk (l:List UInt8):ByteArray:=⟨l.toArray⟩
theorem mk_size (l:List UInt8):(mk l).size=l.length:=by rw [Lib.size_eq]; rfl
theorem mk_extract (l:List UInt8) (a b:Nat):(mk l).extract a b=mk ((l.drop a).take (b-a)):=by
 apply ByteArray.ext
 apply Array.ext'
 rw [Lib.extract_data]; rfl
def splitL:List UInt8→List (List UInt8)
 | []=>[[]]
 | b::t=>if b=47 then []::splitL t else match splitL t with
  | h::r=>(b::h)::r
  | []=>[[b]]
def consH (seg:List UInt8):List (List UInt8)→List (List UInt8)
 | h::r=>(seg++h)::r
 | []=>[seg]
theorem splitL_cons (l:List UInt8):∃ h r,splitL l=h::r:=by
 cases l with
 | nil=>exact ⟨_,_,rfl⟩
 | cons b t =>
  unfold splitL
  split
  ·exact ⟨_,_,rfl⟩
  ·cases splitL t <;> exact ⟨_,_,rfl⟩
theorem splitL_47 (t:List UInt8):splitL (47::t)=[]::splitL t:=by rw [splitL,if_pos rfl]
theorem splitL_seg:∀ (seg t:List UInt8),(∀ b∈seg,b≠47)→splitL (seg++t)=consH seg (splitL t)
 | [],t,_=>by obtain ⟨h,r,e⟩:=splitL_cons t; rw [List.nil_append,e]; rfl
 | b::seg,t,hs=>by
  have ih:=splitL_seg seg t (fun x hx=>hs x (List.mem_cons_of_mem _ hx))
  obtain ⟨h,r,e⟩:=splitL_cons t
  rw [List.cons_append,splitL,if_neg (hs b (by simp)),ih,e]
  rfl
theorem splitL_none {t:List UInt8} (h:t.count 47=0):splitL t=[t]:=by
 have:=splitL_seg t [] (fun b hb e=>by subst e; exact absurd (List.count_pos_iff.2 hb) (by omega))
 rw [List.append_nil] at this
 rw [this]; simp [splitL,consH]
theorem splitL_len:∀ t:List UInt8,(splitL t).length=t.count 47+1
 | []=>rfl
 | b::t=>by
  unfold splitL
  have:=splitL_len t
  obtain ⟨h,r,e⟩:=splitL_cons t
  split
  ·rename_i hb; subst hb; rw [List.length_cons,this]; simp
  ·rename_i hb
   rw [e] at this ⊢
   rw [List.count_cons_of_ne (by simpa using hb)]
   simpa using this
theorem first47:∀ t:List UInt8,0<t.count 47→∃ seg rest,t=seg++47::rest∧(∀ b∈seg,b≠47)∧Lib.indexByte t 47=(seg.length:Int)∧rest.count 47+1=t.count 47
 | [],h=>by simp at h
 | b::t,h=>by
  by_cases hb:b=47
  ·subst hb
   exact ⟨[],t,rfl,(fun _ h=>by cases h),(by rw [Lib.indexByte,if_pos (by simp)]; rfl),by simp⟩
  ·rw [List.count_cons_of_ne (by simpa using hb)] at h
   obtain ⟨seg,rest,e,hs,hi,hc⟩:=first47 t h
   refine ⟨b::seg,rest,by rw [e]; rfl,(fun x hx=>?_),?_,by rw [List.count_cons_of_ne (by simpa using hb)]; exact hc⟩
   ·rcases List.mem_cons.1 hx with rfl | hx
    ·exact hb
    ·exact hs x hx
   ·rw [Lib.indexByte,if_neg (by simpa using hb),hi]
    rw [if_neg (by simp)]
    simp
def sep:ByteArray:=ByteArray.mk #[47]
theorem sep_size:sep.size=1:=rfl
theorem index_any (n:Nat) (t:List UInt8):Zk n (mk t) sep=some (Lib.indexByte t 47):=by
 unfold Zk
 rw [if_pos sep_size]; rfl
theorem count_any (n:Nat) (t:List UInt8):Zj n (mk t) sep=some ((t.count 47:Nat):Int):=by
 unfold Zj
 rw [if_pos sep_size]; rfl
theorem sub_mk {t:List UInt8} {a b:Nat} (h:a≤b) (hb:b≤t.length):subS (mk t) (a:Int) (b:Int)=some (mk ((t.drop a).take (b-a))):=by
 unfold subS
 rw [if_pos ⟨by omega,by omega,by rw [mk_size]; omega⟩,Int.toNat_natCast,Int.toNat_natCast,mk_extract]
theorem loop (n:Nat) (z:Int) (s:ByteArray) (c:Nat) (hz:wi .i64 ((minI z (wi .i64 ((s.size:Int)+1)))-1)=(c:Int)) (hc64:c≤64):∀ (k:Nat) (t:List UInt8) (i:Nat) (w:List ByteArray),c-i<k→i≤c→w.length=c+1→t.count 47=c-i→t.length≤64 →
  ∃ (last:List UInt8) (w':List ByteArray),Sa n sep 0 z s k (mk t) (i:Int) w=some (.x0 (mk last) (c:Int) w')∧w'.length=c+1∧w'.take c++[mk last]=w.take i++(splitL t).map mk
 | 0,t,i,w,h,_,_,_,_=>by omega
 | k+1,t,i,w,h,hi,hw,ht,hl=>by
  rw [Sa,hz]
  by_cases hlt:i<c
  ·obtain ⟨seg,rest,e,hs,hx,hc⟩:=first47 t (by omega)
   have hlen:t.length=seg.length+1+rest.length:=by rw [e]; simp; omega
   rw [if_pos (by omega),index_any,hx,Option.bind_some,if_neg (by omega),Int.add_zero,wi64 (by omega) (by omega)]
   have e1:subS (mk t) 0 (seg.length:Int)=some (mk seg):=by
    have:=sub_mk (t:=t) (a:=0) (b:=seg.length) (by omega) (by omega)
    rw [show ((0:Nat):Int)=0 from rfl] at this
    rw [this,e]; simp
   have e2:subS (mk t) (wi .i64 ((seg.length:Int)+(sep.size:Int))) ((mk t).size:Int)=some (mk rest):=by
    rw [sep_size,wi64 (by omega) (by omega),mk_size]
    have:=sub_mk (t:=t) (a:=seg.length+1) (b:=t.length) (by omega) (by omega)
    rw [show (((seg.length+1:Nat)):Int)=(seg.length:Int)+((1:Nat):Int) by omega] at this
    rw [this,e]
    congr 2
    rw [show seg++47::rest=(seg++[47])++rest by simp,List.drop_left' (by simp)]
    exact List.take_of_length_le (by simp; omega)
   have hg:w[i]?=some (w[i]'(by omega)):=List.getElem?_eq_getElem (by omega)
   rw [e1,Option.bind_some,if_pos ⟨by omega,by rw [Int.toNat_natCast]; omega⟩,Int.toNat_natCast,hg,Option.bind_some,e2,Option.bind_some,wi_succ (by omega)]
   obtain ⟨last,w',r1,r2,r3⟩:=loop n z s c hz hc64 k rest (i+1) (w.set i (mk seg)) (by omega) (by omega) (by simpa using hw) (by omega) (by omega)
   refine ⟨last,w',r1,r2,?_⟩
   rw [r3,e,splitL_seg seg _ hs,splitL_47]
   have:(w.set i (mk seg)).take (i+1)=w.take i++[mk seg]:=by
    rw [List.take_set,List.take_succ_eq_append_getElem (by omega),List.set_append_right _ _ (by simp; omega)]
    simp [show min i w.length=i by omega]
   rw [this]
   simp [consH]
  ·obtain rfl:i=c:=by omega
   rw [if_neg (by omega)]
   exact ⟨t,w,rfl,hw,by rw [splitL_none (by omega)]; rfl⟩
theorem split_any (n:Nat) (l:List UInt8) (hl:l.length≤64) (hn:100≤n):Zm n (mk l) sep=some ((splitL l).map mk):=by
 unfold Zm Zl KJ
 have hc:l.count 47≤l.length:=List.count_le_length
 rw [if_neg (by omega),if_neg (by rw [ByteArray.toList_eq,ByteArray.toList_eq]; decide),if_pos (by omega),count_any,Option.bind_some,Option.bind_some]
 simp only
 have w1:wi .i64 ((l.count 47:Nat)+1:Int)=((l.count 47+1:Nat):Int):=wi_succ (by omega)
 have w2:wi .i64 (((mk l).size:Int)+1)=((l.length+1:Nat):Int):=by rw [mk_size]; exact wi_succ (by omega)
 have hm:minI ((l.count 47+1:Nat):Int) ((l.length+1:Nat):Int)=((l.count 47+1:Nat):Int):=by unfold minI; split <;> omega
 have hz:wi .i64 ((minI ((l.count 47+1:Nat):Int) (wi .i64 (((mk l).size:Int)+1)))-1)=((l.count 47:Nat):Int):=by rw [w2,hm,wi64 (by omega) (by omega)]; omega
 have hk:mkL 16 (ByteArray.mk #[]) ((l.count 47+1:Nat):Int)=some (List.replicate (l.count 47+1) (ByteArray.mk #[])):=by
  unfold mkL
  rw [if_pos ⟨by omega,by rw [Int.toNat_natCast]; unfold maxLen; omega,by rw [Int.toNat_natCast]; omega⟩,Int.toNat_natCast]
 obtain ⟨last,w',r1,r2,r3⟩:=loop n ((l.count 47+1:Nat):Int) (mk l) (l.count 47) hz (by omega) n l 0 (List.replicate (l.count 47+1) (ByteArray.mk #[])) (by omega) (by omega) (by simp) (by omega) hl
 rw [show ((0:Nat):Int)=0 from rfl] at r1
 have hg:w'[l.count 47]?=some (w'[l.count 47]'(by omega)):=List.getElem?_eq_getElem (by omega)
 rw [w1,w2,hm,hk,Option.bind_some,r1,Option.bind_some]
 simp only
 rw [if_pos ⟨by omega,by rw [Int.toNat_natCast]; omega⟩,Int.toNat_natCast,hg,Option.bind_some,wi_succ (by omega)]
 have hs:sub (w'.set (l.count 47) (mk last)) 0 ((l.count 47+1:Nat):Int)=some (w'.take (l.count 47)++[mk last]):=by
  unfold sub
  rw [if_pos ⟨by omega,by omega,by rw [List.length_set]; omega⟩]
  congr 1
  rw [Int.toNat_natCast]
  simp only [Int.toNat_zero,List.drop_zero]
  rw [List.take_set,List.take_succ_eq_append_getElem (by omega),List.set_append_right _ _ (by simp; omega)]
  simp [show min (l.count 47) w'.length=l.count 47 by omega]
 rw [hs,Option.bind_some,Option.bind_some,r3]
 simp
theorem dec_n (n b0 b1 b2 b3:Nat) (hn:1≤n):(b0=47→Lib.decodeN n b0 b1 b2 b3=(47,1))∧(b0≠47→(Lib.decodeN n b0 b1 b2 b3).1≠47∧(1<(Lib.decodeN n b0 b1 b2 b3).2→b1≠47)∧(2<(Lib.decodeN n b0 b1 b2 b3).2→b2≠47)∧(3<(Lib.decodeN n b0 b1 b2 b3).2→b3≠47)∧(Lib.decodeN n b0 b1 b2 b3).2≤4):=by
 refine ⟨fun h=>by subst h; rfl,fun h=>?_⟩
 unfold Lib.decodeN
 repeat' split
 all_goals (simp only; omega)
theorem dec_at (l:List UInt8) (pos:Nat) (h:pos<l.length) :
  (l.getD pos 0=47→Utf8.decode (mk l) pos=(47,1))∧(l.getD pos 0≠47→(Utf8.decode (mk l) pos).1≠47∧∀ b∈(l.drop pos).take (Utf8.decode (mk l) pos).2,b≠47)∧pos+(Utf8.decode (mk l) pos).2≤l.length∧1≤(Utf8.decode (mk l) pos).2:=by
 have e:=Lib.decode_N (mk l) pos
 rw [show (mk l).data.toList=l from rfl] at e
 obtain ⟨d1,d2⟩:=dec_n (l.length-pos) (l.getD pos 0).toNat (l.getD (pos+1) 0).toNat (l.getD (pos+2) 0).toNat (l.getD (pos+3) 0).toNat (by omega)
 have d3:=Lib.decodeN_le_n' (l.length-pos) (l.getD pos 0).toNat (l.getD (pos+1) 0).toNat (l.getD (pos+2) 0).toNat (l.getD (pos+3) 0).toNat (by omega)
 have d4:=Lib.width_pos (mk l) pos
 rw [← e] at d1 d2 d3
 refine ⟨fun h=>d1 (by rw [h]; rfl),fun hne=>?_,by omega,d4⟩
 have u:∀ b:UInt8,b.toNat≠47→b≠47:=fun b hb e=>hb (by rw [e]; rfl)
 have u':∀ b:UInt8,b≠47→b.toNat≠47:=fun b hb e=>hb (UInt8.toNat_inj.1 (by rw [e]; rfl))
 obtain ⟨q1,q2,q3,q4,q5⟩:=d2 (u' _ hne)
 refine ⟨q1,fun b hb=>?_⟩
 obtain ⟨j,hj⟩:=List.mem_iff_getElem?.1 hb
 rw [List.getElem?_take] at hj
 split at hj
 ·rename_i hjw
  rw [List.getElem?_drop] at hj
  have hg:l.getD (pos+j) 0=b:=by rw [List.getD_eq_getElem?_getD,hj]; rfl
  have:j=0∨j=1∨j=2∨j=3:=by omega
  rcases this with rfl | rfl | rfl | rfl
  ·rw [← hg]; exact hne
  ·rw [← hg]; exact u _ (q2 (by omega))
  ·rw [← hg]; exact u _ (q3 (by omega))
  ·rw [← hg]; exact u _ (q4 (by omega))
 ·cases hj
def piece (l:List UInt8) (a b:Nat):List UInt8:=(l.drop a).take (b-a)
def openP (l:List UInt8) (pos:Nat):Option Nat→List UInt8
 | some a=>piece l a pos
 | none=>[]
theorem piece_add (l:List UInt8) {a pos:Nat} (w:Nat) (h:a≤pos):piece l a (pos+w)=piece l a pos++(l.drop pos).take w:=by
 unfold piece
 have e:l.drop pos=(l.drop a).drop (pos-a):=by rw [List.drop_drop]; congr 1; omega
 rw [e,show pos+w-a=(pos-a)+w by omega,List.take_add]
theorem spans (p:Nat→Bool) (hp:∀ r,p r=decide (r=47)) (l:List UInt8):∀ (f pos:Nat) (st:Option Nat) (acc:List (Nat×Nat)),l.length≤pos+f→pos≤l.length→(∀ a,st=some a→a<pos) →
  (Lib.closeSpans (mk l) (Lib.spansFromP p (mk l) f pos st acc)).map (fun x=>piece l x.1 x.2)=acc.map (fun x=>piece l x.1 x.2)++(consH (openP l pos st) (splitL (l.drop pos))).filter (fun x=>decide (x≠[]))
 | f,pos,st,acc,h,hpos,hst=>by
  by_cases hlt:pos<l.length
  ·cases f with
   | zero=>omega
   | succ f =>
    obtain ⟨d1,d2,d3,d4⟩:=dec_at l pos hlt
    have hlt':pos<(mk l).size:=by rw [mk_size]; exact hlt
    have hdrop:l.drop pos=l.getD pos 0::l.drop (pos+1):=by
     rw [List.drop_eq_getElem_cons hlt,List.getD_eq_getElem?_getD,List.getElem?_eq_getElem hlt]; rfl
    rw [Lib.spansFromP.eq_def]
    simp only
    rw [if_pos hlt',hp]
    by_cases hb:l.getD pos 0=47
    ·have hd:=d1 hb
     rw [hd]
     simp only [decide_true,if_true]
     rw [hdrop,hb,splitL_47]
     cases st with
     | none =>
      simp only
      rw [spans p hp l f (pos+1) none acc (by omega) (by omega) (fun a h=>by cases h)]
      obtain ⟨hh,rr,e⟩:=splitL_cons (l.drop (pos+1))
      rw [e]
      simp [openP,consH]
     | some a =>
      have ha:=hst a rfl
      simp only
      rw [spans p hp l f (pos+1) none _ (by omega) (by omega) (fun a h=>by cases h)]
      obtain ⟨hh,rr,e⟩:=splitL_cons (l.drop (pos+1))
      have hne:piece l a pos≠[]:=by
       intro h0
       have:=congrArg List.length h0
       unfold piece at this
       rw [List.length_take,List.length_drop] at this
       simp at this
       omega
      rw [e]
      simp [openP,consH,hne]
    ·obtain ⟨q1,q2⟩:=d2 hb
     rw [decide_eq_false q1]
     simp only [Bool.false_eq_true,if_false]
     generalize hw:(Utf8.decode (mk l) pos).2=w at *
     have hsp:splitL (l.drop pos)=consH ((l.drop pos).take w) (splitL (l.drop (pos+w))):=by
      have:=splitL_seg ((l.drop pos).take w) ((l.drop pos).drop w) q2
      rw [List.take_append_drop,List.drop_drop] at this
      exact this
     obtain ⟨hh,rr,e⟩:=splitL_cons (l.drop (pos+w))
     cases st with
     | none =>
      simp only
      rw [spans p hp l f (pos+w) (some pos) acc (by omega) (by omega) (fun a h=>by cases h; omega),hsp,e]
      simp [openP,consH,piece]
     | some a =>
      have ha:=hst a rfl
      simp only
      rw [spans p hp l f (pos+w) (some a) acc (by omega) (by omega) (fun a' h=>by cases h; omega),hsp,e]
      simp only [openP,consH]
      rw [piece_add l w (by omega),List.append_assoc]
  ·have hlt':¬ pos<(mk l).size:=by rw [mk_size]; exact hlt
   rw [Lib.spansFromP_end _ _ _ _ _ _ hlt',List.drop_eq_nil_of_le (by omega)]
   cases st with
   | none=>simp [Lib.closeSpans,openP,splitL,consH]
   | some a =>
    have ha:=hst a rfl
    have hpl:pos=l.length:=by omega
    subst hpl
    have hne:piece l a l.length≠[]:=by
     intro h0
     have:=congrArg List.length h0
     unfold piece at this
     rw [List.length_take,List.length_drop] at this
     simp at this
     omega
    simp [Lib.closeSpans,openP,splitL,consH,mk_size,hne]
theorem fields_any (p:Nat→Bool) (hp:∀ r,p r=decide (r=47)) (l:List UInt8):Lib.goFieldsP p (mk l)=((splitL l).filter (fun x=>decide (x≠[]))).map mk:=by
 unfold Lib.goFieldsP Lib.spansOfP
 have h:=spans p hp l l.length 0 none [] (by omega) (by omega) (fun a h=>by cases h)
 obtain ⟨hh,rr,e⟩:=splitL_cons l
 rw [List.drop_zero,e] at h
 rw [mk_size,e]
 have e2:((hh::rr).filter (fun x=>decide (x≠[])))=(Lib.closeSpans (mk l) (Lib.spansFromP p (mk l) l.length 0 none [])).map (fun x=>piece l x.1 x.2):=by
  rw [h]; simp [openP,consH]
 rw [e2,List.map_map]
 exact List.map_congr_left (fun x _=>mk_extract l x.1 x.2)
end Go.Proofs.YtocchemnfpnmeaaDoor.pv.pw
