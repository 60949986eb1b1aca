/- JournalPlays: writing, the law -/
import Derived.Test.YtgdhhaddfllkaaaJx
import Derived.Test.YtgdhhaddfllkaaaJa
namespace Go.Proofs.Ytgdhhaddfllkaaa.pv.jp
set_option linter.all false
open Go.RowKit help pv ld
def badc (S:Nat) (at_ size:Int) (w:Gh):Bool:=decide (w.fSector<0)||(decide (w.fSector≥(S:Int))||((decide (w.fSector≥at_)&&decide (w.fSector<at_+size))||((w.fData.length:Int) != 64)))
def rt (S:Nat) (at_ size:Int):List Int→List Gh→Int
 | _,[]=>0
 | seen,w::l=>if badc S at_ size w=true then 1 else if w.fSector∈seen then 5 else rt S at_ size (seen++[w.fSector]) l
def rqw (w:Gh):Gj:=⟨w.fSector,b2s w.fData⟩
section
variable {n S k:Nat} {d:Gg} {r:Gf}
theorem right_c2 (R:Rel S d r k) {at_ size q:Int} (hg:rg S at_ size) (l:List Gh) (x z:Int) (d0:Gg) (E:List (Int×Bool)) (w:Gh) :
  (badc S at_ size w=true∧(Kw n l x (z,⟨(),at_,size,q⟩,d0) d.ffuse d.fsafe d.fnow d.fwait E w=some (.x0 true d.fsafe d.fnow d.fwait E)∨Kw n l x (z,⟨(),at_,size,q⟩,d0) d.ffuse d.fsafe d.fnow d.fwait E w=some (.x1 true d.ffuse d.fsafe d.fnow d.fwait E))) ∨
  (badc S at_ size w=false∧Kw n l x (z,⟨(),at_,size,q⟩,d0) d.ffuse d.fsafe d.fnow d.fwait E w=some (.x1 false d.ffuse d.fsafe d.fnow d.fwait E)):=by
 have hS:=R.le
 unfold rg at hg
 have hz:G7 n ⟨d.fsafe,d.fnow,d.fwait,d.ffuse⟩=_:=R.size n
 unfold Kw badc
 simp only
 rw [hz]
 simp only [Option.bind_some]
 rw [wi64 (x:=at_+size) (by omega) (by omega)]
 by_cases h0:w.fSector<0
 ·rw [if_pos h0,decide_eq_true h0]
  exact .inl ⟨rfl,.inl rfl⟩
 rw [if_neg h0,decide_eq_false h0,Bool.false_or]
 by_cases h1:w.fSector≥(S:Int)
 ·rw [if_pos h1,decide_eq_true h1]
  exact .inl ⟨rfl,.inr rfl⟩
 rw [if_neg h1,decide_eq_false h1,Bool.false_or]
 by_cases h2:w.fSector≥at_
 ·rw [if_pos h2,decide_eq_true h2,Bool.true_and]
  by_cases h3:w.fSector<at_+size
  ·rw [if_pos h3,decide_eq_true h3]
   exact .inl ⟨rfl,.inr rfl⟩
  ·rw [if_neg h3,decide_eq_false h3,Bool.false_or]
   cases hq:((w.fData.length:Int) != 64) with
   | true=>exact .inl ⟨rfl,.inr rfl⟩
   | false=>exact .inr ⟨rfl,rfl⟩
 ·rw [if_neg h2,decide_eq_false h2,Bool.false_and,Bool.false_or]
  cases hq:((w.fData.length:Int) != 64) with
  | true=>exact .inl ⟨rfl,.inr rfl⟩
  | false=>exact .inr ⟨rfl,rfl⟩
theorem right_l3 (R:Rel S d r k) {at_ size q:Int} (hg:rg S at_ size) (l:List Gh) (hl:l.length≤1000) (z:Int) (d0:Gg):∀ (t i:Nat) (E:List (Int×Bool)) (seen:List Int),(∀ s,(mget E s).getD false=decide (s∈seen))→l.length-i<t→i≤l.length →
  Su n l (z,⟨(),at_,size,q⟩,d0) t (i:Int) d.ffuse d.fsafe d.fnow d.fwait E=some (if rt S at_ size seen (l.drop i)=0 then .x1 d.ffuse d.fsafe d.fnow d.fwait else .x0 (rt S at_ size seen (l.drop i)) d.ffuse d.fsafe d.fnow d.fwait)
 | 0,i,_,_,_,h,_=>by omega
 | t+1,i,E,seen,hE,h,hi=>by
  rw [Su]
  by_cases h1:i<l.length
  ·rw [if_pos (by omega),getI_nat,List.getElem?_eq_getElem h1,Option.bind_some,List.drop_eq_getElem_cons h1,rt,wi_succ (by omega)]
   rcases right_c2 (n:=n) R (q:=q) hg l (i:Int) z d0 E l[i] with ⟨b1,b2 | b2⟩ | ⟨b1,b2⟩
   ·rw [b2,if_pos b1]; rfl
   ·rw [b2,if_pos b1]; rfl
   ·rw [b2,b1,Option.bind_some]
    simp only [Bool.false_eq_true,if_false]
    rw [hE]
    by_cases h2:l[i].fSector∈seen
    ·rw [decide_eq_true h2,if_pos rfl,if_pos h2,if_neg (by omega)]
    ·rw [decide_eq_false h2,if_neg h2]
     simp only [Bool.false_eq_true,if_false]
     refine right_l3 R hg l hl z d0 t (i+1) _ _ (fun s=>?_) (by omega) (by omega)
     rw [mget_mput]
     by_cases h3:s=l[i].fSector
     ·rw [if_pos h3,decide_eq_true (by simp [h3])]; rfl
     ·rw [if_neg h3,hE]
      refine decide_eq_decide.2 ?_
      simp [h3]
  ·rw [if_neg (by omega),List.drop_eq_nil_of_le (by omega)]
   rfl
theorem right_p (hn:2000<n) (R:Rel S d r k) {at_ size q:Int} (hg:rg S at_ size) (l:List Gh) (hl:l.length≤1000) :
  Yr n ⟨(),at_,size,q⟩ d l=some (if (l.length:Int) > size-2 then 2 else rt S at_ size [] l,⟨(),at_,size,q⟩,d):=by
 have hg':=hg
 unfold rg at hg'
 unfold Yr KL
 simp only [Option.bind_some]
 rw [wi64 (x:=size-2) (by omega) (by omega)]
 by_cases h:(l.length:Int) > size-2
 ·rw [if_pos h,if_pos h]
 ·rw [if_neg h,if_neg h]
  have a:=right_l3 (n:=n) R (q:=q) hg l hl (size-2) d n 0 [] [] (fun s=>by simp [mget,mplc]) (by omega) (by omega)
  rw [List.drop_zero] at a
  have a:Su n l (size-2,⟨(),at_,size,q⟩,d) n 0 d.ffuse d.fsafe d.fnow d.fwait []=_:=a
  rw [a]
  by_cases h2:rt S at_ size [] l=0
  ·rw [if_pos h2,h2]; rfl
  ·rw [if_neg h2]; rfl
theorem r_l6 (l:List Gd) (x:Int) (s:List Gd) (hs:s.length≤1000) (z1 z2 z3 z4 z5 z6:Int) (y:Gd) (W:List Gd) (W':List Gj):∀ (t j:Nat),s.length-j<t→j≤s.length →
  Sg n l x s z1 z2 z3 z4 z5 z6 y t (j:Int) W W'=some (if (s.drop j).any (fun p=>p.fN == y.fN) then .x0 5 W else .x1 W W')
 | 0,j,h,_=>by omega
 | t+1,j,h,hj=>by
  rw [Sg]
  by_cases h1:j<s.length
  ·rw [if_pos (by omega),getI_nat,List.getElem?_eq_getElem h1,Option.bind_some,List.drop_eq_getElem_cons h1,List.any_cons,wi_succ (by omega)]
   by_cases h2:s[j].fN=y.fN
   ·rw [if_pos h2]; simp [h2]
   ·have:(s[j].fN == y.fN)=false:=by simpa using h2
    rw [if_neg h2,this,Bool.false_or]
    exact r_l6 l x s hs z1 z2 z3 z4 z5 z6 y W W' t (j+1) (by omega) (by omega)
  ·rw [if_neg (by omega),List.drop_eq_nil_of_le (by omega)]; rfl
theorem r_l7 (hn:2000<n) (R:Rel S d r k) {at_ size q:Int} (hg:rg S at_ size) (l:List Gh) (hl:l.length≤1000):∀ (t i:Nat),l.length-i<t→i≤l.length →
  GV n (l.map pt) t (i:Int) at_ size q r.fSectors r.fMark r.fFuse r.fAll ((l.take i).map rqw)=some (if rt S at_ size ((l.take i).map (·.fSector)) (l.drop i)=0 then .x1 at_ size q r.fSectors r.fMark r.fFuse r.fAll (l.map rqw) else .x0 (rt S at_ size ((l.take i).map (·.fSector)) (l.drop i)) at_ size q r.fSectors r.fMark r.fFuse r.fAll)
 | 0,i,h,_=>by omega
 | t+1,i,h,hi=>by
  have hS:=R.le
  have hg':=hg
  unfold rg at hg'
  rw [GV]
  by_cases h1:i<l.length
  ·have hx:(l.map pt)[i]?=some (pt l[i]):=by rw [List.getElem?_map,List.getElem?_eq_getElem h1]; rfl
   rw [if_pos (by rw [List.length_map]; omega),getI_nat,hx,Option.bind_some,List.drop_eq_getElem_cons h1,rt,wi_succ (by omega)]
   unfold Yi Zt
   simp only
   rw [wi64 (x:=at_+size) (by omega) (by omega),R.sect]
   have hN:(pt l[i]).fN=l[i].fSector:=rfl
   have hD:((pt l[i]).fData.size:Int)=(l[i].fData.length:Int):=by show ((b2s l[i].fData).size:Int)=_; rw [b2s_size]
   rw [hN,hD]
   have main:badc S at_ size l[i]=false →
     ((sub (l.map pt) 0 (i:Int)).bind fun s=>(Sg n (l.map pt) (i:Int) s at_ size q (S:Int) r.fMark r.fFuse (pt l[i]) n 0 r.fAll ((l.take i).map rqw)).bind fun o=>match o with
      | .x0 z w=>some (KZ.x0 z at_ size q (S:Int) r.fMark r.fFuse w)
      | .x1 w w'=>(app 24 w' [(⟨(pt l[i]).fN,(pt l[i]).fData⟩:Gj)]).bind fun a=>GV n (l.map pt) t ((i+1:Nat):Int) at_ size q (S:Int) r.fMark r.fFuse w a) =
     some (if (if l[i].fSector∈(l.take i).map (·.fSector) then (5:Int) else rt S at_ size ((l.take i).map (·.fSector)++[l[i].fSector]) (l.drop (i+1)))=0 then .x1 at_ size q (S:Int) r.fMark r.fFuse r.fAll (l.map rqw) else .x0 (if l[i].fSector∈(l.take i).map (·.fSector) then (5:Int) else rt S at_ size ((l.take i).map (·.fSector)++[l[i].fSector]) (l.drop (i+1))) at_ size q (S:Int) r.fMark r.fFuse r.fAll):=by
    intro _
    have hsub:sub (l.map pt) 0 (i:Int)=some ((l.map pt).take i):=by
     unfold sub
     rw [if_pos ⟨by omega,by omega,by rw [List.length_map]; omega⟩]
     simp
    have l6:=r_l6 (n:=n) (l.map pt) (i:Int) ((l.map pt).take i) (by rw [List.length_take,List.length_map]; omega) at_ size q (S:Int) r.fMark r.fFuse (pt l[i]) r.fAll ((l.take i).map rqw) n 0 (by rw [List.length_take,List.length_map]; omega) (by omega)
    rw [List.drop_zero] at l6
    have l6:Sg n (l.map pt) (i:Int) ((l.map pt).take i) at_ size q (S:Int) r.fMark r.fFuse (pt l[i]) n 0 r.fAll ((l.take i).map rqw)=_:=l6
    rw [hsub,Option.bind_some,l6]
    have ha:((l.map pt).take i).any (fun p=>p.fN == (pt l[i]).fN)=decide (l[i].fSector∈(l.take i).map (·.fSector)):=by
     rw [← List.map_take,Bool.eq_iff_iff,List.any_eq_true,decide_eq_true_eq,List.mem_map]
     constructor
     ·rintro ⟨p,hp,e⟩
      obtain ⟨w,hw,rfl⟩:=List.mem_map.1 hp
      exact ⟨w,hw,by show w.fSector=l[i].fSector; exact beq_iff_eq.1 e⟩
     ·rintro ⟨w,hw,e⟩
      refine ⟨pt w,List.mem_map.2 ⟨w,hw,rfl⟩,?_⟩
      show (w.fSector == l[i].fSector)=true
      rw [e]; simp
    rw [ha]
    by_cases h4:l[i].fSector∈(l.take i).map (·.fSector)
    ·rw [decide_eq_true h4]
     simp only [if_pos h4]
     rfl
    ·rw [decide_eq_false h4]
     simp only [if_neg h4]
     have ih:=r_l7 hn R (q:=q) hg l hl t (i+1) (by omega) (by omega)
     rw [List.take_succ_eq_append_getElem h1,List.map_append,List.map_append,R.sect] at ih
     simp only [Bool.false_eq_true,if_false,Option.bind_some]
     rw [app_some (by rw [List.length_map,List.length_take]; simp; omega) (by omega),Option.bind_some]
     exact ih
   by_cases h0:l[i].fSector<0
   ·have hb:badc S at_ size l[i]=true:=by unfold badc; rw [decide_eq_true h0]; rfl
    rw [if_pos h0,if_pos hb]; rfl
   rw [if_neg h0]
   by_cases h2:l[i].fSector≥(S:Int)
   ·have hb:badc S at_ size l[i]=true:=by unfold badc; rw [decide_eq_false h0,decide_eq_true h2]; rfl
    rw [if_pos h2,if_pos hb]; rfl
   rw [if_neg h2]
   have hbc:badc S at_ size l[i]=((decide (l[i].fSector≥at_)&&decide (l[i].fSector<at_+size))||((l[i].fData.length:Int) != 64)):=by unfold badc; rw [decide_eq_false h0,decide_eq_false h2]; rfl
   have sect:=R.sect
   by_cases h3:l[i].fSector≥at_
   ·rw [decide_eq_true h3,Bool.true_and] at hbc
    rw [if_pos h3,Option.bind_some]
    simp only
    by_cases h4:l[i].fSector<at_+size
    ·rw [decide_eq_true h4,Bool.true_or] at hbc
     rw [decide_eq_true h4,if_pos rfl,if_pos hbc]; rfl
    ·rw [decide_eq_false h4,Bool.false_or] at hbc
     rw [decide_eq_false h4]
     simp only [Bool.false_eq_true,if_false,Option.bind_some]
     cases hq:((l[i].fData.length:Int) != 64) with
     | true=>rw [hq] at hbc; rw [if_pos hbc]; simp
     | false =>
      rw [hq] at hbc
      simp only [hbc,Bool.false_eq_true,if_false]
      exact main hbc
   ·rw [decide_eq_false h3,Bool.false_and,Bool.false_or] at hbc
    rw [if_neg h3,Option.bind_some]
    simp only [Bool.false_eq_true,if_false,Option.bind_some]
    cases hq:((l[i].fData.length:Int) != 64) with
    | true=>rw [hq] at hbc; rw [if_pos hbc]; simp
    | false =>
     rw [hq] at hbc
     simp only [hbc,Bool.false_eq_true,if_false]
     exact main hbc
  ·have:i=l.length:=by omega
   rw [if_neg (by rw [List.length_map]; omega),List.drop_eq_nil_of_le (by omega),rt,if_pos rfl,this,List.take_length]
end
end Go.Proofs.Ytgdhhaddfllkaaa.pv.jp
namespace Go.Proofs.Ytgdhhaddfllkaaa.pv.jp
set_option linter.all false
open Go.RowKit help pv ld
def pad (L:List Int):List Int:=L++List.replicate (64-L.length) 0
theorem pad_len {L:List Int} (h:L.length≤64):(pad L).length=64:=by unfold pad; rw [List.length_append,List.length_replicate]; omega
theorem pad_by {L:List Int} (h:By L):By (pad L):=By.app h (By.rep _)
theorem pad_is (n:Nat) {L:List Int} (h:L.length≤64):ZP n (b2s L)=some (b2s (pad L)):=by
 unfold ZP
 have e:wi .i64 (64-((b2s L).size:Int))=((64-L.length:Nat):Int):=by rw [b2s_size,wi64 (by omega) (by omega)]; omega
 rw [e,repeat_b2s n _ (by omega),Option.bind_some,cat_b2s _ _ (by rw [List.length_replicate]; omega),Option.bind_some]
 rfl
theorem pad_set {X:List Int} (h:X.length<64) (y:Int):(pad X).set X.length y=pad (X++[y]):=by
 unfold pad
 rw [List.set_append_right _ _ (Nat.le_refl _),Nat.sub_self]
 have e:64-X.length=(64-(X++[y]).length)+1:=by rw [List.length_append,List.length_singleton]; omega
 rw [e,List.replicate_succ,List.set_cons_zero,List.append_assoc]
 rfl
theorem none_is:mkL 1 (0:Int) 64=some (pad []):=by
 unfold mkL
 rw [if_pos ⟨by omega,by show 64≤maxLen; unfold maxLen; omega,by show 1*64≤_; omega⟩]
 rfl
theorem head0 (x q:Int):cpyR (((pad []).set ((0:Int)).toNat 74).set ((5:Int)).toNat x) 1 ((((pad []).set ((0:Int)).toNat 74).set ((5:Int)).toNat x).length) (wd q)=pad ([74]++wd q++[x]):=rfl
theorem tail0 (q:Int):cpyR ((pad []).set ((0:Int)).toNat 67) 1 (((pad []).set ((0:Int)).toNat 67).length) (wd q)=pad ([67]++wd q):=rfl
theorem tail1 (q x:Int):cpyR (pad ([67]++wd q)) 5 ((pad ([67]++wd q)).length) (wd x)=pad ([67]++wd q++wd x):=rfl
def secs (l:List Gh):List Int:=l.map fun w=>w.fSector % 256
theorem secs_by (l:List Gh):By (secs l):=fun x hx=>by
 unfold secs at hx
 obtain ⟨w,_,rfl⟩:=List.mem_map.1 hx
 omega
def tr (w:Gh):Ga:=⟨w.fSector,w.fData,false⟩
section
variable {n S k:Nat} {d:Gg} {r:Gf}
theorem com_w {at_ size q:Int} (l:List Gh) (hl:l.length≤58) (hb:∀ w∈l,By w.fData∧w.fData.length≤1000) (M:List Int) (e0:Int) (d0:Gg) (X:List Int) (hX:X.length=6) (s z:Int) (todo:List Gj):∀ (t i:Nat) (d:Gg) (r:Gf) (k:Nat),l.length-i<t→i≤l.length→Rel S d r k→k+(l.length-i)≤1500 →
  ∃ d' r',Rel S d' r' (k+(l.length-i)) ∧
   So n l M (e0,⟨(),at_,size,q⟩,d0) t (i:Int) d.ffuse d.fsafe d.fnow d.fwait (pad (X++secs (l.take i))) ((l.take i).map tr)=some (.x0 d'.ffuse d'.fsafe d'.fnow d'.fwait (pad (X++secs l)) (l.map tr)) ∧
   Si n (l.map pt) at_ s z t (b2s (X++secs (l.take i))) (i:Int) r.fSectors r.fMark r.fFuse r.fAll todo=some (.x0 (b2s (X++secs l)) r'.fSectors r'.fMark r'.fFuse r'.fAll todo)
 | 0,i,_,_,_,h,_,_,_=>by omega
 | t+1,i,d,r,k,h,hi,R,hk=>by
  unfold So Si
  by_cases h1:i<l.length
  ·have hx:(l.map pt)[i]?=some (pt l[i]):=by rw [List.getElem?_map,List.getElem?_eq_getElem h1]; rfl
   have hw:=hb _ (List.getElem_mem h1)
   obtain ⟨e,d',r',w1,w2,w3,_⟩:=R.write n (by omega) (wi .i64 (wi .i64 (at_+1)+(i:Int))) l[i].fData hw.1
   have w1:Gv n ⟨d.fsafe,d.fnow,d.fwait,d.ffuse⟩ (wi .i64 (wi .i64 (at_+1)+(i:Int))) l[i].fData=_:=w1
   have w2:Gs n ⟨r.fSectors,r.fMark,r.fFuse,r.fAll⟩ (wi .i64 (wi .i64 (at_+1)+(i:Int))) (pt l[i]).fData=_:=w2
   obtain ⟨d2,r2,x1,x2,x3⟩:=com_w l hl hb M e0 d0 X hX s z todo t (i+1) d' r' (k+1) (by omega) (by omega) w3 (by omega)
   have ek:k+(l.length-i)=k+1+(l.length-(i+1)):=by omega
   have hsl:(X++secs (l.take i)).length=6+i:=by
    unfold secs
    rw [List.length_append,List.length_map,List.length_take,hX]; omega
   have e6:wi .i64 (6+(i:Int))=((6+i:Nat):Int):=by rw [wi64 (by omega) (by omega)]; omega
   have es:secs (l.take (i+1))=secs (l.take i)++[wi .u8 l[i].fSector]:=by
    unfold secs
    rw [List.take_succ_eq_append_getElem h1,List.map_append,w8]; rfl
   have hpl:=pad_len (L:=X++secs (l.take i)) (by omega)
   rw [ek]
   refine ⟨d2,r2,x1,?_,?_⟩
   ·have hg:(pad (X++secs (l.take i)))[6+i]?=some ((pad (X++secs (l.take i)))[6+i]'(by omega)):=List.getElem?_eq_getElem (by omega)
    have hset:(pad (X++secs (l.take i))).set (6+i) (wi .u8 l[i].fSector)=pad (X++secs (l.take (i+1))):=by
     rw [es,← List.append_assoc,← pad_set (by omega),hsl]
    rw [if_pos (by omega),getI_nat,List.getElem?_eq_getElem h1,Option.bind_some,e6,if_pos (by rw [Int.toNat_natCast,hpl]; omega),Int.toNat_natCast,hg,Option.bind_some,w1,Option.bind_some]
    unfold GC
    rw [app_some (by simp; omega) (by omega),Option.bind_some,List.nil_append,app_some (by rw [List.length_map,List.length_take]; simp; omega) (by omega),Option.bind_some,hset,wi_succ (by omega)]
    have et:(l.take i).map tr++[(⟨l[i].fSector,l[i].fData,false⟩:Ga)]=(l.take (i+1)).map tr:=by
     rw [List.take_succ_eq_append_getElem h1,List.map_append]; rfl
    rw [et]
    exact x2
   ·rw [if_pos (by rw [List.length_map]; omega),getI_nat,hx,Option.bind_some]
    have ec:catS (b2s (X++secs (l.take i))) (b2s [wi .u8 (pt l[i]).fN])=some (b2s (X++secs (l.take (i+1)))):=by
     rw [cat_b2s _ _ (by rw [hsl]; simp; omega),es,List.append_assoc]; rfl
    rw [ec,Option.bind_some,w2,Option.bind_some,wi_succ (by omega)]
    exact x3
  ·have:i=l.length:=by omega
   subst this
   refine ⟨d,r,by rw [Nat.sub_self,Nat.add_zero]; exact R,?_,?_⟩
   ·rw [if_neg (by omega),List.take_length]
   ·rw [if_neg (by rw [List.length_map]; omega),List.take_length]
-- lengths of what stands in a ring
theorem nodup_len {α:Type} [DecidableEq α]:∀ (l m:List α),l.Nodup→(∀ x∈l,x∈m)→l.length≤m.length
 | [],m,_,_=>by simp
 | a::l,m,h,hs=>by
  obtain ⟨h1,h2⟩:=List.nodup_cons.1 h
  have ha:=hs a (by simp)
  have:=nodup_len l (m.erase a) h2 (fun x hx=>(List.mem_erase_of_ne (fun e=>h1 (by rw [← e]; exact hx))).2 (hs x (by simp [hx])))
  rw [List.length_erase_of_mem ha] at this
  have hp:0<m.length:=List.length_pos_of_mem ha
  rw [List.length_cons]; omega
theorem ring_len3 (hd:Int) (seg:List Ga):(li.ring hd (li.ent seg)).length≤seg.length:=by
 have nd:((li.ring hd (li.ent seg)).map fun x=>(x.fSector,x.fData)).Nodup:=by
  unfold List.Nodup
  rw [List.pairwise_map]
  refine List.Pairwise.imp ?_ (li.ring_rising hd (li.ent seg))
  intro a b h e
  have:a.fSector=b.fSector:=(Prod.mk.inj e).1
  unfold li.lt at h
  rw [this] at h
  simp at h
 have h1:=nodup_len _ (li.ent seg) nd (fun x hx=>by
  obtain ⟨y,hy,rfl⟩:=List.mem_map.1 hx
  obtain ⟨k,_,h1,h2,_⟩:=li.ring_mem.1 hy
  rw [← h2] at h1
  exact li.mget_mem h1)
 have h2:=li.ent_len_le seg []
 unfold li.ent at h1 h2 ⊢
 simp only [List.length_map,List.length_nil] at h1 h2
 omega
def Rt (S:Nat) (l:List Gh):Prop:=∀ w∈l,(0≤w.fSector∧w.fSector<(S:Int))∧w.fData.length=64∧By w.fData
theorem run_l3 (R:Rel S d r k) (l:List Gh) (hl:l.length≤1000) (hr:Rt S l):∀ (t i:Nat),l.length-i<t→i≤l.length →
  Zp n (l.map tr) t (i:Int) d.ffuse d.fsafe d.fnow d.fwait=some (.x1 d.ffuse d.fsafe d.fnow d.fwait)
 | 0,i,h,_=>by omega
 | t+1,i,h,hi=>by
  rw [Zp]
  by_cases h1:i<l.length
  ·have hx:(l.map tr)[i]?=some (tr l[i]):=by rw [List.getElem?_map,List.getElem?_eq_getElem h1]; rfl
   have hw:=hr _ (List.getElem_mem h1)
   have hz:G7 n ⟨d.fsafe,d.fnow,d.fwait,d.ffuse⟩=_:=R.size n
   rw [if_pos (by rw [List.length_map]; omega),getI_nat,hx,Option.bind_some,wi_succ (by omega)]
   unfold V0
   have hb:(tr l[i]).fBarrier=false:=rfl
   have hs:(tr l[i]).fSector=l[i].fSector:=rfl
   rw [hb,hs,if_neg (by simp),if_neg (by omega),hz,Option.bind_some,Option.bind_some]
   simp only
   rw [decide_eq_false (by omega)]
   simp only [Bool.false_eq_true,if_false]
   exact run_l3 R l hl hr t (i+1) (by omega) (by omega)
  ·rw [if_neg (by rw [List.length_map]; omega)]
theorem run_l4 (o:List Ga) (e0:Int) (ho:o.length≤1000) (hx:∀ x∈o,x.fBarrier=false∧(0≤x.fSector∧x.fSector<(S:Int))∧x.fData.length=64∧By x.fData) (z1 z2 z3:Int):∀ (t i:Nat) (d:Gg) (r:Gf) (k:Nat),o.length-i<t→i≤o.length→Rel S d r k→k+(o.length-i)≤1500 →
  ∃ d' r',Rel S d' r' (k+(o.length-i))∧Zq n (o,e0) t (i:Int) d.ffuse d.fsafe d.fnow d.fwait=some (.x1 d'.ffuse d'.fsafe d'.fnow d'.fwait) ∧
   Sj n (o.map li.rq) z1 z2 z3 t (i:Int) r.fSectors r.fMark r.fFuse r.fAll=some (.x0 r'.fSectors r'.fMark r'.fFuse r'.fAll)
 | 0,i,_,_,_,h,_,_,_=>by omega
 | t+1,i,d,r,k,h,hi,R,hk=>by
  unfold Zq Sj
  simp only
  by_cases h1:i<o.length
  ·have hm:(o.map li.rq)[i]?=some (li.rq o[i]):=by rw [List.getElem?_map,List.getElem?_eq_getElem h1]; rfl
   obtain ⟨hb,hs,hl,hy⟩:=hx _ (List.getElem_mem h1)
   have er:li.rq o[i]=⟨o[i].fSector,b2s o[i].fData⟩:=by unfold li.rq; rw [if_neg (by rw [hb]; simp)]
   obtain ⟨e,d',r',w1,w2,w3,w4⟩:=R.write n (by omega) o[i].fSector o[i].fData hy
   have w4:=w4 (by omega) (by omega) hl
   subst w4
   have w1:Gv n ⟨d.fsafe,d.fnow,d.fwait,d.ffuse⟩ o[i].fSector o[i].fData=_:=w1
   have w2:Gs n ⟨r.fSectors,r.fMark,r.fFuse,r.fAll⟩ (li.rq o[i]).fN (li.rq o[i]).fData=some (0,r'):=by rw [er]; exact w2
   obtain ⟨d2,r2,x1,x2,x3⟩:=run_l4 o e0 ho hx z1 z2 z3 t (i+1) d' r' (k+1) (by omega) (by omega) w3 (by omega)
   have ek:k+(o.length-i)=k+1+(o.length-(i+1)):=by omega
   rw [ek]
   refine ⟨d2,r2,x1,?_,?_⟩
   ·rw [if_pos (by omega),getI_nat,List.getElem?_eq_getElem h1,Option.bind_some,hb,if_neg (by simp),w1,Option.bind_some,if_pos rfl,wi_succ (by omega)]
    exact x2
   ·rw [if_pos (by rw [List.length_map]; omega),getI_nat,hm,Option.bind_some,w2,Option.bind_some,wi_succ (by omega)]
    exact x3
  ·have:i=o.length:=by omega
   subst this
   refine ⟨d,r,by rw [Nat.sub_self,Nat.add_zero]; exact R,?_,?_⟩
   ·rw [if_neg (by omega)]
   ·rw [if_neg (by rw [List.length_map]; omega)]
theorem run_ok (hn:5000<n) (R:Rel S d r k) (l:List Gh) (hl:l.length≤58) (hr:Rt S l) (hk:k+l.length≤1500) (z1 z2 z3:Int):∃ d' r' L,Rel S d' r' (k+l.length)∧U5 n d (l.map tr)=some (0,d')∧YL n (l.map rqw) 0=some L ∧
  Sj n L z1 z2 z3 n 0 r.fSectors r.fMark r.fFuse r.fAll=some (.x0 r'.fSectors r'.fMark r'.fFuse r'.fAll):=by
 have hS:=R.le
 have hg:∀ x∈l.map tr,li.bad x=false:=fun x hx=>by
  obtain ⟨w,hw,rfl⟩:=List.mem_map.1 hx
  have h:=hr w hw
  have hb:(tr w).fBarrier=false:=rfl
  have hs:(tr w).fSector=w.fSector:=rfl
  have hd:(tr w).fData=w.fData:=rfl
  unfold li.bad
  rw [hb,hs,hd,h.2.1,decide_eq_false (by omega),decide_eq_false (by omega)]
  rfl
 have hnb:∀ x∈l.map tr,x.fBarrier=false:=fun x hx=>by
  obtain ⟨w,hw,rfl⟩:=List.mem_map.1 hx
  rfl
 have hgo:li.go [] 0 (l.map tr)=li.ring 0 (li.ent (l.map tr)):=by
  have:=li.go_seg (l.map tr) [] 0 [] hnb
  rw [List.append_nil,List.nil_append] at this
  rw [this]; rfl
 have hrl:=ring_len3 0 (l.map tr)
 rw [List.length_map] at hrl
 have hx:∀ x∈li.ring 0 (li.ent (l.map tr)),x.fBarrier=false∧(0≤x.fSector∧x.fSector<(S:Int))∧x.fData.length=64∧By x.fData:=fun x hx=>by
  obtain ⟨j,_,h1,h2,h3⟩:=li.ring_mem.1 hx
  rw [← h2] at h1
  obtain ⟨y,hy,e1,e2⟩:=li.ent_src h1
  obtain ⟨w,hw,rfl⟩:=List.mem_map.1 hy
  have h:=hr w hw
  have e1:w.fSector=x.fSector:=e1
  have e2:w.fData=x.fData:=e2
  rw [← e1,← e2]
  exact ⟨h3,h.1,h.2.1,h.2.2⟩
 have hll:(l.map tr).length≤1000:=by rw [List.length_map]; omega
 have herr:li.err (l.map tr)=0:=by
  unfold li.err
  rw [if_neg (by rw [List.length_map]; omega)]
  have:(l.map tr).any li.bad=false:=by
   rw [List.any_eq_false]
   intro x hx
   rw [hg x hx]; simp
  rw [this]; rfl
 have hsaid:li.said (l.map tr) 0=0:=by rw [li.said_mid (by omega) (by omega)]; exact herr
 have hord:=li.order_ok n hn (l.map tr) hll 0
 rw [if_pos hsaid,hgo] at hord
 have hlift:=li.lift_ok n hn (l.map tr) (by rw [List.length_map]; omega) hg 0 (by omega)
 rw [hgo] at hlift
 have hrq:(l.map tr).map li.rq=l.map rqw:=by
  rw [List.map_map]
  refine List.map_congr_left (fun w _=>?_)
  show li.rq (tr w)=rqw w
  unfold li.rq
  rw [if_neg (by show ¬ false=true; simp)]
  rfl
 rw [hrq] at hlift
 have a3:=run_l3 (n:=n) R l (by omega) hr n 0 (by omega) (by omega)
 have a3:Zp n (l.map tr) n 0 d.ffuse d.fsafe d.fnow d.fwait=_:=a3
 obtain ⟨d',r',b1,b2,b3⟩:=run_l4 (n:=n) (li.ring 0 (li.ent (l.map tr))) 0 (by omega) hx z1 z2 z3 n 0 d r k (by omega) (by omega) R (by omega)
 have b2:Zq n (li.ring 0 (li.ent (l.map tr)),0) n 0 d.ffuse d.fsafe d.fnow d.fwait=_:=b2
 refine ⟨d',r',_,b1.mono (by omega) (by omega),?_,hlift,b3⟩
 unfold U5
 rw [a3,Option.bind_some]
 simp only
 rw [hord,Option.bind_some]
 simp only [if_true]
 rw [b2,Option.bind_some]
end
end Go.Proofs.Ytgdhhaddfllkaaa.pv.jp
namespace Go.Proofs.Ytgdhhaddfllkaaa.pv.jp
set_option linter.all false
open Go.RowKit help pv ld
section
variable {n S k:Nat} {d:Gg} {r:Gf}
theorem rt_zero {S:Nat} {at_ size:Int}:∀ {l:List Gh} {seen:List Int},rt S at_ size seen l=0→∀ w∈l,badc S at_ size w=false
 | [],_,_,w,hw=>by cases hw
 | x::l,seen,h,w,hw=>by
  rw [rt] at h
  by_cases h1:badc S at_ size x=true
  ·rw [if_pos h1] at h; cases h
  ·rw [if_neg h1] at h
   by_cases h2:x.fSector∈seen
   ·rw [if_pos h2] at h; cases h
   ·rw [if_neg h2] at h
    rcases List.mem_cons.1 hw with rfl | hw
    ·exact Bool.eq_false_iff.2 h1
    ·exact rt_zero h w hw
theorem good_c {S:Nat} {at_ size:Int} {w:Gh} (h:badc S at_ size w=false):(0≤w.fSector∧w.fSector<(S:Int))∧w.fData.length=64:=by
 unfold badc at h
 simp only [Bool.or_eq_false_iff,decide_eq_false_iff_not] at h
 obtain ⟨h1,h2,_,h3⟩:=h
 have:(w.fData.length:Int)=64:=by simpa using h3
 omega
theorem y1 (q:Int):([67]++wd q).length≤64:=by simp [wd]
theorem y2 (q x:Int):([67]++wd q++wd x).length≤64:=by simp [wd]
theorem y3 (q x:Int):([67]++wd q).length+(wd x).length≤1000000:=by simp [wd]
theorem y4 (c q:Int):[c].length+(wd q).length≤1000000:=by simp [wd]
theorem y5 (c q x:Int):([c]++wd q).length+[x].length≤1000000:=by simp [wd]
theorem y6 (q x:Int) (l:List Gh) (h:l.length≤12):([74]++wd q++[x]++secs l).length≤64:=by simp [wd,secs]; omega
set_option simprocs false in
theorem com_p (hn:5000<n) (R:Rel S d r k) {at_ size q:Int} (hg:rg S at_ size) (l:List Gh) (hl:l.length≤12) (h1:¬ (l.length:Int) > size-2) (hrt:rt S at_ size [] l=0) (hne:¬ (l.length:Int)=0) (hW:Wk l) {X q1:Int} (hX:SM 2166136261 l=X) (hq1:wi .u32 (q+1)=q1)
  {d1 d2 d3 d4 d5 d6 d7 d8 d9 d10:Gg} {e2 e5 e7 e8:Int}
  (f1:G3 n d=some d1) (w2:Gv n d1 at_ (pad [])=some (e2,d2)) (f3:G3 n d2=some d3)
  (l4:So n l (pad []) (0,⟨(),at_,size,q⟩,d) n 0 d3.ffuse d3.fsafe d3.fnow d3.fwait (pad ([74]++wd q1++[wi .u8 (l.length:Int)])) []=some (.x0 d4.ffuse d4.fsafe d4.fnow d4.fwait (pad ([74]++wd q1++[wi .u8 (l.length:Int)]++secs l)) (l.map tr)))
  (w5:Gv n d4 (wi .i64 (wi .i64 (at_+1)+(l.length:Int))) (pad [])=some (e5,d5)) (f6:G3 n d5=some d6)
  (w7:Gv n d6 at_ (pad ([74]++wd q1++[wi .u8 (l.length:Int)]++secs l))=some (e7,d7)) (w8:Gv n d7 (wi .i64 (wi .i64 (at_+1)+(l.length:Int))) (pad ([67]++wd q1++wd X))=some (e8,d8)) (f9:G3 n d8=some d9)
  (r10:U5 n d9 (l.map tr)=some (0,d10)):Sr n ⟨(),at_,size,q⟩ d l=some (0,⟨(),at_,size,q1⟩,d10):=by
 have c1:0≤(0:Int)∧((0:Int)).toNat<(pad []).length:=by decide
 have g1:(pad [])[((0:Int)).toNat]?=some 0:=rfl
 have c2:0≤(5:Int)∧((5:Int)).toNat<((pad []).set ((0:Int)).toNat 74).length:=by decide
 have g2:((pad []).set ((0:Int)).toNat 74)[((5:Int)).toNat]?=some 0:=rfl
 have c3:(0:Int)≤1∧1≤((((pad []).set ((0:Int)).toNat 74).set ((5:Int)).toNat (wi .u8 (l.length:Int))).length:Int):=by
  rw [List.length_set,List.length_set]; decide
 have c5:(0:Int)≤1∧1≤(((pad []).set ((0:Int)).toNat 67).length:Int):=by decide
 have c6:(0:Int)≤5∧5≤((pad ([67]++wd q1)).length:Int):=by
  rw [pad_len (y1 q1)]; decide
 have w5:Gv n ⟨d4.fsafe,d4.fnow,d4.fwait,d4.ffuse⟩ (wi .i64 (wi .i64 (at_+1)+(l.length:Int))) (pad [])=some (e5,d5):=w5
 unfold Sr
 rw [right_p (by omega) R hg l (by omega),Option.bind_some]
 simp only [if_neg h1,hrt,if_true]
 rw [f1,Option.bind_some,if_neg hne,none_is,Option.bind_some,w2,Option.bind_some]
 simp only
 rw [f3,Option.bind_some]
 simp only [Option.bind_some]
 rw [if_pos c1,g1,Option.bind_some,if_pos c2,g2,Option.bind_some,if_pos c3,word_is,Option.bind_some,if_pos (Nat.le_refl _),hq1,head0,l4,Option.bind_some]
 simp only
 rw [w5,Option.bind_some]
 simp only
 rw [f6,Option.bind_some]
 simp only [Option.bind_some]
 rw [if_pos c1,if_pos c5,if_pos (Nat.le_refl _),tail0,if_pos c6,Sum_is n (by omega) hW,hX,Option.bind_some,word_is,Option.bind_some,if_pos (Nat.le_refl _),w7,Option.bind_some]
 simp only
 rw [tail1,w8,Option.bind_some]
 simp only
 rw [f9,Option.bind_some,r10,Option.bind_some]
set_option simprocs false in
theorem com_r (hn:5000<n) (R:Rel S d r k) {at_ size q:Int} (hg:rg S at_ size) (l:List Gh) (hl:l.length≤12) (h1:¬ (l.length:Int) > size-2) (hrt:rt S at_ size [] l=0) (hne:¬ (l.length:Int)=0) (hW:Wk l) {X q1:Int} (hX:SM 2166136261 l=X) (hXr:0≤X∧X<4294967296) (hq1:wi .u32 (q+1)=q1) (hq1r:0≤q1∧q1<4294967296)
  {r1 r2 r3 r4 r5 r6 r7 r8 r9 r10:Gf} {e2 e5 e7 e8:Int} {L:List Gj}
  (f1:GE n r=some r1) (w2:Gs n r1 at_ (b2s (pad []))=some (e2,r2)) (f3:GE n r2=some r3)
  (l4:Si n (l.map pt) at_ size q n (b2s ([74]++wd q1++[wi .u8 (l.length:Int)])) 0 r3.fSectors r3.fMark r3.fFuse r3.fAll (l.map rqw)=some (.x0 (b2s ([74]++wd q1++[wi .u8 (l.length:Int)]++secs l)) r4.fSectors r4.fMark r4.fFuse r4.fAll (l.map rqw)))
  (w5:Gs n r4 (wi .i64 (wi .i64 (at_+1)+(l.length:Int))) (b2s (pad []))=some (e5,r5)) (f6:GE n r5=some r6)
  (w7:Gs n r6 at_ (b2s (pad ([74]++wd q1++[wi .u8 (l.length:Int)]++secs l)))=some (e7,r7)) (w8:Gs n r7 (wi .i64 (wi .i64 (at_+1)+(l.length:Int))) (b2s (pad ([67]++wd q1++wd X)))=some (e8,r8)) (f9:GE n r8=some r9)
  (lf:YL n (l.map rqw) 0=some L) (l10:Sj n L at_ size q n 0 r9.fSectors r9.fMark r9.fFuse r9.fAll=some (.x0 r10.fSectors r10.fMark r10.fFuse r10.fAll)):Sl n ⟨(),at_,size,q⟩ r (l.map pt)=some (0,⟨(),at_,size,q1⟩,r10):=by
 have hg':=hg
 unfold rg at hg'
 have a7:=r_l7 (n:=n) (by omega) R (q:=q) hg l (by omega) n 0 (by omega) (by omega)
 have a7:GV n (l.map pt) n 0 at_ size q r.fSectors r.fMark r.fFuse r.fAll []=some (if rt S at_ size [] l=0 then .x1 at_ size q r.fSectors r.fMark r.fFuse r.fAll (l.map rqw) else .x0 (rt S at_ size [] l) at_ size q r.fSectors r.fMark r.fFuse r.fAll):=a7
 rw [if_pos hrt] at a7
 have f1:GE n ⟨r.fSectors,r.fMark,r.fFuse,r.fAll⟩=some r1:=f1
 have w5:Gs n ⟨r4.fSectors,r4.fMark,r4.fFuse,r4.fAll⟩ (wi .i64 (wi .i64 (at_+1)+(l.length:Int))) (b2s (pad []))=some (e5,r5):=w5
 have pe:ZP n (ByteArray.mk #[])=some (b2s (pad [])):=pad_is n (L:=[]) (by decide)
 have k74:(ByteArray.mk #[74])=b2s [74]:=rfl
 have k67:(ByteArray.mk #[67])=b2s [67]:=rfl
 have hsl:=y6 q1 (wi .u8 (l.length:Int)) l hl
 unfold Sl
 simp only [List.length_map]
 rw [wi64 (x:=size-2) (by omega) (by omega),if_neg h1,a7,Option.bind_some]
 simp only
 rw [f1,Option.bind_some,if_neg hne,pe,Option.bind_some,w2,Option.bind_some]
 simp only
 rw [f3,Option.bind_some,hq1,four_is n (by omega) hq1r,Option.bind_some,k74,cat_b2s _ _ (y4 _ _),Option.bind_some,cat_b2s _ _ (y5 _ _ _),Option.bind_some,l4,Option.bind_some]
 simp only [Option.bind_some]
 rw [w5,Option.bind_some]
 simp only
 rw [f6,Option.bind_some,pad_is n hsl,Option.bind_some,w7,Option.bind_some]
 simp only [Option.bind_some]
 rw [k67,cat_b2s _ _ (y4 _ _),Option.bind_some,rSum_is n (by omega) hW,hX,Option.bind_some,four_is n (by omega) hXr,Option.bind_some,cat_b2s _ _ (y3 _ _),Option.bind_some,pad_is n (y2 _ _),Option.bind_some,w8,Option.bind_some]
 simp only
 rw [f9,Option.bind_some,lf,Option.bind_some,l10,Option.bind_some]
theorem commit_ok (hn:5000<n) (R:Rel S d r k) (hk:k+60≤1500) {at_ size q:Int} (hg:rg S at_ size) (hq:0≤q∧q<4294967296) (l:List Gh) (hl:l.length≤12) (hb:∀ w∈l,By w.fData∧w.fData.length≤100) :
  ∃ e d' r' q',Rel S d' r' (k+60)∧(0≤q'∧q'<4294967296)∧Sr n ⟨(),at_,size,q⟩ d l=some (e,⟨(),at_,size,q'⟩,d')∧Sl n ⟨(),at_,size,q⟩ r (l.map pt)=some (e,⟨(),at_,size,q'⟩,r'):=by
 have hg':=hg
 unfold rg at hg'
 by_cases h1:(l.length:Int) > size-2
 ·refine ⟨2,d,r,q,R.mono (by omega) (by omega),hq,?_,?_⟩
  ·unfold Sr
   rw [right_p (by omega) R hg l (by omega),if_pos h1]; rfl
  ·unfold Sl
   rw [List.length_map,wi64 (x:=size-2) (by omega) (by omega),if_pos h1]
 have a7:=r_l7 (n:=n) (by omega) R (q:=q) hg l (by omega) n 0 (by omega) (by omega)
 have a7:GV n (l.map pt) n 0 at_ size q r.fSectors r.fMark r.fFuse r.fAll []=some (if rt S at_ size [] l=0 then .x1 at_ size q r.fSectors r.fMark r.fFuse r.fAll (l.map rqw) else .x0 (rt S at_ size [] l) at_ size q r.fSectors r.fMark r.fFuse r.fAll):=a7
 by_cases hrt:rt S at_ size [] l=0
 ·obtain ⟨d1,r1,f1,f1',R1⟩:=R.flush n (by omega)
  by_cases hne:(l.length:Int)=0
  ·refine ⟨0,d1,r1,q,R1.mono (by omega) (by omega),hq,?_,?_⟩
   ·unfold Sr
    rw [right_p (by omega) R hg l (by omega),if_neg h1,hrt,Option.bind_some]
    simp only [if_true]
    rw [f1,Option.bind_some,if_pos hne]
   ·have f1':GE n ⟨r.fSectors,r.fMark,r.fFuse,r.fAll⟩=some r1:=f1'
    unfold Sl
    rw [if_pos hrt] at a7
    rw [List.length_map,wi64 (x:=size-2) (by omega) (by omega),if_neg h1,a7,Option.bind_some]
    simp only
    rw [f1',Option.bind_some,if_pos hne]
  ·have hW:Wk l:=⟨by omega,fun w hw=>⟨(hb w hw).1,by have:=(hb w hw).2; omega⟩⟩
   have hRt:Rt S l:=fun w hw=>⟨(good_c (rt_zero hrt w hw)).1,(good_c (rt_zero hrt w hw)).2,(hb w hw).1⟩
   have hq1r:0≤wi .u32 (q+1)∧wi .u32 (q+1)<4294967296:=by rw [w32]; omega
   have hXr:=SM_rng l 2166136261 (by omega)
   generalize hX:SM 2166136261 l=X at hXr
   generalize hq1:wi .u32 (q+1)=q1 at hq1r
   have b0:By (pad []):=pad_by (fun x hx=>by cases hx)
   have bH:By ([74]++wd q1++[wi .u8 (l.length:Int)]):=By.app (By.app (By.one (by omega)) (wd_by _)) (By.one (by rw [w8]; omega))
   have bT:By ([67]++wd q1++wd X):=By.app (By.app (By.one (by omega)) (wd_by _)) (wd_by _)
   obtain ⟨e2,d2,r2,w2,w2',R2,_⟩:=R1.write n (by omega) at_ (pad []) b0
   obtain ⟨d3,r3,f3,f3',R3⟩:=R2.flush n (by omega)
   obtain ⟨d4,r4,R4,l4,l4'⟩:=com_w (n:=n) (at_:=at_) (size:=size) (q:=q) l (by omega) (fun w hw=>⟨(hb w hw).1,by have:=(hb w hw).2; omega⟩) (pad []) 0 d ([74]++wd q1++[wi .u8 (l.length:Int)]) (by simp [wd]) size q (l.map rqw) n 0 d3 r3 _ (by omega) (by omega) R3 (by omega)
   have x0:[74]++wd q1++[wi .u8 (l.length:Int)]++secs (l.take 0)=[74]++wd q1++[wi .u8 (l.length:Int)]:=by simp [secs]
   rw [x0] at l4 l4'
   have l4:So n l (pad []) (0,⟨(),at_,size,q⟩,d) n 0 d3.ffuse d3.fsafe d3.fnow d3.fwait (pad ([74]++wd q1++[wi .u8 (l.length:Int)])) []=_:=l4
   have l4':Si n (l.map pt) at_ size q n (b2s ([74]++wd q1++[wi .u8 (l.length:Int)])) 0 r3.fSectors r3.fMark r3.fFuse r3.fAll (l.map rqw)=_:=l4'
   obtain ⟨e5,d5,r5,w5,w5',R5,_⟩:=R4.write n (by omega) (wi .i64 (wi .i64 (at_+1)+(l.length:Int))) (pad []) b0
   obtain ⟨d6,r6,f6,f6',R6⟩:=R5.flush n (by omega)
   obtain ⟨e7,d7,r7,w7,w7',R7,_⟩:=R6.write n (by omega) at_ (pad ([74]++wd q1++[wi .u8 (l.length:Int)]++secs l)) (pad_by (By.app bH (secs_by l)))
   obtain ⟨e8,d8,r8,w8,w8',R8,_⟩:=R7.write n (by omega) (wi .i64 (wi .i64 (at_+1)+(l.length:Int))) (pad ([67]++wd q1++wd X)) (pad_by bT)
   obtain ⟨d9,r9,f9,f9',R9⟩:=R8.flush n (by omega)
   obtain ⟨d10,r10,L,R10,u1,u2,u3⟩:=run_ok hn R9 l (by omega) hRt (by omega) at_ size q
   refine ⟨0,d10,r10,q1,R10.mono (by omega) (by omega),hq1r,?_,?_⟩
   ·exact com_p hn R hg l hl h1 hrt hne hW hX hq1 f1 w2 f3 l4 w5 f6 w7 w8 f9 u1
   ·exact com_r hn R hg l hl h1 hrt hne hW hX hXr hq1 hq1r f1' w2' f3' l4' w5' f6' w7' w8' f9' u2 u3
 ·rw [if_neg hrt] at a7
  refine ⟨rt S at_ size [] l,d,r,q,R.mono (by omega) (by omega),hq,?_,?_⟩
  ·unfold Sr
   rw [right_p (by omega) R hg l (by omega),if_neg h1,Option.bind_some]
   simp only
   rw [if_neg hrt]
  ·unfold Sl
   rw [List.length_map,wi64 (x:=size-2) (by omega) (by omega),if_neg h1,a7,Option.bind_some]
end
end Go.Proofs.Ytgdhhaddfllkaaa.pv.jp
namespace Go.Proofs.Ytgdhhaddfllkaaa.pv.jp
set_option linter.all false
open Go.RowKit help pv ld
theorem puts_loop (n:Nat) (l:List Gh) (hl:l.length≤1000):∀ (t i:Nat),l.length-i<t→i≤l.length→K5 n l t (i:Int) ((l.take i).map pt)=some (.x0 (l.map pt))
 | 0,i,h,_=>by omega
 | t+1,i,h,hi=>by
  rw [K5]
  by_cases h1:i<l.length
  ·have ih:=puts_loop n l hl t (i+1) (by omega) (by omega)
   rw [List.take_succ_eq_append_getElem h1,List.map_append] at ih
   rw [if_pos (by omega),getI_nat,List.getElem?_eq_getElem h1,Option.bind_some,app_some (by rw [List.length_map,List.length_take]; simp; omega) (by omega),Option.bind_some,wi_succ (by omega)]
   exact ih
  ·have:i=l.length:=by omega
   rw [if_neg (by omega),this,List.take_length]
theorem puts_is (n:Nat) (hn:2000<n) {l:List Gh} (hl:l.length≤1000):YI n l=some (l.map pt):=by
 unfold YI
 have h:=puts_loop n l hl n 0 (by omega) (by omega)
 have h:K5 n l n 0 []=_:=h
 rw [h]; rfl
theorem Gch (x:Gd):eqRes .neq (ZB x x)=false:=by
 have:ZB x x=true:=by
  unfold ZB
  rw [(Go.MapKept.bytes_beq x.fData x.fData).2 rfl]; simp
 rw [this]; rfl
theorem equal_loop (n:Nat) (l:List Gd) (hl:l.length≤900000):∀ (k i:Nat),l.length-i<k→i≤l.length→GB n l l k (i:Int)=some .x1
 | 0,i,h,_=>by omega
 | k+1,i,h,hi=>by
  unfold GB
  by_cases h1:i<l.length
  ·rw [if_pos (by omega),getI_nat,List.getElem?_eq_getElem h1,Option.bind_some,Option.bind_some,Gch,if_neg (by simp),wi_succ (by omega)]
   exact equal_loop n l hl k (i+1) (by omega) (by omega)
  ·rw [if_neg (by omega)]
theorem equal_is (n:Nat) (l:List Gd) (hl:l.length≤900000) (hn:l.length<n):G5 n l l=some true:=by
 have r:=equal_loop n l hl n 0 (by omega) (by omega)
 have r:GB n l l n 0=_:=r
 unfold G5
 rw [if_pos rfl,r]; rfl
theorem beq_neq (b:Bool):eqRes .neq (b == b)=false:=by cases b <;> rfl
section
variable {n S k:Nat} {d:Gg} {r:Gf}
theorem see12 (hn:5000<n) (R:Rel S d r k) {at_ size q q2:Int} (l:List Gk) (x:Int) (ws:List Gh) (ok:Bool) (h1:ws.length≤58) (h2:∀ w∈ws,By w.fData∧w.fData.length=64∧0≤w.fSector∧w.fSector<256) :
  K6 n at_ size (ws,q2,ok,0,d) (ws.map pt,q2,ok,r) l x at_ size q at_ size q=some (.x1 false d.ffuse d.fsafe d.fnow d.fwait r.fAll at_ size q):=by
 have hW:Wk ws:=⟨by omega,fun w hw=>⟨(h2 w hw).1,by rw [(h2 w hw).2.1]; omega⟩⟩
 unfold K6 Yd KL
 simp only [if_true]
 rw [puts_is n (by omega) (by omega),Option.bind_some,equal_is n _ (by rw [List.length_map]; omega) (by rw [List.length_map]; omega),Option.bind_some,if_pos rfl,beq_neq,if_neg (by simp),Sum_is n (by omega) hW,Option.bind_some,rSum_is n (by omega) hW,Option.bind_some,if_pos rfl,Option.bind_some]
 simp
theorem see14 (hn:5000<n) (R:Rel S d r k) {at_ size q q2:Int} (l:List Gk) (x:Int) (ws:List Gh) (ok:Bool) (h1:ws.length≤58) (h2:∀ w∈ws,By w.fData∧w.fData.length=64∧0≤w.fSector∧w.fSector<256) :
  K7 n at_ size (ws,q2,ok,0,d) (ws.map pt,q2,ok,r) l x at_ size q at_ size q=some (.x1 false d.ffuse d.fsafe d.fnow d.fwait r.fAll at_ size q):=by
 have hW:Wk ws:=⟨by omega,fun w hw=>⟨(h2 w hw).1,by rw [(h2 w hw).2.1]; omega⟩⟩
 unfold K7 Yd KL
 simp only [if_true]
 rw [puts_is n (by omega) (by omega),Option.bind_some,equal_is n _ (by rw [List.length_map]; omega) (by rw [List.length_map]; omega),Option.bind_some,if_pos rfl,beq_neq,if_neg (by simp),Sum_is n (by omega) hW,Option.bind_some,rSum_is n (by omega) hW,Option.bind_some,if_pos rfl,Option.bind_some]
 simp
def Sk (s:Gk):Prop:=s.fWrites.length≤12∧(∀ w∈s.fWrites,By w.fData∧w.fData.length≤100)∧By s.fRaw∧s.fN≤9223372036854775807
theorem act (hn:5000<n) (R:Rel S d r k) (hk:k+100≤1500) {at_ size q:Int} (hg:rg S at_ size) (hq:0≤q∧q<4294967296) (l:List Gk) (x:Int) {y:Gk} (hy:Sk y) :
    ∃ e d' r' q',Rel S d' r' (k+61)∧(0≤q'∧q'<4294967296) ∧
      (S5 n at_ size l x y d.ffuse d.fsafe d.fnow d.fwait r.fSectors r.fMark r.fFuse r.fAll at_ size q at_ size q=some (.x0 e e d'.ffuse d'.fsafe d'.fnow d'.fwait r'.fSectors r'.fMark r'.fFuse r'.fAll at_ size q' at_ size q') ∨
       S5 n at_ size l x y d.ffuse d.fsafe d.fnow d.fwait r.fSectors r.fMark r.fFuse r.fAll at_ size q at_ size q=some (.x1 e e d'.ffuse d'.fsafe d'.fnow d'.fwait r'.fSectors r'.fMark r'.fFuse r'.fAll) ∨
       (q'=q∧S5 n at_ size l x y d.ffuse d.fsafe d.fnow d.fwait r.fSectors r.fMark r.fFuse r.fAll at_ size q at_ size q=some (.x4 e e d'.ffuse d'.fsafe d'.fnow d'.fwait r'.fSectors r'.fMark r'.fFuse r'.fAll))):=by
  obtain ⟨y1,y2,y3,y4⟩:=hy
  unfold S5 Ym
  by_cases c0:y.fKind=0
  · obtain ⟨e,d',r',q',R',hq',u1,u2⟩:=commit_ok hn R (by omega) hg hq y.fWrites y1 y2
    have u1:Sr n ⟨(),at_,size,q⟩ ⟨d.fsafe,d.fnow,d.fwait,d.ffuse⟩ y.fWrites=_:=u1
    have u2:Sl n ⟨(),at_,size,q⟩ ⟨r.fSectors,r.fMark,r.fFuse,r.fAll⟩ (y.fWrites.map pt)=_:=u2
    refine ⟨e,d',r',q',R'.mono (by omega) (by omega),hq',.inl ?_⟩
    rw [if_pos c0,u1,Option.bind_some,puts_is n (by omega) (by omega),Option.bind_some,u2,Option.bind_some,Option.bind_some]
  rw [if_neg c0]
  by_cases c1:y.fKind=1
  · obtain ⟨d1,r1,u1,u2,R1⟩:=R.crash (n:=n) (by omega) (by omega) y.fKept
    have u1:Zm n ⟨d.fsafe,d.fnow,d.fwait,d.ffuse⟩ y.fKept=_:=u1
    have u2:KG n ⟨r.fSectors,r.fMark,r.fFuse,r.fAll⟩ y.fKept=_:=u2
    obtain ⟨d',r',R',h⟩:=open_ok (n:=n) (by omega) R1 (by omega) at_ size
    rw [if_pos c1,u1,Option.bind_some,u2,Option.bind_some]
    rcases h with ⟨_,q',hq',v1,v2⟩ | ⟨e,v1,v2,_⟩
    · refine ⟨0,d',r',q',R'.mono (by omega) (by omega),hq',.inl ?_⟩
      rw [v1,Option.bind_some]
      simp only
      rw [v2,Option.bind_some,Option.bind_some]
    · refine ⟨e,d',r',q,R'.mono (by omega) (by omega),hq,.inr (.inl ?_)⟩
      rw [v1,Option.bind_some]
      simp only
      rw [v2,Option.bind_some,Option.bind_some]
  rw [if_neg c1]
  by_cases c2:y.fKind=2
  · obtain ⟨d',r',u1,u2,R'⟩:=R.fuse n (by omega) y4
    have u1:ZJ n ⟨d.fsafe,d.fnow,d.fwait,d.ffuse⟩ y.fN=_:=u1
    have u2:KH n ⟨r.fSectors,r.fMark,r.fFuse,r.fAll⟩ y.fN=_:=u2
    refine ⟨0,d',r',q,R'.mono (by omega) (by omega),hq,.inr (.inr ⟨rfl,?_⟩)⟩
    rw [if_pos c2,u1,Option.bind_some,u2,Option.bind_some,Option.bind_some]
  · obtain ⟨e,d',r',u1,u2,R',_⟩:=R.write n (by omega) y.fN y.fRaw y3
    have u1:Gv n ⟨d.fsafe,d.fnow,d.fwait,d.ffuse⟩ y.fN y.fRaw=_:=u1
    have u2:Gs n ⟨r.fSectors,r.fMark,r.fFuse,r.fAll⟩ y.fN (b2s y.fRaw)=_:=u2
    refine ⟨e,d',r',q,R'.mono (by omega) (by omega),hq,.inr (.inr ⟨rfl,?_⟩)⟩
    rw [if_neg c2,u1,Option.bind_some,u2,Option.bind_some,Option.bind_some]
theorem step (hn:5000<n) (R:Rel S d r k) (hk:k+100≤1500) {at_ size q:Int} (hg:rg S at_ size) (hq:0≤q∧q<4294967296) (l:List Gk) {x:Int} {y:Gk} (hx:getI l x=some y) (hy:Sk y) :
    S6 n at_ size l x d.ffuse d.fsafe d.fnow d.fwait r.fSectors r.fMark r.fFuse r.fAll at_ size q at_ size q=some (.x0 true) ∨
    ∃ d' r' q',Rel S d' r' (k+61)∧(0≤q'∧q'<4294967296) ∧
      (S6 n at_ size l x d.ffuse d.fsafe d.fnow d.fwait r.fSectors r.fMark r.fFuse r.fAll at_ size q at_ size q=some (.x1 d'.ffuse d'.fsafe d'.fnow d'.fwait r'.fSectors r'.fMark r'.fFuse r'.fAll at_ size q' at_ size q') ∨
       (q'=q∧S6 n at_ size l x d.ffuse d.fsafe d.fnow d.fwait r.fSectors r.fMark r.fFuse r.fAll at_ size q at_ size q=some (.x3 d'.ffuse d'.fsafe d'.fnow d'.fwait r'.fSectors r'.fMark r'.fFuse r'.fAll at_ size q))):=by
  obtain ⟨e,d',r',q',R',hq',h⟩:=act hn R hk hg hq l x hy
  unfold S6
  rw [hx,Option.bind_some]
  rcases h with h | h | ⟨rfl,h⟩
  · obtain ⟨ws,q2,ok,s1,s2,s3,s4,_,_⟩:=scan_ok (n:=n) (by omega) R' hg
    have s1:Ss n ⟨d'.fsafe,d'.fnow,d'.fwait,d'.ffuse⟩ at_ size=_:=s1
    have s2:KX n ⟨r'.fSectors,r'.fMark,r'.fFuse,r'.fAll⟩ at_ size=_:=s2
    obtain ⟨b,i1,i2⟩:=R'.image (n:=n) (by omega)
    have i1:S8 n ⟨d'.fsafe,d'.fnow,d'.fwait,d'.ffuse⟩=_:=i1
    have i2:Sm n ⟨r'.fSectors,r'.fMark,r'.fFuse,r'.fAll⟩=_:=i2
    refine .inr ⟨d',r',q',R',hq',.inl ?_⟩
    rw [h,Option.bind_some]
    unfold Z9 Kx
    simp only [if_true,Option.bind_some,Bool.false_eq_true,if_false]
    rw [s1,Option.bind_some,s2,Option.bind_some,see12 hn R' l x ws ok s3 s4,Option.bind_some]
    simp only [Option.bind_some,Bool.false_eq_true,if_false]
    rw [R'.waits,if_pos rfl,i1,Option.bind_some,i2,Option.bind_some]
    simp
  · refine .inl ?_
    rw [h,Option.bind_some]
    simp
  · obtain ⟨ws,q2,ok,s1,s2,s3,s4,_,_⟩:=scan_ok (n:=n) (by omega) R' hg
    have s1:Ss n ⟨d'.fsafe,d'.fnow,d'.fwait,d'.ffuse⟩ at_ size=_:=s1
    have s2:KX n ⟨r'.fSectors,r'.fMark,r'.fFuse,r'.fAll⟩ at_ size=_:=s2
    obtain ⟨b,i1,i2⟩:=R'.image (n:=n) (by omega)
    have i1:S8 n ⟨d'.fsafe,d'.fnow,d'.fwait,d'.ffuse⟩=_:=i1
    have i2:Sm n ⟨r'.fSectors,r'.fMark,r'.fFuse,r'.fAll⟩=_:=i2
    refine .inr ⟨d',r',q',R',hq',.inr ⟨rfl,?_⟩⟩
    rw [h,Option.bind_some]
    unfold Ya Kx
    simp only [if_true,Option.bind_some,Bool.false_eq_true,if_false]
    rw [s1,Option.bind_some,s2,Option.bind_some,see14 hn R' l x ws ok s3 s4,Option.bind_some]
    simp only [Option.bind_some,Bool.false_eq_true,if_false]
    rw [R'.waits,if_pos rfl,i1,Option.bind_some,i2,Option.bind_some]
    simp
theorem loop (hn:5000<n) {at_ size:Int} (hg:rg S at_ size) (l:List Gk) (hl:l.length≤12) (hs:∀ s∈l,Sk s):∀ (t i:Nat) (d:Gg) (r:Gf) (k:Nat) (q:Int),l.length-i<t→i≤l.length→Rel S d r k→k≤61*(i+1)→(0≤q∧q<4294967296) →
  GI n at_ size l t (i:Int) d.ffuse d.fsafe d.fnow d.fwait r.fSectors r.fMark r.fFuse r.fAll at_ size q at_ size q=some (.x0 true)∨GI n at_ size l t (i:Int) d.ffuse d.fsafe d.fnow d.fwait r.fSectors r.fMark r.fFuse r.fAll at_ size q at_ size q=some .x1
 | 0,i,_,_,_,_,h,_,_,_,_=>by omega
 | t+1,i,d,r,k,q,h,hi,R,hk,hq=>by
  rw [GI]
  by_cases h1:i<l.length
  ·rw [if_pos (by omega)]
   have hx:getI l (i:Int)=some l[i]:=by rw [getI_nat]; exact List.getElem?_eq_getElem h1
   rcases step hn R (by omega) hg hq l hx (hs _ (List.getElem_mem h1)) with c | ⟨d',r',q',R',hq',c | ⟨rfl,c⟩⟩
   ·rw [c]; exact .inl rfl
   ·rw [c,Option.bind_some,wi_succ (by omega)]
    exact loop hn hg l hl hs t (i+1) d' r' _ q' (by omega) (by omega) R' (by omega) hq'
   ·rw [c,Option.bind_some,wi_succ (by omega)]
    exact loop hn hg l hl hs t (i+1) d' r' _ q' (by omega) (by omega) R' (by omega) hq'
  ·rw [if_neg (by omega)]; exact .inr rfl
end
theorem few_l2 (n:Nat) (l:List Gk) (x:Int) (y:Gk) (hy:y.fWrites.length≤12):∀ (t j:Nat),y.fWrites.length-j<t→j≤y.fWrites.length →
  Ky n l x y t (j:Int)=some (.x0 false)∨(Ky n l x y t (j:Int)=some .x1∧∀ w∈y.fWrites.drop j,w.fData.length≤100)
 | 0,j,h,_=>by omega
 | t+1,j,h,hj=>by
  rw [Ky]
  by_cases h1:j<y.fWrites.length
  ·rw [if_pos (by omega),getI_nat,List.getElem?_eq_getElem h1,Option.bind_some,List.drop_eq_getElem_cons h1,wi_succ (by omega)]
   by_cases h2:(y.fWrites[j].fData.length:Int) > 100
   ·rw [if_pos h2]; exact .inl rfl
   ·rw [if_neg h2]
    rcases few_l2 n l x y hy t (j+1) (by omega) (by omega) with c | ⟨c,c2⟩
    ·exact .inl c
    ·refine .inr ⟨c,fun w hw=>?_⟩
     rcases List.mem_cons.1 hw with rfl | hw
     ·omega
     ·exact c2 w hw
  ·rw [if_neg (by omega),List.drop_eq_nil_of_le (by omega)]
   exact .inr ⟨rfl,fun w hw=>by cases hw⟩
def Fw (y:Gk):Prop:=y.fWrites.length≤12∧∀ w∈y.fWrites,w.fData.length≤100
theorem few_l3 (n:Nat) (hn:100<n) (l:List Gk) (hl:l.length<4611686018427387903):∀ (t i:Nat),l.length-i<t→i≤l.length →
  Kz n l t (i:Int)=some (.x0 false)∨(Kz n l t (i:Int)=some .x1∧∀ s∈l.drop i,Fw s)
 | 0,i,h,_=>by omega
 | t+1,i,h,hi=>by
  rw [Kz]
  by_cases h1:i<l.length
  ·rw [if_pos (by omega),getI_nat,List.getElem?_eq_getElem h1,Option.bind_some,List.drop_eq_getElem_cons h1,wi_succ (by omega)]
   have ih:=few_l3 n hn l hl t (i+1) (by omega) (by omega)
   unfold Uv
   by_cases h2:(l[i].fWrites.length:Int) > 12
   ·rw [if_pos h2]; exact .inl rfl
   rw [if_neg h2]
   by_cases h3:(l[i].fKept.length:Int) > 100
   ·rw [if_pos h3]; exact .inl rfl
   rw [if_neg h3,Option.bind_some]
   simp only
   by_cases h4:(l[i].fRaw.length:Int) > 100
   ·rw [decide_eq_true h4]; exact .inl rfl
   rw [decide_eq_false h4]
   simp only [Bool.false_eq_true,if_false]
   rcases few_l2 n l (i:Int) l[i] (by omega) n 0 (by omega) (by omega) with c | ⟨c,c2⟩
   ·have c:Ky n l (i:Int) l[i] n 0=_:=c
    rw [c]; exact .inl rfl
   ·have c:Ky n l (i:Int) l[i] n 0=_:=c
    rw [c,Option.bind_some]
    simp only
    rw [List.drop_zero] at c2
    rcases ih with ih | ⟨ih,i2⟩
    ·exact .inl ih
    ·refine .inr ⟨ih,fun s hs=>?_⟩
     rcases List.mem_cons.1 hs with rfl | hs
     ·exact ⟨by omega,c2⟩
     ·exact i2 s hs
  ·rw [if_neg (by omega),List.drop_eq_nil_of_le (by omega)]
   exact .inr ⟨rfl,fun w hw=>by cases hw⟩
theorem few_is (n:Nat) (hn:100<n) (l:List Gk) (hl:l.length<4611686018427387903) (hn2:l.length<n):XK n l=some false∨(XK n l=some true∧l.length≤12∧∀ s∈l,Fw s):=by
 unfold XK
 rcases few_l3 n hn l hl n 0 (by omega) (by omega) with c | ⟨c,c2⟩
 ·have c:Kz n l n 0=_:=c
  rw [c]; exact .inl rfl
 ·have c:Kz n l n 0=_:=c
  rw [c,Option.bind_some]
  simp only
  by_cases h:(l.length:Int)≤12
  ·rw [decide_eq_true h]
   rw [List.drop_zero] at c2
   exact .inr ⟨rfl,by omega,c2⟩
  ·rw [decide_eq_false h]; exact .inl rfl
theorem sect40 (s:Int):∃ S:Nat,(16≤S∧S≤55)∧wi .i64 (16+(wi .i64 (remI (wi .u64 s) 40)))=(S:Int):=by
 have h0:0≤wi .u64 s:=by rw [w64u]; omega
 have h1:remI (wi .u64 s) 40=wi .u64 s % 40:=rem_nn h0
 rw [h1]
 have h2:0≤wi .u64 s % 40∧wi .u64 s % 40<40:=by omega
 refine ⟨(16+wi .u64 s % 40).toNat,by omega,?_⟩
 generalize wi .u64 s % 40=z at *
 have e:wi .i64 z=z:=wi64 (by omega) (by omega)
 rw [e,wi64 (by omega) (by omega)]
 omega
theorem by_of {b:List Int} (h:okL 1 (fun a=>(Lit.int .u8 a).wf=true) b):By b:=fun x hx=>by
 have:=wf8.1 (h.2 x hx)
 omega
theorem H (s at_ size:Int) (l:List Gk) (h3:okL 88 UG l):∃ n,Z4 n s at_ size l=some true:=by
 refine ⟨l.length+20000,?_⟩
 have hll:l.length<4611686018427387903:=by have:=h3.1; omega
 have hn:5000<l.length+20000:=by omega
 have hn2:l.length<l.length+20000:=by omega
 generalize l.length+20000=n at *
 unfold Z4
 rcases few_is n (by omega) l hll hn2 with c | ⟨c,c1,c2⟩
 ·rw [c,Option.bind_some,if_neg (by simp)]
 rw [c,Option.bind_some,if_pos rfl]
 obtain ⟨S,hS,hs⟩:=sect40 s
 have em:mkL 1 (0:Int) (wi .i64 ((S:Int)*64))=some (List.replicate (S*64) 0):=by
  rw [wi64 (by omega) (by omega)]
  unfold mkL
  have:((S:Int)*64).toNat=S*64:=by omega
  rw [this,if_pos ⟨by omega,by unfold maxLen; omega,by omega⟩]
 have hSk:∀ y∈l,Sk y:=fun y hy=>by
  obtain ⟨_,o2,o3,_,o5,_⟩:=h3.2 y hy
  have f:=c2 y hy
  exact ⟨f.1,fun w hw=>⟨by_of (o3.2 w hw).2.1,f.2 w hw⟩,by_of o5,(wf64.1 o2).2⟩
 have i0:Inv S [] 0 (-1) 0:=⟨by omega,fun p hp=>by simp at hp,Nat.le_refl _,by simp,by omega,by decide,fun p hp=>by simp at hp⟩
 have R0:Rel S (D S [] 0 (-1)) (Rf S [] 0 (-1)) 0:=⟨[],0,-1,i0,rfl,rfl⟩
 obtain ⟨d',r',R',h⟩:=open_ok (n:=n) (by omega) R0 (by omega) at_ size
 have e1:D S [] 0 (-1)=⟨List.replicate (S*64) 0,List.replicate (S*64) 0,[],-1⟩:=rfl
 have e2:Rf S [] 0 (-1)=⟨(S:Int),0,-1,[]⟩:=rfl
 unfold Js XC
 rw [hs,if_neg (by omega),if_neg (by omega),em,Option.bind_some,Option.bind_some,Option.bind_some]
 simp only [if_true,Option.bind_some]
 rw [← e1,← e2]
 rcases h with ⟨hg,q,hq,v1,v2⟩ | ⟨e,v1,v2,hz⟩
 ·rw [v1,Option.bind_some]
  simp only
  rw [v2,Option.bind_some]
  unfold Yl
  simp only [if_true,Option.bind_some,Bool.false_eq_true,if_false]
  rcases loop (n:=n) hn hg l c1 hSk n 0 d' r' _ q (by omega) (by omega) R' (by omega) hq with c | c
  ·have c:GI n at_ size l n 0 d'.ffuse d'.fsafe d'.fnow d'.fwait r'.fSectors r'.fMark r'.fFuse r'.fAll at_ size q at_ size q=_:=c
   rw [c,Option.bind_some]
  ·have c:GI n at_ size l n 0 d'.ffuse d'.fsafe d'.fnow d'.fwait r'.fSectors r'.fMark r'.fFuse r'.fAll at_ size q at_ size q=_:=c
   rw [c,Option.bind_some]
 ·have hng:¬ rg S at_ size:=fun hg=>by
   have:=hz hg
   have hg':=hg
   unfold rg at hg'
   have e3:(sector (D S [] 0 (-1)).fnow at_.toNat)[0]?=some 0:=by
    rw [sector_get,if_pos (by omega)]
    show (List.replicate (S*64) (0:Int))[at_.toNat*64+0]?=some 0
    rw [List.getElem?_replicate,if_pos (by omega)]
   rw [e3] at this
   cases this
  rw [v1,Option.bind_some]
  simp only
  rw [v2,Option.bind_some]
  simp only [if_true]
  rw [scan_no n R' hng,Option.bind_some]
  rfl
end Go.Proofs.Ytgdhhaddfllkaaa.pv.jp
