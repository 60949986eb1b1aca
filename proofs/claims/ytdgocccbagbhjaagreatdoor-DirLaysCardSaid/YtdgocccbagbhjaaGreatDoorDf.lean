/- Directories: the document's List. -/
import Derived.Test.YtdgocccbagbhjaaGreatDoorDe
namespace Go.Proofs.YtdgocccbagbhjaaGreatDoor.pv.dr
set_option linter.all false
open Go.RowKit help pv
theorem getS_b2s (b:List Int) (j:Nat) (x:Int) (h:b[j]?=some x) (hx:0≤x∧x<256):getS (b2s b) (j:Int)=some x:=by
 unfold getS
 rw [if_pos (by omega),Int.toNat_natCast]
 have e:(b2s b)[j]?=(b2s b).data[j]?:=rfl
 rw [e,b2s_data]
 simp only [List.getElem?_toArray,List.getElem?_map,h,Option.map_some]
 congr 1
 unfold u8
 rw [UInt8.toNat_ofNat_of_lt' (by show x.toNat<256; omega)]
 omega
theorem ba_ext {s t:ByteArray} (h:s.data.toList=t.data.toList):s=t:=by
 apply ByteArray.ext
 exact Array.toList_inj.1 h
theorem Z1:(ByteArray.mk #[0]).size=1∧((ByteArray.mk #[0]).data.toList.headD 0)=0:=⟨rfl,rfl⟩
theorem cut_no (n:Nat) {s:ByteArray} (h:0 ∉ s.data.toList):Zf n s (ByteArray.mk #[0])=some (s,ByteArray.mk #[],false):=by
 unfold Zf SU YD
 rw [if_pos Z1.1,Z1.2,Option.bind_some,if_neg (by have:=(idx_lt 0 s.data.toList).2 h; omega)]; rfl
theorem cut_at (n:Nat) {s:ByteArray} (hs:s.size≤1000) {P Q:List UInt8} (h1:s.data.toList=P++0::Q) (h3:Lib.indexByte s.data.toList 0=(P.length:Int)):Zf n s (ByteArray.mk #[0])=some (⟨P.toArray⟩,⟨Q.toArray⟩,true):=by
 have hsz:s.size=P.length+(Q.length+1):=by
  have:s.size=s.data.toList.length:=by rw [Array.length_toList]; rfl
  rw [this,h1]; simp
 unfold Zf SU YD
 rw [if_pos Z1.1,Z1.2,h3,Option.bind_some,if_pos (by omega)]
 have e1:wi .i64 ((P.length:Int)+((ByteArray.mk #[0]).size:Int))=((P.length+1:Nat):Int):=by rw [Z1.1,wi64 (by omega) (by omega)]; omega
 rw [e1]
 unfold subS
 rw [if_pos ⟨by omega,by omega,by omega⟩,if_pos ⟨by omega,by omega,by omega⟩,Option.bind_some,Option.bind_some,Option.bind_some]
 have a1:s.extract (0:Int).toNat (P.length:Int).toNat=⟨P.toArray⟩:=by
  apply ba_ext
  rw [ByteArray.data_extract,Array.toList_extract,h1]
  simp [List.extract_eq_drop_take]
 have a2:s.extract ((P.length+1:Nat):Int).toNat (s.size:Int).toNat=⟨Q.toArray⟩:=by
  apply ba_ext
  rw [ByteArray.data_extract,Array.toList_extract,h1,hsz]
  rw [List.extract_eq_drop_take]
  simp
  rw [List.take_of_length_le (by omega)]
 rw [a1,a2]
theorem row_ok (n t:Nat) {b:List Int} {N k:Nat} (hb:b.length=16*N) (hk:k<N) (hN:N≤40) (hy:By b) (w:List Ga) (hw:w.length≤1000) :
  GR n (b2s b) (t+1) ((16*k:Nat):Int) w=if 0∈(ent b k).fName.data.toList then some (.x0 3) else GR n (b2s b) t ((16*(k+1):Nat):Int) (w++[ent b k]):=by
 have hl:=chk_len hb hk
 have hg:16*k+14<b.length:=by omega
 have hx:=hy b[16*k+14] (List.getElem_mem hg)
 have e1:wi .i64 (((16*k:Nat):Int)+14)=((16*k+14:Nat):Int):=by rw [wi64 (by omega) (by omega)]; omega
 have e2:wi .i64 (((16*k:Nat):Int)+16)=((16*(k+1):Nat):Int):=by rw [wi64 (by omega) (by omega)]; omega
 have hss:=subS_b2s b (16*k) (16*k+14) (by omega) (by omega)
 have hgt:=getS_b2s b (16*k+14) _ (List.getElem?_eq_getElem hg) hx
 have hin:wi .i64 b[16*k+14]=(ent b k).fIno:=by
  rw [wi64 (by omega) (by omega)]
  unfold ent
  rw [List.getD_eq_getElem?_getD,List.getElem?_eq_getElem hg]; rfl
 rw [GR,if_pos (by rw [b2s_size]; omega),e1,hss,Option.bind_some]
 have hchk:((b.take (16*k+14)).drop (16*k))=chk b k:=rfl
 rw [hchk]
 generalize hs:b2s (chk b k)=s
 have hsz:s.size=14:=by rw [← hs,b2s_size,hl]
 have hent:ent b k=⟨⟨(Lib.trimRightB s.data.toList 0).toArray⟩,(ent b k).fIno⟩:=by rw [← hs]; rfl
 by_cases h0:0∈s.data.toList
 ·obtain ⟨P,Q,h1,h2,h3⟩:=idx_at 0 s.data.toList h0
  rw [cut_at n (by omega) h1 h3,Option.bind_some]
  simp only [if_true]
  have hq:Q.length≤14:=by
   have:s.size=s.data.toList.length:=by rw [Array.length_toList]; rfl
   rw [h1] at this; simp at this; omega
  have ht:XK n ⟨Q.toArray⟩ (ByteArray.mk #[0])=some ⟨(Lib.trimB Q 0).toArray⟩:=by
   unfold XK
   rw [if_pos ⟨Z1.1,by decide,by show Q.toArray.size≤_; simp; omega⟩,Z1.2]
  rw [ht,Option.bind_some]
  have hne:(!((⟨(Lib.trimB Q 0).toArray⟩:ByteArray).toList == (ByteArray.mk #[]).toList))=true↔Lib.trimB Q 0≠[]:=by
   rw [ByteArray.toList_eq,ByteArray.toList_eq]
   simp
  by_cases hz:Lib.trimB Q 0=[]
  ·have hz0:=trimB_nil.1 hz
   have htr:Lib.trimRightB s.data.toList 0=P:=by
    rw [h1]
    exact trim_zeros h2 (fun x hx=>(List.mem_cons.1 hx).elim (fun e=>e) (fun q=>hz0 x q))
   rw [if_neg (fun q=>hne.1 q hz),hgt,Option.bind_some,hin]
   have he:(Ga.mk ⟨P.toArray⟩ (ent b k).fIno)=ent b k:=by
    conv=>rhs; rw [hent]
    rw [htr]
   rw [he,app_some (by simp; omega) (by omega),Option.bind_some,e2,if_neg]
   rw [hent,htr]; exact h2
  ·rw [if_pos (hne.2 hz),if_pos]
   rw [hent]
   show 0∈(Lib.trimRightB s.data.toList 0)
   rw [h1]
   refine trim_has ?_
   apply Classical.byContradiction
   intro hc
   exact hz (trimB_nil.2 fun x hx=>Classical.byContradiction fun hx0=>hc ⟨x,hx,hx0⟩)
 ·rw [cut_no n h0,Option.bind_some]
  simp only [Bool.false_eq_true,if_false]
  have htr:=trim_none h0
  have he:(Ga.mk s (ent b k).fIno)=ent b k:=by
   conv=>rhs; rw [hent]
   rw [htr]
  rw [hgt,Option.bind_some,hin,he,app_some (by simp; omega) (by omega),Option.bind_some,e2,if_neg]
  rw [hent]
  show 0 ∉ (Lib.trimRightB s.data.toList 0)
  rw [htr]; exact h0
open Classical in
theorem rlistL (n:Nat) {b:List Int} {N:Nat} (hb:b.length=16*N) (hN:N≤40) (hy:By b):∀ (t k:Nat),N-k<t→k≤N→∀ w:List Ga,w.length=k →
  GR n (b2s b) t ((16*k:Nat):Int) w=if ∃ j,k≤j∧j<N∧bad b j then some (.x0 3) else some (.x1 (w++(List.range' k (N-k)).map (ent b)))
 | 0,k,h,_,w,_=>by omega
 | t+1,k,ht,hk,w,hw=>by
  by_cases h1:k<N
  ·rw [row_ok n t hb h1 hN hy w (by omega)]
   by_cases h2:0∈(ent b k).fName.data.toList
   ·rw [if_pos h2,if_pos ⟨k,Nat.le_refl _,h1,h2⟩]
   ·rw [if_neg h2,rlistL n hb hN hy t (k+1) (by omega) (by omega) _ (by simp [hw])]
    by_cases h3:∃ j,k+1≤j∧j<N∧bad b j
    ·rw [if_pos h3]
     obtain ⟨j,j1,j2,j3⟩:=h3
     rw [if_pos ⟨j,by omega,j2,j3⟩]
    ·rw [if_neg h3,if_neg]
     ·have:N-k=(N-(k+1))+1:=by omega
      rw [this,List.range'_succ,List.map_cons,List.append_assoc]; rfl
     ·rintro ⟨j,j1,j2,j3⟩
      by_cases e:j=k
      ·subst e; exact h2 j3
      ·exact h3 ⟨j,by omega,j2,j3⟩
  ·rw [GR,if_neg (by rw [b2s_size]; omega),if_neg (by rintro ⟨j,j1,j2,_⟩; omega)]
   have:N-k=0:=by omega
   rw [this]; simp
def Ol (b:List Int) (N:Nat):List Ga:=(List.range N).map (ent b)
theorem O_perm (b:List Int) (N:Nat):(O b N).Perm (Ol b N):=(io_perm N).map _
theorem right_perm {l r:List Ga} (h:l.Perm r):right l=0↔right r=0:=by
 rw [right_zero,right_zero,h.length_eq]
 constructor
 ·rintro ⟨h1,h2,h3⟩
  exact ⟨h1,fun x hx=>h2 x (h.mem_iff.2 hx),(h.map _).nodup_iff.1 h3⟩
 ·rintro ⟨h1,h2,h3⟩
  exact ⟨h1,fun x hx=>h2 x (h.mem_iff.1 hx),(h.map _).nodup_iff.2 h3⟩
theorem sort_perm {l r:List Ga} (h:l.Perm r) (hr:right l=0):sortN nf l=sortN nf r:=by
 refine (sort_eq ((right_zero r).1 ((right_perm h).1 hr)).2.2 ((srt_perm l).trans h) ?_)
 exact (sortN_spec nf l).2
theorem bad_not {b:List Int} {N:Nat} (h:∃ j,j<N∧bad b j):right (O b N)≠0:=by
 obtain ⟨j,j1,j2⟩:=h
 intro h0
 have:=((right_zero _).1 ((right_perm (O_perm b N)).1 h0)).2.1 (ent b j) (List.mem_map.2 ⟨j,List.mem_range.2 j1,rfl⟩)
 exact this.1.2.2.2.2.1 j2
theorem laid_by {l:List Ga}:By (laid l).flatten:=fun x hx=>by
 obtain ⟨z,hz,hx⟩:=List.mem_flatten.1 hx
 obtain ⟨k,hk,rfl⟩:=List.mem_map.1 hz
 unfold rowB at hx
 revert hx
 refine fun hx=>((((s2b_by _).app (By.rep _)).app ?_) x hx)
 intro y hy
 rcases List.mem_cons.1 hy with rfl | hy
 ·unfold wi; rw [IntKind.wrap_u8]; omega
 ·rw [List.mem_singleton.1 hy]; omega
theorem rlist {n N:Nat} (hn:5000≤n) {b:List Int} (hb:b.length=16*N) (hN:N≤32) (hy:By b):∃ r,SX n (b2s b)=some r∧(good b N→r=(sortN nf (O b N),0))∧(¬ good b N→r=([],3)):=by
 unfold SX
 have hr:remI (b.length:Int) 16=0:=by rw [rem_nn (by omega)]; omega
 have hL:=rlistL n hb (by omega) hy n 0 (by omega) (by omega) [] rfl
 have hL:GR n (b2s b) n 0 []=_:=hL
 rw [b2s_size,if_pos hr,if_neg (by omega),hL]
 by_cases h1:∃ j,0≤j∧j<N∧bad b j
 ·rw [if_pos h1,Option.bind_some]
  obtain ⟨j,_,j1,j2⟩:=h1
  exact ⟨_,rfl,fun q=>absurd q.1 (bad_not ⟨j,j1,j2⟩),fun _=>rfl⟩
 ·rw [if_neg h1,Option.bind_some]
  simp only [List.nil_append,Nat.sub_zero,← List.range_eq_range']
  have hOl:(List.range N).map (ent b)=Ol b N:=rfl
  rw [hOl]
  have hl:(Ol b N).length=N:=by simp [Ol]
  rw [rright (by omega) _ (by omega),Option.bind_some]
  by_cases h2:right (Ol b N)=0
  ·have hO:=(right_perm (O_perm b N)).2 h2
   have hs:=sort_perm (O_perm b N) hO
   rw [if_pos h2,rlay hn h2,Option.bind_some,str_eq _ _ laid_by hy,← hs]
   by_cases h3:(laid (sortN nf (O b N))).flatten=b
   ·rw [decide_eq_true h3]
    simp only [Bool.not_true,Bool.false_eq_true,if_false]
    rw [if_pos (by omega)]
    refine ⟨_,rfl,fun _=>?_,fun q=>absurd ⟨hO,h3⟩ q⟩
    rw [hs]
   ·rw [decide_eq_false h3]
    simp only [Bool.not_false,if_true]
    exact ⟨_,rfl,fun q=>absurd q.2 h3,fun _=>rfl⟩
  ·rw [if_neg h2]
   exact ⟨_,rfl,fun q=>absurd ((right_perm (O_perm b N)).1 q.1) h2,fun _=>rfl⟩
end Go.Proofs.YtdgocccbagbhjaaGreatDoor.pv.dr
