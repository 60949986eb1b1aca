/- Directories: names and entries that are right; Lay on both sides. -/
import Derived.Test.YtdgocccbagbhjaaGreatDoorDb
import Derived.Test.YtdgocccbagbhjaaGreatDoorSpD
import Derived.Test.YtdgocccbagbhjaaGreatDoorSoD
namespace Go.Proofs.YtdgocccbagbhjaaGreatDoor.pv.dr
set_option linter.all false
open Go.RowKit help pv
instance lawBA:LawfulBEq ByteArray where
  eq_of_beq:=fun h=>(Go.MapKept.bytes_beq _ _).1 h
  rfl:=(Go.MapKept.bytes_beq _ _).2 rfl
theorem idx_lt (c:UInt8):∀ l:List UInt8,Lib.indexByte l c<0↔c ∉ l
 | []=>by simp [Lib.indexByte]
 | b::l=>by
  have ih:=idx_lt c l
  have hge:=Lib.indexByte_ge l c
  unfold Lib.indexByte
  by_cases h:b=c
  ·subst h; simp
  ·have hb:(b == c)=false:=by simpa using h
   rw [hb]
   simp only [Bool.false_eq_true,if_false,List.mem_cons,not_or]
   have hne:¬ c=b:=fun e=>h e.symm
   by_cases h2:Lib.indexByte l c = -1
   ·rw [h2]; simp only [beq_self_eq_true,if_true]
    have:=ih.1 (by omega)
    exact ⟨fun _=>⟨hne,this⟩,fun _=>by omega⟩
   ·have:(Lib.indexByte l c == -1)=false:=by simpa using h2
    rw [this]
    simp only [Bool.false_eq_true,if_false]
    constructor
    ·intro q; omega
    ·rintro ⟨_,q⟩
     have:=ih.2 q
     omega
def okN (s:ByteArray):Prop:=1≤s.size∧s.size≤14∧s.data.toList≠[46]∧s.data.toList≠[46,46]∧0 ∉ s.data.toList∧47 ∉ s.data.toList
instance (s:ByteArray):Decidable (okN s):=by unfold okN; infer_instance
theorem ne_iff {a b:List UInt8}:(!(a == b))=true↔a≠b:=by simp
theorem size_nil (s:ByteArray):s.data.toList≠[]↔1≤s.size:=by
 have:s.size=s.data.toList.length:=by rw [Array.length_toList]; rfl
 rw [this]
 cases s.data.toList <;> simp
theorem pname (n:Nat) (s:ByteArray):Xy n s=some (decide (okN s)):=by
 unfold Xy XC KL Xr
 simp only [ByteArray.toList_eq,Option.bind_some]
 have e0:((0:Int).toNat.toUInt8)=0:=rfl
 have e1:((47:Int).toNat.toUInt8)=47:=rfl
 rw [e0,e1]
 have hn:=size_nil s
 by_cases h1:(!(s.data.toList == ([]:List UInt8)))=true
 ·have h1':=ne_iff.1 h1
  have h1:(!(s.data.toList == (ByteArray.mk #[]).data.toList))=true:=h1
  rw [if_pos h1]
  by_cases h2:(s.size:Int)≤14
  ·rw [if_pos h2]
   by_cases h3:(!(s.data.toList == [46]))=true
   ·have h3':=ne_iff.1 h3
    have h3:(!(s.data.toList == (ByteArray.mk #[46]).data.toList))=true:=h3
    rw [if_pos h3]
    by_cases h4:(!(s.data.toList == [46,46]))=true
    ·have h4':=ne_iff.1 h4
     have h4:(!(s.data.toList == (ByteArray.mk #[46,46]).data.toList))=true:=h4
     rw [if_pos h4]
     by_cases h5:Lib.indexByte s.data.toList 0<0
     ·rw [if_pos h5,Option.bind_some]
      simp only
      congr 1
      refine decide_eq_decide.2 ?_
      rw [idx_lt] at h5 ⊢
      exact ⟨fun q=>⟨hn.1 h1',by omega,h3',h4',h5,q⟩,fun q=>q.2.2.2.2.2⟩
     ·rw [if_neg h5,Option.bind_some,decide_eq_false (fun q:okN s=>h5 ((idx_lt _ _).2 q.2.2.2.2.1))]
    ·have h4':=fun q=>h4 (ne_iff.2 q)
     have h4:¬ (!(s.data.toList == (ByteArray.mk #[46,46]).data.toList))=true:=h4
     rw [if_neg h4,Option.bind_some,decide_eq_false (fun q:okN s=>h4' q.2.2.2.1)]
   ·have h3':=fun q=>h3 (ne_iff.2 q)
    have h3:¬ (!(s.data.toList == (ByteArray.mk #[46]).data.toList))=true:=h3
    rw [if_neg h3,Option.bind_some,decide_eq_false (fun q:okN s=>h3' q.2.2.1)]
  ·rw [if_neg h2,Option.bind_some,decide_eq_false (fun q:okN s=>h2 (by have:=q.2.1; omega))]
 ·have h1':=fun q=>h1 (ne_iff.2 q)
  have h1:¬ (!(s.data.toList == (ByteArray.mk #[]).data.toList))=true:=h1
  rw [if_neg h1,Option.bind_some,decide_eq_false (fun q:okN s=>h1' (hn.2 q.1))]
theorem rname (n:Nat) (s:ByteArray):KG n s=some (decide (okN s)):=by
 unfold KG Zh KF KR Xq
 have c1:(ByteArray.mk #[47]).size=1:=rfl
 have c2:(ByteArray.mk #[0]).size=1:=rfl
 rw [c1,c2]
 simp only [if_true,ByteArray.toList_eq,Option.bind_some]
 have e0:(ByteArray.mk #[0]).data.toList.headD 0=0:=rfl
 have e1:(ByteArray.mk #[47]).data.toList.headD 0=47:=rfl
 rw [e0,e1]
 by_cases h0:(1:Int)≤(s.size:Int)
 ·rw [if_pos h0,Option.bind_some]
  by_cases h2:(s.size:Int)≤14
  ·rw [if_pos (decide_eq_true h2)]
   by_cases h3:(!(s.data.toList == [46]))=true
   ·have h3':=ne_iff.1 h3
    have h3:(!(s.data.toList == (ByteArray.mk #[46]).data.toList))=true:=h3
    rw [if_pos h3]
    by_cases h4:(!(s.data.toList == [46,46]))=true
    ·have h4':=ne_iff.1 h4
     have h4:(!(s.data.toList == (ByteArray.mk #[46,46]).data.toList))=true:=h4
     rw [if_pos h4]
     by_cases h5:Lib.indexByte s.data.toList 47<0
     ·rw [decide_eq_false (by omega),if_neg (by simp),Option.bind_some]
      simp only
      congr 1
      rw [← decide_not]
      refine decide_eq_decide.2 ?_
      have h6:=idx_lt 0 s.data.toList
      rw [idx_lt] at h5
      constructor
      ·intro q; exact ⟨by omega,by omega,h3',h4',h6.1 (by omega),h5⟩
      ·intro q
       have:=h6.2 q.2.2.2.2.1
       omega
     ·rw [decide_eq_true (by omega),if_pos rfl,Option.bind_some,decide_eq_false (fun q:okN s=>h5 ((idx_lt _ _).2 q.2.2.2.2.2))]
    ·have h4':=fun q=>h4 (ne_iff.2 q)
     have h4:¬ (!(s.data.toList == (ByteArray.mk #[46,46]).data.toList))=true:=h4
     rw [if_neg h4,Option.bind_some,decide_eq_false (fun q:okN s=>h4' q.2.2.2.1)]
   ·have h3':=fun q=>h3 (ne_iff.2 q)
    have h3:¬ (!(s.data.toList == (ByteArray.mk #[46]).data.toList))=true:=h3
    rw [if_neg h3,Option.bind_some,decide_eq_false (fun q:okN s=>h3' q.2.2.1)]
  ·rw [decide_eq_false h2,if_neg (by simp),Option.bind_some,decide_eq_false (fun q:okN s=>h2 (by have:=q.2.1; omega))]
 ·rw [if_neg h0,Option.bind_some,if_neg (by simp),Option.bind_some,decide_eq_false (fun q:okN s=>h0 (by have:=q.1; omega))]
def okE (x:Ga):Prop:=okN x.fName∧1≤x.fIno∧x.fIno≤32
instance (x:Ga):Decidable (okE x):=by unfold okE; infer_instance
def rgo:List Ga→List ByteArray→Int
 | [],_=>0
 | x::l,seen=>if okE x then if x.fName∈seen then 5 else rgo l (x.fName::seen) else 3
def right (l:List Ga):Int:=if l.length > 32 then 2 else rgo l []
theorem rgo_zero:∀ (l:List Ga) (seen:List ByteArray),rgo l seen=0↔(∀ x∈l,okE x)∧(l.map (·.fName)).Nodup∧∀ x∈l,x.fName ∉ seen
 | [],seen=>by simp [rgo]
 | x::l,seen=>by
  unfold rgo
  by_cases h1:okE x
  ·rw [if_pos h1]
   by_cases h2:x.fName∈seen
   ·rw [if_pos h2]
    constructor
    ·intro q; omega
    ·intro q; exact absurd h2 (q.2.2 x (by simp))
   ·rw [if_neg h2,rgo_zero l,List.map_cons,List.nodup_cons]
    constructor
    ·rintro ⟨a,b,c⟩
     refine ⟨fun y hy=>?_,⟨fun hm=>?_,b⟩,fun y hy=>?_⟩
     ·rcases List.mem_cons.1 hy with rfl | hy
      ·exact h1
      ·exact a y hy
     ·obtain ⟨y,hy,e⟩:=List.mem_map.1 hm
      exact c y hy (by rw [e]; simp)
     ·rcases List.mem_cons.1 hy with rfl | hy
      ·exact h2
      ·exact fun q=>c y hy (by simp [q])
    ·rintro ⟨a,⟨b1,b2⟩,c⟩
     refine ⟨fun y hy=>a y (by simp [hy]),b2,fun y hy q=>?_⟩
     rcases List.mem_cons.1 q with e | q
     ·exact b1 (List.mem_map.2 ⟨y,hy,e⟩)
     ·exact c y (by simp [hy]) q
  ·rw [if_neg h1]
   constructor
   ·intro q; omega
   ·intro q; exact absurd (q.1 x (by simp)) h1
theorem right_zero (l:List Ga):right l=0↔l.length≤32∧(∀ x∈l,okE x)∧(l.map (·.fName)).Nodup:=by
 unfold right
 split
 ·rename_i h
  constructor
  ·intro q; omega
  ·intro q; omega
 ·rename_i h
  rw [rgo_zero]
  exact ⟨fun q=>⟨by omega,q.1,q.2.1⟩,fun q=>⟨q.2.1,q.2.2,fun _ _=>by simp⟩⟩
theorem rrightL (n:Nat) (l:List Ga) (hl:l.length≤1000):∀ (t i:Nat) (w:List (ByteArray×Bool)) (seen:List ByteArray),l.length-i<t→i≤l.length→(∀ s,(mget w s).getD false=decide (s∈seen)) →
    G6 n l t (i:Int) w=some (if rgo (l.drop i) seen=0 then .x1 else .x0 (rgo (l.drop i) seen))
  | 0,i,_,_,h,_,_=>by omega
  | t+1,i,w,seen,h,hi,hw=>by
    rw [G6]
    by_cases h1:i<l.length
    · rw [if_pos (by omega),getI_nat,List.getElem?_eq_getElem h1,Option.bind_some,rname,Option.bind_some,List.drop_eq_getElem_cons h1,wi_succ (by omega)]
      unfold KF
      unfold rgo
      by_cases h2:okN l[i].fName
      · rw [if_pos (decide_eq_true h2)]
        by_cases h3:(1:Int)≤l[i].fIno
        · rw [if_pos h3,Option.bind_some]
          by_cases h4:l[i].fIno≤32
          · have hE:okE l[i]:=⟨h2,h3,h4⟩
            rw [if_pos (decide_eq_true h4),if_pos hE,hw]
            by_cases h5:l[i].fName∈seen
            · rw [if_pos (decide_eq_true h5),if_pos h5]; rfl
            · rw [if_neg (by simpa using h5),if_neg h5,rrightL n l hl t (i+1) _ (l[i].fName::seen) (by omega) (by omega) (fun s=>by
                rw [mget_mput]
                by_cases e:s=l[i].fName
                · rw [if_pos e]; simp [e]
                · rw [if_neg e,hw]; simp [e])]
          · rw [decide_eq_false h4,if_neg (by simp),if_neg (fun q:okE l[i]=>h4 q.2.2)]; rfl
        · rw [if_neg h3,Option.bind_some,if_neg (by simp),if_neg (fun q:okE l[i]=>h3 q.2.1)]; rfl
      · rw [decide_eq_false h2,if_neg (by simp),if_neg (fun q:okE l[i]=>h2 q.1)]; rfl
    · rw [if_neg (by omega),List.drop_eq_nil_of_le (by omega)]; rfl
theorem rright {n:Nat} (hn:2000≤n) (l:List Ga) (hl:l.length≤1000):ST n l=some (right l):=by
 unfold ST right
 by_cases h:l.length > 32
 ·rw [if_pos (by omega),if_pos h]
 ·rw [if_neg (by omega),if_neg h]
  have hL:=rrightL n l hl n 0 [] [] (by omega) (by omega) (fun s=>by simp [mget,mplc])
  have hL:G6 n l n 0 []=_:=hL
  rw [hL,Option.bind_some,List.drop_zero]
  by_cases h0:rgo l []=0
  ·rw [if_pos h0,h0]
  ·rw [if_neg h0]
theorem prightL {n:Nat} (hn:2000≤n) (l:List Ga) (hl:l.length≤1000):∀ (t i:Nat) (seen:List ByteArray),l.length-i<t→i≤l.length→(∀ s,s∈seen↔s∈(l.take i).map (·.fName)) →
  Kw n l t (i:Int)=some (if rgo (l.drop i) seen=0 then .x1 else .x0 (rgo (l.drop i) seen))
 | 0,i,_,h,_,_=>by omega
 | t+1,i,seen,h,hi,hw=>by
  rw [Kw]
  by_cases h1:i<l.length
  ·rw [if_pos (by omega),getI_nat,List.getElem?_eq_getElem h1,Option.bind_some,List.drop_eq_getElem_cons h1,wi_succ (by omega)]
   unfold Xz
   rw [pname,Option.bind_some]
   unfold rgo
   by_cases h2:okN l[i].fName
   ·rw [if_pos (decide_eq_true h2)]
    by_cases h3:l[i].fIno<1
    ·rw [if_pos h3,Option.bind_some,if_neg (fun q:okE l[i]=>by have:=q.2.1; omega)]; rfl
    ·rw [if_neg h3,Option.bind_some]
     simp only
     by_cases h4:l[i].fIno > 32
     ·rw [decide_eq_true h4,if_pos rfl,if_neg (fun q:okE l[i]=>by have:=q.2.2; omega)]; rfl
     ·have hsub:sub l 0 (i:Int)=some (l.take i):=by
       unfold sub
       rw [if_pos ⟨by omega,by omega,by omega⟩]
       simp
      have hc:=ZW (n:=n) (l:=l.take i) (f:=fun y0=>ZK n y0 l[i]) (fun y=>l[i].fName.toList == y.fName.toList) (fun y _=>rfl) (by simp; omega) (by simp; omega)
      have ha:(l.take i).any (fun y=>l[i].fName.toList == y.fName.toList)=decide (l[i].fName∈seen):=by
       rw [Bool.eq_iff_iff,List.any_eq_true,decide_eq_true_iff,hw]
       constructor
       ·rintro ⟨y,hy,e⟩
        have e':l[i].fName.toList=y.fName.toList:=by simpa using e
        refine List.mem_map.2 ⟨y,hy,?_⟩
        rw [ByteArray.toList_eq,ByteArray.toList_eq] at e'
        exact (ByteArray.ext (Array.toList_inj.1 e')).symm
       ·intro q
        obtain ⟨y,hy,e⟩:=List.mem_map.1 q
        exact ⟨y,hy,by rw [e]; simp⟩
      have hE:okE l[i]:=⟨h2,by omega,by omega⟩
      rw [decide_eq_false h4,if_neg (by simp),hsub,Option.bind_some,hc,Option.bind_some,ha,if_pos hE]
      by_cases h5:l[i].fName∈seen
      ·rw [if_pos (decide_eq_true h5),if_pos h5]; rfl
      ·rw [if_neg (by simpa using h5),if_neg h5,prightL hn l hl t (i+1) (l[i].fName::seen) (by omega) (by omega) (fun s=>by
        rw [List.mem_cons,hw,List.take_succ,List.getElem?_eq_getElem h1]
        simp only [Option.toList_some,List.map_append,List.map_cons,List.map_nil,List.mem_append,List.mem_singleton]
        exact ⟨fun q=>q.symm,fun q=>q.symm⟩)]
   ·rw [decide_eq_false h2,if_neg (by simp),Option.bind_some,if_neg (fun q:okE l[i]=>h2 q.1)]; rfl
  ·rw [if_neg (by omega),List.drop_eq_nil_of_le (by omega)]; rfl
theorem pright {n:Nat} (hn:2000≤n) (l:List Ga) (hl:l.length≤1000):Xp n l=some (right l):=by
 unfold Xp right
 by_cases h:l.length > 32
 ·rw [if_pos (by omega),if_pos h]
 ·rw [if_neg (by omega),if_neg h]
  have hL:=prightL hn l hl n 0 [] (by omega) (by omega) (fun s=>by simp)
  have hL:Kw n l n 0=_:=hL
  rw [hL,Option.bind_some,List.drop_zero]
  by_cases h0:rgo l []=0
  ·rw [if_pos h0,h0]
  ·rw [if_neg h0]
end Go.Proofs.YtdgocccbagbhjaaGreatDoor.pv.dr
