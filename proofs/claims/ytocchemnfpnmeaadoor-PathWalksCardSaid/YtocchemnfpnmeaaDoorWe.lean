/- Ways: what a tree answers, whether one may go through, going down, putting rows together. -/
import Derived.Test.YtocchemnfpnmeaaDoorWd
namespace Go.Proofs.YtocchemnfpnmeaaDoor.pv.pw
set_option linter.all false
open Go.RowKit help pv
/-! the tree: the same on both sides, whatever the fuel -/
abbrev Tr:=Gg
abbrev Nd:=Gk
def nodeV (t:Tr) (k:Int):Option Nd:=if k<1 then none else if k > (t.fNodes.length:Int) then none else (t.fNodes[(k-1).toNat]?).bind fun y=>if y.fStat.fKind=0 then none else some y
theorem nodeG (n:Nat) (t:Tr) (k:Int) (hl:t.fNodes.length<4611686018427387903):GW n t k=some (nodeV t k):=by
 unfold GW nodeV
 by_cases h1:k<1
 ·rw [if_pos h1,if_pos h1]
 by_cases h2:k > (t.fNodes.length:Int)
 ·rw [if_neg h1,if_pos h2,if_neg h1,if_pos h2]
 rw [if_neg h1,if_neg h2,if_neg h1,if_neg h2]
 obtain ⟨j,rfl⟩:∃ j:Nat,k=(j:Int)+1:=⟨(k-1).toNat,by omega⟩
 have e:wi .i64 ((j:Int)+1-1)=(j:Int):=by rw [wi64 (by omega) (by omega)]; omega
 have e2:((j:Int)+1-1).toNat=j:=by omega
 have hj:j<t.fNodes.length:=by omega
 rw [e,e2,getI_nat,List.getElem?_eq_getElem hj]
 simp only [Option.bind_some]
 by_cases h3:t.fNodes[j].fStat.fKind=0
 ·rw [if_pos h3,if_pos h3]
 ·rw [if_neg h3,if_neg h3]
theorem nodeV_mem {t:Tr} {k:Int} {y:Nd} (h:nodeV t k=some y):y∈t.fNodes:=by
 unfold nodeV at h
 split at h
 ·cases h
 split at h
 ·cases h
 cases hq:t.fNodes[(k-1).toNat]? with
 | none=>rw [hq] at h; cases h
 | some z =>
  rw [hq,Option.bind_some] at h
  split at h
  ·cases h
  ·rw [← Option.some.inj h]; exact List.mem_of_getElem? hq
def statV (t:Tr) (k:Int):Gh×Int:=match nodeV t k with
 | none=>(Gh.mk 0 0 0 0 0 0,4)
 | some y=>(y.fStat,0)
structure Fit (n:Nat) (t:Tr):Prop where
 l:t.fNodes.length<4611686018427387903
 e:∀ y∈t.fNodes,y.fNames.length<n∧y.fNames.length<4611686018427387903
 n:100≤n
theorem statG {n:Nat} {t:Tr} (F:Fit n t) (k:Int):GX n t k=some (statV t k):=by
 unfold GX statV
 rw [nodeG n t k F.l,Option.bind_some]
 cases nodeV t k with
 | none=>rfl
 | some y=>rfl
theorem tellG {n:Nat} {t:Tr} (F:Fit n t) {k:Int} {y:Nd} (h:nodeV t k=some y) (h3:y.fStat.fKind=3):SM n t k=some (y.fTell,0):=by
 unfold SM
 rw [nodeG n t k F.l,h,Option.bind_some]
 simp only [Option.isNone_some,Bool.false_eq_true,if_false,Option.bind_some,if_pos h3]
def seek (s:ByteArray):List Zp→Int×Int
 | []=>(0,4)
 | e::l=>if (e.fName.toList == s.toList)=true then (e.fIno,0) else seek s l
theorem seekG (n:Nat) (s:ByteArray) (y:Nd) (hl:y.fNames.length<4611686018427387903):∀ (k i:Nat),y.fNames.length-i<k→i≤y.fNames.length →
  (GT n s y k (i:Int)).bind (fun o=>match o with | .x0 a b=>some (a,b) | .x1=>some (0,4))=some (seek s (y.fNames.drop i))
 | 0,i,h,_=>by omega
 | k+1,i,h,hi=>by
  rw [GT]
  by_cases h1:i<y.fNames.length
  ·rw [if_pos (by omega),getI_nat,List.getElem?_eq_getElem h1,Option.bind_some,List.drop_eq_getElem_cons h1,wi_succ (by omega)]
   unfold seek
   by_cases h2:(y.fNames[i].fName.toList == s.toList)=true
   ·rw [if_pos h2,if_pos h2]; rfl
   ·rw [if_neg h2,if_neg h2]; exact seekG n s y hl k (i+1) (by omega) (by omega)
  ·rw [if_neg (by omega),List.drop_eq_nil_of_le (by omega)]; rfl
def namedV (s:ByteArray):Bool:=(Ky 100 s).getD false
theorem index_b (n:Nat) (l:List Int) (v:Int) (hl:l.length<1000000):∀ (k i:Nat),l.length-i<k→i≤l.length →
  ∃ o,GB n l v k (i:Int)=some o∧(match o with | .x0 j=>0≤j∧v∈l.drop i | .x1=>¬ v∈l.drop i)
 | 0,i,h,_=>by omega
 | k+1,i,h,hi=>by
  rw [GB]
  by_cases hlt:(i:Int)<(l.length:Int)
  ·obtain ⟨x,hx⟩:=get_lt hlt
   rw [if_pos hlt,getI_nat,hx,Option.bind_some,drop_cons hx]
   by_cases e:v=x
   ·rw [if_pos e]
    exact ⟨_,rfl,by omega,by simp [e]⟩
   ·rw [if_neg e,wi_succ (by omega)]
    obtain ⟨o,h1,h2⟩:=index_b n l v hl k (i+1) (by omega) (by omega)
    refine ⟨o,h1,?_⟩
    cases o with
    | x0 j=>exact ⟨h2.1,by simp [h2.2]⟩
    | x1=>simpa [e] using h2
  ·rw [if_neg hlt,drop_end hlt]
   exact ⟨_,rfl,by simp⟩
theorem contains_b (n:Nat) (l:List Int) (v:Int) (hl:l.length<1000000) (hn:l.length<n):GQ n l v=some (l.contains v):=by
 unfold GQ SX
 obtain ⟨o,h1,h2⟩:=index_b n l v hl n 0 (by omega) (by omega)
 have h1:GB n l v n 0=some o:=h1
 rw [h1,Option.bind_some]
 cases o with
 | x0 j =>
  simp only [List.drop_zero] at h2
  simp [h2.1,h2.2]
 | x1 =>
  simp only [List.drop_zero] at h2
  simp [h2]
def namedW (s:ByteArray):Bool:=!(decide ((s.size:Int)<1)||decide ((s.size:Int) > 14)||(s.toList == (ByteArray.mk #[46]).toList)||(s.toList == (ByteArray.mk #[46,46]).toList))&&!((s2b s).contains 0)&&!((s2b s).contains 47)
theorem namedG (n:Nat) (hn:100≤n) (s:ByteArray):Ky n s=some (namedW s):=by
 unfold Ky Za namedW
 by_cases h1:(s.size:Int)<1
 ·rw [if_pos h1,decide_eq_true h1]; rfl
 by_cases h2:(s.size:Int) > 14
 ·rw [if_neg h1,if_pos h2,decide_eq_true h2,Bool.or_true]; rfl
 rw [if_neg h1,if_neg h2,decide_eq_false h1,decide_eq_false h2]
 cases h3:(s.toList == (ByteArray.mk #[46]).toList) with
 | true=>rfl
 | false =>
  cases h4:(s.toList == (ByteArray.mk #[46,46]).toList) with
  | true=>rfl
  | false =>
   have hs:s2bO s=some (s2b s):=by unfold s2bO; rw [if_pos (by unfold maxLen; omega)]
   have hl:(s2b s).length≤14:=by rw [s2b_len]; omega
   simp only [Bool.false_eq_true,if_false,Option.bind_some,hs]
   rw [contains_b n _ _ (by omega) (by omega),contains_b n _ _ (by omega) (by omega)]
   simp only [Option.bind_some]
   cases (s2b s).contains 0 <;> cases (s2b s).contains 47 <;> rfl
def lookV (t:Tr) (d:Int) (s:ByteArray):Int×Int:=if namedW s=true then match nodeV t d with
 | none=>(0,4)
 | some y=>if y.fStat.fKind=2 then seek s y.fNames else (0,12) else (0,3)
theorem lookG {n:Nat} {t:Tr} (F:Fit n t) (d:Int) (s:ByteArray):Su n t d s=some (lookV t d s):=by
 unfold Su lookV
 rw [namedG n F.n,Option.bind_some]
 by_cases h1:namedW s=true
 ·rw [if_pos h1,if_pos h1,nodeG n t d F.l,Option.bind_some]
  cases hq:nodeV t d with
  | none=>rfl
  | some y =>
   simp only [Option.isNone_some,Bool.false_eq_true,if_false,Option.bind_some]
   by_cases h2:y.fStat.fKind=2
   ·rw [if_pos h2,if_pos h2]
    obtain ⟨a,b⟩:=F.e y (nodeV_mem hq)
    have:=seekG n s y b n 0 (by omega) (by omega)
    rw [List.drop_zero] at this
    exact this
   ·rw [if_neg h2,if_neg h2]
 ·rw [if_neg h1,if_neg h1]
/-! may one go through? -/
def chkV (s:Gh):Int:=(SK 20 s).getD 0
theorem chkG (n:Nat) (s:Gh):SK n s=some (chkV s)∧SN n s=some (chkV s)∧(chkV s=0→0≤s.fMode∧s.fMode≤511):=by
 obtain ⟨e,h1,h2,h3⟩:=stat_any n s
 have:chkV s=e:=by
  unfold chkV
  have e1:SK 20 s=SK n s:=rfl
  rw [e1,h1]; rfl
 rw [this]
 exact ⟨h1,h2,h3⟩
def mayV (s:Gh) (c:Gc):Bool:=rf (s.fKind == 2) (c.fCaps % 2 == 1) (c.fCaps / 2 % 2 == 1) 4 (oct s c)
def thr (t:Tr) (c:Gc) (k:Int):Int:=if (statV t k).2=0 then if (statV t k).1.fKind=2 then if chkV (statV t k).1=0 then if mayV (statV t k).1 c=true then 0 else 7 else 7 else 12 else (statV t k).2
theorem thrG {n:Nat} {w:Gn} (F:Fit n w.ft) (hc:okc w.fc) (k:Int):So n w k=some (thr w.ft w.fc k):=by
 have hn:=F.n
 unfold So thr
 rw [statG F,Option.bind_some]
 generalize statV w.ft k=r
 by_cases h1:r.2=0
 ·rw [if_pos h1,if_pos h1]
  by_cases h2:r.1.fKind=2
  ·rw [if_pos h2,if_pos h2]
   obtain ⟨_,g2,g3⟩:=chkG n r.1
   rw [g2,Option.bind_some]
   by_cases h3:chkV r.1=0
   ·obtain ⟨a,b⟩:=g3 h3
    rw [if_pos h3,if_pos h3,may_2 (by omega) r.1 w.fc hc a b 4,Option.bind_some]
    unfold mayV
    split <;> rfl
   ·rw [if_neg h3,if_neg h3]
  ·rw [if_neg h2,if_neg h2]
 ·rw [if_neg h1,if_neg h1]
theorem top_is (n:Nat) (w:Ge) {z:Int} (h:w.fstack[w.fstack.length-1]?=some z) (hl:w.fstack.length<4611686018427387903):Kh n w=some z:=by
 have hlt:=(List.getElem?_eq_some_iff.1 h).1
 unfold Kh
 have e:wi .i64 ((w.fstack.length:Int)-1)=((w.fstack.length-1:Nat):Int):=by rw [wi64 (by omega) (by omega)]; omega
 rw [e,getI_nat,h]; rfl
theorem mayG {n:Nat} {w:Ge} (F:Fit n w.ft) (hc:okc w.fc) (h0:Sm n w.fc=some 0) {z:Int} (h:w.fstack[w.fstack.length-1]?=some z) (hl:w.fstack.length<4611686018427387903):SI n w=some (thr w.ft w.fc z,w):=by
 have hn:=F.n
 unfold SI thr
 rw [top_is n w h hl,Option.bind_some,statG F,Option.bind_some]
 generalize statV w.ft z=r
 by_cases h1:r.2=0
 ·rw [if_pos h1,if_pos h1]
  by_cases h2:r.1.fKind=2
  ·rw [if_pos h2,if_pos h2]
   obtain ⟨g1,_,g3⟩:=chkG n r.1
   by_cases h3:chkV r.1=0
   ·obtain ⟨a,b⟩:=g3 h3
    rw [if_pos h3,may_1 (by omega) r.1 w.fc hc h0 (by rw [g1,h3]) a b 4 (by omega) (by omega),Option.bind_some,if_pos rfl]
    unfold mayV
    simp only
    split <;> rfl
   ·have:ZH n r.1 w.fc 4=some (false,chkV r.1):=by
     unfold ZH
     rw [h0,Option.bind_some,if_pos rfl,g1,Option.bind_some,if_neg h3]
    rw [if_neg h3,this,Option.bind_some]
    simp only
    rw [if_neg h3]
  ·rw [if_neg h2,if_neg h2]
 ·rw [if_neg h1,if_neg h1]
/-! rows put together -/
theorem app_big {α:Type} {b:Nat} {xs ys:List α} (h:(xs.length+ys.length)*b≤140737488355328) (h1:xs.length+ys.length≤maxLen):app b xs ys=some (xs++ys):=by
 unfold app
 rw [if_pos ⟨h1,h⟩]
theorem concI (n:Nat) (hn:3≤n) (a b:List Int) (h:(a.length+b.length)*8≤140737488355328):Sf n [a,b]=some (a++b):=by
 obtain ⟨m,rfl⟩:∃ m,n=m+3:=⟨n-3,by omega⟩
 unfold Sf
 have e0:∀ (x y:List Int),getI [x,y] 0=some x:=fun x y=>rfl
 have e1:∀ (x y:List Int),getI [x,y] 1=some y:=fun x y=>rfl
 have w1:wi .i64 ((0:Int)+1)=1:=wi64 (by omega) (by omega)
 have w2:wi .i64 ((1:Int)+1)=2:=wi64 (by omega) (by omega)
 have wa:wi .i64 (0+(a.length:Int))=a.length:=by rw [wi64 (by omega) (by omega)]; omega
 have wb:wi .i64 ((a.length:Int)+(b.length:Int))=((a.length+b.length:Nat):Int):=by rw [wi64 (by omega) (by omega)]; omega
 have l1:Gx (m+3) [a,b] (m+3) 0 0=some (.x0 ((a.length+b.length:Nat):Int)):=by
  rw [Gx,if_pos (by simp),e0,Option.bind_some,wa,if_neg (by omega),w1,
   Gx,if_pos (by simp),e1,Option.bind_some,wb,if_neg (by omega),w2,
   Gx,if_neg (by simp)]
 rw [l1,Option.bind_some]
 have hg:SB (m+3) ((a.length+b.length:Nat):Int)=some []:=by
  unfold SB
  have w0:wi .i64 ((0:Int)-0)=0:=wi64 (by omega) (by omega)
  have w3:wi .i64 (((a.length+b.length:Nat):Int)-0)=((a.length+b.length:Nat):Int):=by rw [wi64 (by omega) (by omega)]; omega
  rw [if_neg (by omega),w0,w3]
  by_cases hz:((a.length+b.length:Nat):Int) > 0
  ·rw [if_pos hz]
   have:appZ 8 (0:Int) ((a.length+b.length:Nat):Int)=some (List.replicate (a.length+b.length) 0):=by
    unfold appZ
    rw [if_pos (by simp only [Int.toNat_natCast,maxLen]; omega),Int.toNat_natCast]
   rw [this,Option.bind_some]
   have:sub (List.replicate (a.length+b.length) (0:Int)) 0 0=some []:=by
    unfold sub
    rw [if_pos (by simp; omega)]; rfl
   rw [this]; rfl
  ·rw [if_neg hz]
 simp only
 rw [hg,Option.bind_some]
 have l2:Gy (m+3) [a,b] (m+3) 0 []=some (.x0 (a++b)):=by
  rw [Gy,if_pos (by simp),e0,Option.bind_some,app_big (by simp; omega) (by simp; unfold maxLen; omega),Option.bind_some,w1,
   Gy,if_pos (by simp),e1,Option.bind_some,app_big (by simp; omega) (by simp; unfold maxLen; omega),Option.bind_some,w2,
   Gy,if_neg (by simp)]
  simp
 rw [l2]; rfl
end Go.Proofs.YtocchemnfpnmeaaDoor.pv.pw
