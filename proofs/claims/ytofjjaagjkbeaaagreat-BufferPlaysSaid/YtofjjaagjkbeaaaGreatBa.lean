/- BufferPlays: the disk, and the document's. -/
import Derived.Test.YtofjjaagjkbeaaaGreatGuBufferPlays
import Derived.Test.YtofjjaagjkbeaaaGreatLib
import Derived.Test.YtofjjaagjkbeaaaGreatMath
import Derived.Laws.Strings
namespace Go.Proofs.YtofjjaagjkbeaaaGreat.pv.ld
set_option linter.all false
open Go.RowKit help pv
def u8 (x:Int):UInt8:=UInt8.ofNat x.toNat
theorem push_fold (L:List Int):∀ acc:ByteArray,(L.foldl (fun r n=>r.push (UInt8.ofNat n.toNat)) acc).data=acc.data++(L.map u8).toArray:=by
 induction L with
 | nil=>intro acc; simp
 | cons a L ih =>
  intro acc
  rw [List.foldl_cons,ih]
  show acc.data.push (u8 a)++(L.map u8).toArray=acc.data++((u8 a::L.map u8)).toArray
  apply Array.ext'
  simp
theorem b2s_data (L:List Int):(b2s L).data=(L.map u8).toArray:=by
 unfold b2s
 rw [push_fold]
 show (#[]:Array UInt8)++_=_
 simp
theorem b2s_app (L K:List Int):b2s L++b2s K=b2s (L++K):=by
 apply ByteArray.ext
 rw [ByteArray.data_append,b2s_data,b2s_data,b2s_data]
 simp
theorem b2s_size (L:List Int):(b2s L).size=L.length:=by
 show (b2s L).data.size=_
 rw [b2s_data]; simp
theorem cat_b2s (L K:List Int) (h:L.length+K.length≤1000000):catS (b2s L) (b2s K)=some (b2s (L++K)):=by
 unfold catS
 rw [b2s_size,b2s_size,if_pos (by omega),b2s_app]
theorem rep_zero (c:Nat):Lib.repeatL [0] c=List.replicate c (0:UInt8):=by
 induction c with
 | zero=>rfl
 | succ c ih=>rw [Lib.repeatL,ih]; rfl
theorem repeat_b2s (n c:Nat) (h:c≤100):ZH n (ByteArray.mk #[0]) (c:Int)=some (b2s (List.replicate c 0)):=by
 unfold ZH
 have hs:(ByteArray.mk #[0]).size=1:=rfl
 rw [hs,if_pos ⟨by omega,by omega,by simp; omega⟩,Int.toNat_natCast]
 congr 1
 apply ByteArray.ext
 rw [b2s_data]
 have:(ByteArray.mk #[0]).data.toList=[0]:=rfl
 rw [this,rep_zero]
 simp [u8]
def toW (p:Nat×List Int):Gk:=⟨(p.1:Int),p.2⟩
def toP (p:Nat×List Int):Gi:=⟨(p.1:Int),b2s p.2⟩
def put (A:List Int) (p:Nat×List Int):List Int:=A.take (p.1*64)++p.2++A.drop (p.1*64+64)
def sector (A:List Int) (n:Nat):List Int:=(A.take ((n+1)*64)).drop (n*64)
def Wf (S:Nat) (p:Nat×List Int):Prop:=p.1<S∧p.2.length=64
def zeros:List Int:=List.replicate 64 0
def img (S:Nat) (P:List (Nat×List Int)):List Int:=P.foldl put (List.replicate (S*64) 0)
theorem put_len {S:Nat} {A:List Int} {p:Nat×List Int} (hA:A.length=S*64) (hp:Wf S p):(put A p).length=S*64:=by
 obtain ⟨h1,h2⟩:=hp
 unfold put
 simp only [List.length_append,List.length_take,List.length_drop]
 omega
theorem cpyR_put {S:Nat} {A:List Int} {p:Nat×List Int} (hA:A.length=S*64) (hp:Wf S p):cpyR A (p.1*64) A.length p.2=put A p:=by
 obtain ⟨h1,h2⟩:=hp
 unfold cpyR put
 have hm:Nat.min p.2.length (A.length-p.1*64)=64:=by rw [h2]; exact Nat.min_eq_left (by omega)
 rw [hm,List.take_of_length_le (l:=p.2) (by omega)]
theorem cpyR_all {A B:List Int} (h:A.length=B.length):cpyR A 0 A.length B=B:=by
 unfold cpyR
 have hm:Nat.min B.length (A.length-0)=A.length:=by rw [← h]; simp
 rw [hm,List.take_of_length_le (l:=B) (by omega),Nat.zero_add,List.drop_of_length_le (Nat.le_refl _)]
 simp
theorem put_get {S:Nat} {A:List Int} {p:Nat×List Int} (hA:A.length=S*64) (hp:Wf S p) (i:Nat):(put A p)[i]?=if p.1*64≤i∧i<p.1*64+64 then p.2[i-p.1*64]? else A[i]?:=by
 obtain ⟨h1,h2⟩:=hp
 unfold put
 have hl:(A.take (p.1*64)).length=p.1*64:=by rw [List.length_take]; omega
 rw [List.append_assoc]
 by_cases c1:i<p.1*64
 ·rw [List.getElem?_append_left (by omega),List.getElem?_take,if_pos c1,if_neg (by omega)]
 ·rw [List.getElem?_append_right (by omega),hl]
  by_cases c2:i<p.1*64+64
  ·rw [List.getElem?_append_left (by omega),if_pos (by omega)]
  ·rw [List.getElem?_append_right (by omega),if_neg (by omega),List.getElem?_drop]
   congr 1; omega
theorem sector_get (A:List Int) (n j:Nat):(sector A n)[j]?=if j<64 then A[n*64+j]? else none:=by
 unfold sector
 rw [List.getElem?_drop,List.getElem?_take]
 by_cases c:j<64
 ·rw [if_pos c,if_pos (by omega)]
 ·rw [if_neg c,if_neg (by omega)]
theorem sector_put {S:Nat} {A:List Int} {p:Nat×List Int} (hA:A.length=S*64) (hp:Wf S p) (n:Nat):sector (put A p) n=if p.1=n then p.2 else sector A n:=by
 apply List.ext_getElem?
 intro j
 rw [sector_get]
 have h2:=hp.2
 by_cases c:p.1=n
 ·rw [if_pos c]
  subst c
  by_cases cj:j<64
  ·rw [if_pos cj,put_get hA hp,if_pos (by omega)]; congr 1; omega
  ·rw [if_neg cj,List.getElem?_eq_none (by omega)]
 ·rw [if_neg c,sector_get]
  by_cases cj:j<64
  ·rw [if_pos cj,if_pos cj,put_get hA hp,if_neg (by omega)]
  ·rw [if_neg cj,if_neg cj]
theorem img_len {S:Nat}:∀ {P:List (Nat×List Int)} {A:List Int},A.length=S*64→(∀ p∈P,Wf S p)→(P.foldl put A).length=S*64
 | [],A,hA,_=>hA
 | p::P,A,hA,h=>img_len (P:=P) (A:=put A p) (put_len hA (h p (by simp))) fun q hq=>h q (by simp [hq])
theorem img_len' {S:Nat} {P:List (Nat×List Int)} (h:∀ p∈P,Wf S p):(img S P).length=S*64:=img_len (by simp) h
theorem img_snoc (S:Nat) (P:List (Nat×List Int)) (p:Nat×List Int):img S (P++[p])=put (img S P) p:=by simp [img]
def look (Q:List (Nat×List Int)) (n:Nat):List Int:=match Q.find? (fun p=>p.1 == n) with | some p=>p.2 | none=>zeros
theorem sector_look {S n:Nat} (hn:n<S):∀ (Q:List (Nat×List Int)),(∀ p∈Q,Wf S p)→sector (img S Q.reverse) n=look Q n
 | [],_=>by
  apply List.ext_getElem?
  intro j
  rw [sector_get]
  show _=zeros[j]?
  simp only [img,List.reverse_nil,List.foldl_nil,zeros,List.getElem?_replicate]
  by_cases c:j<64
  ·rw [if_pos c,if_pos c,if_pos (by omega)]
  ·rw [if_neg c,if_neg c]
 | q::Q,h=>by
  have ih:=sector_look hn Q (fun p hp=>h p (by simp [hp]))
  rw [List.reverse_cons,img_snoc,sector_put (img_len' (fun p hp=>h p (by simp at hp; simp [hp]))) (h q (by simp)),ih]
  unfold look
  rw [List.find?_cons]
  by_cases c:q.1=n
  ·simp [c]
  ·rw [if_neg c]
   have:(q.1 == n)=false:=by simpa using c
   rw [this]
theorem sector_img {S n:Nat} (hn:n<S) {P:List (Nat×List Int)} (h:∀ p∈P,Wf S p):sector (img S P) n=look P.reverse n:=by
 have:=sector_look hn P.reverse (fun p hp=>h p (by simpa using hp))
 rwa [List.reverse_reverse] at this
theorem lastL {n:Nat} {P:List (Nat×List Int)} (hP:P.length≤2000) (N:Nat):∀ (t k:Nat),t<k→t≤P.length →
  Kj n (P.map toP) (N:Int) k ((t:Int)-1)=some (match (P.take t).reverse.find? (fun p=>p.1 == N) with | some p=>.x0 (b2s p.2) | none=>.x1)
 | 0,k+1,_,_=>by
  rw [Kj,if_neg (by omega)]
  rfl
 | t+1,k+1,hk,ht=>by
  obtain ⟨p,hp⟩:∃ p,P[t]?=some p:=⟨P[t],List.getElem?_eq_getElem (by omega)⟩
  have e:(((t+1:Nat):Int)-1)=(t:Int):=by omega
  rw [Kj,e,if_pos (by omega),getI_nat,List.getElem?_map,hp]
  have ht':P.take (t+1)=P.take t++[p]:=by rw [List.take_succ,hp]; rfl
  rw [ht',List.reverse_append]
  show (if (p.1:Int)=(N:Int) then _ else _)=_
  by_cases c:p.1=N
  ·subst c
   rw [if_pos rfl]
   simp [toP]
  ·rw [if_neg (by omega)]
   have:(p.1 == N)=false:=by simpa using c
   have e2:wi .i64 ((t:Int)-1)=(t:Int)-1:=wi64 (by omega) (by omega)
   simp only [List.reverse_cons,List.reverse_nil,List.nil_append,List.singleton_append,List.find?_cons,this]
   rw [e2]
   exact lastL hP N t k (by omega) (by omega)
theorem last_is {n:Nat} (hn:5000≤n) {P:List (Nat×List Int)} (hP:P.length≤2000) (N:Nat):ZX n (P.map toP) (N:Int)=some (b2s (look P.reverse N)):=by
 unfold ZX
 have h:=lastL (n:=n) hP N P.length n (by omega) (Nat.le_refl _)
 rw [List.take_of_length_le (Nat.le_refl _)] at h
 have e:wi .i64 (((P.map toP).length:Int)-1)=(P.length:Int)-1:=by rw [List.length_map,wi64 (by omega) (by omega)]
 rw [e,h,Option.bind_some]
 unfold look
 cases hf:P.reverse.find? (fun p=>p.1 == N) with
 | some p=>rfl
 | none =>
  simp only []
  have:=repeat_b2s n 64 (by omega)
  have this:ZH n (ByteArray.mk #[0]) 64=_:=this
  rw [this]; rfl
def By (l:List Int):Prop:=∀ x∈l,0≤x∧x<256
def D (S:Nat) (P:List (Nat×List Int)) (m:Nat) (f:Int):Gf:=⟨img S (P.take m),img S P,(P.drop m).map toW,f⟩
def Rf (S:Nat) (P:List (Nat×List Int)) (m:Nat) (f:Int):Gb:=⟨(S:Int),(m:Int),f,P.map toP⟩
structure Inv (S:Nat) (P:List (Nat×List Int)) (m:Nat) (f:Int) (k:Nat):Prop where
 sB:S≤256
 wf:∀ p∈P,Wf S p
 mB:m≤P.length
 kB:P.length≤k
 k60:k≤1500
 fB : -1≤f∧f≤9223372036854775807
 by_:∀ p∈P,By p.2
def nf (f:Int):Int:=if f > 0 then f-1 else f
theorem goesD (n:Nat) {S:Nat} {P:List (Nat×List Int)} {m:Nat} {f:Int} (hf : -1≤f∧f≤9223372036854775807):Ki n (D S P m f)=some (decide (f≠0),D S P m (nf f)):=by
 unfold Ki nf
 show (if f=0 then _ else if f > 0 then _ else _)=_
 by_cases c:f=0
 ·subst c; rfl
 ·rw [if_neg c,decide_eq_true c]
  by_cases c2:f > 0
  ·rw [if_pos c2,if_pos c2,show (D S P m f).ffuse=f from rfl,wi64 (by omega) (by omega)]; rfl
  ·rw [if_neg c2,if_neg c2]
theorem goesR (n:Nat) {S:Nat} {P:List (Nat×List Int)} {m:Nat} {f:Int} (hf : -1≤f∧f≤9223372036854775807):SW n (Rf S P m f)=some (decide (f≠0),Rf S P m (nf f)):=by
 unfold SW nf
 show (if f > 0 then _ else _)=_
 by_cases c2:f > 0
 ·rw [if_pos c2,if_pos c2,show (Rf S P m f).fFuse=f from rfl,wi64 (by omega) (by omega),decide_eq_true (by omega)]; rfl
 ·rw [if_neg c2,if_neg c2]
  have:decide ((Rf S P m f).fFuse<0)=decide (f≠0):=by
   show decide (f<0)=_
   by_cases c:f=0
   ·subst c; rfl
   ·rw [decide_eq_true c,decide_eq_true (by omega)]
  rw [this]
theorem nf_ok {f:Int} (hf : -1≤f∧f≤9223372036854775807) : -1≤nf f∧nf f≤9223372036854775807:=by
 unfold nf; split <;> omega
theorem size_is (n:Nat) {S:Nat} {P:List (Nat×List Int)} {m:Nat} {f:Int} {k:Nat} (h:Inv S P m f k):Kg n (D S P m f)=some ((S:Int),D S P m f):=by
 unfold Kg
 have hl:(D S P m f).fnow.length=S*64:=img_len' h.wf
 have hs:=h.sB
 rw [hl,quo_i64 (by omega) (by omega) (by omega)]
 congr 2
 omega
end Go.Proofs.YtofjjaagjkbeaaaGreat.pv.ld
namespace Go.Proofs.YtofjjaagjkbeaaaGreat.pv.ld
set_option linter.all false
open Go.RowKit help pv
section
variable {n S m k:Nat} {P:List (Nat×List Int)} {f:Int}
theorem write_is (h:Inv S P m f k) (hk:k<1500) (N:Int) (data:List Int) (hby:By data):∃ e P' f',S9 n (D S P m f) N data=some (e,D S P' m f')∧Ss n (Rf S P m f) N (b2s data)=some (e,Rf S P' m f')∧Inv S P' m f' (k+1)∧(¬ N<0→¬ N≥(S:Int)→data.length=64→e=0):=by
 have same:Inv S P m f (k+1):=⟨h.sB,h.wf,h.mB,by have:=h.kB; omega,by omega,h.fB,h.by_⟩
 unfold S9 Ss ZN Zg
 by_cases c1:N<0
 ·rw [if_pos c1,if_pos c1]
  exact ⟨1,P,f,rfl,rfl,same,fun a _ _=>absurd c1 a⟩
 rw [if_neg c1,if_neg c1,size_is n h,Option.bind_some]
 show ∃ e P' f',Option.bind (if N≥(S:Int) then _ else _) _=_∧Option.bind (if N≥(S:Int) then _ else _) _=_∧_∧_
 by_cases c2:N≥(S:Int)
 ·rw [if_pos c2,if_pos c2]
  exact ⟨1,P,f,rfl,rfl,same,fun _ b _=>absurd c2 b⟩
 rw [if_neg c2,if_neg c2,b2s_size,Option.bind_some,Option.bind_some]
 by_cases c3:data.length=64
 ·have hb:((data.length:Int) != 64)=false:=by simp; omega
  rw [hb]
  simp only [Bool.false_eq_true,if_false]
  have g1:Ki n ⟨(D S P m f).fsafe,(D S P m f).fnow,(D S P m f).fwait,(D S P m f).ffuse⟩=some (decide (f≠0),D S P m (nf f)):=goesD n h.fB
  have g2:SW n ⟨(Rf S P m f).fSectors,(Rf S P m f).fMark,(Rf S P m f).fFuse,(Rf S P m f).fAll⟩=some (decide (f≠0),Rf S P m (nf f)):=goesR n h.fB
  rw [g1,g2,Option.bind_some,Option.bind_some]
  simp only []
  have same2:Inv S P m (nf f) (k+1):=⟨h.sB,h.wf,h.mB,by have:=h.kB; omega,by omega,nf_ok h.fB,h.by_⟩
  by_cases c4:f=0
  ·rw [decide_eq_false (by omega)]
   simp only [Bool.false_eq_true,if_false]
   exact ⟨0,P,nf f,rfl,rfl,same2,fun _ _ _=>rfl⟩
  ·rw [decide_eq_true c4]
   simp only [if_true]
   obtain ⟨q,rfl⟩:=Int.eq_ofNat_of_zero_le (show 0≤N by omega)
   have hp:Wf S (q,data):=⟨by show q<S; omega,c3⟩
   have hPl:=h.kB
   have hS:=h.sB
   have hl:(D S P m (nf f)).fnow.length=S*64:=img_len' h.wf
   have e1:wi .i64 ((q:Int)*64)=((q*64:Nat):Int):=by rw [wi64 (by omega) (by omega)]; omega
   unfold Gq
   rw [app_le (m:=3000) (by simp; omega) (by decide) (by decide),Option.bind_some,
    app_le (m:=3000) (by simp [D]; omega) (by decide) (by decide),Option.bind_some,
    app_le (m:=3000) (by simp [Rf]; omega) (by decide) (by decide),Option.bind_some,e1,if_pos (by rw [hl]; omega),if_pos (Nat.le_refl _),Int.toNat_natCast]
   refine ⟨0,P++[(q,data)],nf f,?_,?_,⟨h.sB,fun p hp'=>?_,by simp; have:=h.mB; omega,by simp; omega,by omega,nf_ok h.fB,fun p hp'=>?_⟩,fun _ _ _=>rfl⟩
   ·have hc:=cpyR_put (img_len' h.wf) hp
    have e2:(P++[(q,data)]).take m=P.take m:=List.take_append_of_le_length h.mB
    have e3:(P++[(q,data)]).drop m=P.drop m++[(q,data)]:=List.drop_append_of_le_length h.mB
    simp only [D,e2,e3,List.map_append,img_snoc,List.nil_append,← hc]
    rfl
   ·simp [Rf,toP]
   ·simp at hp'
    rcases hp' with hp' | rfl
    ·exact h.wf p hp'
    ·exact hp
   ·rcases List.mem_append.1 hp' with hp' | hp'
    ·exact h.by_ p hp'
    ·rw [List.mem_singleton.1 hp']; exact hby
 ·have hb:((data.length:Int) != 64)=true:=by simp; omega
  rw [hb]
  exact ⟨1,P,f,rfl,rfl,same,fun _ _ c=>absurd c c3⟩
theorem flush_is (h:Inv S P m f k) (hk:k<1500):∃ m' f',Kx n (D S P m f)=some (D S P m' f')∧SN n (Rf S P m f)=some (Rf S P m' f')∧Inv S P m' f' (k+1):=by
 unfold Kx SN
 rw [goesD n h.fB,goesR n h.fB,Option.bind_some,Option.bind_some]
 simp only []
 by_cases c4:f=0
 ·rw [decide_eq_false (by omega)]
  simp only [Bool.false_eq_true,if_false]
  exact ⟨m,nf f,rfl,rfl,h.sB,h.wf,h.mB,by have:=h.kB; omega,by omega,nf_ok h.fB,h.by_⟩
 ·rw [decide_eq_true c4]
  simp only [if_true]
  refine ⟨P.length,nf f,?_,?_,h.sB,h.wf,Nat.le_refl _,by have:=h.kB; omega,by omega,nf_ok h.fB,h.by_⟩
  ·have hl:(img S (P.take m)).length=(img S P).length:=by rw [img_len' h.wf,img_len' (fun p hp=>h.wf p (List.mem_of_mem_take hp))]
   simp only [D,cpyR_all hl,List.take_length,List.drop_length,List.map_nil]
  ·simp [Rf]
theorem read_is (h:Inv S P m f k) (N:Int):KN n (D S P m f) N=some (if N<0∨N≥(S:Int) then ([],1,D S P m f) else (sector (img S P) N.toNat,0,D S P m f)):=by
 have hS:=h.sB
 have hl:(D S P m f).fnow.length=S*64:=img_len' h.wf
 unfold KN
 by_cases c1:N<0
 ·rw [if_pos c1,if_pos (.inl c1)]
 rw [if_neg c1,size_is n h,Option.bind_some]
 simp only []
 by_cases c2:N≥(S:Int)
 ·rw [if_pos c2,if_pos (.inr c2)]
 rw [if_neg c2,if_neg (show ¬ (N<0∨N≥(S:Int)) by omega)]
 obtain ⟨q,rfl⟩:=Int.eq_ofNat_of_zero_le (show 0≤N by omega)
 have e1:wi .i64 ((q:Int)*64)=((q*64:Nat):Int):=by rw [wi64 (by omega) (by omega)]; omega
 have e2:wi .i64 ((q:Int)+1)=((q+1:Nat):Int):=wi_succ (by omega)
 have e3:wi .i64 (((q+1:Nat):Int)*64)=(((q+1)*64:Nat):Int):=by rw [wi64 (by omega) (by omega)]; omega
 rw [e1,e2,e3,if_pos (by rw [hl]; omega),Int.toNat_natCast,Int.toNat_natCast,if_pos (by rw [hl]; omega),Int.toNat_natCast]
 unfold Gq
 rw [app_le (m:=1000000) (by simp only [List.length_nil,List.length_drop,List.length_take]; omega) (by decide) (by decide)]
 rfl
theorem readR (hn:5000≤n) (h:Inv S P m f k) {q:Nat} (hq:q<S):SX n ⟨(S:Int),(m:Int),f,P.map toP⟩ (q:Int)=some (b2s (sector (img S P) q),⟨(S:Int),(m:Int),f,P.map toP⟩):=by
 unfold SX
 have hk:=h.kB
 have hk2:=h.k60
 rw [sector_img hq h.wf,last_is hn (by omega),Option.bind_some]
theorem imageL (hn:5000≤n) (h:Inv S P m f k) {d:Gb} (hd:d.fSectors=(S:Int)):∀ (t i:Nat),S-i<t→i≤S →
  Sb n d t (b2s ((img S (P.take m)).take (i*64))) (i:Int) (S:Int) (m:Int) f (P.map toP)=some (.x0 (b2s (img S (P.take m))) (S:Int) (m:Int) f (P.map toP))
 | 0,i,ht,_=>by omega
 | t+1,i,ht,hi=>by
  have hS:=h.sB
  have hm:=h.mB
  have hk:=h.kB
  have hk2:=h.k60
  have hT:∀ p∈P.take m,Wf S p:=fun p hp=>h.wf p (List.mem_of_mem_take hp)
  have hl:=img_len' hT
  rw [Sb,hd]
  by_cases c:(i:Int)<(S:Int)
  ·have hs:Ze n ⟨(S:Int),(m:Int),f,P.map toP⟩ (i:Int)=some (b2s (sector (img S (P.take m)) i),⟨(S:Int),(m:Int),f,P.map toP⟩):=by
    unfold Ze
    simp only [List.length_map,Int.toNat_natCast]
    rw [if_pos (by omega),if_pos (by omega),List.drop_zero,← List.map_take,last_is hn (by rw [List.length_take]; omega),Option.bind_some,sector_img (by omega) hT]
   have hsl:(sector (img S (P.take m)) i).length=64:=by unfold sector; rw [List.length_drop,List.length_take]; omega
   rw [if_pos c,hs,Option.bind_some]
   simp only []
   rw [cat_b2s _ _ (by rw [hsl,List.length_take]; omega),Option.bind_some,wi_succ (by omega)]
   have e:(img S (P.take m)).take (i*64)++sector (img S (P.take m)) i=(img S (P.take m)).take ((i+1)*64):=by
    unfold sector
    have e1:(img S (P.take m)).take (i*64)=((img S (P.take m)).take ((i+1)*64)).take (i*64):=by rw [List.take_take]; congr 1; omega
    rw [e1,List.take_append_drop]
   rw [e]
   exact imageL hn h hd t (i+1) (by omega) (by omega)
  ·have:i=S:=by omega
   subst this
   rw [if_neg c,List.take_of_length_le (by omega)]
end
end Go.Proofs.YtofjjaagjkbeaaaGreat.pv.ld
namespace Go.Proofs.YtofjjaagjkbeaaaGreat.pv.bp
set_option linter.all false
open Go.RowKit help pv ld
theorem By.app {L K:List Int} (h1:By L) (h2:By K):By (L++K):=fun x hx=>by
 rcases List.mem_append.1 hx with q | q
 ·exact h1 x q
 ·exact h2 x q
theorem By.rep (m:Nat):By (List.replicate m 0):=fun x hx=>by
 rw [List.mem_replicate] at hx; omega
theorem By.take {L:List Int} (h:By L) (k:Nat):By (L.take k):=fun x hx=>h x (List.mem_of_mem_take hx)
theorem By.drop {L:List Int} (h:By L) (k:Nat):By (L.drop k):=fun x hx=>h x (List.mem_of_mem_drop hx)
theorem by_put {A:List Int} {p:Nat×List Int} (hA:By A) (hp:By p.2):By (put A p):=by
 unfold put
 exact By.app (By.app (By.take hA _) hp) (By.drop hA _)
theorem by_img (S:Nat):∀ (P:List (Nat×List Int)),(∀ p∈P,By p.2)→By (img S P):=by
 intro P h
 unfold img
 have:∀ (P:List (Nat×List Int)) (A:List Int),By A→(∀ p∈P,By p.2)→By (P.foldl put A):=by
  intro P
  induction P with
  | nil=>intro A hA _; exact hA
  | cons p P ih=>intro A hA h; exact ih (put A p) (by_put hA (h p (by simp))) (fun q hq=>h q (by simp [hq]))
 exact this P _ (By.rep _) h
def Rel (S:Nat) (d:Gf) (r:Gb) (k:Nat):Prop:=∃ P m f,Inv S P m f k∧d=D S P m f∧r=Rf S P m f
section
variable {n S k:Nat} {d:Gf} {r:Gb}
theorem Rel.write (n:Nat) (R:Rel S d r k) (hk:k<1500) (N:Int) (data:List Int) (hby:By data):∃ e d' r',S9 n d N data=some (e,d')∧Ss n r N (b2s data)=some (e,r')∧Rel S d' r' (k+1)∧(¬ N<0→¬ N≥(S:Int)→data.length=64→e=0):=by
 obtain ⟨P,m,f,h,rfl,rfl⟩:=R
 obtain ⟨e,P',f',h1,h2,h3,h4⟩:=write_is (n:=n) h hk N data hby
 exact ⟨e,_,_,h1,h2,⟨P',m,f',h3,rfl,rfl⟩,h4⟩
theorem Rel.flush (n:Nat) (R:Rel S d r k) (hk:k<1500):∃ d' r',Kx n d=some d'∧SN n r=some r'∧Rel S d' r' (k+1):=by
 obtain ⟨P,m,f,h,rfl,rfl⟩:=R
 obtain ⟨m',f',h1,h2,h3⟩:=flush_is (n:=n) h hk
 exact ⟨_,_,h1,h2,⟨P,m',f',h3,rfl,rfl⟩⟩
theorem Rel.size (n:Nat) (R:Rel S d r k):Kg n d=some ((S:Int),d):=by
 obtain ⟨P,m,f,h,rfl,rfl⟩:=R
 exact size_is n h
theorem Rel.sect (R:Rel S d r k):r.fSectors=(S:Int):=by
 obtain ⟨P,m,f,h,rfl,rfl⟩:=R
 rfl
theorem Rel.mono (R:Rel S d r k) {k':Nat} (h:k≤k') (h2:k'≤1500):Rel S d r k':=by
 obtain ⟨P,m,f,h',rfl,rfl⟩:=R
 exact ⟨P,m,f,⟨h'.sB,h'.wf,h'.mB,by have:=h'.kB; omega,h2,h'.fB,h'.by_⟩,rfl,rfl⟩
theorem Rel.read (hn:5000≤n) (R:Rel S d r k) {q:Nat} (hq:q<S):KN n d (q:Int)=some (sector d.fnow q,0,d)∧SX n r (q:Int)=some (b2s (sector d.fnow q),r)∧(sector d.fnow q).length=64∧By (sector d.fnow q):=by
 obtain ⟨P,m,f,h,rfl,rfl⟩:=R
 have h1:=read_is (n:=n) h (q:Int)
 rw [if_neg (by omega),Int.toNat_natCast] at h1
 have hl:(img S P).length=S*64:=img_len' h.wf
 refine ⟨h1,readR hn h hq,?_,?_⟩
 ·show (sector (img S P) q).length=64
  unfold sector
  rw [List.length_drop,List.length_take,hl]
  omega
 ·show By (sector (img S P) q)
  unfold sector
  exact By.drop (By.take (by_img S P h.by_) _) _
theorem Rel.waits (R:Rel S d r k):wi .i64 ((r.fAll.length:Int)-r.fMark)=(d.fwait.length:Int):=by
 obtain ⟨P,m,f,h,rfl,rfl⟩:=R
 have hm:=h.mB
 have hk1:=h.kB
 have hk2:=h.k60
 show wi .i64 (((P.map toP).length:Int)-(m:Int))=(((P.drop m).map toW).length:Int)
 rw [List.length_map,List.length_map,List.length_drop,wi64 (by omega) (by omega)]; omega
theorem Rel.image (hn:5000≤n) (R:Rel S d r k):∃ b,Zc n d=some (b,d)∧Kl n r=some (b2s b,r):=by
 obtain ⟨P,m,f,h,rfl,rfl⟩:=R
 have hS:=h.sB
 refine ⟨img S (P.take m),?_,?_⟩
 ·unfold Zc Gq
  have hT:∀ p∈P.take m,Wf S p:=fun p hp=>h.wf p (List.mem_of_mem_take hp)
  have hsl:(D S P m f).fsafe.length=S*64:=img_len' hT
  rw [app_le (m:=1000000) (by rw [hsl,List.length_nil]; omega) (by decide) (by decide),Option.bind_some]
  rfl
 ·unfold Kl
  have hI:=imageL (n:=n) hn h (d:=Rf S P m f) rfl n 0 (by omega) (by omega)
  have h0':b2s ((img S (P.take m)).take (0*64))=ByteArray.mk #[]:=rfl
  rw [h0'] at hI
  have hI:Sb n (Rf S P m f) n (ByteArray.mk #[]) 0 (Rf S P m f).fSectors (Rf S P m f).fMark (Rf S P m f).fFuse (Rf S P m f).fAll=_:=hI
  rw [hI,Option.bind_some]
  rfl
end
end Go.Proofs.YtofjjaagjkbeaaaGreat.pv.bp
