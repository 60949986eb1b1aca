/- JournalPlays: the disk; numbers as bytes; what a journal has; opening -/
import Derived.Test.YtgdhhaddfllkaaaGuJournalPlays
import Derived.Test.YtgdhhaddfllkaaaLib
import Derived.Test.YtgdhhaddfllkaaaMath
import Derived.Test.YtgdhhaddfllkaaaSall
import Derived.Laws.Strings
namespace Go.Proofs.Ytgdhhaddfllkaaa.pv.ld
set_option linter.all false
open Go.RowKit help pv
def u8 (x:Int):UInt8:=UInt8.ofNat x.toNat
theorem push_fold (L:List Int):∀ acc:ByteArray,(L.foldl (fun r n=>r.push (UInt8.ofNat n.toNat)) acc).data=acc.data++(L.map u8).toArray:=by
 induction L with
 | nil=>intro acc; simp
 | cons a L ih =>
  intro acc
  rw [List.foldl_cons,ih]
  show acc.data.push (u8 a)++(L.map u8).toArray=acc.data++((u8 a::L.map u8)).toArray
  apply Array.ext'
  simp
theorem b2s_data (L:List Int):(b2s L).data=(L.map u8).toArray:=by
 unfold b2s
 rw [push_fold]
 show (#[]:Array UInt8)++_=_
 simp
theorem b2s_app (L K:List Int):b2s L++b2s K=b2s (L++K):=by
 apply ByteArray.ext
 rw [ByteArray.data_append,b2s_data,b2s_data,b2s_data]
 simp
theorem b2s_size (L:List Int):(b2s L).size=L.length:=by
 show (b2s L).data.size=_
 rw [b2s_data]; simp
theorem cat_b2s (L K:List Int) (h:L.length+K.length≤1000000):catS (b2s L) (b2s K)=some (b2s (L++K)):=by
 unfold catS
 rw [b2s_size,b2s_size,if_pos (by omega),b2s_app]
theorem rep_zero (c:Nat):Lib.repeatL [0] c=List.replicate c (0:UInt8):=by
 induction c with
 | zero=>rfl
 | succ c ih=>rw [Lib.repeatL,ih]; rfl
theorem repeat_b2s (n c:Nat) (h:c≤100):Yo n (ByteArray.mk #[0]) (c:Int)=some (b2s (List.replicate c 0)):=by
 unfold Yo
 have hs:(ByteArray.mk #[0]).size=1:=rfl
 rw [hs,if_pos ⟨by omega,by omega,by simp; omega⟩,Int.toNat_natCast]
 congr 1
 apply ByteArray.ext
 rw [b2s_data]
 have:(ByteArray.mk #[0]).data.toList=[0]:=rfl
 rw [this,rep_zero]
 simp [u8]
def toW (p:Nat×List Int):Gi:=⟨(p.1:Int),p.2⟩
def toP (p:Nat×List Int):Gd:=⟨(p.1:Int),b2s p.2⟩
def put (A:List Int) (p:Nat×List Int):List Int:=A.take (p.1*64)++p.2++A.drop (p.1*64+64)
def sector (A:List Int) (n:Nat):List Int:=(A.take ((n+1)*64)).drop (n*64)
def Wf (S:Nat) (p:Nat×List Int):Prop:=p.1<S∧p.2.length=64
def zeros:List Int:=List.replicate 64 0
def img (S:Nat) (P:List (Nat×List Int)):List Int:=P.foldl put (List.replicate (S*64) 0)
theorem put_len {S:Nat} {A:List Int} {p:Nat×List Int} (hA:A.length=S*64) (hp:Wf S p):(put A p).length=S*64:=by
 obtain ⟨h1,h2⟩:=hp
 unfold put
 simp only [List.length_append,List.length_take,List.length_drop]
 omega
theorem cpyR_put {S:Nat} {A:List Int} {p:Nat×List Int} (hA:A.length=S*64) (hp:Wf S p):cpyR A (p.1*64) A.length p.2=put A p:=by
 obtain ⟨h1,h2⟩:=hp
 unfold cpyR put
 have hm:Nat.min p.2.length (A.length-p.1*64)=64:=by rw [h2]; exact Nat.min_eq_left (by omega)
 rw [hm,List.take_of_length_le (l:=p.2) (by omega)]
theorem cpyR_all {A B:List Int} (h:A.length=B.length):cpyR A 0 A.length B=B:=by
 unfold cpyR
 have hm:Nat.min B.length (A.length-0)=A.length:=by rw [← h]; simp
 rw [hm,List.take_of_length_le (l:=B) (by omega),Nat.zero_add,List.drop_of_length_le (Nat.le_refl _)]
 simp
theorem put_get {S:Nat} {A:List Int} {p:Nat×List Int} (hA:A.length=S*64) (hp:Wf S p) (i:Nat):(put A p)[i]?=if p.1*64≤i∧i<p.1*64+64 then p.2[i-p.1*64]? else A[i]?:=by
 obtain ⟨h1,h2⟩:=hp
 unfold put
 have hl:(A.take (p.1*64)).length=p.1*64:=by rw [List.length_take]; omega
 rw [List.append_assoc]
 by_cases c1:i<p.1*64
 ·rw [List.getElem?_append_left (by omega),List.getElem?_take,if_pos c1,if_neg (by omega)]
 ·rw [List.getElem?_append_right (by omega),hl]
  by_cases c2:i<p.1*64+64
  ·rw [List.getElem?_append_left (by omega),if_pos (by omega)]
  ·rw [List.getElem?_append_right (by omega),if_neg (by omega),List.getElem?_drop]
   congr 1; omega
theorem sector_get (A:List Int) (n j:Nat):(sector A n)[j]?=if j<64 then A[n*64+j]? else none:=by
 unfold sector
 rw [List.getElem?_drop,List.getElem?_take]
 by_cases c:j<64
 ·rw [if_pos c,if_pos (by omega)]
 ·rw [if_neg c,if_neg (by omega)]
theorem sector_put {S:Nat} {A:List Int} {p:Nat×List Int} (hA:A.length=S*64) (hp:Wf S p) (n:Nat):sector (put A p) n=if p.1=n then p.2 else sector A n:=by
 apply List.ext_getElem?
 intro j
 rw [sector_get]
 have h2:=hp.2
 by_cases c:p.1=n
 ·rw [if_pos c]
  subst c
  by_cases cj:j<64
  ·rw [if_pos cj,put_get hA hp,if_pos (by omega)]; congr 1; omega
  ·rw [if_neg cj,List.getElem?_eq_none (by omega)]
 ·rw [if_neg c,sector_get]
  by_cases cj:j<64
  ·rw [if_pos cj,if_pos cj,put_get hA hp,if_neg (by omega)]
  ·rw [if_neg cj,if_neg cj]
theorem img_len {S:Nat}:∀ {P:List (Nat×List Int)} {A:List Int},A.length=S*64→(∀ p∈P,Wf S p)→(P.foldl put A).length=S*64
 | [],A,hA,_=>hA
 | p::P,A,hA,h=>img_len (P:=P) (A:=put A p) (put_len hA (h p (by simp))) fun q hq=>h q (by simp [hq])
theorem img_len' {S:Nat} {P:List (Nat×List Int)} (h:∀ p∈P,Wf S p):(img S P).length=S*64:=img_len (by simp) h
theorem img_snoc (S:Nat) (P:List (Nat×List Int)) (p:Nat×List Int):img S (P++[p])=put (img S P) p:=by simp [img]
def look (Q:List (Nat×List Int)) (n:Nat):List Int:=match Q.find? (fun p=>p.1 == n) with | some p=>p.2 | none=>zeros
theorem sector_look {S n:Nat} (hn:n<S):∀ (Q:List (Nat×List Int)),(∀ p∈Q,Wf S p)→sector (img S Q.reverse) n=look Q n
 | [],_=>by
  apply List.ext_getElem?
  intro j
  rw [sector_get]
  show _=zeros[j]?
  simp only [img,List.reverse_nil,List.foldl_nil,zeros,List.getElem?_replicate]
  by_cases c:j<64
  ·rw [if_pos c,if_pos c,if_pos (by omega)]
  ·rw [if_neg c,if_neg c]
 | q::Q,h=>by
  have ih:=sector_look hn Q (fun p hp=>h p (by simp [hp]))
  rw [List.reverse_cons,img_snoc,sector_put (img_len' (fun p hp=>h p (by simp at hp; simp [hp]))) (h q (by simp)),ih]
  unfold look
  rw [List.find?_cons]
  by_cases c:q.1=n
  ·simp [c]
  ·rw [if_neg c]
   have:(q.1 == n)=false:=by simpa using c
   rw [this]
theorem sector_img {S n:Nat} (hn:n<S) {P:List (Nat×List Int)} (h:∀ p∈P,Wf S p):sector (img S P) n=look P.reverse n:=by
 have:=sector_look hn P.reverse (fun p hp=>h p (by simpa using hp))
 rwa [List.reverse_reverse] at this
theorem lastL {n:Nat} {P:List (Nat×List Int)} (hP:P.length≤2000) (N:Nat):∀ (t k:Nat),t<k→t≤P.length →
  K4 n (P.map toP) (N:Int) k ((t:Int)-1)=some (match (P.take t).reverse.find? (fun p=>p.1 == N) with | some p=>.x0 (b2s p.2) | none=>.x1)
 | 0,k+1,_,_=>by
  rw [K4,if_neg (by omega)]
  rfl
 | t+1,k+1,hk,ht=>by
  obtain ⟨p,hp⟩:∃ p,P[t]?=some p:=⟨P[t],List.getElem?_eq_getElem (by omega)⟩
  have e:(((t+1:Nat):Int)-1)=(t:Int):=by omega
  rw [K4,e,if_pos (by omega),getI_nat,List.getElem?_map,hp]
  have ht':P.take (t+1)=P.take t++[p]:=by rw [List.take_succ,hp]; rfl
  rw [ht',List.reverse_append]
  show (if (p.1:Int)=(N:Int) then _ else _)=_
  by_cases c:p.1=N
  ·subst c
   rw [if_pos rfl]
   simp [toP]
  ·rw [if_neg (by omega)]
   have:(p.1 == N)=false:=by simpa using c
   have e2:wi .i64 ((t:Int)-1)=(t:Int)-1:=wi64 (by omega) (by omega)
   simp only [List.reverse_cons,List.reverse_nil,List.nil_append,List.singleton_append,List.find?_cons,this]
   rw [e2]
   exact lastL hP N t k (by omega) (by omega)
theorem last_is {n:Nat} (hn:5000≤n) {P:List (Nat×List Int)} (hP:P.length≤2000) (N:Nat):Xw n (P.map toP) (N:Int)=some (b2s (look P.reverse N)):=by
 unfold Xw
 have h:=lastL (n:=n) hP N P.length n (by omega) (Nat.le_refl _)
 rw [List.take_of_length_le (Nat.le_refl _)] at h
 have e:wi .i64 (((P.map toP).length:Int)-1)=(P.length:Int)-1:=by rw [List.length_map,wi64 (by omega) (by omega)]
 rw [e,h,Option.bind_some]
 unfold look
 cases hf:P.reverse.find? (fun p=>p.1 == N) with
 | some p=>rfl
 | none =>
  simp only []
  have:=repeat_b2s n 64 (by omega)
  have this:Yo n (ByteArray.mk #[0]) 64=_:=this
  rw [this]; rfl
def By (l:List Int):Prop:=∀ x∈l,0≤x∧x<256
def D (S:Nat) (P:List (Nat×List Int)) (m:Nat) (f:Int):Gg:=⟨img S (P.take m),img S P,(P.drop m).map toW,f⟩
def Rf (S:Nat) (P:List (Nat×List Int)) (m:Nat) (f:Int):Gf:=⟨(S:Int),(m:Int),f,P.map toP⟩
structure Inv (S:Nat) (P:List (Nat×List Int)) (m:Nat) (f:Int) (k:Nat):Prop where
 sB:S≤256
 wf:∀ p∈P,Wf S p
 mB:m≤P.length
 kB:P.length≤k
 k60:k≤1500
 fB : -1≤f∧f≤9223372036854775807
 by_:∀ p∈P,By p.2
def nf (f:Int):Int:=if f > 0 then f-1 else f
theorem goesD (n:Nat) {S:Nat} {P:List (Nat×List Int)} {m:Nat} {f:Int} (hf : -1≤f∧f≤9223372036854775807):K3 n (D S P m f)=some (decide (f≠0),D S P m (nf f)):=by
 unfold K3 nf
 show (if f=0 then _ else if f > 0 then _ else _)=_
 by_cases c:f=0
 ·subst c; rfl
 ·rw [if_neg c,decide_eq_true c]
  by_cases c2:f > 0
  ·rw [if_pos c2,if_pos c2,show (D S P m f).ffuse=f from rfl,wi64 (by omega) (by omega)]; rfl
  ·rw [if_neg c2,if_neg c2]
theorem goesR (n:Nat) {S:Nat} {P:List (Nat×List Int)} {m:Nat} {f:Int} (hf : -1≤f∧f≤9223372036854775807):KO n (Rf S P m f)=some (decide (f≠0),Rf S P m (nf f)):=by
 unfold KO nf
 show (if f > 0 then _ else _)=_
 by_cases c2:f > 0
 ·rw [if_pos c2,if_pos c2,show (Rf S P m f).fFuse=f from rfl,wi64 (by omega) (by omega),decide_eq_true (by omega)]; rfl
 ·rw [if_neg c2,if_neg c2]
  have:decide ((Rf S P m f).fFuse<0)=decide (f≠0):=by
   show decide (f<0)=_
   by_cases c:f=0
   ·subst c; rfl
   ·rw [decide_eq_true c,decide_eq_true (by omega)]
  rw [this]
theorem nf_ok {f:Int} (hf : -1≤f∧f≤9223372036854775807) : -1≤nf f∧nf f≤9223372036854775807:=by
 unfold nf; split <;> omega
theorem size_is (n:Nat) {S:Nat} {P:List (Nat×List Int)} {m:Nat} {f:Int} {k:Nat} (h:Inv S P m f k):G7 n (D S P m f)=some ((S:Int),D S P m f):=by
 unfold G7
 have hl:(D S P m f).fnow.length=S*64:=img_len' h.wf
 have hs:=h.sB
 rw [hl,quo_i64 (by omega) (by omega) (by omega)]
 congr 2
 omega
end Go.Proofs.Ytgdhhaddfllkaaa.pv.ld
namespace Go.Proofs.Ytgdhhaddfllkaaa.pv.ld
set_option linter.all false
open Go.RowKit help pv
section
variable {n S m k:Nat} {P:List (Nat×List Int)} {f:Int}
theorem write_is (h:Inv S P m f k) (hk:k<1500) (N:Int) (data:List Int) (hby:By data):∃ e P' f',Gv n (D S P m f) N data=some (e,D S P' m f')∧Gs n (Rf S P m f) N (b2s data)=some (e,Rf S P' m f')∧Inv S P' m f' (k+1)∧(¬ N<0→¬ N≥(S:Int)→data.length=64→e=0):=by
 have same:Inv S P m f (k+1):=⟨h.sB,h.wf,h.mB,by have:=h.kB; omega,by omega,h.fB,h.by_⟩
 unfold Gv Gs YZ Yf
 by_cases c1:N<0
 ·rw [if_pos c1,if_pos c1]
  exact ⟨1,P,f,rfl,rfl,same,fun a _ _=>absurd c1 a⟩
 rw [if_neg c1,if_neg c1,size_is n h,Option.bind_some]
 show ∃ e P' f',Option.bind (if N≥(S:Int) then _ else _) _=_∧Option.bind (if N≥(S:Int) then _ else _) _=_∧_∧_
 by_cases c2:N≥(S:Int)
 ·rw [if_pos c2,if_pos c2]
  exact ⟨1,P,f,rfl,rfl,same,fun _ b _=>absurd c2 b⟩
 rw [if_neg c2,if_neg c2,b2s_size,Option.bind_some,Option.bind_some]
 by_cases c3:data.length=64
 ·have hb:((data.length:Int) != 64)=false:=by simp; omega
  rw [hb]
  simp only [Bool.false_eq_true,if_false]
  have g1:K3 n ⟨(D S P m f).fsafe,(D S P m f).fnow,(D S P m f).fwait,(D S P m f).ffuse⟩=some (decide (f≠0),D S P m (nf f)):=goesD n h.fB
  have g2:KO n ⟨(Rf S P m f).fSectors,(Rf S P m f).fMark,(Rf S P m f).fFuse,(Rf S P m f).fAll⟩=some (decide (f≠0),Rf S P m (nf f)):=goesR n h.fB
  rw [g1,g2,Option.bind_some,Option.bind_some]
  simp only []
  have same2:Inv S P m (nf f) (k+1):=⟨h.sB,h.wf,h.mB,by have:=h.kB; omega,by omega,nf_ok h.fB,h.by_⟩
  by_cases c4:f=0
  ·rw [decide_eq_false (by omega)]
   simp only [Bool.false_eq_true,if_false]
   exact ⟨0,P,nf f,rfl,rfl,same2,fun _ _ _=>rfl⟩
  ·rw [decide_eq_true c4]
   simp only [if_true]
   obtain ⟨q,rfl⟩:=Int.eq_ofNat_of_zero_le (show 0≤N by omega)
   have hp:Wf S (q,data):=⟨by show q<S; omega,c3⟩
   have hPl:=h.kB
   have hS:=h.sB
   have hl:(D S P m (nf f)).fnow.length=S*64:=img_len' h.wf
   have e1:wi .i64 ((q:Int)*64)=((q*64:Nat):Int):=by rw [wi64 (by omega) (by omega)]; omega
   unfold GC
   rw [app_le (m:=3000) (by simp; omega) (by decide) (by decide),Option.bind_some,
    app_le (m:=3000) (by simp [D]; omega) (by decide) (by decide),Option.bind_some,
    app_le (m:=3000) (by simp [Rf]; omega) (by decide) (by decide),Option.bind_some,e1,if_pos (by rw [hl]; omega),if_pos (Nat.le_refl _),Int.toNat_natCast]
   refine ⟨0,P++[(q,data)],nf f,?_,?_,⟨h.sB,fun p hp'=>?_,by simp; have:=h.mB; omega,by simp; omega,by omega,nf_ok h.fB,fun p hp'=>?_⟩,fun _ _ _=>rfl⟩
   ·have hc:=cpyR_put (img_len' h.wf) hp
    have e2:(P++[(q,data)]).take m=P.take m:=List.take_append_of_le_length h.mB
    have e3:(P++[(q,data)]).drop m=P.drop m++[(q,data)]:=List.drop_append_of_le_length h.mB
    simp only [D,e2,e3,List.map_append,img_snoc,List.nil_append,← hc]
    rfl
   ·simp [Rf,toP]
   ·simp at hp'
    rcases hp' with hp' | rfl
    ·exact h.wf p hp'
    ·exact hp
   ·rcases List.mem_append.1 hp' with hp' | hp'
    ·exact h.by_ p hp'
    ·rw [List.mem_singleton.1 hp']; exact hby
 ·have hb:((data.length:Int) != 64)=true:=by simp; omega
  rw [hb]
  exact ⟨1,P,f,rfl,rfl,same,fun _ _ c=>absurd c c3⟩
theorem flush_is (h:Inv S P m f k) (hk:k<1500):∃ m' f',G3 n (D S P m f)=some (D S P m' f')∧GE n (Rf S P m f)=some (Rf S P m' f')∧Inv S P m' f' (k+1):=by
 unfold G3 GE
 rw [goesD n h.fB,goesR n h.fB,Option.bind_some,Option.bind_some]
 simp only []
 by_cases c4:f=0
 ·rw [decide_eq_false (by omega)]
  simp only [Bool.false_eq_true,if_false]
  exact ⟨m,nf f,rfl,rfl,h.sB,h.wf,h.mB,by have:=h.kB; omega,by omega,nf_ok h.fB,h.by_⟩
 ·rw [decide_eq_true c4]
  simp only [if_true]
  refine ⟨P.length,nf f,?_,?_,h.sB,h.wf,Nat.le_refl _,by have:=h.kB; omega,by omega,nf_ok h.fB,h.by_⟩
  ·have hl:(img S (P.take m)).length=(img S P).length:=by rw [img_len' h.wf,img_len' (fun p hp=>h.wf p (List.mem_of_mem_take hp))]
   simp only [D,cpyR_all hl,List.take_length,List.drop_length,List.map_nil]
  ·simp [Rf]
def sel:List (Nat×List Int)→List Bool→List (Nat×List Int)
 | [],_=>[]
 | _::_,[]=>[]
 | p::W,b::K=>if b=true then p::sel W K else sel W K
theorem sel_nil:∀ (W:List (Nat×List Int)),sel W []=[]
 | []=>rfl
 | _::_=>rfl
theorem sel_mem:∀ {W:List (Nat×List Int)} {K:List Bool} {p:Nat×List Int},p∈sel W K→p∈W
 | [],_,p,h=>by simp [sel] at h
 | q::W,[],p,h=>by simp [sel] at h
 | q::W,b::K,p,h=>by
  rw [sel] at h
  split at h
  ·rcases List.mem_cons.1 h with rfl | h
   ·simp
   ·exact List.mem_cons_of_mem _ (sel_mem h)
  ·exact List.mem_cons_of_mem _ (sel_mem h)
theorem sel_len:∀ (W:List (Nat×List Int)) (K:List Bool),(sel W K).length≤W.length
 | [],_=>by simp [sel]
 | q::W,[]=>by simp [sel]
 | q::W,b::K=>by
  have:=sel_len W K
  rw [sel]
  split <;> simp <;> omega
theorem crashD {kept:List Bool} {d:Gg} {W:List (Nat×List Int)} {now:List Int} (hS:S≤256) (hW:∀ p∈W,Wf S p) (hWl:W.length≤2000) (hd:d.fwait=W.map toW):∀ (k i:Nat) (safe:List Int),W.length-i<k→i≤W.length→safe.length=S*64 →
  Ko n kept d k (i:Int) safe now (W.map toW)=some (.x0 ((sel (W.drop i) (kept.drop i)).foldl put safe) now (W.map toW))
 | 0,i,safe,h,_,_=>by omega
 | k+1,i,safe,hk,hi,hs=>by
  rw [Ko,hd,List.length_map]
  by_cases hlt:(i:Int)<(W.length:Int)
  ·obtain ⟨p,hp⟩:=get_lt hlt
   have hwp:=hW p (List.mem_of_getElem? hp)
   have hw1:=hwp.1
   rw [if_pos hlt,drop_cons hp,wi_succ (by omega)]
   unfold Y5
   rw [List.length_map,if_pos (by omega),Int.toNat_natCast,List.getElem?_map,hp]
   simp only [Option.map_some,Option.bind_some]
   by_cases ck:(i:Int)<(kept.length:Int)
   ·obtain ⟨b,hb⟩:=get_lt ck
    rw [if_pos ck,getI_nat,hb,Option.bind_some,drop_cons hb,sel]
    have e1:wi .i64 ((toW p).fn*64)=((p.1*64:Nat):Int):=by
     show wi .i64 ((p.1:Int)*64)=_
     rw [wi64 (by omega) (by omega)]; omega
    by_cases cb:b=true
    ·rw [if_pos cb,if_pos cb,e1,if_pos (by rw [hs]; omega),if_pos (Nat.le_refl _),Int.toNat_natCast,Option.bind_some]
     have hc:=cpyR_put hs hwp
     have hc:cpyR safe (p.1*64) safe.length (toW p).fdata=put safe p:=hc
     simp only [hc,List.foldl_cons]
     exact crashD (kept:=kept) (now:=now) hS hW hWl hd k (i+1) _ (by omega) (by omega) (put_len hs hwp)
    ·rw [if_neg cb,if_neg cb,Option.bind_some]
     exact crashD (kept:=kept) (now:=now) hS hW hWl hd k (i+1) _ (by omega) (by omega) hs
   ·rw [if_neg ck,drop_end ck,sel,Option.bind_some]
    have:=crashD (kept:=kept) (now:=now) hS hW hWl hd k (i+1) safe (by omega) (by omega) hs
    rw [List.drop_of_length_le (l:=kept) (by omega),sel_nil] at this
    exact this
  ·rw [if_neg hlt,drop_end hlt]; rfl
theorem crashR {kept:List Bool} {d:Gf} (hP:P.length≤2000) (hm:m≤P.length) (hd1:d.fAll=P.map toP) (hd2:d.fMark=(m:Int)):∀ (k i:Nat) (acc:List (Nat×List Int)),P.length-m-i<k→i≤P.length-m→acc.length≤m+i →
  SE n kept d k (i:Int) (acc.map toP)=some (.x0 ((acc++sel ((P.drop m).drop i) (kept.drop i)).map toP))
 | 0,i,acc,h,_,_=>by omega
 | k+1,i,acc,hk,hi,ha=>by
  rw [SE,hd1,hd2,List.length_map,Int.toNat_natCast]
  by_cases hlt:(i:Int)<((P.length-m:Nat):Int)
  ·have hlt':(i:Int)<(((P.drop m).length:Nat):Int):=by rw [List.length_drop]; exact hlt
   obtain ⟨p,hp⟩:=get_lt hlt'
   have hp2:P[m+i]?=some p:=by rw [List.getElem?_drop] at hp; exact hp
   rw [if_pos hlt,drop_cons hp,wi_succ (by omega)]
   unfold Yj
   rw [hd1,hd2,List.length_map,Int.toNat_natCast,if_pos ⟨by omega,hlt,Nat.le_refl _⟩,Int.toNat_natCast,List.getElem?_map,hp2]
   simp only [Option.map_some,Option.bind_some]
   by_cases ck:(i:Int)<(kept.length:Int)
   ·obtain ⟨b,hb⟩:=get_lt ck
    rw [if_pos ck,getI_nat,hb,Option.bind_some,drop_cons hb,sel]
    by_cases cb:b=true
    ·rw [if_pos cb,if_pos cb,app_le (m:=3000) (by simp; omega) (by decide) (by decide),Option.bind_some]
     have:=crashR (kept:=kept) hP hm hd1 hd2 k (i+1) (acc++[p]) (by omega) (by omega) (by simp; omega)
     simp only [List.map_append,List.map_cons,List.map_nil,List.append_assoc,List.singleton_append] at this ⊢
     exact this
    ·rw [if_neg cb,if_neg cb,Option.bind_some]
     exact crashR (kept:=kept) hP hm hd1 hd2 k (i+1) acc (by omega) (by omega) (by omega)
   ·rw [if_neg ck,drop_end ck,sel,Option.bind_some]
    have:=crashR (kept:=kept) hP hm hd1 hd2 k (i+1) acc (by omega) (by omega) (by omega)
    rw [List.drop_of_length_le (l:=kept) (by omega),sel_nil] at this
    exact this
  ·have hlt':¬ (i:Int)<(((P.drop m).length:Nat):Int):=by rw [List.length_drop]; exact hlt
   rw [if_neg hlt,drop_end hlt',sel,List.append_nil]
theorem crash_is (hn:5000≤n) (h:Inv S P m f k) (hk:k<1500) (kept:List Bool):∃ P' m' f',Zm n (D S P m f) kept=some (D S P' m' f')∧KG n (Rf S P m f) kept=some (Rf S P' m' f')∧Inv S P' m' f' (k+1):=by
 have hPl:=h.kB
 have hm:=h.mB
 have hW:∀ p∈P.drop m,Wf S p:=fun p hp=>h.wf p (List.mem_of_mem_drop hp)
 have hT:∀ p∈P.take m,Wf S p:=fun p hp=>h.wf p (List.mem_of_mem_take hp)
 have hsl:=sel_len (P.drop m) kept
 rw [List.length_drop] at hsl
 have hP':∀ p∈P.take m++sel (P.drop m) kept,Wf S p:=fun p hp=>by
  rcases List.mem_append.1 hp with hp | hp
  ·exact hT p hp
  ·exact hW p (sel_mem hp)
 have hlen:(P.take m++sel (P.drop m) kept).length=m+(sel (P.drop m) kept).length:=by rw [List.length_append,List.length_take,Nat.min_eq_left hm]
 refine ⟨P.take m++sel (P.drop m) kept,(P.take m++sel (P.drop m) kept).length,-1,?_,?_,h.sB,hP',Nat.le_refl _,by rw [hlen]; omega,by omega,by decide,fun p hp=>?_⟩
 ·unfold Zm
  have e:=crashD (n:=n) (kept:=kept) (d:=D S P m f) (now:=img S P) h.sB hW (by simp; omega) rfl n 0 (img S (P.take m)) (by simp; omega) (by omega) (img_len' hT)
  have e:Ko n kept (D S P m f) n 0 (D S P m f).fsafe (D S P m f).fnow (D S P m f).fwait=_:=e
  rw [e,Option.bind_some]
  simp only [List.drop_zero]
  have hi:img S (P.take m++sel (P.drop m) kept)=(sel (P.drop m) kept).foldl put (img S (P.take m)):=by simp [img,List.foldl_append]
  have hl:(img S P).length=(img S (P.take m++sel (P.drop m) kept)).length:=by rw [img_len' h.wf,img_len' hP']
  rw [← hi,cpyR_all hl]
  simp only [D,List.take_length,List.drop_length,List.map_nil]
 ·unfold KG
  have hc:0≤(Rf S P m f).fMark∧(Rf S P m f).fMark≤((Rf S P m f).fAll.length:Int):=by
   show 0≤(m:Int)∧(m:Int)≤((P.map toP).length:Int)
   rw [List.length_map]; omega
  rw [if_pos hc,if_pos hc]
  have e:=crashR (n:=n) (kept:=kept) (P:=P) (m:=m) (d:=Rf S P m f) (by omega) hm rfl rfl n 0 (P.take m) (by omega) (by omega) (by rw [List.length_take]; omega)
  have et:(Rf S P m f).fAll.take (Rf S P m f).fMark.toNat=(P.take m).map toP:=by
   show (P.map toP).take (m:Int).toNat=_
   rw [Int.toNat_natCast,List.map_take]
  rw [et]
  have e:SE n kept (Rf S P m f) n 0 ((P.take m).map toP)=_:=e
  rw [e,Option.bind_some]
  simp only [List.drop_zero,Rf,List.length_map]
 ·rcases List.mem_append.1 hp with hp | hp
  ·exact h.by_ p (List.mem_of_mem_take hp)
  ·exact h.by_ p (List.mem_of_mem_drop (sel_mem hp))
theorem fuse_is (h:Inv S P m f k) (hk:k<1500) {N:Int} (hN:N≤9223372036854775807):∃ f',ZJ n (D S P m f) N=some (D S P m f')∧KH n (Rf S P m f) N=some (Rf S P m f')∧Inv S P m f' (k+1):=by
 have hf:=h.fB
 unfold ZJ KH
 show ∃ f',(if f=0 then _ else _)=_∧(if f=0 then _ else _)=_∧_
 by_cases c:f=0
 ·rw [if_pos c,if_pos c]
  exact ⟨f,rfl,rfl,h.sB,h.wf,h.mB,by have:=h.kB; omega,by omega,hf,h.by_⟩
 ·rw [if_neg c,if_neg c]
  refine ⟨maxI (-1) N,rfl,rfl,h.sB,h.wf,h.mB,by have:=h.kB; omega,by omega,?_,h.by_⟩
  unfold maxI
  split <;> omega
theorem read_is (h:Inv S P m f k) (N:Int):Kl n (D S P m f) N=some (if N<0∨N≥(S:Int) then ([],1,D S P m f) else (sector (img S P) N.toNat,0,D S P m f)):=by
 have hS:=h.sB
 have hl:(D S P m f).fnow.length=S*64:=img_len' h.wf
 unfold Kl
 by_cases c1:N<0
 ·rw [if_pos c1,if_pos (.inl c1)]
 rw [if_neg c1,size_is n h,Option.bind_some]
 simp only []
 by_cases c2:N≥(S:Int)
 ·rw [if_pos c2,if_pos (.inr c2)]
 rw [if_neg c2,if_neg (show ¬ (N<0∨N≥(S:Int)) by omega)]
 obtain ⟨q,rfl⟩:=Int.eq_ofNat_of_zero_le (show 0≤N by omega)
 have e1:wi .i64 ((q:Int)*64)=((q*64:Nat):Int):=by rw [wi64 (by omega) (by omega)]; omega
 have e2:wi .i64 ((q:Int)+1)=((q+1:Nat):Int):=wi_succ (by omega)
 have e3:wi .i64 (((q+1:Nat):Int)*64)=(((q+1)*64:Nat):Int):=by rw [wi64 (by omega) (by omega)]; omega
 rw [e1,e2,e3,if_pos (by rw [hl]; omega),Int.toNat_natCast,Int.toNat_natCast,if_pos (by rw [hl]; omega),Int.toNat_natCast]
 unfold GC
 rw [app_le (m:=1000000) (by simp only [List.length_nil,List.length_drop,List.length_take]; omega) (by decide) (by decide)]
 rfl
theorem readR (hn:5000≤n) (h:Inv S P m f k) {q:Nat} (hq:q<S):Sq n ⟨(S:Int),(m:Int),f,P.map toP⟩ (q:Int)=some (b2s (sector (img S P) q),⟨(S:Int),(m:Int),f,P.map toP⟩):=by
 unfold Sq
 have hk:=h.kB
 have hk2:=h.k60
 rw [sector_img hq h.wf,last_is hn (by omega),Option.bind_some]
theorem imageL (hn:5000≤n) (h:Inv S P m f k) {d:Gf} (hd:d.fSectors=(S:Int)):∀ (t i:Nat),S-i<t→i≤S →
  SF n d t (b2s ((img S (P.take m)).take (i*64))) (i:Int) (S:Int) (m:Int) f (P.map toP)=some (.x0 (b2s (img S (P.take m))) (S:Int) (m:Int) f (P.map toP))
 | 0,i,ht,_=>by omega
 | t+1,i,ht,hi=>by
  have hS:=h.sB
  have hm:=h.mB
  have hk:=h.kB
  have hk2:=h.k60
  have hT:∀ p∈P.take m,Wf S p:=fun p hp=>h.wf p (List.mem_of_mem_take hp)
  have hl:=img_len' hT
  rw [SF,hd]
  by_cases c:(i:Int)<(S:Int)
  ·have hs:Ye n ⟨(S:Int),(m:Int),f,P.map toP⟩ (i:Int)=some (b2s (sector (img S (P.take m)) i),⟨(S:Int),(m:Int),f,P.map toP⟩):=by
    unfold Ye
    simp only [List.length_map,Int.toNat_natCast]
    rw [if_pos (by omega),if_pos (by omega),List.drop_zero,← List.map_take,last_is hn (by rw [List.length_take]; omega),Option.bind_some,sector_img (by omega) hT]
   have hsl:(sector (img S (P.take m)) i).length=64:=by unfold sector; rw [List.length_drop,List.length_take]; omega
   rw [if_pos c,hs,Option.bind_some]
   simp only []
   rw [cat_b2s _ _ (by rw [hsl,List.length_take]; omega),Option.bind_some,wi_succ (by omega)]
   have e:(img S (P.take m)).take (i*64)++sector (img S (P.take m)) i=(img S (P.take m)).take ((i+1)*64):=by
    unfold sector
    have e1:(img S (P.take m)).take (i*64)=((img S (P.take m)).take ((i+1)*64)).take (i*64):=by rw [List.take_take]; congr 1; omega
    rw [e1,List.take_append_drop]
   rw [e]
   exact imageL hn h hd t (i+1) (by omega) (by omega)
  ·have:i=S:=by omega
   subst this
   rw [if_neg c,List.take_of_length_le (by omega)]
end
end Go.Proofs.Ytgdhhaddfllkaaa.pv.ld
namespace Go.Proofs.Ytgdhhaddfllkaaa.pv.jp
set_option linter.all false
open Go.RowKit help pv ld
theorem getS_b2s (b:List Int) (j:Nat) (x:Int) (h:b[j]?=some x) (hx:0≤x∧x<256):getS (b2s b) (j:Int)=some x:=by
 unfold getS
 rw [if_pos (by omega),Int.toNat_natCast]
 have e:(b2s b)[j]?=(b2s b).data[j]?:=rfl
 rw [e,b2s_data]
 simp only [List.getElem?_toArray,List.getElem?_map,h,Option.map_some]
 congr 1
 unfold u8
 rw [UInt8.toNat_ofNat_of_lt' (by show x.toNat<256; omega)]
 omega
theorem u8_inj {x y:Int} (hx:0≤x∧x<256) (hy:0≤y∧y<256) (h:u8 x=u8 y):x=y:=by
 have:=congrArg UInt8.toNat h
 unfold u8 at this
 rw [UInt8.toNat_ofNat_of_lt' (by show x.toNat<256; omega),UInt8.toNat_ofNat_of_lt' (by show y.toNat<256; omega)] at this
 omega
theorem map_u8_inj:∀ (L K:List Int),By L→By K→L.map u8=K.map u8→L=K
 | [],[],_,_,_=>rfl
 | [],_::_,_,_,h=>by simp at h
 | _::_,[],_,_,h=>by simp at h
 | x::L,y::K,hL,hK,h=>by
  simp only [List.map_cons,List.cons.injEq] at h
  rw [u8_inj (hL x (List.mem_cons_self ..)) (hK y (List.mem_cons_self ..)) h.1,map_u8_inj L K (fun z hz=>hL z (List.mem_cons_of_mem _ hz)) (fun z hz=>hK z (List.mem_cons_of_mem _ hz)) h.2]
theorem b2s_toList (L:List Int):(b2s L).toList=L.map u8:=by
 rw [ByteArray.toList_eq,b2s_data]
theorem str_eq (L K:List Int) (hL:By L) (hK:By K):((b2s L).toList == (b2s K).toList)=decide (L=K):=by
 rw [b2s_toList,b2s_toList]
 by_cases h:L=K
 ·subst h; simp
 ·rw [decide_eq_false h,beq_eq_false_iff_ne]
  exact fun q=>h (map_u8_inj L K hL hK q)
theorem By.app {L K:List Int} (h1:By L) (h2:By K):By (L++K):=fun x hx=>by
 rcases List.mem_append.1 hx with q | q
 ·exact h1 x q
 ·exact h2 x q
theorem By.rep (m:Nat):By (List.replicate m 0):=fun x hx=>by
 rw [List.mem_replicate] at hx; omega
theorem By.take {L:List Int} (h:By L) (k:Nat):By (L.take k):=fun x hx=>h x (List.mem_of_mem_take hx)
theorem By.drop {L:List Int} (h:By L) (k:Nat):By (L.drop k):=fun x hx=>h x (List.mem_of_mem_drop hx)
theorem By.one {x:Int} (h:0≤x∧x<256):By [x]:=fun y hy=>by rw [List.mem_singleton.1 hy]; exact h
theorem w8 (x:Int):wi .u8 x=x % 256:=by rw [wi,IntKind.wrap_u8]
theorem w32 (x:Int):wi .u32 x=x % 4294967296:=by rw [wi,IntKind.wrap_u32]
theorem w64u (x:Int):wi .u64 x=x % 18446744073709551616:=by rw [wi,IntKind.wrap_u64]
theorem s2b_b2s {L:List Int} (h:By L):s2b (b2s L)=L:=by
 unfold s2b
 rw [b2s_data]
 simp only [List.map_map]
 have:∀ K:List Int,By K→K.map ((fun b:UInt8=>(b.toNat:Int)) ∘ u8)=K:=by
  intro K
  induction K with
  | nil=>intro _; rfl
  | cons x K ih =>
   intro hK
   rw [List.map_cons,ih (fun z hz=>hK z (List.mem_cons_of_mem _ hz))]
   have hx:=hK x (List.mem_cons_self ..)
   have:((u8 x).toNat:Int)=x:=by
    unfold u8
    rw [UInt8.toNat_ofNat_of_lt' (by show x.toNat<256; omega)]
    omega
   show ((u8 x).toNat:Int)::K=x::K
   rw [this]
 exact this L h
def wd (x:Int):List Int:=[x % 256,x / 256 % 256,x / 65536 % 256,x / 16777216 % 256]
def vl (a b c d:Int):Int:=a+256*b+65536*c+16777216*d
theorem wd_by (x:Int):By (wd x):=fun y hy=>by
 simp only [wd,List.mem_cons,List.not_mem_nil,or_false] at hy
 rcases hy with rfl | rfl | rfl | rfl <;> omega
theorem vl_wd {x:Int} (h:0≤x∧x<4294967296):vl (x % 256) (x / 256 % 256) (x / 65536 % 256) (x / 16777216 % 256)=x:=by unfold vl; omega
theorem wd_vl {a b c d:Int} (ha:0≤a∧a<256) (hb:0≤b∧b<256) (hc:0≤c∧c<256) (hd:0≤d∧d<256):wd (vl a b c d)=[a,b,c,d]:=by
 unfold wd vl
 have e1:(a+256*b+65536*c+16777216*d) % 256=a:=by omega
 have e2:(a+256*b+65536*c+16777216*d) / 256 % 256=b:=by omega
 have e3:(a+256*b+65536*c+16777216*d) / 65536 % 256=c:=by omega
 have e4:(a+256*b+65536*c+16777216*d) / 16777216 % 256=d:=by omega
 rw [e1,e2,e3,e4]
theorem vl_rng {a b c d:Int} (ha:0≤a∧a<256) (hb:0≤b∧b<256) (hc:0≤c∧c<256) (hd:0≤d∧d<256):0≤vl a b c d∧vl a b c d<4294967296:=by unfold vl; omega
theorem word_is (n:Nat) (x:Int):YX n x=some (wd x):=by
 unfold YX wd
 have s1:=shr_u32 (a:=x) 8 (by omega)
 have s2:=shr_u32 (a:=x) 16 (by omega)
 have s3:=shr_u32 (a:=x) 24 (by omega)
 have s1:shrI .u32 x 8=x / 256:=s1
 have s2:shrI .u32 x 16=x / 65536:=s2
 have s3:shrI .u32 x 24=x / 16777216:=s3
 rw [s1,s2,s3,w8,w8,w8,w8]
theorem four_step (n k:Nat) (x:Int) (L:List Int) (i:Nat) (hi:i<4) (hx:0≤x∧x<4294967296) (hL:L.length≤1000) :
  Km n (k+1) x (b2s L) (i:Int)=Km n k (x / 256) (b2s (L++[x % 256])) ((i+1:Nat):Int):=by
 have e1:wi .u8 (remI x 256)=x % 256:=by rw [w8,rem_nn hx.1]; omega
 have e2:quoI .u32 x 256=x / 256:=by
  unfold quoI
  rw [Int.tdiv_eq_ediv_of_nonneg hx.1]
  have:=w32 (x / 256)
  unfold wi at this
  rw [this]; omega
 rw [Km,if_pos (by omega),e1,e2,cat_b2s _ _ (by simp; omega),Option.bind_some,wi_succ (by omega)]
theorem four_is (n:Nat) (hn:10<n) {x:Int} (hx:0≤x∧x<4294967296):Zn n x=some (b2s (wd x)):=by
 unfold Zn
 obtain ⟨m,rfl⟩:∃ m,n=m+5:=⟨n-5,by omega⟩
 have s0:=four_step (m+5) (m+4) x [] 0 (by omega) hx (by simp)
 have s1:=four_step (m+5) (m+3) (x / 256) ([]++[x % 256]) 1 (by omega) (by omega) (by simp)
 have s2:=four_step (m+5) (m+2) (x / 256 / 256) ([]++[x % 256]++[x / 256 % 256]) 2 (by omega) (by omega) (by simp)
 have s3:=four_step (m+5) (m+1) (x / 256 / 256 / 256) ([]++[x % 256]++[x / 256 % 256]++[x / 256 / 256 % 256]) 3 (by omega) (by omega) (by simp)
 have s0:Km (m+5) (m+5) x (ByteArray.mk #[]) 0=_:=s0
 rw [s0,s1,s2,s3,Km,if_neg (by omega),Option.bind_some]
 have e:[]++[x % 256]++[x / 256 % 256]++[x / 256 / 256 % 256]++[x / 256 / 256 / 256 % 256]=wd x:=by
  unfold wd
  have e2:x / 256 / 256=x / 65536:=by omega
  have e3:x / 65536 / 256=x / 16777216:=by omega
  rw [e2,e3]; rfl
 rw [e]
theorem or_add (i a b:Nat) (h:b<2 ^ i):a*2 ^ i ||| b=a*2 ^ i+b:=by rw [← Nat.shiftLeft_eq]; exact (Nat.shiftLeft_add_eq_or_of_lt h a).symm
theorem or32 (s:Nat) (hs:s≤24) {w b:Int} (h0:0≤w) (h1:w<((2 ^ s:Nat):Int)) (h2:0≤b) (h3:b<256):bits .or .u32 w (b*((2 ^ s:Nat):Int))=w+b*((2 ^ s:Nat):Int):=by
 obtain ⟨W,rfl⟩:=Int.eq_ofNat_of_zero_le h0
 obtain ⟨B,rfl⟩:=Int.eq_ofNat_of_zero_le h2
 have hp:2 ^ s≤2 ^ 24:=Nat.pow_le_pow_right (by omega) hs
 have hbs:B*2 ^ s≤255*2 ^ 24:=Nat.mul_le_mul (by omega) hp
 have e:(B:Int)*((2 ^ s:Nat):Int)=((B*2 ^ s:Nat):Int):=by simp
 rw [e,u32_or_nat _ _ (by omega) (by omega),Nat.or_comm,or_add s B W (by omega)]
 omega
theorem read_four (n:Nat) {l:List Int} {a b c d:Int} (g0:l[0]?=some a) (g1:l[1]?=some b) (g2:l[2]?=some c) (g3:l[3]?=some d) (ha:0≤a∧a<256) (hb:0≤b∧b<256) (hc:0≤c∧c<256) (hd:0≤d∧d<256):Zf n l=some (vl a b c d):=by
 unfold Zf
 have i0:getI l 0=some a:=by rw [← g0]; exact getI_nat l 0
 have i1:getI l 1=some b:=by rw [← g1]; exact getI_nat l 1
 have i2:getI l 2=some c:=by rw [← g2]; exact getI_nat l 2
 have i3:getI l 3=some d:=by rw [← g3]; exact getI_nat l 3
 have a1:wi .u32 a=a:=by rw [w32]; omega
 have b1:wi .u32 b=b:=by rw [w32]; omega
 have c1:wi .u32 c=c:=by rw [w32]; omega
 have d1:wi .u32 d=d:=by rw [w32]; omega
 have s1:=shl_u32 (a:=b) 8 (by omega)
 have s2:=shl_u32 (a:=c) 16 (by omega)
 have s3:=shl_u32 (a:=d) 24 (by omega)
 have s1:shlI .u32 b 8=b*((2 ^ 8:Nat):Int):=by
  have s1:shlI .u32 b 8=b*256 % 4294967296:=s1
  rw [s1]; show _=b*256; omega
 have s2:shlI .u32 c 16=c*((2 ^ 16:Nat):Int):=by
  have s2:shlI .u32 c 16=c*65536 % 4294967296:=s2
  rw [s2]; show _=c*65536; omega
 have s3:shlI .u32 d 24=d*((2 ^ 24:Nat):Int):=by
  have s3:shlI .u32 d 24=d*16777216 % 4294967296:=s3
  rw [s3]; show _=d*16777216; omega
 have o1:=or32 8 (by omega) ha.1 (show a<((2 ^ 8:Nat):Int) by show a<256; omega) hb.1 hb.2
 have o2:=or32 16 (by omega) (w:=a+b*256) (by omega) (show a+b*256<((2 ^ 16:Nat):Int) by show a+b*256<65536; omega) hc.1 hc.2
 have o3:=or32 24 (by omega) (w:=a+b*256+c*65536) (by omega) (show a+b*256+c*65536<((2 ^ 24:Nat):Int) by show a+b*256+c*65536<16777216; omega) hd.1 hd.2
 have o1:bits .or .u32 a (b*((2 ^ 8:Nat):Int))=a+b*256:=o1
 have o2:bits .or .u32 (a+b*256) (c*((2 ^ 16:Nat):Int))=a+b*256+c*65536:=o2
 have o3:bits .or .u32 (a+b*256+c*65536) (d*((2 ^ 24:Nat):Int))=a+b*256+c*65536+d*16777216:=o3
 rw [i0,i1,i2,i3,Option.bind_some,Option.bind_some,Option.bind_some,Option.bind_some,a1,b1,c1,d1,s1,s2,s3,o1,o2,o3]
 unfold vl
 congr 1; omega
theorem seq_is {a b c d:Int} (ha:0≤a∧a<256) (hb:0≤b∧b<256) (hc:0≤c∧c<256) (hd:0≤d∧d<256) :
  wi .u32 (wi .u32 (wi .u32 (wi .u32 a+wi .u32 (256*wi .u32 b))+wi .u32 (65536*wi .u32 c))+wi .u32 (16777216*wi .u32 d))=vl a b c d:=by
 have a1:wi .u32 a=a:=by rw [w32]; omega
 have b1:wi .u32 b=b:=by rw [w32]; omega
 have c1:wi .u32 c=c:=by rw [w32]; omega
 have d1:wi .u32 d=d:=by rw [w32]; omega
 rw [a1,b1,c1,d1]
 have b2:wi .u32 (256*b)=256*b:=by rw [w32]; omega
 have c2:wi .u32 (65536*c)=65536*c:=by rw [w32]; omega
 have d2:wi .u32 (16777216*d)=16777216*d:=by rw [w32]; omega
 rw [b2,c2,d2]
 have x1:wi .u32 (a+256*b)=a+256*b:=by rw [w32]; omega
 have x2:wi .u32 (a+256*b+65536*c)=a+256*b+65536*c:=by rw [w32]; omega
 rw [x1,x2,w32]
 unfold vl; omega
def stp (n c:Int):Int:=((n.toNat ^^^ c.toNat:Nat):Int)*16777619 % 4294967296
def sm (n:Int) (l:List Int):Int:=l.foldl stp n
theorem stp_rng (n c:Int):0≤stp n c∧stp n c<4294967296:=by unfold stp; omega
theorem sm_rng:∀ (l:List Int) (n:Int),0≤n∧n<4294967296→0≤sm n l∧sm n l<4294967296
 | [],n,h=>h
 | c::l,n,h=>sm_rng l (stp n c) (stp_rng n c)
theorem ofInt32 (a:Nat) (ha:a<4294967296):(BitVec.ofInt 32 (a:Int)).toNat=a:=by
 rw [BitVec.ofInt_natCast,BitVec.toNat_ofNat]; exact Nat.mod_eq_of_lt (by omega)
theorem ofInt64 (a:Nat) (ha:a<18446744073709551616):(BitVec.ofInt 64 (a:Int)).toNat=a:=by
 rw [BitVec.ofInt_natCast,BitVec.toNat_ofNat]; exact Nat.mod_eq_of_lt (by omega)
theorem stp_p {n c:Int} (hn:0≤n∧n<4294967296) (hc:0≤c∧c<256):wi .u32 ((bits .xor .u32 n (wi .u32 c))*16777619)=stp n c:=by
 have c1:wi .u32 c=c:=by rw [w32]; omega
 obtain ⟨a,rfl⟩:=Int.eq_ofNat_of_zero_le hn.1
 obtain ⟨b,rfl⟩:=Int.eq_ofNat_of_zero_le hc.1
 have hx:a ^^^ b<2 ^ 32:=Nat.xor_lt_two_pow (by omega) (by omega)
 have e:bits .xor .u32 (a:Int) (b:Int)=((a ^^^ b:Nat):Int):=by
  show IntKind.u32.wrap ((BitVec.ofInt 32 (a:Int) ^^^ BitVec.ofInt 32 (b:Int)).toNat:Int)=_
  rw [BitVec.toNat_xor,ofInt32 a (by omega),ofInt32 b (by omega),IntKind.wrap_u32]
  omega
 rw [c1,e,w32]
 unfold stp
 rw [Int.toNat_natCast,Int.toNat_natCast]
theorem stp_r {n c:Int} (hn:0≤n∧n<4294967296) (hc:0≤c∧c<256):remI (wi .u64 ((bits .xor .u64 n (wi .u64 c))*16777619)) 4294967296=stp n c:=by
 have c1:wi .u64 c=c:=by rw [w64u]; omega
 obtain ⟨a,rfl⟩:=Int.eq_ofNat_of_zero_le hn.1
 obtain ⟨b,rfl⟩:=Int.eq_ofNat_of_zero_le hc.1
 have hx:a ^^^ b<2 ^ 32:=Nat.xor_lt_two_pow (by omega) (by omega)
 have e:bits .xor .u64 (a:Int) (b:Int)=((a ^^^ b:Nat):Int):=by
  show IntKind.u64.wrap ((BitVec.ofInt 64 (a:Int) ^^^ BitVec.ofInt 64 (b:Int)).toNat:Int)=_
  rw [BitVec.toNat_xor,ofInt64 a (by omega),ofInt64 b (by omega),IntKind.wrap_u64]
  omega
 rw [c1,e,w64u]
 have e2:((a ^^^ b:Nat):Int)*16777619 % 18446744073709551616=((a ^^^ b:Nat):Int)*16777619:=by omega
 rw [e2,rem_nn (by omega)]
 unfold stp
 rw [Int.toNat_natCast,Int.toNat_natCast]
theorem sum_loop (n:Nat) (b:List Int) (hb:By b) (hl:b.length≤1000000):∀ (k i:Nat) (a:Int),b.length-i<k→i≤b.length→(0≤a∧a<4294967296)→ZC n b k a (i:Int)=some (.x0 (sm a (b.drop i)))
 | 0,i,_,h,_,_=>by omega
 | k+1,i,a,h,hi,ha=>by
  rw [ZC]
  by_cases h1:i<b.length
  ·rw [if_pos (by omega),getI_nat,List.getElem?_eq_getElem h1,Option.bind_some,wi_succ (by omega),stp_p ha (hb _ (List.getElem_mem h1)),sum_loop n b hb hl k (i+1) _ (by omega) (by omega) (stp_rng _ _),List.drop_eq_getElem_cons h1]
   rfl
  ·rw [if_neg (by omega),List.drop_eq_nil_of_le (by omega)]; rfl
theorem sum_is (n:Nat) {a:Int} {b:List Int} (hb:By b) (hl:b.length≤1000000) (hn:b.length<n) (ha:0≤a∧a<4294967296):Ue n a b=some (sm a b):=by
 unfold Ue
 have h:=sum_loop n b hb hl n 0 a (by omega) (by omega) ha
 have h:ZC n b n a 0=_:=h
 rw [h]; rfl
def SM (a:Int) (l:List Gh):Int:=l.foldl (fun a w=>sm a (w.fSector % 256::w.fData)) a
theorem SM_rng:∀ (l:List Gh) (a:Int),0≤a∧a<4294967296→0≤SM a l∧SM a l<4294967296
 | [],a,h=>h
 | w::l,a,h=>SM_rng l _ (sm_rng _ _ h)
def Wk (l:List Gh):Prop:=l.length≤1000∧∀ w∈l,By w.fData∧w.fData.length≤1000
def pt (w:Gh):Gd:=⟨w.fSector,b2s w.fData⟩
theorem Sum_loop (n:Nat) (hn:2000<n) {l:List Gh} (hl:Wk l):∀ (k i:Nat) (a:Int),l.length-i<k→i≤l.length→(0≤a∧a<4294967296)→ZD n l k a (i:Int)=some (.x0 (SM a (l.drop i)))
 | 0,i,_,h,_,_=>by omega
 | k+1,i,a,h,hi,ha=>by
  have hll:=hl.1
  rw [ZD]
  by_cases h1:i<l.length
  ·have hw:=hl.2 _ (List.getElem_mem h1)
   have s1:=sum_is n (a:=a) (b:=[wi .u8 l[i].fSector]) (By.one (by rw [w8]; omega)) (by simp) (by simp; omega) ha
   have s2:=sum_is n (a:=sm a [wi .u8 l[i].fSector]) hw.1 (by omega) (by omega) (sm_rng _ _ ha)
   rw [if_pos (by omega),getI_nat,List.getElem?_eq_getElem h1,Option.bind_some,s1,Option.bind_some,s2,Option.bind_some,wi_succ (by omega),Sum_loop n hn hl k (i+1) _ (by omega) (by omega) (sm_rng _ _ (sm_rng _ _ ha)),List.drop_eq_getElem_cons h1,w8]
   rfl
  ·rw [if_neg (by omega),List.drop_eq_nil_of_le (by omega)]; rfl
theorem Sum_is (n:Nat) (hn:2000<n) {l:List Gh} (hl:Wk l):YO n l=some (SM 2166136261 l):=by
 unfold YO
 have hll:=hl.1
 have h:=Sum_loop n hn hl n 0 2166136261 (by omega) (by omega) (by omega)
 have h:ZD n l n 2166136261 0=_:=h
 rw [h]; rfl
theorem rsum_loop (n:Nat) (P:List Gd) (x:Int) (b:List Int) (hb:By b) (hl:b.length≤1000000):∀ (k i:Nat) (a:Int),b.length-i<k→i≤b.length→(0≤a∧a<4294967296)→Zk n P x b k a (i:Int)=some (.x0 (sm a (b.drop i)))
 | 0,i,_,h,_,_=>by omega
 | k+1,i,a,h,hi,ha=>by
  rw [Zk]
  by_cases h1:i<b.length
  ·rw [if_pos (by omega),getI_nat,List.getElem?_eq_getElem h1,Option.bind_some,wi_succ (by omega),stp_r ha (hb _ (List.getElem_mem h1)),rsum_loop n P x b hb hl k (i+1) _ (by omega) (by omega) (stp_rng _ _),List.drop_eq_getElem_cons h1]
   rfl
  ·rw [if_neg (by omega),List.drop_eq_nil_of_le (by omega)]; rfl
theorem rSum_loop (n:Nat) (hn:2000<n) {l:List Gh} (hl:Wk l):∀ (k i:Nat) (a:Int),l.length-i<k→i≤l.length→(0≤a∧a<4294967296)→Zl n (l.map pt) k a (i:Int)=some (.x0 (SM a (l.drop i)))
 | 0,i,_,h,_,_=>by omega
 | k+1,i,a,h,hi,ha=>by
  have hll:=hl.1
  rw [Zl]
  by_cases h1:i<l.length
  ·have hw:=hl.2 _ (List.getElem_mem h1)
   have hx:(l.map pt)[i]?=some (pt l[i]):=by rw [List.getElem?_map,List.getElem?_eq_getElem h1]; rfl
   have hby:By ([wi .u8 l[i].fSector]++l[i].fData):=By.app (By.one (by rw [w8]; omega)) hw.1
   have e1:catS (b2s [wi .u8 (pt l[i]).fN]) (pt l[i]).fData=some (b2s ([wi .u8 l[i].fSector]++l[i].fData)):=cat_b2s _ _ (by simp; omega)
   have e2:s2bO (b2s ([wi .u8 l[i].fSector]++l[i].fData))=some ([wi .u8 l[i].fSector]++l[i].fData):=by
    unfold s2bO
    rw [b2s_size,if_pos (by simp [maxLen]; omega),s2b_b2s hby]
   have s:=rsum_loop n (l.map pt) (i:Int) _ hby (by simp; omega) n 0 a (by simp; omega) (by omega) ha
   have s:Zk n (l.map pt) (i:Int) ([wi .u8 l[i].fSector]++l[i].fData) n a 0=_:=s
   rw [if_pos (by rw [List.length_map]; omega),getI_nat,hx,Option.bind_some,e1,Option.bind_some,e2,Option.bind_some,s,Option.bind_some,wi_succ (by omega)]
   simp only [List.drop_zero]
   rw [rSum_loop n hn hl k (i+1) _ (by omega) (by omega) (sm_rng _ _ ha),List.drop_eq_getElem_cons h1,w8]
   rfl
  ·rw [if_neg (by rw [List.length_map]; omega),List.drop_eq_nil_of_le (by omega)]; rfl
theorem rSum_is (n:Nat) (hn:2000<n) {l:List Gh} (hl:Wk l):Yq n (l.map pt)=some (SM 2166136261 l):=by
 unfold Yq
 have hll:=hl.1
 have h:=rSum_loop n hn hl n 0 2166136261 (by omega) (by omega) (by omega)
 have h:Zl n (l.map pt) n 2166136261 0=_:=h
 have hr:=SM_rng l 2166136261 (by omega)
 rw [h,Option.bind_some]
 simp only [List.drop_zero]
 rw [w32]
 congr 1; omega
end Go.Proofs.Ytgdhhaddfllkaaa.pv.jp
namespace Go.Proofs.Ytgdhhaddfllkaaa.pv.jp
set_option linter.all false
open Go.RowKit help pv ld
theorem by_put {A:List Int} {p:Nat×List Int} (hA:By A) (hp:By p.2):By (put A p):=by
 unfold put
 exact By.app (By.app (By.take hA _) hp) (By.drop hA _)
theorem by_img (S:Nat):∀ (P:List (Nat×List Int)),(∀ p∈P,By p.2)→By (img S P):=by
 intro P h
 unfold img
 have:∀ (P:List (Nat×List Int)) (A:List Int),By A→(∀ p∈P,By p.2)→By (P.foldl put A):=by
  intro P
  induction P with
  | nil=>intro A hA _; exact hA
  | cons p P ih=>intro A hA h; exact ih (put A p) (by_put hA (h p (by simp))) (fun q hq=>h q (by simp [hq]))
 exact this P _ (By.rep _) h
def Rel (S:Nat) (d:Gg) (r:Gf) (k:Nat):Prop:=∃ P m f,Inv S P m f k∧d=D S P m f∧r=Rf S P m f
section
variable {n S k:Nat} {d:Gg} {r:Gf}
theorem Rel.write (n:Nat) (R:Rel S d r k) (hk:k<1500) (N:Int) (data:List Int) (hby:By data):∃ e d' r',Gv n d N data=some (e,d')∧Gs n r N (b2s data)=some (e,r')∧Rel S d' r' (k+1)∧(¬ N<0→¬ N≥(S:Int)→data.length=64→e=0):=by
 obtain ⟨P,m,f,h,rfl,rfl⟩:=R
 obtain ⟨e,P',f',h1,h2,h3,h4⟩:=write_is (n:=n) h hk N data hby
 exact ⟨e,_,_,h1,h2,⟨P',m,f',h3,rfl,rfl⟩,h4⟩
theorem Rel.flush (n:Nat) (R:Rel S d r k) (hk:k<1500):∃ d' r',G3 n d=some d'∧GE n r=some r'∧Rel S d' r' (k+1):=by
 obtain ⟨P,m,f,h,rfl,rfl⟩:=R
 obtain ⟨m',f',h1,h2,h3⟩:=flush_is (n:=n) h hk
 exact ⟨_,_,h1,h2,⟨P,m',f',h3,rfl,rfl⟩⟩
theorem Rel.crash (hn:5000≤n) (R:Rel S d r k) (hk:k<1500) (kept:List Bool):∃ d' r',Zm n d kept=some d'∧KG n r kept=some r'∧Rel S d' r' (k+1):=by
 obtain ⟨P,m,f,h,rfl,rfl⟩:=R
 obtain ⟨P',m',f',h1,h2,h3⟩:=crash_is hn h hk kept
 exact ⟨_,_,h1,h2,⟨P',m',f',h3,rfl,rfl⟩⟩
theorem Rel.fuse (n:Nat) (R:Rel S d r k) (hk:k<1500) {N:Int} (hN:N≤9223372036854775807):∃ d' r',ZJ n d N=some d'∧KH n r N=some r'∧Rel S d' r' (k+1):=by
 obtain ⟨P,m,f,h,rfl,rfl⟩:=R
 obtain ⟨f',h1,h2,h3⟩:=fuse_is (n:=n) h hk hN
 exact ⟨_,_,h1,h2,⟨P,m,f',h3,rfl,rfl⟩⟩
theorem Rel.size (n:Nat) (R:Rel S d r k):G7 n d=some ((S:Int),d):=by
 obtain ⟨P,m,f,h,rfl,rfl⟩:=R
 exact size_is n h
theorem Rel.sect (R:Rel S d r k):r.fSectors=(S:Int):=by
 obtain ⟨P,m,f,h,rfl,rfl⟩:=R
 rfl
theorem Rel.le (R:Rel S d r k):S≤256:=by
 obtain ⟨P,m,f,h,rfl,rfl⟩:=R
 exact h.sB
theorem Rel.mono (R:Rel S d r k) {k':Nat} (h:k≤k') (h2:k'≤1500):Rel S d r k':=by
 obtain ⟨P,m,f,h',rfl,rfl⟩:=R
 exact ⟨P,m,f,⟨h'.sB,h'.wf,h'.mB,by have:=h'.kB; omega,h2,h'.fB,h'.by_⟩,rfl,rfl⟩
theorem Rel.read (hn:5000≤n) (R:Rel S d r k) {q:Nat} (hq:q<S):Kl n d (q:Int)=some (sector d.fnow q,0,d)∧Sq n r (q:Int)=some (b2s (sector d.fnow q),r)∧(sector d.fnow q).length=64∧By (sector d.fnow q):=by
 obtain ⟨P,m,f,h,rfl,rfl⟩:=R
 have h1:=read_is (n:=n) h (q:Int)
 rw [if_neg (by omega),Int.toNat_natCast] at h1
 have hl:(img S P).length=S*64:=img_len' h.wf
 refine ⟨h1,readR hn h hq,?_,?_⟩
 ·show (sector (img S P) q).length=64
  unfold sector
  rw [List.length_drop,List.length_take,hl]
  omega
 ·show By (sector (img S P) q)
  unfold sector
  exact By.drop (By.take (by_img S P h.by_) _) _
theorem Rel.waits (R:Rel S d r k):wi .i64 ((r.fAll.length:Int)-r.fMark)=(d.fwait.length:Int):=by
 obtain ⟨P,m,f,h,rfl,rfl⟩:=R
 have hm:=h.mB
 have hk1:=h.kB
 have hk2:=h.k60
 show wi .i64 (((P.map toP).length:Int)-(m:Int))=(((P.drop m).map toW).length:Int)
 rw [List.length_map,List.length_map,List.length_drop,wi64 (by omega) (by omega)]; omega
theorem Rel.image (hn:5000≤n) (R:Rel S d r k):∃ b,S8 n d=some (b,d)∧Sm n r=some (b2s b,r):=by
 obtain ⟨P,m,f,h,rfl,rfl⟩:=R
 have hS:=h.sB
 refine ⟨img S (P.take m),?_,?_⟩
 ·unfold S8 GC
  have hT:∀ p∈P.take m,Wf S p:=fun p hp=>h.wf p (List.mem_of_mem_take hp)
  have hsl:(D S P m f).fsafe.length=S*64:=img_len' hT
  rw [app_le (m:=1000000) (by rw [hsl,List.length_nil]; omega) (by decide) (by decide),Option.bind_some]
  rfl
 ·unfold Sm
  have hI:=imageL (n:=n) hn h (d:=Rf S P m f) rfl n 0 (by omega) (by omega)
  have h0':b2s ((img S (P.take m)).take (0*64))=ByteArray.mk #[]:=rfl
  rw [h0'] at hI
  have hI:SF n (Rf S P m f) n (ByteArray.mk #[]) 0 (Rf S P m f).fSectors (Rf S P m f).fMark (Rf S P m f).fFuse (Rf S P m f).fAll=_:=hI
  rw [hI,Option.bind_some]
  rfl
def rg (S:Nat) (at_ size:Int):Prop:=3≤size∧size≤60∧0≤at_∧at_+size≤(S:Int)
instance (S:Nat) (a b:Int):Decidable (rg S a b):=by unfold rg; infer_instance
theorem region_p (n:Nat) (R:Rel S d r k) (at_ size:Int):Yp n d at_ size=some (if rg S at_ size then 0 else 1,d):=by
 have hS:=R.le
 unfold Yp Xp
 by_cases h1:size<3
 ·rw [if_pos h1,if_neg (by unfold rg; omega)]; rfl
 rw [if_neg h1]
 by_cases h2:size > 60
 ·rw [if_pos h2,if_neg (by unfold rg; omega)]; rfl
 rw [if_neg h2]
 by_cases h3:at_<0
 ·rw [if_pos h3,if_neg (by unfold rg; omega)]; rfl
 rw [if_neg h3,R.size n,Option.bind_some,Option.bind_some]
 simp only
 rw [wi64 (by omega) (by omega)]
 by_cases h4:at_ > (S:Int)-size
 ·rw [decide_eq_true h4,if_pos rfl,if_neg (by unfold rg; omega)]
 ·rw [decide_eq_false h4,if_neg (by simp),if_pos (by unfold rg; omega)]
theorem region_r (n:Nat) (R:Rel S d r k) (at_ size:Int):YU n r at_ size=some (decide (rg S at_ size),r):=by
 have hS:=R.le
 unfold YU Y0
 rw [R.sect]
 have e:(⟨(S:Int),r.fMark,r.fFuse,r.fAll⟩:Gf)=r:=by rw [← R.sect]
 by_cases h1:size≥3
 ·rw [if_pos h1]
  by_cases h2:size≤60
  ·rw [if_pos h2]
   by_cases h3:at_≥0
   ·rw [if_pos h3]
    by_cases h4:at_≤(S:Int)
    ·rw [if_pos h4,wi64 (by omega) (by omega),Option.bind_some]
     simp only
     rw [e]
     have:(at_+size≤(S:Int))↔rg S at_ size:=by unfold rg; omega
     rw [decide_eq_decide.2 this]
    ·rw [if_neg h4,Option.bind_some,decide_eq_false (by unfold rg; omega)]; simp only; rw [e]
   ·rw [if_neg h3,Option.bind_some,decide_eq_false (by unfold rg; omega)]; simp only; rw [e]
  ·rw [if_neg h2,Option.bind_some,decide_eq_false (by unfold rg; omega)]; simp only; rw [e]
 ·rw [if_neg h1,Option.bind_some,decide_eq_false (by unfold rg; omega)]; simp only; rw [e]
end
theorem explode6 {t:List Int} (h:6≤t.length):∃ a b c d e f s,t=a::b::c::d::e::f::s:=by
 match t,h with
 | a::b::c::d::e::f::s,_=>exact ⟨a,b,c,d,e,f,s,rfl⟩
theorem explode9 {t:List Int} (h:9≤t.length):∃ a b c d e f g i j s,t=a::b::c::d::e::f::g::i::j::s:=by
 match t,h with
 | a::b::c::d::e::f::g::i::j::s,_=>exact ⟨a,b,c,d,e,f,g,i,j,s,rfl⟩
def ents (d:Gg) (b:List Int) (a m:Nat):List Gh:=(List.range m).map fun i=>⟨b.getD (6+i) 0,sector d.fnow (a+1+i)⟩
theorem ents_succ (d:Gg) (b:List Int) (a m:Nat):ents d b a (m+1)=ents d b a m++[⟨b.getD (6+m) 0,sector d.fnow (a+1+m)⟩]:=by
 unfold ents
 rw [List.range_succ,List.map_append]; rfl
theorem ents_len (d:Gg) (b:List Int) (a m:Nat):(ents d b a m).length=m:=by unfold ents; simp
section
variable {n S k:Nat} {d:Gg} {r:Gf}
theorem scanL (hn:5000≤n) (R:Rel S d r k) {b:List Int} (hb:b.length=64) (hby:By b) {a m:Nat} (ha:a+1+m≤S) (hm:m≤58) (q:Int):∀ (t i:Nat),m-i<t→i≤m →
  KR n (a:Int) (b,0,d) (m:Int) q t (i:Int) d.ffuse d.fsafe d.fnow d.fwait (ents d b a i)=some (.x0 d.ffuse d.fsafe d.fnow d.fwait (ents d b a m))
 | 0,i,h,_=>by omega
 | t+1,i,h,hi=>by
  have hS:=R.le
  rw [KR]
  have em:wi .i64 (m:Int)=(m:Int):=wi64 (by omega) (by omega)
  rw [em]
  by_cases h1:i<m
  ·have e1:wi .i64 (wi .i64 ((a:Int)+1)+(i:Int))=((a+1+i:Nat):Int):=by rw [wi_succ (by omega),wi64 (by omega) (by omega)]; omega
   have e2:wi .i64 (6+(i:Int))=((6+i:Nat):Int):=by rw [wi64 (by omega) (by omega)]; omega
   obtain ⟨r1,_,r3,r4⟩:=R.read hn (q:=a+1+i) (by omega)
   have r1:Kl n ⟨d.fsafe,d.fnow,d.fwait,d.ffuse⟩ ((a+1+i:Nat):Int)=_:=r1
   have hlt:6+i<b.length:=by omega
   have hx:=hby _ (List.getElem_mem hlt)
   have e3:wi .i64 b[6+i]=b.getD (6+i) 0:=by
    rw [List.getD_eq_getElem?_getD,List.getElem?_eq_getElem hlt,Option.getD_some]
    exact wi64 (by omega) (by omega)
   rw [if_pos (by omega),e1,e2,r1,Option.bind_some,getI_nat,List.getElem?_eq_getElem hlt,Option.bind_some,e3,app_some (by rw [ents_len]; simp; omega) (by omega),Option.bind_some,← ents_succ,wi_succ (by omega)]
   exact scanL hn R hb hby ha hm q t (i+1) (by omega) (by omega)
  ·have:i=m:=by omega
   rw [if_neg (by omega),this]
theorem scanR (hn:5000≤n) (R:Rel S d r k) {b:List Int} (hb:b.length=64) (hby:By b) {a m:Nat} (ha:a+1+m≤S) (hm:m≤58) (y1 y2 y3 y4:Int):∀ (t i:Nat),m-i<t→i≤m →
  KI n (a:Int) (b2s b,r) (m:Int) y1 y2 y3 y4 t ((i+1:Nat):Int) r.fSectors r.fMark r.fFuse r.fAll ((ents d b a i).map pt)=some (.x0 r.fSectors r.fMark r.fFuse r.fAll ((ents d b a m).map pt))
 | 0,i,h,_=>by omega
 | t+1,i,h,hi=>by
  have hS:=R.le
  rw [KI]
  have em:wi .i64 (m:Int)=(m:Int):=wi64 (by omega) (by omega)
  rw [em]
  by_cases h1:i<m
  ·have e1:wi .i64 ((a:Int)+((i+1:Nat):Int))=((a+1+i:Nat):Int):=by rw [wi64 (by omega) (by omega)]; omega
   have e2:wi .i64 (5+((i+1:Nat):Int))=((6+i:Nat):Int):=by rw [wi64 (by omega) (by omega)]; omega
   obtain ⟨_,r2,r3,r4⟩:=R.read hn (q:=a+1+i) (by omega)
   have r2:Sq n ⟨r.fSectors,r.fMark,r.fFuse,r.fAll⟩ ((a+1+i:Nat):Int)=_:=r2
   have hlt:6+i<b.length:=by omega
   have hx:=hby _ (List.getElem_mem hlt)
   have e3:wi .i64 b[6+i]=b.getD (6+i) 0:=by
    rw [List.getD_eq_getElem?_getD,List.getElem?_eq_getElem hlt,Option.getD_some]
    exact wi64 (by omega) (by omega)
   have e4:(ents d b a i).map pt++[(⟨b.getD (6+i) 0,b2s (sector d.fnow (a+1+i))⟩:Gd)]=(ents d b a (i+1)).map pt:=by
    rw [ents_succ,List.map_append]; rfl
   rw [if_pos (by omega),e1,e2,getS_b2s b (6+i) _ (List.getElem?_eq_getElem hlt) hx,Option.bind_some,r2,Option.bind_some,e3,app_some (by rw [List.length_map,ents_len]; simp; omega) (by omega),Option.bind_some,e4,wi_succ (by omega)]
   exact scanR hn R hb hby ha hm y1 y2 y3 y4 t (i+1) (by omega) (by omega)
  ·have:i=m:=by omega
   rw [if_neg (by omega),this]
end
theorem sub_b2s (t:List Int) (k:Nat) (h:k≤t.length):subS (b2s t) 0 (k:Int)=some (b2s (t.take k)):=by
 unfold subS
 rw [b2s_size,if_pos (by omega)]
 congr 1
 apply ByteArray.ext
 rw [ByteArray.data_extract,b2s_data,b2s_data]
 simp [List.map_take]
theorem prefix_is (n:Nat) {t p:List Int} (ht:By t) (hp:By p) (h:p.length≤t.length):YV n (b2s t) (b2s p)=some (decide (t.take p.length=p)):=by
 unfold YV K8
 rw [b2s_size,b2s_size,if_pos (by omega),sub_b2s t p.length h,Option.bind_some,Option.bind_some,str_eq _ _ (By.take ht _) hp]
section
variable {n S k:Nat} {d:Gg} {r:Gf}
theorem ents_ok (hn:5000≤n) (R:Rel S d r k) {b:List Int} (hby:By b) {a m:Nat} (ha:a+1+m≤S):∀ w∈ents d b a m,By w.fData∧w.fData.length=64∧0≤w.fSector∧w.fSector<256:=by
 intro w hw
 unfold ents at hw
 obtain ⟨i,hi,rfl⟩:=List.mem_map.1 hw
 rw [List.mem_range] at hi
 obtain ⟨_,_,r3,r4⟩:=R.read hn (q:=a+1+i) (by omega)
 refine ⟨r4,r3,?_⟩
 show 0≤b.getD (6+i) 0∧b.getD (6+i) 0<256
 rw [List.getD_eq_getElem?_getD]
 cases hq:b[6+i]? with
 | none=>simp
 | some x=>exact hby x (List.mem_of_getElem? hq)
theorem scan_ok (hn:5000≤n) (R:Rel S d r k) {at_ size:Int} (hg:rg S at_ size):∃ (l:List Gh) (q:Int) (ok:Bool),Ss n d at_ size=some (l,q,ok,0,d)∧KX n r at_ size=some (l.map pt,q,ok,r)∧l.length≤58∧(∀ w∈l,By w.fData∧w.fData.length=64∧0≤w.fSector∧w.fSector<256)∧(0≤q∧q<4294967296)∧(ok=true→(sector d.fnow at_.toNat)[0]?=some 74):=by
 have hS:=R.le
 have hg':=hg
 unfold rg at hg'
 obtain ⟨z1,z2,a1,a2⟩:=hg'
 obtain ⟨a,rfl⟩:=Int.eq_ofNat_of_zero_le a1
 have hR:Yp n d (a:Int) size=some (0,d):=by rw [region_p n R,if_pos hg]
 obtain ⟨r1,r2,r3,r4⟩:=R.read hn (q:=a) (by omega)
 generalize hB:sector d.fnow a=B at r1 r2 r3 r4
 unfold Ss KX
 rw [hR,Option.bind_some,if_pos rfl,r1,r2,Option.bind_some,Option.bind_some]
 obtain ⟨b0,b1,b2,b3,b4,b5,bs,hBe⟩:=explode6 (t:=B) (by omega)
 have g:∀ (j:Nat) (x:Int),B[j]?=some x→getI B (j:Int)=some x∧getS (b2s B) (j:Int)=some x∧(0≤x∧x<256):=by
  intro j x h
  have hx:=r4 x (List.mem_of_getElem? h)
  exact ⟨by rw [getI_nat]; exact h,getS_b2s B j x h hx,hx⟩
 obtain ⟨p0,s0,h0⟩:=g 0 b0 (by rw [hBe]; rfl)
 obtain ⟨p1,s1,h1⟩:=g 1 b1 (by rw [hBe]; rfl)
 obtain ⟨p2,s2,h2⟩:=g 2 b2 (by rw [hBe]; rfl)
 obtain ⟨p3,s3,h3⟩:=g 3 b3 (by rw [hBe]; rfl)
 obtain ⟨p4,s4,h4⟩:=g 4 b4 (by rw [hBe]; rfl)
 obtain ⟨p5,s5,h5⟩:=g 5 b5 (by rw [hBe]; rfl)
 have p0:getI B 0=some b0:=p0
 have p5:getI B 5=some b5:=p5
 have s0:getS (b2s B) 0=some b0:=s0
 have s1:getS (b2s B) 1=some b1:=s1
 have s2:getS (b2s B) 2=some b2:=s2
 have s3:getS (b2s B) 3=some b3:=s3
 have s4:getS (b2s B) 4=some b4:=s4
 have s5:getS (b2s B) 5=some b5:=s5
 have w5:wi .i64 b5=b5:=wi64 (by omega) (by omega)
 have wz:wi .i64 (size-2)=size-2:=wi64 (by omega) (by omega)
 unfold XP XF
 simp only [p0,p5,s0,s5,Option.bind_some,w5,wz]
 have none_:∃ (l:List Gh) (q:Int) (ok:Bool),some (([]:List Gh),(0:Int),false,(0:Int),d)=some (l,q,ok,0,d)∧some (([]:List Gd),(0:Int),false,r)=some (l.map pt,q,ok,r)∧l.length≤58∧(∀ w∈l,By w.fData∧w.fData.length=64∧0≤w.fSector∧w.fSector<256)∧(0≤q∧q<4294967296)∧(ok=true→(sector d.fnow (a:Int).toNat)[0]?=some 74) :=
  ⟨[],0,false,rfl,rfl,by simp,by simp,by omega,fun h=>by cases h⟩
 by_cases c0:b0=74
 ·rw [if_pos c0,if_pos c0]
  by_cases c1:b5<1
  ·rw [if_pos c1,if_pos (by omega:b5=0)]
   exact none_
  rw [if_neg c1,if_neg (by omega:¬ b5=0)]
  simp only [Option.bind_some]
  by_cases c2:b5 > size-2
  ·rw [decide_eq_true c2]
   exact none_
  rw [decide_eq_false c2]
  simp only [Bool.false_eq_true,if_false]
  obtain ⟨m,rfl⟩:=Int.eq_ofNat_of_zero_le h5.1
  have hsub:sub B 1 (B.length:Int)=some (B.drop 1):=by
   unfold sub
   rw [if_pos ⟨by omega,by omega,by omega⟩]
   simp
  have hrd:Zf n (B.drop 1)=some (vl b1 b2 b3 b4):=read_four n (by rw [hBe]; rfl) (by rw [hBe]; rfl) (by rw [hBe]; rfl) (by rw [hBe]; rfl) h1 h2 h3 h4
  have hq:=vl_rng h1 h2 h3 h4
  generalize hQ:vl b1 b2 b3 b4=q at hrd hq
  have hseq:=seq_is h1 h2 h3 h4
  rw [hQ] at hseq
  have hL:=scanL hn R r3 r4 (a:=a) (m:=m) (by omega) (by omega) q n 0 (by omega) (by omega)
  have hL:KR n (a:Int) (B,0,d) (m:Int) q n 0 d.ffuse d.fsafe d.fnow d.fwait []=_:=hL
  have hRl:=scanR hn R r3 r4 (a:=a) (m:=m) (by omega) (by omega) b1 b2 b3 b4 n 0 (by omega) (by omega)
  have hRl:KI n (a:Int) (b2s B,r) (m:Int) b1 b2 b3 b4 n 1 r.fSectors r.fMark r.fFuse r.fAll []=_:=hRl
  have e1:wi .i64 (wi .i64 ((a:Int)+1)+(m:Int))=((a+1+m:Nat):Int):=by rw [wi_succ (by omega),wi64 (by omega) (by omega)]; omega
  obtain ⟨t1,t2,t3,t4⟩:=R.read hn (q:=a+1+m) (by omega)
  have t1:Kl n ⟨d.fsafe,d.fnow,d.fwait,d.ffuse⟩ ((a+1+m:Nat):Int)=_:=t1
  have t2:Sq n ⟨r.fSectors,r.fMark,r.fFuse,r.fAll⟩ ((a+1+m:Nat):Int)=_:=t2
  generalize hT:sector d.fnow (a+1+m)=T at t1 t2 t3 t4
  have hE:=ents_ok hn R (b:=B) r4 (a:=a) (m:=m) (by omega)
  have hEl:=ents_len d B a m
  have hW:Wk (ents d B a m):=⟨by omega,fun w hw=>⟨(hE w hw).1,by rw [(hE w hw).2.1]; omega⟩⟩
  have hSum:=Sum_is n (by omega) hW
  have hrS:=rSum_is n (by omega) hW
  have hsr:=SM_rng (ents d B a m) 2166136261 (by omega)
  generalize hX:SM 2166136261 (ents d B a m)=X at hSum hrS hsr
  rw [hsub,Option.bind_some,hrd,Option.bind_some,hL,Option.bind_some]
  simp only [s1,s2,s3,s4,Option.bind_some]
  rw [hRl,Option.bind_some]
  simp only
  rw [e1,t1,t2,Option.bind_some,Option.bind_some,hseq,four_is n (by omega) hq,Option.bind_some]
  have k0:(ByteArray.mk #[67])=b2s [67]:=rfl
  rw [k0,cat_b2s _ _ (by simp [wd]),Option.bind_some,hrS,Option.bind_some,four_is n (by omega) hsr,Option.bind_some,cat_b2s _ _ (by simp [wd]),Option.bind_some]
  have hP:By ([67]++wd q++wd X):=By.app (By.app (By.one (by omega)) (wd_by _)) (wd_by _)
  have hPl:([67]++wd q++wd X).length=9:=by simp [wd]
  rw [prefix_is n t4 hP (by rw [hPl]; omega),Option.bind_some,hPl]
  obtain ⟨c0',c1',c2',c3',c4',c5',c6',c7',c8',cs,hTe⟩:=explode9 (t:=T) (by omega)
  have gt:∀ (j:Nat) (x:Int),T[j]?=some x→(0≤x∧x<256):=fun j x h=>t4 x (List.mem_of_getElem? h)
  have y0:=gt 0 c0' (by rw [hTe]; rfl)
  have y1:=gt 1 c1' (by rw [hTe]; rfl)
  have y2:=gt 2 c2' (by rw [hTe]; rfl)
  have y3:=gt 3 c3' (by rw [hTe]; rfl)
  have y4:=gt 4 c4' (by rw [hTe]; rfl)
  have y5:=gt 5 c5' (by rw [hTe]; rfl)
  have y6:=gt 6 c6' (by rw [hTe]; rfl)
  have y7:=gt 7 c7' (by rw [hTe]; rfl)
  have y8:=gt 8 c8' (by rw [hTe]; rfl)
  have htk:T.take 9=[c0',c1',c2',c3',c4',c5',c6',c7',c8']:=by rw [hTe]; rfl
  have key:(T.take 9=[67]++wd q++wd X)↔(c0'=67∧vl c1' c2' c3' c4'=q∧vl c5' c6' c7' c8'=X):=by
   rw [htk]
   constructor
   ·intro e
    simp only [wd,List.cons_append,List.nil_append,List.cons.injEq,and_true] at e
    obtain ⟨e0,e1,e2,e3,e4,e5,e6,e7,e8⟩:=e
    refine ⟨e0,?_,?_⟩
    ·rw [e1,e2,e3,e4]; exact vl_wd hq
    ·rw [e5,e6,e7,e8]; exact vl_wd hsr
   ·rintro ⟨rfl,rfl,rfl⟩
    rw [wd_vl y1 y2 y3 y4,wd_vl y5 y6 y7 y8]; rfl
  unfold XQ
  have u0:getI T 0=some c0':=by rw [hTe]; rfl
  have hs1:sub T 1 (T.length:Int)=some (T.drop 1):=by
   unfold sub
   rw [if_pos ⟨by omega,by omega,by omega⟩]
   simp
  have hs5:sub T 5 (T.length:Int)=some (T.drop 5):=by
   unfold sub
   rw [if_pos ⟨by omega,by omega,by omega⟩]
   simp
  have hr1:Zf n (T.drop 1)=some (vl c1' c2' c3' c4'):=read_four n (by rw [hTe]; rfl) (by rw [hTe]; rfl) (by rw [hTe]; rfl) (by rw [hTe]; rfl) y1 y2 y3 y4
  have hr5:Zf n (T.drop 5)=some (vl c5' c6' c7' c8'):=read_four n (by rw [hTe]; rfl) (by rw [hTe]; rfl) (by rw [hTe]; rfl) (by rw [hTe]; rfl) y5 y6 y7 y8
  simp only [u0,hs1,hs5,hr1,hr5,hSum,Option.bind_some]
  have no:∃ (l:List Gh) (q':Int) (ok:Bool),some (([]:List Gh),q,false,(0:Int),d)=some (l,q',ok,0,d)∧some (([]:List Gd),q,false,r)=some (l.map pt,q',ok,r)∧l.length≤58∧(∀ w∈l,By w.fData∧w.fData.length=64∧0≤w.fSector∧w.fSector<256)∧(0≤q'∧q'<4294967296)∧(ok=true→(sector d.fnow (a:Int).toNat)[0]?=some 74) :=
   ⟨[],q,false,rfl,rfl,by simp,by simp,hq,fun h=>by cases h⟩
  by_cases d0:c0'=67
  ·rw [if_pos d0]
   by_cases d1:vl c1' c2' c3' c4'=q
   ·rw [if_pos d1]
    simp only [Option.bind_some]
    by_cases d2:vl c5' c6' c7' c8'=X
    ·have hb:(vl c5' c6' c7' c8' != X)=false:=by rw [d2]; simp
     rw [hb,decide_eq_true (key.2 ⟨d0,d1,d2⟩)]
     simp only [Bool.false_eq_true,if_false,if_true]
     exact ⟨_,q,true,rfl,rfl,by omega,hE,hq,fun _=>by rw [Int.toNat_natCast,hB,hBe,c0]; rfl⟩
    ·have hb:(vl c5' c6' c7' c8' != X)=true:=by simpa using d2
     rw [hb,decide_eq_false (fun e=>d2 (key.1 e).2.2)]
     simp only [Bool.false_eq_true,if_false,if_true]
     exact no
   ·rw [if_neg d1,decide_eq_false (fun e=>d1 (key.1 e).2.1)]
    simp only [Option.bind_some,Bool.false_eq_true,if_false,if_true]
    exact no
  ·rw [if_neg d0,decide_eq_false (fun e=>d0 (key.1 e).1)]
   simp only [Option.bind_some,Bool.false_eq_true,if_false,if_true]
   exact no
 ·rw [if_neg c0,if_neg c0]
  exact none_
end
end Go.Proofs.Ytgdhhaddfllkaaa.pv.jp
namespace Go.Proofs.Ytgdhhaddfllkaaa.pv.jp
set_option linter.all false
open Go.RowKit help pv ld
def badw (S:Nat) (at_ size:Int) (w:Gh):Bool:=decide (w.fSector≥(S:Int))||(decide (w.fSector≥at_)&&decide (w.fSector<at_+size))
section
variable {n S k:Nat} {d:Gg} {r:Gf}
theorem open_c2 (R:Rel S d r k) {at_ size:Int} (hg:rg S at_ size) (q:List Gh×Int×Bool×Int×Gg) (x:Int) (w:Gh) :
  YT n at_ size q x d.ffuse d.fsafe d.fnow d.fwait w=some (.x0 (badw S at_ size w) d.ffuse d.fsafe d.fnow d.fwait):=by
 have hS:=R.le
 unfold rg at hg
 have hz:G7 n ⟨d.fsafe,d.fnow,d.fwait,d.ffuse⟩=_:=R.size n
 unfold YT badw
 rw [hz,Option.bind_some,wi64 (by omega) (by omega)]
 simp only
 by_cases h1:w.fSector≥(S:Int)
 ·rw [if_pos h1,decide_eq_true h1]; rfl
 ·rw [if_neg h1,decide_eq_false h1]
  by_cases h2:w.fSector≥at_
  ·rw [if_pos h2,decide_eq_true h2]; rfl
  ·rw [if_neg h2,decide_eq_false h2]; rfl
theorem open_l3 (R:Rel S d r k) {at_ size:Int} (hg:rg S at_ size) (q:List Gh×Int×Bool×Int×Gg) (hl:q.1.length≤1000):∀ (t i:Nat),q.1.length-i<t→i≤q.1.length →
  KS n at_ size q t (i:Int) d.ffuse d.fsafe d.fnow d.fwait=some (if (q.1.drop i).any (badw S at_ size) then .x0 17 d.ffuse d.fsafe d.fnow d.fwait else .x1 d.ffuse d.fsafe d.fnow d.fwait)
 | 0,i,h,_=>by omega
 | t+1,i,h,hi=>by
  rw [KS]
  by_cases h1:i<q.1.length
  ·rw [if_pos (by omega),getI_nat,List.getElem?_eq_getElem h1,Option.bind_some,open_c2 R hg,Option.bind_some,List.drop_eq_getElem_cons h1,List.any_cons,wi_succ (by omega)]
   simp only
   by_cases h2:badw S at_ size q.1[i]=true
   ·rw [if_pos h2,h2]; rfl
   ·rw [if_neg h2,Bool.eq_false_iff.2 h2,Bool.false_or]
    exact open_l3 R hg q hl t (i+1) (by omega) (by omega)
  ·rw [if_neg (by omega),List.drop_eq_nil_of_le (by omega)]; rfl
theorem open_r1 (R:Rel S d r k) {at_ size:Int} (hg:rg S at_ size) (l:List Gh) (q:Int) (ok:Bool) (r0:Gf) (hl:l.length≤1000):∀ (t i:Nat),l.length-i<t→i≤l.length →
  KJ n (l.map pt,q,ok,r0) t (i:Int) r.fSectors r.fMark r.fFuse r.fAll at_ size q=some (if (l.drop i).any (badw S at_ size) then .x0 17 r.fSectors r.fMark r.fFuse r.fAll else .x1 r.fSectors r.fMark r.fFuse r.fAll at_ size q)
 | 0,i,h,_=>by omega
 | t+1,i,h,hi=>by
  have hS:=R.le
  have hg':=hg
  unfold rg at hg'
  rw [KJ]
  simp only
  by_cases h1:i<l.length
  ·have hx:(l.map pt)[i]?=some (pt l[i]):=by rw [List.getElem?_map,List.getElem?_eq_getElem h1]; rfl
   have ih:=open_r1 R hg l q ok r0 hl t (i+1) (by omega) (by omega)
   rw [if_pos (by rw [List.length_map]; omega),getI_nat,hx,Option.bind_some,List.drop_eq_getElem_cons h1,List.any_cons,wi_succ (by omega)]
   have hN:(pt l[i]).fN=l[i].fSector:=rfl
   rw [hN]
   by_cases h2:l[i].fSector≥(S:Int)
   ·rw [if_pos (by rw [R.sect]; exact h2)]
    have:badw S at_ size l[i]=true:=by unfold badw; rw [decide_eq_true h2]; rfl
    rw [this]; rfl
   ·rw [if_neg (by rw [R.sect]; exact h2)]
    unfold Zt
    simp only
    rw [wi64 (x:=at_+size) (by omega) (by omega)]
    by_cases h3:l[i].fSector≥at_
    ·rw [if_pos h3,Option.bind_some]
     simp only
     have:badw S at_ size l[i]=decide (l[i].fSector<at_+size):=by unfold badw; rw [decide_eq_false h2,decide_eq_true h3]; rfl
     rw [this]
     by_cases h4:l[i].fSector<at_+size
     ·rw [decide_eq_true h4]; rfl
     ·rw [decide_eq_false h4,Bool.false_or]
      simp only [Bool.false_eq_true,if_false]
      exact ih
    ·rw [if_neg h3,Option.bind_some]
     simp only
     have:badw S at_ size l[i]=false:=by unfold badw; rw [decide_eq_false h2,decide_eq_false h3]; rfl
     rw [this,Bool.false_or]
     simp only [Bool.false_eq_true,if_false]
     exact ih
  ·rw [if_neg (by rw [List.length_map]; omega),List.drop_eq_nil_of_le (by omega)]; rfl
theorem open_w {at_ size:Int} (l:List Gh) (q z1 z2 z3:Int) (ok:Bool) (d0:Gg) (r0:Gf) (e0:Int) (hl:l.length≤1000) (hb:∀ w∈l,By w.fData):∀ (t i:Nat) (d:Gg) (r:Gf) (k:Nat),l.length-i<t→i≤l.length→Rel S d r k→k+(l.length-i)≤1500 →
  ∃ d' r',Rel S d' r' (k+(l.length-i))∧KT n at_ size (l,q,ok,e0,d0) t (i:Int) d.ffuse d.fsafe d.fnow d.fwait=some (.x0 d'.ffuse d'.fsafe d'.fnow d'.fwait) ∧
   KK n (l.map pt,q,ok,r0) z1 z2 z3 t (i:Int) r.fSectors r.fMark r.fFuse r.fAll=some (.x0 r'.fSectors r'.fMark r'.fFuse r'.fAll)
 | 0,i,_,_,_,h,_,_,_=>by omega
 | t+1,i,d,r,k,h,hi,R,hk=>by
  unfold KT KK
  simp only
  by_cases h1:i<l.length
  ·have hx:(l.map pt)[i]?=some (pt l[i]):=by rw [List.getElem?_map,List.getElem?_eq_getElem h1]; rfl
   obtain ⟨e,d',r',w1,w2,w3,_⟩:=R.write n (by omega) l[i].fSector l[i].fData (hb _ (List.getElem_mem h1))
   have w1:Gv n ⟨d.fsafe,d.fnow,d.fwait,d.ffuse⟩ l[i].fSector l[i].fData=_:=w1
   have w2:Gs n ⟨r.fSectors,r.fMark,r.fFuse,r.fAll⟩ (pt l[i]).fN (pt l[i]).fData=_:=w2
   obtain ⟨d2,r2,x1,x2,x3⟩:=open_w l q z1 z2 z3 ok d0 r0 e0 hl hb t (i+1) d' r' (k+1) (by omega) (by omega) w3 (by omega)
   have ek:k+(l.length-i)=k+1+(l.length-(i+1)):=by omega
   rw [ek]
   refine ⟨d2,r2,x1,?_,?_⟩
   ·rw [if_pos (by omega),getI_nat,List.getElem?_eq_getElem h1,Option.bind_some,w1,Option.bind_some,wi_succ (by omega)]
    exact x2
   ·rw [if_pos (by rw [List.length_map]; omega),getI_nat,hx,Option.bind_some,w2,Option.bind_some,wi_succ (by omega)]
    exact x3
  ·have:i=l.length:=by omega
   subst this
   refine ⟨d,r,by rw [Nat.sub_self,Nat.add_zero]; exact R,?_,?_⟩
   ·rw [if_neg (by omega)]
   ·rw [if_neg (by rw [List.length_map]; omega)]
theorem open_ok (hn:5000≤n) (R:Rel S d r k) (hk:k+60≤1500) (at_ size:Int):∃ d' r',Rel S d' r' (k+60) ∧
    ((rg S at_ size∧∃ q,(0≤q∧q<4294967296)∧Yn n d at_ size=some (some ⟨(),at_,size,q⟩,0,d')∧KY n r at_ size=some (some ⟨(),at_,size,q⟩,0,r')) ∨
     (∃ e,Yn n d at_ size=some (none,e,d')∧KY n r at_ size=some (none,e,r')∧(rg S at_ size→(sector d.fnow at_.toNat)[0]?=some 74))):=by
  unfold Yn KY
  rw [region_r n R]
  by_cases hg:rg S at_ size
  · obtain ⟨l,q,ok,s1,s2,s3,s4,s5,s6⟩:=scan_ok hn R hg
    rw [s1,decide_eq_true hg,Option.bind_some,Option.bind_some]
    simp only [if_true]
    rw [s2,Option.bind_some]
    simp only
    cases ok with
    | false =>
      refine ⟨d,r,R.mono (by omega) (by omega),.inl ⟨hg,q,s5,?_,?_⟩⟩
      · simp
      · simp
    | true =>
      have a1:=open_l3 (n:=n) R hg (l,q,true,0,d) (by show l.length≤1000; omega) n 0 (by show l.length-0<n; omega) (by omega)
      have a1:KS n at_ size (l,q,true,0,d) n 0 d.ffuse d.fsafe d.fnow d.fwait=some (if (l.drop 0).any (badw S at_ size) then .x0 17 d.ffuse d.fsafe d.fnow d.fwait else .x1 d.ffuse d.fsafe d.fnow d.fwait):=a1
      have a2:=open_r1 (n:=n) R hg l q true r (by omega) n 0 (by omega) (by omega)
      have a2:KJ n (l.map pt,q,true,r) n 0 r.fSectors r.fMark r.fFuse r.fAll at_ size q=_:=a2
      rw [a1,a2]
      by_cases hb:(l.drop 0).any (badw S at_ size)=true
      · rw [if_pos hb,if_pos hb]
        exact ⟨d,r,R.mono (by omega) (by omega),.inr ⟨17,rfl,rfl,fun _=>s6 rfl⟩⟩
      · rw [Bool.eq_false_iff.2 hb]
        simp only [Bool.false_eq_true,if_false,if_true,Option.bind_some]
        obtain ⟨d',r',w1,w2,w3⟩:=open_w (n:=n) (at_:=at_) (size:=size) l q at_ size q true d r 0 (by omega) (fun w hw=>(s4 w hw).1) n 0 d r k (by omega) (by omega) R (by omega)
        have w2:KT n at_ size (l,q,true,0,d) n 0 d.ffuse d.fsafe d.fnow d.fwait=_:=w2
        have w3:KK n (l.map pt,q,true,r) at_ size q n 0 r.fSectors r.fMark r.fFuse r.fAll=_:=w3
        rw [w2,w3]
        exact ⟨d',r',w1.mono (by omega) (by omega),.inl ⟨hg,q,s5,rfl,rfl⟩⟩
  · have hs:Ss n d at_ size=some ([],0,false,1,d):=by
      unfold Ss
      rw [region_p n R,if_neg hg]
      rfl
    rw [hs,decide_eq_false hg]
    exact ⟨d,r,R.mono (by omega) (by omega),.inr ⟨1,by simp,by simp,fun h=>absurd h hg⟩⟩
theorem scan_no (n:Nat) (R:Rel S d r k) {at_ size:Int} (hg:¬ rg S at_ size):Ss n d at_ size=some ([],0,false,1,d):=by
 unfold Ss
 rw [region_p n R,if_neg hg]
 rfl
end
end Go.Proofs.Ytgdhhaddfllkaaa.pv.jp
