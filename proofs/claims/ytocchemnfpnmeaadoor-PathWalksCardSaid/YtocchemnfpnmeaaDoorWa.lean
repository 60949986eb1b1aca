/- Ways: credentials and modes, on both sides (ModeSays' text turned to any fuel). -/
import Derived.Test.YtocchemnfpnmeaaDoorGuPathWalks
import Derived.Test.YtocchemnfpnmeaaDoorLib
import Derived.Test.YtocchemnfpnmeaaDoorMath
namespace Go.Proofs.YtocchemnfpnmeaaDoor.pv.pw
set_option linter.all false
open Go.RowKit help pv
theorem index_loop (n:Nat) (l:List Int) (v:Int) (hl:l.length<1000000):∀ (k i:Nat),l.length-i<k→i≤l.length →
  ∃ o,Gr n l v k (i:Int)=some o∧(match o with | .x0 j=>0≤j∧v∈l.drop i | .x1=>¬ v∈l.drop i)
 | 0,i,h,_=>by omega
 | k+1,i,h,hi=>by
  rw [Gr]
  by_cases hlt:(i:Int)<(l.length:Int)
  ·obtain ⟨x,hx⟩:=get_lt hlt
   rw [if_pos hlt,getI_nat,hx,Option.bind_some,drop_cons hx]
   by_cases e:v=x
   ·rw [if_pos e]
    exact ⟨_,rfl,by omega,by simp [e]⟩
   ·rw [if_neg e,wi_succ (by omega)]
    obtain ⟨o,h1,h2⟩:=index_loop n l v hl k (i+1) (by omega) (by omega)
    refine ⟨o,h1,?_⟩
    cases o with
    | x0 j=>exact ⟨h2.1,by simp [h2.2]⟩
    | x1=>simpa [e] using h2
  ·rw [if_neg hlt,drop_end hlt]
   exact ⟨_,rfl,by simp⟩
theorem contains_any (n:Nat) (l:List Int) (v:Int) (hl:l.length<1000000) (hn:l.length<n):GA n l v=some (l.contains v):=by
 unfold GA G4
 obtain ⟨o,h1,h2⟩:=index_loop n l v hl n 0 (by omega) (by omega)
 have h1:Gr n l v n 0=some o:=h1
 rw [h1,Option.bind_some]
 cases o with
 | x0 j =>
  simp only [List.drop_zero] at h2
  simp [h2.1,h2.2]
 | x1 =>
  simp only [List.drop_zero] at h2
  simp [h2]
def okc (c:Gc):Prop:=c.fMore.length≤4∧0≤c.fCaps∧c.fCaps≤127
theorem l1_eq (n:Nat) (c:Gc):GK (n+3) c (n+3) 0=if c.fUser<0 then some (.x0 1) else if c.fUser > 99 then some (.x0 1) else if c.fGroup<0 then some (.x0 1) else if c.fGroup > 99 then some (.x0 1) else some .x1:=by
 have g0:getI [c.fUser,c.fGroup] 0=some c.fUser:=rfl
 have g1:getI [c.fUser,c.fGroup] 1=some c.fGroup:=rfl
 have w1:wi .i64 ((0:Int)+1)=1:=rfl
 have w2:wi .i64 ((1:Int)+1)=2:=rfl
 have t3:GK (n+3) c (n+1) 2=some .x1:=by rw [GK,if_neg (by simp)]
 have t2:GK (n+3) c (n+2) 1=if c.fGroup<0 then some (.x0 1) else if c.fGroup > 99 then some (.x0 1) else some .x1:=by rw [GK,if_pos (by simp),g1,Option.bind_some,w2,t3]
 rw [GK,if_pos (by simp),g0,Option.bind_some,w1,t2]
theorem ids_any (n:Nat) (c:Gc):∃ b:Bool,Sc (n+3) c=some (.x0 b)∧GK (n+3) c (n+3) 0=some (if b then .x0 1 else .x1):=by
 rw [l1_eq]
 by_cases h:0≤c.fUser∧c.fUser≤99∧0≤c.fGroup∧c.fGroup≤99
 ·refine ⟨false,?_,?_⟩
  ·unfold Sc minI maxI
   rw [if_neg (by split <;> omega)]
   have:¬ ((if c.fGroup > c.fUser then c.fGroup else c.fUser) > 99):=by split <;> omega
   simp only [decide_eq_false this]
  ·rw [if_neg (by omega),if_neg (by omega),if_neg (by omega),if_neg (by omega)]; rfl
 ·refine ⟨true,?_,?_⟩
  ·unfold Sc minI maxI
   by_cases h':(if c.fGroup<c.fUser then c.fGroup else c.fUser)<0
   ·rw [if_pos h']
   ·rw [if_neg h']
    have:((if c.fGroup > c.fUser then c.fGroup else c.fUser) > 99):=by split at h' <;> split <;> omega
    simp only [decide_eq_true this]
  ·by_cases a1:c.fUser<0
   ·rw [if_pos a1]; rfl
   by_cases a2:c.fUser > 99
   ·rw [if_neg a1,if_pos a2]; rfl
   by_cases a3:c.fGroup<0
   ·rw [if_neg a1,if_neg a2,if_pos a3]; rfl
   by_cases a4:c.fGroup > 99
   ·rw [if_neg a1,if_neg a2,if_neg a3,if_pos a4]; rfl
   omega
theorem more_any (n:Nat) (c:Gc) (hl:c.fMore.length<1000000):∀ (k i:Nat) (last:Int),c.fMore.length-i<k→i≤c.fMore.length→(i=0→last = -1)→(∀ j,i=j+1→c.fMore[j]?=some last) →
  (∃ e:Int,e≠0∧GU n c k (i:Int)=some (.x0 e)∧GG n c k last (i:Int)=some (.x0 e))∨(GU n c k (i:Int)=some .x1∧GG n c k last (i:Int)=some .x1)
 | 0,i,last,h,_,_,_=>by omega
 | k+1,i,last,h,hi,h0,hj=>by
  rw [GU,GG]
  by_cases hlt:(i:Int)<(c.fMore.length:Int)
  ·obtain ⟨x,hx⟩:=get_lt hlt
   rw [if_pos hlt,if_pos hlt,getI_nat,hx,Option.bind_some,Option.bind_some]
   by_cases h1:x<0
   ·exact .inl ⟨1,by decide,by rw [if_pos h1],by rw [if_pos h1]⟩
   by_cases h2:x > 99
   ·exact .inl ⟨1,by decide,by rw [if_neg h1,if_pos h2],by rw [if_neg h1,if_pos h2]⟩
   rw [if_neg h1,if_neg h1,if_neg h2,if_neg h2,wi_succ (by omega)]
   have ih:=more_any n c hl k (i+1) x (by omega) (by omega) (by omega) (fun j e=>by
    have:j=i:=by omega
    subst this; exact hx)
   cases i with
   | zero =>
    rw [h0 rfl,if_neg (by omega),if_neg (by omega)]
    exact ih
   | succ j =>
    have hy:=hj j rfl
    rw [if_pos (by omega)]
    have e:wi .i64 (((j+1:Nat):Int)-1)=(j:Int):=by rw [wi64 (by omega) (by omega)]; omega
    rw [e,getI_nat,hy,Option.bind_some]
    by_cases h4:x≤last
    ·exact .inl ⟨3,by decide,by rw [if_pos h4],by rw [if_pos h4]⟩
    ·rw [if_neg h4,if_neg h4]; exact ih
  ·rw [if_neg hlt,if_neg hlt]; exact .inr ⟨rfl,rfl⟩
theorem caps_any (n:Nat) (c:Gc):∃ b,KI n c=some (.x0 b)∧Sr n c=some (.x0 b)∧(b=false→0≤c.fCaps∧c.fCaps≤127):=by
 by_cases h:0≤c.fCaps∧c.fCaps≤127∧0≤c.fLevel∧c.fLevel≤7∧0≤c.fKind∧c.fKind≤255
 ·refine ⟨false,?_,?_,fun _=>⟨h.1,h.2.1⟩⟩
  ·unfold KI
   rw [if_neg (by omega),if_neg (by omega),if_neg (by omega),if_neg (by omega),if_neg (by omega),decide_eq_false (by omega)]
  ·unfold Sr minI
   rw [if_neg (by split <;> split at*<;> omega),if_neg (by omega),if_neg (by omega),decide_eq_false (by omega)]
 ·refine ⟨true,?_,?_,by simp⟩
  ·unfold KI
   by_cases h1:c.fCaps<0
   ·rw [if_pos h1]
   by_cases h2:c.fCaps > 127
   ·rw [if_neg h1,if_pos h2]
   by_cases h3:c.fLevel<0
   ·rw [if_neg h1,if_neg h2,if_pos h3]
   by_cases h4:c.fLevel > 7
   ·rw [if_neg h1,if_neg h2,if_neg h3,if_pos h4]
   by_cases h5:c.fKind<0
   ·rw [if_neg h1,if_neg h2,if_neg h3,if_neg h4,if_pos h5]
   rw [if_neg h1,if_neg h2,if_neg h3,if_neg h4,if_neg h5,decide_eq_true (by omega)]
  ·unfold Sr
   by_cases h1:minI (minI c.fCaps c.fLevel) c.fKind<0
   ·rw [if_pos h1]
   have h1':0≤c.fCaps∧0≤c.fLevel∧0≤c.fKind:=by
    unfold minI at h1
    split at h1 <;> split at h1 <;> omega
   by_cases h2:c.fCaps > 127
   ·rw [if_neg h1,if_pos h2]
   by_cases h4:c.fLevel > 7
   ·rw [if_neg h1,if_neg h2,if_pos h4]
   rw [if_neg h1,if_neg h2,if_neg h4,decide_eq_true (by omega)]
theorem check_any {n:Nat} (hn:20≤n) (c:Gc):∃ e,Sm n c=some e∧KH n c=some e∧(e=0→okc c):=by
 obtain ⟨m,rfl⟩:∃ k,n=k+3:=⟨n-3,by omega⟩
 unfold Sm KH
 obtain ⟨b,h1,h2⟩:=ids_any m c
 have h1:Sc (m+3) c=some (.x0 b):=h1
 have h2:GK (m+3) c (m+3) 0=some (if b then .x0 1 else .x1):=h2
 rw [h1,h2,Option.bind_some,Option.bind_some]
 cases b with
 | true=>exact ⟨1,rfl,rfl,by simp⟩
 | false =>
  simp only [Bool.false_eq_true,if_false]
  by_cases hm:(c.fMore.length:Int) > 4
  ·exact ⟨2,by simp only [if_pos hm],by simp only [if_pos hm],by simp⟩
  ·simp only [if_neg hm]
   rcases more_any (m+3) c (by omega) (m+3) 0 (-1) (by omega) (by omega) (fun _=>rfl) (fun j h=>by omega) with ⟨e,h3,h4,h5⟩ | ⟨h4,h5⟩
   ·have h4:GU (m+3) c (m+3) 0=_:=h4
    have h5:GG (m+3) c (m+3) (-1) 0=_:=h5
    rw [h4,h5]
    exact ⟨e,rfl,rfl,fun h=>absurd h h3⟩
   ·have h4:GU (m+3) c (m+3) 0=_:=h4
    have h5:GG (m+3) c (m+3) (-1) 0=_:=h5
    obtain ⟨b,h6,h7,h8⟩:=caps_any (m+3) c
    rw [h4,h5]
    simp only [Option.bind_some,h6,h7]
    cases b
    ·exact ⟨0,by simp,by simp,fun _=>⟨by omega,h8 rfl⟩⟩
    ·exact ⟨1,by simp,by simp,by simp⟩
theorem in_any {n:Nat} (hn:20≤n) (c:Gc) (g:Int) (h:Sm n c=some 0) (hc:okc c):YR n c g=some ((g == c.fGroup)||c.fMore.contains g,0):=by
 unfold YR
 rw [h,Option.bind_some,if_pos rfl,contains_any n _ _ (by have:=hc.1; omega) (by have:=hc.1; omega)]
 by_cases e:g=c.fGroup
 ·simp [e]
 ·simp [e]
theorem stat_any (n:Nat) (s:Gh):∃ e,SK n s=some e∧SN n s=some e∧(e=0→0≤s.fMode∧s.fMode≤511):=by
 unfold SK SN ZN KM
 by_cases h:0≤s.fMode∧s.fMode≤511∧0≤s.fUser∧s.fUser≤99∧0≤s.fGroup∧s.fGroup≤99
 ·refine ⟨0,?_,?_,fun _=>⟨h.1,h.2.1⟩⟩
  ·rw [if_neg (by omega),if_neg (by omega),if_neg (by omega),if_neg (by omega),if_neg (by omega),decide_eq_false (by omega)]; rfl
  ·unfold minI maxI
   rw [if_neg (by omega),if_neg (by omega),if_neg (by split <;> omega),decide_eq_false (by split <;> omega)]; rfl
 ·refine ⟨1,?_,?_,by simp⟩
  ·by_cases h1:s.fMode<0
   ·rw [if_pos h1]; rfl
   by_cases h2:s.fMode > 511
   ·rw [if_neg h1,if_pos h2]; rfl
   by_cases h3:s.fUser<0
   ·rw [if_neg h1,if_neg h2,if_pos h3]; rfl
   by_cases h4:s.fUser > 99
   ·rw [if_neg h1,if_neg h2,if_neg h3,if_pos h4]; rfl
   by_cases h5:s.fGroup<0
   ·rw [if_neg h1,if_neg h2,if_neg h3,if_neg h4,if_pos h5]; rfl
   rw [if_neg h1,if_neg h2,if_neg h3,if_neg h4,if_neg h5,decide_eq_true (by omega)]; rfl
  ·by_cases h1:s.fMode<0
   ·rw [if_pos h1]; rfl
   by_cases h2:s.fMode > 511
   ·rw [if_neg h1,if_pos h2]; rfl
   rw [if_neg h1,if_neg h2]
   by_cases h3:minI s.fUser s.fGroup<0
   ·rw [if_pos h3]; rfl
   ·rw [if_neg h3]
    unfold minI at h3
    unfold maxI
    rw [decide_eq_true (by split at h3 <;> split <;> omega)]; rfl
def ov (dir c1 c2:Bool):Int:=(if c1 then 4 else 0)+(if c1&&dir then 1 else 0)+(if c2 then 2 else 0)
theorem caps_nat:∀ C,C<128→((bits .and .i64 ((C:Nat):Int) 1 == 0)=!((C:Int) % 2 == 1))∧((bits .and .i64 ((C:Nat):Int) 2 == 0)=!((C:Int) / 2 % 2 == 1)):=by decide +kernel
theorem over_any (n:Nat) (s:Gh) (c:Gc) (hc:okc c):Yg n s c=some (ov (s.fKind == 2) (c.fCaps % 2 == 1) (c.fCaps / 2 % 2 == 1)):=by
 obtain ⟨_,h1,h2⟩:=hc
 unfold Yg Z5
 obtain ⟨C,hC⟩:=Int.eq_ofNat_of_zero_le h1
 obtain ⟨e1,e2⟩:=caps_nat C (by omega)
 rw [← hC] at e1 e2
 have f1:(bits .and .i64 c.fCaps 1=0)=((c.fCaps % 2 == 1)=false):=by
  have:(bits .and .i64 c.fCaps 1=0)=((bits .and .i64 c.fCaps 1 == 0)=true):=by simp
  rw [this,e1]; simp
 have f2:(bits .and .i64 c.fCaps 2=0)=((c.fCaps / 2 % 2 == 1)=false):=by
  have:(bits .and .i64 c.fCaps 2=0)=((bits .and .i64 c.fCaps 2 == 0)=true):=by simp
  rw [this,e2]; simp
 have f3:(s.fKind=2)=((s.fKind == 2)=true):=by simp
 simp only [f1,f2,f3]
 generalize (c.fCaps % 2 == 1)=b1
 generalize (c.fCaps / 2 % 2 == 1)=b2
 generalize (s.fKind == 2)=b3
 cases b1 <;> cases b2 <;> cases b3 <;> rfl
def rf (d c1 c2:Bool) (q a:Int):Bool :=
 if (remI q 2)=1∧a<4∧c1=false then false
 else if (remI (quoI .i64 q 2) 2)=1∧(remI (quoI .i64 a 2) 2)=0∧c2=false then false
 else if q<4 then true else if (remI a 2)=1 then true else d&&c1
theorem caps2_nat:∀ C,C<128→remI ((C:Nat):Int) 2=(C:Int) % 2∧remI (quoI .i64 ((C:Nat):Int) 2) 2=(C:Int) / 2 % 2:=by decide +kernel
def oct (s:Gh) (c:Gc):Int:=if c.fUser=s.fUser then s.fMode / 64 else if ((s.fGroup == c.fGroup)||c.fMore.contains s.fGroup)=true then s.fMode / 8 % 8 else s.fMode % 8
theorem mode_nat:∀ M,M<512→shrI .i64 ((M:Nat):Int) 6=(M:Int) / 64∧bits .and .i64 (shrI .i64 ((M:Nat):Int) 3) 7=(M:Int) / 8 % 8∧bits .and .i64 ((M:Nat):Int) 7=(M:Int) % 8∧quoI .i64 ((M:Nat):Int) 64=(M:Int) / 64∧remI (quoI .i64 ((M:Nat):Int) 8) 8=(M:Int) / 8 % 8∧remI ((M:Nat):Int) 8=(M:Int) % 8:=by decide +kernel
def wq (q:Int):Int:=bits .or .i64 (bits .or .i64 (shlI .i64 (bits .and .i64 q 1) 2) (bits .and .i64 q 2)) (shrI .i64 (bits .and .i64 q 4) 2)
theorem same_nat:∀ Q,Q<8→∀ A,A<8→∀ d c1 c2:Bool,((bits .andNot .i64 (wq ((Q:Nat):Int)) (bits .or .i64 ((A:Nat):Int) (ov d c1 c2))) == 0)=rf d c1 c2 Q A:=by decide +kernel
section
variable {n:Nat} (hn:20≤n) (s:Gh) (c:Gc) (hc:okc c) (h0:Sm n c=some 0) (hs:SK n s=some 0) (m0:0≤s.fMode) (m1:s.fMode≤511)
include hn hc h0 hs m0 m1
theorem may_1 (q:Int) (q0:0≤q) (q1:q≤7):ZH n s c q=some (rf (s.fKind == 2) (c.fCaps % 2 == 1) (c.fCaps / 2 % 2 == 1) q (oct s c),0):=by
 unfold ZH
 rw [h0,Option.bind_some,if_pos rfl,hs,Option.bind_some,if_pos rfl,if_neg (by omega),if_neg (by omega)]
 have hb:Yf n s c=some (oct s c):=by
  unfold Yf oct
  obtain ⟨M,hM⟩:=Int.eq_ofNat_of_zero_le m0
  obtain ⟨e1,e2,e3,_⟩:=mode_nat M (by omega)
  rw [← hM] at e1 e2 e3
  by_cases hu:c.fUser=s.fUser
  ·rw [if_pos hu,if_pos hu,e1]
  ·rw [if_neg hu,if_neg hu,in_any hn c _ h0 hc,Option.bind_some]
   split
   ·rw [e2]
   ·rw [e3]
 simp only [Yo,hb,over_any n s c hc,Option.bind_some]
 have ho:0≤oct s c∧oct s c<8:=by unfold oct; split <;> (try split) <;> omega
 obtain ⟨A,hA⟩:=Int.eq_ofNat_of_zero_le ho.1
 obtain ⟨Q,hQ⟩:=Int.eq_ofNat_of_zero_le q0
 have:=same_nat Q (by omega) A (by omega) (s.fKind == 2) (c.fCaps % 2 == 1) (c.fCaps / 2 % 2 == 1)
 rw [← hA,← hQ] at this
 rw [← this]; rfl
end
section
variable {n:Nat} (hn:20≤n) (s:Gh) (c:Gc) (hc:okc c) (m0:0≤s.fMode) (m1:s.fMode≤511)
include hn hc m0 m1
theorem may_2 (q:Int):K8 n s c q=some (rf (s.fKind == 2) (c.fCaps % 2 == 1) (c.fCaps / 2 % 2 == 1) q (oct s c)):=by
 obtain ⟨k0,k1,k2⟩:=hc
 unfold K8 Zy
 have ha:app 8 [c.fGroup] c.fMore=some ([c.fGroup]++c.fMore):=app_some (by simp; omega) (by omega)
 rw [ha]
 simp only [Option.bind_some]
 rw [contains_any n _ _ (by simp; omega) (by simp; omega),Option.bind_some]
 obtain ⟨M,hM⟩:=Int.eq_ofNat_of_zero_le m0
 obtain ⟨_,_,_,e1,e2,e3⟩:=mode_nat M (by omega)
 rw [← hM] at e1 e2 e3
 have hg:([c.fGroup]++c.fMore).contains s.fGroup=((s.fGroup == c.fGroup)||c.fMore.contains s.fGroup):=by
  rw [List.singleton_append,List.contains_cons]
 have z:(Kv n q s (([c.fGroup]++c.fMore).contains s.fGroup) c)=some (.x0 (if ((s.fGroup == c.fGroup)||c.fMore.contains s.fGroup)=true then s.fMode / 8 % 8 else s.fMode % 8)):=by
  unfold Kv
  rw [hg,e2,e3]
  split <;> rfl
 rw [z,Option.bind_some]
 have z2:Kw n q (if ((s.fGroup == c.fGroup)||c.fMore.contains s.fGroup)=true then s.fMode / 8 % 8 else s.fMode % 8) c s=some (.x0 (oct s c)):=by
  unfold Kw oct
  rw [e1]
  split <;> rfl
 simp only [z2,Option.bind_some]
 obtain ⟨C,hC⟩:=Int.eq_ofNat_of_zero_le k1
 obtain ⟨n1,n2⟩:=caps2_nat C (by omega)
 rw [← hC] at n1 n2
 unfold Zc Zd Ze rf
 simp only [n1,n2]
 have g1:(c.fCaps % 2 == 0)=!(c.fCaps % 2 == 1):=by
  have:c.fCaps % 2=0∨c.fCaps % 2=1:=by omega
  rcases this with h | h <;> simp [h]
 have g2:(c.fCaps / 2 % 2 == 0)=!(c.fCaps / 2 % 2 == 1):=by
  have:c.fCaps / 2 % 2=0∨c.fCaps / 2 % 2=1:=by omega
  rcases this with h | h <;> simp [h]
 rw [g1,g2]
 have g3:(s.fKind=2)=((s.fKind == 2)=true):=by simp
 simp only [g3]
 generalize (c.fCaps % 2 == 1)=b1
 generalize (c.fCaps / 2 % 2 == 1)=b2
 generalize (s.fKind == 2)=b3
 generalize oct s c=a
 by_cases p1:remI q 2=1 <;> by_cases p2:a<4 <;> by_cases p3:remI (quoI .i64 q 2) 2=1 <;> by_cases p4:remI (quoI .i64 a 2) 2=0 <;> by_cases p5:q<4 <;> by_cases p6:remI a 2=1 <;> cases b1 <;> cases b2 <;> cases b3 <;> simp [p1,p2,p3,p4,p5,p6]
end
end Go.Proofs.YtocchemnfpnmeaaDoor.pv.pw
