/- What the functions compute (part 2): written by gen.py. -/
import Derived.Test.YtgdhhaddfllkaaaGuJournalPlaysP1
set_option maxRecDepth 100000
set_option linter.all false
namespace Go.Proofs.Ytgdhhaddfllkaaa.pv
open Go.RowKit
theorem Ut (n:Nat) (a:(List Ga)) (e f:Int) (g:(Ga→Ga→Option (Int))) (i:FuncId) (j:List PV) (k:∀ (x0:Ga) (x1:Ga) (r:Int),g x0 x1=some r→Ret Try.prog i ([Gb x0,Gb x1]++j) ((eI .i64) r)) (r:(List Ga)) (h:Sv n a e f g=some r):RetH Try.prog 74 [.srf 0,.d ((eI .i64) e),.d ((eI .i64) f),.d ((.clo i j))] [.row 86 3 (a.map Gb)] (.tup []) [.row 86 3 (r.map Gb)]:=by
 refine retH_run (n:=53) (fn:=Try.f74) (c:=bodyOf Try.f74) (by kernel_rfl) (by kernel_rfl) (by kernel_rfl) (by kernel_rfl) ?_
 have hF:KC 53 (FinH Try.prog Try.f74 [.row 86 3 (a.map Gb)] (.tup []) [.row 86 3 (r.map Gb)]):=FinH.kc' (by kernel_rfl)
 unfold Sv at h
 obtain ⟨m,o,h⟩:=bind_some h
 refine pkk_sound TTok mix hF 4 (hs:=[.n n]) (ts:=[]) (s:=[1,0]) (l:=[0,1,2,3,8]) (by kernel_rfl) (by kernel_rfl) .nil (Z1 hF (.b 0::[]) n e f g i j k n (wi .i64 (e+1)) a _ o ?_)
 cases m with
 | x0 p =>
  try dsimp only at h
  obtain rfl:=Option.some.inj h
  exact pendH_sound TTok mix 1 (hs:=[]) [1] (by kernel_rfl) (by kernel_rfl) (by kernel_rfl) .nil
inductive Sw where
 | x0 (a:Bool) (b:(List Ga))
def U8:Sw→Ex
 | .x0 _ _=>.normal
def U9 (b c:Int) (i:(Ga→Ga→Option (Int))) (a:Int) (j:(List Ga)) (e:FuncId) (f:(List PV)):Sw→PS
 | .x0 g h=>⟨(.srf 1::dd::di b::di c::.d (.clo e f)::dd::dd::dd::dd::dd::di a::di (wi .i64 ((wi .i64 (2*a))+1))::(dds 28 (.d (.v (.bool g))::(dds 41 [])))),[.gh 0 (.srf 1),.row 86 3 (h.map Gb)]⟩
def Va (b c:Int) (h:(Ga→Ga→Option (Int))) (a:Int) (e:(List Ga)) (f:FuncId) (g:(List PV))  : PS:=⟨(.srf 1::dd::di b::di c::.d (.clo f g)::dd::dd::dd::dd::dd::di a::di (wi .i64 ((wi .i64 (2*a))+1))::(dds 70 [])),[.gh 0 (.srf 1),.row 86 3 (e.map Gb)]⟩
def SL (n:Nat) (d b:Int) (e:(Ga→Ga→Option (Int))) (a:Int) (c:(List Ga)):Option Sw :=
 if (wi .i64 ((wi .i64 ((wi .i64 (2*a))+1))+1))<d then
  if 0≤(wi .i64 (b+(wi .i64 ((wi .i64 (2*a))+1))))∧((wi .i64 (b+(wi .i64 ((wi .i64 (2*a))+1))))).toNat<c.length then
   (c[((wi .i64 (b+(wi .i64 ((wi .i64 (2*a))+1))))).toNat]?).bind fun (f:Ga) =>
   if 0≤(wi .i64 ((wi .i64 (b+(wi .i64 ((wi .i64 (2*a))+1))))+1))∧((wi .i64 ((wi .i64 (b+(wi .i64 ((wi .i64 (2*a))+1))))+1))).toNat<c.length then
    (c[((wi .i64 ((wi .i64 (b+(wi .i64 ((wi .i64 (2*a))+1))))+1))).toNat]?).bind fun (g:Ga) =>
    (e f g).bind fun (h:(Int)) =>
    some (.x0 (decide (h<0)) c)
   else none
  else none
 else
  some (.x0 false c)
theorem Vb {Fi:Ex→PS→Prop} (hF:KC 82 Fi) (ks:List Fr) (n:Nat) (e b:Int) (g:(Ga→Ga→Option (Int))) (a:Int) (d:(List Ga)) (j:FuncId) (k:(List PV)) (w:∀ (x0:Ga) (x1:Ga) (r:Int),g x0 x1=some r→Ret Try.prog j ([Gb x0,Gb x1]++k) ((eI .i64) r)) (o:Sw) (h:SL n e b g a d=some o) (q:RunE Try.prog 82 Fi ks (U8 o) (U9 e b g a d j k o)):RunE Try.prog 82 Fi (.s (cL (cL (cR (cR (cB (cP (cB (cR (bodyOf Try.f84)))))))))::ks) .normal (Va e b g a d j k):=by
 unfold SL at h
 by_cases i:(wi .i64 ((wi .i64 ((wi .i64 (2*a))+1))+1))<e
 ·rw [if_pos i] at h
  by_cases m:0≤(wi .i64 (b+(wi .i64 ((wi .i64 (2*a))+1))))∧((wi .i64 (b+(wi .i64 ((wi .i64 (2*a))+1))))).toNat<d.length
  ·rw [if_pos m] at h
   obtain ⟨u,x,h⟩:=bind_some h
   by_cases p:0≤(wi .i64 ((wi .i64 (b+(wi .i64 ((wi .i64 (2*a))+1))))+1))∧((wi .i64 ((wi .i64 (b+(wi .i64 ((wi .i64 (2*a))+1))))+1))).toNat<d.length
   ·rw [if_pos p] at h
    obtain ⟨v,z,h⟩:=bind_some h
    obtain ⟨a0,a1,h⟩:=bind_some h
    cases h
    exact pkk_sound TTok mix hF 1 (hs:=[.t true,.c,.c,.c,.c,.c,.c,.y (Gb u),.c,.c,.c,.c,.c,.c,.c,.y (Gb v),.c,.r ((eI .i64) a0),.c]) (ts:=[]) (s:=[0,1]) (l:=[0,2,3,4,10,11,40]) (by kernel_rfl) (by kernel_rfl) (.cons (dt i) (.cons (idx_ob (f:=Gb) m) (.cons (get_ob (f:=Gb) x) (.cons (idx_ob (f:=Gb) p) (.cons (get_ob (f:=Gb) z) (.cons (w u v _ a1) .nil)))))) q
   ·rw [if_neg p] at h; cases h
  ·rw [if_neg m] at h; cases h
 ·rw [if_neg i] at h
  cases h
  exact pkk_sound TTok mix hF 1 (hs:=[.t false,.c,.c,.c,.c,.c,.c,.c,.c,.c,.c,.c,.c,.c,.c,.c]) (ts:=[]) (s:=[0,1]) (l:=[0,2,3,4,10,11,40]) (by kernel_rfl) (by kernel_rfl) (.cons (df i) .nil) q
inductive Kh where
 | x0 (a:Int) (b:(List Ga))
def Vc:Kh→Ex
 | .x0 _ _=>.normal
def Vd (a b:Int) (i:(Ga→Ga→Option (Int))) (c:Int) (j:Bool) (k:(List Ga)) (e:FuncId) (f:(List PV)):Kh→PS
 | .x0 g h=>⟨(.srf 1::dd::di a::di b::.d (.clo e f)::dd::dd::dd::dd::dd::di c::di g::(dds 70 [])),[.gh 0 (.srf 1),.row 86 3 (h.map Gb)]⟩
def Ve (b c:Int) (i:(Ga→Ga→Option (Int))) (a:Int) (e:Bool) (f:(List Ga)) (g:FuncId) (h:(List PV))  : PS:=⟨(.srf 1::dd::di b::di c::.d (.clo g h)::dd::dd::dd::dd::dd::di a::di (wi .i64 ((wi .i64 (2*a))+1))::(dds 28 (.d (.v (.bool e))::(dds 41 [])))),[.gh 0 (.srf 1),.row 86 3 (f.map Gb)]⟩
def G8 (n:Nat) (d e:Int) (f:(Ga→Ga→Option (Int))) (a:Int) (c:Bool) (b:(List Ga)):Option Kh :=
 if c=true then
  some (.x0 (wi .i64 ((wi .i64 ((wi .i64 (2*a))+1))+1)) b)
 else
  some (.x0 (wi .i64 ((wi .i64 (2*a))+1)) b)
theorem Vf {Fi:Ex→PS→Prop} (hF:KC 82 Fi) (ks:List Fr) (n:Nat) (d e:Int) (a:(Ga→Ga→Option (Int))) (f:Int) (b:Bool) (g:(List Ga)) (i:FuncId) (j:(List PV)) (k:∀ (x0:Ga) (x1:Ga) (r:Int),a x0 x1=some r→Ret Try.prog i ([Gb x0,Gb x1]++j) ((eI .i64) r)) (o:Kh) (h:G8 n d e a f b g=some o) (q:RunE Try.prog 82 Fi ks (Vc o) (Vd d e a f b g i j o)):RunE Try.prog 82 Fi (.s (cR (cL (cR (cR (cB (cP (cB (cR (bodyOf Try.f84)))))))))::ks) .normal (Ve d e a f b g i j):=by
 unfold G8 at h
 by_cases c:b=true
 ·rw [if_pos c] at h
  cases h
  exact pkk_sound TTok mix hF 2 (hs:=[.t true]) (ts:=[]) (s:=[0,1]) (l:=[0,2,3,4,10,11]) (by kernel_rfl) (by kernel_rfl) (.cons c .nil) q
 ·rw [if_neg c] at h
  cases h
  exact pkk_sound TTok mix hF 2 (hs:=[.t false]) (ts:=[]) (s:=[0,1]) (l:=[0,2,3,4,10,11]) (by kernel_rfl) (by kernel_rfl) (.cons (vf c) .nil) q
inductive Ki where
 | x0 (a:(List Ga))
 | x1 (b:(List Ga))
def Vg:Ki→Ex
 | .x0 _=>.exit 0
 | .x1 _=>.ret
def Vh (c d:Int) (e:(Ga→Ga→Option (Int))) (f:FuncId) (g:(List PV)):Ki→PS
 | .x0 a=>⟨(dds 82 []),[.gh 0 (.srf 1),.row 86 3 (a.map Gb)]⟩
 | .x1 b=>⟨(dds 82 []),[.gh 0 (.srf 1),.row 86 3 (b.map Gb)]⟩
def Vi (a b:Int) (h:(Ga→Ga→Option (Int))) (c:FuncId) (e:(List PV)) (f:Int) (g:(List Ga)):PS:=⟨(.srf 1::dd::di a::di b::.d (.clo c e)::dd::dd::dd::dd::dd::di f::(dds 71 [])),[.gh 0 (.srf 1),.row 86 3 (g.map Gb)]⟩
def GY (n:Nat) (e a:Int) (f:(Ga→Ga→Option (Int))):Nat→Int→(List Ga)→Option Ki
 | 0,_,_=>none
 | k+1,b,h =>
  if (wi .i64 ((wi .i64 (2*b))+1))≥e then
   some (.x0 h)
  else
   (SL n e a f b h).bind fun i=>match i with
   | .x0 j l =>
    (G8 n e a f b j l).bind fun m=>match m with
    | .x0 d c =>
     if 0≤(wi .i64 (a+b))∧((wi .i64 (a+b))).toNat<c.length then
      (c[((wi .i64 (a+b))).toNat]?).bind fun (o:Ga) =>
      if 0≤(wi .i64 (a+d))∧((wi .i64 (a+d))).toNat<c.length then
       (c[((wi .i64 (a+d))).toNat]?).bind fun (p:Ga) =>
       (f o p).bind fun (q:(Int)) =>
       if q<0 then
        if 0≤(wi .i64 (a+d))∧((wi .i64 (a+d))).toNat<c.length then
         (c[((wi .i64 (a+d))).toNat]?).bind fun (g:Ga) =>
         if 0≤(wi .i64 (a+b))∧((wi .i64 (a+b))).toNat<c.length then
          (c[((wi .i64 (a+b))).toNat]?).bind fun (r:Ga) =>
          if 0≤(wi .i64 (a+b))∧((wi .i64 (a+b))).toNat<c.length then
           (c[((wi .i64 (a+b))).toNat]?).bind fun (s:Ga) =>
           if 0≤(wi .i64 (a+d))∧((wi .i64 (a+d))).toNat<(c.set ((wi .i64 (a+b))).toNat g).length then
            ((c.set ((wi .i64 (a+b))).toNat g)[((wi .i64 (a+d))).toNat]?).bind fun (t:Ga) =>
            GY n e a f k d ((c.set ((wi .i64 (a+b))).toNat g).set ((wi .i64 (a+d))).toNat r)
           else none
          else none
         else none
        else none
       else
        some (.x1 c)
      else none
     else none
theorem YA {Fi:Ex→PS→Prop} (hF:KC 82 Fi) (ks:List Fr) (n:Nat) (j a:Int) (m:(Ga→Ga→Option (Int))) (u:FuncId) (x:(List PV)) (a0:∀ (x0:Ga) (x1:Ga) (r:Int),m x0 x1=some r→Ret Try.prog u ([Gb x0,Gb x1]++x) ((eI .i64) r)):∀ (k:Nat) (c:Int) (a1:(List Ga)) (o:Ki),GY n j a m k c a1=some o→RunE Try.prog 82 Fi ks (Vg o) (Vh j a m u x o)→RunE Try.prog 82 Fi (.l k (cP (cB (cR (bodyOf Try.f84))))::ks) .normal (Vi j a m u x c a1)
 | 0,c,a1,o,h,q=>by rw [GY] at h; cases h
 | k+1,c,a1,o,h,q=>by
  rw [GY] at h
  by_cases a2:(wi .i64 ((wi .i64 (2*c))+1))≥j
  ·rw [if_pos a2] at h
   cases h
   exact pkk_sound TTok mix hF 12 (hs:=[.t true]) (ts:=[]) (s:=[0,1]) (l:=[]) (by kernel_rfl) (by kernel_rfl) (.cons (dt a2) .nil) q
  ·rw [if_neg a2] at h
   obtain ⟨b6,b7,h⟩:=bind_some h
   refine pkk_sound TTok mix hF 11 (hs:=[.t false]) (ts:=[]) (s:=[0,1]) (l:=[0,2,3,4,10,11]) (by kernel_rfl) (by kernel_rfl) (.cons (df a2) .nil) (Vb hF (.s (cR (cL (cR (cR (cB (cP (cB (cR (bodyOf Try.f84)))))))))::.s (cR (cR (cR (cB (cP (cB (cR (bodyOf Try.f84))))))))::.b 1::.l k (cP (cB (cR (bodyOf Try.f84))))::ks) n j a m c a1 u x a0 _ b7 ?_)
   cases b6 with
   | x0 b8 b9 =>
    try dsimp only at h
    obtain ⟨c0,c1,h⟩:=bind_some h
    refine pkk_sound TTok mix hF 0 (hs:=[]) (ts:=[]) (s:=[0,1]) (l:=[0,2,3,4,10,11,40]) (by kernel_rfl) (by kernel_rfl) .nil (Vf hF (.s (cR (cR (cR (cB (cP (cB (cR (bodyOf Try.f84))))))))::.b 1::.l k (cP (cB (cR (bodyOf Try.f84))))::ks) n j a m c b8 b9 u x a0 _ c1 ?_)
    cases c0 with
    | x0 g e =>
     try dsimp only at h
     by_cases a3:0≤(wi .i64 (a+c))∧((wi .i64 (a+c))).toNat<e.length
     ·rw [if_pos a3] at h
      obtain ⟨a4,b3,h⟩:=bind_some h
      by_cases a5:0≤(wi .i64 (a+g))∧((wi .i64 (a+g))).toNat<e.length
      ·rw [if_pos a5] at h
       obtain ⟨a6,b4,h⟩:=bind_some h
       obtain ⟨a8,b5,h⟩:=bind_some h
       by_cases a7:a8<0
       ·rw [if_pos a7] at h
        by_cases a9:0≤(wi .i64 (a+g))∧((wi .i64 (a+g))).toNat<e.length
        ·rw [if_pos a9] at h
         obtain ⟨d,c2,h⟩:=bind_some h
         by_cases b0:0≤(wi .i64 (a+c))∧((wi .i64 (a+c))).toNat<e.length
         ·rw [if_pos b0] at h
          obtain ⟨i,c3,h⟩:=bind_some h
          by_cases b1:0≤(wi .i64 (a+c))∧((wi .i64 (a+c))).toNat<e.length
          ·rw [if_pos b1] at h
           obtain ⟨c4,c5,h⟩:=bind_some h
           by_cases b2:0≤(wi .i64 (a+g))∧((wi .i64 (a+g))).toNat<(e.set ((wi .i64 (a+c))).toNat d).length
           ·rw [if_pos b2] at h
            obtain ⟨c6,c7,h⟩:=bind_some h
            exact pkk_sound TTok mix hF 9 (hs:=[.y (Gb a4),.y (Gb a6),.r ((eI .i64) a8),.t false,.y (Gb d),.y (Gb i),.w ((e.set ((wi .i64 (a+c))).toNat d).map Gb),.y (Gb c4),.w (((e.set ((wi .i64 (a+c))).toNat d).set ((wi .i64 (a+g))).toNat i).map Gb),.y (Gb c6)]) (ts:=[]) (s:=[0,1]) (l:=[0,2,3,4,10]) (by kernel_rfl) (by kernel_rfl) (.cons (idx_ob (f:=Gb) a3) (.cons (get_ob (f:=Gb) b3) (.cons (idx_ob (f:=Gb) a5) (.cons (get_ob (f:=Gb) b4) (.cons (a0 a4 a6 _ b5) (.cons (bnf (dt a7)) (.cons (idx_ob (f:=Gb) a9) (.cons (get_ob (f:=Gb) c2) (.cons (idx_ob (f:=Gb) b0) (.cons (get_ob (f:=Gb) c3) (.cons (idx_ob (f:=Gb) b1) (.cons (get_ob (f:=Gb) c5) (.cons (Eq.refl (pcells (.agg [.v (.int .i64 d.fSector),.sl (d.fData.map (eI .u8)),.v (.bool d.fBarrier)]))) (.cons (set_ob (f:=Gb) (l:=e) (k:=((wi .i64 (a+c))).toNat) (z:=d) (p:=.agg [.v (.int .i64 d.fSector),.sl (d.fData.map (eI .u8)),.v (.bool d.fBarrier)]) rfl) (.cons (idx_ob (f:=Gb) b2) (.cons (get_ob (f:=Gb) c7) (.cons (Eq.refl (pcells (.agg [.v (.int .i64 i.fSector),.sl (i.fData.map (eI .u8)),.v (.bool i.fBarrier)]))) (.cons (set_ob (f:=Gb) (l:=(e.set ((wi .i64 (a+c))).toNat d)) (k:=((wi .i64 (a+g))).toNat) (z:=i) (p:=.agg [.v (.int .i64 i.fSector),.sl (i.fData.map (eI .u8)),.v (.bool i.fBarrier)]) rfl) .nil)))))))))))))))))) (YA hF ks n j a m u x a0 k g ((e.set ((wi .i64 (a+c))).toNat d).set ((wi .i64 (a+g))).toNat i) _ h q)
           ·rw [if_neg b2] at h; cases h
          ·rw [if_neg b1] at h; cases h
         ·rw [if_neg b0] at h; cases h
        ·rw [if_neg a9] at h; cases h
       ·rw [if_neg a7] at h
        cases h
        exact pkk_sound TTok mix hF 8 (hs:=[.y (Gb a4),.y (Gb a6),.r ((eI .i64) a8),.t true]) (ts:=[]) (s:=[0,1]) (l:=[]) (by kernel_rfl) (by kernel_rfl) (.cons (idx_ob (f:=Gb) a3) (.cons (get_ob (f:=Gb) b3) (.cons (idx_ob (f:=Gb) a5) (.cons (get_ob (f:=Gb) b4) (.cons (a0 a4 a6 _ b5) (.cons (bnt (df a7)) .nil)))))) q
      ·rw [if_neg a5] at h; cases h
     ·rw [if_neg a3] at h; cases h
/- slices.siftDownCmpFunc[ringhall/lift.Req] -/
def Sp (n:Nat) (a:(List Ga)) (b c d:Int) (e:(Ga→Ga→Option (Int))):Option ((List Ga)) :=
 (GY n c d e n b a).bind fun f=>match f with
 | .x0 g =>
  some g
 | .x1 h =>
  some h
theorem YW (n:Nat) (a:(List Ga)) (e f g:Int) (i:(Ga→Ga→Option (Int))) (j:FuncId) (k:List PV) (m:∀ (x0:Ga) (x1:Ga) (r:Int),i x0 x1=some r→Ret Try.prog j ([Gb x0,Gb x1]++k) ((eI .i64) r)) (r:(List Ga)) (h:Sp n a e f g i=some r):RetH Try.prog 84 [.srf 0,.d ((eI .i64) e),.d ((eI .i64) f),.d ((eI .i64) g),.d ((.clo j k))] [.row 86 3 (a.map Gb)] (.tup []) [.row 86 3 (r.map Gb)]:=by
 refine retH_run (n:=82) (fn:=Try.f84) (c:=bodyOf Try.f84) (by kernel_rfl) (by kernel_rfl) (by kernel_rfl) (by kernel_rfl) ?_
 have hF:KC 82 (FinH Try.prog Try.f84 [.row 86 3 (a.map Gb)] (.tup []) [.row 86 3 (r.map Gb)]):=FinH.kc' (by kernel_rfl)
 unfold Sp at h
 obtain ⟨o,p,h⟩:=bind_some h
 refine pkk_sound TTok mix hF 4 (hs:=[.n n]) (ts:=[]) (s:=[1,0]) (l:=[0,2,3,4,10]) (by kernel_rfl) (by kernel_rfl) .nil (YA hF (.b 0::[]) n f g i j k m n e a _ p ?_)
 cases o with
 | x0 q =>
  try dsimp only at h
  obtain rfl:=Option.some.inj h
  exact pendH_sound TTok mix 1 (hs:=[]) [1] (by kernel_rfl) (by kernel_rfl) (by kernel_rfl) .nil
 | x1 t =>
  try dsimp only at h
  obtain rfl:=Option.some.inj h
  exact pendH_sound TTok mix 1 (hs:=[]) [1] (by kernel_rfl) (by kernel_rfl) (by kernel_rfl) .nil
inductive Kj where
 | x0 (a:(List Ga))
def Vj:Kj→Ex
 | .x0 _=>.exit 0
def Vk (g:(Ga→Ga→Option (Int))) (a b:Int) (c:FuncId) (e:(List PV)):Kj→PS
 | .x0 f=>⟨(.srf 1::dd::dd::.d (.clo c e)::dd::dd::dd::dd::di a::di 0::di (wi .i64 (b-a))::(dds 49 [])),[.gh 0 (.srf 1),.row 86 3 (f.map Gb)]⟩
def Vl (h:(Ga→Ga→Option (Int))) (a b:Int) (c:FuncId) (e:(List PV)) (f:Int) (g:(List Ga)):PS:=⟨(.srf 1::dd::dd::.d (.clo c e)::dd::dd::dd::dd::di a::di 0::di (wi .i64 (b-a))::di f::(dds 48 [])),[.gh 0 (.srf 1),.row 86 3 (g.map Gb)]⟩
def GZ (n:Nat) (c:(Ga→Ga→Option (Int))) (a d:Int):Nat→Int→(List Ga)→Option Kj
 | 0,_,_=>none
 | k+1,b,e =>
  if b≥0 then
   (Sp n e b (wi .i64 (d-a)) a c).bind fun (f:((List Ga))) =>
   GZ n c a d k (wi .i64 (b-1)) f
  else
   some (.x0 e)
theorem YB {Fi:Ex→PS→Prop} (hF:KC 60 Fi) (ks:List Fr) (n:Nat) (b:(Ga→Ga→Option (Int))) (c d:Int) (e:FuncId) (f:(List PV)) (j:∀ (x0:Ga) (x1:Ga) (r:Int),b x0 x1=some r→Ret Try.prog e ([Gb x0,Gb x1]++f) ((eI .i64) r)):∀ (k:Nat) (a:Int) (g:(List Ga)) (o:Kj),GZ n b c d k a g=some o→RunE Try.prog 60 Fi ks (Vj o) (Vk b c d e f o)→RunE Try.prog 60 Fi (.l k (cP (cB (cR (cL (cR (cR (cR (bodyOf Try.f75))))))))::ks) .normal (Vl b c d e f a g)
 | 0,a,g,o,h,q=>by rw [GZ] at h; cases h
 | k+1,a,g,o,h,q=>by
  rw [GZ] at h
  by_cases i:a≥0
  ·rw [if_pos i] at h
   obtain ⟨m,p,h⟩:=bind_some h
   exact pkk_sound TTok mix hF 11 (hs:=[.t true,.h [1] [] [.row 86 3 (m.map Gb)] (.tup [])]) (ts:=[]) (s:=[0,1]) (l:=[0,3,8,9,10,11]) (by kernel_rfl) (by kernel_rfl) (.cons (dt i) (.cons (YW n g a (wi .i64 (d-c)) c b e f j _ p) .nil)) (YB hF ks n b c d e f j k (wi .i64 (a-1)) m _ h q)
  ·rw [if_neg i] at h
   cases h
   exact pkk_sound TTok mix hF 8 (hs:=[.t false]) (ts:=[]) (s:=[0,1]) (l:=[0,3,8,9,10]) (by kernel_rfl) (by kernel_rfl) (.cons (df i) .nil) q
inductive Kk where
 | x0 (a:(List Ga))
def Vm:Kk→Ex
 | .x0 _=>.exit 2
def Vn (b:(Ga→Ga→Option (Int))) (c:Int) (d:FuncId) (e:(List PV)):Kk→PS
 | .x0 a=>⟨(dds 60 []),[.gh 0 (.srf 1),.row 86 3 (a.map Gb)]⟩
def Vo (g:(Ga→Ga→Option (Int))) (a:Int) (b:FuncId) (c:(List PV)) (e:Int) (f:(List Ga)):PS:=⟨(.srf 1::dd::dd::.d (.clo b c)::dd::dd::dd::dd::di a::di 0::dd::dd::di e::(dds 47 [])),[.gh 0 (.srf 1),.row 86 3 (f.map Gb)]⟩
def G0 (n:Nat) (e:(Ga→Ga→Option (Int))) (a:Int):Nat→Int→(List Ga)→Option Kk
 | 0,_,_=>none
 | k+1,b,c =>
  if b≥0 then
   if 0≤(wi .i64 (a+b))∧((wi .i64 (a+b))).toNat<c.length then
    (c[((wi .i64 (a+b))).toNat]?).bind fun (d:Ga) =>
    if 0≤a∧(a).toNat<c.length then
     (c[(a).toNat]?).bind fun (f:Ga) =>
     if 0≤a∧(a).toNat<c.length then
      (c[(a).toNat]?).bind fun (h:Ga) =>
      if 0≤(wi .i64 (a+b))∧((wi .i64 (a+b))).toNat<(c.set (a).toNat d).length then
       ((c.set (a).toNat d)[((wi .i64 (a+b))).toNat]?).bind fun (i:Ga) =>
       (Sp n ((c.set (a).toNat d).set ((wi .i64 (a+b))).toNat f) 0 b a e).bind fun (g:((List Ga))) =>
       G0 n e a k (wi .i64 (b-1)) g
      else none
     else none
    else none
   else none
  else
   some (.x0 c)
theorem YC {Fi:Ex→PS→Prop} (hF:KC 60 Fi) (ks:List Fr) (n:Nat) (g:(Ga→Ga→Option (Int))) (a:Int) (i:FuncId) (j:(List PV)) (a2:∀ (x0:Ga) (x1:Ga) (r:Int),g x0 x1=some r→Ret Try.prog i ([Gb x0,Gb x1]++j) ((eI .i64) r)):∀ (k:Nat) (b:Int) (c:(List Ga)) (o:Kk),G0 n g a k b c=some o→RunE Try.prog 60 Fi ks (Vm o) (Vn g a i j o)→RunE Try.prog 60 Fi (.l k (cP (cB (cR (cR (cR (cR (cR (bodyOf Try.f75))))))))::ks) .normal (Vo g a i j b c)
 | 0,b,c,o,h,q=>by rw [G0] at h; cases h
 | k+1,b,c,o,h,q=>by
  rw [G0] at h
  by_cases m:b≥0
  ·rw [if_pos m] at h
   by_cases u:0≤(wi .i64 (a+b))∧((wi .i64 (a+b))).toNat<c.length
   ·rw [if_pos u] at h
    obtain ⟨d,a4,h⟩:=bind_some h
    by_cases x:0≤a∧(a).toNat<c.length
    ·rw [if_pos x] at h
     obtain ⟨e,a5,h⟩:=bind_some h
     by_cases a0:0≤a∧(a).toNat<c.length
     ·rw [if_pos a0] at h
      obtain ⟨a6,a7,h⟩:=bind_some h
      by_cases a1:0≤(wi .i64 (a+b))∧((wi .i64 (a+b))).toNat<(c.set (a).toNat d).length
      ·rw [if_pos a1] at h
       obtain ⟨a8,a9,h⟩:=bind_some h
       obtain ⟨a3,b0,h⟩:=bind_some h
       exact pkk_sound TTok mix hF 13 (hs:=[.t true,.y (Gb d),.y (Gb e),.w ((c.set (a).toNat d).map Gb),.y (Gb a6),.w (((c.set (a).toNat d).set ((wi .i64 (a+b))).toNat e).map Gb),.y (Gb a8),.h [1] [] [.row 86 3 (a3.map Gb)] (.tup [])]) (ts:=[]) (s:=[0,1]) (l:=[0,3,8,9,12]) (by kernel_rfl) (by kernel_rfl) (.cons (dt m) (.cons (idx_ob (f:=Gb) u) (.cons (get_ob (f:=Gb) a4) (.cons (idx_ob (f:=Gb) x) (.cons (get_ob (f:=Gb) a5) (.cons (idx_ob (f:=Gb) a0) (.cons (get_ob (f:=Gb) a7) (.cons (Eq.refl (pcells (.agg [.v (.int .i64 d.fSector),.sl (d.fData.map (eI .u8)),.v (.bool d.fBarrier)]))) (.cons (set_ob (f:=Gb) (l:=c) (k:=(a).toNat) (z:=d) (p:=.agg [.v (.int .i64 d.fSector),.sl (d.fData.map (eI .u8)),.v (.bool d.fBarrier)]) rfl) (.cons (idx_ob (f:=Gb) a1) (.cons (get_ob (f:=Gb) a9) (.cons (Eq.refl (pcells (.agg [.v (.int .i64 e.fSector),.sl (e.fData.map (eI .u8)),.v (.bool e.fBarrier)]))) (.cons (set_ob (f:=Gb) (l:=(c.set (a).toNat d)) (k:=((wi .i64 (a+b))).toNat) (z:=e) (p:=.agg [.v (.int .i64 e.fSector),.sl (e.fData.map (eI .u8)),.v (.bool e.fBarrier)]) rfl) (.cons (YW n ((c.set (a).toNat d).set ((wi .i64 (a+b))).toNat e) 0 b a g i j a2 _ b0) .nil)))))))))))))) (YC hF ks n g a i j a2 k (wi .i64 (b-1)) a3 _ h q)
      ·rw [if_neg a1] at h; cases h
     ·rw [if_neg a0] at h; cases h
    ·rw [if_neg x] at h; cases h
   ·rw [if_neg u] at h; cases h
  ·rw [if_neg m] at h
   cases h
   exact pkk_sound TTok mix hF 8 (hs:=[.t false]) (ts:=[]) (s:=[0,1]) (l:=[]) (by kernel_rfl) (by kernel_rfl) (.cons (df m) .nil) q
/- slices.heapSortCmpFunc[ringhall/lift.Req] -/
def S7 (n:Nat) (d:(List Ga)) (a b:Int) (c:(Ga→Ga→Option (Int))):Option ((List Ga)) :=
 (GZ n c a b n (quoI .i64 (wi .i64 ((wi .i64 (b-a))-1)) 2) d).bind fun e=>match e with
 | .x0 f =>
  (G0 n c a n (wi .i64 ((wi .i64 (b-a))-1)) f).bind fun g=>match g with
  | .x0 h =>
   some h
theorem VZ (n:Nat) (f:(List Ga)) (a e:Int) (g:(Ga→Ga→Option (Int))) (i:FuncId) (j:List PV) (k:∀ (x0:Ga) (x1:Ga) (r:Int),g x0 x1=some r→Ret Try.prog i ([Gb x0,Gb x1]++j) ((eI .i64) r)) (r:(List Ga)) (h:S7 n f a e g=some r):RetH Try.prog 75 [.srf 0,.d ((eI .i64) a),.d ((eI .i64) e),.d ((.clo i j))] [.row 86 3 (f.map Gb)] (.tup []) [.row 86 3 (r.map Gb)]:=by
 refine retH_run (n:=60) (fn:=Try.f75) (c:=bodyOf Try.f75) (by kernel_rfl) (by kernel_rfl) (by kernel_rfl) (by kernel_rfl) ?_
 have hF:KC 60 (FinH Try.prog Try.f75 [.row 86 3 (f.map Gb)] (.tup []) [.row 86 3 (r.map Gb)]):=FinH.kc' (by kernel_rfl)
 unfold S7 at h
 obtain ⟨m,o,h⟩:=bind_some h
 refine pkk_sound TTok mix hF 11 (hs:=[.n n]) (ts:=[]) (s:=[1,0]) (l:=[0,3,8,9,10,11]) (by kernel_rfl) (by kernel_rfl) (.cons (show (2:Int)≠0 by decide) .nil) (YB hF (.b 0::.s (cR (cR (cR (cR (bodyOf Try.f75)))))::[]) n g a e i j k n (quoI .i64 (wi .i64 ((wi .i64 (e-a))-1)) 2) f _ o ?_)
 cases m with
 | x0 p =>
  try dsimp only at h
  obtain ⟨q,t,h⟩:=bind_some h
  refine pkk_sound TTok mix hF 5 (hs:=[.n n]) (ts:=[]) (s:=[0,1]) (l:=[0,3,8,9,12]) (by kernel_rfl) (by kernel_rfl) .nil (YC hF (.b 2::[]) n g a i j k n (wi .i64 ((wi .i64 (e-a))-1)) p _ t ?_)
  cases q with
  | x0 u =>
   try dsimp only at h
   obtain rfl:=Option.some.inj h
   exact pendH_sound TTok mix 1 (hs:=[]) [1] (by kernel_rfl) (by kernel_rfl) (by kernel_rfl) .nil
/- slices.nextPowerOfTwo -/
def Z2 (n:Nat) (b:Int):Option (Int) :=
 (Xx n (wi .u64 b)).bind fun (a:(Int)) =>
 if 0≤a then
  some (shlI .u64 1 a)
 else none
theorem MV (n:Nat) (a r:Int) (h:Z2 n a=some r):Ret Try.prog 85 [(eI .i64) a] ((eI .u64) r):=by
 refine ret_run (n:=7) (fn:=Try.f85) (c:=bodyOf Try.f85) (by kernel_rfl) (by kernel_rfl) (by kernel_rfl) (by kernel_rfl) ?_
 have hF:KC 7 (FinR Try.prog Try.f85 ((eI .u64) r)):=FinR.kc' (by kernel_rfl)
 unfold Z2 at h
 obtain ⟨d,e,h⟩:=bind_some h
 by_cases b:0≤d
 ·rw [if_pos b] at h
  obtain rfl:=Option.some.inj h
  exact pend_sound TTok mix 5 (hs:=[.r ((eI .i64) d)]) (by kernel_rfl) (by kernel_rfl) (by kernel_rfl) (.cons (MU n (wi .u64 a) _ e) (.cons b .nil))
 ·rw [if_neg b] at h; cases h
/- (*slices.xorshift).Next -/
def ZG (n:Nat) (a:Int):Option (Int×Int) :=
 some ((bits .xor .u64 (bits .xor .u64 (bits .xor .u64 a (shlI .u64 a 13)) (shrI .u64 (bits .xor .u64 a (shlI .u64 a 13)) 7)) (shlI .u64 (bits .xor .u64 (bits .xor .u64 a (shlI .u64 a 13)) (shrI .u64 (bits .xor .u64 a (shlI .u64 a 13)) 7)) 17)),(bits .xor .u64 (bits .xor .u64 (bits .xor .u64 a (shlI .u64 a 13)) (shrI .u64 (bits .xor .u64 a (shlI .u64 a 13)) 7)) (shlI .u64 (bits .xor .u64 (bits .xor .u64 a (shlI .u64 a 13)) (shrI .u64 (bits .xor .u64 a (shlI .u64 a 13)) 7)) 17)))
theorem Vp (n:Nat) (a:Int) (r:Int×Int) (h:ZG n a=some r):RetH Try.prog 86 [.ref 0 0] [.box [.d (.v (.int .u64 a))]] (.d ((eI .u64) r.1)) [.box [.d (.v (.int .u64 r.2))]]:=by
 refine retH_run (n:=33) (fn:=Try.f86) (c:=bodyOf Try.f86) (by kernel_rfl) (by kernel_rfl) (by kernel_rfl) (by kernel_rfl) ?_
 have hF:KC 33 (FinH Try.prog Try.f86 [.box [.d (.v (.int .u64 a))]] (.d ((eI .u64) r.1)) [.box [.d (.v (.int .u64 r.2))]]):=FinH.kc' (by kernel_rfl)
 unfold ZG at h
 obtain rfl:=Option.some.inj h
 exact pendH_sound TTok mix 11 (hs:=[.c,.c,.c,.c,.c,.c,.c,.c,.c,.c]) [0] (by kernel_rfl) (by kernel_rfl) (by kernel_rfl) (.cons (show (0:Int)≤13 by decide) (.cons (show 0+1≤1 by decide) (.cons (show (0:Int)≤7 by decide) (.cons (show 0+1≤1 by decide) (.cons (show (0:Int)≤17 by decide) (.cons (show 0+1≤1 by decide) .nil))))))
inductive SQ where
 | x0 (a:(List Ga))
def X8:SQ→Ex
 | .x0 _=>.exit 0
def X9 (b c:Int) (d:(Int)):SQ→PS
 | .x0 a=>⟨(dds 67 []),[.gh 0 (.srf 1),.row 86 3 (a.map Gb)]⟩
def Ua (a b:Int) (c:(Int)) (e:Int) (f:(List Ga)) (g:Int):PS:=⟨(.srf 1::di a::dd::dd::dd::dd::dd::dd::di (wi .i64 (b-a))::.ref 2 0::.d (.v (.int .u64 c))::di e::(dds 55 [])),[.gh 0 (.srf 1),.row 86 3 (f.map Gb),.box [.d (.v (.int .u64 g))]]⟩
def Gu (n:Nat) (a f:Int) (d:(Int)):Nat→Int→(List Ga)→Int→Option SQ
 | 0,_,_,_=>none
 | k+1,b,c,i =>
  if b≤(wi .i64 ((wi .i64 (a+(wi .i64 ((quoI .i64 (wi .i64 (f-a)) 4)*2))))+1)) then
   (ZG n i).bind fun (e:(Int×Int)) =>
   if (wi .i64 (bits .and .u64 e.1 (wi .u64 (d-1))))≥(wi .i64 (f-a)) then
    if 0≤(wi .i64 (a+(wi .i64 ((wi .i64 (bits .and .u64 e.1 (wi .u64 (d-1))))-(wi .i64 (f-a))))))∧((wi .i64 (a+(wi .i64 ((wi .i64 (bits .and .u64 e.1 (wi .u64 (d-1))))-(wi .i64 (f-a))))))).toNat<c.length then
     (c[((wi .i64 (a+(wi .i64 ((wi .i64 (bits .and .u64 e.1 (wi .u64 (d-1))))-(wi .i64 (f-a))))))).toNat]?).bind fun (g:Ga) =>
     if 0≤b∧(b).toNat<c.length then
      (c[(b).toNat]?).bind fun (j:Ga) =>
      if 0≤b∧(b).toNat<c.length then
       (c[(b).toNat]?).bind fun (m:Ga) =>
       if 0≤(wi .i64 (a+(wi .i64 ((wi .i64 (bits .and .u64 e.1 (wi .u64 (d-1))))-(wi .i64 (f-a))))))∧((wi .i64 (a+(wi .i64 ((wi .i64 (bits .and .u64 e.1 (wi .u64 (d-1))))-(wi .i64 (f-a))))))).toNat<(c.set (b).toNat g).length then
        ((c.set (b).toNat g)[((wi .i64 (a+(wi .i64 ((wi .i64 (bits .and .u64 e.1 (wi .u64 (d-1))))-(wi .i64 (f-a))))))).toNat]?).bind fun (o:Ga) =>
        Gu n a f d k (wi .i64 (b+1)) ((c.set (b).toNat g).set ((wi .i64 (a+(wi .i64 ((wi .i64 (bits .and .u64 e.1 (wi .u64 (d-1))))-(wi .i64 (f-a))))))).toNat j) e.2
       else none
      else none
     else none
    else none
   else
    if 0≤(wi .i64 (a+(wi .i64 (bits .and .u64 e.1 (wi .u64 (d-1))))))∧((wi .i64 (a+(wi .i64 (bits .and .u64 e.1 (wi .u64 (d-1))))))).toNat<c.length then
     (c[((wi .i64 (a+(wi .i64 (bits .and .u64 e.1 (wi .u64 (d-1))))))).toNat]?).bind fun (h:Ga) =>
     if 0≤b∧(b).toNat<c.length then
      (c[(b).toNat]?).bind fun (l:Ga) =>
      if 0≤b∧(b).toNat<c.length then
       (c[(b).toNat]?).bind fun (p:Ga) =>
       if 0≤(wi .i64 (a+(wi .i64 (bits .and .u64 e.1 (wi .u64 (d-1))))))∧((wi .i64 (a+(wi .i64 (bits .and .u64 e.1 (wi .u64 (d-1))))))).toNat<(c.set (b).toNat h).length then
        ((c.set (b).toNat h)[((wi .i64 (a+(wi .i64 (bits .and .u64 e.1 (wi .u64 (d-1))))))).toNat]?).bind fun (q:Ga) =>
        Gu n a f d k (wi .i64 (b+1)) ((c.set (b).toNat h).set ((wi .i64 (a+(wi .i64 (bits .and .u64 e.1 (wi .u64 (d-1))))))).toNat l) e.2
       else none
      else none
     else none
    else none
  else
   some (.x0 c)
theorem KF {Fi:Ex→PS→Prop} (hF:KC 67 Fi) (ks:List Fr) (n:Nat) (a i:Int) (g:(Int))  : ∀ (k:Nat) (b:Int) (c:(List Ga)) (x:Int) (o:SQ),Gu n a i g k b c x=some o→RunE Try.prog 67 Fi ks (X8 o) (X9 a i g o)→RunE Try.prog 67 Fi (.l k (cP (cB (cR (cR (cR (cT (cR (cR (bodyOf Try.f76)))))))))::ks) .normal (Ua a i g b c x)
 | 0,b,c,x,o,h,q=>by rw [Gu] at h; cases h
 | k+1,b,c,x,o,h,q=>by
  rw [Gu] at h
  by_cases a0:b≤(wi .i64 ((wi .i64 (a+(wi .i64 ((quoI .i64 (wi .i64 (i-a)) 4)*2))))+1))
  ·rw [if_pos a0] at h
   obtain ⟨e,b0,h⟩:=bind_some h
   by_cases a1:(wi .i64 (bits .and .u64 e.1 (wi .u64 (g-1))))≥(wi .i64 (i-a))
   ·rw [if_pos a1] at h
    by_cases a2:0≤(wi .i64 (a+(wi .i64 ((wi .i64 (bits .and .u64 e.1 (wi .u64 (g-1))))-(wi .i64 (i-a))))))∧((wi .i64 (a+(wi .i64 ((wi .i64 (bits .and .u64 e.1 (wi .u64 (g-1))))-(wi .i64 (i-a))))))).toNat<c.length
    ·rw [if_pos a2] at h
     obtain ⟨j,b1,h⟩:=bind_some h
     by_cases a3:0≤b∧(b).toNat<c.length
     ·rw [if_pos a3] at h
      obtain ⟨r,b2,h⟩:=bind_some h
      by_cases a4:0≤b∧(b).toNat<c.length
      ·rw [if_pos a4] at h
       obtain ⟨b3,b4,h⟩:=bind_some h
       by_cases a5:0≤(wi .i64 (a+(wi .i64 ((wi .i64 (bits .and .u64 e.1 (wi .u64 (g-1))))-(wi .i64 (i-a))))))∧((wi .i64 (a+(wi .i64 ((wi .i64 (bits .and .u64 e.1 (wi .u64 (g-1))))-(wi .i64 (i-a))))))).toNat<(c.set (b).toNat j).length
       ·rw [if_pos a5] at h
        obtain ⟨b5,b6,h⟩:=bind_some h
        exact pkk_sound TTok mix hF 18 (hs:=[.t true,.h [2] [] [.box [.d (.v (.int .u64 e.2))]] (.d (.v (.int .u64 e.1))),.t true,.y (Gb j),.y (Gb r),.w ((c.set (b).toNat j).map Gb),.y (Gb b3),.w (((c.set (b).toNat j).set ((wi .i64 (a+(wi .i64 ((wi .i64 (bits .and .u64 e.1 (wi .u64 (g-1))))-(wi .i64 (i-a))))))).toNat r).map Gb),.y (Gb b5)]) (ts:=[]) (s:=[0,1,2]) (l:=[0,1,8,9,10,11]) (by kernel_rfl) (by kernel_rfl) (.cons (show (4:Int)≠0 by decide) (.cons (dt a0) (.cons (Vp n x _ b0) (.cons (dt a1) (.cons (idx_ob (f:=Gb) a2) (.cons (get_ob (f:=Gb) b1) (.cons (idx_ob (f:=Gb) a3) (.cons (get_ob (f:=Gb) b2) (.cons (idx_ob (f:=Gb) a4) (.cons (get_ob (f:=Gb) b4) (.cons (Eq.refl (pcells (.agg [.v (.int .i64 j.fSector),.sl (j.fData.map (eI .u8)),.v (.bool j.fBarrier)]))) (.cons (set_ob (f:=Gb) (l:=c) (k:=(b).toNat) (z:=j) (p:=.agg [.v (.int .i64 j.fSector),.sl (j.fData.map (eI .u8)),.v (.bool j.fBarrier)]) rfl) (.cons (idx_ob (f:=Gb) a5) (.cons (get_ob (f:=Gb) b6) (.cons (Eq.refl (pcells (.agg [.v (.int .i64 r.fSector),.sl (r.fData.map (eI .u8)),.v (.bool r.fBarrier)]))) (.cons (set_ob (f:=Gb) (l:=(c.set (b).toNat j)) (k:=((wi .i64 (a+(wi .i64 ((wi .i64 (bits .and .u64 e.1 (wi .u64 (g-1))))-(wi .i64 (i-a))))))).toNat) (z:=r) (p:=.agg [.v (.int .i64 r.fSector),.sl (r.fData.map (eI .u8)),.v (.bool r.fBarrier)]) rfl) .nil)))))))))))))))) (KF hF ks n a i g k (wi .i64 (b+1)) ((c.set (b).toNat j).set ((wi .i64 (a+(wi .i64 ((wi .i64 (bits .and .u64 e.1 (wi .u64 (g-1))))-(wi .i64 (i-a))))))).toNat r) e.2 _ h q)
       ·rw [if_neg a5] at h; cases h
      ·rw [if_neg a4] at h; cases h
     ·rw [if_neg a3] at h; cases h
    ·rw [if_neg a2] at h; cases h
   ·rw [if_neg a1] at h
    by_cases a6:0≤(wi .i64 (a+(wi .i64 (bits .and .u64 e.1 (wi .u64 (g-1))))))∧((wi .i64 (a+(wi .i64 (bits .and .u64 e.1 (wi .u64 (g-1))))))).toNat<c.length
    ·rw [if_pos a6] at h
     obtain ⟨m,b7,h⟩:=bind_some h
     by_cases a7:0≤b∧(b).toNat<c.length
     ·rw [if_pos a7] at h
      obtain ⟨u,b8,h⟩:=bind_some h
      by_cases a8:0≤b∧(b).toNat<c.length
      ·rw [if_pos a8] at h
       obtain ⟨b9,c0,h⟩:=bind_some h
       by_cases a9:0≤(wi .i64 (a+(wi .i64 (bits .and .u64 e.1 (wi .u64 (g-1))))))∧((wi .i64 (a+(wi .i64 (bits .and .u64 e.1 (wi .u64 (g-1))))))).toNat<(c.set (b).toNat m).length
       ·rw [if_pos a9] at h
        obtain ⟨c1,c2,h⟩:=bind_some h
        exact pkk_sound TTok mix hF 18 (hs:=[.t true,.h [2] [] [.box [.d (.v (.int .u64 e.2))]] (.d (.v (.int .u64 e.1))),.t false,.y (Gb m),.y (Gb u),.w ((c.set (b).toNat m).map Gb),.y (Gb b9),.w (((c.set (b).toNat m).set ((wi .i64 (a+(wi .i64 (bits .and .u64 e.1 (wi .u64 (g-1))))))).toNat u).map Gb),.y (Gb c1)]) (ts:=[]) (s:=[0,1,2]) (l:=[0,1,8,9,10,11]) (by kernel_rfl) (by kernel_rfl) (.cons (show (4:Int)≠0 by decide) (.cons (dt a0) (.cons (Vp n x _ b0) (.cons (df a1) (.cons (idx_ob (f:=Gb) a6) (.cons (get_ob (f:=Gb) b7) (.cons (idx_ob (f:=Gb) a7) (.cons (get_ob (f:=Gb) b8) (.cons (idx_ob (f:=Gb) a8) (.cons (get_ob (f:=Gb) c0) (.cons (Eq.refl (pcells (.agg [.v (.int .i64 m.fSector),.sl (m.fData.map (eI .u8)),.v (.bool m.fBarrier)]))) (.cons (set_ob (f:=Gb) (l:=c) (k:=(b).toNat) (z:=m) (p:=.agg [.v (.int .i64 m.fSector),.sl (m.fData.map (eI .u8)),.v (.bool m.fBarrier)]) rfl) (.cons (idx_ob (f:=Gb) a9) (.cons (get_ob (f:=Gb) c2) (.cons (Eq.refl (pcells (.agg [.v (.int .i64 u.fSector),.sl (u.fData.map (eI .u8)),.v (.bool u.fBarrier)]))) (.cons (set_ob (f:=Gb) (l:=(c.set (b).toNat m)) (k:=((wi .i64 (a+(wi .i64 (bits .and .u64 e.1 (wi .u64 (g-1))))))).toNat) (z:=u) (p:=.agg [.v (.int .i64 u.fSector),.sl (u.fData.map (eI .u8)),.v (.bool u.fBarrier)]) rfl) .nil)))))))))))))))) (KF hF ks n a i g k (wi .i64 (b+1)) ((c.set (b).toNat m).set ((wi .i64 (a+(wi .i64 (bits .and .u64 e.1 (wi .u64 (g-1))))))).toNat u) e.2 _ h q)
       ·rw [if_neg a9] at h; cases h
      ·rw [if_neg a8] at h; cases h
     ·rw [if_neg a7] at h; cases h
    ·rw [if_neg a6] at h; cases h
  ·rw [if_neg a0] at h
   cases h
   exact pkk_sound TTok mix hF 8 (hs:=[.t false]) (ts:=[]) (s:=[0,1]) (l:=[]) (by kernel_rfl) (by kernel_rfl) (.cons (show (4:Int)≠0 by decide) (.cons (df a0) .nil)) q
/- slices.breakPatternsCmpFunc[ringhall/lift.Req] -/
def Sx (n:Nat) (c:(List Ga)) (a b:Int) (g:(Ga→Ga→Option (Int))):Option ((List Ga)) :=
 if (wi .i64 (b-a))≥8 then
  (Z2 n (wi .i64 (b-a))).bind fun (d:(Int)) =>
  (Gu n a b d n (wi .i64 ((wi .i64 (a+(wi .i64 ((quoI .i64 (wi .i64 (b-a)) 4)*2))))-1)) c (wi .u64 (wi .i64 (b-a)))).bind fun e=>match e with
  | .x0 f =>
   some f
 else
  some c
theorem Uu (n:Nat) (f:(List Ga)) (a e:Int) (i:(Ga→Ga→Option (Int))) (j:FuncId) (k:List PV) (u:∀ (x0:Ga) (x1:Ga) (r:Int),i x0 x1=some r→Ret Try.prog j ([Gb x0,Gb x1]++k) ((eI .i64) r)) (r:(List Ga)) (h:Sx n f a e i=some r):RetH Try.prog 76 [.srf 0,.d ((eI .i64) a),.d ((eI .i64) e),.d ((.clo j k))] [.row 86 3 (f.map Gb)] (.tup []) [.row 86 3 (r.map Gb)]:=by
 refine retH_run (n:=67) (fn:=Try.f76) (c:=bodyOf Try.f76) (by kernel_rfl) (by kernel_rfl) (by kernel_rfl) (by kernel_rfl) ?_
 have hF:KC 67 (FinH Try.prog Try.f76 [.row 86 3 (f.map Gb)] (.tup []) [.row 86 3 (r.map Gb)]):=FinH.kc' (by kernel_rfl)
 unfold Sx at h
 by_cases g:(wi .i64 (e-a))≥8
 ·rw [if_pos g] at h
  obtain ⟨m,o,h⟩:=bind_some h
  obtain ⟨p,q,h⟩:=bind_some h
  refine pkk_sound TTok mix hF 13 (hs:=[.t true,.c,.r ((eI .u64) m),.n n]) (ts:=[]) (s:=[1,0,42]) (l:=[0,1,8,9,10,11]) (by kernel_rfl) (by kernel_rfl) (.cons (dt g) (.cons (show 0+1≤1 by decide) (.cons (MV n (wi .i64 (e-a)) _ o) (.cons (show (4:Int)≠0 by decide) .nil)))) (KF hF (.b 0::[]) n a e m n (wi .i64 ((wi .i64 (a+(wi .i64 ((quoI .i64 (wi .i64 (e-a)) 4)*2))))-1)) f (wi .u64 (wi .i64 (e-a))) _ q ?_)
  cases p with
  | x0 v =>
   try dsimp only at h
   obtain rfl:=Option.some.inj h
   exact pendH_sound TTok mix 1 (hs:=[]) [1] (by kernel_rfl) (by kernel_rfl) (by kernel_rfl) .nil
 ·rw [if_neg g] at h
  obtain rfl:=Option.some.inj h
  exact pendH_sound TTok mix 6 (hs:=[.t false]) [0] (by kernel_rfl) (by kernel_rfl) (by kernel_rfl) (.cons (df g) .nil)
/- slices.order2CmpFunc[ringhall/lift.Req] -/
def G9 (n:Nat) (c:(List Ga)) (a b d:Int) (e:(Ga→Ga→Option (Int))):Option (Int×Int×Int) :=
 (getI c b).bind fun (f:Ga) =>
 (getI c a).bind fun (g:Ga) =>
 (e f g).bind fun (h:(Int)) =>
 if h<0 then
  some (b,a,(wi .i64 (d+1)))
 else
  some (a,b,d)
theorem ZH (n:Nat) (j:(List Ga)) (k l g:Int) (m:(Ga→Ga→Option (Int))) (o:FuncId) (p:List PV) (q:∀ (x0:Ga) (x1:Ga) (r:Int),m x0 x1=some r→Ret Try.prog o ([Gb x0,Gb x1]++p) ((eI .i64) r)) (r:Int×Int×Int) (h:G9 n j k l g m=some r):RetH Try.prog 89 [.d ((eL Gb) j),.d ((eI .i64) k),.d ((eI .i64) l),.ref 0 0,.d ((.clo o p))] [.box [di g]] (.tup [.d ((eI .i64) r.1),.d ((eI .i64) r.2.1)]) [.box [di r.2.2]]:=by
 refine retH_run (n:=32) (fn:=Try.f89) (c:=bodyOf Try.f89) (by kernel_rfl) (by kernel_rfl) (by kernel_rfl) (by kernel_rfl) ?_
 have hF:KC 32 (FinH Try.prog Try.f89 [.box [di g]] (.tup [.d ((eI .i64) r.1),.d ((eI .i64) r.2.1)]) [.box [di r.2.2]]):=FinH.kc' (by kernel_rfl)
 unfold G9 at h
 obtain ⟨a,s,h⟩:=bind_some h
 obtain ⟨b,u,h⟩:=bind_some h
 obtain ⟨i,w,h⟩:=bind_some h
 by_cases e:i<0
 ·rw [if_pos e] at h
  obtain rfl:=Option.some.inj h
  exact pendH_sound TTok mix 12 (hs:=[.y (Gb a),.y (Gb b),.r ((eI .i64) i),.t true,.c,.c]) [0] (by kernel_rfl) (by kernel_rfl) (by kernel_rfl) (.cons (getI_ob (f:=Gb) s) (.cons (getI_ob (f:=Gb) u) (.cons (q a b _ w) (.cons (dt e) (.cons (show 0+1≤1 by decide) .nil)))))
 ·rw [if_neg e] at h
  obtain rfl:=Option.some.inj h
  exact pendH_sound TTok mix 10 (hs:=[.y (Gb a),.y (Gb b),.r ((eI .i64) i),.t false]) [0] (by kernel_rfl) (by kernel_rfl) (by kernel_rfl) (.cons (getI_ob (f:=Gb) s) (.cons (getI_ob (f:=Gb) u) (.cons (q a b _ w) (.cons (df e) .nil))))
/- slices.medianCmpFunc[ringhall/lift.Req] -/
def Sa (n:Nat) (a:(List Ga)) (f g h i:Int) (b:(Ga→Ga→Option (Int))):Option (Int×Int) :=
 (G9 n a f g i b).bind fun (c:(Int×Int×Int)) =>
 (G9 n a c.2.1 h c.2.2 b).bind fun (d:(Int×Int×Int)) =>
 (G9 n a c.1 d.1 d.2.2 b).bind fun (e:(Int×Int×Int)) =>
 some (e.2.1,e.2.2)
theorem ZI (n:Nat) (b:(List Ga)) (k l m j:Int) (e:(Ga→Ga→Option (Int))) (f:FuncId) (g:List PV) (o:∀ (x0:Ga) (x1:Ga) (r:Int),e x0 x1=some r→Ret Try.prog f ([Gb x0,Gb x1]++g) ((eI .i64) r)) (r:Int×Int) (h:Sa n b k l m j e=some r):RetH Try.prog 88 [.d ((eL Gb) b),.d ((eI .i64) k),.d ((eI .i64) l),.d ((eI .i64) m),.ref 0 0,.d ((.clo f g))] [.box [di j]] (.d ((eI .i64) r.1)) [.box [di r.2]]:=by
 refine retH_run (n:=41) (fn:=Try.f88) (c:=bodyOf Try.f88) (by kernel_rfl) (by kernel_rfl) (by kernel_rfl) (by kernel_rfl) ?_
 have hF:KC 41 (FinH Try.prog Try.f88 [.box [di j]] (.d ((eI .i64) r.1)) [.box [di r.2]]):=FinH.kc' (by kernel_rfl)
 unfold Sa at h
 obtain ⟨a,q,h⟩:=bind_some h
 obtain ⟨i,s,h⟩:=bind_some h
 obtain ⟨p,t,h⟩:=bind_some h
 obtain rfl:=Option.some.inj h
 exact pendH_sound TTok mix 11 (hs:=[.h [0] [] [.box [di a.2.2]] (.tup [di a.1,di a.2.1]),.h [0] [] [.box [di i.2.2]] (.tup [di i.1,di i.2.1]),.h [0] [] [.box [di p.2.2]] (.tup [di p.1,di p.2.1])]) [0] (by kernel_rfl) (by kernel_rfl) (by kernel_rfl) (.cons (ZH n b k l j e f g o _ q) (.cons (ZH n b a.2.1 m a.2.2 e f g o _ s) (.cons (ZH n b a.1 i.1 i.2.2 e f g o _ t) .nil)))
/- slices.medianAdjacentCmpFunc[ringhall/lift.Req] -/
def GM (n:Nat) (c:(List Ga)) (a d:Int) (e:(Ga→Ga→Option (Int))):Option (Int×Int) :=
 (Sa n c (wi .i64 (a-1)) a (wi .i64 (a+1)) d e).bind fun (b:(Int×Int)) =>
 some (b.1,b.2)
theorem KP (n:Nat) (e:(List Ga)) (a b:Int) (f:(Ga→Ga→Option (Int))) (g:FuncId) (i:List PV) (k:∀ (x0:Ga) (x1:Ga) (r:Int),f x0 x1=some r→Ret Try.prog g ([Gb x0,Gb x1]++i) ((eI .i64) r)) (r:Int×Int) (h:GM n e a b f=some r):RetH Try.prog 87 [.d ((eL Gb) e),.d ((eI .i64) a),.ref 0 0,.d ((.clo g i))] [.box [di b]] (.d ((eI .i64) r.1)) [.box [di r.2]]:=by
 refine retH_run (n:=18) (fn:=Try.f87) (c:=bodyOf Try.f87) (by kernel_rfl) (by kernel_rfl) (by kernel_rfl) (by kernel_rfl) ?_
 have hF:KC 18 (FinH Try.prog Try.f87 [.box [di b]] (.d ((eI .i64) r.1)) [.box [di r.2]]):=FinH.kc' (by kernel_rfl)
 unfold GM at h
 obtain ⟨j,l,h⟩:=bind_some h
 obtain rfl:=Option.some.inj h
 exact pendH_sound TTok mix 5 (hs:=[.h [0] [] [.box [di j.2]] (di j.1)]) [0] (by kernel_rfl) (by kernel_rfl) (by kernel_rfl) (.cons (ZI n e (wi .i64 (a-1)) a (wi .i64 (a+1)) b f g i k _ l) .nil)
inductive Ka where
 | x0 (a b:Int)
 | x1 (c:Int)
def UL:Ka→Ex
 | .x0 _ _=>.normal
 | .x1 _=>.normal
def UM (e:(List Ga)) (f:(Ga→Ga→Option (Int))) (g h:Int) (i:FuncId) (j:(List PV)):Ka→PS
 | .x0 a b=>⟨(dds 11 (.ref 0 0::dd::di a::(dds 49 []))),[.box [di b]]⟩
 | .x1 c=>⟨(dds 11 (.ref 0 0::dd::di c::(dds 49 []))),[.box [di 0]]⟩
def UN (c:(List Ga)) (g:(Ga→Ga→Option (Int))) (b a:Int) (e:FuncId) (f:(List PV))  : PS:=⟨(.d (.sl (c.map Gb))::dd::dd::.d (.clo e f)::dd::dd::dd::dd::dd::dd::di (wi .i64 (b-a))::.ref 0 0::di (wi .i64 (a+(wi .i64 ((quoI .i64 (wi .i64 (b-a)) 4)*1))))::di (wi .i64 (a+(wi .i64 ((quoI .i64 (wi .i64 (b-a)) 4)*2))))::di (wi .i64 (a+(wi .i64 ((quoI .i64 (wi .i64 (b-a)) 4)*3))))::(dds 19 (.d (.v (.bool (decide ((wi .i64 (b-a))≥8))))::(dds 28 [])))),[.box [di 0]]⟩
def Sz (n:Nat) (c:(List Ga)) (d:(Ga→Ga→Option (Int))) (b a:Int):Option Ka :=
 if (wi .i64 (b-a))≥8 then
  if (wi .i64 (b-a))≥50 then
   (GM n c (wi .i64 (a+(wi .i64 ((quoI .i64 (wi .i64 (b-a)) 4)*1)))) 0 d).bind fun (e:(Int×Int)) =>
   (GM n c (wi .i64 (a+(wi .i64 ((quoI .i64 (wi .i64 (b-a)) 4)*2)))) e.2 d).bind fun (f:(Int×Int)) =>
   (GM n c (wi .i64 (a+(wi .i64 ((quoI .i64 (wi .i64 (b-a)) 4)*3)))) f.2 d).bind fun (g:(Int×Int)) =>
   (Sa n c e.1 f.1 g.1 g.2 d).bind fun (h:(Int×Int)) =>
   some (.x0 h.1 h.2)
  else
   (Sa n c (wi .i64 (a+(wi .i64 ((quoI .i64 (wi .i64 (b-a)) 4)*1)))) (wi .i64 (a+(wi .i64 ((quoI .i64 (wi .i64 (b-a)) 4)*2)))) (wi .i64 (a+(wi .i64 ((quoI .i64 (wi .i64 (b-a)) 4)*3)))) 0 d).bind fun (i:(Int×Int)) =>
   some (.x0 i.1 i.2)
 else
  some (.x1 (wi .i64 (a+(wi .i64 ((quoI .i64 (wi .i64 (b-a)) 4)*2)))))
theorem UO {Fi:Ex→PS→Prop} (hF:KC 63 Fi) (ks:List Fr) (n:Nat) (e:(List Ga)) (c:(Ga→Ga→Option (Int))) (b a:Int) (f:FuncId) (g:(List PV)) (i:∀ (x0:Ga) (x1:Ga) (r:Int),c x0 x1=some r→Ret Try.prog f ([Gb x0,Gb x1]++g) ((eI .i64) r)) (o:Ka) (h:Sz n e c b a=some o) (q:RunE Try.prog 63 Fi ks (UL o) (UM e c b a f g o)):RunE Try.prog 63 Fi (.s (cR (cL (cR (cR (cR (cR (cR (cR (bodyOf Try.f77)))))))))::ks) .normal (UN e c b a f g):=by
 unfold Sz at h
 by_cases j:(wi .i64 (b-a))≥8
 ·rw [if_pos j] at h
  by_cases k:(wi .i64 (b-a))≥50
  ·rw [if_pos k] at h
   obtain ⟨m,y,h⟩:=bind_some h
   obtain ⟨p,z,h⟩:=bind_some h
   obtain ⟨u,a0,h⟩:=bind_some h
   obtain ⟨w,a1,h⟩:=bind_some h
   cases h
   exact pkk_sound TTok mix hF 11 (hs:=[.t true,.t true,.h [0] [] [.box [di m.2]] (di m.1),.h [0] [] [.box [di p.2]] (di p.1),.h [0] [] [.box [di u.2]] (di u.1),.h [0] [] [.box [di w.2]] (di w.1)]) (ts:=[]) (s:=[0]) (l:=[11,13]) (by kernel_rfl) (by kernel_rfl) (.cons (dt j) (.cons (dt k) (.cons (KP n e (wi .i64 (a+(wi .i64 ((quoI .i64 (wi .i64 (b-a)) 4)*1)))) 0 c f g i _ y) (.cons (KP n e (wi .i64 (a+(wi .i64 ((quoI .i64 (wi .i64 (b-a)) 4)*2)))) m.2 c f g i _ z) (.cons (KP n e (wi .i64 (a+(wi .i64 ((quoI .i64 (wi .i64 (b-a)) 4)*3)))) p.2 c f g i _ a0) (.cons (ZI n e m.1 p.1 u.1 u.2 c f g i _ a1) .nil)))))) q
  ·rw [if_neg k] at h
   obtain ⟨x,a2,h⟩:=bind_some h
   cases h
   exact pkk_sound TTok mix hF 7 (hs:=[.t true,.t false,.h [0] [] [.box [di x.2]] (di x.1)]) (ts:=[]) (s:=[0]) (l:=[11,13]) (by kernel_rfl) (by kernel_rfl) (.cons (dt j) (.cons (df k) (.cons (ZI n e (wi .i64 (a+(wi .i64 ((quoI .i64 (wi .i64 (b-a)) 4)*1)))) (wi .i64 (a+(wi .i64 ((quoI .i64 (wi .i64 (b-a)) 4)*2)))) (wi .i64 (a+(wi .i64 ((quoI .i64 (wi .i64 (b-a)) 4)*3)))) 0 c f g i _ a2) .nil))) q
 ·rw [if_neg j] at h
  cases h
  exact pkk_sound TTok mix hF 2 (hs:=[.t false]) (ts:=[]) (s:=[0]) (l:=[11,13]) (by kernel_rfl) (by kernel_rfl) (.cons (df j) .nil) q
/- slices.choosePivotCmpFunc[ringhall/lift.Req] -/
def S4 (n:Nat) (c:(List Ga)) (d e:Int) (f:(Ga→Ga→Option (Int))):Option (Int×Int) :=
 (Sz n c f e d).bind fun g=>match g with
 | .x0 a b =>
  if b=0 then
   some (a,1)
  else
   if b=12 then
    some (a,2)
   else
    some (a,0)
 | .x1 h =>
  some (h,1)
theorem VX (n:Nat) (d:(List Ga)) (e f:Int) (g:(Ga→Ga→Option (Int))) (i:FuncId) (j:List PV) (m:∀ (x0:Ga) (x1:Ga) (r:Int),g x0 x1=some r→Ret Try.prog i ([Gb x0,Gb x1]++j) ((eI .i64) r)) (r:Int×Int) (h:S4 n d e f g=some r):Ret Try.prog 77 [(eL Gb) d,(eI .i64) e,(eI .i64) f,(.clo i j)] (.tup [(eI .i64) r.1,(eI .i64) r.2]):=by
 refine ret_run (n:=63) (fn:=Try.f77) (c:=bodyOf Try.f77) (by kernel_rfl) (by kernel_rfl) (by kernel_rfl) (by kernel_rfl) ?_
 have hF:KC 63 (FinR Try.prog Try.f77 (.tup [(eI .i64) r.1,(eI .i64) r.2])):=FinR.kc' (by kernel_rfl)
 unfold S4 at h
 obtain ⟨o,p,h⟩:=bind_some h
 refine pkk_sound TTok mix hF 15 (hs:=[]) (ts:=[]) (s:=[30]) (l:=[0,3,10,11,12,13,14,34]) (by kernel_rfl) (by kernel_rfl) (.cons (show (4:Int)≠0 by decide) (.cons (show (4:Int)≠0 by decide) (.cons (show (4:Int)≠0 by decide) .nil))) (UO hF (.s (cR (cR (cR (cR (cR (cR (cR (bodyOf Try.f77))))))))::[]) n d g f e i j m _ p ?_)
 cases o with
 | x0 q k =>
  try dsimp only at h
  by_cases a:k=0
  ·rw [if_pos a] at h
   obtain rfl:=Option.some.inj h
   exact pend_sound TTok mix 10 (hs:=[.c,.t true]) (by kernel_rfl) (by kernel_rfl) (by kernel_rfl) (.cons (bt a) .nil)
  ·rw [if_neg a] at h
   by_cases b:k=12
   ·rw [if_pos b] at h
    obtain rfl:=Option.some.inj h
    exact pend_sound TTok mix 13 (hs:=[.c,.t false,.t true]) (by kernel_rfl) (by kernel_rfl) (by kernel_rfl) (.cons (bf a) (.cons (bt b) .nil))
   ·rw [if_neg b] at h
    obtain rfl:=Option.some.inj h
    exact pend_sound TTok mix 13 (hs:=[.c,.t false,.t false]) (by kernel_rfl) (by kernel_rfl) (by kernel_rfl) (.cons (bf a) (.cons (bf b) .nil))
 | x1 u =>
  try dsimp only at h
  obtain rfl:=Option.some.inj h
  exact pend_sound TTok mix 10 (hs:=[.c,.c]) (by kernel_rfl) (by kernel_rfl) (by kernel_rfl) .nil
inductive SY where
 | x0 (a:(List Ga))
def Ui:SY→Ex
 | .x0 _=>.exit 0
def Uj  : SY→PS
 | .x0 a=>⟨(dds 34 []),[.gh 0 (.srf 1),.row 86 3 (a.map Gb)]⟩
def Uk  (a b:Int) (c:(List Ga)):PS:=⟨(.srf 1::dd::dd::dd::dd::dd::dd::dd::di a::di b::(dds 24 [])),[.gh 0 (.srf 1),.row 86 3 (c.map Gb)]⟩
def GL (n:Nat)  : Nat→Int→Int→(List Ga)→Option SY
 | 0,_,_,_=>none
 | k+1,a,c,b =>
  if a<c then
   if 0≤c∧(c).toNat<b.length then
    (b[(c).toNat]?).bind fun (d:Ga) =>
    if 0≤a∧(a).toNat<b.length then
     (b[(a).toNat]?).bind fun (e:Ga) =>
     if 0≤a∧(a).toNat<b.length then
      (b[(a).toNat]?).bind fun (f:Ga) =>
      if 0≤c∧(c).toNat<(b.set (a).toNat d).length then
       ((b.set (a).toNat d)[(c).toNat]?).bind fun (g:Ga) =>
       GL n  k (wi .i64 (a+1)) (wi .i64 (c-1)) ((b.set (a).toNat d).set (c).toNat e)
      else none
     else none
    else none
   else none
  else
   some (.x0 b)
theorem Z6 {Fi:Ex→PS→Prop} (hF:KC 34 Fi) (ks:List Fr) (n:Nat)   : ∀ (k:Nat) (a b:Int) (c:(List Ga)) (o:SY),GL n  k a b c=some o→RunE Try.prog 34 Fi ks (Ui o) (Uj  o)→RunE Try.prog 34 Fi (.l k (cP (cB (cR (cR (bodyOf Try.f78)))))::ks) .normal (Uk  a b c)
 | 0,a,b,c,o,h,q=>by rw [GL] at h; cases h
 | k+1,a,b,c,o,h,q=>by
  rw [GL] at h
  by_cases g:a<b
  ·rw [if_pos g] at h
   by_cases i:0≤b∧(b).toNat<c.length
   ·rw [if_pos i] at h
    obtain ⟨d,u,h⟩:=bind_some h
    by_cases j:0≤a∧(a).toNat<c.length
    ·rw [if_pos j] at h
     obtain ⟨e,x,h⟩:=bind_some h
     by_cases m:0≤a∧(a).toNat<c.length
     ·rw [if_pos m] at h
      obtain ⟨a0,a1,h⟩:=bind_some h
      by_cases r:0≤b∧(b).toNat<(c.set (a).toNat d).length
      ·rw [if_pos r] at h
       obtain ⟨a2,a3,h⟩:=bind_some h
       exact pkk_sound TTok mix hF 13 (hs:=[.t true,.y (Gb d),.y (Gb e),.w ((c.set (a).toNat d).map Gb),.y (Gb a0),.w (((c.set (a).toNat d).set (b).toNat e).map Gb),.y (Gb a2)]) (ts:=[]) (s:=[0,1]) (l:=[0,8,9]) (by kernel_rfl) (by kernel_rfl) (.cons (dt g) (.cons (idx_ob (f:=Gb) i) (.cons (get_ob (f:=Gb) u) (.cons (idx_ob (f:=Gb) j) (.cons (get_ob (f:=Gb) x) (.cons (idx_ob (f:=Gb) m) (.cons (get_ob (f:=Gb) a1) (.cons (Eq.refl (pcells (.agg [.v (.int .i64 d.fSector),.sl (d.fData.map (eI .u8)),.v (.bool d.fBarrier)]))) (.cons (set_ob (f:=Gb) (l:=c) (k:=(a).toNat) (z:=d) (p:=.agg [.v (.int .i64 d.fSector),.sl (d.fData.map (eI .u8)),.v (.bool d.fBarrier)]) rfl) (.cons (idx_ob (f:=Gb) r) (.cons (get_ob (f:=Gb) a3) (.cons (Eq.refl (pcells (.agg [.v (.int .i64 e.fSector),.sl (e.fData.map (eI .u8)),.v (.bool e.fBarrier)]))) (.cons (set_ob (f:=Gb) (l:=(c.set (a).toNat d)) (k:=(b).toNat) (z:=e) (p:=.agg [.v (.int .i64 e.fSector),.sl (e.fData.map (eI .u8)),.v (.bool e.fBarrier)]) rfl) .nil))))))))))))) (Z6 hF ks n  k (wi .i64 (a+1)) (wi .i64 (b-1)) ((c.set (a).toNat d).set (b).toNat e) _ h q)
      ·rw [if_neg r] at h; cases h
     ·rw [if_neg m] at h; cases h
    ·rw [if_neg j] at h; cases h
   ·rw [if_neg i] at h; cases h
  ·rw [if_neg g] at h
   cases h
   exact pkk_sound TTok mix hF 8 (hs:=[.t false]) (ts:=[]) (s:=[0,1]) (l:=[]) (by kernel_rfl) (by kernel_rfl) (.cons (df g) .nil) q
/- slices.reverseRangeCmpFunc[ringhall/lift.Req] -/
def SA (n:Nat) (a:(List Ga)) (b c:Int) (f:(Ga→Ga→Option (Int))):Option ((List Ga)) :=
 (GL n  n b (wi .i64 (c-1)) a).bind fun d=>match d with
 | .x0 e =>
  some e
theorem UP (n:Nat) (a:(List Ga)) (e f:Int) (g:(Ga→Ga→Option (Int))) (i:FuncId) (j:List PV) (o:∀ (x0:Ga) (x1:Ga) (r:Int),g x0 x1=some r→Ret Try.prog i ([Gb x0,Gb x1]++j) ((eI .i64) r)) (r:(List Ga)) (h:SA n a e f g=some r):RetH Try.prog 78 [.srf 0,.d ((eI .i64) e),.d ((eI .i64) f),.d ((.clo i j))] [.row 86 3 (a.map Gb)] (.tup []) [.row 86 3 (r.map Gb)]:=by
 refine retH_run (n:=34) (fn:=Try.f78) (c:=bodyOf Try.f78) (by kernel_rfl) (by kernel_rfl) (by kernel_rfl) (by kernel_rfl) ?_
 have hF:KC 34 (FinH Try.prog Try.f78 [.row 86 3 (a.map Gb)] (.tup []) [.row 86 3 (r.map Gb)]):=FinH.kc' (by kernel_rfl)
 unfold SA at h
 obtain ⟨k,m,h⟩:=bind_some h
 refine pkk_sound TTok mix hF 6 (hs:=[.n n]) (ts:=[]) (s:=[1,0]) (l:=[0,8,9]) (by kernel_rfl) (by kernel_rfl) .nil (Z6 hF (.b 0::[]) n  n e (wi .i64 (f-1)) a _ m ?_)
 cases k with
 | x0 p =>
  try dsimp only at h
  obtain rfl:=Option.some.inj h
  exact pendH_sound TTok mix 1 (hs:=[]) [1] (by kernel_rfl) (by kernel_rfl) (by kernel_rfl) .nil
inductive Sb where
 | x0 (a:Int) (b:(List Ga))
def Xa:Sb→Ex
 | .x0 _ _=>.exit 2
def Xb (a b:Int) (i:(Ga→Ga→Option (Int))) (c:Int) (e:FuncId) (f:(List PV)):Sb→PS
 | .x0 g h=>⟨(.srf 1::di a::di b::.d (.clo e f)::dd::dd::dd::dd::dd::di g::di c::(dds 130 [])),[.gh 0 (.srf 1),.row 86 3 (h.map Gb)]⟩
def Xc (a b:Int) (i:(Ga→Ga→Option (Int))) (c:Int) (e:FuncId) (f:(List PV)) (g:Int) (h:(List Ga)):PS:=⟨(.srf 1::di a::di b::.d (.clo e f)::dd::dd::dd::dd::dd::di g::di c::(dds 130 [])),[.gh 0 (.srf 1),.row 86 3 (h.map Gb)]⟩
def Gx (n:Nat) (e c:Int) (d:(Ga→Ga→Option (Int))) (f:Int):Nat→Int→(List Ga)→Option Sb
 | 0,_,_=>none
 | k+1,a,b =>
  if a<c then
   if 0≤a∧(a).toNat<b.length then
    (b[(a).toNat]?).bind fun (g:Ga) =>
    if 0≤(wi .i64 (a-1))∧((wi .i64 (a-1))).toNat<b.length then
     (b[((wi .i64 (a-1))).toNat]?).bind fun (h:Ga) =>
     (d g h).bind fun (i:(Int)) =>
     if i<0 then
      some (.x0 a b)
     else
      Gx n e c d f k (wi .i64 (a+1)) b
    else none
   else none
  else
   some (.x0 a b)
theorem K9 {Fi:Ex→PS→Prop} (hF:KC 141 Fi) (ks:List Fr) (n:Nat) (i d:Int) (e:(Ga→Ga→Option (Int))) (j:Int) (m:FuncId) (p:(List PV)) (a0:∀ (x0:Ga) (x1:Ga) (r:Int),e x0 x1=some r→Ret Try.prog m ([Gb x0,Gb x1]++p) ((eI .i64) r)):∀ (k:Nat) (a:Int) (b:(List Ga)) (o:Sb),Gx n i d e j k a b=some o→RunE Try.prog 141 Fi ks (Xa o) (Xb i d e j m p o)→RunE Try.prog 141 Fi (.l k (cP (cB (cL (cB (cL (cR (cP (cB (cR (cL (cR (cR (bodyOf Try.f79)))))))))))))::ks) .normal (Xc i d e j m p a b)
 | 0,a,b,o,h,q=>by rw [Gx] at h; cases h
 | k+1,a,b,o,h,q=>by
  rw [Gx] at h
  by_cases g:a<d
  ·rw [if_pos g] at h
   by_cases u:0≤a∧(a).toNat<b.length
   ·rw [if_pos u] at h
    obtain ⟨v,a2,h⟩:=bind_some h
    by_cases w:0≤(wi .i64 (a-1))∧((wi .i64 (a-1))).toNat<b.length
    ·rw [if_pos w] at h
     obtain ⟨x,a3,h⟩:=bind_some h
     obtain ⟨a1,a4,h⟩:=bind_some h
     by_cases z:a1<0
     ·rw [if_pos z] at h
      cases h
      exact pkk_sound TTok mix hF 8 (hs:=[.t true,.c,.c,.c,.c,.y (Gb v),.c,.c,.c,.c,.c,.y (Gb x),.c,.r ((eI .i64) a1),.c,.c,.t false]) (ts:=[]) (s:=[0,1]) (l:=[0,1,2,3,9,10]) (by kernel_rfl) (by kernel_rfl) (.cons (dt g) (.cons (idx_ob (f:=Gb) u) (.cons (get_ob (f:=Gb) a2) (.cons (idx_ob (f:=Gb) w) (.cons (get_ob (f:=Gb) a3) (.cons (a0 v x _ a4) (.cons (bnf (dt z)) .nil))))))) q
     ·rw [if_neg z] at h
      exact pkk_sound TTok mix hF 9 (hs:=[.t true,.c,.c,.c,.c,.y (Gb v),.c,.c,.c,.c,.c,.y (Gb x),.c,.r ((eI .i64) a1),.c,.c,.t true]) (ts:=[]) (s:=[0,1]) (l:=[0,1,2,3,9,10]) (by kernel_rfl) (by kernel_rfl) (.cons (dt g) (.cons (idx_ob (f:=Gb) u) (.cons (get_ob (f:=Gb) a2) (.cons (idx_ob (f:=Gb) w) (.cons (get_ob (f:=Gb) a3) (.cons (a0 v x _ a4) (.cons (bnt (df z)) .nil))))))) (K9 hF ks n i d e j m p a0 k (wi .i64 (a+1)) b _ h q)
    ·rw [if_neg w] at h; cases h
   ·rw [if_neg u] at h; cases h
  ·rw [if_neg g] at h
   cases h
   exact pkk_sound TTok mix hF 8 (hs:=[.t false,.c,.c,.c,.c,.c,.c,.c,.c,.c,.c,.c,.c,.c]) (ts:=[]) (s:=[0,1]) (l:=[0,1,2,3,9,10]) (by kernel_rfl) (by kernel_rfl) (.cons (df g) .nil) q
inductive Sc where
 | x0 (a:(List Ga))
def Xd:Sc→Ex
 | .x0 _=>.exit 4
def Xe (a b:Int) (i:(Ga→Ga→Option (Int))) (c e:Int) (f:FuncId) (g:(List PV)):Sc→PS
 | .x0 h=>⟨(.srf 1::di a::di b::.d (.clo f g)::dd::dd::dd::dd::dd::di c::di e::(dds 130 [])),[.gh 0 (.srf 1),.row 86 3 (h.map Gb)]⟩
def Xf (a b:Int) (j:(Ga→Ga→Option (Int))) (c e:Int) (f:FuncId) (g:(List PV)) (h:Int) (i:(List Ga)):PS:=⟨(.srf 1::di a::di b::.d (.clo f g)::dd::dd::dd::dd::dd::di c::di e::di h::(dds 129 [])),[.gh 0 (.srf 1),.row 86 3 (i.map Gb)]⟩
def Gy (n:Nat) (e f:Int) (d:(Ga→Ga→Option (Int))) (g h:Int):Nat→Int→(List Ga)→Option Sc
 | 0,_,_=>none
 | k+1,a,b =>
  if a≥1 then
   if 0≤a∧(a).toNat<b.length then
    (b[(a).toNat]?).bind fun (i:Ga) =>
    if 0≤(wi .i64 (a-1))∧((wi .i64 (a-1))).toNat<b.length then
     (b[((wi .i64 (a-1))).toNat]?).bind fun (j:Ga) =>
     (d i j).bind fun (l:(Int)) =>
     if l<0 then
      if 0≤(wi .i64 (a-1))∧((wi .i64 (a-1))).toNat<b.length then
       (b[((wi .i64 (a-1))).toNat]?).bind fun (c:Ga) =>
       if 0≤a∧(a).toNat<b.length then
        (b[(a).toNat]?).bind fun (m:Ga) =>
        if 0≤a∧(a).toNat<b.length then
         (b[(a).toNat]?).bind fun (o:Ga) =>
         if 0≤(wi .i64 (a-1))∧((wi .i64 (a-1))).toNat<(b.set (a).toNat c).length then
          ((b.set (a).toNat c)[((wi .i64 (a-1))).toNat]?).bind fun (p:Ga) =>
          Gy n e f d g h k (wi .i64 (a-1)) ((b.set (a).toNat c).set ((wi .i64 (a-1))).toNat m)
         else none
        else none
       else none
      else none
     else
      some (.x0 b)
    else none
   else none
  else
   some (.x0 b)
theorem Za {Fi:Ex→PS→Prop} (hF:KC 141 Fi) (ks:List Fr) (n:Nat) (i j:Int) (e:(Ga→Ga→Option (Int))) (m u:Int) (x:FuncId) (a0:(List PV)) (a6:∀ (x0:Ga) (x1:Ga) (r:Int),e x0 x1=some r→Ret Try.prog x ([Gb x0,Gb x1]++a0) ((eI .i64) r)):∀ (k:Nat) (a:Int) (b:(List Ga)) (o:Sc),Gy n i j e m u k a b=some o→RunE Try.prog 141 Fi ks (Xd o) (Xe i j e m u x a0 o)→RunE Try.prog 141 Fi (.l k (cP (cB (cR (cT (cR (cL (cR (cR (cR (cR (cB (cL (cR (cP (cB (cR (cL (cR (cR (bodyOf Try.f79))))))))))))))))))))::ks) .normal (Xf i j e m u x a0 a b)
 | 0,a,b,o,h,q=>by rw [Gy] at h; cases h
 | k+1,a,b,o,h,q=>by
  rw [Gy] at h
  by_cases g:a≥1
  ·rw [if_pos g] at h
   by_cases a1:0≤a∧(a).toNat<b.length
   ·rw [if_pos a1] at h
    obtain ⟨a2,b2,h⟩:=bind_some h
    by_cases a3:0≤(wi .i64 (a-1))∧((wi .i64 (a-1))).toNat<b.length
    ·rw [if_pos a3] at h
     obtain ⟨a4,b3,h⟩:=bind_some h
     obtain ⟨a7,b4,h⟩:=bind_some h
     by_cases a5:a7<0
     ·rw [if_pos a5] at h
      by_cases a8:0≤(wi .i64 (a-1))∧((wi .i64 (a-1))).toNat<b.length
      ·rw [if_pos a8] at h
       obtain ⟨c,b5,h⟩:=bind_some h
       by_cases a9:0≤a∧(a).toNat<b.length
       ·rw [if_pos a9] at h
        obtain ⟨d,b6,h⟩:=bind_some h
        by_cases b0:0≤a∧(a).toNat<b.length
        ·rw [if_pos b0] at h
         obtain ⟨b7,b8,h⟩:=bind_some h
         by_cases b1:0≤(wi .i64 (a-1))∧((wi .i64 (a-1))).toNat<(b.set (a).toNat c).length
         ·rw [if_pos b1] at h
          obtain ⟨b9,c0,h⟩:=bind_some h
          exact pkk_sound TTok mix hF 16 (hs:=[.t true,.y (Gb a2),.y (Gb a4),.r ((eI .i64) a7),.t false,.y (Gb c),.y (Gb d),.w ((b.set (a).toNat c).map Gb),.y (Gb b7),.w (((b.set (a).toNat c).set ((wi .i64 (a-1))).toNat d).map Gb),.y (Gb b9)]) (ts:=[]) (s:=[0,1]) (l:=[0,1,2,3,9,10,11]) (by kernel_rfl) (by kernel_rfl) (.cons (dt g) (.cons (idx_ob (f:=Gb) a1) (.cons (get_ob (f:=Gb) b2) (.cons (idx_ob (f:=Gb) a3) (.cons (get_ob (f:=Gb) b3) (.cons (a6 a2 a4 _ b4) (.cons (bnf (dt a5)) (.cons (idx_ob (f:=Gb) a8) (.cons (get_ob (f:=Gb) b5) (.cons (idx_ob (f:=Gb) a9) (.cons (get_ob (f:=Gb) b6) (.cons (idx_ob (f:=Gb) b0) (.cons (get_ob (f:=Gb) b8) (.cons (Eq.refl (pcells (.agg [.v (.int .i64 c.fSector),.sl (c.fData.map (eI .u8)),.v (.bool c.fBarrier)]))) (.cons (set_ob (f:=Gb) (l:=b) (k:=(a).toNat) (z:=c) (p:=.agg [.v (.int .i64 c.fSector),.sl (c.fData.map (eI .u8)),.v (.bool c.fBarrier)]) rfl) (.cons (idx_ob (f:=Gb) b1) (.cons (get_ob (f:=Gb) c0) (.cons (Eq.refl (pcells (.agg [.v (.int .i64 d.fSector),.sl (d.fData.map (eI .u8)),.v (.bool d.fBarrier)]))) (.cons (set_ob (f:=Gb) (l:=(b.set (a).toNat c)) (k:=((wi .i64 (a-1))).toNat) (z:=d) (p:=.agg [.v (.int .i64 d.fSector),.sl (d.fData.map (eI .u8)),.v (.bool d.fBarrier)]) rfl) .nil))))))))))))))))))) (Za hF ks n i j e m u x a0 a6 k (wi .i64 (a-1)) ((b.set (a).toNat c).set ((wi .i64 (a-1))).toNat d) _ h q)
         ·rw [if_neg b1] at h; cases h
        ·rw [if_neg b0] at h; cases h
       ·rw [if_neg a9] at h; cases h
      ·rw [if_neg a8] at h; cases h
     ·rw [if_neg a5] at h
      cases h
      exact pkk_sound TTok mix hF 17 (hs:=[.t true,.y (Gb a2),.y (Gb a4),.r ((eI .i64) a7),.t true]) (ts:=[]) (s:=[0,1]) (l:=[0,1,2,3,9,10]) (by kernel_rfl) (by kernel_rfl) (.cons (dt g) (.cons (idx_ob (f:=Gb) a1) (.cons (get_ob (f:=Gb) b2) (.cons (idx_ob (f:=Gb) a3) (.cons (get_ob (f:=Gb) b3) (.cons (a6 a2 a4 _ b4) (.cons (bnt (df a5)) .nil))))))) q
    ·rw [if_neg a3] at h; cases h
   ·rw [if_neg a1] at h; cases h
  ·rw [if_neg g] at h
   cases h
   exact pkk_sound TTok mix hF 8 (hs:=[.t false]) (ts:=[]) (s:=[0,1]) (l:=[0,1,2,3,9,10]) (by kernel_rfl) (by kernel_rfl) (.cons (df g) .nil) q
inductive Sd where
 | x0 (a:(List Ga))
def Xg:Sd→Ex
 | .x0 _=>.exit 6
def Xh (a b:Int) (i:(Ga→Ga→Option (Int))) (c e:Int) (f:FuncId) (g:(List PV)):Sd→PS
 | .x0 h=>⟨(.srf 1::di a::di b::.d (.clo f g)::dd::dd::dd::dd::dd::di c::di e::(dds 130 [])),[.gh 0 (.srf 1),.row 86 3 (h.map Gb)]⟩
def Xi (a b:Int) (j:(Ga→Ga→Option (Int))) (c e:Int) (f:FuncId) (g:(List PV)) (h:Int) (i:(List Ga)):PS:=⟨(.srf 1::di a::di b::.d (.clo f g)::dd::dd::dd::dd::dd::di c::di e::dd::di h::(dds 128 [])),[.gh 0 (.srf 1),.row 86 3 (i.map Gb)]⟩
def Gz (n:Nat) (f d:Int) (e:(Ga→Ga→Option (Int))) (g h:Int):Nat→Int→(List Ga)→Option Sd
 | 0,_,_=>none
 | k+1,a,b =>
  if a<d then
   if 0≤a∧(a).toNat<b.length then
    (b[(a).toNat]?).bind fun (i:Ga) =>
    if 0≤(wi .i64 (a-1))∧((wi .i64 (a-1))).toNat<b.length then
     (b[((wi .i64 (a-1))).toNat]?).bind fun (j:Ga) =>
     (e i j).bind fun (l:(Int)) =>
     if l<0 then
      if 0≤(wi .i64 (a-1))∧((wi .i64 (a-1))).toNat<b.length then
       (b[((wi .i64 (a-1))).toNat]?).bind fun (c:Ga) =>
       if 0≤a∧(a).toNat<b.length then
        (b[(a).toNat]?).bind fun (m:Ga) =>
        if 0≤a∧(a).toNat<b.length then
         (b[(a).toNat]?).bind fun (o:Ga) =>
         if 0≤(wi .i64 (a-1))∧((wi .i64 (a-1))).toNat<(b.set (a).toNat c).length then
          ((b.set (a).toNat c)[((wi .i64 (a-1))).toNat]?).bind fun (p:Ga) =>
          Gz n f d e g h k (wi .i64 (a+1)) ((b.set (a).toNat c).set ((wi .i64 (a-1))).toNat m)
         else none
        else none
       else none
      else none
     else
      some (.x0 b)
    else none
   else none
  else
   some (.x0 b)
theorem Zb {Fi:Ex→PS→Prop} (hF:KC 141 Fi) (ks:List Fr) (n:Nat) (j e:Int) (g:(Ga→Ga→Option (Int))) (m u:Int) (x:FuncId) (a0:(List PV)) (a6:∀ (x0:Ga) (x1:Ga) (r:Int),g x0 x1=some r→Ret Try.prog x ([Gb x0,Gb x1]++a0) ((eI .i64) r)):∀ (k:Nat) (a:Int) (b:(List Ga)) (o:Sd),Gz n j e g m u k a b=some o→RunE Try.prog 141 Fi ks (Xg o) (Xh j e g m u x a0 o)→RunE Try.prog 141 Fi (.l k (cP (cB (cR (cT (cR (cR (cR (cR (cR (cR (cB (cL (cR (cP (cB (cR (cL (cR (cR (bodyOf Try.f79))))))))))))))))))))::ks) .normal (Xi j e g m u x a0 a b)
 | 0,a,b,o,h,q=>by rw [Gz] at h; cases h
 | k+1,a,b,o,h,q=>by
  rw [Gz] at h
  by_cases i:a<e
  ·rw [if_pos i] at h
   by_cases a1:0≤a∧(a).toNat<b.length
   ·rw [if_pos a1] at h
    obtain ⟨a2,b2,h⟩:=bind_some h
    by_cases a3:0≤(wi .i64 (a-1))∧((wi .i64 (a-1))).toNat<b.length
    ·rw [if_pos a3] at h
     obtain ⟨a4,b3,h⟩:=bind_some h
     obtain ⟨a7,b4,h⟩:=bind_some h
     by_cases a5:a7<0
     ·rw [if_pos a5] at h
      by_cases a8:0≤(wi .i64 (a-1))∧((wi .i64 (a-1))).toNat<b.length
      ·rw [if_pos a8] at h
       obtain ⟨c,b5,h⟩:=bind_some h
       by_cases a9:0≤a∧(a).toNat<b.length
       ·rw [if_pos a9] at h
        obtain ⟨d,b6,h⟩:=bind_some h
        by_cases b0:0≤a∧(a).toNat<b.length
        ·rw [if_pos b0] at h
         obtain ⟨b7,b8,h⟩:=bind_some h
         by_cases b1:0≤(wi .i64 (a-1))∧((wi .i64 (a-1))).toNat<(b.set (a).toNat c).length
         ·rw [if_pos b1] at h
          obtain ⟨b9,c0,h⟩:=bind_some h
          exact pkk_sound TTok mix hF 16 (hs:=[.t true,.y (Gb a2),.y (Gb a4),.r ((eI .i64) a7),.t false,.y (Gb c),.y (Gb d),.w ((b.set (a).toNat c).map Gb),.y (Gb b7),.w (((b.set (a).toNat c).set ((wi .i64 (a-1))).toNat d).map Gb),.y (Gb b9)]) (ts:=[]) (s:=[0,1]) (l:=[0,1,2,3,9,10,12]) (by kernel_rfl) (by kernel_rfl) (.cons (dt i) (.cons (idx_ob (f:=Gb) a1) (.cons (get_ob (f:=Gb) b2) (.cons (idx_ob (f:=Gb) a3) (.cons (get_ob (f:=Gb) b3) (.cons (a6 a2 a4 _ b4) (.cons (bnf (dt a5)) (.cons (idx_ob (f:=Gb) a8) (.cons (get_ob (f:=Gb) b5) (.cons (idx_ob (f:=Gb) a9) (.cons (get_ob (f:=Gb) b6) (.cons (idx_ob (f:=Gb) b0) (.cons (get_ob (f:=Gb) b8) (.cons (Eq.refl (pcells (.agg [.v (.int .i64 c.fSector),.sl (c.fData.map (eI .u8)),.v (.bool c.fBarrier)]))) (.cons (set_ob (f:=Gb) (l:=b) (k:=(a).toNat) (z:=c) (p:=.agg [.v (.int .i64 c.fSector),.sl (c.fData.map (eI .u8)),.v (.bool c.fBarrier)]) rfl) (.cons (idx_ob (f:=Gb) b1) (.cons (get_ob (f:=Gb) c0) (.cons (Eq.refl (pcells (.agg [.v (.int .i64 d.fSector),.sl (d.fData.map (eI .u8)),.v (.bool d.fBarrier)]))) (.cons (set_ob (f:=Gb) (l:=(b.set (a).toNat c)) (k:=((wi .i64 (a-1))).toNat) (z:=d) (p:=.agg [.v (.int .i64 d.fSector),.sl (d.fData.map (eI .u8)),.v (.bool d.fBarrier)]) rfl) .nil))))))))))))))))))) (Zb hF ks n j e g m u x a0 a6 k (wi .i64 (a+1)) ((b.set (a).toNat c).set ((wi .i64 (a-1))).toNat d) _ h q)
         ·rw [if_neg b1] at h; cases h
        ·rw [if_neg b0] at h; cases h
       ·rw [if_neg a9] at h; cases h
      ·rw [if_neg a8] at h; cases h
     ·rw [if_neg a5] at h
      cases h
      exact pkk_sound TTok mix hF 17 (hs:=[.t true,.y (Gb a2),.y (Gb a4),.r ((eI .i64) a7),.t true]) (ts:=[]) (s:=[0,1]) (l:=[0,1,2,3,9,10]) (by kernel_rfl) (by kernel_rfl) (.cons (dt i) (.cons (idx_ob (f:=Gb) a1) (.cons (get_ob (f:=Gb) b2) (.cons (idx_ob (f:=Gb) a3) (.cons (get_ob (f:=Gb) b3) (.cons (a6 a2 a4 _ b4) (.cons (bnt (df a5)) .nil))))))) q
    ·rw [if_neg a3] at h; cases h
   ·rw [if_neg a1] at h; cases h
  ·rw [if_neg i] at h
   cases h
   exact pkk_sound TTok mix hF 8 (hs:=[.t false]) (ts:=[]) (s:=[0,1]) (l:=[0,1,2,3,9,10]) (by kernel_rfl) (by kernel_rfl) (.cons (df i) .nil) q
inductive Se where
 | x0 (a:(List Ga))
def Xj:Se→Ex
 | .x0 _=>.exit 6
def Xk (a b:Int) (i:(Ga→Ga→Option (Int))) (c e:Int) (f:FuncId) (g:(List PV)):Se→PS
 | .x0 h=>⟨(.srf 1::di a::di b::.d (.clo f g)::dd::dd::dd::dd::dd::di c::di e::(dds 130 [])),[.gh 0 (.srf 1),.row 86 3 (h.map Gb)]⟩
def Xl (a b:Int) (j:(Ga→Ga→Option (Int))) (c e:Int) (f:FuncId) (g:(List PV)) (h:Int) (i:(List Ga)):PS:=⟨(.srf 1::di a::di b::.d (.clo f g)::dd::dd::dd::dd::dd::di c::di e::dd::di h::(dds 128 [])),[.gh 0 (.srf 1),.row 86 3 (i.map Gb)]⟩
def GA (n:Nat) (f d:Int) (e:(Ga→Ga→Option (Int))) (g h:Int):Nat→Int→(List Ga)→Option Se
 | 0,_,_=>none
 | k+1,a,b =>
  if a<d then
   if 0≤a∧(a).toNat<b.length then
    (b[(a).toNat]?).bind fun (i:Ga) =>
    if 0≤(wi .i64 (a-1))∧((wi .i64 (a-1))).toNat<b.length then
     (b[((wi .i64 (a-1))).toNat]?).bind fun (j:Ga) =>
     (e i j).bind fun (l:(Int)) =>
     if l<0 then
      if 0≤(wi .i64 (a-1))∧((wi .i64 (a-1))).toNat<b.length then
       (b[((wi .i64 (a-1))).toNat]?).bind fun (c:Ga) =>
       if 0≤a∧(a).toNat<b.length then
        (b[(a).toNat]?).bind fun (m:Ga) =>
        if 0≤a∧(a).toNat<b.length then
         (b[(a).toNat]?).bind fun (o:Ga) =>
         if 0≤(wi .i64 (a-1))∧((wi .i64 (a-1))).toNat<(b.set (a).toNat c).length then
          ((b.set (a).toNat c)[((wi .i64 (a-1))).toNat]?).bind fun (p:Ga) =>
          GA n f d e g h k (wi .i64 (a+1)) ((b.set (a).toNat c).set ((wi .i64 (a-1))).toNat m)
         else none
        else none
       else none
      else none
     else
      some (.x0 b)
    else none
   else none
  else
   some (.x0 b)
theorem Zc {Fi:Ex→PS→Prop} (hF:KC 141 Fi) (ks:List Fr) (n:Nat) (j e:Int) (g:(Ga→Ga→Option (Int))) (m u:Int) (x:FuncId) (a0:(List PV)) (a6:∀ (x0:Ga) (x1:Ga) (r:Int),g x0 x1=some r→Ret Try.prog x ([Gb x0,Gb x1]++a0) ((eI .i64) r)):∀ (k:Nat) (a:Int) (b:(List Ga)) (o:Se),GA n j e g m u k a b=some o→RunE Try.prog 141 Fi ks (Xj o) (Xk j e g m u x a0 o)→RunE Try.prog 141 Fi (.l k (cP (cB (cR (cT (cR (cR (cR (cR (cR (cR (cB (cL (cR (cP (cB (cR (cL (cR (cR (bodyOf Try.f79))))))))))))))))))))::ks) .normal (Xl j e g m u x a0 a b)
 | 0,a,b,o,h,q=>by rw [GA] at h; cases h
 | k+1,a,b,o,h,q=>by
  rw [GA] at h
  by_cases i:a<e
  ·rw [if_pos i] at h
   by_cases a1:0≤a∧(a).toNat<b.length
   ·rw [if_pos a1] at h
    obtain ⟨a2,b2,h⟩:=bind_some h
    by_cases a3:0≤(wi .i64 (a-1))∧((wi .i64 (a-1))).toNat<b.length
    ·rw [if_pos a3] at h
     obtain ⟨a4,b3,h⟩:=bind_some h
     obtain ⟨a7,b4,h⟩:=bind_some h
     by_cases a5:a7<0
     ·rw [if_pos a5] at h
      by_cases a8:0≤(wi .i64 (a-1))∧((wi .i64 (a-1))).toNat<b.length
      ·rw [if_pos a8] at h
       obtain ⟨c,b5,h⟩:=bind_some h
       by_cases a9:0≤a∧(a).toNat<b.length
       ·rw [if_pos a9] at h
        obtain ⟨d,b6,h⟩:=bind_some h
        by_cases b0:0≤a∧(a).toNat<b.length
        ·rw [if_pos b0] at h
         obtain ⟨b7,b8,h⟩:=bind_some h
         by_cases b1:0≤(wi .i64 (a-1))∧((wi .i64 (a-1))).toNat<(b.set (a).toNat c).length
         ·rw [if_pos b1] at h
          obtain ⟨b9,c0,h⟩:=bind_some h
          exact pkk_sound TTok mix hF 16 (hs:=[.t true,.y (Gb a2),.y (Gb a4),.r ((eI .i64) a7),.t false,.y (Gb c),.y (Gb d),.w ((b.set (a).toNat c).map Gb),.y (Gb b7),.w (((b.set (a).toNat c).set ((wi .i64 (a-1))).toNat d).map Gb),.y (Gb b9)]) (ts:=[]) (s:=[0,1]) (l:=[0,1,2,3,9,10,12]) (by kernel_rfl) (by kernel_rfl) (.cons (dt i) (.cons (idx_ob (f:=Gb) a1) (.cons (get_ob (f:=Gb) b2) (.cons (idx_ob (f:=Gb) a3) (.cons (get_ob (f:=Gb) b3) (.cons (a6 a2 a4 _ b4) (.cons (bnf (dt a5)) (.cons (idx_ob (f:=Gb) a8) (.cons (get_ob (f:=Gb) b5) (.cons (idx_ob (f:=Gb) a9) (.cons (get_ob (f:=Gb) b6) (.cons (idx_ob (f:=Gb) b0) (.cons (get_ob (f:=Gb) b8) (.cons (Eq.refl (pcells (.agg [.v (.int .i64 c.fSector),.sl (c.fData.map (eI .u8)),.v (.bool c.fBarrier)]))) (.cons (set_ob (f:=Gb) (l:=b) (k:=(a).toNat) (z:=c) (p:=.agg [.v (.int .i64 c.fSector),.sl (c.fData.map (eI .u8)),.v (.bool c.fBarrier)]) rfl) (.cons (idx_ob (f:=Gb) b1) (.cons (get_ob (f:=Gb) c0) (.cons (Eq.refl (pcells (.agg [.v (.int .i64 d.fSector),.sl (d.fData.map (eI .u8)),.v (.bool d.fBarrier)]))) (.cons (set_ob (f:=Gb) (l:=(b.set (a).toNat c)) (k:=((wi .i64 (a-1))).toNat) (z:=d) (p:=.agg [.v (.int .i64 d.fSector),.sl (d.fData.map (eI .u8)),.v (.bool d.fBarrier)]) rfl) .nil))))))))))))))))))) (Zc hF ks n j e g m u x a0 a6 k (wi .i64 (a+1)) ((b.set (a).toNat c).set ((wi .i64 (a-1))).toNat d) _ h q)
         ·rw [if_neg b1] at h; cases h
        ·rw [if_neg b0] at h; cases h
       ·rw [if_neg a9] at h; cases h
      ·rw [if_neg a8] at h; cases h
     ·rw [if_neg a5] at h
      cases h
      exact pkk_sound TTok mix hF 17 (hs:=[.t true,.y (Gb a2),.y (Gb a4),.r ((eI .i64) a7),.t true]) (ts:=[]) (s:=[0,1]) (l:=[0,1,2,3,9,10]) (by kernel_rfl) (by kernel_rfl) (.cons (dt i) (.cons (idx_ob (f:=Gb) a1) (.cons (get_ob (f:=Gb) b2) (.cons (idx_ob (f:=Gb) a3) (.cons (get_ob (f:=Gb) b3) (.cons (a6 a2 a4 _ b4) (.cons (bnt (df a5)) .nil))))))) q
    ·rw [if_neg a3] at h; cases h
   ·rw [if_neg a1] at h; cases h
  ·rw [if_neg i] at h
   cases h
   exact pkk_sound TTok mix hF 8 (hs:=[.t false]) (ts:=[]) (s:=[0,1]) (l:=[0,1,2,3,9,10]) (by kernel_rfl) (by kernel_rfl) (.cons (df i) .nil) q
inductive Sf where
 | x0 (a:Bool) (b:(List Ga))
 | x1 (c:(List Ga))
def Xm:Sf→Ex
 | .x0 _ _=>.ret
 | .x1 _=>.exit 0
def Xn (e f:Int) (g:(Ga→Ga→Option (Int))) (h:FuncId) (i:(List PV)):Sf→PS
 | .x0 a b=>⟨(dds 8 (.d (.v (.bool a))::(dds 132 []))),[.gh 0 (.srf 1),.row 86 3 (b.map Gb)]⟩
 | .x1 c=>⟨(dds 141 []),[.gh 0 (.srf 1),.row 86 3 (c.map Gb)]⟩
def Xo (a b:Int) (i:(Ga→Ga→Option (Int))) (c:FuncId) (e:(List PV)) (f g:Int) (h:(List Ga)):PS:=⟨(.srf 1::di a::di b::.d (.clo c e)::dd::dd::dd::dd::dd::di f::di g::(dds 130 [])),[.gh 0 (.srf 1),.row 86 3 (h.map Gb)]⟩
def Gq (n:Nat) (d c:Int) (f:(Ga→Ga→Option (Int))):Nat→Int→Int→(List Ga)→Option Sf
 | 0,_,_,_=>none
 | k+1,l,e,i =>
  if e<5 then
   (Gx n d c f e n l i).bind fun m=>match m with
   | .x0 a b =>
    if a=c then
     some (.x0 true b)
    else
     if (wi .i64 (c-d))<50 then
      some (.x0 false b)
     else
      if 0≤(wi .i64 (a-1))∧((wi .i64 (a-1))).toNat<b.length then
       (b[((wi .i64 (a-1))).toNat]?).bind fun (g:Ga) =>
       if 0≤a∧(a).toNat<b.length then
        (b[(a).toNat]?).bind fun (h:Ga) =>
        if 0≤a∧(a).toNat<b.length then
         (b[(a).toNat]?).bind fun (t:Ga) =>
         if 0≤(wi .i64 (a-1))∧((wi .i64 (a-1))).toNat<(b.set (a).toNat g).length then
          ((b.set (a).toNat g)[((wi .i64 (a-1))).toNat]?).bind fun (u:Ga) =>
          if (wi .i64 (a-d))≥2 then
           (Gy n d c f a e n (wi .i64 (a-1)) ((b.set (a).toNat g).set ((wi .i64 (a-1))).toNat h)).bind fun o=>match o with
           | .x0 j =>
             if (wi .i64 (c-a))≥2 then
              (Gz n d c f a e n (wi .i64 (a+1)) j).bind fun p=>match p with
              | .x0 q =>
               Gq n d c f k a (wi .i64 (e+1)) q
             else
              Gq n d c f k a (wi .i64 (e+1)) j
          else
           if (wi .i64 (c-a))≥2 then
            (GA n d c f a e n (wi .i64 (a+1)) ((b.set (a).toNat g).set ((wi .i64 (a-1))).toNat h)).bind fun r=>match r with
            | .x0 s =>
              Gq n d c f k a (wi .i64 (e+1)) s
           else
            Gq n d c f k a (wi .i64 (e+1)) ((b.set (a).toNat g).set ((wi .i64 (a-1))).toNat h)
         else none
        else none
       else none
      else none
  else
   some (.x1 i)
theorem GO {Fi:Ex→PS→Prop} (hF:KC 141 Fi) (ks:List Fr) (n:Nat) (i g:Int) (m:(Ga→Ga→Option (Int))) (u:FuncId) (x:(List PV)) (a0:∀ (x0:Ga) (x1:Ga) (r:Int),m x0 x1=some r→Ret Try.prog u ([Gb x0,Gb x1]++x) ((eI .i64) r)):∀ (k:Nat) (a3 j:Int) (a4:(List Ga)) (o:Sf),Gq n i g m k a3 j a4=some o→RunE Try.prog 141 Fi ks (Xm o) (Xn i g m u x o)→RunE Try.prog 141 Fi (.l k (cP (cB (cR (cL (cR (cR (bodyOf Try.f79)))))))::ks) .normal (Xo i g m u x a3 j a4)
 | 0,a3,j,a4,o,h,q=>by rw [Gq] at h; cases h
 | k+1,a3,j,a4,o,h,q=>by
  rw [Gq] at h
  by_cases b0:j<5
  ·rw [if_pos b0] at h
   obtain ⟨c0,c1,h⟩:=bind_some h
   refine pkk_sound TTok mix hF 11 (hs:=[.t true,.n n]) (ts:=[]) (s:=[0,1]) (l:=[0,1,2,3,9,10]) (by kernel_rfl) (by kernel_rfl) (.cons (dt b0) .nil) (K9 hF (.b 2::.s (cR (cB (cL (cR (cP (cB (cR (cL (cR (cR (bodyOf Try.f79)))))))))))::.b 1::.s (cR (cR (cP (cB (cR (cL (cR (cR (bodyOf Try.f79)))))))))::.l k (cP (cB (cR (cL (cR (cR (bodyOf Try.f79)))))))::ks) n i g m j u x a0 n a3 a4 _ c1 ?_)
   cases c0 with
   | x0 a e =>
    try dsimp only at h
    by_cases a1:a=g
    ·rw [if_pos a1] at h
     cases h
     exact pkk_sound TTok mix hF 12 (hs:=[.t true]) (ts:=[]) (s:=[0,1]) (l:=[8]) (by kernel_rfl) (by kernel_rfl) (.cons (bt a1) .nil) q
    ·rw [if_neg a1] at h
     by_cases a2:(wi .i64 (g-i))<50
     ·rw [if_pos a2] at h
      cases h
      exact pkk_sound TTok mix hF 17 (hs:=[.t false,.t true]) (ts:=[]) (s:=[0,1]) (l:=[8]) (by kernel_rfl) (by kernel_rfl) (.cons (bf a1) (.cons (dt a2) .nil)) q
     ·rw [if_neg a2] at h
      by_cases a5:0≤(wi .i64 (a-1))∧((wi .i64 (a-1))).toNat<e.length
      ·rw [if_pos a5] at h
       obtain ⟨c,b3,h⟩:=bind_some h
       by_cases a6:0≤a∧(a).toNat<e.length
       ·rw [if_pos a6] at h
        obtain ⟨d,b4,h⟩:=bind_some h
        by_cases a7:0≤a∧(a).toNat<e.length
        ·rw [if_pos a7] at h
         obtain ⟨b5,b6,h⟩:=bind_some h
         by_cases a8:0≤(wi .i64 (a-1))∧((wi .i64 (a-1))).toNat<(e.set (a).toNat c).length
         ·rw [if_pos a8] at h
          obtain ⟨b7,b8,h⟩:=bind_some h
          by_cases a9:(wi .i64 (a-i))≥2
          ·rw [if_pos a9] at h
           obtain ⟨c2,c3,h⟩:=bind_some h
           refine pkk_sound TTok mix hF 21 (hs:=[.t false,.t false,.y (Gb c),.y (Gb d),.w ((e.set (a).toNat c).map Gb),.y (Gb b5),.w (((e.set (a).toNat c).set ((wi .i64 (a-1))).toNat d).map Gb),.y (Gb b7),.t true,.n n]) (ts:=[]) (s:=[0,1]) (l:=[0,1,2,3,9,10,11]) (by kernel_rfl) (by kernel_rfl) (.cons (bf a1) (.cons (df a2) (.cons (idx_ob (f:=Gb) a5) (.cons (get_ob (f:=Gb) b3) (.cons (idx_ob (f:=Gb) a6) (.cons (get_ob (f:=Gb) b4) (.cons (idx_ob (f:=Gb) a7) (.cons (get_ob (f:=Gb) b6) (.cons (Eq.refl (pcells (.agg [.v (.int .i64 c.fSector),.sl (c.fData.map (eI .u8)),.v (.bool c.fBarrier)]))) (.cons (set_ob (f:=Gb) (l:=e) (k:=(a).toNat) (z:=c) (p:=.agg [.v (.int .i64 c.fSector),.sl (c.fData.map (eI .u8)),.v (.bool c.fBarrier)]) rfl) (.cons (idx_ob (f:=Gb) a8) (.cons (get_ob (f:=Gb) b8) (.cons (Eq.refl (pcells (.agg [.v (.int .i64 d.fSector),.sl (d.fData.map (eI .u8)),.v (.bool d.fBarrier)]))) (.cons (set_ob (f:=Gb) (l:=(e.set (a).toNat c)) (k:=((wi .i64 (a-1))).toNat) (z:=d) (p:=.agg [.v (.int .i64 d.fSector),.sl (d.fData.map (eI .u8)),.v (.bool d.fBarrier)]) rfl) (.cons (dt a9) .nil))))))))))))))) (Za hF (.b 4::.s (cR (cR (cR (cR (cR (cB (cL (cR (cP (cB (cR (cL (cR (cR (bodyOf Try.f79)))))))))))))))::.b 1::.s (cR (cR (cP (cB (cR (cL (cR (cR (bodyOf Try.f79)))))))))::.l k (cP (cB (cR (cL (cR (cR (bodyOf Try.f79)))))))::ks) n i g m a j u x a0 n (wi .i64 (a-1)) ((e.set (a).toNat c).set ((wi .i64 (a-1))).toNat d) _ c3 ?_)
           cases c2 with
           | x0 b9 =>
            try dsimp only at h
            by_cases b1:(wi .i64 (g-a))≥2
            ·rw [if_pos b1] at h
             obtain ⟨c4,c5,h⟩:=bind_some h
             refine pkk_sound TTok mix hF 8 (hs:=[.t true,.n n]) (ts:=[]) (s:=[0,1]) (l:=[0,1,2,3,9,10,12]) (by kernel_rfl) (by kernel_rfl) (.cons (dt b1) .nil) (Zb hF (.b 6::.b 1::.s (cR (cR (cP (cB (cR (cL (cR (cR (bodyOf Try.f79)))))))))::.l k (cP (cB (cR (cL (cR (cR (bodyOf Try.f79)))))))::ks) n i g m a j u x a0 n (wi .i64 (a+1)) b9 _ c5 ?_)
             cases c4 with
             | x0 c6 =>
              try dsimp only at h
              exact pkk_sound TTok mix hF 3 (hs:=[]) (ts:=[]) (s:=[0,1]) (l:=[0,1,2,3,9,10]) (by kernel_rfl) (by kernel_rfl) .nil (GO hF ks n i g m u x a0 k a (wi .i64 (j+1)) c6 _ h q)
            ·rw [if_neg b1] at h
             exact pkk_sound TTok mix hF 7 (hs:=[.t false]) (ts:=[]) (s:=[0,1]) (l:=[0,1,2,3,9,10]) (by kernel_rfl) (by kernel_rfl) (.cons (df b1) .nil) (GO hF ks n i g m u x a0 k a (wi .i64 (j+1)) b9 _ h q)
          ·rw [if_neg a9] at h
           by_cases b2:(wi .i64 (g-a))≥2
           ·rw [if_pos b2] at h
            obtain ⟨c7,c8,h⟩:=bind_some h
            refine pkk_sound TTok mix hF 25 (hs:=[.t false,.t false,.y (Gb c),.y (Gb d),.w ((e.set (a).toNat c).map Gb),.y (Gb b5),.w (((e.set (a).toNat c).set ((wi .i64 (a-1))).toNat d).map Gb),.y (Gb b7),.t false,.t true,.n n]) (ts:=[]) (s:=[0,1]) (l:=[0,1,2,3,9,10,12]) (by kernel_rfl) (by kernel_rfl) (.cons (bf a1) (.cons (df a2) (.cons (idx_ob (f:=Gb) a5) (.cons (get_ob (f:=Gb) b3) (.cons (idx_ob (f:=Gb) a6) (.cons (get_ob (f:=Gb) b4) (.cons (idx_ob (f:=Gb) a7) (.cons (get_ob (f:=Gb) b6) (.cons (Eq.refl (pcells (.agg [.v (.int .i64 c.fSector),.sl (c.fData.map (eI .u8)),.v (.bool c.fBarrier)]))) (.cons (set_ob (f:=Gb) (l:=e) (k:=(a).toNat) (z:=c) (p:=.agg [.v (.int .i64 c.fSector),.sl (c.fData.map (eI .u8)),.v (.bool c.fBarrier)]) rfl) (.cons (idx_ob (f:=Gb) a8) (.cons (get_ob (f:=Gb) b8) (.cons (Eq.refl (pcells (.agg [.v (.int .i64 d.fSector),.sl (d.fData.map (eI .u8)),.v (.bool d.fBarrier)]))) (.cons (set_ob (f:=Gb) (l:=(e.set (a).toNat c)) (k:=((wi .i64 (a-1))).toNat) (z:=d) (p:=.agg [.v (.int .i64 d.fSector),.sl (d.fData.map (eI .u8)),.v (.bool d.fBarrier)]) rfl) (.cons (df a9) (.cons (dt b2) .nil)))))))))))))))) (Zc hF (.b 6::.b 1::.s (cR (cR (cP (cB (cR (cL (cR (cR (bodyOf Try.f79)))))))))::.l k (cP (cB (cR (cL (cR (cR (bodyOf Try.f79)))))))::ks) n i g m a j u x a0 n (wi .i64 (a+1)) ((e.set (a).toNat c).set ((wi .i64 (a-1))).toNat d) _ c8 ?_)
            cases c7 with
            | x0 c9 =>
             try dsimp only at h
             exact pkk_sound TTok mix hF 3 (hs:=[]) (ts:=[]) (s:=[0,1]) (l:=[0,1,2,3,9,10]) (by kernel_rfl) (by kernel_rfl) .nil (GO hF ks n i g m u x a0 k a (wi .i64 (j+1)) c9 _ h q)
           ·rw [if_neg b2] at h
            exact pkk_sound TTok mix hF 24 (hs:=[.t false,.t false,.y (Gb c),.y (Gb d),.w ((e.set (a).toNat c).map Gb),.y (Gb b5),.w (((e.set (a).toNat c).set ((wi .i64 (a-1))).toNat d).map Gb),.y (Gb b7),.t false,.t false]) (ts:=[]) (s:=[0,1]) (l:=[0,1,2,3,9,10]) (by kernel_rfl) (by kernel_rfl) (.cons (bf a1) (.cons (df a2) (.cons (idx_ob (f:=Gb) a5) (.cons (get_ob (f:=Gb) b3) (.cons (idx_ob (f:=Gb) a6) (.cons (get_ob (f:=Gb) b4) (.cons (idx_ob (f:=Gb) a7) (.cons (get_ob (f:=Gb) b6) (.cons (Eq.refl (pcells (.agg [.v (.int .i64 c.fSector),.sl (c.fData.map (eI .u8)),.v (.bool c.fBarrier)]))) (.cons (set_ob (f:=Gb) (l:=e) (k:=(a).toNat) (z:=c) (p:=.agg [.v (.int .i64 c.fSector),.sl (c.fData.map (eI .u8)),.v (.bool c.fBarrier)]) rfl) (.cons (idx_ob (f:=Gb) a8) (.cons (get_ob (f:=Gb) b8) (.cons (Eq.refl (pcells (.agg [.v (.int .i64 d.fSector),.sl (d.fData.map (eI .u8)),.v (.bool d.fBarrier)]))) (.cons (set_ob (f:=Gb) (l:=(e.set (a).toNat c)) (k:=((wi .i64 (a-1))).toNat) (z:=d) (p:=.agg [.v (.int .i64 d.fSector),.sl (d.fData.map (eI .u8)),.v (.bool d.fBarrier)]) rfl) (.cons (df a9) (.cons (df b2) .nil)))))))))))))))) (GO hF ks n i g m u x a0 k a (wi .i64 (j+1)) ((e.set (a).toNat c).set ((wi .i64 (a-1))).toNat d) _ h q)
         ·rw [if_neg a8] at h; cases h
        ·rw [if_neg a7] at h; cases h
       ·rw [if_neg a6] at h; cases h
      ·rw [if_neg a5] at h; cases h
  ·rw [if_neg b0] at h
   cases h
   exact pkk_sound TTok mix hF 8 (hs:=[.t false]) (ts:=[]) (s:=[0,1]) (l:=[]) (by kernel_rfl) (by kernel_rfl) (.cons (df b0) .nil) q
/- slices.partialInsertionSortCmpFunc[ringhall/lift.Req] -/
def G4 (n:Nat) (b:(List Ga)) (a c:Int) (d:(Ga→Ga→Option (Int))):Option (Bool×(List Ga)) :=
 (Gq n a c d n (wi .i64 (a+1)) 0 b).bind fun e=>match e with
 | .x0 f g =>
  some (f,g)
 | .x1 h =>
  some (false,h)
theorem Zo (n:Nat) (a:(List Ga)) (e f:Int) (g:(Ga→Ga→Option (Int))) (i:FuncId) (j:List PV) (k:∀ (x0:Ga) (x1:Ga) (r:Int),g x0 x1=some r→Ret Try.prog i ([Gb x0,Gb x1]++j) ((eI .i64) r)) (r:Bool×(List Ga)) (h:G4 n a e f g=some r):RetH Try.prog 79 [.srf 0,.d ((eI .i64) e),.d ((eI .i64) f),.d ((.clo i j))] [.row 86 3 (a.map Gb)] (.d (eB r.1)) [.row 86 3 (r.2.map Gb)]:=by
 refine retH_run (n:=141) (fn:=Try.f79) (c:=bodyOf Try.f79) (by kernel_rfl) (by kernel_rfl) (by kernel_rfl) (by kernel_rfl) ?_
 have hF:KC 141 (FinH Try.prog Try.f79 [.row 86 3 (a.map Gb)] (.d (eB r.1)) [.row 86 3 (r.2.map Gb)]):=FinH.kc' (by kernel_rfl)
 unfold G4 at h
 obtain ⟨m,o,h⟩:=bind_some h
 refine pkk_sound TTok mix hF 9 (hs:=[.n n]) (ts:=[]) (s:=[1,0]) (l:=[0,1,2,3,9,10]) (by kernel_rfl) (by kernel_rfl) .nil (GO hF (.b 0::.s (cR (cR (cR (bodyOf Try.f79))))::[]) n e f g i j k n (wi .i64 (e+1)) 0 a _ o ?_)
 cases m with
 | x0 p q =>
  try dsimp only at h
  obtain rfl:=Option.some.inj h
  exact pendH_sound TTok mix 2 (hs:=[]) [1] (by kernel_rfl) (by kernel_rfl) (by kernel_rfl) .nil
 | x1 t =>
  try dsimp only at h
  obtain rfl:=Option.some.inj h
  exact pendH_sound TTok mix 4 (hs:=[]) [1] (by kernel_rfl) (by kernel_rfl) (by kernel_rfl) .nil
inductive SH where
 | x0 (a:Int) (b:(List Ga))
def XT:SH→Ex
 | .x0 _ _=>.exit 2
def XU (a:Int) (h:(Ga→Ga→Option (Int))) (b:Int) (c:FuncId) (e:(List PV)):SH→PS
 | .x0 f g=>⟨(.srf 1::di a::dd::dd::.d (.clo c e)::dd::dd::dd::dd::dd::dd::di f::di b::(dds 77 [])),[.gh 0 (.srf 1),.row 86 3 (g.map Gb)]⟩
def XV (a:Int) (h:(Ga→Ga→Option (Int))) (b:Int) (c:FuncId) (e:(List PV)) (f:Int) (g:(List Ga)):PS:=⟨(.srf 1::di a::dd::dd::.d (.clo c e)::dd::dd::dd::dd::dd::dd::di f::di b::(dds 77 [])),[.gh 0 (.srf 1),.row 86 3 (g.map Gb)]⟩
def GF (n:Nat) (c:Int) (d:(Ga→Ga→Option (Int))) (e:Int):Nat→Int→(List Ga)→Option SH
 | 0,_,_=>none
 | k+1,a,b =>
  if a≤e then
   if 0≤c∧(c).toNat<b.length then
    (b[(c).toNat]?).bind fun (f:Ga) =>
    if 0≤a∧(a).toNat<b.length then
     (b[(a).toNat]?).bind fun (g:Ga) =>
     (d f g).bind fun (h:(Int)) =>
     if h<0 then
      some (.x0 a b)
     else
      GF n c d e k (wi .i64 (a+1)) b
    else none
   else none
  else
   some (.x0 a b)
theorem ZK {Fi:Ex→PS→Prop} (hF:KC 90 Fi) (ks:List Fr) (n:Nat) (d:Int) (e:(Ga→Ga→Option (Int))) (g:Int) (j:FuncId) (m:(List PV)) (z:∀ (x0:Ga) (x1:Ga) (r:Int),e x0 x1=some r→Ret Try.prog j ([Gb x0,Gb x1]++m) ((eI .i64) r)):∀ (k:Nat) (a:Int) (b:(List Ga)) (o:SH),GF n d e g k a b=some o→RunE Try.prog 90 Fi ks (XT o) (XU d e g j m o)→RunE Try.prog 90 Fi (.l k (cP (cB (cL (cB (cP (cB (cL (cR (cR (cR (bodyOf Try.f80)))))))))))::ks) .normal (XV d e g j m a b)
 | 0,a,b,o,h,q=>by rw [GF] at h; cases h
 | k+1,a,b,o,h,q=>by
  rw [GF] at h
  by_cases i:a≤g
  ·rw [if_pos i] at h
   by_cases p:0≤d∧(d).toNat<b.length
   ·rw [if_pos p] at h
    obtain ⟨u,a1,h⟩:=bind_some h
    by_cases v:0≤a∧(a).toNat<b.length
    ·rw [if_pos v] at h
     obtain ⟨w,a2,h⟩:=bind_some h
     obtain ⟨a0,a3,h⟩:=bind_some h
     by_cases x:a0<0
     ·rw [if_pos x] at h
      cases h
      exact pkk_sound TTok mix hF 8 (hs:=[.t true,.c,.c,.c,.c,.y (Gb u),.c,.c,.c,.c,.y (Gb w),.c,.r ((eI .i64) a0),.c,.c,.t false]) (ts:=[]) (s:=[0,1]) (l:=[0,1,4,11,12]) (by kernel_rfl) (by kernel_rfl) (.cons (dt i) (.cons (idx_ob (f:=Gb) p) (.cons (get_ob (f:=Gb) a1) (.cons (idx_ob (f:=Gb) v) (.cons (get_ob (f:=Gb) a2) (.cons (z u w _ a3) (.cons (bnf (dt x)) .nil))))))) q
     ·rw [if_neg x] at h
      exact pkk_sound TTok mix hF 9 (hs:=[.t true,.c,.c,.c,.c,.y (Gb u),.c,.c,.c,.c,.y (Gb w),.c,.r ((eI .i64) a0),.c,.c,.t true]) (ts:=[]) (s:=[0,1]) (l:=[0,1,4,11,12]) (by kernel_rfl) (by kernel_rfl) (.cons (dt i) (.cons (idx_ob (f:=Gb) p) (.cons (get_ob (f:=Gb) a1) (.cons (idx_ob (f:=Gb) v) (.cons (get_ob (f:=Gb) a2) (.cons (z u w _ a3) (.cons (bnt (df x)) .nil))))))) (ZK hF ks n d e g j m z k (wi .i64 (a+1)) b _ h q)
    ·rw [if_neg v] at h; cases h
   ·rw [if_neg p] at h; cases h
  ·rw [if_neg i] at h
   cases h
   exact pkk_sound TTok mix hF 8 (hs:=[.t false,.c,.c,.c,.c,.c,.c,.c,.c,.c,.c,.c,.c]) (ts:=[]) (s:=[0,1]) (l:=[0,1,4,11,12]) (by kernel_rfl) (by kernel_rfl) (.cons (df i) .nil) q
inductive SI where
 | x0 (a:Int) (b:(List Ga))
def XW:SI→Ex
 | .x0 _ _=>.exit 4
def XX (a:Int) (h:(Ga→Ga→Option (Int))) (b:Int) (c:FuncId) (e:(List PV)):SI→PS
 | .x0 f g=>⟨(.srf 1::di a::dd::dd::.d (.clo c e)::dd::dd::dd::dd::dd::dd::di b::di f::(dds 77 [])),[.gh 0 (.srf 1),.row 86 3 (g.map Gb)]⟩
def XY (a:Int) (h:(Ga→Ga→Option (Int))) (b:Int) (c:FuncId) (e:(List PV)) (f:Int) (g:(List Ga)):PS:=⟨(.srf 1::di a::dd::dd::.d (.clo c e)::dd::dd::dd::dd::dd::dd::di b::di f::(dds 77 [])),[.gh 0 (.srf 1),.row 86 3 (g.map Gb)]⟩
def GG (n:Nat) (c:Int) (d:(Ga→Ga→Option (Int))) (e:Int):Nat→Int→(List Ga)→Option SI
 | 0,_,_=>none
 | k+1,a,b =>
  if e≤a then
   if 0≤c∧(c).toNat<b.length then
    (b[(c).toNat]?).bind fun (f:Ga) =>
    if 0≤a∧(a).toNat<b.length then
     (b[(a).toNat]?).bind fun (g:Ga) =>
     (d f g).bind fun (h:(Int)) =>
     if h<0 then
      GG n c d e k (wi .i64 (a-1)) b
     else
      some (.x0 a b)
    else none
   else none
  else
   some (.x0 a b)
theorem ZL {Fi:Ex→PS→Prop} (hF:KC 90 Fi) (ks:List Fr) (n:Nat) (d:Int) (e:(Ga→Ga→Option (Int))) (g:Int) (j:FuncId) (m:(List PV)) (z:∀ (x0:Ga) (x1:Ga) (r:Int),e x0 x1=some r→Ret Try.prog j ([Gb x0,Gb x1]++m) ((eI .i64) r)):∀ (k:Nat) (a:Int) (b:(List Ga)) (o:SI),GG n d e g k a b=some o→RunE Try.prog 90 Fi ks (XW o) (XX d e g j m o)→RunE Try.prog 90 Fi (.l k (cP (cB (cL (cR (cB (cP (cB (cL (cR (cR (cR (bodyOf Try.f80))))))))))))::ks) .normal (XY d e g j m a b)
 | 0,a,b,o,h,q=>by rw [GG] at h; cases h
 | k+1,a,b,o,h,q=>by
  rw [GG] at h
  by_cases i:g≤a
  ·rw [if_pos i] at h
   by_cases p:0≤d∧(d).toNat<b.length
   ·rw [if_pos p] at h
    obtain ⟨u,a1,h⟩:=bind_some h
    by_cases v:0≤a∧(a).toNat<b.length
    ·rw [if_pos v] at h
     obtain ⟨w,a2,h⟩:=bind_some h
     obtain ⟨a0,a3,h⟩:=bind_some h
     by_cases x:a0<0
     ·rw [if_pos x] at h
      exact pkk_sound TTok mix hF 9 (hs:=[.t true,.c,.c,.c,.c,.y (Gb u),.c,.c,.c,.c,.y (Gb w),.c,.r ((eI .i64) a0),.c,.t true]) (ts:=[]) (s:=[0,1]) (l:=[0,1,4,11,12]) (by kernel_rfl) (by kernel_rfl) (.cons (dt i) (.cons (idx_ob (f:=Gb) p) (.cons (get_ob (f:=Gb) a1) (.cons (idx_ob (f:=Gb) v) (.cons (get_ob (f:=Gb) a2) (.cons (z u w _ a3) (.cons (dt x) .nil))))))) (ZL hF ks n d e g j m z k (wi .i64 (a-1)) b _ h q)
     ·rw [if_neg x] at h
      cases h
      exact pkk_sound TTok mix hF 8 (hs:=[.t true,.c,.c,.c,.c,.y (Gb u),.c,.c,.c,.c,.y (Gb w),.c,.r ((eI .i64) a0),.c,.t false]) (ts:=[]) (s:=[0,1]) (l:=[0,1,4,11,12]) (by kernel_rfl) (by kernel_rfl) (.cons (dt i) (.cons (idx_ob (f:=Gb) p) (.cons (get_ob (f:=Gb) a1) (.cons (idx_ob (f:=Gb) v) (.cons (get_ob (f:=Gb) a2) (.cons (z u w _ a3) (.cons (df x) .nil))))))) q
    ·rw [if_neg v] at h; cases h
   ·rw [if_neg p] at h; cases h
  ·rw [if_neg i] at h
   cases h
   exact pkk_sound TTok mix hF 8 (hs:=[.t false,.c,.c,.c,.c,.c,.c,.c,.c,.c,.c,.c]) (ts:=[]) (s:=[0,1]) (l:=[0,1,4,11,12]) (by kernel_rfl) (by kernel_rfl) (.cons (df i) .nil) q
inductive SJ where
 | x0 (a:Int) (b:(List Ga))
def XZ:SJ→Ex
 | .x0 _ _=>.exit 0
def X0 (c:Int) (e:(Ga→Ga→Option (Int))) (f:FuncId) (g:(List PV)):SJ→PS
 | .x0 a b=>⟨(dds 11 (di a::(dds 78 []))),[.gh 0 (.srf 1),.row 86 3 (b.map Gb)]⟩
def X1 (a:Int) (h:(Ga→Ga→Option (Int))) (b:FuncId) (c:(List PV)) (e f:Int) (g:(List Ga)):PS:=⟨(.srf 1::di a::dd::dd::.d (.clo b c)::dd::dd::dd::dd::dd::dd::di e::di f::(dds 77 [])),[.gh 0 (.srf 1),.row 86 3 (g.map Gb)]⟩
def GH (n:Nat) (d:Int) (e:(Ga→Ga→Option (Int))):Nat→Int→Int→(List Ga)→Option SJ
 | 0,_,_,_=>none
 | k+1,h,g,i =>
  (GF n d e g n h i).bind fun j=>match j with
  | .x0 a l =>
   (GG n d e a n g l).bind fun m=>match m with
   | .x0 c b =>
    if a > c then
     some (.x0 a b)
    else
     if 0≤c∧(c).toNat<b.length then
      (b[(c).toNat]?).bind fun (f:Ga) =>
      if 0≤a∧(a).toNat<b.length then
       (b[(a).toNat]?).bind fun (o:Ga) =>
       if 0≤a∧(a).toNat<b.length then
        (b[(a).toNat]?).bind fun (p:Ga) =>
        if 0≤c∧(c).toNat<(b.set (a).toNat f).length then
         ((b.set (a).toNat f)[(c).toNat]?).bind fun (q:Ga) =>
         GH n d e k (wi .i64 (a+1)) (wi .i64 (c-1)) ((b.set (a).toNat f).set (c).toNat o)
        else none
       else none
      else none
     else none
theorem ZM {Fi:Ex→PS→Prop} (hF:KC 90 Fi) (ks:List Fr) (n:Nat) (j:Int) (i:(Ga→Ga→Option (Int))) (m:FuncId) (u:(List PV)) (a3:∀ (x0:Ga) (x1:Ga) (r:Int),i x0 x1=some r→Ret Try.prog m ([Gb x0,Gb x1]++u) ((eI .i64) r)):∀ (k:Nat) (a0 x:Int) (a1:(List Ga)) (o:SJ),GH n j i k a0 x a1=some o→RunE Try.prog 90 Fi ks (XZ o) (X0 j i m u o)→RunE Try.prog 90 Fi (.l k (cP (cB (cL (cR (cR (cR (bodyOf Try.f80)))))))::ks) .normal (X1 j i m u a0 x a1)
 | 0,a0,x,a1,o,h,q=>by rw [GH] at h; cases h
 | k+1,a0,x,a1,o,h,q=>by
  rw [GH] at h
  obtain ⟨a8,a9,h⟩:=bind_some h
  refine pkk_sound TTok mix hF 5 (hs:=[.n n]) (ts:=[]) (s:=[0,1]) (l:=[0,1,4,11,12]) (by kernel_rfl) (by kernel_rfl) .nil (ZK hF (.b 2::.s (cR (cB (cP (cB (cL (cR (cR (cR (bodyOf Try.f80)))))))))::.b 1::.l k (cP (cB (cL (cR (cR (cR (bodyOf Try.f80)))))))::ks) n j i x m u a3 n a0 a1 _ a9 ?_)
  cases a8 with
  | x0 a b0 =>
   try dsimp only at h
   obtain ⟨b1,b2,h⟩:=bind_some h
   refine pkk_sound TTok mix hF 4 (hs:=[.n n]) (ts:=[]) (s:=[0,1]) (l:=[0,1,4,11,12]) (by kernel_rfl) (by kernel_rfl) .nil (ZL hF (.b 4::.s (cR (cR (cB (cP (cB (cL (cR (cR (cR (bodyOf Try.f80))))))))))::.b 1::.l k (cP (cB (cL (cR (cR (cR (bodyOf Try.f80)))))))::ks) n j i a m u a3 n x b0 _ b2 ?_)
   cases b1 with
   | x0 e g =>
    try dsimp only at h
    by_cases a2:a > e
    ·rw [if_pos a2] at h
     cases h
     exact pkk_sound TTok mix hF 9 (hs:=[.t true]) (ts:=[]) (s:=[0,1]) (l:=[11]) (by kernel_rfl) (by kernel_rfl) (.cons (dt a2) .nil) q
    ·rw [if_neg a2] at h
     by_cases a4:0≤e∧(e).toNat<g.length
     ·rw [if_pos a4] at h
      obtain ⟨c,b3,h⟩:=bind_some h
      by_cases a5:0≤a∧(a).toNat<g.length
      ·rw [if_pos a5] at h
       obtain ⟨d,b4,h⟩:=bind_some h
       by_cases a6:0≤a∧(a).toNat<g.length
       ·rw [if_pos a6] at h
        obtain ⟨b5,b6,h⟩:=bind_some h
        by_cases a7:0≤e∧(e).toNat<(g.set (a).toNat c).length
        ·rw [if_pos a7] at h
         obtain ⟨b7,b8,h⟩:=bind_some h
         exact pkk_sound TTok mix hF 12 (hs:=[.t false,.y (Gb c),.y (Gb d),.w ((g.set (a).toNat c).map Gb),.y (Gb b5),.w (((g.set (a).toNat c).set (e).toNat d).map Gb),.y (Gb b7)]) (ts:=[]) (s:=[0,1]) (l:=[0,1,4,11,12]) (by kernel_rfl) (by kernel_rfl) (.cons (df a2) (.cons (idx_ob (f:=Gb) a4) (.cons (get_ob (f:=Gb) b3) (.cons (idx_ob (f:=Gb) a5) (.cons (get_ob (f:=Gb) b4) (.cons (idx_ob (f:=Gb) a6) (.cons (get_ob (f:=Gb) b6) (.cons (Eq.refl (pcells (.agg [.v (.int .i64 c.fSector),.sl (c.fData.map (eI .u8)),.v (.bool c.fBarrier)]))) (.cons (set_ob (f:=Gb) (l:=g) (k:=(a).toNat) (z:=c) (p:=.agg [.v (.int .i64 c.fSector),.sl (c.fData.map (eI .u8)),.v (.bool c.fBarrier)]) rfl) (.cons (idx_ob (f:=Gb) a7) (.cons (get_ob (f:=Gb) b8) (.cons (Eq.refl (pcells (.agg [.v (.int .i64 d.fSector),.sl (d.fData.map (eI .u8)),.v (.bool d.fBarrier)]))) (.cons (set_ob (f:=Gb) (l:=(g.set (a).toNat c)) (k:=(e).toNat) (z:=d) (p:=.agg [.v (.int .i64 d.fSector),.sl (d.fData.map (eI .u8)),.v (.bool d.fBarrier)]) rfl) .nil))))))))))))) (ZM hF ks n j i m u a3 k (wi .i64 (a+1)) (wi .i64 (e-1)) ((g.set (a).toNat c).set (e).toNat d) _ h q)
        ·rw [if_neg a7] at h; cases h
       ·rw [if_neg a6] at h; cases h
      ·rw [if_neg a5] at h; cases h
     ·rw [if_neg a4] at h; cases h
/- slices.partitionEqualCmpFunc[ringhall/lift.Req] -/
def GD (n:Nat) (b:(List Ga)) (a e c:Int) (f:(Ga→Ga→Option (Int))):Option (Int×(List Ga)) :=
 if 0≤c∧(c).toNat<b.length then
  (b[(c).toNat]?).bind fun (d:Ga) =>
  if 0≤a∧(a).toNat<b.length then
   (b[(a).toNat]?).bind fun (g:Ga) =>
   if 0≤a∧(a).toNat<b.length then
    (b[(a).toNat]?).bind fun (k:Ga) =>
    if 0≤c∧(c).toNat<(b.set (a).toNat d).length then
     ((b.set (a).toNat d)[(c).toNat]?).bind fun (l:Ga) =>
     (GH n a f n (wi .i64 (a+1)) (wi .i64 (e-1)) ((b.set (a).toNat d).set (c).toNat g)).bind fun h=>match h with
     | .x0 i j =>
      some (i,j)
    else none
   else none
  else none
 else none
theorem KQ (n:Nat) (g:(List Ga)) (a m j:Int) (o:(Ga→Ga→Option (Int))) (q:FuncId) (t:List PV) (a2:∀ (x0:Ga) (x1:Ga) (r:Int),o x0 x1=some r→Ret Try.prog q ([Gb x0,Gb x1]++t) ((eI .i64) r)) (r:Int×(List Ga)) (h:GD n g a m j o=some r):RetH Try.prog 80 [.srf 0,.d ((eI .i64) a),.d ((eI .i64) m),.d ((eI .i64) j),.d ((.clo q t))] [.row 86 3 (g.map Gb)] (.d ((eI .i64) r.1)) [.row 86 3 (r.2.map Gb)]:=by
 refine retH_run (n:=90) (fn:=Try.f80) (c:=bodyOf Try.f80) (by kernel_rfl) (by kernel_rfl) (by kernel_rfl) (by kernel_rfl) ?_
 have hF:KC 90 (FinH Try.prog Try.f80 [.row 86 3 (g.map Gb)] (.d ((eI .i64) r.1)) [.row 86 3 (r.2.map Gb)]):=FinH.kc' (by kernel_rfl)
 unfold GD at h
 by_cases u:0≤j∧(j).toNat<g.length
 ·rw [if_pos u] at h
  obtain ⟨e,a3,h⟩:=bind_some h
  by_cases x:0≤a∧(a).toNat<g.length
  ·rw [if_pos x] at h
   obtain ⟨i,a4,h⟩:=bind_some h
   by_cases a0:0≤a∧(a).toNat<g.length
   ·rw [if_pos a0] at h
    obtain ⟨a5,a6,h⟩:=bind_some h
    by_cases a1:0≤j∧(j).toNat<(g.set (a).toNat e).length
    ·rw [if_pos a1] at h
     obtain ⟨a7,a8,h⟩:=bind_some h
     obtain ⟨a9,b0,h⟩:=bind_some h
     refine pkk_sound TTok mix hF 9 (hs:=[.y (Gb e),.y (Gb i),.w ((g.set (a).toNat e).map Gb),.y (Gb a5),.w (((g.set (a).toNat e).set (j).toNat i).map Gb),.y (Gb a7),.n n]) (ts:=[]) (s:=[1,0]) (l:=[0,1,4,11,12]) (by kernel_rfl) (by kernel_rfl) (.cons (idx_ob (f:=Gb) u) (.cons (get_ob (f:=Gb) a3) (.cons (idx_ob (f:=Gb) x) (.cons (get_ob (f:=Gb) a4) (.cons (idx_ob (f:=Gb) a0) (.cons (get_ob (f:=Gb) a6) (.cons (Eq.refl (pcells (.agg [.v (.int .i64 e.fSector),.sl (e.fData.map (eI .u8)),.v (.bool e.fBarrier)]))) (.cons (set_ob (f:=Gb) (l:=g) (k:=(a).toNat) (z:=e) (p:=.agg [.v (.int .i64 e.fSector),.sl (e.fData.map (eI .u8)),.v (.bool e.fBarrier)]) rfl) (.cons (idx_ob (f:=Gb) a1) (.cons (get_ob (f:=Gb) a8) (.cons (Eq.refl (pcells (.agg [.v (.int .i64 i.fSector),.sl (i.fData.map (eI .u8)),.v (.bool i.fBarrier)]))) (.cons (set_ob (f:=Gb) (l:=(g.set (a).toNat e)) (k:=(j).toNat) (z:=i) (p:=.agg [.v (.int .i64 i.fSector),.sl (i.fData.map (eI .u8)),.v (.bool i.fBarrier)]) rfl) .nil)))))))))))) (ZM hF (.b 0::.s (cR (cR (cR (cR (bodyOf Try.f80)))))::[]) n a o q t a2 n (wi .i64 (a+1)) (wi .i64 (m-1)) ((g.set (a).toNat e).set (j).toNat i) _ b0 ?_)
     cases a9 with
     | x0 b1 b2 =>
      try dsimp only at h
      obtain rfl:=Option.some.inj h
      exact pendH_sound TTok mix 4 (hs:=[]) [1] (by kernel_rfl) (by kernel_rfl) (by kernel_rfl) .nil
    ·rw [if_neg a1] at h; cases h
   ·rw [if_neg a0] at h; cases h
  ·rw [if_neg x] at h; cases h
 ·rw [if_neg u] at h; cases h
inductive Kb where
 | x0 (a:Int) (b:(List Ga))
def UQ:Kb→Ex
 | .x0 _ _=>.exit 0
def UR (a:Int) (h:(Ga→Ga→Option (Int))) (b:Int) (c:FuncId) (e:(List PV)):Kb→PS
 | .x0 f g=>⟨(.srf 1::di a::dd::dd::.d (.clo c e)::dd::dd::dd::dd::dd::dd::dd::di f::di (wi .i64 (b-1))::(dds 164 [])),[.gh 0 (.srf 1),.row 86 3 (g.map Gb)]⟩
def US (a:Int) (h:(Ga→Ga→Option (Int))) (b:Int) (c:FuncId) (e:(List PV)) (f:Int) (g:(List Ga)):PS:=⟨(.srf 1::di a::dd::dd::.d (.clo c e)::dd::dd::dd::dd::dd::dd::dd::di f::di (wi .i64 (b-1))::(dds 164 [])),[.gh 0 (.srf 1),.row 86 3 (g.map Gb)]⟩
def GP (n:Nat) (c:Int) (d:(Ga→Ga→Option (Int))) (e:Int):Nat→Int→(List Ga)→Option Kb
 | 0,_,_=>none
 | k+1,a,b =>
  if a≤(wi .i64 (e-1)) then
   if 0≤a∧(a).toNat<b.length then
    (b[(a).toNat]?).bind fun (f:Ga) =>
    if 0≤c∧(c).toNat<b.length then
     (b[(c).toNat]?).bind fun (g:Ga) =>
     (d f g).bind fun (h:(Int)) =>
     if h<0 then
      GP n c d e k (wi .i64 (a+1)) b
     else
      some (.x0 a b)
    else none
   else none
  else
   some (.x0 a b)
theorem Yt {Fi:Ex→PS→Prop} (hF:KC 178 Fi) (ks:List Fr) (n:Nat) (d:Int) (e:(Ga→Ga→Option (Int))) (g:Int) (j:FuncId) (m:(List PV)) (z:∀ (x0:Ga) (x1:Ga) (r:Int),e x0 x1=some r→Ret Try.prog j ([Gb x0,Gb x1]++m) ((eI .i64) r)):∀ (k:Nat) (a:Int) (b:(List Ga)) (o:Kb),GP n d e g k a b=some o→RunE Try.prog 178 Fi ks (UQ o) (UR d e g j m o)→RunE Try.prog 178 Fi (.l k (cP (cB (cL (cR (cR (cR (bodyOf Try.f81)))))))::ks) .normal (US d e g j m a b)
 | 0,a,b,o,h,q=>by rw [GP] at h; cases h
 | k+1,a,b,o,h,q=>by
  rw [GP] at h
  by_cases i:a≤(wi .i64 (g-1))
  ·rw [if_pos i] at h
   by_cases p:0≤a∧(a).toNat<b.length
   ·rw [if_pos p] at h
    obtain ⟨u,a1,h⟩:=bind_some h
    by_cases v:0≤d∧(d).toNat<b.length
    ·rw [if_pos v] at h
     obtain ⟨w,a2,h⟩:=bind_some h
     obtain ⟨a0,a3,h⟩:=bind_some h
     by_cases x:a0<0
     ·rw [if_pos x] at h
      exact pkk_sound TTok mix hF 9 (hs:=[.t true,.c,.c,.c,.c,.y (Gb u),.c,.c,.c,.c,.y (Gb w),.c,.r ((eI .i64) a0),.c,.t true]) (ts:=[]) (s:=[0,1]) (l:=[0,1,4,12,13]) (by kernel_rfl) (by kernel_rfl) (.cons (dt i) (.cons (idx_ob (f:=Gb) p) (.cons (get_ob (f:=Gb) a1) (.cons (idx_ob (f:=Gb) v) (.cons (get_ob (f:=Gb) a2) (.cons (z u w _ a3) (.cons (dt x) .nil))))))) (Yt hF ks n d e g j m z k (wi .i64 (a+1)) b _ h q)
     ·rw [if_neg x] at h
      cases h
      exact pkk_sound TTok mix hF 8 (hs:=[.t true,.c,.c,.c,.c,.y (Gb u),.c,.c,.c,.c,.y (Gb w),.c,.r ((eI .i64) a0),.c,.t false]) (ts:=[]) (s:=[0,1]) (l:=[0,1,4,12,13]) (by kernel_rfl) (by kernel_rfl) (.cons (dt i) (.cons (idx_ob (f:=Gb) p) (.cons (get_ob (f:=Gb) a1) (.cons (idx_ob (f:=Gb) v) (.cons (get_ob (f:=Gb) a2) (.cons (z u w _ a3) (.cons (df x) .nil))))))) q
    ·rw [if_neg v] at h; cases h
   ·rw [if_neg p] at h; cases h
  ·rw [if_neg i] at h
   cases h
   exact pkk_sound TTok mix hF 8 (hs:=[.t false,.c,.c,.c,.c,.c,.c,.c,.c,.c,.c,.c]) (ts:=[]) (s:=[0,1]) (l:=[0,1,4,12,13]) (by kernel_rfl) (by kernel_rfl) (.cons (df i) .nil) q
inductive Kc where
 | x0 (a:Int) (b:(List Ga))
def UT:Kc→Ex
 | .x0 _ _=>.exit 2
def UU (a:Int) (h:(Ga→Ga→Option (Int))) (b:Int) (c:FuncId) (e:(List PV)):Kc→PS
 | .x0 f g=>⟨(.srf 1::di a::dd::dd::.d (.clo c e)::dd::dd::dd::dd::dd::dd::dd::di b::di f::(dds 164 [])),[.gh 0 (.srf 1),.row 86 3 (g.map Gb)]⟩
def UV (a:Int) (h:(Ga→Ga→Option (Int))) (b:Int) (c:FuncId) (e:(List PV)) (f:Int) (g:(List Ga)):PS:=⟨(.srf 1::di a::dd::dd::.d (.clo c e)::dd::dd::dd::dd::dd::dd::dd::di b::di f::(dds 164 [])),[.gh 0 (.srf 1),.row 86 3 (g.map Gb)]⟩
def GQ (n:Nat) (c:Int) (d:(Ga→Ga→Option (Int))) (e:Int):Nat→Int→(List Ga)→Option Kc
 | 0,_,_=>none
 | k+1,a,b =>
  if e≤a then
   if 0≤a∧(a).toNat<b.length then
    (b[(a).toNat]?).bind fun (f:Ga) =>
    if 0≤c∧(c).toNat<b.length then
     (b[(c).toNat]?).bind fun (g:Ga) =>
     (d f g).bind fun (h:(Int)) =>
     if h<0 then
      some (.x0 a b)
     else
      GQ n c d e k (wi .i64 (a-1)) b
    else none
   else none
  else
   some (.x0 a b)
theorem Yu {Fi:Ex→PS→Prop} (hF:KC 178 Fi) (ks:List Fr) (n:Nat) (d:Int) (e:(Ga→Ga→Option (Int))) (g:Int) (j:FuncId) (m:(List PV)) (z:∀ (x0:Ga) (x1:Ga) (r:Int),e x0 x1=some r→Ret Try.prog j ([Gb x0,Gb x1]++m) ((eI .i64) r)):∀ (k:Nat) (a:Int) (b:(List Ga)) (o:Kc),GQ n d e g k a b=some o→RunE Try.prog 178 Fi ks (UT o) (UU d e g j m o)→RunE Try.prog 178 Fi (.l k (cP (cB (cL (cR (cR (cR (cR (bodyOf Try.f81))))))))::ks) .normal (UV d e g j m a b)
 | 0,a,b,o,h,q=>by rw [GQ] at h; cases h
 | k+1,a,b,o,h,q=>by
  rw [GQ] at h
  by_cases i:g≤a
  ·rw [if_pos i] at h
   by_cases p:0≤a∧(a).toNat<b.length
   ·rw [if_pos p] at h
    obtain ⟨u,a1,h⟩:=bind_some h
    by_cases v:0≤d∧(d).toNat<b.length
    ·rw [if_pos v] at h
     obtain ⟨w,a2,h⟩:=bind_some h
     obtain ⟨a0,a3,h⟩:=bind_some h
     by_cases x:a0<0
     ·rw [if_pos x] at h
      cases h
      exact pkk_sound TTok mix hF 8 (hs:=[.t true,.c,.c,.c,.c,.y (Gb u),.c,.c,.c,.c,.y (Gb w),.c,.r ((eI .i64) a0),.c,.c,.t false]) (ts:=[]) (s:=[0,1]) (l:=[0,1,4,12,13]) (by kernel_rfl) (by kernel_rfl) (.cons (dt i) (.cons (idx_ob (f:=Gb) p) (.cons (get_ob (f:=Gb) a1) (.cons (idx_ob (f:=Gb) v) (.cons (get_ob (f:=Gb) a2) (.cons (z u w _ a3) (.cons (bnf (dt x)) .nil))))))) q
     ·rw [if_neg x] at h
      exact pkk_sound TTok mix hF 9 (hs:=[.t true,.c,.c,.c,.c,.y (Gb u),.c,.c,.c,.c,.y (Gb w),.c,.r ((eI .i64) a0),.c,.c,.t true]) (ts:=[]) (s:=[0,1]) (l:=[0,1,4,12,13]) (by kernel_rfl) (by kernel_rfl) (.cons (dt i) (.cons (idx_ob (f:=Gb) p) (.cons (get_ob (f:=Gb) a1) (.cons (idx_ob (f:=Gb) v) (.cons (get_ob (f:=Gb) a2) (.cons (z u w _ a3) (.cons (bnt (df x)) .nil))))))) (Yu hF ks n d e g j m z k (wi .i64 (a-1)) b _ h q)
    ·rw [if_neg v] at h; cases h
   ·rw [if_neg p] at h; cases h
  ·rw [if_neg i] at h
   cases h
   exact pkk_sound TTok mix hF 8 (hs:=[.t false,.c,.c,.c,.c,.c,.c,.c,.c,.c,.c,.c,.c]) (ts:=[]) (s:=[0,1]) (l:=[0,1,4,12,13]) (by kernel_rfl) (by kernel_rfl) (.cons (df i) .nil) q
inductive Kd where
 | x0 (a:Int) (b:(List Ga))
def UW:Kd→Ex
 | .x0 _ _=>.exit 6
def UX (a:Int) (h:(Ga→Ga→Option (Int))) (b:Int) (c:FuncId) (e:(List PV)):Kd→PS
 | .x0 f g=>⟨(.srf 1::di a::dd::dd::.d (.clo c e)::dd::dd::dd::dd::dd::dd::dd::di f::di b::(dds 164 [])),[.gh 0 (.srf 1),.row 86 3 (g.map Gb)]⟩
def UY (a:Int) (h:(Ga→Ga→Option (Int))) (b:Int) (c:FuncId) (e:(List PV)) (f:Int) (g:(List Ga)):PS:=⟨(.srf 1::di a::dd::dd::.d (.clo c e)::dd::dd::dd::dd::dd::dd::dd::di f::di b::(dds 164 [])),[.gh 0 (.srf 1),.row 86 3 (g.map Gb)]⟩
def GR (n:Nat) (c:Int) (d:(Ga→Ga→Option (Int))) (e:Int):Nat→Int→(List Ga)→Option Kd
 | 0,_,_=>none
 | k+1,a,b =>
  if a≤e then
   if 0≤a∧(a).toNat<b.length then
    (b[(a).toNat]?).bind fun (f:Ga) =>
    if 0≤c∧(c).toNat<b.length then
     (b[(c).toNat]?).bind fun (g:Ga) =>
     (d f g).bind fun (h:(Int)) =>
     if h<0 then
      GR n c d e k (wi .i64 (a+1)) b
     else
      some (.x0 a b)
    else none
   else none
  else
   some (.x0 a b)
theorem Yv {Fi:Ex→PS→Prop} (hF:KC 178 Fi) (ks:List Fr) (n:Nat) (d:Int) (e:(Ga→Ga→Option (Int))) (g:Int) (j:FuncId) (m:(List PV)) (z:∀ (x0:Ga) (x1:Ga) (r:Int),e x0 x1=some r→Ret Try.prog j ([Gb x0,Gb x1]++m) ((eI .i64) r)):∀ (k:Nat) (a:Int) (b:(List Ga)) (o:Kd),GR n d e g k a b=some o→RunE Try.prog 178 Fi ks (UW o) (UX d e g j m o)→RunE Try.prog 178 Fi (.l k (cP (cB (cL (cB (cP (cB (cL (cR (cR (cR (cR (cR (cR (cR (cR (cR (bodyOf Try.f81)))))))))))))))))::ks) .normal (UY d e g j m a b)
 | 0,a,b,o,h,q=>by rw [GR] at h; cases h
 | k+1,a,b,o,h,q=>by
  rw [GR] at h
  by_cases i:a≤g
  ·rw [if_pos i] at h
   by_cases p:0≤a∧(a).toNat<b.length
   ·rw [if_pos p] at h
    obtain ⟨u,a1,h⟩:=bind_some h
    by_cases v:0≤d∧(d).toNat<b.length
    ·rw [if_pos v] at h
     obtain ⟨w,a2,h⟩:=bind_some h
     obtain ⟨a0,a3,h⟩:=bind_some h
     by_cases x:a0<0
     ·rw [if_pos x] at h
      exact pkk_sound TTok mix hF 9 (hs:=[.t true,.c,.c,.c,.c,.y (Gb u),.c,.c,.c,.c,.y (Gb w),.c,.r ((eI .i64) a0),.c,.t true]) (ts:=[]) (s:=[0,1]) (l:=[0,1,4,12,13]) (by kernel_rfl) (by kernel_rfl) (.cons (dt i) (.cons (idx_ob (f:=Gb) p) (.cons (get_ob (f:=Gb) a1) (.cons (idx_ob (f:=Gb) v) (.cons (get_ob (f:=Gb) a2) (.cons (z u w _ a3) (.cons (dt x) .nil))))))) (Yv hF ks n d e g j m z k (wi .i64 (a+1)) b _ h q)
     ·rw [if_neg x] at h
      cases h
      exact pkk_sound TTok mix hF 8 (hs:=[.t true,.c,.c,.c,.c,.y (Gb u),.c,.c,.c,.c,.y (Gb w),.c,.r ((eI .i64) a0),.c,.t false]) (ts:=[]) (s:=[0,1]) (l:=[0,1,4,12,13]) (by kernel_rfl) (by kernel_rfl) (.cons (dt i) (.cons (idx_ob (f:=Gb) p) (.cons (get_ob (f:=Gb) a1) (.cons (idx_ob (f:=Gb) v) (.cons (get_ob (f:=Gb) a2) (.cons (z u w _ a3) (.cons (df x) .nil))))))) q
    ·rw [if_neg v] at h; cases h
   ·rw [if_neg p] at h; cases h
  ·rw [if_neg i] at h
   cases h
   exact pkk_sound TTok mix hF 8 (hs:=[.t false,.c,.c,.c,.c,.c,.c,.c,.c,.c,.c,.c]) (ts:=[]) (s:=[0,1]) (l:=[0,1,4,12,13]) (by kernel_rfl) (by kernel_rfl) (.cons (df i) .nil) q
inductive Ke where
 | x0 (a:Int) (b:(List Ga))
def UZ:Ke→Ex
 | .x0 _ _=>.exit 8
def U0 (a:Int) (h:(Ga→Ga→Option (Int))) (b:Int) (c:FuncId) (e:(List PV)):Ke→PS
 | .x0 f g=>⟨(.srf 1::di a::dd::dd::.d (.clo c e)::dd::dd::dd::dd::dd::dd::dd::di b::di f::(dds 164 [])),[.gh 0 (.srf 1),.row 86 3 (g.map Gb)]⟩
def U1 (a:Int) (h:(Ga→Ga→Option (Int))) (b:Int) (c:FuncId) (e:(List PV)) (f:Int) (g:(List Ga)):PS:=⟨(.srf 1::di a::dd::dd::.d (.clo c e)::dd::dd::dd::dd::dd::dd::dd::di b::di f::(dds 164 [])),[.gh 0 (.srf 1),.row 86 3 (g.map Gb)]⟩
def GS (n:Nat) (c:Int) (d:(Ga→Ga→Option (Int))) (e:Int):Nat→Int→(List Ga)→Option Ke
 | 0,_,_=>none
 | k+1,a,b =>
  if e≤a then
   if 0≤a∧(a).toNat<b.length then
    (b[(a).toNat]?).bind fun (f:Ga) =>
    if 0≤c∧(c).toNat<b.length then
     (b[(c).toNat]?).bind fun (g:Ga) =>
     (d f g).bind fun (h:(Int)) =>
     if h<0 then
      some (.x0 a b)
     else
      GS n c d e k (wi .i64 (a-1)) b
    else none
   else none
  else
   some (.x0 a b)
theorem Yw {Fi:Ex→PS→Prop} (hF:KC 178 Fi) (ks:List Fr) (n:Nat) (d:Int) (e:(Ga→Ga→Option (Int))) (g:Int) (j:FuncId) (m:(List PV)) (z:∀ (x0:Ga) (x1:Ga) (r:Int),e x0 x1=some r→Ret Try.prog j ([Gb x0,Gb x1]++m) ((eI .i64) r)):∀ (k:Nat) (a:Int) (b:(List Ga)) (o:Ke),GS n d e g k a b=some o→RunE Try.prog 178 Fi ks (UZ o) (U0 d e g j m o)→RunE Try.prog 178 Fi (.l k (cP (cB (cL (cR (cB (cP (cB (cL (cR (cR (cR (cR (cR (cR (cR (cR (cR (bodyOf Try.f81))))))))))))))))))::ks) .normal (U1 d e g j m a b)
 | 0,a,b,o,h,q=>by rw [GS] at h; cases h
 | k+1,a,b,o,h,q=>by
  rw [GS] at h
  by_cases i:g≤a
  ·rw [if_pos i] at h
   by_cases p:0≤a∧(a).toNat<b.length
   ·rw [if_pos p] at h
    obtain ⟨u,a1,h⟩:=bind_some h
    by_cases v:0≤d∧(d).toNat<b.length
    ·rw [if_pos v] at h
     obtain ⟨w,a2,h⟩:=bind_some h
     obtain ⟨a0,a3,h⟩:=bind_some h
     by_cases x:a0<0
     ·rw [if_pos x] at h
      cases h
      exact pkk_sound TTok mix hF 8 (hs:=[.t true,.c,.c,.c,.c,.y (Gb u),.c,.c,.c,.c,.y (Gb w),.c,.r ((eI .i64) a0),.c,.c,.t false]) (ts:=[]) (s:=[0,1]) (l:=[0,1,4,12,13]) (by kernel_rfl) (by kernel_rfl) (.cons (dt i) (.cons (idx_ob (f:=Gb) p) (.cons (get_ob (f:=Gb) a1) (.cons (idx_ob (f:=Gb) v) (.cons (get_ob (f:=Gb) a2) (.cons (z u w _ a3) (.cons (bnf (dt x)) .nil))))))) q
     ·rw [if_neg x] at h
      exact pkk_sound TTok mix hF 9 (hs:=[.t true,.c,.c,.c,.c,.y (Gb u),.c,.c,.c,.c,.y (Gb w),.c,.r ((eI .i64) a0),.c,.c,.t true]) (ts:=[]) (s:=[0,1]) (l:=[0,1,4,12,13]) (by kernel_rfl) (by kernel_rfl) (.cons (dt i) (.cons (idx_ob (f:=Gb) p) (.cons (get_ob (f:=Gb) a1) (.cons (idx_ob (f:=Gb) v) (.cons (get_ob (f:=Gb) a2) (.cons (z u w _ a3) (.cons (bnt (df x)) .nil))))))) (Yw hF ks n d e g j m z k (wi .i64 (a-1)) b _ h q)
    ·rw [if_neg v] at h; cases h
   ·rw [if_neg p] at h; cases h
  ·rw [if_neg i] at h
   cases h
   exact pkk_sound TTok mix hF 8 (hs:=[.t false,.c,.c,.c,.c,.c,.c,.c,.c,.c,.c,.c,.c]) (ts:=[]) (s:=[0,1]) (l:=[0,1,4,12,13]) (by kernel_rfl) (by kernel_rfl) (.cons (df i) .nil) q
inductive Kf where
 | x0 (a:Int) (b:(List Ga))
def U2:Kf→Ex
 | .x0 _ _=>.exit 4
def U3 (a:Int) (e:(Ga→Ga→Option (Int))) (f:FuncId) (g:(List PV)):Kf→PS
 | .x0 b c=>⟨(.srf 1::di a::(dds 11 (di b::(dds 164 [])))),[.gh 0 (.srf 1),.row 86 3 (c.map Gb)]⟩
def U4 (a:Int) (h:(Ga→Ga→Option (Int))) (b:FuncId) (c:(List PV)) (e f:Int) (g:(List Ga)):PS:=⟨(.srf 1::di a::dd::dd::.d (.clo b c)::dd::dd::dd::dd::dd::dd::dd::di e::di f::(dds 164 [])),[.gh 0 (.srf 1),.row 86 3 (g.map Gb)]⟩
def GT (n:Nat) (d:Int) (e:(Ga→Ga→Option (Int))):Nat→Int→Int→(List Ga)→Option Kf
 | 0,_,_,_=>none
 | k+1,h,g,i =>
  (GR n d e g n h i).bind fun j=>match j with
  | .x0 a l =>
   (GS n d e a n g l).bind fun m=>match m with
   | .x0 b c =>
    if a > b then
     some (.x0 b c)
    else
     if 0≤b∧(b).toNat<c.length then
      (c[(b).toNat]?).bind fun (f:Ga) =>
      if 0≤a∧(a).toNat<c.length then
       (c[(a).toNat]?).bind fun (o:Ga) =>
       if 0≤a∧(a).toNat<c.length then
        (c[(a).toNat]?).bind fun (p:Ga) =>
        if 0≤b∧(b).toNat<(c.set (a).toNat f).length then
         ((c.set (a).toNat f)[(b).toNat]?).bind fun (q:Ga) =>
         GT n d e k (wi .i64 (a+1)) (wi .i64 (b-1)) ((c.set (a).toNat f).set (b).toNat o)
        else none
       else none
      else none
     else none
theorem Yx {Fi:Ex→PS→Prop} (hF:KC 178 Fi) (ks:List Fr) (n:Nat) (j:Int) (i:(Ga→Ga→Option (Int))) (m:FuncId) (u:(List PV)) (a3:∀ (x0:Ga) (x1:Ga) (r:Int),i x0 x1=some r→Ret Try.prog m ([Gb x0,Gb x1]++u) ((eI .i64) r)):∀ (k:Nat) (a0 x:Int) (a1:(List Ga)) (o:Kf),GT n j i k a0 x a1=some o→RunE Try.prog 178 Fi ks (U2 o) (U3 j i m u o)→RunE Try.prog 178 Fi (.l k (cP (cB (cL (cR (cR (cR (cR (cR (cR (cR (cR (cR (bodyOf Try.f81)))))))))))))::ks) .normal (U4 j i m u a0 x a1)
 | 0,a0,x,a1,o,h,q=>by rw [GT] at h; cases h
 | k+1,a0,x,a1,o,h,q=>by
  rw [GT] at h
  obtain ⟨a8,a9,h⟩:=bind_some h
  refine pkk_sound TTok mix hF 5 (hs:=[.n n]) (ts:=[]) (s:=[0,1]) (l:=[0,1,4,12,13]) (by kernel_rfl) (by kernel_rfl) .nil (Yv hF (.b 6::.s (cR (cB (cP (cB (cL (cR (cR (cR (cR (cR (cR (cR (cR (cR (bodyOf Try.f81)))))))))))))))::.b 5::.l k (cP (cB (cL (cR (cR (cR (cR (cR (cR (cR (cR (cR (bodyOf Try.f81)))))))))))))::ks) n j i x m u a3 n a0 a1 _ a9 ?_)
  cases a8 with
  | x0 a b0 =>
   try dsimp only at h
   obtain ⟨b1,b2,h⟩:=bind_some h
   refine pkk_sound TTok mix hF 4 (hs:=[.n n]) (ts:=[]) (s:=[0,1]) (l:=[0,1,4,12,13]) (by kernel_rfl) (by kernel_rfl) .nil (Yw hF (.b 8::.s (cR (cR (cB (cP (cB (cL (cR (cR (cR (cR (cR (cR (cR (cR (cR (bodyOf Try.f81))))))))))))))))::.b 5::.l k (cP (cB (cL (cR (cR (cR (cR (cR (cR (cR (cR (cR (bodyOf Try.f81)))))))))))))::ks) n j i a m u a3 n x b0 _ b2 ?_)
   cases b1 with
   | x0 e g =>
    try dsimp only at h
    by_cases a2:a > e
    ·rw [if_pos a2] at h
     cases h
     exact pkk_sound TTok mix hF 9 (hs:=[.t true]) (ts:=[]) (s:=[0,1]) (l:=[0,1,13]) (by kernel_rfl) (by kernel_rfl) (.cons (dt a2) .nil) q
    ·rw [if_neg a2] at h
     by_cases a4:0≤e∧(e).toNat<g.length
     ·rw [if_pos a4] at h
      obtain ⟨c,b3,h⟩:=bind_some h
      by_cases a5:0≤a∧(a).toNat<g.length
      ·rw [if_pos a5] at h
       obtain ⟨d,b4,h⟩:=bind_some h
       by_cases a6:0≤a∧(a).toNat<g.length
       ·rw [if_pos a6] at h
        obtain ⟨b5,b6,h⟩:=bind_some h
        by_cases a7:0≤e∧(e).toNat<(g.set (a).toNat c).length
        ·rw [if_pos a7] at h
         obtain ⟨b7,b8,h⟩:=bind_some h
         exact pkk_sound TTok mix hF 12 (hs:=[.t false,.y (Gb c),.y (Gb d),.w ((g.set (a).toNat c).map Gb),.y (Gb b5),.w (((g.set (a).toNat c).set (e).toNat d).map Gb),.y (Gb b7)]) (ts:=[]) (s:=[0,1]) (l:=[0,1,4,12,13]) (by kernel_rfl) (by kernel_rfl) (.cons (df a2) (.cons (idx_ob (f:=Gb) a4) (.cons (get_ob (f:=Gb) b3) (.cons (idx_ob (f:=Gb) a5) (.cons (get_ob (f:=Gb) b4) (.cons (idx_ob (f:=Gb) a6) (.cons (get_ob (f:=Gb) b6) (.cons (Eq.refl (pcells (.agg [.v (.int .i64 c.fSector),.sl (c.fData.map (eI .u8)),.v (.bool c.fBarrier)]))) (.cons (set_ob (f:=Gb) (l:=g) (k:=(a).toNat) (z:=c) (p:=.agg [.v (.int .i64 c.fSector),.sl (c.fData.map (eI .u8)),.v (.bool c.fBarrier)]) rfl) (.cons (idx_ob (f:=Gb) a7) (.cons (get_ob (f:=Gb) b8) (.cons (Eq.refl (pcells (.agg [.v (.int .i64 d.fSector),.sl (d.fData.map (eI .u8)),.v (.bool d.fBarrier)]))) (.cons (set_ob (f:=Gb) (l:=(g.set (a).toNat c)) (k:=(e).toNat) (z:=d) (p:=.agg [.v (.int .i64 d.fSector),.sl (d.fData.map (eI .u8)),.v (.bool d.fBarrier)]) rfl) .nil))))))))))))) (Yx hF ks n j i m u a3 k (wi .i64 (a+1)) (wi .i64 (e-1)) ((g.set (a).toNat c).set (e).toNat d) _ h q)
        ·rw [if_neg a7] at h; cases h
       ·rw [if_neg a6] at h; cases h
      ·rw [if_neg a5] at h; cases h
     ·rw [if_neg a4] at h; cases h
/- slices.partitionCmpFunc[ringhall/lift.Req] -/
def GN (n:Nat) (f:(List Ga)) (a o h:Int) (i:(Ga→Ga→Option (Int))):Option (Int×Bool×(List Ga)) :=
 if 0≤h∧(h).toNat<f.length then
  (f[(h).toNat]?).bind fun (j:Ga) =>
  if 0≤a∧(a).toNat<f.length then
   (f[(a).toNat]?).bind fun (p:Ga) =>
   if 0≤a∧(a).toNat<f.length then
    (f[(a).toNat]?).bind fun (x:Ga) =>
    if 0≤h∧(h).toNat<(f.set (a).toNat j).length then
     ((f.set (a).toNat j)[(h).toNat]?).bind fun (y:Ga) =>
     (GP n a i o n (wi .i64 (a+1)) ((f.set (a).toNat j).set (h).toNat p)).bind fun q=>match q with
     | .x0 d r =>
      (GQ n a i d n (wi .i64 (o-1)) r).bind fun s=>match s with
      | .x0 b c =>
       if d > b then
        if 0≤a∧(a).toNat<c.length then
         (c[(a).toNat]?).bind fun (k:Ga) =>
         if 0≤b∧(b).toNat<c.length then
          (c[(b).toNat]?).bind fun (t:Ga) =>
          if 0≤b∧(b).toNat<c.length then
           (c[(b).toNat]?).bind fun (z:Ga) =>
           if 0≤a∧(a).toNat<(c.set (b).toNat k).length then
            ((c.set (b).toNat k)[(a).toNat]?).bind fun (a0:Ga) =>
            some (b,true,((c.set (b).toNat k).set (a).toNat t))
           else none
          else none
         else none
        else none
       else
        if 0≤b∧(b).toNat<c.length then
         (c[(b).toNat]?).bind fun (l:Ga) =>
         if 0≤d∧(d).toNat<c.length then
          (c[(d).toNat]?).bind fun (u:Ga) =>
          if 0≤d∧(d).toNat<c.length then
           (c[(d).toNat]?).bind fun (a1:Ga) =>
           if 0≤b∧(b).toNat<(c.set (d).toNat l).length then
            ((c.set (d).toNat l)[(b).toNat]?).bind fun (a2:Ga) =>
            (GT n a i n (wi .i64 (d+1)) (wi .i64 (b-1)) ((c.set (d).toNat l).set (b).toNat u)).bind fun v=>match v with
            | .x0 e g =>
             if 0≤a∧(a).toNat<g.length then
              (g[(a).toNat]?).bind fun (m:Ga) =>
              if 0≤e∧(e).toNat<g.length then
               (g[(e).toNat]?).bind fun (w:Ga) =>
               if 0≤e∧(e).toNat<g.length then
                (g[(e).toNat]?).bind fun (a3:Ga) =>
                if 0≤a∧(a).toNat<(g.set (e).toNat m).length then
                 ((g.set (e).toNat m)[(a).toNat]?).bind fun (a4:Ga) =>
                 some (e,false,((g.set (e).toNat m).set (a).toNat w))
                else none
               else none
              else none
             else none
           else none
          else none
         else none
        else none
    else none
   else none
  else none
 else none
theorem G6 (n:Nat) (o:(List Ga)) (a a9 a1:Int) (a6:(Ga→Ga→Option (Int))) (a7:FuncId) (a8:List PV) (b1:∀ (x0:Ga) (x1:Ga) (r:Int),a6 x0 x1=some r→Ret Try.prog a7 ([Gb x0,Gb x1]++a8) ((eI .i64) r)) (r:Int×Bool×(List Ga)) (h:GN n o a a9 a1 a6=some r):RetH Try.prog 81 [.srf 0,.d ((eI .i64) a),.d ((eI .i64) a9),.d ((eI .i64) a1),.d ((.clo a7 a8))] [.row 86 3 (o.map Gb)] (.tup [.d ((eI .i64) r.1),.d (eB r.2.1)]) [.row 86 3 (r.2.2.map Gb)]:=by
 refine retH_run (n:=178) (fn:=Try.f81) (c:=bodyOf Try.f81) (by kernel_rfl) (by kernel_rfl) (by kernel_rfl) (by kernel_rfl) ?_
 have hF:KC 178 (FinH Try.prog Try.f81 [.row 86 3 (o.map Gb)] (.tup [.d ((eI .i64) r.1),.d (eB r.2.1)]) [.row 86 3 (r.2.2.map Gb)]):=FinH.kc' (by kernel_rfl)
 unfold GN at h
 by_cases b2:0≤a1∧(a1).toNat<o.length
 ·rw [if_pos b2] at h
  obtain ⟨i,c8,h⟩:=bind_some h
  by_cases b3:0≤a∧(a).toNat<o.length
  ·rw [if_pos b3] at h
   obtain ⟨x,c9,h⟩:=bind_some h
   by_cases b4:0≤a∧(a).toNat<o.length
   ·rw [if_pos b4] at h
    obtain ⟨d0,d1,h⟩:=bind_some h
    by_cases b5:0≤a1∧(a1).toNat<(o.set (a).toNat i).length
    ·rw [if_pos b5] at h
     obtain ⟨d2,d3,h⟩:=bind_some h
     obtain ⟨d4,d5,h⟩:=bind_some h
     refine pkk_sound TTok mix hF 9 (hs:=[.y (Gb i),.y (Gb x),.w ((o.set (a).toNat i).map Gb),.y (Gb d0),.w (((o.set (a).toNat i).set (a1).toNat x).map Gb),.y (Gb d2),.n n]) (ts:=[]) (s:=[1,0]) (l:=[0,1,4,12,13]) (by kernel_rfl) (by kernel_rfl) (.cons (idx_ob (f:=Gb) b2) (.cons (get_ob (f:=Gb) c8) (.cons (idx_ob (f:=Gb) b3) (.cons (get_ob (f:=Gb) c9) (.cons (idx_ob (f:=Gb) b4) (.cons (get_ob (f:=Gb) d1) (.cons (Eq.refl (pcells (.agg [.v (.int .i64 i.fSector),.sl (i.fData.map (eI .u8)),.v (.bool i.fBarrier)]))) (.cons (set_ob (f:=Gb) (l:=o) (k:=(a).toNat) (z:=i) (p:=.agg [.v (.int .i64 i.fSector),.sl (i.fData.map (eI .u8)),.v (.bool i.fBarrier)]) rfl) (.cons (idx_ob (f:=Gb) b5) (.cons (get_ob (f:=Gb) d3) (.cons (Eq.refl (pcells (.agg [.v (.int .i64 x.fSector),.sl (x.fData.map (eI .u8)),.v (.bool x.fBarrier)]))) (.cons (set_ob (f:=Gb) (l:=(o.set (a).toNat i)) (k:=(a1).toNat) (z:=x) (p:=.agg [.v (.int .i64 x.fSector),.sl (x.fData.map (eI .u8)),.v (.bool x.fBarrier)]) rfl) .nil)))))))))))) (Yt hF (.b 0::.s (cR (cR (cR (cR (bodyOf Try.f81)))))::[]) n a a6 a9 a7 a8 b1 n (wi .i64 (a+1)) ((o.set (a).toNat i).set (a1).toNat x) _ d5 ?_)
     cases d4 with
     | x0 j d6 =>
      try dsimp only at h
      obtain ⟨d7,d8,h⟩:=bind_some h
      refine pkk_sound TTok mix hF 4 (hs:=[.n n]) (ts:=[]) (s:=[0,1]) (l:=[0,1,4,12,13]) (by kernel_rfl) (by kernel_rfl) .nil (Yu hF (.b 2::.s (cR (cR (cR (cR (cR (bodyOf Try.f81))))))::[]) n a a6 j a7 a8 b1 n (wi .i64 (a9-1)) d6 _ d8 ?_)
      cases d7 with
      | x0 e g =>
       try dsimp only at h
       by_cases b0:j > e
       ·rw [if_pos b0] at h
        by_cases b6:0≤a∧(a).toNat<g.length
        ·rw [if_pos b6] at h
         obtain ⟨q,d9,h⟩:=bind_some h
         by_cases b7:0≤e∧(e).toNat<g.length
         ·rw [if_pos b7] at h
          obtain ⟨a2,e0,h⟩:=bind_some h
          by_cases b8:0≤e∧(e).toNat<g.length
          ·rw [if_pos b8] at h
           obtain ⟨e1,e2,h⟩:=bind_some h
           by_cases b9:0≤a∧(a).toNat<(g.set (e).toNat q).length
           ·rw [if_pos b9] at h
            obtain ⟨e3,e4,h⟩:=bind_some h
            obtain rfl:=Option.some.inj h
            exact pendH_sound TTok mix 11 (hs:=[.t true,.y (Gb q),.y (Gb a2),.w ((g.set (e).toNat q).map Gb),.y (Gb e1),.w (((g.set (e).toNat q).set (a).toNat a2).map Gb),.y (Gb e3)]) [1] (by kernel_rfl) (by kernel_rfl) (by kernel_rfl) (.cons (dt b0) (.cons (idx_ob (f:=Gb) b6) (.cons (get_ob (f:=Gb) d9) (.cons (idx_ob (f:=Gb) b7) (.cons (get_ob (f:=Gb) e0) (.cons (idx_ob (f:=Gb) b8) (.cons (get_ob (f:=Gb) e2) (.cons (Eq.refl (pcells (.agg [.v (.int .i64 q.fSector),.sl (q.fData.map (eI .u8)),.v (.bool q.fBarrier)]))) (.cons (set_ob (f:=Gb) (l:=g) (k:=(e).toNat) (z:=q) (p:=.agg [.v (.int .i64 q.fSector),.sl (q.fData.map (eI .u8)),.v (.bool q.fBarrier)]) rfl) (.cons (idx_ob (f:=Gb) b9) (.cons (get_ob (f:=Gb) e4) (.cons (Eq.refl (pcells (.agg [.v (.int .i64 a2.fSector),.sl (a2.fData.map (eI .u8)),.v (.bool a2.fBarrier)]))) (.cons (set_ob (f:=Gb) (l:=(g.set (e).toNat q)) (k:=(a).toNat) (z:=a2) (p:=.agg [.v (.int .i64 a2.fSector),.sl (a2.fData.map (eI .u8)),.v (.bool a2.fBarrier)]) rfl) .nil)))))))))))))
           ·rw [if_neg b9] at h; cases h
          ·rw [if_neg b8] at h; cases h
         ·rw [if_neg b7] at h; cases h
        ·rw [if_neg b6] at h; cases h
       ·rw [if_neg b0] at h
        by_cases c0:0≤e∧(e).toNat<g.length
        ·rw [if_pos c0] at h
         obtain ⟨m,e5,h⟩:=bind_some h
         by_cases c1:0≤j∧(j).toNat<g.length
         ·rw [if_pos c1] at h
          obtain ⟨a0,e6,h⟩:=bind_some h
          by_cases c2:0≤j∧(j).toNat<g.length
          ·rw [if_pos c2] at h
           obtain ⟨e7,e8,h⟩:=bind_some h
           by_cases c3:0≤e∧(e).toNat<(g.set (j).toNat m).length
           ·rw [if_pos c3] at h
            obtain ⟨e9,f0,h⟩:=bind_some h
            obtain ⟨f1,f2,h⟩:=bind_some h
            refine pkk_sound TTok mix hF 15 (hs:=[.t false,.y (Gb m),.y (Gb a0),.w ((g.set (j).toNat m).map Gb),.y (Gb e7),.w (((g.set (j).toNat m).set (e).toNat a0).map Gb),.y (Gb e9),.n n]) (ts:=[]) (s:=[0,1]) (l:=[0,1,4,12,13]) (by kernel_rfl) (by kernel_rfl) (.cons (df b0) (.cons (idx_ob (f:=Gb) c0) (.cons (get_ob (f:=Gb) e5) (.cons (idx_ob (f:=Gb) c1) (.cons (get_ob (f:=Gb) e6) (.cons (idx_ob (f:=Gb) c2) (.cons (get_ob (f:=Gb) e8) (.cons (Eq.refl (pcells (.agg [.v (.int .i64 m.fSector),.sl (m.fData.map (eI .u8)),.v (.bool m.fBarrier)]))) (.cons (set_ob (f:=Gb) (l:=g) (k:=(j).toNat) (z:=m) (p:=.agg [.v (.int .i64 m.fSector),.sl (m.fData.map (eI .u8)),.v (.bool m.fBarrier)]) rfl) (.cons (idx_ob (f:=Gb) c3) (.cons (get_ob (f:=Gb) f0) (.cons (Eq.refl (pcells (.agg [.v (.int .i64 a0.fSector),.sl (a0.fData.map (eI .u8)),.v (.bool a0.fBarrier)]))) (.cons (set_ob (f:=Gb) (l:=(g.set (j).toNat m)) (k:=(e).toNat) (z:=a0) (p:=.agg [.v (.int .i64 a0.fSector),.sl (a0.fData.map (eI .u8)),.v (.bool a0.fBarrier)]) rfl) .nil))))))))))))) (Yx hF (.b 4::.s (cR (cR (cR (cR (cR (cR (cR (cR (cR (cR (bodyOf Try.f81)))))))))))::[]) n a a6 a7 a8 b1 n (wi .i64 (j+1)) (wi .i64 (e-1)) ((g.set (j).toNat m).set (e).toNat a0) _ f2 ?_)
            cases f1 with
            | x0 a3 a5 =>
             try dsimp only at h
             by_cases c4:0≤a∧(a).toNat<a5.length
             ·rw [if_pos c4] at h
              obtain ⟨u,f3,h⟩:=bind_some h
              by_cases c5:0≤a3∧(a3).toNat<a5.length
              ·rw [if_pos c5] at h
               obtain ⟨a4,f4,h⟩:=bind_some h
               by_cases c6:0≤a3∧(a3).toNat<a5.length
               ·rw [if_pos c6] at h
                obtain ⟨f5,f6,h⟩:=bind_some h
                by_cases c7:0≤a∧(a).toNat<(a5.set (a3).toNat u).length
                ·rw [if_pos c7] at h
                 obtain ⟨f7,f8,h⟩:=bind_some h
                 obtain rfl:=Option.some.inj h
                 exact pendH_sound TTok mix 6 (hs:=[.y (Gb u),.y (Gb a4),.w ((a5.set (a3).toNat u).map Gb),.y (Gb f5),.w (((a5.set (a3).toNat u).set (a).toNat a4).map Gb),.y (Gb f7)]) [1] (by kernel_rfl) (by kernel_rfl) (by kernel_rfl) (.cons (idx_ob (f:=Gb) c4) (.cons (get_ob (f:=Gb) f3) (.cons (idx_ob (f:=Gb) c5) (.cons (get_ob (f:=Gb) f4) (.cons (idx_ob (f:=Gb) c6) (.cons (get_ob (f:=Gb) f6) (.cons (Eq.refl (pcells (.agg [.v (.int .i64 u.fSector),.sl (u.fData.map (eI .u8)),.v (.bool u.fBarrier)]))) (.cons (set_ob (f:=Gb) (l:=a5) (k:=(a3).toNat) (z:=u) (p:=.agg [.v (.int .i64 u.fSector),.sl (u.fData.map (eI .u8)),.v (.bool u.fBarrier)]) rfl) (.cons (idx_ob (f:=Gb) c7) (.cons (get_ob (f:=Gb) f8) (.cons (Eq.refl (pcells (.agg [.v (.int .i64 a4.fSector),.sl (a4.fData.map (eI .u8)),.v (.bool a4.fBarrier)]))) (.cons (set_ob (f:=Gb) (l:=(a5.set (a3).toNat u)) (k:=(a).toNat) (z:=a4) (p:=.agg [.v (.int .i64 a4.fSector),.sl (a4.fData.map (eI .u8)),.v (.bool a4.fBarrier)]) rfl) .nil))))))))))))
                ·rw [if_neg c7] at h; cases h
               ·rw [if_neg c6] at h; cases h
              ·rw [if_neg c5] at h; cases h
             ·rw [if_neg c4] at h; cases h
           ·rw [if_neg c3] at h; cases h
          ·rw [if_neg c2] at h; cases h
         ·rw [if_neg c1] at h; cases h
        ·rw [if_neg c0] at h; cases h
    ·rw [if_neg b5] at h; cases h
   ·rw [if_neg b4] at h; cases h
  ·rw [if_neg b3] at h; cases h
 ·rw [if_neg b2] at h; cases h
inductive Kr where
 | x0 (a:Int) (b:(List Ga))
def Vq:Kr→Ex
 | .x0 _ _=>.normal
def Vr (a b j:Int) (k:(Ga→Ga→Option (Int))) (c e:Bool) (l:(List Ga)) (f:FuncId) (g:(List PV)):Kr→PS
 | .x0 h i=>⟨(.srf 1::di a::di b::di h::.d (.clo f g)::dd::dd::dd::dd::dd::.d (.v (.bool c))::.d (.v (.bool e))::di (wi .i64 (b-a))::(dds 135 [])),[.gh 0 (.srf 1),.row 86 3 (i.map Gb)]⟩
def Vs (a b e:Int) (j:(Ga→Ga→Option (Int))) (c f:Bool) (g:(List Ga)) (h:FuncId) (i:(List PV))  : PS:=⟨(.srf 1::di a::di b::di e::.d (.clo h i)::dd::dd::dd::dd::dd::.d (.v (.bool c))::.d (.v (.bool f))::di (wi .i64 (b-a))::(dds 26 (.d (.v (.bool (!c)))::(dds 108 [])))),[.gh 0 (.srf 1),.row 86 3 (g.map Gb)]⟩
def SS (n:Nat) (c d a:Int) (e:(Ga→Ga→Option (Int))) (f h:Bool) (b:(List Ga)):Option Kr :=
 if f=true then
  some (.x0 a b)
 else
  (Sx n b c d e).bind fun (g:((List Ga))) =>
  some (.x0 (wi .i64 (a-1)) g)
theorem Vt {Fi:Ex→PS→Prop} (hF:KC 148 Fi) (ks:List Fr) (n:Nat) (b c j:Int) (a:(Ga→Ga→Option (Int))) (d k:Bool) (e:(List Ga)) (f:FuncId) (g:(List PV)) (m:∀ (x0:Ga) (x1:Ga) (r:Int),a x0 x1=some r→Ret Try.prog f ([Gb x0,Gb x1]++g) ((eI .i64) r)) (o:Kr) (h:SS n b c j a d k e=some o) (q:RunE Try.prog 148 Fi ks (Vq o) (Vr b c j a d k e f g o)):RunE Try.prog 148 Fi (.s (cR (cL (cR (cR (cR (cB (cP (cB (cR (cR (bodyOf Try.f70)))))))))))::ks) .normal (Vs b c j a d k e f g):=by
 unfold SS at h
 by_cases i:d=true
 ·rw [if_pos i] at h
  cases h
  exact pkk_sound TTok mix hF 2 (hs:=[.t false]) (ts:=[]) (s:=[0,1]) (l:=[0,1,2,3,4,10,11,12]) (by kernel_rfl) (by kernel_rfl) (.cons (bnf i) .nil) q
 ·rw [if_neg i] at h
  obtain ⟨p,u,h⟩:=bind_some h
  cases h
  exact pkk_sound TTok mix hF 4 (hs:=[.t true,.h [1] [] [.row 86 3 (p.map Gb)] (.tup [])]) (ts:=[]) (s:=[0,1]) (l:=[0,1,2,3,4,10,11,12]) (by kernel_rfl) (by kernel_rfl) (.cons (bnt (vf i)) (.cons (Uu n e b c a f g m _ u) .nil)) q
inductive Ks where
 | x0 (a b:Int) (c:(List Ga))
def Vu:Ks→Ex
 | .x0 _ _ _=>.normal
def Vv (a b c:Int) (l:(Ga→Ga→Option (Int))) (e f:Bool) (m:(Int×Int)) (n:(List Ga)) (g:FuncId) (h:(List PV)):Ks→PS
 | .x0 i j k=>⟨(.srf 1::di a::di b::di c::.d (.clo g h)::dd::dd::dd::dd::dd::.d (.v (.bool e))::.d (.v (.bool f))::di (wi .i64 (b-a))::di i::di j::(dds 133 [])),[.gh 0 (.srf 1),.row 86 3 (k.map Gb)]⟩
def Vw (b c e:Int) (k:(Ga→Ga→Option (Int))) (f g:Bool) (a:(Int×Int)) (h:(List Ga)) (i:FuncId) (j:(List PV))  : PS:=⟨(.srf 1::di b::di c::di e::.d (.clo i j)::dd::dd::dd::dd::dd::.d (.v (.bool f))::.d (.v (.bool g))::di (wi .i64 (c-b))::di a.1::di a.2::(dds 41 (.d (.v (.bool (a.2 == 2)))::(dds 91 [])))),[.gh 0 (.srf 1),.row 86 3 (h.map Gb)]⟩
def ST (n:Nat) (b c g:Int) (e:(Ga→Ga→Option (Int))) (h i:Bool) (a:(Int×Int)) (d:(List Ga)):Option Ks :=
 if a.2=2 then
  (SA n d b c e).bind fun (f:((List Ga))) =>
  some (.x0 (wi .i64 ((wi .i64 (c-1))-(wi .i64 (a.1-b)))) 1 f)
 else
  some (.x0 a.1 a.2 d)
theorem Vx {Fi:Ex→PS→Prop} (hF:KC 148 Fi) (ks:List Fr) (n:Nat) (b c j:Int) (a:(Ga→Ga→Option (Int))) (k m:Bool) (d:(Int×Int)) (e:(List Ga)) (f:FuncId) (g:(List PV)) (p:∀ (x0:Ga) (x1:Ga) (r:Int),a x0 x1=some r→Ret Try.prog f ([Gb x0,Gb x1]++g) ((eI .i64) r)) (o:Ks) (h:ST n b c j a k m d e=some o) (q:RunE Try.prog 148 Fi ks (Vu o) (Vv b c j a k m d e f g o)):RunE Try.prog 148 Fi (.s (cR (cL (cR (cR (cR (cR (cR (cB (cP (cB (cR (cR (bodyOf Try.f70)))))))))))))::ks) .normal (Vw b c j a k m d e f g):=by
 unfold ST at h
 by_cases i:d.2=2
 ·rw [if_pos i] at h
  obtain ⟨u,v,h⟩:=bind_some h
  cases h
  exact pkk_sound TTok mix hF 6 (hs:=[.t true,.h [1] [] [.row 86 3 (u.map Gb)] (.tup [])]) (ts:=[]) (s:=[0,1]) (l:=[0,1,2,3,4,10,11,12,13,14]) (by kernel_rfl) (by kernel_rfl) (.cons (bt i) (.cons (UP n e b c a f g p _ v) .nil)) q
 ·rw [if_neg i] at h
  cases h
  exact pkk_sound TTok mix hF 2 (hs:=[.t false]) (ts:=[]) (s:=[0,1]) (l:=[0,1,2,3,4,10,11,12,13,14]) (by kernel_rfl) (by kernel_rfl) (.cons (bf i) .nil) q
inductive Ku where
 | x0 (a:(List Ga))
 | x1 (b:(List Ga))
def Vy:Ku→Ex
 | .x0 _=>.ret
 | .x1 _=>.normal
def Vz (a b c:Int) (l:(Ga→Ga→Option (Int))) (e f:Bool) (g m:Int) (n:(List Ga)) (h:FuncId) (i:(List PV)):Ku→PS
 | .x0 j=>⟨(dds 148 []),[.gh 0 (.srf 1),.row 86 3 (j.map Gb)]⟩
 | .x1 k=>⟨(.srf 1::di a::di b::di c::.d (.clo h i)::dd::dd::dd::dd::dd::.d (.v (.bool e))::.d (.v (.bool f))::di (wi .i64 (b-a))::di g::(dds 134 [])),[.gh 0 (.srf 1),.row 86 3 (k.map Gb)]⟩
def VA (a b c:Int) (l:(Ga→Ga→Option (Int))) (e f:Bool) (g h:Int) (i:(List Ga)) (j:FuncId) (k:(List PV))  : PS:=⟨(.srf 1::di a::di b::di c::.d (.clo j k)::dd::dd::dd::dd::dd::.d (.v (.bool e))::.d (.v (.bool f))::di (wi .i64 (b-a))::di g::(dds 61 (.d (.v (.bool (h == 1)))::(dds 72 [])))),[.gh 0 (.srf 1),.row 86 3 (i.map Gb)]⟩
def SU (n:Nat) (c d g:Int) (e:(Ga→Ga→Option (Int))) (h i:Bool) (j f:Int) (b:(List Ga)):Option Ku :=
 if f=1 then
  (G4 n b c d e).bind fun (a:(Bool×(List Ga))) =>
  if a.1=true then
   some (.x0 a.2)
  else
   some (.x1 a.2)
 else
  some (.x1 b)
theorem VB {Fi:Ex→PS→Prop} (hF:KC 148 Fi) (ks:List Fr) (n:Nat) (b c p:Int) (a:(Ga→Ga→Option (Int))) (u w:Bool) (x k:Int) (e:(List Ga)) (f:FuncId) (g:(List PV)) (y:∀ (x0:Ga) (x1:Ga) (r:Int),a x0 x1=some r→Ret Try.prog f ([Gb x0,Gb x1]++g) ((eI .i64) r)) (o:Ku) (h:SU n b c p a u w x k e=some o) (q:RunE Try.prog 148 Fi ks (Vy o) (Vz b c p a u w x k e f g o)):RunE Try.prog 148 Fi (.s (cR (cL (cR (cR (cR (cR (cR (cR (cB (cP (cB (cR (cR (bodyOf Try.f70))))))))))))))::ks) .normal (VA b c p a u w x k e f g):=by
 unfold SU at h
 by_cases i:k=1
 ·rw [if_pos i] at h
  obtain ⟨j,z,h⟩:=bind_some h
  by_cases m:j.1=true
  ·rw [if_pos m] at h
   cases h
   exact pkk_sound TTok mix hF 5 (hs:=[.t true,.h [1] [] [.row 86 3 (j.2.map Gb)] (.d (.v (.bool j.1))),.t true]) (ts:=[]) (s:=[0,1]) (l:=[]) (by kernel_rfl) (by kernel_rfl) (.cons (bt i) (.cons (Zo n e b c a f g y _ z) (.cons m .nil))) q
  ·rw [if_neg m] at h
   cases h
   exact pkk_sound TTok mix hF 5 (hs:=[.t true,.h [1] [] [.row 86 3 (j.2.map Gb)] (.d (.v (.bool j.1))),.t false]) (ts:=[]) (s:=[0,1]) (l:=[0,1,2,3,4,10,11,12,13]) (by kernel_rfl) (by kernel_rfl) (.cons (bt i) (.cons (Zo n e b c a f g y _ z) (.cons (vf m) .nil))) q
 ·rw [if_neg i] at h
  cases h
  exact pkk_sound TTok mix hF 2 (hs:=[.t false]) (ts:=[]) (s:=[0,1]) (l:=[0,1,2,3,4,10,11,12,13]) (by kernel_rfl) (by kernel_rfl) (.cons (bf i) .nil) q
inductive SB where
 | x0 (a:Bool) (b:(List Ga))
def VC:SB→Ex
 | .x0 _ _=>.normal
def VD (a b c:Int) (l:(Ga→Ga→Option (Int))) (e f:Bool) (g:Int) (m:(List Ga)) (h:FuncId) (i:(List PV)):SB→PS
 | .x0 j k=>⟨(.srf 1::di a::di b::di c::.d (.clo h i)::dd::dd::dd::dd::dd::.d (.v (.bool e))::.d (.v (.bool f))::di (wi .i64 (b-a))::di g::(dds 83 (.d (.v (.bool j))::(dds 50 [])))),[.gh 0 (.srf 1),.row 86 3 (k.map Gb)]⟩
def VE (a b c:Int) (k:(Ga→Ga→Option (Int))) (e f:Bool) (g:Int) (h:(List Ga)) (i:FuncId) (j:(List PV))  : PS:=⟨(.srf 1::di a::di b::di c::.d (.clo i j)::dd::dd::dd::dd::dd::.d (.v (.bool e))::.d (.v (.bool f))::di (wi .i64 (b-a))::di g::(dds 134 [])),[.gh 0 (.srf 1),.row 86 3 (h.map Gb)]⟩
def KA (n:Nat) (b h i:Int) (d:(Ga→Ga→Option (Int))) (j k:Bool) (c:Int) (a:(List Ga)):Option SB :=
 if b > 0 then
  if 0≤(wi .i64 (b-1))∧((wi .i64 (b-1))).toNat<a.length then
   (a[((wi .i64 (b-1))).toNat]?).bind fun (e:Ga) =>
   if 0≤c∧(c).toNat<a.length then
    (a[(c).toNat]?).bind fun (f:Ga) =>
    (d e f).bind fun (g:(Int)) =>
    some (.x0 (!(decide (g<0))) a)
   else none
  else none
 else
  some (.x0 false a)
theorem VF {Fi:Ex→PS→Prop} (hF:KC 148 Fi) (ks:List Fr) (n:Nat) (a i j:Int) (e:(Ga→Ga→Option (Int))) (k m:Bool) (b:Int) (d:(List Ga)) (p:FuncId) (u:(List PV)) (a0:∀ (x0:Ga) (x1:Ga) (r:Int),e x0 x1=some r→Ret Try.prog p ([Gb x0,Gb x1]++u) ((eI .i64) r)) (o:SB) (h:KA n a i j e k m b d=some o) (q:RunE Try.prog 148 Fi ks (VC o) (VD a i j e k m b d p u o)):RunE Try.prog 148 Fi (.s (cL (cL (cR (cR (cR (cR (cR (cR (cR (cB (cP (cB (cR (cR (bodyOf Try.f70)))))))))))))))::ks) .normal (VE a i j e k m b d p u):=by
 unfold KA at h
 by_cases g:a > 0
 ·rw [if_pos g] at h
  by_cases v:0≤(wi .i64 (a-1))∧((wi .i64 (a-1))).toNat<d.length
  ·rw [if_pos v] at h
   obtain ⟨x,a1,h⟩:=bind_some h
   by_cases w:0≤b∧(b).toNat<d.length
   ·rw [if_pos w] at h
    obtain ⟨z,a2,h⟩:=bind_some h
    obtain ⟨a3,a4,h⟩:=bind_some h
    cases h
    exact pkk_sound TTok mix hF 1 (hs:=[.t true,.c,.c,.c,.c,.c,.y (Gb x),.c,.c,.c,.c,.y (Gb z),.c,.r ((eI .i64) a3),.c,.c]) (ts:=[]) (s:=[0,1]) (l:=[0,1,2,3,4,10,11,12,13,97]) (by kernel_rfl) (by kernel_rfl) (.cons (dt g) (.cons (idx_ob (f:=Gb) v) (.cons (get_ob (f:=Gb) a1) (.cons (idx_ob (f:=Gb) w) (.cons (get_ob (f:=Gb) a2) (.cons (a0 x z _ a4) .nil)))))) q
   ·rw [if_neg w] at h; cases h
  ·rw [if_neg v] at h; cases h
 ·rw [if_neg g] at h
  cases h
  exact pkk_sound TTok mix hF 1 (hs:=[.t false,.c,.c,.c,.c,.c,.c,.c,.c,.c,.c,.c,.c]) (ts:=[]) (s:=[0,1]) (l:=[0,1,2,3,4,10,11,12,13,97]) (by kernel_rfl) (by kernel_rfl) (.cons (df g) .nil) q
inductive SC where
 | x0 (a:Bool) (b:(List Ga))
def VG:SC→Ex
 | .x0 _ _=>.normal
def VH (a b c:Int) (l:(Ga→Ga→Option (Int))) (e f:Bool) (g:Int) (m:(List Ga)) (h:FuncId) (i:(List PV)):SC→PS
 | .x0 j k=>⟨(.srf 1::di a::di b::di c::.d (.clo h i)::dd::dd::dd::dd::dd::.d (.v (.bool e))::.d (.v (.bool f))::di (wi .i64 (b-a))::di g::(dds 83 (.d (.v (.bool j))::(dds 50 [])))),[.gh 0 (.srf 1),.row 86 3 (k.map Gb)]⟩
def VI (a b c:Int) (k:(Ga→Ga→Option (Int))) (e f:Bool) (g:Int) (h:(List Ga)) (i:FuncId) (j:(List PV))  : PS:=⟨(.srf 1::di a::di b::di c::.d (.clo i j)::dd::dd::dd::dd::dd::.d (.v (.bool e))::.d (.v (.bool f))::di (wi .i64 (b-a))::di g::(dds 134 [])),[.gh 0 (.srf 1),.row 86 3 (h.map Gb)]⟩
def KB (n:Nat) (b h i:Int) (d:(Ga→Ga→Option (Int))) (j k:Bool) (c:Int) (a:(List Ga)):Option SC :=
 if b > 0 then
  if 0≤(wi .i64 (b-1))∧((wi .i64 (b-1))).toNat<a.length then
   (a[((wi .i64 (b-1))).toNat]?).bind fun (e:Ga) =>
   if 0≤c∧(c).toNat<a.length then
    (a[(c).toNat]?).bind fun (f:Ga) =>
    (d e f).bind fun (g:(Int)) =>
    some (.x0 (!(decide (g<0))) a)
   else none
  else none
 else
  some (.x0 false a)
theorem VJ {Fi:Ex→PS→Prop} (hF:KC 148 Fi) (ks:List Fr) (n:Nat) (a i j:Int) (e:(Ga→Ga→Option (Int))) (k m:Bool) (b:Int) (d:(List Ga)) (p:FuncId) (u:(List PV)) (a0:∀ (x0:Ga) (x1:Ga) (r:Int),e x0 x1=some r→Ret Try.prog p ([Gb x0,Gb x1]++u) ((eI .i64) r)) (o:SC) (h:KB n a i j e k m b d=some o) (q:RunE Try.prog 148 Fi ks (VG o) (VH a i j e k m b d p u o)):RunE Try.prog 148 Fi (.s (cL (cL (cR (cR (cR (cR (cR (cR (cR (cB (cP (cB (cR (cR (bodyOf Try.f70)))))))))))))))::ks) .normal (VI a i j e k m b d p u):=by
 unfold KB at h
 by_cases g:a > 0
 ·rw [if_pos g] at h
  by_cases v:0≤(wi .i64 (a-1))∧((wi .i64 (a-1))).toNat<d.length
  ·rw [if_pos v] at h
   obtain ⟨x,a1,h⟩:=bind_some h
   by_cases w:0≤b∧(b).toNat<d.length
   ·rw [if_pos w] at h
    obtain ⟨z,a2,h⟩:=bind_some h
    obtain ⟨a3,a4,h⟩:=bind_some h
    cases h
    exact pkk_sound TTok mix hF 1 (hs:=[.t true,.c,.c,.c,.c,.c,.y (Gb x),.c,.c,.c,.c,.y (Gb z),.c,.r ((eI .i64) a3),.c,.c]) (ts:=[]) (s:=[0,1]) (l:=[0,1,2,3,4,10,11,12,13,97]) (by kernel_rfl) (by kernel_rfl) (.cons (dt g) (.cons (idx_ob (f:=Gb) v) (.cons (get_ob (f:=Gb) a1) (.cons (idx_ob (f:=Gb) w) (.cons (get_ob (f:=Gb) a2) (.cons (a0 x z _ a4) .nil)))))) q
   ·rw [if_neg w] at h; cases h
  ·rw [if_neg v] at h; cases h
 ·rw [if_neg g] at h
  cases h
  exact pkk_sound TTok mix hF 1 (hs:=[.t false,.c,.c,.c,.c,.c,.c,.c,.c,.c,.c,.c,.c]) (ts:=[]) (s:=[0,1]) (l:=[0,1,2,3,4,10,11,12,13,97]) (by kernel_rfl) (by kernel_rfl) (.cons (df g) .nil) q
inductive SD where
 | x0 (a:Bool) (b:(List Ga))
def VK:SD→Ex
 | .x0 _ _=>.normal
def VL (a b c:Int) (l:(Ga→Ga→Option (Int))) (e f:Bool) (g:Int) (m:(List Ga)) (h:FuncId) (i:(List PV)):SD→PS
 | .x0 j k=>⟨(.srf 1::di a::di b::di c::.d (.clo h i)::dd::dd::dd::dd::dd::.d (.v (.bool e))::.d (.v (.bool f))::di (wi .i64 (b-a))::di g::(dds 83 (.d (.v (.bool j))::(dds 50 [])))),[.gh 0 (.srf 1),.row 86 3 (k.map Gb)]⟩
def VM (a b c:Int) (k:(Ga→Ga→Option (Int))) (e f:Bool) (g:Int) (h:(List Ga)) (i:FuncId) (j:(List PV))  : PS:=⟨(.srf 1::di a::di b::di c::.d (.clo i j)::dd::dd::dd::dd::dd::.d (.v (.bool e))::.d (.v (.bool f))::di (wi .i64 (b-a))::di g::(dds 134 [])),[.gh 0 (.srf 1),.row 86 3 (h.map Gb)]⟩
def KD (n:Nat) (b h i:Int) (d:(Ga→Ga→Option (Int))) (j k:Bool) (c:Int) (a:(List Ga)):Option SD :=
 if b > 0 then
  if 0≤(wi .i64 (b-1))∧((wi .i64 (b-1))).toNat<a.length then
   (a[((wi .i64 (b-1))).toNat]?).bind fun (e:Ga) =>
   if 0≤c∧(c).toNat<a.length then
    (a[(c).toNat]?).bind fun (f:Ga) =>
    (d e f).bind fun (g:(Int)) =>
    some (.x0 (!(decide (g<0))) a)
   else none
  else none
 else
  some (.x0 false a)
theorem VN {Fi:Ex→PS→Prop} (hF:KC 148 Fi) (ks:List Fr) (n:Nat) (a i j:Int) (e:(Ga→Ga→Option (Int))) (k m:Bool) (b:Int) (d:(List Ga)) (p:FuncId) (u:(List PV)) (a0:∀ (x0:Ga) (x1:Ga) (r:Int),e x0 x1=some r→Ret Try.prog p ([Gb x0,Gb x1]++u) ((eI .i64) r)) (o:SD) (h:KD n a i j e k m b d=some o) (q:RunE Try.prog 148 Fi ks (VK o) (VL a i j e k m b d p u o)):RunE Try.prog 148 Fi (.s (cL (cL (cR (cR (cR (cR (cR (cR (cR (cB (cP (cB (cR (cR (bodyOf Try.f70)))))))))))))))::ks) .normal (VM a i j e k m b d p u):=by
 unfold KD at h
 by_cases g:a > 0
 ·rw [if_pos g] at h
  by_cases v:0≤(wi .i64 (a-1))∧((wi .i64 (a-1))).toNat<d.length
  ·rw [if_pos v] at h
   obtain ⟨x,a1,h⟩:=bind_some h
   by_cases w:0≤b∧(b).toNat<d.length
   ·rw [if_pos w] at h
    obtain ⟨z,a2,h⟩:=bind_some h
    obtain ⟨a3,a4,h⟩:=bind_some h
    cases h
    exact pkk_sound TTok mix hF 1 (hs:=[.t true,.c,.c,.c,.c,.c,.y (Gb x),.c,.c,.c,.c,.y (Gb z),.c,.r ((eI .i64) a3),.c,.c]) (ts:=[]) (s:=[0,1]) (l:=[0,1,2,3,4,10,11,12,13,97]) (by kernel_rfl) (by kernel_rfl) (.cons (dt g) (.cons (idx_ob (f:=Gb) v) (.cons (get_ob (f:=Gb) a1) (.cons (idx_ob (f:=Gb) w) (.cons (get_ob (f:=Gb) a2) (.cons (a0 x z _ a4) .nil)))))) q
   ·rw [if_neg w] at h; cases h
  ·rw [if_neg v] at h; cases h
 ·rw [if_neg g] at h
  cases h
  exact pkk_sound TTok mix hF 1 (hs:=[.t false,.c,.c,.c,.c,.c,.c,.c,.c,.c,.c,.c,.c]) (ts:=[]) (s:=[0,1]) (l:=[0,1,2,3,4,10,11,12,13,97]) (by kernel_rfl) (by kernel_rfl) (.cons (df g) .nil) q
inductive GU where
 | x0 (a:(List Ga))
 | x1 (b c d:Int) (e f:Bool) (g:(List Ga))
def VO:GU→Ex
 | .x0 _=>.ret
 | .x1 _ _ _ _ _ _=>.normal
def VP (k l m:Int) (n:(Ga→Ga→Option (Int))) (o p:Bool) (q:(List Ga)) (r:((List Ga)→Int→Int→Int→Option ((List Ga)))) (a:FuncId) (b:(List PV)):GU→PS
 | .x0 c=>⟨(dds 148 []),[.gh 0 (.srf 1),.row 86 3 (c.map Gb)]⟩
 | .x1 e f g h i j=>⟨(.srf 1::di e::di f::di g::.d (.clo a b)::dd::dd::dd::dd::dd::.d (.v (.bool h))::.d (.v (.bool i))::(dds 136 [])),[.gh 0 (.srf 1),.row 86 3 (j.map Gb)]⟩
def VQ (a b c:Int) (j:(Ga→Ga→Option (Int))) (e f:Bool) (g:(List Ga)) (k:((List Ga)→Int→Int→Int→Option ((List Ga)))) (h:FuncId) (i:(List PV))  : PS:=⟨(.srf 1::di a::di b::di c::.d (.clo h i)::dd::dd::dd::dd::dd::.d (.v (.bool e))::.d (.v (.bool f))::(dds 136 [])),[.gh 0 (.srf 1),.row 86 3 (g.map Gb)]⟩
def SV (n:Nat) (b a o:Int) (d:(Ga→Ga→Option (Int))) (h i:Bool) (l:(List Ga)) (k:((List Ga)→Int→Int→Int→Option ((List Ga)))):Option GU :=
 if (wi .i64 (a-b))≤12 then
  (Sv n l b a d).bind fun (w:((List Ga))) =>
  some (.x0 w)
 else
  if o=0 then
   (S7 n l b a d).bind fun (x:((List Ga))) =>
   some (.x0 x)
  else
   (SS n b a o d h i l).bind fun y=>match y with
   | .x0 c p =>
    (S4 n p b a d).bind fun (z:(Int×Int)) =>
    (ST n b a c d h i z p).bind fun a0=>match a0 with
    | .x0 j a1 m =>
     if h=true then
      if i=true then
       (SU n b a c d h i j a1 m).bind fun a2=>match a2 with
       | .x0 a3 =>
         some (.x0 a3)
       | .x1 a4 =>
         (KA n b a c d h i j a4).bind fun a5=>match a5 with
         | .x0 a6 q =>
           if a6=true then
            (GD n q b a j d).bind fun (r:(Int×(List Ga))) =>
            some (.x1 r.1 a c h i r.2)
           else
            (GN n q b a j d).bind fun (e:(Int×Bool×(List Ga))) =>
            if (wi .i64 (e.1-b))<(wi .i64 (a-e.1)) then
             (k e.2.2 b e.1 c).bind fun (a7:((List Ga))) =>
             some (.x1 (wi .i64 (e.1+1)) a c (decide ((wi .i64 (e.1-b))≥(quoI .i64 (wi .i64 (a-b)) 8))) e.2.1 a7)
            else
             (k e.2.2 (wi .i64 (e.1+1)) a c).bind fun (a8:((List Ga))) =>
             some (.x1 b e.1 c (decide ((wi .i64 (a-e.1))≥(quoI .i64 (wi .i64 (a-b)) 8))) e.2.1 a8)
      else
       (KB n b a c d h i j m).bind fun a9=>match a9 with
       | .x0 b0 s =>
         if b0=true then
          (GD n s b a j d).bind fun (t:(Int×(List Ga))) =>
          some (.x1 t.1 a c h i t.2)
         else
          (GN n s b a j d).bind fun (f:(Int×Bool×(List Ga))) =>
          if (wi .i64 (f.1-b))<(wi .i64 (a-f.1)) then
           (k f.2.2 b f.1 c).bind fun (b1:((List Ga))) =>
           some (.x1 (wi .i64 (f.1+1)) a c (decide ((wi .i64 (f.1-b))≥(quoI .i64 (wi .i64 (a-b)) 8))) f.2.1 b1)
          else
           (k f.2.2 (wi .i64 (f.1+1)) a c).bind fun (b2:((List Ga))) =>
           some (.x1 b f.1 c (decide ((wi .i64 (a-f.1))≥(quoI .i64 (wi .i64 (a-b)) 8))) f.2.1 b2)
     else
      (KD n b a c d h i j m).bind fun b3=>match b3 with
      | .x0 b4 u =>
        if b4=true then
         (GD n u b a j d).bind fun (v:(Int×(List Ga))) =>
         some (.x1 v.1 a c h i v.2)
        else
         (GN n u b a j d).bind fun (g:(Int×Bool×(List Ga))) =>
         if (wi .i64 (g.1-b))<(wi .i64 (a-g.1)) then
          (k g.2.2 b g.1 c).bind fun (b5:((List Ga))) =>
          some (.x1 (wi .i64 (g.1+1)) a c (decide ((wi .i64 (g.1-b))≥(quoI .i64 (wi .i64 (a-b)) 8))) g.2.1 b5)
         else
          (k g.2.2 (wi .i64 (g.1+1)) a c).bind fun (b6:((List Ga))) =>
          some (.x1 b g.1 c (decide ((wi .i64 (a-g.1))≥(quoI .i64 (wi .i64 (a-b)) 8))) g.2.1 b6)
theorem VR {Fi:Ex→PS→Prop} (hF:KC 148 Fi) (ks:List Fr) (n:Nat) (a e a1:Int) (f:(Ga→Ga→Option (Int))) (x y:Bool) (z:(List Ga)) (a7:((List Ga)→Int→Int→Int→Option ((List Ga)))) (g:FuncId) (i:(List PV)) (j:∀ (x0:Ga) (x1:Ga) (r:Int),f x0 x1=some r→Ret Try.prog g ([Gb x0,Gb x1]++i) ((eI .i64) r)) (a0:∀ (x0:(List Ga)) (x1:Int) (x2:Int) (x3:Int) (r:(List Ga)),a7 x0 x1 x2 x3=some r→RetH Try.prog 70 [.srf 0,.d ((eI .i64) x1),.d ((eI .i64) x2),.d ((eI .i64) x3),.d ((.clo g i))] [.row 86 3 (x0.map Gb)] (.tup []) [.row 86 3 (r.map Gb)]) (o:GU) (h:SV n a e a1 f x y z a7=some o) (q:RunE Try.prog 148 Fi ks (VO o) (VP a e a1 f x y z a7 g i o)):RunE Try.prog 148 Fi (.s (cP (cB (cR (cR (bodyOf Try.f70)))))::ks) .normal (VQ a e a1 f x y z a7 g i):=by
 unfold SV at h
 by_cases a2:(wi .i64 (e-a))≤12
 ·rw [if_pos a2] at h
  obtain ⟨c5,c6,h⟩:=bind_some h
  cases h
  exact pkk_sound TTok mix hF 12 (hs:=[.t true,.h [1] [] [.row 86 3 (c5.map Gb)] (.tup [])]) (ts:=[]) (s:=[0,1]) (l:=[]) (by kernel_rfl) (by kernel_rfl) (.cons (dt a2) (.cons (Ut n z a e f g i j _ c6) .nil)) q
 ·rw [if_neg a2] at h
  by_cases a8:a1=0
  ·rw [if_pos a8] at h
   obtain ⟨c7,c8,h⟩:=bind_some h
   cases h
   exact pkk_sound TTok mix hF 17 (hs:=[.t false,.t true,.h [1] [] [.row 86 3 (c7.map Gb)] (.tup [])]) (ts:=[]) (s:=[0,1]) (l:=[]) (by kernel_rfl) (by kernel_rfl) (.cons (df a2) (.cons (bt a8) (.cons (VZ n z a e f g i j _ c8) .nil))) q
  ·rw [if_neg a8] at h
   obtain ⟨c9,d0,h⟩:=bind_some h
   refine pkk_sound TTok mix hF 16 (hs:=[.t false,.t false]) (ts:=[]) (s:=[0,1]) (l:=[0,1,2,3,4,10,11,12,39]) (by kernel_rfl) (by kernel_rfl) (.cons (df a2) (.cons (bf a8) .nil)) (Vt hF (.s (cR (cR (cR (cR (cB (cP (cB (cR (cR (bodyOf Try.f70))))))))))::.b 1::ks) n a e a1 f x y z g i j _ d0 ?_)
   cases c9 with
   | x0 w b8 =>
    try dsimp only at h
    obtain ⟨b3,d1,h⟩:=bind_some h
    obtain ⟨d2,d3,h⟩:=bind_some h
    refine pkk_sound TTok mix hF 5 (hs:=[.c,.r (.tup [(eI .i64) b3.1,(eI .i64) b3.2])]) (ts:=[]) (s:=[0,1]) (l:=[0,1,2,3,4,10,11,12,13,14,56]) (by kernel_rfl) (by kernel_rfl) (.cons (VX n b8 a e f g i j _ d1) .nil) (Vx hF (.s (cR (cR (cR (cR (cR (cR (cB (cP (cB (cR (cR (bodyOf Try.f70))))))))))))::.b 1::ks) n a e w f x y b3 b8 g i j _ d3 ?_)
    cases d2 with
    | x0 k d4 b4 =>
     try dsimp only at h
     by_cases a3:x=true
     ·rw [if_pos a3] at h
      by_cases a9:y=true
      ·rw [if_pos a9] at h
       obtain ⟨d5,d6,h⟩:=bind_some h
       refine pkk_sound TTok mix hF 3 (hs:=[.t true,.t true,.c]) (ts:=[]) (s:=[0,1]) (l:=[0,1,2,3,4,10,11,12,13,75]) (by kernel_rfl) (by kernel_rfl) (.cons a3 (.cons a9 .nil)) (VB hF (.s (cR (cR (cR (cR (cR (cR (cR (cB (cP (cB (cR (cR (bodyOf Try.f70)))))))))))))::.b 1::ks) n a e w f x y k d4 b4 g i j _ d6 ?_)
       cases d5 with
       | x0 g2 =>
        try dsimp only at h
        cases h
        exact pkk_sound TTok mix hF 2 (hs:=[]) (ts:=[]) (s:=[0,1]) (l:=[]) (by kernel_rfl) (by kernel_rfl) .nil q
       | x1 d7 =>
        try dsimp only at h
        obtain ⟨d8,d9,h⟩:=bind_some h
        refine pkk_sound TTok mix hF 2 (hs:=[]) (ts:=[]) (s:=[0,1]) (l:=[0,1,2,3,4,10,11,12,13]) (by kernel_rfl) (by kernel_rfl) .nil (VF hF (.s (cR (cL (cR (cR (cR (cR (cR (cR (cR (cB (cP (cB (cR (cR (bodyOf Try.f70)))))))))))))))::.s (cR (cR (cR (cR (cR (cR (cR (cR (cB (cP (cB (cR (cR (bodyOf Try.f70))))))))))))))::.b 1::ks) n a e w f x y k d7 g i j _ d9 ?_)
        cases d8 with
        | x0 e0 b5 =>
         try dsimp only at h
         by_cases a4:e0=true
         ·rw [if_pos a4] at h
          obtain ⟨b9,e1,h⟩:=bind_some h
          cases h
          exact pkk_sound TTok mix hF 8 (hs:=[.t true,.h [1] [] [.row 86 3 (b9.2.map Gb)] (di b9.1)]) (ts:=[]) (s:=[0,1]) (l:=[0,1,2,3,4,10,11]) (by kernel_rfl) (by kernel_rfl) (.cons a4 (.cons (KQ n b5 a e k f g i j _ e1) .nil)) q
         ·rw [if_neg a4] at h
          obtain ⟨m,c0,h⟩:=bind_some h
          by_cases b0:(wi .i64 (m.1-a))<(wi .i64 (e-m.1))
          ·rw [if_pos b0] at h
           obtain ⟨e2,e3,h⟩:=bind_some h
           cases h
           exact pkk_sound TTok mix hF 19 (hs:=[.t false,.h [1] [] [.row 86 3 (m.2.2.map Gb)] (.tup [di m.1,.d (.v (.bool m.2.1))]),.t true,.h [1] [] [.row 86 3 (e2.map Gb)] (.tup [])]) (ts:=[]) (s:=[0,1]) (l:=[0,1,2,3,4,10,11]) (by kernel_rfl) (by kernel_rfl) (.cons (vf a4) (.cons (G6 n b5 a e k f g i j _ c0) (.cons (show (8:Int)≠0 by decide) (.cons (dt b0) (.cons (a0 m.2.2 a m.1 w _ e3) .nil))))) q
          ·rw [if_neg b0] at h
           obtain ⟨e4,e5,h⟩:=bind_some h
           cases h
           exact pkk_sound TTok mix hF 19 (hs:=[.t false,.h [1] [] [.row 86 3 (m.2.2.map Gb)] (.tup [di m.1,.d (.v (.bool m.2.1))]),.t false,.h [1] [] [.row 86 3 (e4.map Gb)] (.tup [])]) (ts:=[]) (s:=[0,1]) (l:=[0,1,2,3,4,10,11]) (by kernel_rfl) (by kernel_rfl) (.cons (vf a4) (.cons (G6 n b5 a e k f g i j _ c0) (.cons (show (8:Int)≠0 by decide) (.cons (df b0) (.cons (a0 m.2.2 (wi .i64 (m.1+1)) e w _ e5) .nil))))) q
      ·rw [if_neg a9] at h
       obtain ⟨e6,e7,h⟩:=bind_some h
       refine pkk_sound TTok mix hF 7 (hs:=[.t true,.t false,.c,.c]) (ts:=[]) (s:=[0,1]) (l:=[0,1,2,3,4,10,11,12,13]) (by kernel_rfl) (by kernel_rfl) (.cons a3 (.cons (vf a9) .nil)) (VJ hF (.s (cR (cL (cR (cR (cR (cR (cR (cR (cR (cB (cP (cB (cR (cR (bodyOf Try.f70)))))))))))))))::.s (cR (cR (cR (cR (cR (cR (cR (cR (cB (cP (cB (cR (cR (bodyOf Try.f70))))))))))))))::.b 1::ks) n a e w f x y k b4 g i j _ e7 ?_)
       cases e6 with
       | x0 e8 b6 =>
        try dsimp only at h
        by_cases a5:e8=true
        ·rw [if_pos a5] at h
         obtain ⟨c1,e9,h⟩:=bind_some h
         cases h
         exact pkk_sound TTok mix hF 8 (hs:=[.t true,.h [1] [] [.row 86 3 (c1.2.map Gb)] (di c1.1)]) (ts:=[]) (s:=[0,1]) (l:=[0,1,2,3,4,10,11]) (by kernel_rfl) (by kernel_rfl) (.cons a5 (.cons (KQ n b6 a e k f g i j _ e9) .nil)) q
        ·rw [if_neg a5] at h
         obtain ⟨p,c2,h⟩:=bind_some h
         by_cases b1:(wi .i64 (p.1-a))<(wi .i64 (e-p.1))
         ·rw [if_pos b1] at h
          obtain ⟨f0,f1,h⟩:=bind_some h
          cases h
          exact pkk_sound TTok mix hF 19 (hs:=[.t false,.h [1] [] [.row 86 3 (p.2.2.map Gb)] (.tup [di p.1,.d (.v (.bool p.2.1))]),.t true,.h [1] [] [.row 86 3 (f0.map Gb)] (.tup [])]) (ts:=[]) (s:=[0,1]) (l:=[0,1,2,3,4,10,11]) (by kernel_rfl) (by kernel_rfl) (.cons (vf a5) (.cons (G6 n b6 a e k f g i j _ c2) (.cons (show (8:Int)≠0 by decide) (.cons (dt b1) (.cons (a0 p.2.2 a p.1 w _ f1) .nil))))) q
         ·rw [if_neg b1] at h
          obtain ⟨f2,f3,h⟩:=bind_some h
          cases h
          exact pkk_sound TTok mix hF 19 (hs:=[.t false,.h [1] [] [.row 86 3 (p.2.2.map Gb)] (.tup [di p.1,.d (.v (.bool p.2.1))]),.t false,.h [1] [] [.row 86 3 (f2.map Gb)] (.tup [])]) (ts:=[]) (s:=[0,1]) (l:=[0,1,2,3,4,10,11]) (by kernel_rfl) (by kernel_rfl) (.cons (vf a5) (.cons (G6 n b6 a e k f g i j _ c2) (.cons (show (8:Int)≠0 by decide) (.cons (df b1) (.cons (a0 p.2.2 (wi .i64 (p.1+1)) e w _ f3) .nil))))) q
     ·rw [if_neg a3] at h
      obtain ⟨f4,f5,h⟩:=bind_some h
      refine pkk_sound TTok mix hF 7 (hs:=[.t false,.c,.c,.c]) (ts:=[]) (s:=[0,1]) (l:=[0,1,2,3,4,10,11,12,13]) (by kernel_rfl) (by kernel_rfl) (.cons (vf a3) .nil) (VN hF (.s (cR (cL (cR (cR (cR (cR (cR (cR (cR (cB (cP (cB (cR (cR (bodyOf Try.f70)))))))))))))))::.s (cR (cR (cR (cR (cR (cR (cR (cR (cB (cP (cB (cR (cR (bodyOf Try.f70))))))))))))))::.b 1::ks) n a e w f x y k b4 g i j _ f5 ?_)
      cases f4 with
      | x0 f6 b7 =>
       try dsimp only at h
       by_cases a6:f6=true
       ·rw [if_pos a6] at h
        obtain ⟨c3,f7,h⟩:=bind_some h
        cases h
        exact pkk_sound TTok mix hF 8 (hs:=[.t true,.h [1] [] [.row 86 3 (c3.2.map Gb)] (di c3.1)]) (ts:=[]) (s:=[0,1]) (l:=[0,1,2,3,4,10,11]) (by kernel_rfl) (by kernel_rfl) (.cons a6 (.cons (KQ n b7 a e k f g i j _ f7) .nil)) q
       ·rw [if_neg a6] at h
        obtain ⟨u,c4,h⟩:=bind_some h
        by_cases b2:(wi .i64 (u.1-a))<(wi .i64 (e-u.1))
        ·rw [if_pos b2] at h
         obtain ⟨f8,f9,h⟩:=bind_some h
         cases h
         exact pkk_sound TTok mix hF 19 (hs:=[.t false,.h [1] [] [.row 86 3 (u.2.2.map Gb)] (.tup [di u.1,.d (.v (.bool u.2.1))]),.t true,.h [1] [] [.row 86 3 (f8.map Gb)] (.tup [])]) (ts:=[]) (s:=[0,1]) (l:=[0,1,2,3,4,10,11]) (by kernel_rfl) (by kernel_rfl) (.cons (vf a6) (.cons (G6 n b7 a e k f g i j _ c4) (.cons (show (8:Int)≠0 by decide) (.cons (dt b2) (.cons (a0 u.2.2 a u.1 w _ f9) .nil))))) q
        ·rw [if_neg b2] at h
         obtain ⟨g0,g1,h⟩:=bind_some h
         cases h
         exact pkk_sound TTok mix hF 19 (hs:=[.t false,.h [1] [] [.row 86 3 (u.2.2.map Gb)] (.tup [di u.1,.d (.v (.bool u.2.1))]),.t false,.h [1] [] [.row 86 3 (g0.map Gb)] (.tup [])]) (ts:=[]) (s:=[0,1]) (l:=[0,1,2,3,4,10,11]) (by kernel_rfl) (by kernel_rfl) (.cons (vf a6) (.cons (G6 n b7 a e k f g i j _ c4) (.cons (show (8:Int)≠0 by decide) (.cons (df b2) (.cons (a0 u.2.2 (wi .i64 (u.1+1)) e w _ g1) .nil))))) q
inductive Kv where
 | x0 (a:(List Ga))
def VS:Kv→Ex
 | .x0 _=>.ret
def VT (b:(Ga→Ga→Option (Int))) (c:((List Ga)→Int→Int→Int→Option ((List Ga)))) (d:FuncId) (e:(List PV)):Kv→PS
 | .x0 a=>⟨(dds 148 []),[.gh 0 (.srf 1),.row 86 3 (a.map Gb)]⟩
def VU (j:(Ga→Ga→Option (Int))) (k:((List Ga)→Int→Int→Int→Option ((List Ga)))) (a:FuncId) (b:(List PV)) (c e f:Int) (g h:Bool) (i:(List Ga)):PS:=⟨(.srf 1::di c::di e::di f::.d (.clo a b)::dd::dd::dd::dd::dd::.d (.v (.bool g))::.d (.v (.bool h))::(dds 136 [])),[.gh 0 (.srf 1),.row 86 3 (i.map Gb)]⟩
def G1 (n:Nat) (a:(Ga→Ga→Option (Int))) (b:((List Ga)→Int→Int→Int→Option ((List Ga)))):Nat→Int→Int→Int→Bool→Bool→(List Ga)→Option Kv
 | 0,_,_,_,_,_,_=>none
 | k+1,c,d,e,f,g,h =>
  (SV n c d e a f g h b).bind fun i=>match i with
  | .x0 j =>
   some (.x0 j)
  | .x1 l m o p q r =>
   G1 n a b k l m o p q r
theorem YG {Fi:Ex→PS→Prop} (hF:KC 148 Fi) (ks:List Fr) (n:Nat) (a:(Ga→Ga→Option (Int))) (b:((List Ga)→Int→Int→Int→Option ((List Ga)))) (c:FuncId) (e:(List PV)) (t:∀ (x0:Ga) (x1:Ga) (r:Int),a x0 x1=some r→Ret Try.prog c ([Gb x0,Gb x1]++e) ((eI .i64) r)) (u:∀ (x0:(List Ga)) (x1:Int) (x2:Int) (x3:Int) (r:(List Ga)),b x0 x1 x2 x3=some r→RetH Try.prog 70 [.srf 0,.d ((eI .i64) x1),.d ((eI .i64) x2),.d ((eI .i64) x3),.d ((.clo c e))] [.row 86 3 (x0.map Gb)] (.tup []) [.row 86 3 (r.map Gb)]):∀ (k:Nat) (f g i:Int) (j m:Bool) (p:(List Ga)) (o:Kv),G1 n a b k f g i j m p=some o→RunE Try.prog 148 Fi ks (VS o) (VT a b c e o)→RunE Try.prog 148 Fi (.l k (cP (cB (cR (cR (bodyOf Try.f70)))))::ks) .normal (VU a b c e f g i j m p)
 | 0,f,g,i,j,m,p,o,h,q=>by rw [G1] at h; cases h
 | k+1,f,g,i,j,m,p,o,h,q=>by
  rw [G1] at h
  obtain ⟨v,w,h⟩:=bind_some h
  refine pkk_sound TTok mix hF 1 (hs:=[]) (ts:=[]) (s:=[0,1]) (l:=[0,1,2,3,4,10,11]) (by kernel_rfl) (by kernel_rfl) .nil (VR hF (.l k (cP (cB (cR (cR (bodyOf Try.f70)))))::ks) n f g i a j m p b c e t u _ w ?_)
  cases v with
  | x0 a3 =>
   try dsimp only at h
   cases h
   exact pkk_sound TTok mix hF 1 (hs:=[]) (ts:=[]) (s:=[0,1]) (l:=[]) (by kernel_rfl) (by kernel_rfl) .nil q
  | x1 x y z a0 a1 a2 =>
   try dsimp only at h
   exact pkk_sound TTok mix hF 0 (hs:=[]) (ts:=[]) (s:=[0,1]) (l:=[0,1,2,3,4,10,11]) (by kernel_rfl) (by kernel_rfl) .nil (YG hF ks n a b c e t u k x y z a0 a1 a2 _ h q)
/- slices.pdqsortCmpFunc[ringhall/lift.Req] -/
def GX:Nat→(List Ga)→Int→Int→Int→(Ga→Ga→Option (Int))→Option ((List Ga))
 | 0,_,_,_,_,_=>none
 | n+1,b,c,d,e,a =>
 (G1 n a (fun x0 x1 x2 x3=>GX n x0 x1 x2 x3 a) n c d e true true b).bind fun f=>match f with
 | .x0 g =>
  some g
theorem YY:∀ (n:Nat) (e:(List Ga)) (i j k:Int) (a:(Ga→Ga→Option (Int))) (f:FuncId) (g:List PV) (m:∀ (x0:Ga) (x1:Ga) (r:Int),a x0 x1=some r→Ret Try.prog f ([Gb x0,Gb x1]++g) ((eI .i64) r)) (r:(List Ga)) (h:GX n e i j k a=some r),RetH Try.prog 70 [.srf 0,.d ((eI .i64) i),.d ((eI .i64) j),.d ((eI .i64) k),.d ((.clo f g))] [.row 86 3 (e.map Gb)] (.tup []) [.row 86 3 (r.map Gb)]
 | 0,e,i,j,k,a,f,g,m,r,h=>by rw [GX] at h; cases h
 | n+1,e,i,j,k,a,f,g,m,r,h=>by
  refine retH_run (n:=148) (fn:=Try.f70) (c:=bodyOf Try.f70) (by kernel_rfl) (by kernel_rfl) (by kernel_rfl) (by kernel_rfl) ?_
  have hF:KC 148 (FinH Try.prog Try.f70 [.row 86 3 (e.map Gb)] (.tup []) [.row 86 3 (r.map Gb)]):=FinH.kc' (by kernel_rfl)
  rw [GX] at h
  obtain ⟨o,p,h⟩:=bind_some h
  refine pkk_sound TTok mix hF 6 (hs:=[.n n]) (ts:=[]) (s:=[1,0]) (l:=[0,1,2,3,4,10,11]) (by kernel_rfl) (by kernel_rfl) .nil (YG hF (.b 0::[]) n a (fun x0 x1 x2 x3=>GX n x0 x1 x2 x3 a) f g m (fun x0 x1 x2 x3 r h=>YY n x0 x1 x2 x3 a f g m r h) n i j k true true e _ p ?_)
  cases o with
  | x0 q =>
   try dsimp only at h
   obtain rfl:=Option.some.inj h
   exact pendH_sound TTok mix 1 (hs:=[]) [1] (by kernel_rfl) (by kernel_rfl) (by kernel_rfl) .nil
/- slices.SortFunc[[]ringhall/lift.Req,ringhall/lift.Req] -/
def SW (n:Nat) (a:(List Ga)) (b:(Ga→Ga→Option (Int))):Option ((List Ga)) :=
 (Xx n (wi .u64 (a.length:Int))).bind fun (c:(Int)) =>
 (GX n a 0 (a.length:Int) c b).bind fun (d:((List Ga))) =>
 some d
theorem YH (n:Nat) (a:(List Ga)) (b:(Ga→Ga→Option (Int))) (e:FuncId) (g:List PV) (j:∀ (x0:Ga) (x1:Ga) (r:Int),b x0 x1=some r→Ret Try.prog e ([Gb x0,Gb x1]++g) ((eI .i64) r)) (r:(List Ga)) (h:SW n a b=some r):RetH Try.prog 63 [.srf 0,.d ((.clo e g))] [.row 86 3 (a.map Gb)] (.tup []) [.row 86 3 (r.map Gb)]:=by
 refine retH_run (n:=14) (fn:=Try.f63) (c:=bodyOf Try.f63) (by kernel_rfl) (by kernel_rfl) (by kernel_rfl) (by kernel_rfl) ?_
 have hF:KC 14 (FinH Try.prog Try.f63 [.row 86 3 (a.map Gb)] (.tup []) [.row 86 3 (r.map Gb)]):=FinH.kc' (by kernel_rfl)
 unfold SW at h
 obtain ⟨i,k,h⟩:=bind_some h
 obtain ⟨m,o,h⟩:=bind_some h
 obtain rfl:=Option.some.inj h
 exact pendH_sound TTok mix 3 (hs:=[.u (di (a.length:Int)),.r ((eI .i64) i),.h [0] [] [.row 86 3 (m.map Gb)] (.tup [])]) [0] (by kernel_rfl) (by kernel_rfl) (by kernel_rfl) (.cons (len_ob (f:=Gb) (l:=a)) (.cons (MU n (wi .u64 (a.length:Int)) _ k) (.cons (YY n a 0 (a.length:Int) i b e g j _ o) .nil)))
/- ringhall/lift.far -/
def V9 (n:Nat) (a b:Int):Option (Int) :=
 some (remI (wi .i64 ((remI (wi .i64 (b-a)) 256)+256)) 256)
end Go.Proofs.Ytgdhhaddfllkaaa.pv
