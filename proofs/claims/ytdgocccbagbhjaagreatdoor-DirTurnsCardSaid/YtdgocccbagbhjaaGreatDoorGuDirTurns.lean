/- What the functions compute (part 2): written by gen.py. -/
import Derived.Test.YtdgocccbagbhjaaGreatDoorGuDirTurnsP1
set_option maxRecDepth 100000
set_option linter.all false
namespace Go.Proofs.YtdgocccbagbhjaaGreatDoor.pv
open Go.RowKit
def ZO:G6→Ex
 | .x0 _ _=>.exit 0
def ZP (c:Int) (e:(Ga→Ga→Option (Int))) (f:FuncId) (g:(List PV)):G6→PS
 | .x0 a b=>⟨(dds 11 (di a::(dds 78 []))),[.gh 0 (.srf 1),.row 25 2 (b.map Gb)]⟩
def ZQ (a:Int) (h:(Ga→Ga→Option (Int))) (b:FuncId) (c:(List PV)) (e f:Int) (g:(List Ga)):PS:=⟨(.srf 1::di a::dd::dd::.d (.clo b c)::dd::dd::dd::dd::dd::dd::di e::di f::(dds 77 [])),[.gh 0 (.srf 1),.row 25 2 (g.map Gb)]⟩
def Gm (n:Nat) (d:Int) (e:(Ga→Ga→Option (Int))):Nat→Int→Int→(List Ga)→Option G6
 | 0,_,_,_=>none
 | k+1,h,g,i =>
  (Gk n d e g n h i).bind fun j=>match j with
  | .x0 a l =>
   (Gl n d e a n g l).bind fun m=>match m with
   | .x0 c b =>
    if a > c then
     some (.x0 a b)
    else
     if 0≤c∧(c).toNat<b.length then
      (b[(c).toNat]?).bind fun (f:Ga) =>
      if 0≤a∧(a).toNat<b.length then
       (b[(a).toNat]?).bind fun (o:Ga) =>
       if 0≤a∧(a).toNat<b.length then
        (b[(a).toNat]?).bind fun (p:Ga) =>
        if 0≤c∧(c).toNat<(b.set (a).toNat f).length then
         ((b.set (a).toNat f)[(c).toNat]?).bind fun (q:Ga) =>
         Gm n d e k (wi .i64 (a+1)) (wi .i64 (c-1)) ((b.set (a).toNat f).set (c).toNat o)
        else none
       else none
      else none
     else none
theorem Kk {Fi:Ex→PS→Prop} (hF:KC 90 Fi) (ks:List Fr) (n:Nat) (j:Int) (i:(Ga→Ga→Option (Int))) (m:FuncId) (u:(List PV)) (a3:∀ (x0:Ga) (x1:Ga) (r:Int),i x0 x1=some r→Ret Tryz.prog m ([Gb x0,Gb x1]++u) ((eI .i64) r)):∀ (k:Nat) (a0 x:Int) (a1:(List Ga)) (o:G6),Gm n j i k a0 x a1=some o→RunE Tryz.prog 90 Fi ks (ZO o) (ZP j i m u o)→RunE Tryz.prog 90 Fi (.l k (cP (cB (cL (cR (cR (cR (bodyOf Tryz.f74)))))))::ks) .normal (ZQ j i m u a0 x a1)
 | 0,a0,x,a1,o,h,q=>by rw [Gm] at h; cases h
 | k+1,a0,x,a1,o,h,q=>by
  rw [Gm] at h
  obtain ⟨a8,a9,h⟩:=bind_some h
  refine pkk_sound TTok mix hF 5 (hs:=[.n n]) (ts:=[]) (s:=[0,1]) (l:=[0,1,4,11,12]) (by kernel_rfl) (by kernel_rfl) .nil (Ki hF (.b 2::.s (cR (cB (cP (cB (cL (cR (cR (cR (bodyOf Tryz.f74)))))))))::.b 1::.l k (cP (cB (cL (cR (cR (cR (bodyOf Tryz.f74)))))))::ks) n j i x m u a3 n a0 a1 _ a9 ?_)
  cases a8 with
  | x0 a b0 =>
   try dsimp only at h
   obtain ⟨b1,b2,h⟩:=bind_some h
   refine pkk_sound TTok mix hF 4 (hs:=[.n n]) (ts:=[]) (s:=[0,1]) (l:=[0,1,4,11,12]) (by kernel_rfl) (by kernel_rfl) .nil (Kj hF (.b 4::.s (cR (cR (cB (cP (cB (cL (cR (cR (cR (bodyOf Tryz.f74))))))))))::.b 1::.l k (cP (cB (cL (cR (cR (cR (bodyOf Tryz.f74)))))))::ks) n j i a m u a3 n x b0 _ b2 ?_)
   cases b1 with
   | x0 d e =>
    try dsimp only at h
    by_cases a2:a > d
    ·rw [if_pos a2] at h
     cases h
     exact pkk_sound TTok mix hF 9 (hs:=[.t true]) (ts:=[]) (s:=[0,1]) (l:=[11]) (by kernel_rfl) (by kernel_rfl) (.cons (dt a2) .nil) q
    ·rw [if_neg a2] at h
     by_cases a4:0≤d∧(d).toNat<e.length
     ·rw [if_pos a4] at h
      obtain ⟨c,b3,h⟩:=bind_some h
      by_cases a5:0≤a∧(a).toNat<e.length
      ·rw [if_pos a5] at h
       obtain ⟨g,b4,h⟩:=bind_some h
       by_cases a6:0≤a∧(a).toNat<e.length
       ·rw [if_pos a6] at h
        obtain ⟨b5,b6,h⟩:=bind_some h
        by_cases a7:0≤d∧(d).toNat<(e.set (a).toNat c).length
        ·rw [if_pos a7] at h
         obtain ⟨b7,b8,h⟩:=bind_some h
         exact pkk_sound TTok mix hF 12 (hs:=[.t false,.y (Gb c),.y (Gb g),.w ((e.set (a).toNat c).map Gb),.y (Gb b5),.w (((e.set (a).toNat c).set (d).toNat g).map Gb),.y (Gb b7)]) (ts:=[]) (s:=[0,1]) (l:=[0,1,4,11,12]) (by kernel_rfl) (by kernel_rfl) (.cons (df a2) (.cons (idx_ob (f:=Gb) a4) (.cons (get_ob (f:=Gb) b3) (.cons (idx_ob (f:=Gb) a5) (.cons (get_ob (f:=Gb) b4) (.cons (idx_ob (f:=Gb) a6) (.cons (get_ob (f:=Gb) b6) (.cons (Eq.refl (pcells (.agg [.v (.string c.fName),.v (.int .i64 c.fIno)]))) (.cons (set_ob (f:=Gb) (l:=e) (k:=(a).toNat) (z:=c) (p:=.agg [.v (.string c.fName),.v (.int .i64 c.fIno)]) rfl) (.cons (idx_ob (f:=Gb) a7) (.cons (get_ob (f:=Gb) b8) (.cons (Eq.refl (pcells (.agg [.v (.string g.fName),.v (.int .i64 g.fIno)]))) (.cons (set_ob (f:=Gb) (l:=(e.set (a).toNat c)) (k:=(d).toNat) (z:=g) (p:=.agg [.v (.string g.fName),.v (.int .i64 g.fIno)]) rfl) .nil))))))))))))) (Kk hF ks n j i m u a3 k (wi .i64 (a+1)) (wi .i64 (d-1)) ((e.set (a).toNat c).set (d).toNat g) _ h q)
        ·rw [if_neg a7] at h; cases h
       ·rw [if_neg a6] at h; cases h
      ·rw [if_neg a5] at h; cases h
     ·rw [if_neg a4] at h; cases h
/- slices.partitionEqualCmpFunc[ringhall/api.Entry] -/
def Gi (n:Nat) (b:(List Ga)) (a e c:Int) (f:(Ga→Ga→Option (Int))):Option (Int×(List Ga)) :=
 if 0≤c∧(c).toNat<b.length then
  (b[(c).toNat]?).bind fun (d:Ga) =>
  if 0≤a∧(a).toNat<b.length then
   (b[(a).toNat]?).bind fun (g:Ga) =>
   if 0≤a∧(a).toNat<b.length then
    (b[(a).toNat]?).bind fun (k:Ga) =>
    if 0≤c∧(c).toNat<(b.set (a).toNat d).length then
     ((b.set (a).toNat d)[(c).toNat]?).bind fun (l:Ga) =>
     (Gm n a f n (wi .i64 (a+1)) (wi .i64 (e-1)) ((b.set (a).toNat d).set (c).toNat g)).bind fun h=>match h with
     | .x0 i j =>
      some (i,j)
    else none
   else none
  else none
 else none
theorem SN (n:Nat) (e:(List Ga)) (a m i:Int) (o:(Ga→Ga→Option (Int))) (q:FuncId) (t:List PV) (a2:∀ (x0:Ga) (x1:Ga) (r:Int),o x0 x1=some r→Ret Tryz.prog q ([Gb x0,Gb x1]++t) ((eI .i64) r)) (r:Int×(List Ga)) (h:Gi n e a m i o=some r):RetH Tryz.prog 74 [.srf 0,.d ((eI .i64) a),.d ((eI .i64) m),.d ((eI .i64) i),.d ((.clo q t))] [.row 25 2 (e.map Gb)] (.d ((eI .i64) r.1)) [.row 25 2 (r.2.map Gb)]:=by
 refine retH_run (n:=90) (fn:=Tryz.f74) (c:=bodyOf Tryz.f74) (by kernel_rfl) (by kernel_rfl) (by kernel_rfl) (by kernel_rfl) ?_
 have hF:KC 90 (FinH Tryz.prog Tryz.f74 [.row 25 2 (e.map Gb)] (.d ((eI .i64) r.1)) [.row 25 2 (r.2.map Gb)]):=FinH.kc' (by kernel_rfl)
 unfold Gi at h
 by_cases u:0≤i∧(i).toNat<e.length
 ·rw [if_pos u] at h
  obtain ⟨g,a3,h⟩:=bind_some h
  by_cases x:0≤a∧(a).toNat<e.length
  ·rw [if_pos x] at h
   obtain ⟨j,a4,h⟩:=bind_some h
   by_cases a0:0≤a∧(a).toNat<e.length
   ·rw [if_pos a0] at h
    obtain ⟨a5,a6,h⟩:=bind_some h
    by_cases a1:0≤i∧(i).toNat<(e.set (a).toNat g).length
    ·rw [if_pos a1] at h
     obtain ⟨a7,a8,h⟩:=bind_some h
     obtain ⟨a9,b0,h⟩:=bind_some h
     refine pkk_sound TTok mix hF 9 (hs:=[.y (Gb g),.y (Gb j),.w ((e.set (a).toNat g).map Gb),.y (Gb a5),.w (((e.set (a).toNat g).set (i).toNat j).map Gb),.y (Gb a7),.n n]) (ts:=[]) (s:=[1,0]) (l:=[0,1,4,11,12]) (by kernel_rfl) (by kernel_rfl) (.cons (idx_ob (f:=Gb) u) (.cons (get_ob (f:=Gb) a3) (.cons (idx_ob (f:=Gb) x) (.cons (get_ob (f:=Gb) a4) (.cons (idx_ob (f:=Gb) a0) (.cons (get_ob (f:=Gb) a6) (.cons (Eq.refl (pcells (.agg [.v (.string g.fName),.v (.int .i64 g.fIno)]))) (.cons (set_ob (f:=Gb) (l:=e) (k:=(a).toNat) (z:=g) (p:=.agg [.v (.string g.fName),.v (.int .i64 g.fIno)]) rfl) (.cons (idx_ob (f:=Gb) a1) (.cons (get_ob (f:=Gb) a8) (.cons (Eq.refl (pcells (.agg [.v (.string j.fName),.v (.int .i64 j.fIno)]))) (.cons (set_ob (f:=Gb) (l:=(e.set (a).toNat g)) (k:=(i).toNat) (z:=j) (p:=.agg [.v (.string j.fName),.v (.int .i64 j.fIno)]) rfl) .nil)))))))))))) (Kk hF (.b 0::.s (cR (cR (cR (cR (bodyOf Tryz.f74)))))::[]) n a o q t a2 n (wi .i64 (a+1)) (wi .i64 (m-1)) ((e.set (a).toNat g).set (i).toNat j) _ b0 ?_)
     cases a9 with
     | x0 b1 b2 =>
      try dsimp only at h
      obtain rfl:=Option.some.inj h
      exact pendH_sound TTok mix 4 (hs:=[]) [1] (by kernel_rfl) (by kernel_rfl) (by kernel_rfl) .nil
    ·rw [if_neg a1] at h; cases h
   ·rw [if_neg a0] at h; cases h
  ·rw [if_neg x] at h; cases h
 ·rw [if_neg u] at h; cases h
inductive Sp where
 | x0 (a:Int) (b:(List Ga))
def Yr:Sp→Ex
 | .x0 _ _=>.exit 0
def Ys (a:Int) (h:(Ga→Ga→Option (Int))) (b:Int) (c:FuncId) (e:(List PV)):Sp→PS
 | .x0 f g=>⟨(.srf 1::di a::dd::dd::.d (.clo c e)::dd::dd::dd::dd::dd::dd::dd::di f::di (wi .i64 (b-1))::(dds 164 [])),[.gh 0 (.srf 1),.row 25 2 (g.map Gb)]⟩
def Yt (a:Int) (h:(Ga→Ga→Option (Int))) (b:Int) (c:FuncId) (e:(List PV)) (f:Int) (g:(List Ga)):PS:=⟨(.srf 1::di a::dd::dd::.d (.clo c e)::dd::dd::dd::dd::dd::dd::dd::di f::di (wi .i64 (b-1))::(dds 164 [])),[.gh 0 (.srf 1),.row 25 2 (g.map Gb)]⟩
def Gu (n:Nat) (c:Int) (d:(Ga→Ga→Option (Int))) (e:Int):Nat→Int→(List Ga)→Option Sp
 | 0,_,_=>none
 | k+1,a,b =>
  if a≤(wi .i64 (e-1)) then
   if 0≤a∧(a).toNat<b.length then
    (b[(a).toNat]?).bind fun (f:Ga) =>
    if 0≤c∧(c).toNat<b.length then
     (b[(c).toNat]?).bind fun (g:Ga) =>
     (d f g).bind fun (h:(Int)) =>
     if h<0 then
      Gu n c d e k (wi .i64 (a+1)) b
     else
      some (.x0 a b)
    else none
   else none
  else
   some (.x0 a b)
theorem KE {Fi:Ex→PS→Prop} (hF:KC 178 Fi) (ks:List Fr) (n:Nat) (d:Int) (e:(Ga→Ga→Option (Int))) (g:Int) (j:FuncId) (m:(List PV)) (z:∀ (x0:Ga) (x1:Ga) (r:Int),e x0 x1=some r→Ret Tryz.prog j ([Gb x0,Gb x1]++m) ((eI .i64) r)):∀ (k:Nat) (a:Int) (b:(List Ga)) (o:Sp),Gu n d e g k a b=some o→RunE Tryz.prog 178 Fi ks (Yr o) (Ys d e g j m o)→RunE Tryz.prog 178 Fi (.l k (cP (cB (cL (cR (cR (cR (bodyOf Tryz.f75)))))))::ks) .normal (Yt d e g j m a b)
 | 0,a,b,o,h,q=>by rw [Gu] at h; cases h
 | k+1,a,b,o,h,q=>by
  rw [Gu] at h
  by_cases i:a≤(wi .i64 (g-1))
  ·rw [if_pos i] at h
   by_cases p:0≤a∧(a).toNat<b.length
   ·rw [if_pos p] at h
    obtain ⟨u,a1,h⟩:=bind_some h
    by_cases v:0≤d∧(d).toNat<b.length
    ·rw [if_pos v] at h
     obtain ⟨w,a2,h⟩:=bind_some h
     obtain ⟨a0,a3,h⟩:=bind_some h
     by_cases x:a0<0
     ·rw [if_pos x] at h
      exact pkk_sound TTok mix hF 9 (hs:=[.t true,.c,.c,.c,.c,.y (Gb u),.c,.c,.c,.c,.y (Gb w),.c,.r ((eI .i64) a0),.c,.t true]) (ts:=[]) (s:=[0,1]) (l:=[0,1,4,12,13]) (by kernel_rfl) (by kernel_rfl) (.cons (dt i) (.cons (idx_ob (f:=Gb) p) (.cons (get_ob (f:=Gb) a1) (.cons (idx_ob (f:=Gb) v) (.cons (get_ob (f:=Gb) a2) (.cons (z u w _ a3) (.cons (dt x) .nil))))))) (KE hF ks n d e g j m z k (wi .i64 (a+1)) b _ h q)
     ·rw [if_neg x] at h
      cases h
      exact pkk_sound TTok mix hF 8 (hs:=[.t true,.c,.c,.c,.c,.y (Gb u),.c,.c,.c,.c,.y (Gb w),.c,.r ((eI .i64) a0),.c,.t false]) (ts:=[]) (s:=[0,1]) (l:=[0,1,4,12,13]) (by kernel_rfl) (by kernel_rfl) (.cons (dt i) (.cons (idx_ob (f:=Gb) p) (.cons (get_ob (f:=Gb) a1) (.cons (idx_ob (f:=Gb) v) (.cons (get_ob (f:=Gb) a2) (.cons (z u w _ a3) (.cons (df x) .nil))))))) q
    ·rw [if_neg v] at h; cases h
   ·rw [if_neg p] at h; cases h
  ·rw [if_neg i] at h
   cases h
   exact pkk_sound TTok mix hF 8 (hs:=[.t false,.c,.c,.c,.c,.c,.c,.c,.c,.c,.c,.c]) (ts:=[]) (s:=[0,1]) (l:=[0,1,4,12,13]) (by kernel_rfl) (by kernel_rfl) (.cons (df i) .nil) q
inductive Sq where
 | x0 (a:Int) (b:(List Ga))
def Yu:Sq→Ex
 | .x0 _ _=>.exit 2
def Yv (a:Int) (h:(Ga→Ga→Option (Int))) (b:Int) (c:FuncId) (e:(List PV)):Sq→PS
 | .x0 f g=>⟨(.srf 1::di a::dd::dd::.d (.clo c e)::dd::dd::dd::dd::dd::dd::dd::di b::di f::(dds 164 [])),[.gh 0 (.srf 1),.row 25 2 (g.map Gb)]⟩
def Yw (a:Int) (h:(Ga→Ga→Option (Int))) (b:Int) (c:FuncId) (e:(List PV)) (f:Int) (g:(List Ga)):PS:=⟨(.srf 1::di a::dd::dd::.d (.clo c e)::dd::dd::dd::dd::dd::dd::dd::di b::di f::(dds 164 [])),[.gh 0 (.srf 1),.row 25 2 (g.map Gb)]⟩
def Gv (n:Nat) (c:Int) (d:(Ga→Ga→Option (Int))) (e:Int):Nat→Int→(List Ga)→Option Sq
 | 0,_,_=>none
 | k+1,a,b =>
  if e≤a then
   if 0≤a∧(a).toNat<b.length then
    (b[(a).toNat]?).bind fun (f:Ga) =>
    if 0≤c∧(c).toNat<b.length then
     (b[(c).toNat]?).bind fun (g:Ga) =>
     (d f g).bind fun (h:(Int)) =>
     if h<0 then
      some (.x0 a b)
     else
      Gv n c d e k (wi .i64 (a-1)) b
    else none
   else none
  else
   some (.x0 a b)
theorem KF {Fi:Ex→PS→Prop} (hF:KC 178 Fi) (ks:List Fr) (n:Nat) (d:Int) (e:(Ga→Ga→Option (Int))) (g:Int) (j:FuncId) (m:(List PV)) (z:∀ (x0:Ga) (x1:Ga) (r:Int),e x0 x1=some r→Ret Tryz.prog j ([Gb x0,Gb x1]++m) ((eI .i64) r)):∀ (k:Nat) (a:Int) (b:(List Ga)) (o:Sq),Gv n d e g k a b=some o→RunE Tryz.prog 178 Fi ks (Yu o) (Yv d e g j m o)→RunE Tryz.prog 178 Fi (.l k (cP (cB (cL (cR (cR (cR (cR (bodyOf Tryz.f75))))))))::ks) .normal (Yw d e g j m a b)
 | 0,a,b,o,h,q=>by rw [Gv] at h; cases h
 | k+1,a,b,o,h,q=>by
  rw [Gv] at h
  by_cases i:g≤a
  ·rw [if_pos i] at h
   by_cases p:0≤a∧(a).toNat<b.length
   ·rw [if_pos p] at h
    obtain ⟨u,a1,h⟩:=bind_some h
    by_cases v:0≤d∧(d).toNat<b.length
    ·rw [if_pos v] at h
     obtain ⟨w,a2,h⟩:=bind_some h
     obtain ⟨a0,a3,h⟩:=bind_some h
     by_cases x:a0<0
     ·rw [if_pos x] at h
      cases h
      exact pkk_sound TTok mix hF 8 (hs:=[.t true,.c,.c,.c,.c,.y (Gb u),.c,.c,.c,.c,.y (Gb w),.c,.r ((eI .i64) a0),.c,.c,.t false]) (ts:=[]) (s:=[0,1]) (l:=[0,1,4,12,13]) (by kernel_rfl) (by kernel_rfl) (.cons (dt i) (.cons (idx_ob (f:=Gb) p) (.cons (get_ob (f:=Gb) a1) (.cons (idx_ob (f:=Gb) v) (.cons (get_ob (f:=Gb) a2) (.cons (z u w _ a3) (.cons (bnf (dt x)) .nil))))))) q
     ·rw [if_neg x] at h
      exact pkk_sound TTok mix hF 9 (hs:=[.t true,.c,.c,.c,.c,.y (Gb u),.c,.c,.c,.c,.y (Gb w),.c,.r ((eI .i64) a0),.c,.c,.t true]) (ts:=[]) (s:=[0,1]) (l:=[0,1,4,12,13]) (by kernel_rfl) (by kernel_rfl) (.cons (dt i) (.cons (idx_ob (f:=Gb) p) (.cons (get_ob (f:=Gb) a1) (.cons (idx_ob (f:=Gb) v) (.cons (get_ob (f:=Gb) a2) (.cons (z u w _ a3) (.cons (bnt (df x)) .nil))))))) (KF hF ks n d e g j m z k (wi .i64 (a-1)) b _ h q)
    ·rw [if_neg v] at h; cases h
   ·rw [if_neg p] at h; cases h
  ·rw [if_neg i] at h
   cases h
   exact pkk_sound TTok mix hF 8 (hs:=[.t false,.c,.c,.c,.c,.c,.c,.c,.c,.c,.c,.c,.c]) (ts:=[]) (s:=[0,1]) (l:=[0,1,4,12,13]) (by kernel_rfl) (by kernel_rfl) (.cons (df i) .nil) q
inductive Sr where
 | x0 (a:Int) (b:(List Ga))
def Yx:Sr→Ex
 | .x0 _ _=>.exit 6
def Yy (a:Int) (h:(Ga→Ga→Option (Int))) (b:Int) (c:FuncId) (e:(List PV)):Sr→PS
 | .x0 f g=>⟨(.srf 1::di a::dd::dd::.d (.clo c e)::dd::dd::dd::dd::dd::dd::dd::di f::di b::(dds 164 [])),[.gh 0 (.srf 1),.row 25 2 (g.map Gb)]⟩
def Yz (a:Int) (h:(Ga→Ga→Option (Int))) (b:Int) (c:FuncId) (e:(List PV)) (f:Int) (g:(List Ga)):PS:=⟨(.srf 1::di a::dd::dd::.d (.clo c e)::dd::dd::dd::dd::dd::dd::dd::di f::di b::(dds 164 [])),[.gh 0 (.srf 1),.row 25 2 (g.map Gb)]⟩
def Gw (n:Nat) (c:Int) (d:(Ga→Ga→Option (Int))) (e:Int):Nat→Int→(List Ga)→Option Sr
 | 0,_,_=>none
 | k+1,a,b =>
  if a≤e then
   if 0≤a∧(a).toNat<b.length then
    (b[(a).toNat]?).bind fun (f:Ga) =>
    if 0≤c∧(c).toNat<b.length then
     (b[(c).toNat]?).bind fun (g:Ga) =>
     (d f g).bind fun (h:(Int)) =>
     if h<0 then
      Gw n c d e k (wi .i64 (a+1)) b
     else
      some (.x0 a b)
    else none
   else none
  else
   some (.x0 a b)
theorem KG {Fi:Ex→PS→Prop} (hF:KC 178 Fi) (ks:List Fr) (n:Nat) (d:Int) (e:(Ga→Ga→Option (Int))) (g:Int) (j:FuncId) (m:(List PV)) (z:∀ (x0:Ga) (x1:Ga) (r:Int),e x0 x1=some r→Ret Tryz.prog j ([Gb x0,Gb x1]++m) ((eI .i64) r)):∀ (k:Nat) (a:Int) (b:(List Ga)) (o:Sr),Gw n d e g k a b=some o→RunE Tryz.prog 178 Fi ks (Yx o) (Yy d e g j m o)→RunE Tryz.prog 178 Fi (.l k (cP (cB (cL (cB (cP (cB (cL (cR (cR (cR (cR (cR (cR (cR (cR (cR (bodyOf Tryz.f75)))))))))))))))))::ks) .normal (Yz d e g j m a b)
 | 0,a,b,o,h,q=>by rw [Gw] at h; cases h
 | k+1,a,b,o,h,q=>by
  rw [Gw] at h
  by_cases i:a≤g
  ·rw [if_pos i] at h
   by_cases p:0≤a∧(a).toNat<b.length
   ·rw [if_pos p] at h
    obtain ⟨u,a1,h⟩:=bind_some h
    by_cases v:0≤d∧(d).toNat<b.length
    ·rw [if_pos v] at h
     obtain ⟨w,a2,h⟩:=bind_some h
     obtain ⟨a0,a3,h⟩:=bind_some h
     by_cases x:a0<0
     ·rw [if_pos x] at h
      exact pkk_sound TTok mix hF 9 (hs:=[.t true,.c,.c,.c,.c,.y (Gb u),.c,.c,.c,.c,.y (Gb w),.c,.r ((eI .i64) a0),.c,.t true]) (ts:=[]) (s:=[0,1]) (l:=[0,1,4,12,13]) (by kernel_rfl) (by kernel_rfl) (.cons (dt i) (.cons (idx_ob (f:=Gb) p) (.cons (get_ob (f:=Gb) a1) (.cons (idx_ob (f:=Gb) v) (.cons (get_ob (f:=Gb) a2) (.cons (z u w _ a3) (.cons (dt x) .nil))))))) (KG hF ks n d e g j m z k (wi .i64 (a+1)) b _ h q)
     ·rw [if_neg x] at h
      cases h
      exact pkk_sound TTok mix hF 8 (hs:=[.t true,.c,.c,.c,.c,.y (Gb u),.c,.c,.c,.c,.y (Gb w),.c,.r ((eI .i64) a0),.c,.t false]) (ts:=[]) (s:=[0,1]) (l:=[0,1,4,12,13]) (by kernel_rfl) (by kernel_rfl) (.cons (dt i) (.cons (idx_ob (f:=Gb) p) (.cons (get_ob (f:=Gb) a1) (.cons (idx_ob (f:=Gb) v) (.cons (get_ob (f:=Gb) a2) (.cons (z u w _ a3) (.cons (df x) .nil))))))) q
    ·rw [if_neg v] at h; cases h
   ·rw [if_neg p] at h; cases h
  ·rw [if_neg i] at h
   cases h
   exact pkk_sound TTok mix hF 8 (hs:=[.t false,.c,.c,.c,.c,.c,.c,.c,.c,.c,.c,.c]) (ts:=[]) (s:=[0,1]) (l:=[0,1,4,12,13]) (by kernel_rfl) (by kernel_rfl) (.cons (df i) .nil) q
inductive Ss where
 | x0 (a:Int) (b:(List Ga))
def YA:Ss→Ex
 | .x0 _ _=>.exit 8
def YB (a:Int) (h:(Ga→Ga→Option (Int))) (b:Int) (c:FuncId) (e:(List PV)):Ss→PS
 | .x0 f g=>⟨(.srf 1::di a::dd::dd::.d (.clo c e)::dd::dd::dd::dd::dd::dd::dd::di b::di f::(dds 164 [])),[.gh 0 (.srf 1),.row 25 2 (g.map Gb)]⟩
def YC (a:Int) (h:(Ga→Ga→Option (Int))) (b:Int) (c:FuncId) (e:(List PV)) (f:Int) (g:(List Ga)):PS:=⟨(.srf 1::di a::dd::dd::.d (.clo c e)::dd::dd::dd::dd::dd::dd::dd::di b::di f::(dds 164 [])),[.gh 0 (.srf 1),.row 25 2 (g.map Gb)]⟩
def Gx (n:Nat) (c:Int) (d:(Ga→Ga→Option (Int))) (e:Int):Nat→Int→(List Ga)→Option Ss
 | 0,_,_=>none
 | k+1,a,b =>
  if e≤a then
   if 0≤a∧(a).toNat<b.length then
    (b[(a).toNat]?).bind fun (f:Ga) =>
    if 0≤c∧(c).toNat<b.length then
     (b[(c).toNat]?).bind fun (g:Ga) =>
     (d f g).bind fun (h:(Int)) =>
     if h<0 then
      some (.x0 a b)
     else
      Gx n c d e k (wi .i64 (a-1)) b
    else none
   else none
  else
   some (.x0 a b)
theorem KH {Fi:Ex→PS→Prop} (hF:KC 178 Fi) (ks:List Fr) (n:Nat) (d:Int) (e:(Ga→Ga→Option (Int))) (g:Int) (j:FuncId) (m:(List PV)) (z:∀ (x0:Ga) (x1:Ga) (r:Int),e x0 x1=some r→Ret Tryz.prog j ([Gb x0,Gb x1]++m) ((eI .i64) r)):∀ (k:Nat) (a:Int) (b:(List Ga)) (o:Ss),Gx n d e g k a b=some o→RunE Tryz.prog 178 Fi ks (YA o) (YB d e g j m o)→RunE Tryz.prog 178 Fi (.l k (cP (cB (cL (cR (cB (cP (cB (cL (cR (cR (cR (cR (cR (cR (cR (cR (cR (bodyOf Tryz.f75))))))))))))))))))::ks) .normal (YC d e g j m a b)
 | 0,a,b,o,h,q=>by rw [Gx] at h; cases h
 | k+1,a,b,o,h,q=>by
  rw [Gx] at h
  by_cases i:g≤a
  ·rw [if_pos i] at h
   by_cases p:0≤a∧(a).toNat<b.length
   ·rw [if_pos p] at h
    obtain ⟨u,a1,h⟩:=bind_some h
    by_cases v:0≤d∧(d).toNat<b.length
    ·rw [if_pos v] at h
     obtain ⟨w,a2,h⟩:=bind_some h
     obtain ⟨a0,a3,h⟩:=bind_some h
     by_cases x:a0<0
     ·rw [if_pos x] at h
      cases h
      exact pkk_sound TTok mix hF 8 (hs:=[.t true,.c,.c,.c,.c,.y (Gb u),.c,.c,.c,.c,.y (Gb w),.c,.r ((eI .i64) a0),.c,.c,.t false]) (ts:=[]) (s:=[0,1]) (l:=[0,1,4,12,13]) (by kernel_rfl) (by kernel_rfl) (.cons (dt i) (.cons (idx_ob (f:=Gb) p) (.cons (get_ob (f:=Gb) a1) (.cons (idx_ob (f:=Gb) v) (.cons (get_ob (f:=Gb) a2) (.cons (z u w _ a3) (.cons (bnf (dt x)) .nil))))))) q
     ·rw [if_neg x] at h
      exact pkk_sound TTok mix hF 9 (hs:=[.t true,.c,.c,.c,.c,.y (Gb u),.c,.c,.c,.c,.y (Gb w),.c,.r ((eI .i64) a0),.c,.c,.t true]) (ts:=[]) (s:=[0,1]) (l:=[0,1,4,12,13]) (by kernel_rfl) (by kernel_rfl) (.cons (dt i) (.cons (idx_ob (f:=Gb) p) (.cons (get_ob (f:=Gb) a1) (.cons (idx_ob (f:=Gb) v) (.cons (get_ob (f:=Gb) a2) (.cons (z u w _ a3) (.cons (bnt (df x)) .nil))))))) (KH hF ks n d e g j m z k (wi .i64 (a-1)) b _ h q)
    ·rw [if_neg v] at h; cases h
   ·rw [if_neg p] at h; cases h
  ·rw [if_neg i] at h
   cases h
   exact pkk_sound TTok mix hF 8 (hs:=[.t false,.c,.c,.c,.c,.c,.c,.c,.c,.c,.c,.c,.c]) (ts:=[]) (s:=[0,1]) (l:=[0,1,4,12,13]) (by kernel_rfl) (by kernel_rfl) (.cons (df i) .nil) q
inductive St where
 | x0 (a:Int) (b:(List Ga))
def YD:St→Ex
 | .x0 _ _=>.exit 4
def YE (a:Int) (e:(Ga→Ga→Option (Int))) (f:FuncId) (g:(List PV)):St→PS
 | .x0 b c=>⟨(.srf 1::di a::(dds 11 (di b::(dds 164 [])))),[.gh 0 (.srf 1),.row 25 2 (c.map Gb)]⟩
def YF (a:Int) (h:(Ga→Ga→Option (Int))) (b:FuncId) (c:(List PV)) (e f:Int) (g:(List Ga)):PS:=⟨(.srf 1::di a::dd::dd::.d (.clo b c)::dd::dd::dd::dd::dd::dd::dd::di e::di f::(dds 164 [])),[.gh 0 (.srf 1),.row 25 2 (g.map Gb)]⟩
def Gy (n:Nat) (d:Int) (e:(Ga→Ga→Option (Int))):Nat→Int→Int→(List Ga)→Option St
 | 0,_,_,_=>none
 | k+1,h,g,i =>
  (Gw n d e g n h i).bind fun j=>match j with
  | .x0 a l =>
   (Gx n d e a n g l).bind fun m=>match m with
   | .x0 b c =>
    if a > b then
     some (.x0 b c)
    else
     if 0≤b∧(b).toNat<c.length then
      (c[(b).toNat]?).bind fun (f:Ga) =>
      if 0≤a∧(a).toNat<c.length then
       (c[(a).toNat]?).bind fun (o:Ga) =>
       if 0≤a∧(a).toNat<c.length then
        (c[(a).toNat]?).bind fun (p:Ga) =>
        if 0≤b∧(b).toNat<(c.set (a).toNat f).length then
         ((c.set (a).toNat f)[(b).toNat]?).bind fun (q:Ga) =>
         Gy n d e k (wi .i64 (a+1)) (wi .i64 (b-1)) ((c.set (a).toNat f).set (b).toNat o)
        else none
       else none
      else none
     else none
theorem KI {Fi:Ex→PS→Prop} (hF:KC 178 Fi) (ks:List Fr) (n:Nat) (j:Int) (i:(Ga→Ga→Option (Int))) (m:FuncId) (u:(List PV)) (a3:∀ (x0:Ga) (x1:Ga) (r:Int),i x0 x1=some r→Ret Tryz.prog m ([Gb x0,Gb x1]++u) ((eI .i64) r)):∀ (k:Nat) (a0 x:Int) (a1:(List Ga)) (o:St),Gy n j i k a0 x a1=some o→RunE Tryz.prog 178 Fi ks (YD o) (YE j i m u o)→RunE Tryz.prog 178 Fi (.l k (cP (cB (cL (cR (cR (cR (cR (cR (cR (cR (cR (cR (bodyOf Tryz.f75)))))))))))))::ks) .normal (YF j i m u a0 x a1)
 | 0,a0,x,a1,o,h,q=>by rw [Gy] at h; cases h
 | k+1,a0,x,a1,o,h,q=>by
  rw [Gy] at h
  obtain ⟨a8,a9,h⟩:=bind_some h
  refine pkk_sound TTok mix hF 5 (hs:=[.n n]) (ts:=[]) (s:=[0,1]) (l:=[0,1,4,12,13]) (by kernel_rfl) (by kernel_rfl) .nil (KG hF (.b 6::.s (cR (cB (cP (cB (cL (cR (cR (cR (cR (cR (cR (cR (cR (cR (bodyOf Tryz.f75)))))))))))))))::.b 5::.l k (cP (cB (cL (cR (cR (cR (cR (cR (cR (cR (cR (cR (bodyOf Tryz.f75)))))))))))))::ks) n j i x m u a3 n a0 a1 _ a9 ?_)
  cases a8 with
  | x0 a b0 =>
   try dsimp only at h
   obtain ⟨b1,b2,h⟩:=bind_some h
   refine pkk_sound TTok mix hF 4 (hs:=[.n n]) (ts:=[]) (s:=[0,1]) (l:=[0,1,4,12,13]) (by kernel_rfl) (by kernel_rfl) .nil (KH hF (.b 8::.s (cR (cR (cB (cP (cB (cL (cR (cR (cR (cR (cR (cR (cR (cR (cR (bodyOf Tryz.f75))))))))))))))))::.b 5::.l k (cP (cB (cL (cR (cR (cR (cR (cR (cR (cR (cR (cR (bodyOf Tryz.f75)))))))))))))::ks) n j i a m u a3 n x b0 _ b2 ?_)
   cases b1 with
   | x0 d e =>
    try dsimp only at h
    by_cases a2:a > d
    ·rw [if_pos a2] at h
     cases h
     exact pkk_sound TTok mix hF 9 (hs:=[.t true]) (ts:=[]) (s:=[0,1]) (l:=[0,1,13]) (by kernel_rfl) (by kernel_rfl) (.cons (dt a2) .nil) q
    ·rw [if_neg a2] at h
     by_cases a4:0≤d∧(d).toNat<e.length
     ·rw [if_pos a4] at h
      obtain ⟨c,b3,h⟩:=bind_some h
      by_cases a5:0≤a∧(a).toNat<e.length
      ·rw [if_pos a5] at h
       obtain ⟨g,b4,h⟩:=bind_some h
       by_cases a6:0≤a∧(a).toNat<e.length
       ·rw [if_pos a6] at h
        obtain ⟨b5,b6,h⟩:=bind_some h
        by_cases a7:0≤d∧(d).toNat<(e.set (a).toNat c).length
        ·rw [if_pos a7] at h
         obtain ⟨b7,b8,h⟩:=bind_some h
         exact pkk_sound TTok mix hF 12 (hs:=[.t false,.y (Gb c),.y (Gb g),.w ((e.set (a).toNat c).map Gb),.y (Gb b5),.w (((e.set (a).toNat c).set (d).toNat g).map Gb),.y (Gb b7)]) (ts:=[]) (s:=[0,1]) (l:=[0,1,4,12,13]) (by kernel_rfl) (by kernel_rfl) (.cons (df a2) (.cons (idx_ob (f:=Gb) a4) (.cons (get_ob (f:=Gb) b3) (.cons (idx_ob (f:=Gb) a5) (.cons (get_ob (f:=Gb) b4) (.cons (idx_ob (f:=Gb) a6) (.cons (get_ob (f:=Gb) b6) (.cons (Eq.refl (pcells (.agg [.v (.string c.fName),.v (.int .i64 c.fIno)]))) (.cons (set_ob (f:=Gb) (l:=e) (k:=(a).toNat) (z:=c) (p:=.agg [.v (.string c.fName),.v (.int .i64 c.fIno)]) rfl) (.cons (idx_ob (f:=Gb) a7) (.cons (get_ob (f:=Gb) b8) (.cons (Eq.refl (pcells (.agg [.v (.string g.fName),.v (.int .i64 g.fIno)]))) (.cons (set_ob (f:=Gb) (l:=(e.set (a).toNat c)) (k:=(d).toNat) (z:=g) (p:=.agg [.v (.string g.fName),.v (.int .i64 g.fIno)]) rfl) .nil))))))))))))) (KI hF ks n j i m u a3 k (wi .i64 (a+1)) (wi .i64 (d-1)) ((e.set (a).toNat c).set (d).toNat g) _ h q)
        ·rw [if_neg a7] at h; cases h
       ·rw [if_neg a6] at h; cases h
      ·rw [if_neg a5] at h; cases h
     ·rw [if_neg a4] at h; cases h
/- slices.partitionCmpFunc[ringhall/api.Entry] -/
def Gs (n:Nat) (f:(List Ga)) (a o h:Int) (i:(Ga→Ga→Option (Int))):Option (Int×Bool×(List Ga)) :=
 if 0≤h∧(h).toNat<f.length then
  (f[(h).toNat]?).bind fun (j:Ga) =>
  if 0≤a∧(a).toNat<f.length then
   (f[(a).toNat]?).bind fun (p:Ga) =>
   if 0≤a∧(a).toNat<f.length then
    (f[(a).toNat]?).bind fun (x:Ga) =>
    if 0≤h∧(h).toNat<(f.set (a).toNat j).length then
     ((f.set (a).toNat j)[(h).toNat]?).bind fun (y:Ga) =>
     (Gu n a i o n (wi .i64 (a+1)) ((f.set (a).toNat j).set (h).toNat p)).bind fun q=>match q with
     | .x0 d r =>
      (Gv n a i d n (wi .i64 (o-1)) r).bind fun s=>match s with
      | .x0 b c =>
       if d > b then
        if 0≤a∧(a).toNat<c.length then
         (c[(a).toNat]?).bind fun (k:Ga) =>
         if 0≤b∧(b).toNat<c.length then
          (c[(b).toNat]?).bind fun (t:Ga) =>
          if 0≤b∧(b).toNat<c.length then
           (c[(b).toNat]?).bind fun (z:Ga) =>
           if 0≤a∧(a).toNat<(c.set (b).toNat k).length then
            ((c.set (b).toNat k)[(a).toNat]?).bind fun (a0:Ga) =>
            some (b,true,((c.set (b).toNat k).set (a).toNat t))
           else none
          else none
         else none
        else none
       else
        if 0≤b∧(b).toNat<c.length then
         (c[(b).toNat]?).bind fun (l:Ga) =>
         if 0≤d∧(d).toNat<c.length then
          (c[(d).toNat]?).bind fun (u:Ga) =>
          if 0≤d∧(d).toNat<c.length then
           (c[(d).toNat]?).bind fun (a1:Ga) =>
           if 0≤b∧(b).toNat<(c.set (d).toNat l).length then
            ((c.set (d).toNat l)[(b).toNat]?).bind fun (a2:Ga) =>
            (Gy n a i n (wi .i64 (d+1)) (wi .i64 (b-1)) ((c.set (d).toNat l).set (b).toNat u)).bind fun v=>match v with
            | .x0 e g =>
             if 0≤a∧(a).toNat<g.length then
              (g[(a).toNat]?).bind fun (m:Ga) =>
              if 0≤e∧(e).toNat<g.length then
               (g[(e).toNat]?).bind fun (w:Ga) =>
               if 0≤e∧(e).toNat<g.length then
                (g[(e).toNat]?).bind fun (a3:Ga) =>
                if 0≤a∧(a).toNat<(g.set (e).toNat m).length then
                 ((g.set (e).toNat m)[(a).toNat]?).bind fun (a4:Ga) =>
                 some (e,false,((g.set (e).toNat m).set (a).toNat w))
                else none
               else none
              else none
             else none
           else none
          else none
         else none
        else none
    else none
   else none
  else none
 else none
theorem GI (n:Nat) (j:(List Ga)) (a a9 x:Int) (a6:(Ga→Ga→Option (Int))) (a7:FuncId) (a8:List PV) (b1:∀ (x0:Ga) (x1:Ga) (r:Int),a6 x0 x1=some r→Ret Tryz.prog a7 ([Gb x0,Gb x1]++a8) ((eI .i64) r)) (r:Int×Bool×(List Ga)) (h:Gs n j a a9 x a6=some r):RetH Tryz.prog 75 [.srf 0,.d ((eI .i64) a),.d ((eI .i64) a9),.d ((eI .i64) x),.d ((.clo a7 a8))] [.row 25 2 (j.map Gb)] (.tup [.d ((eI .i64) r.1),.d (eB r.2.1)]) [.row 25 2 (r.2.2.map Gb)]:=by
 refine retH_run (n:=178) (fn:=Tryz.f75) (c:=bodyOf Tryz.f75) (by kernel_rfl) (by kernel_rfl) (by kernel_rfl) (by kernel_rfl) ?_
 have hF:KC 178 (FinH Tryz.prog Tryz.f75 [.row 25 2 (j.map Gb)] (.tup [.d ((eI .i64) r.1),.d (eB r.2.1)]) [.row 25 2 (r.2.2.map Gb)]):=FinH.kc' (by kernel_rfl)
 unfold Gs at h
 by_cases b2:0≤x∧(x).toNat<j.length
 ·rw [if_pos b2] at h
  obtain ⟨m,c8,h⟩:=bind_some h
  by_cases b3:0≤a∧(a).toNat<j.length
  ·rw [if_pos b3] at h
   obtain ⟨a1,c9,h⟩:=bind_some h
   by_cases b4:0≤a∧(a).toNat<j.length
   ·rw [if_pos b4] at h
    obtain ⟨d0,d1,h⟩:=bind_some h
    by_cases b5:0≤x∧(x).toNat<(j.set (a).toNat m).length
    ·rw [if_pos b5] at h
     obtain ⟨d2,d3,h⟩:=bind_some h
     obtain ⟨d4,d5,h⟩:=bind_some h
     refine pkk_sound TTok mix hF 9 (hs:=[.y (Gb m),.y (Gb a1),.w ((j.set (a).toNat m).map Gb),.y (Gb d0),.w (((j.set (a).toNat m).set (x).toNat a1).map Gb),.y (Gb d2),.n n]) (ts:=[]) (s:=[1,0]) (l:=[0,1,4,12,13]) (by kernel_rfl) (by kernel_rfl) (.cons (idx_ob (f:=Gb) b2) (.cons (get_ob (f:=Gb) c8) (.cons (idx_ob (f:=Gb) b3) (.cons (get_ob (f:=Gb) c9) (.cons (idx_ob (f:=Gb) b4) (.cons (get_ob (f:=Gb) d1) (.cons (Eq.refl (pcells (.agg [.v (.string m.fName),.v (.int .i64 m.fIno)]))) (.cons (set_ob (f:=Gb) (l:=j) (k:=(a).toNat) (z:=m) (p:=.agg [.v (.string m.fName),.v (.int .i64 m.fIno)]) rfl) (.cons (idx_ob (f:=Gb) b5) (.cons (get_ob (f:=Gb) d3) (.cons (Eq.refl (pcells (.agg [.v (.string a1.fName),.v (.int .i64 a1.fIno)]))) (.cons (set_ob (f:=Gb) (l:=(j.set (a).toNat m)) (k:=(x).toNat) (z:=a1) (p:=.agg [.v (.string a1.fName),.v (.int .i64 a1.fIno)]) rfl) .nil)))))))))))) (KE hF (.b 0::.s (cR (cR (cR (cR (bodyOf Tryz.f75)))))::[]) n a a6 a9 a7 a8 b1 n (wi .i64 (a+1)) ((j.set (a).toNat m).set (x).toNat a1) _ d5 ?_)
     cases d4 with
     | x0 i d6 =>
      try dsimp only at h
      obtain ⟨d7,d8,h⟩:=bind_some h
      refine pkk_sound TTok mix hF 4 (hs:=[.n n]) (ts:=[]) (s:=[0,1]) (l:=[0,1,4,12,13]) (by kernel_rfl) (by kernel_rfl) .nil (KF hF (.b 2::.s (cR (cR (cR (cR (cR (bodyOf Tryz.f75))))))::[]) n a a6 i a7 a8 b1 n (wi .i64 (a9-1)) d6 _ d8 ?_)
      cases d7 with
      | x0 e g =>
       try dsimp only at h
       by_cases b0:i > e
       ·rw [if_pos b0] at h
        by_cases b6:0≤a∧(a).toNat<g.length
        ·rw [if_pos b6] at h
         obtain ⟨q,d9,h⟩:=bind_some h
         by_cases b7:0≤e∧(e).toNat<g.length
         ·rw [if_pos b7] at h
          obtain ⟨a4,e0,h⟩:=bind_some h
          by_cases b8:0≤e∧(e).toNat<g.length
          ·rw [if_pos b8] at h
           obtain ⟨e1,e2,h⟩:=bind_some h
           by_cases b9:0≤a∧(a).toNat<(g.set (e).toNat q).length
           ·rw [if_pos b9] at h
            obtain ⟨e3,e4,h⟩:=bind_some h
            obtain rfl:=Option.some.inj h
            exact pendH_sound TTok mix 11 (hs:=[.t true,.y (Gb q),.y (Gb a4),.w ((g.set (e).toNat q).map Gb),.y (Gb e1),.w (((g.set (e).toNat q).set (a).toNat a4).map Gb),.y (Gb e3)]) [1] (by kernel_rfl) (by kernel_rfl) (by kernel_rfl) (.cons (dt b0) (.cons (idx_ob (f:=Gb) b6) (.cons (get_ob (f:=Gb) d9) (.cons (idx_ob (f:=Gb) b7) (.cons (get_ob (f:=Gb) e0) (.cons (idx_ob (f:=Gb) b8) (.cons (get_ob (f:=Gb) e2) (.cons (Eq.refl (pcells (.agg [.v (.string q.fName),.v (.int .i64 q.fIno)]))) (.cons (set_ob (f:=Gb) (l:=g) (k:=(e).toNat) (z:=q) (p:=.agg [.v (.string q.fName),.v (.int .i64 q.fIno)]) rfl) (.cons (idx_ob (f:=Gb) b9) (.cons (get_ob (f:=Gb) e4) (.cons (Eq.refl (pcells (.agg [.v (.string a4.fName),.v (.int .i64 a4.fIno)]))) (.cons (set_ob (f:=Gb) (l:=(g.set (e).toNat q)) (k:=(a).toNat) (z:=a4) (p:=.agg [.v (.string a4.fName),.v (.int .i64 a4.fIno)]) rfl) .nil)))))))))))))
           ·rw [if_neg b9] at h; cases h
          ·rw [if_neg b8] at h; cases h
         ·rw [if_neg b7] at h; cases h
        ·rw [if_neg b6] at h; cases h
       ·rw [if_neg b0] at h
        by_cases c0:0≤e∧(e).toNat<g.length
        ·rw [if_pos c0] at h
         obtain ⟨o,e5,h⟩:=bind_some h
         by_cases c1:0≤i∧(i).toNat<g.length
         ·rw [if_pos c1] at h
          obtain ⟨a2,e6,h⟩:=bind_some h
          by_cases c2:0≤i∧(i).toNat<g.length
          ·rw [if_pos c2] at h
           obtain ⟨e7,e8,h⟩:=bind_some h
           by_cases c3:0≤e∧(e).toNat<(g.set (i).toNat o).length
           ·rw [if_pos c3] at h
            obtain ⟨e9,f0,h⟩:=bind_some h
            obtain ⟨f1,f2,h⟩:=bind_some h
            refine pkk_sound TTok mix hF 15 (hs:=[.t false,.y (Gb o),.y (Gb a2),.w ((g.set (i).toNat o).map Gb),.y (Gb e7),.w (((g.set (i).toNat o).set (e).toNat a2).map Gb),.y (Gb e9),.n n]) (ts:=[]) (s:=[0,1]) (l:=[0,1,4,12,13]) (by kernel_rfl) (by kernel_rfl) (.cons (df b0) (.cons (idx_ob (f:=Gb) c0) (.cons (get_ob (f:=Gb) e5) (.cons (idx_ob (f:=Gb) c1) (.cons (get_ob (f:=Gb) e6) (.cons (idx_ob (f:=Gb) c2) (.cons (get_ob (f:=Gb) e8) (.cons (Eq.refl (pcells (.agg [.v (.string o.fName),.v (.int .i64 o.fIno)]))) (.cons (set_ob (f:=Gb) (l:=g) (k:=(i).toNat) (z:=o) (p:=.agg [.v (.string o.fName),.v (.int .i64 o.fIno)]) rfl) (.cons (idx_ob (f:=Gb) c3) (.cons (get_ob (f:=Gb) f0) (.cons (Eq.refl (pcells (.agg [.v (.string a2.fName),.v (.int .i64 a2.fIno)]))) (.cons (set_ob (f:=Gb) (l:=(g.set (i).toNat o)) (k:=(e).toNat) (z:=a2) (p:=.agg [.v (.string a2.fName),.v (.int .i64 a2.fIno)]) rfl) .nil))))))))))))) (KI hF (.b 4::.s (cR (cR (cR (cR (cR (cR (cR (cR (cR (cR (bodyOf Tryz.f75)))))))))))::[]) n a a6 a7 a8 b1 n (wi .i64 (i+1)) (wi .i64 (e-1)) ((g.set (i).toNat o).set (e).toNat a2) _ f2 ?_)
            cases f1 with
            | x0 a0 a3 =>
             try dsimp only at h
             by_cases c4:0≤a∧(a).toNat<a3.length
             ·rw [if_pos c4] at h
              obtain ⟨u,f3,h⟩:=bind_some h
              by_cases c5:0≤a0∧(a0).toNat<a3.length
              ·rw [if_pos c5] at h
               obtain ⟨a5,f4,h⟩:=bind_some h
               by_cases c6:0≤a0∧(a0).toNat<a3.length
               ·rw [if_pos c6] at h
                obtain ⟨f5,f6,h⟩:=bind_some h
                by_cases c7:0≤a∧(a).toNat<(a3.set (a0).toNat u).length
                ·rw [if_pos c7] at h
                 obtain ⟨f7,f8,h⟩:=bind_some h
                 obtain rfl:=Option.some.inj h
                 exact pendH_sound TTok mix 6 (hs:=[.y (Gb u),.y (Gb a5),.w ((a3.set (a0).toNat u).map Gb),.y (Gb f5),.w (((a3.set (a0).toNat u).set (a).toNat a5).map Gb),.y (Gb f7)]) [1] (by kernel_rfl) (by kernel_rfl) (by kernel_rfl) (.cons (idx_ob (f:=Gb) c4) (.cons (get_ob (f:=Gb) f3) (.cons (idx_ob (f:=Gb) c5) (.cons (get_ob (f:=Gb) f4) (.cons (idx_ob (f:=Gb) c6) (.cons (get_ob (f:=Gb) f6) (.cons (Eq.refl (pcells (.agg [.v (.string u.fName),.v (.int .i64 u.fIno)]))) (.cons (set_ob (f:=Gb) (l:=a3) (k:=(a0).toNat) (z:=u) (p:=.agg [.v (.string u.fName),.v (.int .i64 u.fIno)]) rfl) (.cons (idx_ob (f:=Gb) c7) (.cons (get_ob (f:=Gb) f8) (.cons (Eq.refl (pcells (.agg [.v (.string a5.fName),.v (.int .i64 a5.fIno)]))) (.cons (set_ob (f:=Gb) (l:=(a3.set (a0).toNat u)) (k:=(a).toNat) (z:=a5) (p:=.agg [.v (.string a5.fName),.v (.int .i64 a5.fIno)]) rfl) .nil))))))))))))
                ·rw [if_neg c7] at h; cases h
               ·rw [if_neg c6] at h; cases h
              ·rw [if_neg c5] at h; cases h
             ·rw [if_neg c4] at h; cases h
           ·rw [if_neg c3] at h; cases h
          ·rw [if_neg c2] at h; cases h
         ·rw [if_neg c1] at h; cases h
        ·rw [if_neg c0] at h; cases h
    ·rw [if_neg b5] at h; cases h
   ·rw [if_neg b4] at h; cases h
  ·rw [if_neg b3] at h; cases h
 ·rw [if_neg b2] at h; cases h
inductive SA where
 | x0 (a:Int) (b:(List Ga))
def Y3:SA→Ex
 | .x0 _ _=>.normal
def Y4 (a b j:Int) (k:(Ga→Ga→Option (Int))) (c e:Bool) (l:(List Ga)) (f:FuncId) (g:(List PV)):SA→PS
 | .x0 h i=>⟨(.srf 1::di a::di b::di h::.d (.clo f g)::dd::dd::dd::dd::dd::.d (.v (.bool c))::.d (.v (.bool e))::di (wi .i64 (b-a))::(dds 135 [])),[.gh 0 (.srf 1),.row 25 2 (i.map Gb)]⟩
def Y5 (a b e:Int) (j:(Ga→Ga→Option (Int))) (c f:Bool) (g:(List Ga)) (h:FuncId) (i:(List PV))  : PS:=⟨(.srf 1::di a::di b::di e::.d (.clo h i)::dd::dd::dd::dd::dd::.d (.v (.bool c))::.d (.v (.bool f))::di (wi .i64 (b-a))::(dds 26 (.d (.v (.bool (!c)))::(dds 108 [])))),[.gh 0 (.srf 1),.row 25 2 (g.map Gb)]⟩
def Sd (n:Nat) (c d a:Int) (e:(Ga→Ga→Option (Int))) (f h:Bool) (b:(List Ga)):Option SA :=
 if f=true then
  some (.x0 a b)
 else
  (GX n b c d e).bind fun (g:((List Ga))) =>
  some (.x0 (wi .i64 (a-1)) g)
theorem Y6 {Fi:Ex→PS→Prop} (hF:KC 148 Fi) (ks:List Fr) (n:Nat) (b c j:Int) (a:(Ga→Ga→Option (Int))) (d k:Bool) (e:(List Ga)) (f:FuncId) (g:(List PV)) (m:∀ (x0:Ga) (x1:Ga) (r:Int),a x0 x1=some r→Ret Tryz.prog f ([Gb x0,Gb x1]++g) ((eI .i64) r)) (o:SA) (h:Sd n b c j a d k e=some o) (q:RunE Tryz.prog 148 Fi ks (Y3 o) (Y4 b c j a d k e f g o)):RunE Tryz.prog 148 Fi (.s (cR (cL (cR (cR (cR (cB (cP (cB (cR (cR (bodyOf Tryz.f43)))))))))))::ks) .normal (Y5 b c j a d k e f g):=by
 unfold Sd at h
 by_cases i:d=true
 ·rw [if_pos i] at h
  cases h
  exact pkk_sound TTok mix hF 2 (hs:=[.t false]) (ts:=[]) (s:=[0,1]) (l:=[0,1,2,3,4,10,11,12]) (by kernel_rfl) (by kernel_rfl) (.cons (bnf i) .nil) q
 ·rw [if_neg i] at h
  obtain ⟨p,u,h⟩:=bind_some h
  cases h
  exact pkk_sound TTok mix hF 4 (hs:=[.t true,.h [1] [] [.row 25 2 (p.map Gb)] (.tup [])]) (ts:=[]) (s:=[0,1]) (l:=[0,1,2,3,4,10,11,12]) (by kernel_rfl) (by kernel_rfl) (.cons (bnt (vf i)) (.cons (Yh n e b c a f g m _ u) .nil)) q
inductive SB where
 | x0 (a b:Int) (c:(List Ga))
def Y7:SB→Ex
 | .x0 _ _ _=>.normal
def Y8 (a b c:Int) (l:(Ga→Ga→Option (Int))) (e f:Bool) (m:(Int×Int)) (n:(List Ga)) (g:FuncId) (h:(List PV)):SB→PS
 | .x0 i j k=>⟨(.srf 1::di a::di b::di c::.d (.clo g h)::dd::dd::dd::dd::dd::.d (.v (.bool e))::.d (.v (.bool f))::di (wi .i64 (b-a))::di i::di j::(dds 133 [])),[.gh 0 (.srf 1),.row 25 2 (k.map Gb)]⟩
def Y9 (b c e:Int) (k:(Ga→Ga→Option (Int))) (f g:Bool) (a:(Int×Int)) (h:(List Ga)) (i:FuncId) (j:(List PV))  : PS:=⟨(.srf 1::di b::di c::di e::.d (.clo i j)::dd::dd::dd::dd::dd::.d (.v (.bool f))::.d (.v (.bool g))::di (wi .i64 (c-b))::di a.1::di a.2::(dds 41 (.d (.v (.bool (a.2 == 2)))::(dds 91 [])))),[.gh 0 (.srf 1),.row 25 2 (h.map Gb)]⟩
def Se (n:Nat) (b c g:Int) (e:(Ga→Ga→Option (Int))) (h i:Bool) (a:(Int×Int)) (d:(List Ga)):Option SB :=
 if a.2=2 then
  (G0 n d b c e).bind fun (f:((List Ga))) =>
  some (.x0 (wi .i64 ((wi .i64 (c-1))-(wi .i64 (a.1-b)))) 1 f)
 else
  some (.x0 a.1 a.2 d)
theorem Xa {Fi:Ex→PS→Prop} (hF:KC 148 Fi) (ks:List Fr) (n:Nat) (b c j:Int) (a:(Ga→Ga→Option (Int))) (k m:Bool) (d:(Int×Int)) (e:(List Ga)) (f:FuncId) (g:(List PV)) (p:∀ (x0:Ga) (x1:Ga) (r:Int),a x0 x1=some r→Ret Tryz.prog f ([Gb x0,Gb x1]++g) ((eI .i64) r)) (o:SB) (h:Se n b c j a k m d e=some o) (q:RunE Tryz.prog 148 Fi ks (Y7 o) (Y8 b c j a k m d e f g o)):RunE Tryz.prog 148 Fi (.s (cR (cL (cR (cR (cR (cR (cR (cB (cP (cB (cR (cR (bodyOf Tryz.f43)))))))))))))::ks) .normal (Y9 b c j a k m d e f g):=by
 unfold Se at h
 by_cases i:d.2=2
 ·rw [if_pos i] at h
  obtain ⟨u,v,h⟩:=bind_some h
  cases h
  exact pkk_sound TTok mix hF 6 (hs:=[.t true,.h [1] [] [.row 25 2 (u.map Gb)] (.tup [])]) (ts:=[]) (s:=[0,1]) (l:=[0,1,2,3,4,10,11,12,13,14]) (by kernel_rfl) (by kernel_rfl) (.cons (bt i) (.cons (Yq n e b c a f g p _ v) .nil)) q
 ·rw [if_neg i] at h
  cases h
  exact pkk_sound TTok mix hF 2 (hs:=[.t false]) (ts:=[]) (s:=[0,1]) (l:=[0,1,2,3,4,10,11,12,13,14]) (by kernel_rfl) (by kernel_rfl) (.cons (bf i) .nil) q
inductive SC where
 | x0 (a:(List Ga))
 | x1 (b:(List Ga))
def Xb:SC→Ex
 | .x0 _=>.ret
 | .x1 _=>.normal
def Xc (a b c:Int) (l:(Ga→Ga→Option (Int))) (e f:Bool) (g m:Int) (n:(List Ga)) (h:FuncId) (i:(List PV)):SC→PS
 | .x0 j=>⟨(dds 148 []),[.gh 0 (.srf 1),.row 25 2 (j.map Gb)]⟩
 | .x1 k=>⟨(.srf 1::di a::di b::di c::.d (.clo h i)::dd::dd::dd::dd::dd::.d (.v (.bool e))::.d (.v (.bool f))::di (wi .i64 (b-a))::di g::(dds 134 [])),[.gh 0 (.srf 1),.row 25 2 (k.map Gb)]⟩
def Xd (a b c:Int) (l:(Ga→Ga→Option (Int))) (e f:Bool) (g h:Int) (i:(List Ga)) (j:FuncId) (k:(List PV))  : PS:=⟨(.srf 1::di a::di b::di c::.d (.clo j k)::dd::dd::dd::dd::dd::.d (.v (.bool e))::.d (.v (.bool f))::di (wi .i64 (b-a))::di g::(dds 61 (.d (.v (.bool (h == 1)))::(dds 72 [])))),[.gh 0 (.srf 1),.row 25 2 (i.map Gb)]⟩
def Sf (n:Nat) (c d g:Int) (e:(Ga→Ga→Option (Int))) (h i:Bool) (j f:Int) (b:(List Ga)):Option SC :=
 if f=1 then
  (GF n b c d e).bind fun (a:(Bool×(List Ga))) =>
  if a.1=true then
   some (.x0 a.2)
  else
   some (.x1 a.2)
 else
  some (.x1 b)
theorem Xe {Fi:Ex→PS→Prop} (hF:KC 148 Fi) (ks:List Fr) (n:Nat) (b c p:Int) (a:(Ga→Ga→Option (Int))) (u w:Bool) (x k:Int) (e:(List Ga)) (f:FuncId) (g:(List PV)) (y:∀ (x0:Ga) (x1:Ga) (r:Int),a x0 x1=some r→Ret Tryz.prog f ([Gb x0,Gb x1]++g) ((eI .i64) r)) (o:SC) (h:Sf n b c p a u w x k e=some o) (q:RunE Tryz.prog 148 Fi ks (Xb o) (Xc b c p a u w x k e f g o)):RunE Tryz.prog 148 Fi (.s (cR (cL (cR (cR (cR (cR (cR (cR (cB (cP (cB (cR (cR (bodyOf Tryz.f43))))))))))))))::ks) .normal (Xd b c p a u w x k e f g):=by
 unfold Sf at h
 by_cases i:k=1
 ·rw [if_pos i] at h
  obtain ⟨j,z,h⟩:=bind_some h
  by_cases m:j.1=true
  ·rw [if_pos m] at h
   cases h
   exact pkk_sound TTok mix hF 5 (hs:=[.t true,.h [1] [] [.row 25 2 (j.2.map Gb)] (.d (.v (.bool j.1))),.t true]) (ts:=[]) (s:=[0,1]) (l:=[]) (by kernel_rfl) (by kernel_rfl) (.cons (bt i) (.cons (S9 n e b c a f g y _ z) (.cons m .nil))) q
  ·rw [if_neg m] at h
   cases h
   exact pkk_sound TTok mix hF 5 (hs:=[.t true,.h [1] [] [.row 25 2 (j.2.map Gb)] (.d (.v (.bool j.1))),.t false]) (ts:=[]) (s:=[0,1]) (l:=[0,1,2,3,4,10,11,12,13]) (by kernel_rfl) (by kernel_rfl) (.cons (bt i) (.cons (S9 n e b c a f g y _ z) (.cons (vf m) .nil))) q
 ·rw [if_neg i] at h
  cases h
  exact pkk_sound TTok mix hF 2 (hs:=[.t false]) (ts:=[]) (s:=[0,1]) (l:=[0,1,2,3,4,10,11,12,13]) (by kernel_rfl) (by kernel_rfl) (.cons (bf i) .nil) q
inductive G1 where
 | x0 (a:Bool) (b:(List Ga))
def Xf:G1→Ex
 | .x0 _ _=>.normal
def Xg (a b c:Int) (l:(Ga→Ga→Option (Int))) (e f:Bool) (g:Int) (m:(List Ga)) (h:FuncId) (i:(List PV)):G1→PS
 | .x0 j k=>⟨(.srf 1::di a::di b::di c::.d (.clo h i)::dd::dd::dd::dd::dd::.d (.v (.bool e))::.d (.v (.bool f))::di (wi .i64 (b-a))::di g::(dds 83 (.d (.v (.bool j))::(dds 50 [])))),[.gh 0 (.srf 1),.row 25 2 (k.map Gb)]⟩
def Xh (a b c:Int) (k:(Ga→Ga→Option (Int))) (e f:Bool) (g:Int) (h:(List Ga)) (i:FuncId) (j:(List PV))  : PS:=⟨(.srf 1::di a::di b::di c::.d (.clo i j)::dd::dd::dd::dd::dd::.d (.v (.bool e))::.d (.v (.bool f))::di (wi .i64 (b-a))::di g::(dds 134 [])),[.gh 0 (.srf 1),.row 25 2 (h.map Gb)]⟩
def SF (n:Nat) (b h i:Int) (d:(Ga→Ga→Option (Int))) (j k:Bool) (c:Int) (a:(List Ga)):Option G1 :=
 if b > 0 then
  if 0≤(wi .i64 (b-1))∧((wi .i64 (b-1))).toNat<a.length then
   (a[((wi .i64 (b-1))).toNat]?).bind fun (e:Ga) =>
   if 0≤c∧(c).toNat<a.length then
    (a[(c).toNat]?).bind fun (f:Ga) =>
    (d e f).bind fun (g:(Int)) =>
    some (.x0 (!(decide (g<0))) a)
   else none
  else none
 else
  some (.x0 false a)
theorem Xi {Fi:Ex→PS→Prop} (hF:KC 148 Fi) (ks:List Fr) (n:Nat) (a i j:Int) (e:(Ga→Ga→Option (Int))) (k m:Bool) (b:Int) (d:(List Ga)) (p:FuncId) (u:(List PV)) (a0:∀ (x0:Ga) (x1:Ga) (r:Int),e x0 x1=some r→Ret Tryz.prog p ([Gb x0,Gb x1]++u) ((eI .i64) r)) (o:G1) (h:SF n a i j e k m b d=some o) (q:RunE Tryz.prog 148 Fi ks (Xf o) (Xg a i j e k m b d p u o)):RunE Tryz.prog 148 Fi (.s (cL (cL (cR (cR (cR (cR (cR (cR (cR (cB (cP (cB (cR (cR (bodyOf Tryz.f43)))))))))))))))::ks) .normal (Xh a i j e k m b d p u):=by
 unfold SF at h
 by_cases g:a > 0
 ·rw [if_pos g] at h
  by_cases v:0≤(wi .i64 (a-1))∧((wi .i64 (a-1))).toNat<d.length
  ·rw [if_pos v] at h
   obtain ⟨x,a1,h⟩:=bind_some h
   by_cases w:0≤b∧(b).toNat<d.length
   ·rw [if_pos w] at h
    obtain ⟨z,a2,h⟩:=bind_some h
    obtain ⟨a3,a4,h⟩:=bind_some h
    cases h
    exact pkk_sound TTok mix hF 1 (hs:=[.t true,.c,.c,.c,.c,.c,.y (Gb x),.c,.c,.c,.c,.y (Gb z),.c,.r ((eI .i64) a3),.c,.c]) (ts:=[]) (s:=[0,1]) (l:=[0,1,2,3,4,10,11,12,13,97]) (by kernel_rfl) (by kernel_rfl) (.cons (dt g) (.cons (idx_ob (f:=Gb) v) (.cons (get_ob (f:=Gb) a1) (.cons (idx_ob (f:=Gb) w) (.cons (get_ob (f:=Gb) a2) (.cons (a0 x z _ a4) .nil)))))) q
   ·rw [if_neg w] at h; cases h
  ·rw [if_neg v] at h; cases h
 ·rw [if_neg g] at h
  cases h
  exact pkk_sound TTok mix hF 1 (hs:=[.t false,.c,.c,.c,.c,.c,.c,.c,.c,.c,.c,.c,.c]) (ts:=[]) (s:=[0,1]) (l:=[0,1,2,3,4,10,11,12,13,97]) (by kernel_rfl) (by kernel_rfl) (.cons (df g) .nil) q
inductive G2 where
 | x0 (a:Bool) (b:(List Ga))
def Xj:G2→Ex
 | .x0 _ _=>.normal
def Xk (a b c:Int) (l:(Ga→Ga→Option (Int))) (e f:Bool) (g:Int) (m:(List Ga)) (h:FuncId) (i:(List PV)):G2→PS
 | .x0 j k=>⟨(.srf 1::di a::di b::di c::.d (.clo h i)::dd::dd::dd::dd::dd::.d (.v (.bool e))::.d (.v (.bool f))::di (wi .i64 (b-a))::di g::(dds 83 (.d (.v (.bool j))::(dds 50 [])))),[.gh 0 (.srf 1),.row 25 2 (k.map Gb)]⟩
def Xl (a b c:Int) (k:(Ga→Ga→Option (Int))) (e f:Bool) (g:Int) (h:(List Ga)) (i:FuncId) (j:(List PV))  : PS:=⟨(.srf 1::di a::di b::di c::.d (.clo i j)::dd::dd::dd::dd::dd::.d (.v (.bool e))::.d (.v (.bool f))::di (wi .i64 (b-a))::di g::(dds 134 [])),[.gh 0 (.srf 1),.row 25 2 (h.map Gb)]⟩
def SG (n:Nat) (b h i:Int) (d:(Ga→Ga→Option (Int))) (j k:Bool) (c:Int) (a:(List Ga)):Option G2 :=
 if b > 0 then
  if 0≤(wi .i64 (b-1))∧((wi .i64 (b-1))).toNat<a.length then
   (a[((wi .i64 (b-1))).toNat]?).bind fun (e:Ga) =>
   if 0≤c∧(c).toNat<a.length then
    (a[(c).toNat]?).bind fun (f:Ga) =>
    (d e f).bind fun (g:(Int)) =>
    some (.x0 (!(decide (g<0))) a)
   else none
  else none
 else
  some (.x0 false a)
theorem Xm {Fi:Ex→PS→Prop} (hF:KC 148 Fi) (ks:List Fr) (n:Nat) (a i j:Int) (e:(Ga→Ga→Option (Int))) (k m:Bool) (b:Int) (d:(List Ga)) (p:FuncId) (u:(List PV)) (a0:∀ (x0:Ga) (x1:Ga) (r:Int),e x0 x1=some r→Ret Tryz.prog p ([Gb x0,Gb x1]++u) ((eI .i64) r)) (o:G2) (h:SG n a i j e k m b d=some o) (q:RunE Tryz.prog 148 Fi ks (Xj o) (Xk a i j e k m b d p u o)):RunE Tryz.prog 148 Fi (.s (cL (cL (cR (cR (cR (cR (cR (cR (cR (cB (cP (cB (cR (cR (bodyOf Tryz.f43)))))))))))))))::ks) .normal (Xl a i j e k m b d p u):=by
 unfold SG at h
 by_cases g:a > 0
 ·rw [if_pos g] at h
  by_cases v:0≤(wi .i64 (a-1))∧((wi .i64 (a-1))).toNat<d.length
  ·rw [if_pos v] at h
   obtain ⟨x,a1,h⟩:=bind_some h
   by_cases w:0≤b∧(b).toNat<d.length
   ·rw [if_pos w] at h
    obtain ⟨z,a2,h⟩:=bind_some h
    obtain ⟨a3,a4,h⟩:=bind_some h
    cases h
    exact pkk_sound TTok mix hF 1 (hs:=[.t true,.c,.c,.c,.c,.c,.y (Gb x),.c,.c,.c,.c,.y (Gb z),.c,.r ((eI .i64) a3),.c,.c]) (ts:=[]) (s:=[0,1]) (l:=[0,1,2,3,4,10,11,12,13,97]) (by kernel_rfl) (by kernel_rfl) (.cons (dt g) (.cons (idx_ob (f:=Gb) v) (.cons (get_ob (f:=Gb) a1) (.cons (idx_ob (f:=Gb) w) (.cons (get_ob (f:=Gb) a2) (.cons (a0 x z _ a4) .nil)))))) q
   ·rw [if_neg w] at h; cases h
  ·rw [if_neg v] at h; cases h
 ·rw [if_neg g] at h
  cases h
  exact pkk_sound TTok mix hF 1 (hs:=[.t false,.c,.c,.c,.c,.c,.c,.c,.c,.c,.c,.c,.c]) (ts:=[]) (s:=[0,1]) (l:=[0,1,2,3,4,10,11,12,13,97]) (by kernel_rfl) (by kernel_rfl) (.cons (df g) .nil) q
inductive G3 where
 | x0 (a:Bool) (b:(List Ga))
def Xn:G3→Ex
 | .x0 _ _=>.normal
def Xo (a b c:Int) (l:(Ga→Ga→Option (Int))) (e f:Bool) (g:Int) (m:(List Ga)) (h:FuncId) (i:(List PV)):G3→PS
 | .x0 j k=>⟨(.srf 1::di a::di b::di c::.d (.clo h i)::dd::dd::dd::dd::dd::.d (.v (.bool e))::.d (.v (.bool f))::di (wi .i64 (b-a))::di g::(dds 83 (.d (.v (.bool j))::(dds 50 [])))),[.gh 0 (.srf 1),.row 25 2 (k.map Gb)]⟩
def Xp (a b c:Int) (k:(Ga→Ga→Option (Int))) (e f:Bool) (g:Int) (h:(List Ga)) (i:FuncId) (j:(List PV))  : PS:=⟨(.srf 1::di a::di b::di c::.d (.clo i j)::dd::dd::dd::dd::dd::.d (.v (.bool e))::.d (.v (.bool f))::di (wi .i64 (b-a))::di g::(dds 134 [])),[.gh 0 (.srf 1),.row 25 2 (h.map Gb)]⟩
def SH (n:Nat) (b h i:Int) (d:(Ga→Ga→Option (Int))) (j k:Bool) (c:Int) (a:(List Ga)):Option G3 :=
 if b > 0 then
  if 0≤(wi .i64 (b-1))∧((wi .i64 (b-1))).toNat<a.length then
   (a[((wi .i64 (b-1))).toNat]?).bind fun (e:Ga) =>
   if 0≤c∧(c).toNat<a.length then
    (a[(c).toNat]?).bind fun (f:Ga) =>
    (d e f).bind fun (g:(Int)) =>
    some (.x0 (!(decide (g<0))) a)
   else none
  else none
 else
  some (.x0 false a)
theorem Xq {Fi:Ex→PS→Prop} (hF:KC 148 Fi) (ks:List Fr) (n:Nat) (a i j:Int) (e:(Ga→Ga→Option (Int))) (k m:Bool) (b:Int) (d:(List Ga)) (p:FuncId) (u:(List PV)) (a0:∀ (x0:Ga) (x1:Ga) (r:Int),e x0 x1=some r→Ret Tryz.prog p ([Gb x0,Gb x1]++u) ((eI .i64) r)) (o:G3) (h:SH n a i j e k m b d=some o) (q:RunE Tryz.prog 148 Fi ks (Xn o) (Xo a i j e k m b d p u o)):RunE Tryz.prog 148 Fi (.s (cL (cL (cR (cR (cR (cR (cR (cR (cR (cB (cP (cB (cR (cR (bodyOf Tryz.f43)))))))))))))))::ks) .normal (Xp a i j e k m b d p u):=by
 unfold SH at h
 by_cases g:a > 0
 ·rw [if_pos g] at h
  by_cases v:0≤(wi .i64 (a-1))∧((wi .i64 (a-1))).toNat<d.length
  ·rw [if_pos v] at h
   obtain ⟨x,a1,h⟩:=bind_some h
   by_cases w:0≤b∧(b).toNat<d.length
   ·rw [if_pos w] at h
    obtain ⟨z,a2,h⟩:=bind_some h
    obtain ⟨a3,a4,h⟩:=bind_some h
    cases h
    exact pkk_sound TTok mix hF 1 (hs:=[.t true,.c,.c,.c,.c,.c,.y (Gb x),.c,.c,.c,.c,.y (Gb z),.c,.r ((eI .i64) a3),.c,.c]) (ts:=[]) (s:=[0,1]) (l:=[0,1,2,3,4,10,11,12,13,97]) (by kernel_rfl) (by kernel_rfl) (.cons (dt g) (.cons (idx_ob (f:=Gb) v) (.cons (get_ob (f:=Gb) a1) (.cons (idx_ob (f:=Gb) w) (.cons (get_ob (f:=Gb) a2) (.cons (a0 x z _ a4) .nil)))))) q
   ·rw [if_neg w] at h; cases h
  ·rw [if_neg v] at h; cases h
 ·rw [if_neg g] at h
  cases h
  exact pkk_sound TTok mix hF 1 (hs:=[.t false,.c,.c,.c,.c,.c,.c,.c,.c,.c,.c,.c,.c]) (ts:=[]) (s:=[0,1]) (l:=[0,1,2,3,4,10,11,12,13,97]) (by kernel_rfl) (by kernel_rfl) (.cons (df g) .nil) q
inductive Gz where
 | x0 (a:(List Ga))
 | x1 (b c d:Int) (e f:Bool) (g:(List Ga))
def Xr:Gz→Ex
 | .x0 _=>.ret
 | .x1 _ _ _ _ _ _=>.normal
def Xs (k l m:Int) (n:(Ga→Ga→Option (Int))) (o p:Bool) (q:(List Ga)) (r:((List Ga)→Int→Int→Int→Option ((List Ga)))) (a:FuncId) (b:(List PV)):Gz→PS
 | .x0 c=>⟨(dds 148 []),[.gh 0 (.srf 1),.row 25 2 (c.map Gb)]⟩
 | .x1 e f g h i j=>⟨(.srf 1::di e::di f::di g::.d (.clo a b)::dd::dd::dd::dd::dd::.d (.v (.bool h))::.d (.v (.bool i))::(dds 136 [])),[.gh 0 (.srf 1),.row 25 2 (j.map Gb)]⟩
def Xt (a b c:Int) (j:(Ga→Ga→Option (Int))) (e f:Bool) (g:(List Ga)) (k:((List Ga)→Int→Int→Int→Option ((List Ga)))) (h:FuncId) (i:(List PV))  : PS:=⟨(.srf 1::di a::di b::di c::.d (.clo h i)::dd::dd::dd::dd::dd::.d (.v (.bool e))::.d (.v (.bool f))::(dds 136 [])),[.gh 0 (.srf 1),.row 25 2 (g.map Gb)]⟩
def Sg (n:Nat) (b a o:Int) (d:(Ga→Ga→Option (Int))) (h i:Bool) (l:(List Ga)) (k:((List Ga)→Int→Int→Int→Option ((List Ga)))):Option Gz :=
 if (wi .i64 (a-b))≤12 then
  (GV n l b a d).bind fun (w:((List Ga))) =>
  some (.x0 w)
 else
  if o=0 then
   (Sm n l b a d).bind fun (x:((List Ga))) =>
   some (.x0 x)
  else
   (Sd n b a o d h i l).bind fun y=>match y with
   | .x0 c p =>
    (Sj n p b a d).bind fun (z:(Int×Int)) =>
    (Se n b a c d h i z p).bind fun a0=>match a0 with
    | .x0 j a1 m =>
     if h=true then
      if i=true then
       (Sf n b a c d h i j a1 m).bind fun a2=>match a2 with
       | .x0 a3 =>
         some (.x0 a3)
       | .x1 a4 =>
         (SF n b a c d h i j a4).bind fun a5=>match a5 with
         | .x0 a6 q =>
           if a6=true then
            (Gi n q b a j d).bind fun (r:(Int×(List Ga))) =>
            some (.x1 r.1 a c h i r.2)
           else
            (Gs n q b a j d).bind fun (e:(Int×Bool×(List Ga))) =>
            if (wi .i64 (e.1-b))<(wi .i64 (a-e.1)) then
             (k e.2.2 b e.1 c).bind fun (a7:((List Ga))) =>
             some (.x1 (wi .i64 (e.1+1)) a c (decide ((wi .i64 (e.1-b))≥(quoI .i64 (wi .i64 (a-b)) 8))) e.2.1 a7)
            else
             (k e.2.2 (wi .i64 (e.1+1)) a c).bind fun (a8:((List Ga))) =>
             some (.x1 b e.1 c (decide ((wi .i64 (a-e.1))≥(quoI .i64 (wi .i64 (a-b)) 8))) e.2.1 a8)
      else
       (SG n b a c d h i j m).bind fun a9=>match a9 with
       | .x0 b0 s =>
         if b0=true then
          (Gi n s b a j d).bind fun (t:(Int×(List Ga))) =>
          some (.x1 t.1 a c h i t.2)
         else
          (Gs n s b a j d).bind fun (f:(Int×Bool×(List Ga))) =>
          if (wi .i64 (f.1-b))<(wi .i64 (a-f.1)) then
           (k f.2.2 b f.1 c).bind fun (b1:((List Ga))) =>
           some (.x1 (wi .i64 (f.1+1)) a c (decide ((wi .i64 (f.1-b))≥(quoI .i64 (wi .i64 (a-b)) 8))) f.2.1 b1)
          else
           (k f.2.2 (wi .i64 (f.1+1)) a c).bind fun (b2:((List Ga))) =>
           some (.x1 b f.1 c (decide ((wi .i64 (a-f.1))≥(quoI .i64 (wi .i64 (a-b)) 8))) f.2.1 b2)
     else
      (SH n b a c d h i j m).bind fun b3=>match b3 with
      | .x0 b4 u =>
        if b4=true then
         (Gi n u b a j d).bind fun (v:(Int×(List Ga))) =>
         some (.x1 v.1 a c h i v.2)
        else
         (Gs n u b a j d).bind fun (g:(Int×Bool×(List Ga))) =>
         if (wi .i64 (g.1-b))<(wi .i64 (a-g.1)) then
          (k g.2.2 b g.1 c).bind fun (b5:((List Ga))) =>
          some (.x1 (wi .i64 (g.1+1)) a c (decide ((wi .i64 (g.1-b))≥(quoI .i64 (wi .i64 (a-b)) 8))) g.2.1 b5)
         else
          (k g.2.2 (wi .i64 (g.1+1)) a c).bind fun (b6:((List Ga))) =>
          some (.x1 b g.1 c (decide ((wi .i64 (a-g.1))≥(quoI .i64 (wi .i64 (a-b)) 8))) g.2.1 b6)
theorem Xu {Fi:Ex→PS→Prop} (hF:KC 148 Fi) (ks:List Fr) (n:Nat) (a e a1:Int) (f:(Ga→Ga→Option (Int))) (x y:Bool) (z:(List Ga)) (a7:((List Ga)→Int→Int→Int→Option ((List Ga)))) (g:FuncId) (i:(List PV)) (j:∀ (x0:Ga) (x1:Ga) (r:Int),f x0 x1=some r→Ret Tryz.prog g ([Gb x0,Gb x1]++i) ((eI .i64) r)) (a0:∀ (x0:(List Ga)) (x1:Int) (x2:Int) (x3:Int) (r:(List Ga)),a7 x0 x1 x2 x3=some r→RetH Tryz.prog 43 [.srf 0,.d ((eI .i64) x1),.d ((eI .i64) x2),.d ((eI .i64) x3),.d ((.clo g i))] [.row 25 2 (x0.map Gb)] (.tup []) [.row 25 2 (r.map Gb)]) (o:Gz) (h:Sg n a e a1 f x y z a7=some o) (q:RunE Tryz.prog 148 Fi ks (Xr o) (Xs a e a1 f x y z a7 g i o)):RunE Tryz.prog 148 Fi (.s (cP (cB (cR (cR (bodyOf Tryz.f43)))))::ks) .normal (Xt a e a1 f x y z a7 g i):=by
 unfold Sg at h
 by_cases a2:(wi .i64 (e-a))≤12
 ·rw [if_pos a2] at h
  obtain ⟨c5,c6,h⟩:=bind_some h
  cases h
  exact pkk_sound TTok mix hF 12 (hs:=[.t true,.h [1] [] [.row 25 2 (c5.map Gb)] (.tup [])]) (ts:=[]) (s:=[0,1]) (l:=[]) (by kernel_rfl) (by kernel_rfl) (.cons (dt a2) (.cons (Yg n z a e f g i j _ c6) .nil)) q
 ·rw [if_neg a2] at h
  by_cases a8:a1=0
  ·rw [if_pos a8] at h
   obtain ⟨c7,c8,h⟩:=bind_some h
   cases h
   exact pkk_sound TTok mix hF 17 (hs:=[.t false,.t true,.h [1] [] [.row 25 2 (c7.map Gb)] (.tup [])]) (ts:=[]) (s:=[0,1]) (l:=[]) (by kernel_rfl) (by kernel_rfl) (.cons (df a2) (.cons (bt a8) (.cons (XJ n z a e f g i j _ c8) .nil))) q
  ·rw [if_neg a8] at h
   obtain ⟨c9,d0,h⟩:=bind_some h
   refine pkk_sound TTok mix hF 16 (hs:=[.t false,.t false]) (ts:=[]) (s:=[0,1]) (l:=[0,1,2,3,4,10,11,12,39]) (by kernel_rfl) (by kernel_rfl) (.cons (df a2) (.cons (bf a8) .nil)) (Y6 hF (.s (cR (cR (cR (cR (cB (cP (cB (cR (cR (bodyOf Tryz.f43))))))))))::.b 1::ks) n a e a1 f x y z g i j _ d0 ?_)
   cases c9 with
   | x0 w b8 =>
    try dsimp only at h
    obtain ⟨b3,d1,h⟩:=bind_some h
    obtain ⟨d2,d3,h⟩:=bind_some h
    refine pkk_sound TTok mix hF 5 (hs:=[.c,.r (.tup [(eI .i64) b3.1,(eI .i64) b3.2])]) (ts:=[]) (s:=[0,1]) (l:=[0,1,2,3,4,10,11,12,13,14,56]) (by kernel_rfl) (by kernel_rfl) (.cons (XE n b8 a e f g i j _ d1) .nil) (Xa hF (.s (cR (cR (cR (cR (cR (cR (cB (cP (cB (cR (cR (bodyOf Tryz.f43))))))))))))::.b 1::ks) n a e w f x y b3 b8 g i j _ d3 ?_)
    cases d2 with
    | x0 k d4 b4 =>
     try dsimp only at h
     by_cases a3:x=true
     ·rw [if_pos a3] at h
      by_cases a9:y=true
      ·rw [if_pos a9] at h
       obtain ⟨d5,d6,h⟩:=bind_some h
       refine pkk_sound TTok mix hF 3 (hs:=[.t true,.t true,.c]) (ts:=[]) (s:=[0,1]) (l:=[0,1,2,3,4,10,11,12,13,75]) (by kernel_rfl) (by kernel_rfl) (.cons a3 (.cons a9 .nil)) (Xe hF (.s (cR (cR (cR (cR (cR (cR (cR (cB (cP (cB (cR (cR (bodyOf Tryz.f43)))))))))))))::.b 1::ks) n a e w f x y k d4 b4 g i j _ d6 ?_)
       cases d5 with
       | x0 g2 =>
        try dsimp only at h
        cases h
        exact pkk_sound TTok mix hF 2 (hs:=[]) (ts:=[]) (s:=[0,1]) (l:=[]) (by kernel_rfl) (by kernel_rfl) .nil q
       | x1 d7 =>
        try dsimp only at h
        obtain ⟨d8,d9,h⟩:=bind_some h
        refine pkk_sound TTok mix hF 2 (hs:=[]) (ts:=[]) (s:=[0,1]) (l:=[0,1,2,3,4,10,11,12,13]) (by kernel_rfl) (by kernel_rfl) .nil (Xi hF (.s (cR (cL (cR (cR (cR (cR (cR (cR (cR (cB (cP (cB (cR (cR (bodyOf Tryz.f43)))))))))))))))::.s (cR (cR (cR (cR (cR (cR (cR (cR (cB (cP (cB (cR (cR (bodyOf Tryz.f43))))))))))))))::.b 1::ks) n a e w f x y k d7 g i j _ d9 ?_)
        cases d8 with
        | x0 e0 b5 =>
         try dsimp only at h
         by_cases a4:e0=true
         ·rw [if_pos a4] at h
          obtain ⟨b9,e1,h⟩:=bind_some h
          cases h
          exact pkk_sound TTok mix hF 8 (hs:=[.t true,.h [1] [] [.row 25 2 (b9.2.map Gb)] (di b9.1)]) (ts:=[]) (s:=[0,1]) (l:=[0,1,2,3,4,10,11]) (by kernel_rfl) (by kernel_rfl) (.cons a4 (.cons (SN n b5 a e k f g i j _ e1) .nil)) q
         ·rw [if_neg a4] at h
          obtain ⟨m,c0,h⟩:=bind_some h
          by_cases b0:(wi .i64 (m.1-a))<(wi .i64 (e-m.1))
          ·rw [if_pos b0] at h
           obtain ⟨e2,e3,h⟩:=bind_some h
           cases h
           exact pkk_sound TTok mix hF 19 (hs:=[.t false,.h [1] [] [.row 25 2 (m.2.2.map Gb)] (.tup [di m.1,.d (.v (.bool m.2.1))]),.t true,.h [1] [] [.row 25 2 (e2.map Gb)] (.tup [])]) (ts:=[]) (s:=[0,1]) (l:=[0,1,2,3,4,10,11]) (by kernel_rfl) (by kernel_rfl) (.cons (vf a4) (.cons (GI n b5 a e k f g i j _ c0) (.cons (show (8:Int)≠0 by decide) (.cons (dt b0) (.cons (a0 m.2.2 a m.1 w _ e3) .nil))))) q
          ·rw [if_neg b0] at h
           obtain ⟨e4,e5,h⟩:=bind_some h
           cases h
           exact pkk_sound TTok mix hF 19 (hs:=[.t false,.h [1] [] [.row 25 2 (m.2.2.map Gb)] (.tup [di m.1,.d (.v (.bool m.2.1))]),.t false,.h [1] [] [.row 25 2 (e4.map Gb)] (.tup [])]) (ts:=[]) (s:=[0,1]) (l:=[0,1,2,3,4,10,11]) (by kernel_rfl) (by kernel_rfl) (.cons (vf a4) (.cons (GI n b5 a e k f g i j _ c0) (.cons (show (8:Int)≠0 by decide) (.cons (df b0) (.cons (a0 m.2.2 (wi .i64 (m.1+1)) e w _ e5) .nil))))) q
      ·rw [if_neg a9] at h
       obtain ⟨e6,e7,h⟩:=bind_some h
       refine pkk_sound TTok mix hF 7 (hs:=[.t true,.t false,.c,.c]) (ts:=[]) (s:=[0,1]) (l:=[0,1,2,3,4,10,11,12,13]) (by kernel_rfl) (by kernel_rfl) (.cons a3 (.cons (vf a9) .nil)) (Xm hF (.s (cR (cL (cR (cR (cR (cR (cR (cR (cR (cB (cP (cB (cR (cR (bodyOf Tryz.f43)))))))))))))))::.s (cR (cR (cR (cR (cR (cR (cR (cR (cB (cP (cB (cR (cR (bodyOf Tryz.f43))))))))))))))::.b 1::ks) n a e w f x y k b4 g i j _ e7 ?_)
       cases e6 with
       | x0 e8 b6 =>
        try dsimp only at h
        by_cases a5:e8=true
        ·rw [if_pos a5] at h
         obtain ⟨c1,e9,h⟩:=bind_some h
         cases h
         exact pkk_sound TTok mix hF 8 (hs:=[.t true,.h [1] [] [.row 25 2 (c1.2.map Gb)] (di c1.1)]) (ts:=[]) (s:=[0,1]) (l:=[0,1,2,3,4,10,11]) (by kernel_rfl) (by kernel_rfl) (.cons a5 (.cons (SN n b6 a e k f g i j _ e9) .nil)) q
        ·rw [if_neg a5] at h
         obtain ⟨p,c2,h⟩:=bind_some h
         by_cases b1:(wi .i64 (p.1-a))<(wi .i64 (e-p.1))
         ·rw [if_pos b1] at h
          obtain ⟨f0,f1,h⟩:=bind_some h
          cases h
          exact pkk_sound TTok mix hF 19 (hs:=[.t false,.h [1] [] [.row 25 2 (p.2.2.map Gb)] (.tup [di p.1,.d (.v (.bool p.2.1))]),.t true,.h [1] [] [.row 25 2 (f0.map Gb)] (.tup [])]) (ts:=[]) (s:=[0,1]) (l:=[0,1,2,3,4,10,11]) (by kernel_rfl) (by kernel_rfl) (.cons (vf a5) (.cons (GI n b6 a e k f g i j _ c2) (.cons (show (8:Int)≠0 by decide) (.cons (dt b1) (.cons (a0 p.2.2 a p.1 w _ f1) .nil))))) q
         ·rw [if_neg b1] at h
          obtain ⟨f2,f3,h⟩:=bind_some h
          cases h
          exact pkk_sound TTok mix hF 19 (hs:=[.t false,.h [1] [] [.row 25 2 (p.2.2.map Gb)] (.tup [di p.1,.d (.v (.bool p.2.1))]),.t false,.h [1] [] [.row 25 2 (f2.map Gb)] (.tup [])]) (ts:=[]) (s:=[0,1]) (l:=[0,1,2,3,4,10,11]) (by kernel_rfl) (by kernel_rfl) (.cons (vf a5) (.cons (GI n b6 a e k f g i j _ c2) (.cons (show (8:Int)≠0 by decide) (.cons (df b1) (.cons (a0 p.2.2 (wi .i64 (p.1+1)) e w _ f3) .nil))))) q
     ·rw [if_neg a3] at h
      obtain ⟨f4,f5,h⟩:=bind_some h
      refine pkk_sound TTok mix hF 7 (hs:=[.t false,.c,.c,.c]) (ts:=[]) (s:=[0,1]) (l:=[0,1,2,3,4,10,11,12,13]) (by kernel_rfl) (by kernel_rfl) (.cons (vf a3) .nil) (Xq hF (.s (cR (cL (cR (cR (cR (cR (cR (cR (cR (cB (cP (cB (cR (cR (bodyOf Tryz.f43)))))))))))))))::.s (cR (cR (cR (cR (cR (cR (cR (cR (cB (cP (cB (cR (cR (bodyOf Tryz.f43))))))))))))))::.b 1::ks) n a e w f x y k b4 g i j _ f5 ?_)
      cases f4 with
      | x0 f6 b7 =>
       try dsimp only at h
       by_cases a6:f6=true
       ·rw [if_pos a6] at h
        obtain ⟨c3,f7,h⟩:=bind_some h
        cases h
        exact pkk_sound TTok mix hF 8 (hs:=[.t true,.h [1] [] [.row 25 2 (c3.2.map Gb)] (di c3.1)]) (ts:=[]) (s:=[0,1]) (l:=[0,1,2,3,4,10,11]) (by kernel_rfl) (by kernel_rfl) (.cons a6 (.cons (SN n b7 a e k f g i j _ f7) .nil)) q
       ·rw [if_neg a6] at h
        obtain ⟨u,c4,h⟩:=bind_some h
        by_cases b2:(wi .i64 (u.1-a))<(wi .i64 (e-u.1))
        ·rw [if_pos b2] at h
         obtain ⟨f8,f9,h⟩:=bind_some h
         cases h
         exact pkk_sound TTok mix hF 19 (hs:=[.t false,.h [1] [] [.row 25 2 (u.2.2.map Gb)] (.tup [di u.1,.d (.v (.bool u.2.1))]),.t true,.h [1] [] [.row 25 2 (f8.map Gb)] (.tup [])]) (ts:=[]) (s:=[0,1]) (l:=[0,1,2,3,4,10,11]) (by kernel_rfl) (by kernel_rfl) (.cons (vf a6) (.cons (GI n b7 a e k f g i j _ c4) (.cons (show (8:Int)≠0 by decide) (.cons (dt b2) (.cons (a0 u.2.2 a u.1 w _ f9) .nil))))) q
        ·rw [if_neg b2] at h
         obtain ⟨g0,g1,h⟩:=bind_some h
         cases h
         exact pkk_sound TTok mix hF 19 (hs:=[.t false,.h [1] [] [.row 25 2 (u.2.2.map Gb)] (.tup [di u.1,.d (.v (.bool u.2.1))]),.t false,.h [1] [] [.row 25 2 (g0.map Gb)] (.tup [])]) (ts:=[]) (s:=[0,1]) (l:=[0,1,2,3,4,10,11]) (by kernel_rfl) (by kernel_rfl) (.cons (vf a6) (.cons (GI n b7 a e k f g i j _ c4) (.cons (show (8:Int)≠0 by decide) (.cons (df b2) (.cons (a0 u.2.2 (wi .i64 (u.1+1)) e w _ g1) .nil))))) q
inductive SD where
 | x0 (a:(List Ga))
def Xv:SD→Ex
 | .x0 _=>.ret
def Xw (b:(Ga→Ga→Option (Int))) (c:((List Ga)→Int→Int→Int→Option ((List Ga)))) (d:FuncId) (e:(List PV)):SD→PS
 | .x0 a=>⟨(dds 148 []),[.gh 0 (.srf 1),.row 25 2 (a.map Gb)]⟩
def Xx (j:(Ga→Ga→Option (Int))) (k:((List Ga)→Int→Int→Int→Option ((List Ga)))) (a:FuncId) (b:(List PV)) (c e f:Int) (g h:Bool) (i:(List Ga)):PS:=⟨(.srf 1::di c::di e::di f::.d (.clo a b)::dd::dd::dd::dd::dd::.d (.v (.bool g))::.d (.v (.bool h))::(dds 136 [])),[.gh 0 (.srf 1),.row 25 2 (i.map Gb)]⟩
def GE (n:Nat) (a:(Ga→Ga→Option (Int))) (b:((List Ga)→Int→Int→Int→Option ((List Ga)))):Nat→Int→Int→Int→Bool→Bool→(List Ga)→Option SD
 | 0,_,_,_,_,_,_=>none
 | k+1,c,d,e,f,g,h =>
  (Sg n c d e a f g h b).bind fun i=>match i with
  | .x0 j =>
   some (.x0 j)
  | .x1 l m o p q r =>
   GE n a b k l m o p q r
theorem KO {Fi:Ex→PS→Prop} (hF:KC 148 Fi) (ks:List Fr) (n:Nat) (a:(Ga→Ga→Option (Int))) (b:((List Ga)→Int→Int→Int→Option ((List Ga)))) (c:FuncId) (e:(List PV)) (t:∀ (x0:Ga) (x1:Ga) (r:Int),a x0 x1=some r→Ret Tryz.prog c ([Gb x0,Gb x1]++e) ((eI .i64) r)) (u:∀ (x0:(List Ga)) (x1:Int) (x2:Int) (x3:Int) (r:(List Ga)),b x0 x1 x2 x3=some r→RetH Tryz.prog 43 [.srf 0,.d ((eI .i64) x1),.d ((eI .i64) x2),.d ((eI .i64) x3),.d ((.clo c e))] [.row 25 2 (x0.map Gb)] (.tup []) [.row 25 2 (r.map Gb)]):∀ (k:Nat) (f g i:Int) (j m:Bool) (p:(List Ga)) (o:SD),GE n a b k f g i j m p=some o→RunE Tryz.prog 148 Fi ks (Xv o) (Xw a b c e o)→RunE Tryz.prog 148 Fi (.l k (cP (cB (cR (cR (bodyOf Tryz.f43)))))::ks) .normal (Xx a b c e f g i j m p)
 | 0,f,g,i,j,m,p,o,h,q=>by rw [GE] at h; cases h
 | k+1,f,g,i,j,m,p,o,h,q=>by
  rw [GE] at h
  obtain ⟨v,w,h⟩:=bind_some h
  refine pkk_sound TTok mix hF 1 (hs:=[]) (ts:=[]) (s:=[0,1]) (l:=[0,1,2,3,4,10,11]) (by kernel_rfl) (by kernel_rfl) .nil (Xu hF (.l k (cP (cB (cR (cR (bodyOf Tryz.f43)))))::ks) n f g i a j m p b c e t u _ w ?_)
  cases v with
  | x0 a3 =>
   try dsimp only at h
   cases h
   exact pkk_sound TTok mix hF 1 (hs:=[]) (ts:=[]) (s:=[0,1]) (l:=[]) (by kernel_rfl) (by kernel_rfl) .nil q
  | x1 x y z a0 a1 a2 =>
   try dsimp only at h
   exact pkk_sound TTok mix hF 0 (hs:=[]) (ts:=[]) (s:=[0,1]) (l:=[0,1,2,3,4,10,11]) (by kernel_rfl) (by kernel_rfl) .nil (KO hF ks n a b c e t u k x y z a0 a1 a2 _ h q)
/- slices.pdqsortCmpFunc[ringhall/api.Entry] -/
def GA:Nat→(List Ga)→Int→Int→Int→(Ga→Ga→Option (Int))→Option ((List Ga))
 | 0,_,_,_,_,_=>none
 | n+1,b,c,d,e,a =>
 (GE n a (fun x0 x1 x2 x3=>GA n x0 x1 x2 x3 a) n c d e true true b).bind fun f=>match f with
 | .x0 g =>
  some g
theorem K9:∀ (n:Nat) (e:(List Ga)) (i j k:Int) (a:(Ga→Ga→Option (Int))) (f:FuncId) (g:List PV) (m:∀ (x0:Ga) (x1:Ga) (r:Int),a x0 x1=some r→Ret Tryz.prog f ([Gb x0,Gb x1]++g) ((eI .i64) r)) (r:(List Ga)) (h:GA n e i j k a=some r),RetH Tryz.prog 43 [.srf 0,.d ((eI .i64) i),.d ((eI .i64) j),.d ((eI .i64) k),.d ((.clo f g))] [.row 25 2 (e.map Gb)] (.tup []) [.row 25 2 (r.map Gb)]
 | 0,e,i,j,k,a,f,g,m,r,h=>by rw [GA] at h; cases h
 | n+1,e,i,j,k,a,f,g,m,r,h=>by
  refine retH_run (n:=148) (fn:=Tryz.f43) (c:=bodyOf Tryz.f43) (by kernel_rfl) (by kernel_rfl) (by kernel_rfl) (by kernel_rfl) ?_
  have hF:KC 148 (FinH Tryz.prog Tryz.f43 [.row 25 2 (e.map Gb)] (.tup []) [.row 25 2 (r.map Gb)]):=FinH.kc' (by kernel_rfl)
  rw [GA] at h
  obtain ⟨o,p,h⟩:=bind_some h
  refine pkk_sound TTok mix hF 6 (hs:=[.n n]) (ts:=[]) (s:=[1,0]) (l:=[0,1,2,3,4,10,11]) (by kernel_rfl) (by kernel_rfl) .nil (KO hF (.b 0::[]) n a (fun x0 x1 x2 x3=>GA n x0 x1 x2 x3 a) f g m (fun x0 x1 x2 x3 r h=>K9 n x0 x1 x2 x3 a f g m r h) n i j k true true e _ p ?_)
  cases o with
  | x0 q =>
   try dsimp only at h
   obtain rfl:=Option.some.inj h
   exact pendH_sound TTok mix 1 (hs:=[]) [1] (by kernel_rfl) (by kernel_rfl) (by kernel_rfl) .nil
/- slices.SortFunc[[]ringhall/api.Entry,ringhall/api.Entry] -/
def G9 (n:Nat) (a:(List Ga)) (b:(Ga→Ga→Option (Int))):Option ((List Ga)) :=
 (Zx n (wi .u64 (a.length:Int))).bind fun (c:(Int)) =>
 (GA n a 0 (a.length:Int) c b).bind fun (d:((List Ga))) =>
 some d
theorem Y1 (n:Nat) (a:(List Ga)) (b:(Ga→Ga→Option (Int))) (e:FuncId) (g:List PV) (j:∀ (x0:Ga) (x1:Ga) (r:Int),b x0 x1=some r→Ret Tryz.prog e ([Gb x0,Gb x1]++g) ((eI .i64) r)) (r:(List Ga)) (h:G9 n a b=some r):RetH Tryz.prog 20 [.srf 0,.d ((.clo e g))] [.row 25 2 (a.map Gb)] (.tup []) [.row 25 2 (r.map Gb)]:=by
 refine retH_run (n:=14) (fn:=Tryz.f20) (c:=bodyOf Tryz.f20) (by kernel_rfl) (by kernel_rfl) (by kernel_rfl) (by kernel_rfl) ?_
 have hF:KC 14 (FinH Tryz.prog Tryz.f20 [.row 25 2 (a.map Gb)] (.tup []) [.row 25 2 (r.map Gb)]):=FinH.kc' (by kernel_rfl)
 unfold G9 at h
 obtain ⟨i,k,h⟩:=bind_some h
 obtain ⟨m,o,h⟩:=bind_some h
 obtain rfl:=Option.some.inj h
 exact pendH_sound TTok mix 3 (hs:=[.u (di (a.length:Int)),.r ((eI .i64) i),.h [0] [] [.row 25 2 (m.map Gb)] (.tup [])]) [0] (by kernel_rfl) (by kernel_rfl) (by kernel_rfl) (.cons (len_ob (f:=Gb) (l:=a)) (.cons (Uf n (wi .u64 (a.length:Int)) _ k) (.cons (K9 n a 0 (a.length:Int) i b e g j _ o) .nil)))
/- ringhall/dir.Lay$2 -/
def KD:Nat→Int→(List Ga)→(List Int)→Int→Option ((List Ga)×(List Int)×Int)
 | 0,_,_,_,_=>none
 | n+1,b,c,f,g =>
 if b≥(c.length:Int) then
  some (c,f,g)
 else
  ((fun x0 x1 x2 x3=>KD n x0 x1 x2 x3) (wi .i64 ((wi .i64 (2*b))+1)) c f g).bind fun (a:((List Ga)×(List Int)×Int)) =>
  if ((0:Int)≤(wi .i64 (16*b))∧(wi .i64 (16*b))≤(a.2.1.length:Int)) then
   if 0≤a.2.2∧(a.2.2).toNat<a.1.length then
    (a.1[(a.2.2).toNat]?).bind fun (d:Ga) =>
    if a.2.1.length≤a.2.1.length then
     if 0≤a.2.2∧(a.2.2).toNat<a.1.length then
      (a.1[(a.2.2).toNat]?).bind fun (h:Ga) =>
      if 0≤(wi .i64 ((wi .i64 (16*b))+14))∧((wi .i64 ((wi .i64 (16*b))+14))).toNat<(cpyR a.2.1 ((wi .i64 (16*b)).toNat) a.2.1.length (s2b d.fName)).length then
       ((cpyR a.2.1 ((wi .i64 (16*b)).toNat) a.2.1.length (s2b d.fName))[((wi .i64 ((wi .i64 (16*b))+14))).toNat]?).bind fun (i:Int) =>
       ((fun x0 x1 x2 x3=>KD n x0 x1 x2 x3) (wi .i64 ((wi .i64 (2*b))+2)) a.1 ((cpyR a.2.1 ((wi .i64 (16*b)).toNat) a.2.1.length (s2b d.fName)).set ((wi .i64 ((wi .i64 (16*b))+14))).toNat (wi .u8 h.fIno)) (wi .i64 (a.2.2+1))).bind fun (e:((List Ga)×(List Int)×Int)) =>
       some (e.1,e.2.1,e.2.2)
      else none
     else none
    else none
   else none
  else none
theorem X0:∀ (n:Nat) (m:Int) (o:(List Ga)) (a0:(List Int)) (a1:Int) (r:(List Ga)×(List Int)×Int) (h:KD n m o a0 a1=some r),RetH Tryz.prog 23 [.d ((eI .i64) m),.ref 0 0,.ref 2 0,.ref 3 0,.ref 5 0] [.box [.srf 1],.row 25 2 (o.map Gb),.box [.clo 23 [.ref 0 0,.ref 2 0,.ref 3 0,.ref 5 0]],.box [.srf 4],.row 5 1 (a0.map (eI .u8)),.box [di a1]] (.tup []) [.box [.srf 6],.none,.box [.clo 23 [.ref 0 0,.ref 2 0,.ref 3 0,.ref 5 0]],.box [.srf 7],.none,.box [di r.2.2],.row 25 2 (r.1.map Gb),.row 5 1 (r.2.1.map (eI .u8))]
 | 0,m,o,a0,a1,r,h=>by rw [KD] at h; cases h
 | n+1,m,o,a0,a1,r,h=>by
  refine retH_run (n:=43) (fn:=Tryz.f23) (c:=bodyOf Tryz.f23) (by kernel_rfl) (by kernel_rfl) (by kernel_rfl) (by kernel_rfl) ?_
  have hF:KC 43 (FinH Tryz.prog Tryz.f23 [.box [.srf 1],.row 25 2 (o.map Gb),.box [.clo 23 [.ref 0 0,.ref 2 0,.ref 3 0,.ref 5 0]],.box [.srf 4],.row 5 1 (a0.map (eI .u8)),.box [di a1]] (.tup []) [.box [.srf 6],.none,.box [.clo 23 [.ref 0 0,.ref 2 0,.ref 3 0,.ref 5 0]],.box [.srf 7],.none,.box [di r.2.2],.row 25 2 (r.1.map Gb),.row 5 1 (r.2.1.map (eI .u8))]):=FinH.kc' (by kernel_rfl)
  rw [KD] at h
  by_cases a3:m≥(o.length:Int)
  ·rw [if_pos a3] at h
   obtain rfl:=Option.some.inj h
   exact pendH_sound TTok mix 8 (hs:=[.c,.u (di (o.length:Int)),.t true,.dl 2,.mv 1,.mv 4]) [0,1,2,3,4,5,32,33] (by kernel_rfl) (by kernel_rfl) (by kernel_rfl) (.cons (len_ob (f:=Gb) (l:=o)) (.cons (dt a3) .nil))
  ·rw [if_neg a3] at h
   obtain ⟨g,b0,h⟩:=bind_some h
   by_cases a4:((0:Int)≤(wi .i64 (16*m))∧(wi .i64 (16*m))≤(g.2.1.length:Int))
   ·rw [if_pos a4] at h
    by_cases a5:0≤g.2.2∧(g.2.2).toNat<g.1.length
    ·rw [if_pos a5] at h
     obtain ⟨q,b1,h⟩:=bind_some h
     by_cases a6:g.2.1.length≤g.2.1.length
     ·rw [if_pos a6] at h
      by_cases a7:0≤g.2.2∧(g.2.2).toNat<g.1.length
      ·rw [if_pos a7] at h
       obtain ⟨a2,b2,h⟩:=bind_some h
       by_cases a8:0≤(wi .i64 ((wi .i64 (16*m))+14))∧((wi .i64 ((wi .i64 (16*m))+14))).toNat<(cpyR g.2.1 ((wi .i64 (16*m)).toNat) g.2.1.length (s2b q.fName)).length
       ·rw [if_pos a8] at h
        obtain ⟨b3,b4,h⟩:=bind_some h
        obtain ⟨a9,b5,h⟩:=bind_some h
        obtain rfl:=Option.some.inj h
        exact pendH_sound TTok mix 14 (hs:=[.c,.u (di (o.length:Int)),.t false,.c,.h [0,1,2,3,4,5] [] [.box [.srf 6],.none,.box [.clo 23 [.ref 0 0,.ref 2 0,.ref 3 0,.ref 5 0]],.box [.srf 7],.none,.box [di g.2.2],.row 25 2 (g.1.map Gb),.row 5 1 (g.2.1.map (eI .u8))] (.tup []),.c,.e 72 [53] (.ssl 53 ((wi .i64 (16*m)).toNat) g.2.1.length 1) [],.c,.c,.y (Gb q),.e 102 [53] (di ((Nat.min (s2b q.fName).length (g.2.1.length-(wi .i64 (16*m)).toNat):Nat):Int)) [(53,.row 5 1 ((cpyR g.2.1 ((wi .i64 (16*m)).toNat) g.2.1.length (s2b q.fName)).map (eI .u8)))],.c,.c,.c,.y (Gb a2),.w (((cpyR g.2.1 ((wi .i64 (16*m)).toNat) g.2.1.length (s2b q.fName)).set ((wi .i64 ((wi .i64 (16*m))+14))).toNat (wi .u8 a2.fIno)).map (eI .u8)),.y ((eI .u8) b3),.c,.c,.c,.h [0,52,2,3,53,5] [] [.box [.srf 6],.none,.box [.clo 23 [.ref 0 0,.ref 2 0,.ref 3 0,.ref 5 0]],.box [.srf 7],.none,.box [di a9.2.2],.row 25 2 (a9.1.map Gb),.row 5 1 (a9.2.1.map (eI .u8))] (.tup [])]) [0,1,2,3,4,5,202,203] (by kernel_rfl) (by kernel_rfl) (by kernel_rfl) (.cons (len_ob (f:=Gb) (l:=o)) (.cons (df a3) (.cons ((fun x0 x1 x2 x3 r h=>X0 n x0 x1 x2 x3 r h) (wi .i64 ((wi .i64 (2*m))+1)) o a0 a1 _ b0) (.cons (xs10 (P:=Tryz.prog) (T:=TT) (f:=(eI .u8)) (t:=23) (e:=5) (s:=1) (l:=53) (L:=g.2.1) (x:=(.tmp 15)) (lo:=(.tmp 17)) (a:=(wi .i64 (16*m))) (ka:=.i64) (by kernel_rfl) a4) (.cons (idx_ob (f:=Gb) a5) (.cons (get_ob (f:=Gb) b1) (.cons (xcpStr (P:=Tryz.prog) (T:=TT) (t:=23) (t':=9) (e:=5) (l:=53) (x:=(.tmp 18)) (y:=(.tmp 23)) (ti:=⟨1,1,.int .u8,[.i .u8]⟩) (L:=g.2.1) (b:=q.fName) (i:=(wi .i64 (16*m)).toNat) (j:=g.2.1.length) (by kernel_rfl) (by kernel_rfl) a6) (.cons (idx_ob (f:=Gb) a7) (.cons (get_ob (f:=Gb) b2) (.cons (idx_ob (f:=(eI .u8)) a8) (.cons (get_ob (f:=(eI .u8)) b4) (.cons (Eq.refl (pcells (.v (.int .u8 (wi .u8 a2.fIno))))) (.cons (set_ob (f:=(eI .u8)) (l:=(cpyR g.2.1 ((wi .i64 (16*m)).toNat) g.2.1.length (s2b q.fName))) (k:=((wi .i64 ((wi .i64 (16*m))+14))).toNat) (z:=(wi .u8 a2.fIno)) (p:=.v (.int .u8 (wi .u8 a2.fIno))) rfl) (.cons (show 0+1≤1 by decide) (.cons ((fun x0 x1 x2 x3 r h=>X0 n x0 x1 x2 x3 r h) (wi .i64 ((wi .i64 (2*m))+2)) g.1 ((cpyR g.2.1 ((wi .i64 (16*m)).toNat) g.2.1.length (s2b q.fName)).set ((wi .i64 ((wi .i64 (16*m))+14))).toNat (wi .u8 a2.fIno)) (wi .i64 (g.2.2+1)) _ b5) .nil)))))))))))))))
       ·rw [if_neg a8] at h; cases h
      ·rw [if_neg a7] at h; cases h
     ·rw [if_neg a6] at h; cases h
    ·rw [if_neg a5] at h; cases h
   ·rw [if_neg a4] at h; cases h
/- ringhall/dir.Lay -/
def Kw (n:Nat) (a:(List Ga)):Option ((List Int)×Int×(List Ga)) :=
 (XW n a).bind fun (b:(Int)) =>
 if b=0 then
  (SP n a).bind fun (d:(List Ga)) =>
  (G9 n d (fun (y0 y1:Ga)=>Yf n y0 y1)).bind fun (c:((List Ga))) =>
  (mkL 1 0 (wi .i64 (16*(c.length:Int)))).bind fun (e:(List Int)) =>
  (KD n 0 c e 0).bind fun (f:((List Ga)×(List Int)×Int)) =>
  some (f.2.1,0,a)
 else
  some (([]:(List Int)),b,a)
theorem Y2 (n:Nat) (a:(List Ga)) (r:(List Int)×Int×(List Ga)) (h:Kw n a=some r):RetH Tryz.prog 6 [.srf 0] [.row 25 2 (a.map Gb)] (.tup [.d ((eL (eI .u8)) r.1),.d ((eI .i64) r.2.1)]) [.row 25 2 (r.2.2.map Gb)]:=by
 refine retH_run (n:=25) (fn:=Tryz.f6) (c:=bodyOf Tryz.f6) (by kernel_rfl) (by kernel_rfl) (by kernel_rfl) (by kernel_rfl) ?_
 have hF:KC 25 (FinH Tryz.prog Tryz.f6 [.row 25 2 (a.map Gb)] (.tup [.d ((eL (eI .u8)) r.1),.d ((eI .i64) r.2.1)]) [.row 25 2 (r.2.2.map Gb)]):=FinH.kc' (by kernel_rfl)
 unfold Kw at h
 obtain ⟨k,o,h⟩:=bind_some h
 by_cases i:k=0
 ·rw [if_pos i] at h
  obtain ⟨q,y,h⟩:=bind_some h
  obtain ⟨j,z,h⟩:=bind_some h
  obtain ⟨x,b,h⟩:=bind_some h
  obtain ⟨m,a0,h⟩:=bind_some h
  obtain rfl:=Option.some.inj h
  exact pendH_sound TTok mix 27 (hs:=[.c,.c,.r ((eI .i64) k),.t false,.c,.e 47 [0,47] (.srf 47) [(47,.row 25 2 (q.map Gb))],.c,.c,.h [47] [] [.row 25 2 (j.map Gb)] (.tup []),.c,.u (di (j.length:Int)),.w (x.map (eI .u8)),.c,.c,.c,.c,.h [2,47,107,87,82,97] [] [.box [.srf 6],.none,.box [.clo 23 [.ref 0 0,.ref 2 0,.ref 3 0,.ref 5 0]],.box [.srf 7],.none,.box [di m.2.2],.row 25 2 (m.1.map Gb),.row 5 1 (m.2.1.map (eI .u8))] (.tup []),.c,.dl 1,.fz 128]) [0] (by kernel_rfl) (by kernel_rfl) (by kernel_rfl) (.cons (Vb n a _ o) (.cons (nf i) (.cons (cwhole (P:=Tryz.prog) (T:=TT) (f:=.func 19) (args:=#[(.tmp 13)]) (tys:=#[22]) (g:=19) (l:=0) (e:=25) (s:=2) (nl:=47) (xs:=(a.map Gb)) (XP n _ _ y) (flat_map _ (fun _=>rfl))) (.cons (show 0+1≤1 by decide) (.cons (Y1 n q (fun (y0 y1:Ga)=>Yf n y0 y1) 21 [] (fun y0 y1 r h=>VJ n y0 y1 r h) _ z) (.cons (len_ob (f:=Gb) (l:=j)) (.cons (mkL_ob (f:=(eI .u8)) (p:=.v (.int .u8 0)) b rfl).1 (.cons (mkL_ob (f:=(eI .u8)) (p:=.v (.int .u8 0)) b rfl).2.1 (.cons (mkL_ob (f:=(eI .u8)) (p:=.v (.int .u8 0)) b rfl).2.2.1 (.cons (mkL_ob (f:=(eI .u8)) (p:=.v (.int .u8 0)) b rfl).2.2.2.1 (.cons (mkL_ob (f:=(eI .u8)) (p:=.v (.int .u8 0)) b rfl).2.2.2.2 (.cons (show 0+1≤1 by decide) (.cons (show 0+1≤1 by decide) (.cons (show 0+1≤1 by decide) (.cons (X0 n 0 j x 0 _ a0) .nil)))))))))))))))
 ·rw [if_neg i] at h
  obtain rfl:=Option.some.inj h
  exact pendH_sound TTok mix 12 (hs:=[.c,.c,.r ((eI .i64) k),.t true]) [0] (by kernel_rfl) (by kernel_rfl) (by kernel_rfl) (.cons (Vb n a _ o) (.cons (nt i) .nil))
inductive Kd where
 | x0 (a:Bool)
 | x1 
def X7:Kd→Ex
 | .x0 _=>.ret
 | .x1  => .exit 0
def X8 (b c:(List Int)):Kd→PS
 | .x0 a=>⟨(dd::dd::dd::dd::.d (.v (.bool a))::(dds 21 [])),[]⟩
 | .x1  => ⟨(dds 26 []),[]⟩
def X9 (a b:(List Int)) (c:Int):PS:=⟨(.d (.sl (a.map (eI .u8)))::.d (.sl (b.map (eI .u8)))::(dds 10 (di (a.length:Int)::di c::(dds 12 [])))),[]⟩
def GY (n:Nat) (b c:(List Int)):Nat→Int→Option Kd
 | 0,_=>none
 | k+1,a =>
  if a<(b.length:Int) then
   (getI b a).bind fun (d:Int) =>
   (getI c a).bind fun (e:Int) =>
   if d=e then
    GY n b c k (wi .i64 (a+1))
   else
    some (.x0 false)
  else
   some (.x1 )
theorem Ya {Fi:Ex→PS→Prop} (hF:KC 26 Fi) (ks:List Fr) (n:Nat) (b e:(List Int))  : ∀ (k:Nat) (a:Int) (o:Kd),GY n b e k a=some o→RunE Tryz.prog 26 Fi ks (X7 o) (X8 b e o)→RunE Tryz.prog 26 Fi (.l k (cP (cB (cR (cL (cR (cR (bodyOf Tryz.f26)))))))::ks) .normal (X9 b e a)
 | 0,a,o,h,q=>by rw [GY] at h; cases h
 | k+1,a,o,h,q=>by
  rw [GY] at h
  by_cases d:a<(b.length:Int)
  ·rw [if_pos d] at h
   obtain ⟨i,m,h⟩:=bind_some h
   obtain ⟨j,p,h⟩:=bind_some h
   by_cases g:i=j
   ·rw [if_pos g] at h
    exact pkk_sound TTok mix hF 16 (hs:=[.t true,.y ((eI .u8) i),.c,.y ((eI .u8) j),.c,.t false]) (ts:=[]) (s:=[]) (l:=[0,1,12,13]) (by kernel_rfl) (by kernel_rfl) (.cons (dt d) (.cons (getI_ob (f:=(eI .u8)) m) (.cons (getI_ob (f:=(eI .u8)) p) (.cons (nf g) .nil)))) (Ya hF ks n b e k (wi .i64 (a+1)) _ h q)
   ·rw [if_neg g] at h
    cases h
    exact pkk_sound TTok mix hF 19 (hs:=[.t true,.y ((eI .u8) i),.c,.y ((eI .u8) j),.c,.t true]) (ts:=[]) (s:=[]) (l:=[4]) (by kernel_rfl) (by kernel_rfl) (.cons (dt d) (.cons (getI_ob (f:=(eI .u8)) m) (.cons (getI_ob (f:=(eI .u8)) p) (.cons (nt g) .nil)))) q
  ·rw [if_neg d] at h
   cases h
   exact pkk_sound TTok mix hF 8 (hs:=[.t false]) (ts:=[]) (s:=[]) (l:=[]) (by kernel_rfl) (by kernel_rfl) (.cons (df d) .nil) q
/- slices.Equal[[]byte,byte] -/
def Kl (n:Nat) (a b:(List Int)):Option (Bool) :=
 if (a.length:Int)=(b.length:Int) then
  (GY n a b n 0).bind fun c=>match c with
  | .x0 d =>
   some d
  | .x1  =>
   some true
 else
  some false
theorem Xz (n:Nat) (a e:(List Int)) (r:Bool) (h:Kl n a e=some r):Ret Tryz.prog 26 [(eL (eI .u8)) a,(eL (eI .u8)) e] (eB r):=by
 refine ret_run (n:=26) (fn:=Tryz.f26) (c:=bodyOf Tryz.f26) (by kernel_rfl) (by kernel_rfl) (by kernel_rfl) (by kernel_rfl) ?_
 have hF:KC 26 (FinR Tryz.prog Tryz.f26 (eB r)):=FinR.kc' (by kernel_rfl)
 unfold Kl at h
 by_cases g:(a.length:Int)=(e.length:Int)
 ·rw [if_pos g] at h
  obtain ⟨i,j,h⟩:=bind_some h
  refine pkk_sound TTok mix hF 12 (hs:=[.u (di (a.length:Int)),.u (di (e.length:Int)),.t false,.u (di (a.length:Int)),.n n]) (ts:=[]) (s:=[]) (l:=[0,1,12,13]) (by kernel_rfl) (by kernel_rfl) (.cons (len_ob (f:=(eI .u8)) (l:=a)) (.cons (len_ob (f:=(eI .u8)) (l:=e)) (.cons (nf g) (.cons (len_ob (f:=(eI .u8)) (l:=a)) .nil)))) (Ya hF (.b 0::.s (cR (cR (cR (bodyOf Tryz.f26))))::[]) n a e n 0 _ j ?_)
  cases i with
  | x0 k =>
   try dsimp only at h
   obtain rfl:=Option.some.inj h
   exact pend_sound TTok mix 2 (hs:=[]) (by kernel_rfl) (by kernel_rfl) (by kernel_rfl) .nil
  | x1  =>
   try dsimp only at h
   obtain rfl:=Option.some.inj h
   exact pend_sound TTok mix 4 (hs:=[]) (by kernel_rfl) (by kernel_rfl) (by kernel_rfl) .nil
 ·rw [if_neg g] at h
  obtain rfl:=Option.some.inj h
  exact pend_sound TTok mix 10 (hs:=[.u (di (a.length:Int)),.u (di (e.length:Int)),.t true]) (by kernel_rfl) (by kernel_rfl) (by kernel_rfl) (.cons (len_ob (f:=(eI .u8)) (l:=a)) (.cons (len_ob (f:=(eI .u8)) (l:=e)) (.cons (nt g) .nil)))
/- ringhall/dir.List -/
def S6 (n:Nat) (a:(List Int)):Option ((List Ga)×Int) :=
 if (remI (a.length:Int) 16)=0 then
  if (a.length:Int) > 512 then
   some (([]:List Ga),3)
  else
   (Kr n 0 (quoI .i64 (a.length:Int) 16) ([]:List Ga) a).bind fun (c:(Int×(List Ga)×(List Int))) =>
   (Kw n c.2.1).bind fun (b:((List Int)×Int×(List Ga))) =>
   if b.2.1=0 then
    (Kl n b.1 c.2.2).bind fun (d:(Bool)) =>
    if d=true then
     some (b.2.2,0)
    else
     some (([]:List Ga),3)
   else
    some (([]:List Ga),3)
 else
  some (([]:List Ga),3)
theorem KR (n:Nat) (a:(List Int)) (r:(List Ga)×Int) (h:S6 n a=some r):RetH Tryz.prog 7 [.d ((eL (eI .u8)) a)] [] (.tup [.srf 0,.d ((eI .i64) r.2)]) [.row 25 2 (r.1.map Gb)]:=by
 refine retH_run (n:=38) (fn:=Tryz.f7) (c:=bodyOf Tryz.f7) (by kernel_rfl) (by kernel_rfl) (by kernel_rfl) (by kernel_rfl) ?_
 have hF:KC 38 (FinH Tryz.prog Tryz.f7 [] (.tup [.srf 0,.d ((eI .i64) r.2)]) [.row 25 2 (r.1.map Gb)]):=FinH.kc' (by kernel_rfl)
 unfold S6 at h
 by_cases g:(remI (a.length:Int) 16)=0
 ·rw [if_pos g] at h
  by_cases i:(a.length:Int) > 512
  ·rw [if_pos i] at h
   obtain rfl:=Option.some.inj h
   exact pendH_sound TTok mix 11 (hs:=[.c,.u (di (a.length:Int)),.t false,.c,.c,.u (di (a.length:Int)),.c,.t true,.dl 4,.th 2 25 2]) [70] (by kernel_rfl) (by kernel_rfl) (by kernel_rfl) (.cons (len_ob (f:=(eI .u8)) (l:=a)) (.cons (show (16:Int)≠0 by decide) (.cons (nf g) (.cons (len_ob (f:=(eI .u8)) (l:=a)) (.cons (dt i) .nil)))))
  ·rw [if_neg i] at h
   obtain ⟨b,m,h⟩:=bind_some h
   obtain ⟨e,o,h⟩:=bind_some h
   by_cases j:e.2.1=0
   ·rw [if_pos j] at h
    obtain ⟨p,q,h⟩:=bind_some h
    by_cases k:p=true
    ·rw [if_pos k] at h
     obtain rfl:=Option.some.inj h
     exact pendH_sound TTok mix 28 (hs:=[.c,.u (di (a.length:Int)),.t false,.c,.c,.u (di (a.length:Int)),.c,.t false,.c,.u (di (a.length:Int)),.c,.c,.dl 1,.tb 85 0 25 2,.c,.h [75,90,85,105,0] [] [.box [di b.1],.box [.clo 24 [.ref 0 0,.ref 1 0,.ref 2 0,.ref 4 0]],.box [.srf 5],.none,.box [.d (.sl (b.2.2.map (eI .u8)))],.row 25 2 (b.2.1.map Gb)] (.tup []),.c,.h [111] [] [.row 25 2 (e.2.2.map Gb)] (.tup [.d (.sl (e.1.map (eI .u8))),di e.2.1]),.t false,.c,.c,.c,.r (eB p),.c,.t false,.c]) [111] (by kernel_rfl) (by kernel_rfl) (by kernel_rfl) (.cons (len_ob (f:=(eI .u8)) (l:=a)) (.cons (show (16:Int)≠0 by decide) (.cons (nf g) (.cons (len_ob (f:=(eI .u8)) (l:=a)) (.cons (df i) (.cons (len_ob (f:=(eI .u8)) (l:=a)) (.cons (show (16:Int)≠0 by decide) (.cons (show 0+1≤1 by decide) (.cons (show 0+1≤1 by decide) (.cons (ZA n 0 (quoI .i64 (a.length:Int) 16) ([]:List Ga) a _ m) (.cons (Y2 n b.2.1 _ o) (.cons (nf j) (.cons (Xz n e.1 b.2.2 _ q) (.cons (bnf k) .nil))))))))))))))
    ·rw [if_neg k] at h
     obtain rfl:=Option.some.inj h
     exact pendH_sound TTok mix 29 (hs:=[.c,.u (di (a.length:Int)),.t false,.c,.c,.u (di (a.length:Int)),.c,.t false,.c,.u (di (a.length:Int)),.c,.c,.dl 1,.tb 85 0 25 2,.c,.h [75,90,85,105,0] [] [.box [di b.1],.box [.clo 24 [.ref 0 0,.ref 1 0,.ref 2 0,.ref 4 0]],.box [.srf 5],.none,.box [.d (.sl (b.2.2.map (eI .u8)))],.row 25 2 (b.2.1.map Gb)] (.tup []),.c,.h [111] [] [.row 25 2 (e.2.2.map Gb)] (.tup [.d (.sl (e.1.map (eI .u8))),di e.2.1]),.t false,.c,.c,.c,.r (eB p),.c,.t true,.dl 4,.th 2 25 2]) [201] (by kernel_rfl) (by kernel_rfl) (by kernel_rfl) (.cons (len_ob (f:=(eI .u8)) (l:=a)) (.cons (show (16:Int)≠0 by decide) (.cons (nf g) (.cons (len_ob (f:=(eI .u8)) (l:=a)) (.cons (df i) (.cons (len_ob (f:=(eI .u8)) (l:=a)) (.cons (show (16:Int)≠0 by decide) (.cons (show 0+1≤1 by decide) (.cons (show 0+1≤1 by decide) (.cons (ZA n 0 (quoI .i64 (a.length:Int) 16) ([]:List Ga) a _ m) (.cons (Y2 n b.2.1 _ o) (.cons (nf j) (.cons (Xz n e.1 b.2.2 _ q) (.cons (bnt (vf k)) .nil))))))))))))))
   ·rw [if_neg j] at h
    obtain rfl:=Option.some.inj h
    exact pendH_sound TTok mix 29 (hs:=[.c,.u (di (a.length:Int)),.t false,.c,.c,.u (di (a.length:Int)),.c,.t false,.c,.u (di (a.length:Int)),.c,.c,.dl 1,.tb 85 0 25 2,.c,.h [75,90,85,105,0] [] [.box [di b.1],.box [.clo 24 [.ref 0 0,.ref 1 0,.ref 2 0,.ref 4 0]],.box [.srf 5],.none,.box [.d (.sl (b.2.2.map (eI .u8)))],.row 25 2 (b.2.1.map Gb)] (.tup []),.c,.h [111] [] [.row 25 2 (e.2.2.map Gb)] (.tup [.d (.sl (e.1.map (eI .u8))),di e.2.1]),.t true,.c,.c,.c,.c,.dl 4,.th 2 25 2]) [201] (by kernel_rfl) (by kernel_rfl) (by kernel_rfl) (.cons (len_ob (f:=(eI .u8)) (l:=a)) (.cons (show (16:Int)≠0 by decide) (.cons (nf g) (.cons (len_ob (f:=(eI .u8)) (l:=a)) (.cons (df i) (.cons (len_ob (f:=(eI .u8)) (l:=a)) (.cons (show (16:Int)≠0 by decide) (.cons (show 0+1≤1 by decide) (.cons (show 0+1≤1 by decide) (.cons (ZA n 0 (quoI .i64 (a.length:Int) 16) ([]:List Ga) a _ m) (.cons (Y2 n b.2.1 _ o) (.cons (nt j) .nil))))))))))))
 ·rw [if_neg g] at h
  obtain rfl:=Option.some.inj h
  exact pendH_sound TTok mix 11 (hs:=[.c,.u (di (a.length:Int)),.t true,.c,.c,.c,.dl 4,.th 2 25 2]) [70] (by kernel_rfl) (by kernel_rfl) (by kernel_rfl) (.cons (len_ob (f:=(eI .u8)) (l:=a)) (.cons (show (16:Int)≠0 by decide) (.cons (nt g) .nil)))
inductive XO where
 | x0 (a b c:Int)
 | x1 (d:Int)
def VC:XO→Ex
 | .x0 _ _ _=>.ret
 | .x1 _=>.exit 0
def VD (f:(List Int)) (g:ByteArray):XO→PS
 | .x0 a b c=>⟨(dd::dd::dd::dd::di a::di b::di c::(dds 43 [])),[]⟩
 | .x1 e=>⟨(dd::dd::dd::dd::dd::di e::(dds 44 [])),[]⟩
def VE (a:(List Int)) (b:ByteArray) (c e:Int):PS:=⟨(.d (.sl (a.map (eI .u8)))::.d (.v (.string b))::dd::dd::dd::di c::dd::dd::dd::di e::(dds 40 [])),[]⟩
def Sv (n:Nat) (a:(List Int)) (d:ByteArray):Nat→Int→Int→Option XO
 | 0,_,_=>none
 | k+1,b,c =>
  if (wi .i64 (16*c))<(a.length:Int) then
   (X3 n a c).bind fun (e:(Ga)) =>
   (SZ n d e.fName).bind fun (f:(Int)) =>
   if f=0 then
    some (.x0 e.fIno (wi .i64 (b+1)) 0)
   else
    if f<0 then
     Sv n a d k (wi .i64 (b+1)) (wi .i64 ((wi .i64 (2*c))+1))
    else
     Sv n a d k (wi .i64 (b+1)) (wi .i64 ((wi .i64 (2*c))+2))
  else
   some (.x1 b)
theorem X1 {Fi:Ex→PS→Prop} (hF:KC 50 Fi) (ks:List Fr) (n:Nat) (a:(List Int)) (e:ByteArray)  : ∀ (k:Nat) (g b:Int) (o:XO),Sv n a e k g b=some o→RunE Tryz.prog 50 Fi ks (VC o) (VD a e o)→RunE Tryz.prog 50 Fi (.l k (cP (cB (cR (cL (cR (cR (bodyOf Tryz.f14)))))))::ks) .normal (VE a e g b)
 | 0,g,b,o,h,q=>by rw [Sv] at h; cases h
 | k+1,g,b,o,h,q=>by
  rw [Sv] at h
  by_cases i:(wi .i64 (16*b))<(a.length:Int)
  ·rw [if_pos i] at h
   obtain ⟨j,x,h⟩:=bind_some h
   obtain ⟨m,y,h⟩:=bind_some h
   by_cases p:m=0
   ·rw [if_pos p] at h
    cases h
    exact pkk_sound TTok mix hF 23 (hs:=[.u (di (a.length:Int)),.t true,.r (Gb j),.c,.c,.r ((eI .i64) m),.t true,.c]) (ts:=[]) (s:=[]) (l:=[4,5,6]) (by kernel_rfl) (by kernel_rfl) (.cons (len_ob (f:=(eI .u8)) (l:=a)) (.cons (dt i) (.cons (X6 n a b _ x) (.cons (show 0+2≤2 by decide) (.cons (K7 n e j.fName _ y) (.cons (bt p) .nil)))))) q
   ·rw [if_neg p] at h
    by_cases w:m<0
    ·rw [if_pos w] at h
     exact pkk_sound TTok mix hF 23 (hs:=[.u (di (a.length:Int)),.t true,.r (Gb j),.c,.c,.r ((eI .i64) m),.t false,.t true]) (ts:=[]) (s:=[]) (l:=[0,1,5,9]) (by kernel_rfl) (by kernel_rfl) (.cons (len_ob (f:=(eI .u8)) (l:=a)) (.cons (dt i) (.cons (X6 n a b _ x) (.cons (show 0+2≤2 by decide) (.cons (K7 n e j.fName _ y) (.cons (bf p) (.cons (dt w) .nil))))))) (X1 hF ks n a e k (wi .i64 (g+1)) (wi .i64 ((wi .i64 (2*b))+1)) _ h q)
    ·rw [if_neg w] at h
     exact pkk_sound TTok mix hF 23 (hs:=[.u (di (a.length:Int)),.t true,.r (Gb j),.c,.c,.r ((eI .i64) m),.t false,.t false]) (ts:=[]) (s:=[]) (l:=[0,1,5,9]) (by kernel_rfl) (by kernel_rfl) (.cons (len_ob (f:=(eI .u8)) (l:=a)) (.cons (dt i) (.cons (X6 n a b _ x) (.cons (show 0+2≤2 by decide) (.cons (K7 n e j.fName _ y) (.cons (bf p) (.cons (df w) .nil))))))) (X1 hF ks n a e k (wi .i64 (g+1)) (wi .i64 ((wi .i64 (2*b))+2)) _ h q)
  ·rw [if_neg i] at h
   cases h
   exact pkk_sound TTok mix hF 8 (hs:=[.u (di (a.length:Int)),.t false]) (ts:=[]) (s:=[]) (l:=[5]) (by kernel_rfl) (by kernel_rfl) (.cons (len_ob (f:=(eI .u8)) (l:=a)) (.cons (df i) .nil)) q
/- ringhall/dir.Find -/
def Zd (n:Nat) (a:(List Int)) (c:ByteArray):Option (Int×Int×Int) :=
 (S6 n a).bind fun (b:((List Ga)×Int)) =>
 if b.2=0 then
  (Sv n a c n 0 0).bind fun d=>match d with
  | .x0 e f g =>
   some (e,f,g)
  | .x1 h =>
   some (0,h,4)
 else
  some (0,0,b.2)
theorem Vi (n:Nat) (a:(List Int)) (g:ByteArray) (r:Int×Int×Int) (h:Zd n a g=some r):Ret Tryz.prog 14 [(eL (eI .u8)) a,eS g] (.tup [(eI .i64) r.1,(eI .i64) r.2.1,(eI .i64) r.2.2]):=by
 refine ret_run (n:=50) (fn:=Tryz.f14) (c:=bodyOf Tryz.f14) (by kernel_rfl) (by kernel_rfl) (by kernel_rfl) (by kernel_rfl) ?_
 have hF:KC 50 (FinR Tryz.prog Tryz.f14 (.tup [(eI .i64) r.1,(eI .i64) r.2.1,(eI .i64) r.2.2])):=FinR.kc' (by kernel_rfl)
 unfold Zd at h
 obtain ⟨e,i,h⟩:=bind_some h
 by_cases f:e.2=0
 ·rw [if_pos f] at h
  obtain ⟨j,k,h⟩:=bind_some h
  refine pkk_sound TTok mix hF 14 (hs:=[.h [] [] [.row 25 2 (e.1.map Gb)] (.tup [.srf 0,di e.2]),.t false,.n n]) (ts:=[]) (s:=[]) (l:=[0,1,5,9]) (by kernel_rfl) (by kernel_rfl) (.cons (KR n a _ i) (.cons (nf f) .nil)) (X1 hF (.b 0::.s (cR (cR (cR (bodyOf Tryz.f14))))::[]) n a g n 0 0 _ k ?_)
  cases j with
  | x0 m o p =>
   try dsimp only at h
   obtain rfl:=Option.some.inj h
   exact pend_sound TTok mix 2 (hs:=[]) (by kernel_rfl) (by kernel_rfl) (by kernel_rfl) .nil
  | x1 q =>
   try dsimp only at h
   obtain rfl:=Option.some.inj h
   exact pend_sound TTok mix 4 (hs:=[]) (by kernel_rfl) (by kernel_rfl) (by kernel_rfl) .nil
 ·rw [if_neg f] at h
  obtain rfl:=Option.some.inj h
  exact pend_sound TTok mix 12 (hs:=[.h [] [] [.row 25 2 (e.1.map Gb)] (.tup [.srf 0,di e.2]),.t true]) (by kernel_rfl) (by kernel_rfl) (by kernel_rfl) (.cons (KR n a _ i) (.cons (nt f) .nil))
/- ringhall/dir.Put$1 -/
def Yi (n:Nat) (a b:Ga):Option (Bool) :=
 some (b.fName.toList == a.fName.toList)
theorem Ue (n:Nat) (b a:Ga) (r:Bool) (h:Yi n b a=some r):Ret Tryz.prog 39 [Gb b,.iptr [.v (.string a.fName),.v (.int .i64 a.fIno)] 0] (eB r):=by
 refine ret_run (n:=9) (fn:=Tryz.f39) (c:=bodyOf Tryz.f39) (by kernel_rfl) (by kernel_rfl) (by kernel_rfl) (by kernel_rfl) ?_
 have hF:KC 9 (FinR Tryz.prog Tryz.f39 (eB r)):=FinR.kc' (by kernel_rfl)
 unfold Yi at h
 obtain rfl:=Option.some.inj h
 exact pend_sound TTok mix 5 (hs:=[.c,.c]) (by kernel_rfl) (by kernel_rfl) (by kernel_rfl) .nil
inductive XU where
 | x0 (a:Bool) (b:(List Ga))
def VF:XU→Ex
 | .x0 _ _=>.normal
def VG (a:Ga) (e:((List Ga)×Int)):XU→PS
 | .x0 b c=>⟨(dd::dd::dd::.ref 0 0::dd::dd::.srf 1::(dds 22 (.d (.v (.bool b))::(dds 13 [])))),[.box [.d (.v (.string a.fName)),di a.fIno],.row 25 2 (c.map Gb)]⟩
def VH (a:Ga) (b:((List Ga)×Int))  : PS:=⟨(dd::dd::dd::.ref 0 0::dd::dd::.srf 1::(dds 36 [])),[.box [.d (.v (.string a.fName)),di a.fIno],.row 25 2 (b.1.map Gb)]⟩
def XQ (n:Nat) (a:Ga) (b:((List Ga)×Int)):Option XU :=
 (XS n a.fName).bind fun (c:(Bool)) =>
 if c=true then
  if a.fIno<1 then
   some (.x0 true b.1)
  else
   some (.x0 (decide (a.fIno > 32)) b.1)
 else
  some (.x0 true b.1)
theorem VI {Fi:Ex→PS→Prop} (hF:KC 43 Fi) (ks:List Fr) (n:Nat) (a:Ga) (f:((List Ga)×Int))  (o:XU) (h:XQ n a f=some o) (q:RunE Tryz.prog 43 Fi ks (VF o) (VG a f o)):RunE Tryz.prog 43 Fi (.s (cL (cL (cR (cR (cR (bodyOf Tryz.f15))))))::ks) .normal (VH a f):=by
 unfold XQ at h
 obtain ⟨d,g,h⟩:=bind_some h
 by_cases b:d=true
 ·rw [if_pos b] at h
  by_cases e:a.fIno<1
  ·rw [if_pos e] at h
   cases h
   exact pkk_sound TTok mix hF 1 (hs:=[.c,.r (eB d),.t false,.c,.c,.c,.t true,.c,.c]) (ts:=[]) (s:=[0,1]) (l:=[3,6,29]) (by kernel_rfl) (by kernel_rfl) (.cons (Z6 n a.fName _ g) (.cons (bnf b) (.cons (dt e) .nil))) q
  ·rw [if_neg e] at h
   cases h
   exact pkk_sound TTok mix hF 1 (hs:=[.c,.r (eB d),.t false,.c,.c,.c,.t false,.c,.c,.c]) (ts:=[]) (s:=[0,1]) (l:=[3,6,29]) (by kernel_rfl) (by kernel_rfl) (.cons (Z6 n a.fName _ g) (.cons (bnf b) (.cons (df e) .nil))) q
 ·rw [if_neg b] at h
  cases h
  exact pkk_sound TTok mix hF 1 (hs:=[.c,.r (eB d),.t true,.c,.c,.c,.c,.c]) (ts:=[]) (s:=[0,1]) (l:=[3,6,29]) (by kernel_rfl) (by kernel_rfl) (.cons (Z6 n a.fName _ g) (.cons (bnt (vf b)) .nil)) q
/- ringhall/dir.Put -/
def XA (n:Nat) (e:(List Int)) (a:Ga):Option ((List Int)×Int) :=
 (S6 n e).bind fun (b:((List Ga)×Int)) =>
 if b.2=0 then
  (XQ n a b).bind fun f=>match f with
  | .x0 g c =>
   if g=true then
    some (([]:(List Int)),3)
   else
    (GG n c (fun (y0:Ga)=>Yi n y0 a)).bind fun (h:(Bool)) =>
    if h=true then
     some (([]:(List Int)),5)
    else
     if (c.length:Int)=32 then
      some (([]:(List Int)),6)
     else
      (app 24 c ([a])).bind fun (i:(List Ga)) =>
      (Kw n i).bind fun (d:((List Int)×Int×(List Ga))) =>
      some (d.1,d.2.1)
 else
  some (([]:(List Int)),b.2)
theorem Vo (n:Nat) (j:(List Int)) (a:Ga) (r:(List Int)×Int) (h:XA n j a=some r):Ret Tryz.prog 15 [(eL (eI .u8)) j,Gb a] (.tup [(eL (eI .u8)) r.1,(eI .i64) r.2]):=by
 refine ret_run (n:=43) (fn:=Tryz.f15) (c:=bodyOf Tryz.f15) (by kernel_rfl) (by kernel_rfl) (by kernel_rfl) (by kernel_rfl) ?_
 have hF:KC 43 (FinR Tryz.prog Tryz.f15 (.tup [(eL (eI .u8)) r.1,(eI .i64) r.2])):=FinR.kc' (by kernel_rfl)
 unfold XA at h
 obtain ⟨e,y,h⟩:=bind_some h
 by_cases k:e.2=0
 ·rw [if_pos k] at h
  obtain ⟨a0,a1,h⟩:=bind_some h
  refine pkk_sound TTok mix hF 11 (hs:=[.h [] [] [.row 25 2 (e.1.map Gb)] (.tup [.srf 0,di e.2]),.t false]) (ts:=[]) (s:=[0,20]) (l:=[3,6]) (by kernel_rfl) (by kernel_rfl) (.cons (KR n j _ y) (.cons (nf k) .nil)) (VI hF (.s (cR (cL (cR (cR (cR (bodyOf Tryz.f15))))))::.s (cR (cR (cR (cR (bodyOf Tryz.f15)))))::[]) n a e _ a1 ?_)
  cases a0 with
  | x0 a2 b =>
   try dsimp only at h
   by_cases g:a2=true
   ·rw [if_pos g] at h
    obtain rfl:=Option.some.inj h
    exact pend_sound TTok mix 5 (hs:=[.t true]) (by kernel_rfl) (by kernel_rfl) (by kernel_rfl) (.cons g .nil)
   ·rw [if_neg g] at h
    obtain ⟨m,q,h⟩:=bind_some h
    by_cases i:m=true
    ·rw [if_pos i] at h
     obtain rfl:=Option.some.inj h
     exact pend_sound TTok mix 10 (hs:=[.t false,.c,.r (eB m),.t true]) (by kernel_rfl) (by kernel_rfl) (by kernel_rfl) (.cons (vf g) (.cons (GT n b (fun (y0:Ga)=>Yi n y0 a) 39 [.iptr [.v (.string a.fName),.v (.int .i64 a.fIno)] 0] (fun y0 r h=>Ue n y0 a r h) _ q) (.cons i .nil)))
    ·rw [if_neg i] at h
     by_cases o:(b.length:Int)=32
     ·rw [if_pos o] at h
      obtain rfl:=Option.some.inj h
      exact pend_sound TTok mix 15 (hs:=[.t false,.c,.r (eB m),.t false,.u (di (b.length:Int)),.t true]) (by kernel_rfl) (by kernel_rfl) (by kernel_rfl) (.cons (vf g) (.cons (GT n b (fun (y0:Ga)=>Yi n y0 a) 39 [.iptr [.v (.string a.fName),.v (.int .i64 a.fIno)] 0] (fun y0 r h=>Ue n y0 a r h) _ q) (.cons (vf i) (.cons (len_ob (f:=Gb) (l:=b)) (.cons (bt o) .nil)))))
     ·rw [if_neg o] at h
      obtain ⟨z,p,h⟩:=bind_some h
      obtain ⟨x,a3,h⟩:=bind_some h
      obtain rfl:=Option.some.inj h
      exact pend_sound TTok mix 15 (hs:=[.t false,.c,.r (eB m),.t false,.u (di (b.length:Int)),.t false,.c,.bd,.w (z.map Gb),.h [47] [] [.row 25 2 (x.2.2.map Gb)] (.tup [.d (.sl (x.1.map (eI .u8))),di x.2.1])]) (by kernel_rfl) (by kernel_rfl) (by kernel_rfl) (.cons (vf g) (.cons (GT n b (fun (y0:Ga)=>Yi n y0 a) 39 [.iptr [.v (.string a.fName),.v (.int .i64 a.fIno)] 0] (fun y0 r h=>Ue n y0 a r h) _ q) (.cons (vf i) (.cons (len_ob (f:=Gb) (l:=b)) (.cons (bf o) (.cons (app_ob (f:=Gb) (s:=2) p (fun _=>rfl)).1 (.cons (app_ob (f:=Gb) (s:=2) p (fun _=>rfl)).2.1 (.cons (app_ob (f:=Gb) (s:=2) p (fun _=>rfl)).2.2.1 (.cons (app_ob (f:=Gb) (s:=2) p (fun _=>rfl)).2.2.2 (.cons (Y2 n z _ a3) .nil))))))))))
 ·rw [if_neg k] at h
  obtain rfl:=Option.some.inj h
  exact pend_sound TTok mix 12 (hs:=[.h [] [] [.row 25 2 (e.1.map Gb)] (.tup [.srf 0,di e.2]),.t true]) (by kernel_rfl) (by kernel_rfl) (by kernel_rfl) (.cons (KR n j _ y) (.cons (nt k) .nil))
/- ringhall/dir.Out$1 -/
def Yj (n:Nat) (a:Ga) (b:ByteArray):Option (Bool) :=
 some (b.toList == a.fName.toList)
theorem Vc (n:Nat) (a:Ga) (b:ByteArray) (r:Bool) (h:Yj n a b=some r):Ret Tryz.prog 41 [Gb a,.iptr [.v (.string b)] 0] (eB r):=by
 refine ret_run (n:=8) (fn:=Tryz.f41) (c:=bodyOf Tryz.f41) (by kernel_rfl) (by kernel_rfl) (by kernel_rfl) (by kernel_rfl) ?_
 have hF:KC 8 (FinR Tryz.prog Tryz.f41 (eB r)):=FinR.kc' (by kernel_rfl)
 unfold Yj at h
 obtain rfl:=Option.some.inj h
 exact pend_sound TTok mix 5 (hs:=[.c,.c]) (by kernel_rfl) (by kernel_rfl) (by kernel_rfl) .nil
/- slices.Delete[[]ringhall/api.Entry,ringhall/api.Entry] -/
def Sk (n:Nat) (a:(List Ga)) (c b:Int):Option ((List Ga)) :=
 if ((0:Int)≤c∧c≤b∧b≤(a.length:Int)∧(a.length:Int)≤(a.length:Int)) then
  if c=b then
   some a
  else
   if ((0:Int)≤c∧c≤(a.length:Int)) then
    if ((0:Int)≤b∧b≤(a.length:Int)) then
     if c.toNat≤b.toNat∧b.toNat≤a.length∧a.length≤a.length then
      if ((0:Int)≤(((c.toNat+(a.length-b.toNat)):Nat):Int)∧(((c.toNat+(a.length-b.toNat)):Nat):Int)≤(a.length:Int)∧(a.length:Int)≤((delR a c.toNat b.toNat a.length).length:Int)) then
       if ((c.toNat+(a.length-b.toNat)):Nat)≤a.length∧a.length≤(delR a c.toNat b.toNat a.length).length then
        if (c.toNat+(a.length-b.toNat))≤(clrR (delR a c.toNat b.toNat a.length) ((c.toNat+(a.length-b.toNat)):Nat) a.length (Ga.mk (ByteArray.mk #[]) 0)).length then
         some ((clrR (delR a c.toNat b.toNat a.length) ((c.toNat+(a.length-b.toNat)):Nat) a.length (Ga.mk (ByteArray.mk #[]) 0)).take (c.toNat+(a.length-b.toNat)))
        else none
       else none
      else none
     else none
    else none
   else none
 else none
theorem XF (n:Nat) (g:(List Ga)) (m k:Int) (r:(List Ga)) (h:Sk n g m k=some r):RetH Tryz.prog 42 [.srf 0,.d ((eI .i64) m),.d ((eI .i64) k)] [.row 25 2 (g.map Gb)] (.srf 1) [.none,.row 25 2 (r.map Gb)]:=by
 refine retH_run (n:=33) (fn:=Tryz.f42) (c:=bodyOf Tryz.f42) (by kernel_rfl) (by kernel_rfl) (by kernel_rfl) (by kernel_rfl) ?_
 have hF:KC 33 (FinH Tryz.prog Tryz.f42 [.row 25 2 (g.map Gb)] (.srf 1) [.none,.row 25 2 (r.map Gb)]):=FinH.kc' (by kernel_rfl)
 unfold Sk at h
 by_cases o:((0:Int)≤m∧m≤k∧k≤(g.length:Int)∧(g.length:Int)≤(g.length:Int))
 ·rw [if_pos o] at h
  by_cases w:m=k
  ·rw [if_pos w] at h
   obtain rfl:=Option.some.inj h
   exact pendH_sound TTok mix 13 (hs:=[.u (di (g.length:Int)),.e 32 [0] (dd) [],.t true,.dl 4,.mv 0]) [0,62] (by kernel_rfl) (by kernel_rfl) (by kernel_rfl) (.cons (len_ob (f:=Gb) (l:=g)) (.cons (xs111 (P:=Tryz.prog) (T:=TT) (f:=Gb) (t:=22) (e:=25) (s:=2) (l:=0) (L:=g) (x:=(.tmp 8)) (lo:=(.tmp 9)) (hi:=(.tmp 10)) (mx:=(.tmp 12)) (a:=m) (ka:=.i64) (b:=k) (kb:=.i64) (c:=(g.length:Int)) (kc:=.i64) (by kernel_rfl) o) (.cons (bt w) .nil)))
  ·rw [if_neg w] at h
   by_cases a0:((0:Int)≤m∧m≤(g.length:Int))
   ·rw [if_pos a0] at h
    by_cases a1:((0:Int)≤k∧k≤(g.length:Int))
    ·rw [if_pos a1] at h
     by_cases a2:m.toNat≤k.toNat∧k.toNat≤g.length∧g.length≤g.length
     ·rw [if_pos a2] at h
      by_cases a3:((0:Int)≤(((m.toNat+(g.length-k.toNat)):Nat):Int)∧(((m.toNat+(g.length-k.toNat)):Nat):Int)≤(g.length:Int)∧(g.length:Int)≤((delR g m.toNat k.toNat g.length).length:Int))
      ·rw [if_pos a3] at h
       by_cases a4:((m.toNat+(g.length-k.toNat)):Nat)≤g.length∧g.length≤(delR g m.toNat k.toNat g.length).length
       ·rw [if_pos a4] at h
        by_cases a5:(m.toNat+(g.length-k.toNat))≤(clrR (delR g m.toNat k.toNat g.length) ((m.toNat+(g.length-k.toNat)):Nat) g.length (Ga.mk (ByteArray.mk #[]) 0)).length
        ·rw [if_pos a5] at h
         obtain rfl:=Option.some.inj h
         exact pendH_sound TTok mix 18 (hs:=[.u (di (g.length:Int)),.e 32 [0] (dd) [],.t false,.u (di (g.length:Int)),.e 77 [0] (.ssl 0 0 m.toNat 2) [],.e 92 [0] (.ssl 0 k.toNat g.length 2) [],.e 97 [0] (.ssl 0 0 (m.toNat+(g.length-k.toNat)) 2) [(0,.row 25 2 ((delR g m.toNat k.toNat g.length).map Gb))],.e 117 [] (di (((m.toNat+(g.length-k.toNat)):Nat):Int)) [],.e 127 [0] (.ssl 0 ((m.toNat+(g.length-k.toNat)):Nat) g.length 2) [],.e 132 [0] (dd) [(0,.row 25 2 ((clrR (delR g m.toNat k.toNat g.length) ((m.toNat+(g.length-k.toNat)):Nat) g.length (Ga.mk (ByteArray.mk #[]) 0)).map Gb))],.e 137 [0,137] (.srf 137) [(0,.none),(137,.row 25 2 (((clrR (delR g m.toNat k.toNat g.length) ((m.toNat+(g.length-k.toNat)):Nat) g.length (Ga.mk (ByteArray.mk #[]) 0)).take (m.toNat+(g.length-k.toNat))).map Gb))]]) [0,137] (by kernel_rfl) (by kernel_rfl) (by kernel_rfl) (.cons (len_ob (f:=Gb) (l:=g)) (.cons (xs111 (P:=Tryz.prog) (T:=TT) (f:=Gb) (t:=22) (e:=25) (s:=2) (l:=0) (L:=g) (x:=(.tmp 8)) (lo:=(.tmp 9)) (hi:=(.tmp 10)) (mx:=(.tmp 12)) (a:=m) (ka:=.i64) (b:=k) (kb:=.i64) (c:=(g.length:Int)) (kc:=.i64) (by kernel_rfl) o) (.cons (bf w) (.cons (len_ob (f:=Gb) (l:=g)) (.cons (xs01 (P:=Tryz.prog) (T:=TT) (f:=Gb) (t:=22) (e:=25) (s:=2) (l:=0) (L:=g) (x:=(.tmp 20)) (hi:=(.tmp 21)) (b:=m) (kb:=.i64) (by kernel_rfl) a0) (.cons (xs10 (P:=Tryz.prog) (T:=TT) (f:=Gb) (t:=22) (e:=25) (s:=2) (l:=0) (L:=g) (x:=(.tmp 23)) (lo:=(.tmp 24)) (a:=k) (ka:=.i64) (by kernel_rfl) a1) (.cons (xapp (ti:=⟨2,24,.st [(0,9),(1,3)],[.s,.i .i64]⟩) (P:=Tryz.prog) (T:=TT) (f:=Gb) (t:=22) (e:=25) (s:=2) (l:=0) (i:=m.toNat) (j:=k.toNat) (q:=g.length) (L:=g) (x:=(.tmp 22)) (y:=(.tmp 25)) (by kernel_rfl) (by kernel_rfl) a2) (.cons (xlen (P:=Tryz.prog) (T:=TT) (t:=22) (e:=25) (s:=2) (l:=0) (i:=0) (j:=(m.toNat+(g.length-k.toNat))) (x:=(.tmp 28)) (by kernel_rfl)) (.cons (xt11 (P:=Tryz.prog) (T:=TT) (f:=Gb) (t:=22) (e:=25) (s:=2) (l:=0) (L:=(delR g m.toNat k.toNat g.length)) (x:=(.tmp 27)) (lo:=(.tmp 29)) (hi:=(.tmp 30)) (a:=(((m.toNat+(g.length-k.toNat)):Nat):Int)) (ka:=.i64) (b:=(g.length:Int)) (kb:=.i64) (i:=(m.toNat+(g.length-k.toNat))) (by kernel_rfl) a3) (.cons (xclr (ti:=⟨2,24,.st [(0,9),(1,3)],[.s,.i .i64]⟩) (P:=Tryz.prog) (T:=TT) (f:=Gb) (t:=22) (e:=25) (s:=2) (l:=0) (i:=((m.toNat+(g.length-k.toNat)):Nat)) (j:=g.length) (z:=(Ga.mk (ByteArray.mk #[]) 0)) (L:=(delR g m.toNat k.toNat g.length)) (x:=(.tmp 31)) (p:=.agg [.v (.string ⟨#[]⟩),.v (.int .i64 0)]) (by kernel_rfl) (by kernel_rfl) (by kernel_rfl) (by kernel_rfl) (by decide) rfl a4) (.cons (xmv (P:=Tryz.prog) (T:=TT) (f:=Gb) (e:=25) (s:=2) (l:=0) (nl:=137) (L:=(clrR (delR g m.toNat k.toNat g.length) ((m.toNat+(g.length-k.toNat)):Nat) g.length (Ga.mk (ByteArray.mk #[]) 0))) (i:=(m.toNat+(g.length-k.toNat))) (x:=(.tmp 0)) a5) .nil)))))))))))
        ·rw [if_neg a5] at h; cases h
       ·rw [if_neg a4] at h; cases h
      ·rw [if_neg a3] at h; cases h
     ·rw [if_neg a2] at h; cases h
    ·rw [if_neg a1] at h; cases h
   ·rw [if_neg a0] at h; cases h
 ·rw [if_neg o] at h; cases h
/- ringhall/dir.Out -/
def ZG (n:Nat) (d:(List Int)) (e:ByteArray):Option ((List Int)×Int) :=
 (S6 n d).bind fun (a:((List Ga)×Int)) =>
 if a.2=0 then
  (GN n a.1 (fun (y0:Ga)=>Yj n y0 e)).bind fun (b:(Int)) =>
  if b<0 then
   some (([]:(List Int)),4)
  else
   (Sk n a.1 b (wi .i64 (b+1))).bind fun (f:((List Ga))) =>
   (Kw n f).bind fun (c:((List Int)×Int×(List Ga))) =>
   some (c.1,c.2.1)
 else
  some (([]:(List Int)),a.2)
theorem Vp (n:Nat) (e:(List Int)) (b:ByteArray) (r:(List Int)×Int) (h:ZG n e b=some r):Ret Tryz.prog 16 [(eL (eI .u8)) e,eS b] (.tup [(eL (eI .u8)) r.1,(eI .i64) r.2]):=by
 refine ret_run (n:=30) (fn:=Tryz.f16) (c:=bodyOf Tryz.f16) (by kernel_rfl) (by kernel_rfl) (by kernel_rfl) (by kernel_rfl) ?_
 have hF:KC 30 (FinR Tryz.prog Tryz.f16 (.tup [(eL (eI .u8)) r.1,(eI .i64) r.2])):=FinR.kc' (by kernel_rfl)
 unfold ZG at h
 obtain ⟨a,j,h⟩:=bind_some h
 by_cases f:a.2=0
 ·rw [if_pos f] at h
  obtain ⟨g,l,h⟩:=bind_some h
  by_cases i:g<0
  ·rw [if_pos i] at h
   obtain rfl:=Option.some.inj h
   exact pend_sound TTok mix 19 (hs:=[.h [] [] [.row 25 2 (a.1.map Gb)] (.tup [.srf 0,di a.2]),.t false,.c,.r ((eI .i64) g),.t true]) (by kernel_rfl) (by kernel_rfl) (by kernel_rfl) (.cons (KR n e _ j) (.cons (nf f) (.cons (SQ n a.1 (fun (y0:Ga)=>Yj n y0 b) 41 [.iptr [.v (.string b)] 0] (fun y0 r h=>Vc n y0 b r h) _ l) (.cons (dt i) .nil))))
  ·rw [if_neg i] at h
   obtain ⟨m,o,h⟩:=bind_some h
   obtain ⟨k,p,h⟩:=bind_some h
   obtain rfl:=Option.some.inj h
   exact pend_sound TTok mix 19 (hs:=[.h [] [] [.row 25 2 (a.1.map Gb)] (.tup [.srf 0,di a.2]),.t false,.c,.r ((eI .i64) g),.t false,.h [20] [] [.none,.row 25 2 (m.map Gb)] (.srf 1),.h [110] [] [.row 25 2 (k.2.2.map Gb)] (.tup [.d (.sl (k.1.map (eI .u8))),di k.2.1])]) (by kernel_rfl) (by kernel_rfl) (by kernel_rfl) (.cons (KR n e _ j) (.cons (nf f) (.cons (SQ n a.1 (fun (y0:Ga)=>Yj n y0 b) 41 [.iptr [.v (.string b)] 0] (fun y0 r h=>Vc n y0 b r h) _ l) (.cons (df i) (.cons (XF n a.1 g (wi .i64 (g+1)) _ o) (.cons (Y2 n m _ p) .nil))))))
 ·rw [if_neg f] at h
  obtain rfl:=Option.some.inj h
  exact pend_sound TTok mix 12 (hs:=[.h [] [] [.row 25 2 (a.1.map Gb)] (.tup [.srf 0,di a.2]),.t true]) (by kernel_rfl) (by kernel_rfl) (by kernel_rfl) (.cons (KR n e _ j) (.cons (nt f) .nil))
inductive Zy where
 | x0 (a:Int)
def U1:Zy→Ex
 | .x0 _=>.exit 0
def U2 (b:(List Ga)) (c:ByteArray):Zy→PS
 | .x0 a=>⟨(dd::dd::dd::dd::dd::di a::(dds 28 [])),[]⟩
def U3 (a:(List Ga)) (b:ByteArray) (c e:Int):PS:=⟨(.d (.sl (a.map Gb))::.d (.v (.string b))::dd::dd::dd::di c::di e::(dds 27 [])),[]⟩
def SI (n:Nat) (a:(List Ga)) (b:ByteArray):Nat→Int→Int→Option Zy
 | 0,_,_=>none
 | k+1,c,d =>
  if d<(a.length:Int) then
   (Zw n d (a.length:Int)).bind fun (f:(Int)) =>
   (getI a f).bind fun (e:Ga) =>
   if (e.fName.toList == b.toList)=true then
    some (.x0 (wi .i64 (c+1)))
   else
    if (!(Op.bytesLess b.toList e.fName.toList||(b.toList == e.fName.toList)))=true then
     SI n a b k (wi .i64 (c+1)) (wi .i64 ((wi .i64 ((wi .i64 (2*d))+1))+1))
    else
     SI n a b k (wi .i64 (c+1)) (wi .i64 ((wi .i64 (2*d))+1))
  else
   some (.x0 c)
theorem Yk {Fi:Ex→PS→Prop} (hF:KC 34 Fi) (ks:List Fr) (n:Nat) (a:(List Ga)) (e:ByteArray)  : ∀ (k:Nat) (g b:Int) (o:Zy),SI n a e k g b=some o→RunE Tryz.prog 34 Fi ks (U1 o) (U2 a e o)→RunE Tryz.prog 34 Fi (.l k (cP (cB (cR (cL (cR (cR (bodyOf Tryz.f17)))))))::ks) .normal (U3 a e g b)
 | 0,g,b,o,h,q=>by rw [SI] at h; cases h
 | k+1,g,b,o,h,q=>by
  rw [SI] at h
  by_cases i:b<(a.length:Int)
  ·rw [if_pos i] at h
   obtain ⟨w,x,h⟩:=bind_some h
   obtain ⟨j,z,h⟩:=bind_some h
   by_cases m:(j.fName.toList == e.toList)=true
   ·rw [if_pos m] at h
    cases h
    exact pkk_sound TTok mix hF 19 (hs:=[.u (di (a.length:Int)),.t true,.u (di (a.length:Int)),.r ((eI .i64) w),.y (Gb j),.c,.t true]) (ts:=[]) (s:=[]) (l:=[5]) (by kernel_rfl) (by kernel_rfl) (.cons (len_ob (f:=Gb) (l:=a)) (.cons (dt i) (.cons (len_ob (f:=Gb) (l:=a)) (.cons (Z9 n b (a.length:Int) _ x) (.cons (getI_ob (f:=Gb) z) (.cons m .nil)))))) q
   ·rw [if_neg m] at h
    by_cases p:(!(Op.bytesLess e.toList j.fName.toList||(e.toList == j.fName.toList)))=true
    ·rw [if_pos p] at h
     exact pkk_sound TTok mix hF 23 (hs:=[.u (di (a.length:Int)),.t true,.u (di (a.length:Int)),.r ((eI .i64) w),.y (Gb j),.c,.t false,.t true]) (ts:=[]) (s:=[]) (l:=[0,1,5,6]) (by kernel_rfl) (by kernel_rfl) (.cons (len_ob (f:=Gb) (l:=a)) (.cons (dt i) (.cons (len_ob (f:=Gb) (l:=a)) (.cons (Z9 n b (a.length:Int) _ x) (.cons (getI_ob (f:=Gb) z) (.cons (vf m) (.cons p .nil))))))) (Yk hF ks n a e k (wi .i64 (g+1)) (wi .i64 ((wi .i64 ((wi .i64 (2*b))+1))+1)) _ h q)
    ·rw [if_neg p] at h
     exact pkk_sound TTok mix hF 23 (hs:=[.u (di (a.length:Int)),.t true,.u (di (a.length:Int)),.r ((eI .i64) w),.y (Gb j),.c,.t false,.t false]) (ts:=[]) (s:=[]) (l:=[0,1,5,6]) (by kernel_rfl) (by kernel_rfl) (.cons (len_ob (f:=Gb) (l:=a)) (.cons (dt i) (.cons (len_ob (f:=Gb) (l:=a)) (.cons (Z9 n b (a.length:Int) _ x) (.cons (getI_ob (f:=Gb) z) (.cons (vf m) (.cons (vf p) .nil))))))) (Yk hF ks n a e k (wi .i64 (g+1)) (wi .i64 ((wi .i64 (2*b))+1)) _ h q)
  ·rw [if_neg i] at h
   cases h
   exact pkk_sound TTok mix hF 8 (hs:=[.u (di (a.length:Int)),.t false]) (ts:=[]) (s:=[]) (l:=[5]) (by kernel_rfl) (by kernel_rfl) (.cons (len_ob (f:=Gb) (l:=a)) (.cons (df i) .nil)) q
/- ringhall/ringref3.Looks -/
def ZR (n:Nat) (a:(List Ga)) (b:ByteArray):Option (Int) :=
 (SI n a b n 0 0).bind fun c=>match c with
 | .x0 d =>
  some d
theorem Za (n:Nat) (a:(List Ga)) (d:ByteArray) (r:Int) (h:ZR n a d=some r):Ret Tryz.prog 17 [(eL Gb) a,eS d] ((eI .i64) r):=by
 refine ret_run (n:=34) (fn:=Tryz.f17) (c:=bodyOf Tryz.f17) (by kernel_rfl) (by kernel_rfl) (by kernel_rfl) (by kernel_rfl) ?_
 have hF:KC 34 (FinR Tryz.prog Tryz.f17 ((eI .i64) r)):=FinR.kc' (by kernel_rfl)
 unfold ZR at h
 obtain ⟨e,f,h⟩:=bind_some h
 refine pkk_sound TTok mix hF 9 (hs:=[.n n]) (ts:=[]) (s:=[]) (l:=[0,1,5,6]) (by kernel_rfl) (by kernel_rfl) .nil (Yk hF (.b 0::.s (cR (cR (cR (bodyOf Tryz.f17))))::[]) n a d n 0 0 _ f ?_)
 cases e with
 | x0 g =>
  try dsimp only at h
  obtain rfl:=Option.some.inj h
  exact pend_sound TTok mix 4 (hs:=[]) (by kernel_rfl) (by kernel_rfl) (by kernel_rfl) .nil
inductive KS where
 | x0 (a:Bool)
def Un:KS→Ex
 | .x0 _=>.normal
def Uo (b:(List Ga)) (c:(List Int)) (a:Ga):KS→PS
 | .x0 e=>⟨(.d (.sl (b.map Gb))::dd::.d (.sl (c.map (eI .u8)))::dd::.ref 0 0::(dds 39 (.d (.v (.bool e))::(dds 180 [])))),[.box [.d (.v (.string a.fName)),di a.fIno]]⟩
def Up (b:(List Ga)) (c:(List Int)) (a:Ga)  : PS:=⟨(.d (.sl (b.map Gb))::dd::.d (.sl (c.map (eI .u8)))::dd::.ref 0 0::(dds 220 [])),[.box [.d (.v (.string a.fName)),di a.fIno]]⟩
def Ze (n:Nat) (a:(List Ga)) (b:(List Int)) (c:Ga):Option KS :=
 if (a.length:Int) > 40 then
  some (.x0 true)
 else
  if (c.fName.size:Int) > 50 then
   some (.x0 true)
  else
   some (.x0 (decide ((b.length:Int) > 600)))
theorem Uq {Fi:Ex→PS→Prop} (hF:KC 225 Fi) (ks:List Fr) (n:Nat) (a:(List Ga)) (b:(List Int)) (g:Ga)  (o:KS) (h:Ze n a b g=some o) (q:RunE Tryz.prog 225 Fi ks (Un o) (Uo a b g o)):RunE Tryz.prog 225 Fi (.s (cL (cL (cR (bodyOf Tryz.f4))))::ks) .normal (Up a b g):=by
 unfold Ze at h
 by_cases e:(a.length:Int) > 40
 ·rw [if_pos e] at h
  cases h
  exact pkk_sound TTok mix hF 1 (hs:=[.u (di (a.length:Int)),.t true,.c,.c,.c,.c,.c,.c]) (ts:=[]) (s:=[0]) (l:=[0,2,4,44]) (by kernel_rfl) (by kernel_rfl) (.cons (len_ob (f:=Gb) (l:=a)) (.cons (dt e) .nil)) q
 ·rw [if_neg e] at h
  by_cases i:(g.fName.size:Int) > 50
  ·rw [if_pos i] at h
   cases h
   exact pkk_sound TTok mix hF 1 (hs:=[.u (di (a.length:Int)),.t false,.c,.c,.c,.c,.t true,.c,.c]) (ts:=[]) (s:=[0]) (l:=[0,2,4,44]) (by kernel_rfl) (by kernel_rfl) (.cons (len_ob (f:=Gb) (l:=a)) (.cons (df e) (.cons (dt i) .nil))) q
  ·rw [if_neg i] at h
   cases h
   exact pkk_sound TTok mix hF 1 (hs:=[.u (di (a.length:Int)),.t false,.c,.c,.c,.c,.t false,.c,.u (di (b.length:Int)),.c]) (ts:=[]) (s:=[0]) (l:=[0,2,4,44]) (by kernel_rfl) (by kernel_rfl) (.cons (len_ob (f:=Gb) (l:=a)) (.cons (df e) (.cons (df i) (.cons (len_ob (f:=(eI .u8)) (l:=b)) .nil)))) q
inductive KT where
 | x0 (a:Bool)
def Ur:KT→Ex
 | .x0 _=>.normal
def Us (b:(List Ga)) (e:((List Ga)×Int)) (f:(Int×Int×Int)) (g h:((List Int)×Int)) (a:Ga):KT→PS
 | .x0 c=>⟨(.d (.sl (b.map Gb))::dd::dd::dd::.ref 0 0::(dds 81 (.d (.v (.bool c))::(dds 138 [])))),[.box [.d (.v (.string a.fName)),di a.fIno]]⟩
def Ut (b:(List Ga)) (c:((List Ga)×Int)) (e:(Int×Int×Int)) (f g:((List Int)×Int)) (a:Ga)  : PS:=⟨(.d (.sl (b.map Gb))::dd::dd::dd::.ref 0 0::dd::dd::dd::di c.2::dd::dd::di e.2.2::dd::di f.2::dd::di g.2::(dds 209 [])),[.box [.d (.v (.string a.fName)),di a.fIno]]⟩
def Zf (n:Nat) (e:(List Ga)) (a:((List Ga)×Int)) (b:(Int×Int×Int)) (c d:((List Int)×Int)) (f:Ga):Option KT :=
 if b.2.2=a.2 then
  if c.2=a.2 then
   some (.x0 (d.2 != a.2))
  else
   some (.x0 true)
 else
  some (.x0 true)
theorem Uu {Fi:Ex→PS→Prop} (hF:KC 225 Fi) (ks:List Fr) (n:Nat) (g:(List Ga)) (a:((List Ga)×Int)) (d:(Int×Int×Int)) (e i:((List Int)×Int)) (j:Ga)  (o:KT) (h:Zf n g a d e i j=some o) (q:RunE Tryz.prog 225 Fi ks (Ur o) (Us g a d e i j o)):RunE Tryz.prog 225 Fi (.s (cL (cR (cR (cR (cT (cR (cR (cL (cR (cR (bodyOf Tryz.f4)))))))))))::ks) .normal (Ut g a d e i j):=by
 unfold Zf at h
 by_cases b:d.2.2=a.2
 ·rw [if_pos b] at h
  by_cases f:e.2=a.2
  ·rw [if_pos f] at h
   cases h
   exact pkk_sound TTok mix hF 1 (hs:=[.t false,.c,.c,.t false,.c,.c]) (ts:=[]) (s:=[0]) (l:=[0,4,86]) (by kernel_rfl) (by kernel_rfl) (.cons (nf b) (.cons (nf f) .nil)) q
  ·rw [if_neg f] at h
   cases h
   exact pkk_sound TTok mix hF 1 (hs:=[.t false,.c,.c,.t true,.c,.c]) (ts:=[]) (s:=[0]) (l:=[0,4,86]) (by kernel_rfl) (by kernel_rfl) (.cons (nf b) (.cons (nt f) .nil)) q
 ·rw [if_neg b] at h
  cases h
  exact pkk_sound TTok mix hF 1 (hs:=[.t true,.c,.c,.c,.c,.c]) (ts:=[]) (s:=[0]) (l:=[0,4,86]) (by kernel_rfl) (by kernel_rfl) (.cons (nt b) .nil) q
inductive KU where
 | x0 (a:Bool)
 | x1 
def Uv:KU→Ex
 | .x0 _=>.ret
 | .x1  => .normal
def Uw (b:(List Ga)) (e:(List Int)) (f:((List Ga)×Int)) (a:Ga):KU→PS
 | .x0 c=>⟨(dd::dd::dd::dd::dd::dd::.d (.v (.bool c))::(dds 218 [])),[]⟩
 | .x1  => ⟨(.d (.sl (b.map Gb))::dd::dd::dd::.ref 0 0::(dds 220 [])),[.box [.d (.v (.string a.fName)),di a.fIno]]⟩
def Ux (c:(List Ga)) (e:(List Int)) (a:((List Ga)×Int)) (b:Ga)  : PS:=⟨(.d (.sl (c.map Gb))::dd::.d (.sl (e.map (eI .u8)))::dd::.ref 0 0::dd::dd::dd::di a.2::(dds 43 (.d (.v (.bool (a.2 != 0)))::(dds 172 [])))),[.box [.d (.v (.string b.fName)),di b.fIno]]⟩
def Kx (n:Nat) (d:(List Ga)) (b:(List Int)) (c:((List Ga)×Int)) (a:Ga):Option KU :=
 if c.2=0 then
  some (.x1 )
 else
  (Zd n b a.fName).bind fun (e:(Int×Int×Int)) =>
  (XA n b a).bind fun (f:((List Int)×Int)) =>
  (ZG n b a.fName).bind fun (g:((List Int)×Int)) =>
  (Zf n d c e f g a).bind fun h=>match h with
  | .x0 i =>
   if i=true then
    some (.x0 false)
   else
    some (.x1 )
theorem Uy {Fi:Ex→PS→Prop} (hF:KC 225 Fi) (ks:List Fr) (n:Nat) (e:(List Ga)) (b:(List Int)) (d:((List Ga)×Int)) (a:Ga)  (o:KU) (h:Kx n e b d a=some o) (q:RunE Tryz.prog 225 Fi ks (Uv o) (Uw e b d a o)):RunE Tryz.prog 225 Fi (.s (cR (cR (cL (cR (cR (bodyOf Tryz.f4))))))::ks) .normal (Ux e b d a):=by
 unfold Kx at h
 by_cases f:d.2=0
 ·rw [if_pos f] at h
  cases h
  exact pkk_sound TTok mix hF 2 (hs:=[.t false]) (ts:=[]) (s:=[0]) (l:=[0,4]) (by kernel_rfl) (by kernel_rfl) (.cons (nf f) .nil) q
 ·rw [if_neg f] at h
  obtain ⟨g,m,h⟩:=bind_some h
  obtain ⟨j,p,h⟩:=bind_some h
  obtain ⟨k,u,h⟩:=bind_some h
  obtain ⟨v,w,h⟩:=bind_some h
  refine pkk_sound TTok mix hF 8 (hs:=[.t true,.c,.r (.tup [(eI .i64) g.1,(eI .i64) g.2.1,(eI .i64) g.2.2]),.c,.r (.tup [(eL (eI .u8)) j.1,(eI .i64) j.2]),.c,.r (.tup [(eL (eI .u8)) k.1,(eI .i64) k.2])]) (ts:=[]) (s:=[0]) (l:=[0,4,8,11,13,15]) (by kernel_rfl) (by kernel_rfl) (.cons (nt f) (.cons (Vi n b a.fName _ m) (.cons (Vo n b a _ p) (.cons (Vp n b a.fName _ u) .nil)))) (Uu hF (.s (cR (cR (cR (cR (cT (cR (cR (cL (cR (cR (bodyOf Tryz.f4)))))))))))::ks) n e d g j k a _ w ?_)
  cases v with
  | x0 x =>
   try dsimp only at h
   by_cases i:x=true
   ·rw [if_pos i] at h
    cases h
    exact pkk_sound TTok mix hF 4 (hs:=[.t true]) (ts:=[]) (s:=[]) (l:=[6]) (by kernel_rfl) (by kernel_rfl) (.cons i .nil) q
   ·rw [if_neg i] at h
    cases h
    exact pkk_sound TTok mix hF 2 (hs:=[.t false]) (ts:=[]) (s:=[0]) (l:=[0,4]) (by kernel_rfl) (by kernel_rfl) (.cons (vf i) .nil) q
inductive KX where
 | x0 (a:Int) (b c:(List Ga))
def Uz:KX→Ex
 | .x0 _ _ _=>.exit 0
def UA (b:(List Int)) (g:((List Ga)×Int)) (a:Ga):KX→PS
 | .x0 c e f=>⟨(dd::dd::dd::dd::.ref 0 0::(dds 11 (.d (.sl (b.map (eI .u8)))::.srf 1::dd::di c::.srf 2::(dds 204 [])))),[.box [.d (.v (.string a.fName)),di a.fIno],.row 25 2 (e.map Gb),.row 25 2 (f.map Gb)]⟩
def UB (b:(List Int)) (c:((List Ga)×Int)) (a:Ga) (e f:Int) (g h:(List Ga)):PS:=⟨(dd::dd::dd::dd::.ref 0 0::(dds 11 (.d (.sl (b.map (eI .u8)))::.srf 1::dd::di e::.srf 2::(dds 78 (.srf 1::di (c.1.length:Int)::di f::(dds 123 [])))))),[.box [.d (.v (.string a.fName)),di a.fIno],.row 25 2 (g.map Gb),.row 25 2 (h.map Gb)]⟩
def Sl (n:Nat) (g:(List Int)) (c:((List Ga)×Int)) (d:Ga):Nat→Int→Int→(List Ga)→(List Ga)→Option KX
 | 0,_,_,_,_=>none
 | k+1,h,a,b,e =>
  if a<(c.1.length:Int) then
   if 0≤a∧(a).toNat<b.length then
    (b[(a).toNat]?).bind fun (f:Ga) =>
    if (f.fName.toList == d.fName.toList)=true then
     Sl n g c d k f.fIno (wi .i64 (a+1)) b e
    else
     (app 24 e ([f])).bind fun (i:(List Ga)) =>
     Sl n g c d k h (wi .i64 (a+1)) b i
   else none
  else
   some (.x0 h b e)
theorem ZF {Fi:Ex→PS→Prop} (hF:KC 225 Fi) (ks:List Fr) (n:Nat) (g:(List Int)) (d:((List Ga)×Int)) (e:Ga)  : ∀ (k:Nat) (i a:Int) (b j:(List Ga)) (o:KX),Sl n g d e k i a b j=some o→RunE Tryz.prog 225 Fi ks (Uz o) (UA g d e o)→RunE Tryz.prog 225 Fi (.l k (cP (cB (cR (cL (cR (cR (cR (cR (cR (cR (cR (cR (bodyOf Tryz.f4)))))))))))))::ks) .normal (UB g d e i a b j)
 | 0,i,a,b,j,o,h,q=>by rw [Sl] at h; cases h
 | k+1,i,a,b,j,o,h,q=>by
  rw [Sl] at h
  by_cases m:a<(d.1.length:Int)
  ·rw [if_pos m] at h
   by_cases p:0≤a∧(a).toNat<b.length
   ·rw [if_pos p] at h
    obtain ⟨r,x,h⟩:=bind_some h
    by_cases u:(r.fName.toList == e.fName.toList)=true
    ·rw [if_pos u] at h
     exact pkk_sound TTok mix hF 16 (hs:=[.t true,.y (Gb r),.c,.c,.c,.t true,.c]) (ts:=[]) (s:=[0,1,2]) (l:=[4,16,17,19,20,99,100,101]) (by kernel_rfl) (by kernel_rfl) (.cons (dt m) (.cons (idx_ob (f:=Gb) p) (.cons (get_ob (f:=Gb) x) (.cons (show 0+2≤2 by decide) (.cons u .nil))))) (ZF hF ks n g d e k r.fIno (wi .i64 (a+1)) b j _ h q)
    ·rw [if_neg u] at h
     obtain ⟨z,v,h⟩:=bind_some h
     exact pkk_sound TTok mix hF 16 (hs:=[.t true,.y (Gb r),.c,.c,.c,.t false,.c,.bd,.w (z.map Gb)]) (ts:=[]) (s:=[0,1,68]) (l:=[4,16,17,19,20,99,100,101]) (by kernel_rfl) (by kernel_rfl) (.cons (dt m) (.cons (idx_ob (f:=Gb) p) (.cons (get_ob (f:=Gb) x) (.cons (show 0+2≤2 by decide) (.cons (vf u) (.cons (app_ob (f:=Gb) (s:=2) v (fun _=>rfl)).1 (.cons (app_ob (f:=Gb) (s:=2) v (fun _=>rfl)).2.1 (.cons (app_ob (f:=Gb) (s:=2) v (fun _=>rfl)).2.2.1 (.cons (app_ob (f:=Gb) (s:=2) v (fun _=>rfl)).2.2.2 .nil))))))))) (ZF hF ks n g d e k i (wi .i64 (a+1)) b z _ h q)
   ·rw [if_neg p] at h; cases h
  ·rw [if_neg m] at h
   cases h
   exact pkk_sound TTok mix hF 8 (hs:=[.t false]) (ts:=[]) (s:=[0,1,2]) (l:=[4,16,17,19,20]) (by kernel_rfl) (by kernel_rfl) (.cons (df m) .nil) q
inductive KY where
 | x0 (a:Bool) (b c:(List Ga))
def UC:KY→Ex
 | .x0 _ _ _=>.normal
def UD (f:Int) (a:(Int×Int×Int)) (b c:((List Int)×Int)) (e:Ga) (j k:(List Ga)):KY→PS
 | .x0 g h i=>⟨(dd::dd::dd::dd::.ref 0 0::(dds 12 (.srf 1::dd::di f::.srf 2::dd::dd::di a.1::di a.2.1::di a.2.2::.d (.sl (b.1.map (eI .u8)))::di b.2::.d (.sl (c.1.map (eI .u8)))::di c.2::di 0::(dds 107 (.d (.v (.bool g))::(dds 86 [])))))),[.box [.d (.v (.string e.fName)),di e.fIno],.row 25 2 (h.map Gb),.row 25 2 (i.map Gb)]⟩
def UE (f:Int) (a:(Int×Int×Int)) (b c:((List Int)×Int)) (e:Ga) (g h:(List Ga))  : PS:=⟨(dd::dd::dd::dd::.ref 0 0::(dds 12 (.srf 1::dd::di f::.srf 2::dd::dd::di a.1::di a.2.1::di a.2.2::.d (.sl (b.1.map (eI .u8)))::di b.2::.d (.sl (c.1.map (eI .u8)))::di c.2::di 0::(dds 194 [])))),[.box [.d (.v (.string e.fName)),di e.fIno],.row 25 2 (g.map Gb),.row 25 2 (h.map Gb)]⟩
def Ky (n:Nat) (e:Int) (f:(Int×Int×Int)) (g h:((List Int)×Int)) (a:Ga) (b c:(List Ga)):Option KY :=
 (K4 n a.fName).bind fun (d:(Bool)) =>
 if d=true then
  if a.fIno<1 then
   some (.x0 true b c)
  else
   some (.x0 (decide (a.fIno > 32)) b c)
 else
  some (.x0 true b c)
theorem UF {Fi:Ex→PS→Prop} (hF:KC 225 Fi) (ks:List Fr) (n:Nat) (f:Int) (g:(Int×Int×Int)) (i j:((List Int)×Int)) (a:Ga) (k m:(List Ga))  (o:KY) (h:Ky n f g i j a k m=some o) (q:RunE Tryz.prog 225 Fi ks (UC o) (UD f g i j a k m o)):RunE Tryz.prog 225 Fi (.s (cL (cB (cL (cR (cR (cR (cR (cR (cR (cR (cR (cR (cR (cR (cR (cR (bodyOf Tryz.f4)))))))))))))))))::ks) .normal (UE f g i j a k m):=by
 unfold Ky at h
 obtain ⟨d,p,h⟩:=bind_some h
 by_cases b:d=true
 ·rw [if_pos b] at h
  by_cases e:a.fIno<1
  ·rw [if_pos e] at h
   cases h
   exact pkk_sound TTok mix hF 1 (hs:=[.c,.r (eB d),.t false,.c,.c,.c,.t true,.c,.c]) (ts:=[]) (s:=[0,1,2]) (l:=[4,17,19,20,23,24,25,26,27,28,29,30,138]) (by kernel_rfl) (by kernel_rfl) (.cons (SY n a.fName _ p) (.cons (bnf b) (.cons (dt e) .nil))) q
  ·rw [if_neg e] at h
   cases h
   exact pkk_sound TTok mix hF 1 (hs:=[.c,.r (eB d),.t false,.c,.c,.c,.t false,.c,.c,.c]) (ts:=[]) (s:=[0,1,2]) (l:=[4,17,19,20,23,24,25,26,27,28,29,30,138]) (by kernel_rfl) (by kernel_rfl) (.cons (SY n a.fName _ p) (.cons (bnf b) (.cons (df e) .nil))) q
 ·rw [if_neg b] at h
  cases h
  exact pkk_sound TTok mix hF 1 (hs:=[.c,.r (eB d),.t true,.c,.c,.c,.c,.c]) (ts:=[]) (s:=[0,1,2]) (l:=[4,17,19,20,23,24,25,26,27,28,29,30,138]) (by kernel_rfl) (by kernel_rfl) (.cons (SY n a.fName _ p) (.cons (bnt (vf b)) .nil)) q
inductive KZ where
 | x0 (a:Int) (b c:(List Ga))
def UG:KZ→Ex
 | .x0 _ _ _=>.normal
def UH (f:Int) (a:(Int×Int×Int)) (b c:((List Int)×Int)) (j:Bool) (e:Ga) (k l:(List Ga)):KZ→PS
 | .x0 g h i=>⟨(dd::dd::dd::dd::.ref 0 0::(dds 12 (.srf 1::dd::di f::.srf 2::dd::dd::di a.1::di a.2.1::di a.2.2::.d (.sl (b.1.map (eI .u8)))::di b.2::.d (.sl (c.1.map (eI .u8)))::di c.2::di g::(dds 194 [])))),[.box [.d (.v (.string e.fName)),di e.fIno],.row 25 2 (h.map Gb),.row 25 2 (i.map Gb)]⟩
def UI (f:Int) (a:(Int×Int×Int)) (b c:((List Int)×Int)) (g:Bool) (e:Ga) (h i:(List Ga))  : PS:=⟨(dd::dd::dd::dd::.ref 0 0::(dds 12 (.srf 1::dd::di f::.srf 2::dd::dd::di a.1::di a.2.1::di a.2.2::.d (.sl (b.1.map (eI .u8)))::di b.2::.d (.sl (c.1.map (eI .u8)))::di c.2::di 0::(dds 107 (.d (.v (.bool g))::(dds 86 [])))))),[.box [.d (.v (.string e.fName)),di e.fIno],.row 25 2 (h.map Gb),.row 25 2 (i.map Gb)]⟩
def Kz (n:Nat) (c:Int) (e:(Int×Int×Int)) (f g:((List Int)×Int)) (d:Bool) (h:Ga) (a b:(List Ga)):Option KZ :=
 if d=true then
  some (.x0 3 a b)
 else
  if c > 0 then
   some (.x0 5 a b)
  else
   if (a.length:Int)=32 then
    some (.x0 6 a b)
   else
    some (.x0 0 a b)
theorem UJ {Fi:Ex→PS→Prop} (hF:KC 225 Fi) (ks:List Fr) (n:Nat) (e:Int) (j:(Int×Int×Int)) (k m:((List Int)×Int)) (g:Bool) (p:Ga) (a r:(List Ga))  (o:KZ) (h:Kz n e j k m g p a r=some o) (q:RunE Tryz.prog 225 Fi ks (UG o) (UH e j k m g p a r o)):RunE Tryz.prog 225 Fi (.s (cR (cB (cL (cR (cR (cR (cR (cR (cR (cR (cR (cR (cR (cR (cR (cR (bodyOf Tryz.f4)))))))))))))))))::ks) .normal (UI e j k m g p a r):=by
 unfold Kz at h
 by_cases b:g=true
 ·rw [if_pos b] at h
  cases h
  exact pkk_sound TTok mix hF 2 (hs:=[.t true]) (ts:=[]) (s:=[0,1,2]) (l:=[4,17,19,20,23,24,25,26,27,28,29,30]) (by kernel_rfl) (by kernel_rfl) (.cons b .nil) q
 ·rw [if_neg b] at h
  by_cases c:e > 0
  ·rw [if_pos c] at h
   cases h
   exact pkk_sound TTok mix hF 5 (hs:=[.t false,.t true]) (ts:=[]) (s:=[0,1,2]) (l:=[4,17,19,20,23,24,25,26,27,28,29,30]) (by kernel_rfl) (by kernel_rfl) (.cons (vf b) (.cons (dt c) .nil)) q
  ·rw [if_neg c] at h
   by_cases i:(a.length:Int)=32
   ·rw [if_pos i] at h
    cases h
    exact pkk_sound TTok mix hF 8 (hs:=[.t false,.t false,.u (di (a.length:Int)),.t true]) (ts:=[]) (s:=[0,1,2]) (l:=[4,17,19,20,23,24,25,26,27,28,29,30]) (by kernel_rfl) (by kernel_rfl) (.cons (vf b) (.cons (df c) (.cons (len_ob (f:=Gb) (l:=a)) (.cons (bt i) .nil)))) q
   ·rw [if_neg i] at h
    cases h
    exact pkk_sound TTok mix hF 8 (hs:=[.t false,.t false,.u (di (a.length:Int)),.t false]) (ts:=[]) (s:=[0,1,2]) (l:=[4,17,19,20,23,24,25,26,27,28,29,30]) (by kernel_rfl) (by kernel_rfl) (.cons (vf b) (.cons (df c) (.cons (len_ob (f:=Gb) (l:=a)) (.cons (bf i) .nil)))) q
inductive K0 where
 | x0 (a:Bool) (b:(List Ga))
def UK:K0→Ex
 | .x0 _ _=>.normal
def UL (b:Int) (c:(Int×Int×Int)) (g a:((List Int)×Int)) (h:Int) (i:Ga) (j k:(List Ga)):K0→PS
 | .x0 e f=>⟨(dds 19 (di b::.srf 0::dd::dd::dd::dd::di c.2.2::dd::dd::.d (.sl (a.1.map (eI .u8)))::di a.2::(dds 168 (.d (.v (.bool e))::(dds 26 []))))),[.row 25 2 (f.map Gb)]⟩
def UM (f:Int) (a:(Int×Int×Int)) (b c:((List Int)×Int)) (g:Int) (e:Ga) (h i:(List Ga))  : PS:=⟨(dd::dd::dd::dd::.ref 0 0::(dds 12 (.srf 1::dd::di f::.srf 2::dd::dd::di a.1::di a.2.1::di a.2.2::.d (.sl (b.1.map (eI .u8)))::di b.2::.d (.sl (c.1.map (eI .u8)))::di c.2::di g::(dds 194 [])))),[.box [.d (.v (.string e.fName)),di e.fIno],.row 25 2 (h.map Gb),.row 25 2 (i.map Gb)]⟩
def SE (n:Nat) (g:Int) (c:(Int×Int×Int)) (b k:((List Int)×Int)) (d:Int) (e:Ga) (f a:(List Ga)):Option K0 :=
 if c.1=g then
  (ZR n f e.fName).bind fun (h:(Int)) =>
  if c.2.1=h then
   if b.2=d then
    if d=0 then
     (app 24 f ([e])).bind fun (i:(List Ga)) =>
     (Kq n i).bind fun (j:(ByteArray)) =>
     if (!((b2s b.1).toList == j.toList))=true then
      some (.x0 true a)
     else
      some (.x0 false a)
    else
     some (.x0 (decide ((b.1.length:Int) > 0)) a)
   else
    some (.x0 true a)
  else
   some (.x0 true a)
 else
  some (.x0 true a)
theorem UN {Fi:Ex→PS→Prop} (hF:KC 225 Fi) (ks:List Fr) (n:Nat) (a2:Int) (z:(Int×Int×Int)) (a a5:((List Int)×Int)) (a0:Int) (b:Ga) (g a6:(List Ga))  (o:K0) (h:SE n a2 z a a5 a0 b g a6=some o) (q:RunE Tryz.prog 225 Fi ks (UK o) (UL a2 z a a5 a0 b g a6 o)):RunE Tryz.prog 225 Fi (.s (cL (cL (cR (cR (cR (cR (cR (cR (cR (cR (cR (cR (cR (cR (cR (cR (bodyOf Tryz.f4)))))))))))))))))::ks) .normal (UM a2 z a a5 a0 b g a6):=by
 unfold SE at h
 by_cases i:z.1=a2
 ·rw [if_pos i] at h
  obtain ⟨p,a1,h⟩:=bind_some h
  by_cases k:z.2.1=p
  ·rw [if_pos k] at h
   by_cases y:a.2=a0
   ·rw [if_pos y] at h
    by_cases m:a0=0
    ·rw [if_pos m] at h
     obtain ⟨a3,j,h⟩:=bind_some h
     obtain ⟨a7,a8,h⟩:=bind_some h
     by_cases a4:(!((b2s a.1).toList == a7.toList))=true
     ·rw [if_pos a4] at h
      cases h
      exact pkk_sound TTok mix hF 1 (hs:=[.t false,.c,.c,.c,.c,.c,.c,.r ((eI .i64) p),.c,.t false,.c,.c,.t false,.c,.c,.t true,.c,.e 108 [] (.d (.v (.string (b2s a.1)))) [],.c,.c,.c,.c,.bd,.c,.w (a3.map Gb),.c,.c,.r (eS a7),.c,.c,.t true,.c,.c,.c]) (ts:=[]) (s:=[2]) (l:=[19,20,25,28,29,198]) (by kernel_rfl) (by kernel_rfl) (.cons (nf i) (.cons (Za n g b.fName _ a1) (.cons (nf k) (.cons (nf y) (.cons (bt m) (.cons (xb2sD (L:=a.1) (P:=Tryz.prog) (T:=TT) (src:=23) (dst:=9) (e:=5) (s:=1) (x:=(.tmp 180)) (by kernel_rfl) (by kernel_rfl) (by kernel_rfl)) (.cons (app_ob (f:=Gb) (s:=2) j (fun _=>rfl)).1 (.cons (app_ob (f:=Gb) (s:=2) j (fun _=>rfl)).2.1 (.cons (app_ob (f:=Gb) (s:=2) j (fun _=>rfl)).2.2.1 (.cons (app_ob (f:=Gb) (s:=2) j (fun _=>rfl)).2.2.2 (.cons (K5 n a3 _ a8) (.cons a4 .nil)))))))))))) q
     ·rw [if_neg a4] at h
      cases h
      exact pkk_sound TTok mix hF 1 (hs:=[.t false,.c,.c,.c,.c,.c,.c,.r ((eI .i64) p),.c,.t false,.c,.c,.t false,.c,.c,.t true,.c,.e 108 [] (.d (.v (.string (b2s a.1)))) [],.c,.c,.c,.c,.bd,.c,.w (a3.map Gb),.c,.c,.r (eS a7),.c,.c,.t false,.c,.c,.t false,.c,.c,.c]) (ts:=[]) (s:=[2]) (l:=[19,20,25,28,29,198]) (by kernel_rfl) (by kernel_rfl) (.cons (nf i) (.cons (Za n g b.fName _ a1) (.cons (nf k) (.cons (nf y) (.cons (bt m) (.cons (xb2sD (L:=a.1) (P:=Tryz.prog) (T:=TT) (src:=23) (dst:=9) (e:=5) (s:=1) (x:=(.tmp 180)) (by kernel_rfl) (by kernel_rfl) (by kernel_rfl)) (.cons (app_ob (f:=Gb) (s:=2) j (fun _=>rfl)).1 (.cons (app_ob (f:=Gb) (s:=2) j (fun _=>rfl)).2.1 (.cons (app_ob (f:=Gb) (s:=2) j (fun _=>rfl)).2.2.1 (.cons (app_ob (f:=Gb) (s:=2) j (fun _=>rfl)).2.2.2 (.cons (K5 n a3 _ a8) (.cons (vf a4) (.cons (nf m) .nil))))))))))))) q
    ·rw [if_neg m] at h
     cases h
     exact pkk_sound TTok mix hF 1 (hs:=[.t false,.c,.c,.c,.c,.c,.c,.r ((eI .i64) p),.c,.t false,.c,.c,.t false,.c,.c,.t false,.c,.c,.c,.c,.c,.c,.c,.c,.c,.c,.c,.t true,.c,.u (di (a.1.length:Int)),.c,.c]) (ts:=[]) (s:=[2]) (l:=[19,20,25,28,29,198]) (by kernel_rfl) (by kernel_rfl) (.cons (nf i) (.cons (Za n g b.fName _ a1) (.cons (nf k) (.cons (nf y) (.cons (bf m) (.cons (nt m) (.cons (len_ob (f:=(eI .u8)) (l:=a.1)) .nil))))))) q
   ·rw [if_neg y] at h
    cases h
    exact pkk_sound TTok mix hF 1 (hs:=[.t false,.c,.c,.c,.c,.c,.c,.r ((eI .i64) p),.c,.t false,.c,.c,.t true,.c,.c,.c,.c,.c,.c,.c]) (ts:=[]) (s:=[2]) (l:=[19,20,25,28,29,198]) (by kernel_rfl) (by kernel_rfl) (.cons (nf i) (.cons (Za n g b.fName _ a1) (.cons (nf k) (.cons (nt y) .nil)))) q
  ·rw [if_neg k] at h
   cases h
   exact pkk_sound TTok mix hF 1 (hs:=[.t false,.c,.c,.c,.c,.c,.c,.r ((eI .i64) p),.c,.t true,.c,.c,.c,.c,.c,.c,.c,.c,.c,.c]) (ts:=[]) (s:=[2]) (l:=[19,20,25,28,29,198]) (by kernel_rfl) (by kernel_rfl) (.cons (nf i) (.cons (Za n g b.fName _ a1) (.cons (nt k) .nil))) q
 ·rw [if_neg i] at h
  cases h
  exact pkk_sound TTok mix hF 1 (hs:=[.t true,.c,.c,.c,.c,.c,.c,.c,.c,.c,.c,.c,.c,.c,.c,.c,.c]) (ts:=[]) (s:=[2]) (l:=[19,20,25,28,29,198]) (by kernel_rfl) (by kernel_rfl) (.cons (nt i) .nil) q
inductive K1 where
 | x0 (a:Bool)
def UO:K1→Ex
 | .x0 _=>.normal
def UP (b:(Int×Int×Int)) (c:((List Int)×Int)):K1→PS
 | .x0 a=>⟨(dd::dd::dd::dd::dd::dd::.d (.v (.bool a))::(dds 218 [])),[]⟩
def UQ (b:(Int×Int×Int)) (a:((List Int)×Int))  : PS:=⟨(dds 25 (di b.2.2::dd::dd::.d (.sl (a.1.map (eI .u8)))::di a.2::(dds 195 []))),[]⟩
def S7 (n:Nat) (b:(Int×Int×Int)) (a:((List Int)×Int)):Option K1 :=
 if b.2.2=4 then
  if a.2=4 then
   some (.x0 ((a.1.length:Int) == 0))
  else
   some (.x0 false)
 else
  some (.x0 false)
theorem UR {Fi:Ex→PS→Prop} (hF:KC 225 Fi) (ks:List Fr) (n:Nat) (e:(Int×Int×Int)) (a:((List Int)×Int))  (o:K1) (h:S7 n e a=some o) (q:RunE Tryz.prog 225 Fi ks (UO o) (UP e a o)):RunE Tryz.prog 225 Fi (.s (cL (cT (cR (cL (cR (cR (cR (cR (cR (cR (cR (cR (cR (cR (cR (cR (cR (cR (cR (bodyOf Tryz.f4))))))))))))))))))))::ks) .normal (UQ e a):=by
 unfold S7 at h
 by_cases b:e.2.2=4
 ·rw [if_pos b] at h
  by_cases g:a.2=4
  ·rw [if_pos g] at h
   cases h
   exact pkk_sound TTok mix hF 1 (hs:=[.t true,.c,.t true,.c,.u (di (a.1.length:Int)),.c]) (ts:=[]) (s:=[]) (l:=[6]) (by kernel_rfl) (by kernel_rfl) (.cons (bt b) (.cons (bt g) (.cons (len_ob (f:=(eI .u8)) (l:=a.1)) .nil))) q
  ·rw [if_neg g] at h
   cases h
   exact pkk_sound TTok mix hF 1 (hs:=[.t true,.c,.t false,.c,.c]) (ts:=[]) (s:=[]) (l:=[6]) (by kernel_rfl) (by kernel_rfl) (.cons (bt b) (.cons (bf g) .nil)) q
 ·rw [if_neg b] at h
  cases h
  exact pkk_sound TTok mix hF 1 (hs:=[.t false,.c,.c,.c,.c]) (ts:=[]) (s:=[]) (l:=[6]) (by kernel_rfl) (by kernel_rfl) (.cons (bf b) .nil) q
inductive K2 where
 | x0 (a:Bool)
def US:K2→Ex
 | .x0 _=>.normal
def UT (b:(Int×Int×Int)) (c:((List Int)×Int)) (e:(List Ga)):K2→PS
 | .x0 a=>⟨(dd::dd::dd::dd::dd::dd::.d (.v (.bool a))::(dds 218 [])),[]⟩
def UU (b:(Int×Int×Int)) (a:((List Int)×Int)) (c:(List Ga))  : PS:=⟨(dds 20 (.srf 0::dd::dd::dd::dd::di b.2.2::dd::dd::.d (.sl (a.1.map (eI .u8)))::di a.2::(dds 195 []))),[.row 25 2 (c.map Gb)]⟩
def KA (n:Nat) (b:(Int×Int×Int)) (a:((List Int)×Int)) (c:(List Ga)):Option K2 :=
 if b.2.2=0 then
  if a.2=0 then
   (Kq n c).bind fun (d:(ByteArray)) =>
   some (.x0 ((b2s a.1).toList == d.toList))
  else
   some (.x0 false)
 else
  some (.x0 false)
theorem UV {Fi:Ex→PS→Prop} (hF:KC 225 Fi) (ks:List Fr) (n:Nat) (f:(Int×Int×Int)) (a:((List Int)×Int)) (g:(List Ga))  (o:K2) (h:KA n f a g=some o) (q:RunE Tryz.prog 225 Fi ks (US o) (UT f a g o)):RunE Tryz.prog 225 Fi (.s (cL (cR (cR (cR (cR (cR (cR (cR (cR (cR (cR (cR (cR (cR (cR (cR (cR (bodyOf Tryz.f4))))))))))))))))))::ks) .normal (UU f a g):=by
 unfold KA at h
 by_cases b:f.2.2=0
 ·rw [if_pos b] at h
  by_cases i:a.2=0
  ·rw [if_pos i] at h
   obtain ⟨j,k,h⟩:=bind_some h
   cases h
   exact pkk_sound TTok mix hF 1 (hs:=[.t true,.c,.t true,.c,.e 41 [] (.d (.v (.string (b2s a.1)))) [],.c,.c,.c,.r (eS j),.c]) (ts:=[]) (s:=[]) (l:=[6]) (by kernel_rfl) (by kernel_rfl) (.cons (bt b) (.cons (bt i) (.cons (xb2sD (L:=a.1) (P:=Tryz.prog) (T:=TT) (src:=23) (dst:=9) (e:=5) (s:=1) (x:=(.tmp 219)) (by kernel_rfl) (by kernel_rfl) (by kernel_rfl)) (.cons (K5 n g _ k) .nil)))) q
  ·rw [if_neg i] at h
   cases h
   exact pkk_sound TTok mix hF 1 (hs:=[.t true,.c,.t false,.c,.c,.c,.c]) (ts:=[]) (s:=[]) (l:=[6]) (by kernel_rfl) (by kernel_rfl) (.cons (bt b) (.cons (bf i) .nil)) q
 ·rw [if_neg b] at h
  cases h
  exact pkk_sound TTok mix hF 1 (hs:=[.t false,.c,.c,.c,.c,.c,.c]) (ts:=[]) (s:=[]) (l:=[6]) (by kernel_rfl) (by kernel_rfl) (.cons (bf b) .nil) q
/- ringhall/ringlaw3.DirTurns -/
def Zb (n:Nat) (e:(List Ga)) (a:Ga) (g:(List Int)):Option (Bool) :=
 (Ze n e g a).bind fun j=>match j with
 | .x0 k =>
  if k=true then
   some true
  else
   (Su n (b2s g)).bind fun (l:((List Ga)×Int)) =>
   (Kx n e g l a).bind fun m=>match m with
   | .x0 o =>
    some o
   | .x1  =>
    (SX n e).bind fun (p:(Int)) =>
    if p=0 then
     (Kq n e).bind fun (q:(ByteArray)) =>
     (s2bO q).bind fun (b:(List Int)) =>
     (Su n (b2s b)).bind fun (i:((List Ga)×Int)) =>
     (Sl n b i a n 0 0 i.1 ([]:List Ga)).bind fun r=>match r with
     | .x0 f s t =>
      (Zd n b a.fName).bind fun (c:(Int×Int×Int)) =>
      (XA n b a).bind fun (h:((List Int)×Int)) =>
      (ZG n b a.fName).bind fun (d:((List Int)×Int)) =>
      (Ky n f c h d a s t).bind fun u=>match u with
      | .x0 v w x =>
       (Kz n f c h d v a w x).bind fun y=>match y with
       | .x0 z a0 a1 =>
        (SE n f c h d z a a0 a1).bind fun a2=>match a2 with
        | .x0 a3 a4 =>
         if a3=true then
          some false
         else
          if f=0 then
           (S7 n c d).bind fun a5=>match a5 with
           | .x0 a6 =>
            some a6
          else
           (KA n c d a4).bind fun a7=>match a7 with
           | .x0 a8 =>
            some a8
    else
     some true
theorem U4 (n:Nat) (j:(List Ga)) (a:Ga) (k:(List Int)) (r:Bool) (h:Zb n j a k=some r):Ret Tryz.prog 4 [(eL Gb) j,Gb a,(eL (eI .u8)) k] (eB r):=by
 refine ret_run (n:=225) (fn:=Tryz.f4) (c:=bodyOf Tryz.f4) (by kernel_rfl) (by kernel_rfl) (by kernel_rfl) (by kernel_rfl) ?_
 have hF:KC 225 (FinR Tryz.prog Tryz.f4 (eB r)):=FinR.kc' (by kernel_rfl)
 unfold Zb at h
 obtain ⟨a5,a6,h⟩:=bind_some h
 refine pkk_sound TTok mix hF 4 (hs:=[]) (ts:=[]) (s:=[0]) (l:=[0,2,4]) (by kernel_rfl) (by kernel_rfl) .nil (Uq hF (.s (cR (cL (cR (bodyOf Tryz.f4))))::.s (cR (cR (bodyOf Tryz.f4)))::[]) n j k a _ a6 ?_)
 cases a5 with
 | x0 a7 =>
  try dsimp only at h
  by_cases w:a7=true
  ·rw [if_pos w] at h
   obtain rfl:=Option.some.inj h
   exact pend_sound TTok mix 5 (hs:=[.t true]) (by kernel_rfl) (by kernel_rfl) (by kernel_rfl) (.cons w .nil)
  ·rw [if_neg w] at h
   obtain ⟨a1,a8,h⟩:=bind_some h
   obtain ⟨a9,b0,h⟩:=bind_some h
   refine pkk_sound TTok mix hF 7 (hs:=[.t false,.e 6 [] (.d (.v (.string (b2s k)))) [],.h [] [] [.row 25 2 (a1.1.map Gb)] (.tup [.srf 0,di a1.2])]) (ts:=[]) (s:=[0]) (l:=[0,2,4,8,52]) (by kernel_rfl) (by kernel_rfl) (.cons (vf w) (.cons (xb2sD (L:=k) (P:=Tryz.prog) (T:=TT) (src:=23) (dst:=9) (e:=5) (s:=1) (x:=(.tmp 46)) (by kernel_rfl) (by kernel_rfl) (by kernel_rfl)) (.cons (XV n (b2s k) _ a8) .nil))) (Uy hF (.s (cR (cR (cR (bodyOf Tryz.f4))))::[]) n j k a1 a _ b0 ?_)
   cases a9 with
   | x0 d9 =>
    try dsimp only at h
    obtain rfl:=Option.some.inj h
    exact pend_sound TTok mix 1 (hs:=[]) (by kernel_rfl) (by kernel_rfl) (by kernel_rfl) .nil
   | x1  =>
    try dsimp only at h
    obtain ⟨a2,a3,h⟩:=bind_some h
    by_cases y:a2=0
    ·rw [if_pos y] at h
     obtain ⟨a4,b1,h⟩:=bind_some h
     obtain ⟨g,b2,h⟩:=bind_some h
     obtain ⟨o,b3,h⟩:=bind_some h
     obtain ⟨b4,b5,h⟩:=bind_some h
     refine pkk_sound TTok mix hF 18 (hs:=[.r ((eI .i64) a2),.t false,.r (eS a4),.e 26 [] (.d (.sl (g.map (eI .u8)))) [],.e 41 [] (.d (.v (.string (b2s g)))) [],.h [] [] [.row 25 2 (o.1.map Gb)] (.tup [.srf 0,di o.2]),.u (di (o.1.length:Int)),.n n]) (ts:=[(20,25,2)]) (s:=[0,46,101]) (l:=[4,16,17,19,20,99,100,101]) (by kernel_rfl) (by kernel_rfl) (.cons (S5 n j _ a3) (.cons (nf y) (.cons (K5 n j _ b1) (.cons (xs2b (P:=Tryz.prog) (T:=TT) (src:=9) (dst:=23) (e:=5) (x:=(.tmp 91)) (s:=a4) (L:=g) b2 (by kernel_rfl) (by kernel_rfl) (by kernel_rfl)) (.cons (xb2sD (L:=g) (P:=Tryz.prog) (T:=TT) (src:=23) (dst:=9) (e:=5) (s:=1) (x:=(.tmp 94)) (by kernel_rfl) (by kernel_rfl) (by kernel_rfl)) (.cons (XV n (b2s g) _ b3) (.cons (len_ob (f:=Gb) (l:=o.1)) .nil))))))) (ZF hF (.b 0::.s (cR (cR (cR (cR (cR (cR (cR (cR (cR (bodyOf Tryz.f4))))))))))::[]) n g o a n 0 0 o.1 ([]:List Ga) _ b5 ?_)
     cases b4 with
     | x0 z b6 b7 =>
      try dsimp only at h
      obtain ⟨i,b8,h⟩:=bind_some h
      obtain ⟨p,b9,h⟩:=bind_some h
      obtain ⟨m,c0,h⟩:=bind_some h
      obtain ⟨c1,c2,h⟩:=bind_some h
      refine pkk_sound TTok mix hF 12 (hs:=[.c,.r (.tup [(eI .i64) i.1,(eI .i64) i.2.1,(eI .i64) i.2.2]),.c,.r (.tup [(eL (eI .u8)) p.1,(eI .i64) p.2]),.c,.r (.tup [(eL (eI .u8)) m.1,(eI .i64) m.2])]) (ts:=[]) (s:=[0,1,2]) (l:=[4,17,19,20,23,24,25,26,27,28,29,30]) (by kernel_rfl) (by kernel_rfl) (.cons (Vi n g a.fName _ b8) (.cons (Vo n g a _ b9) (.cons (Vp n g a.fName _ c0) .nil))) (UF hF (.s (cR (cB (cL (cR (cR (cR (cR (cR (cR (cR (cR (cR (cR (cR (cR (cR (bodyOf Tryz.f4)))))))))))))))))::.b 2::.s (cR (cR (cR (cR (cR (cR (cR (cR (cR (cR (cR (cR (cR (cR (bodyOf Tryz.f4)))))))))))))))::[]) n z i p m a b6 b7 _ c2 ?_)
      cases c1 with
      | x0 c3 c4 c5 =>
       try dsimp only at h
       obtain ⟨c6,c7,h⟩:=bind_some h
       refine pkk_sound TTok mix hF 0 (hs:=[]) (ts:=[]) (s:=[0,1,2]) (l:=[4,17,19,20,23,24,25,26,27,28,29,30,138]) (by kernel_rfl) (by kernel_rfl) .nil (UJ hF (.b 2::.s (cR (cR (cR (cR (cR (cR (cR (cR (cR (cR (cR (cR (cR (cR (bodyOf Tryz.f4)))))))))))))))::[]) n z i p m c3 a c4 c5 _ c7 ?_)
       cases c6 with
       | x0 c8 c9 d0 =>
        try dsimp only at h
        obtain ⟨d1,d2,h⟩:=bind_some h
        refine pkk_sound TTok mix hF 3 (hs:=[]) (ts:=[]) (s:=[0,1,2]) (l:=[4,17,19,20,23,24,25,26,27,28,29,30]) (by kernel_rfl) (by kernel_rfl) .nil (UN hF (.s (cR (cL (cR (cR (cR (cR (cR (cR (cR (cR (cR (cR (cR (cR (cR (cR (bodyOf Tryz.f4)))))))))))))))))::.s (cR (cR (cR (cR (cR (cR (cR (cR (cR (cR (cR (cR (cR (cR (cR (bodyOf Tryz.f4))))))))))))))))::[]) n z i p m c8 a c9 d0 _ d2 ?_)
        cases d1 with
        | x0 d3 d4 =>
         try dsimp only at h
         by_cases q:d3=true
         ·rw [if_pos q] at h
          obtain rfl:=Option.some.inj h
          exact pend_sound TTok mix 5 (hs:=[.t true]) (by kernel_rfl) (by kernel_rfl) (by kernel_rfl) (.cons q .nil)
         ·rw [if_neg q] at h
          by_cases a0:z=0
          ·rw [if_pos a0] at h
           obtain ⟨d5,d6,h⟩:=bind_some h
           refine pkk_sound TTok mix hF 7 (hs:=[.t false,.t true]) (ts:=[]) (s:=[]) (l:=[25,28,29]) (by kernel_rfl) (by kernel_rfl) (.cons (vf q) (.cons (bt a0) .nil)) (UR hF (.s (cR (cT (cR (cL (cR (cR (cR (cR (cR (cR (cR (cR (cR (cR (cR (cR (cR (cR (cR (bodyOf Tryz.f4))))))))))))))))))))::.s (cR (cR (cR (cR (cR (cR (cR (cR (cR (cR (cR (cR (cR (cR (cR (cR (bodyOf Tryz.f4)))))))))))))))))::[]) n i m _ d6 ?_)
           cases d5 with
           | x0 e0 =>
            try dsimp only at h
            obtain rfl:=Option.some.inj h
            exact pend_sound TTok mix 2 (hs:=[]) (by kernel_rfl) (by kernel_rfl) (by kernel_rfl) .nil
          ·rw [if_neg a0] at h
           obtain ⟨d7,d8,h⟩:=bind_some h
           refine pkk_sound TTok mix hF 8 (hs:=[.t false,.t false]) (ts:=[]) (s:=[0]) (l:=[20,25,28,29]) (by kernel_rfl) (by kernel_rfl) (.cons (vf q) (.cons (bf a0) .nil)) (UV hF (.s (cR (cR (cR (cR (cR (cR (cR (cR (cR (cR (cR (cR (cR (cR (cR (cR (cR (bodyOf Tryz.f4))))))))))))))))))::[]) n i m d4 _ d8 ?_)
           cases d7 with
           | x0 e1 =>
            try dsimp only at h
            obtain rfl:=Option.some.inj h
            exact pend_sound TTok mix 1 (hs:=[]) (by kernel_rfl) (by kernel_rfl) (by kernel_rfl) .nil
    ·rw [if_neg y] at h
     obtain rfl:=Option.some.inj h
     exact pend_sound TTok mix 8 (hs:=[.r ((eI .i64) a2),.t true]) (by kernel_rfl) (by kernel_rfl) (by kernel_rfl) (.cons (S5 n j _ a3) (.cons (nt y) .nil))
def XY (x:Ga):Prop:=(fun a=>ByteArray.size a≤140737488351232) x.fName∧(fun a=>(Lit.int .i64 a).wf=true) x.fIno∧True
theorem Vj:Br (.pair .str (.pair (.int .i64) .unit)) (fun x:Ga=>[.v (.string x.fName),.v (.int .i64 x.fIno)]) XY:=br_map (br_pair br_str (br_pair (br_int .i64) br_unit)) (fun p=>Ga.mk p.1 p.2.1) (fun p h=>⟨rfl,h⟩)
theorem DirTurns_walk (H:∀ (a0:(List Ga)) (a1:Ga) (a2:(List Int)),(okL 24 XY) a0→XY a1→(okL 1 (fun a=>(Lit.int .u8 a).wf=true)) a2→∃ n,Zb n a0 a1 a2=some true) (w:World) (v0 v1 v2:Value) (b:rep.Arg w (.slice 24 (.pair .str (.pair (.int .i64) .unit))) v0) (c:rep.Arg w (.pair .str (.pair (.int .i64) .unit)) v1) (d:rep.Arg w (.slice 1 (.int .u8)) v2):Calls Tryz.prog 4 #[v0,v1,v2] w (help.Ret (.bool true) w):=by
 obtain ⟨a0,o0,r0⟩:=arg_one (br_slice (f:=Gb) (ok:=XY) Vj (fun _=>rfl) (by decide)) (by rfl) b
 obtain ⟨a1,o1,r1⟩:=arg_agg Vj (by rfl) c
 obtain ⟨a2,o2,r2⟩:=arg_one (br_slice (f:=(eI .u8)) (ok:=(fun a=>(Lit.int .u8 a).wf=true)) (br_int .u8) (fun _=>rfl) (by decide)) (by rfl) d
 obtain ⟨n,hn⟩:=H a0 a1 a2 o0 o1 o2
 exact walk_of (U4 n a0 a1 a2 true hn) (RT_cons r0 (RT_cons r1 (RT_cons r2 RT_nil)))
/- FRAME DirTurns; ringhall/ringlaw3.DirTurns; (.slice 24 (.pair .str (.pair (.int .i64) .unit))) | (.pair .str (.pair (.int .i64) .unit)) | (.slice 1 (.int .u8)); .slice none 0 0 | .agg #[.string ⟨#[]⟩, .int .i64 0] | .slice none 0 0 -/
end Go.Proofs.YtdgocccbagbhjaaGreatDoor.pv
