/- What the functions compute (part 4): written by gen.py. -/
import Derived.Test.YtgdhhaddfllkaaaGuJournalPlaysP3
set_option maxRecDepth 100000
set_option linter.all false
namespace Go.Proofs.Ytgdhhaddfllkaaa.pv
open Go.RowKit
theorem Jy {Fi:Ex→PS→Prop} (hF:KC 246 Fi) (ks:List Fr) (n:Nat) (a c:Int) (d:(List Gk)) (e:Int) (f:Gk) (g:Int) (i j:(List Int)) (k:(List Gi)) (m p r:Int) (t:(List Gd)) (u v w x y z:Int)  (o:Zu) (h:S5 n a c d e f g i j k m p r t u v w x y z=some o) (q:RunE Try.prog 246 Fi ks (Jv o) (Jw a c d e f g i j k m p r t u v w x y z o)):RunE Try.prog 246 Fi (.s (cR (cL (cR (cR (cB (cL (cR (cR (cP (cB (cR (cL (cR (cR (cR (cR (cR (cR (cR (cR (cR (cR (bodyOf Try.f3)))))))))))))))))))))))::ks) .normal (Jx a c d e f g i j k m p r t u v w x y z):=by
 unfold S5 at h
 obtain ⟨a0,a1,h⟩:=bind_some h
 refine pkk_sound TTok mix hF 3 (hs:=[]) (ts:=[]) (s:=[0,1,2,3,4,5,6,7,8]) (l:=[1,2,9,11,12,13,20,21,22,87,88,89,94,108]) (by kernel_rfl) (by kernel_rfl) .nil (MD hF (.b 2::ks) n a c d e f g i j k m p r t u v w x y z _ a1 ?_)
 cases a0 with
 | x0 a2 a3 a4 a5 a6 a7 a8 a9 b0 b1 b2 b3 b4 b5 b6 b7 =>
  try dsimp only at h
  cases h
  exact pkk_sound TTok mix hF 1 (hs:=[]) (ts:=[]) (s:=[0,1,2,3,4,5,6,7]) (l:=[1,2,9,11,12,13,21,22,87,88,89]) (by kernel_rfl) (by kernel_rfl) .nil q
 | x1 b8 b9 c0 c1 c2 c3 c4 c5 c6 c7 =>
  try dsimp only at h
  cases h
  exact pkk_sound TTok mix hF 1 (hs:=[]) (ts:=[]) (s:=[0,1,2,3,4,5]) (l:=[1,2,9,11,12,13,21,22,87,88,89]) (by kernel_rfl) (by kernel_rfl) .nil q
 | x2 c8 c9 d0 d1 d2 d3 d4 d5 d6 d7 d8 d9 e0 =>
  try dsimp only at h
  cases h
  exact pkk_sound TTok mix hF 1 (hs:=[]) (ts:=[]) (s:=[0,1,2,3,4,5,6]) (l:=[1,2,9,11,12,13,21,22,87,88,89]) (by kernel_rfl) (by kernel_rfl) .nil q
 | x3 e1 e2 e3 e4 e5 e6 e7 e8 e9 f0 f1 f2 f4 =>
  try dsimp only at h
  cases h
  exact pkk_sound TTok mix hF 1 (hs:=[]) (ts:=[]) (s:=[0,1,2,3,4,5,6]) (l:=[1,2,9,11,12,13,21,22,87,88,89]) (by kernel_rfl) (by kernel_rfl) .nil q
 | x4 f5 f6 f7 f8 f9 g0 g1 g2 g3 g4 =>
  try dsimp only at h
  cases h
  exact pkk_sound TTok mix hF 1 (hs:=[]) (ts:=[]) (s:=[0,1,2,3,4,5,6,7]) (l:=[1,2,9,11,12,13,21,22,87,88,89]) (by kernel_rfl) (by kernel_rfl) .nil q
inductive Zv where
 | x0 (a:Bool) (b c:(List Int)) (d:(List Gi)) (e:(List Gd))
def Jz:Zv→Ex
 | .x0 _ _ _ _ _=>.normal
def JA (b c u w:Int) (a:(List Gk)) (e f:Int) (x y:(List Int)) (z:(List Gi)) (g h i:Int) (a0:(List Gd)) (j k l m n o:Int):Zv→PS
 | .x0 p q r s t=>⟨(dd::di b::di c::dd::dd::dd::dd::dd::dd::.ref 0 0::dd::.ref 4 0::.ref 6 0::.ref 7 0::(dds 73 (.d (.sl (a.map Gn))::di (a.length:Int)::di e::(dds 72 (.d (.v (.bool p))::(dds 83 [])))))),[.box [.srf 1,.srf 2,.srf 3,di f],.row 5 1 (q.map (eI .u8)),.row 5 1 (r.map (eI .u8)),.row 94 2 (s.map Ge),.box [di g,di h,di i,.srf 5],.cu (rowF 57 2 (t.map Gc)) [],.box [.ref 0 0,di j,di k,.d (.v (.int .u32 l))],.box [.ref 4 0,di m,di n,.d (.v (.int .u32 o))]]⟩
def JB (b c e f:Int) (a:(List Gk)) (g h:Int) (i j:(List Int)) (k:(List Gi)) (l m n:Int) (o:(List Gd)) (p q r s t u:Int)  : PS:=⟨(dd::di b::di c::dd::dd::dd::dd::dd::dd::.ref 0 0::dd::.ref 4 0::.ref 6 0::.ref 7 0::dd::dd::dd::dd::dd::dd::dd::di e::di f::(dds 64 (.d (.sl (a.map Gn))::di (a.length:Int)::di g::(dds 156 [])))),[.box [.srf 1,.srf 2,.srf 3,di h],.row 5 1 (i.map (eI .u8)),.row 5 1 (j.map (eI .u8)),.row 94 2 (k.map Ge),.box [di l,di m,di n,.srf 5],.cu (rowF 57 2 (o.map Gc)) [],.box [.ref 0 0,di p,di q,.d (.v (.int .u32 r))],.box [.ref 4 0,di s,di t,.d (.v (.int .u32 u))]]⟩
def Z9 (n:Nat) (g h e f:Int) (i:(List Gk)) (j k:Int) (a b:(List Int)) (c:(List Gi)) (l m o:Int) (d:(List Gd)) (p q r s t u:Int):Option Zv :=
 if e=f then
  some (.x0 false a b c d)
 else
  some (.x0 true a b c d)
theorem JC {Fi:Ex→PS→Prop} (hF:KC 246 Fi) (ks:List Fr) (n:Nat) (g i a b:Int) (j:(List Gk)) (k m:Int) (p r:(List Int)) (u:(List Gi)) (w z a0:Int) (a1:(List Gd)) (a2 a3 a4 a5 a6 a7:Int)  (o:Zv) (h:Z9 n g i a b j k m p r u w z a0 a1 a2 a3 a4 a5 a6 a7=some o) (q:RunE Try.prog 246 Fi ks (Jz o) (JA g i a b j k m p r u w z a0 a1 a2 a3 a4 a5 a6 a7 o)):RunE Try.prog 246 Fi (.s (cL (cL (cR (cR (cR (cB (cL (cR (cR (cP (cB (cR (cL (cR (cR (cR (cR (cR (cR (cR (cR (cR (cR (bodyOf Try.f3))))))))))))))))))))))))::ks) .normal (JB g i a b j k m p r u w z a0 a1 a2 a3 a4 a5 a6 a7):=by
 unfold Z9 at h
 by_cases f:a=b
 ·rw [if_pos f] at h
  cases h
  exact pkk_sound TTok mix hF 1 (hs:=[.t false,.c,.e 33 [] (.d (.v (.bool true))) [],.c,.c,.e 43 [] (.d (.v (.bool true))) [],.c]) (ts:=[]) (s:=[0,1,2,3,4,5,6,7]) (l:=[1,2,9,11,12,13,87,88,89,162]) (by kernel_rfl) (by kernel_rfl) (.cons (nf f) (.cons (xnilP (P:=Try.prog) (T:=TT) (op:=.neq) (t:=31) (e:=75) (ty':=31) (x:=(.tmp 157)) (y:=(.const (.pointer none))) (l:=6) (off:=0) rfl (by kernel_rfl)) (.cons (xnilP (P:=Try.prog) (T:=TT) (op:=.neq) (t:=34) (e:=62) (ty':=34) (x:=(.tmp 159)) (y:=(.const (.pointer none))) (l:=7) (off:=0) rfl (by kernel_rfl)) .nil))) q
 ·rw [if_neg f] at h
  cases h
  exact pkk_sound TTok mix hF 1 (hs:=[.t true,.c,.c,.c,.c]) (ts:=[]) (s:=[0,1,2,3,4,5,6,7]) (l:=[1,2,9,11,12,13,87,88,89,162]) (by kernel_rfl) (by kernel_rfl) (.cons (nt f) .nil) q
inductive Zw where
 | x0 (a:Bool) (b c:(List Int)) (d:(List Gi)) (e:(List Gd))
 | x1 (f:Bool) (g:Int) (h i:(List Int)) (j:(List Gi)) (k:(List Gd)) (l m n:Int)
def JD:Zw→Ex
 | .x0 _ _ _ _ _=>.normal
 | .x1 _ _ _ _ _ _ _ _ _=>.normal
def JE (c e:Int) (j:((List Gh)×Int×Bool×Int×Gg)) (a:((List Gd)×Int×Bool×Gf)) (b:(List Gk)) (f k l m g h i:Int):Zw→PS
 | .x0 n o p q r=>⟨(dd::di c::di e::dd::dd::dd::dd::dd::dd::.ref 0 0::dd::.ref 4 0::.ref 6 0::.ref 7 0::(dds 73 (.d (.sl (b.map Gn))::di (b.length:Int)::di f::(dds 133 (.d (.v (.bool n))::(dds 22 [])))))),[.box [.srf 1,.srf 2,.srf 3,di j.2.2.2.2.ffuse],.row 5 1 (o.map (eI .u8)),.row 5 1 (p.map (eI .u8)),.row 94 2 (q.map Ge),.box [di a.2.2.2.fSectors,di a.2.2.2.fMark,di a.2.2.2.fFuse,.srf 5],.cu (rowF 57 2 (r.map Gc)) [],.box [.ref 0 0,di k,di l,.d (.v (.int .u32 m))],.box [.ref 4 0,di g,di h,.d (.v (.int .u32 i))]]⟩
 | .x1 s t u w x y z a0 a1=>⟨(dd::di c::di e::dd::dd::dd::dd::dd::dd::.ref 0 0::dd::.ref 4 0::.ref 6 0::.ref 7 0::(dds 73 (.d (.sl (b.map Gn))::di (b.length:Int)::di f::(dds 133 (.d (.v (.bool s))::(dds 22 [])))))),[.box [.srf 1,.srf 2,.srf 3,di t],.row 5 1 (u.map (eI .u8)),.row 5 1 (w.map (eI .u8)),.row 94 2 (x.map Ge),.box [di a.2.2.2.fSectors,di a.2.2.2.fMark,di a.2.2.2.fFuse,.srf 5],.cu (rowF 57 2 (y.map Gc)) [],.box [.ref 0 0,di z,di a0,.d (.v (.int .u32 a1))],.box [.ref 4 0,di g,di h,.d (.v (.int .u32 i))]]⟩
def JF (e f:Int) (a:((List Gh)×Int×Bool×Int×Gg)) (b:((List Gd)×Int×Bool×Gf)) (c:(List Gk)) (g h i j k l m:Int)  : PS:=⟨(dd::di e::di f::dd::dd::dd::dd::dd::dd::.ref 0 0::dd::.ref 4 0::.ref 6 0::.ref 7 0::dd::dd::dd::dd::dd::dd::dd::di a.2.2.2.1::dd::.d (.sl (a.1.map Gl))::.d (.v (.int .u32 a.2.1))::.d (.v (.bool a.2.2.1))::.d (.sl (b.1.map Gc))::.d (.v (.int .u32 b.2.1))::.d (.v (.bool b.2.2.1))::(dds 58 (.d (.sl (c.map Gn))::di (c.length:Int)::di g::(dds 156 [])))),[.box [.srf 1,.srf 2,.srf 3,di a.2.2.2.2.ffuse],.row 5 1 (a.2.2.2.2.fsafe.map (eI .u8)),.row 5 1 (a.2.2.2.2.fnow.map (eI .u8)),.row 94 2 (a.2.2.2.2.fwait.map Ge),.box [di b.2.2.2.fSectors,di b.2.2.2.fMark,di b.2.2.2.fFuse,.srf 5],.cu (rowF 57 2 (b.2.2.2.fAll.map Gc)) [],.box [.ref 0 0,di h,di i,.d (.v (.int .u32 j))],.box [.ref 4 0,di k,di l,.d (.v (.int .u32 m))]]⟩
def K6 (n:Nat) (o e:Int) (a:((List Gh)×Int×Bool×Int×Gg)) (b:((List Gd)×Int×Bool×Gf)) (p:(List Gk)) (q f g h r s i:Int):Option Zw :=
 if a.2.2.2.1=0 then
  (YI n a.1).bind fun (j:((List Gd))) =>
  (G5 n j b.1).bind fun (k:(Bool)) =>
  if k=true then
   if a.2.1=b.2.1 then
    if (eqRes .neq (a.2.2.1 == b.2.2.1))=true then
     some (.x0 true a.2.2.2.2.fsafe a.2.2.2.2.fnow a.2.2.2.2.fwait b.2.2.2.fAll)
    else
     (YO n a.1).bind fun (l:(Int)) =>
     (Yq n b.1).bind fun (m:(Int)) =>
     if l=m then
      (Yd n (Gp.mk () f g h) a.2.2.2.2).bind fun (c:(Int×Gp×Gg)) =>
      if c.1=i then
       (KL n c.2.1 c.2.2).bind fun (d:(Int×Gp×Gg)) =>
       some (.x1 (d.1 != (wi .i64 (e-2))) d.2.2.ffuse d.2.2.fsafe d.2.2.fnow d.2.2.fwait b.2.2.2.fAll d.2.1.fat d.2.1.fsize d.2.1.fseq)
      else
       some (.x1 true c.2.2.ffuse c.2.2.fsafe c.2.2.fnow c.2.2.fwait b.2.2.2.fAll c.2.1.fat c.2.1.fsize c.2.1.fseq)
     else
      some (.x0 true a.2.2.2.2.fsafe a.2.2.2.2.fnow a.2.2.2.2.fwait b.2.2.2.fAll)
   else
    some (.x0 true a.2.2.2.2.fsafe a.2.2.2.2.fnow a.2.2.2.2.fwait b.2.2.2.fAll)
  else
   some (.x0 true a.2.2.2.2.fsafe a.2.2.2.2.fnow a.2.2.2.2.fwait b.2.2.2.fAll)
 else
  some (.x0 true a.2.2.2.2.fsafe a.2.2.2.2.fnow a.2.2.2.2.fwait b.2.2.2.fAll)
theorem JG {Fi:Ex→PS→Prop} (hF:KC 246 Fi) (ks:List Fr) (n:Nat) (a5 a6:Int) (b:((List Gh)×Int×Bool×Int×Gg)) (e:((List Gd)×Int×Bool×Gf)) (a7:(List Gk)) (a8 x y z a9 b0 a1:Int)  (o:Zw) (h:K6 n a5 a6 b e a7 a8 x y z a9 b0 a1=some o) (q:RunE Try.prog 246 Fi ks (JD o) (JE a5 a6 b e a7 a8 x y z a9 b0 a1 o)):RunE Try.prog 246 Fi (.s (cL (cL (cR (cR (cR (cR (cR (cR (cR (cB (cL (cR (cR (cP (cB (cR (cL (cR (cR (cR (cR (cR (cR (cR (cR (cR (cR (bodyOf Try.f3))))))))))))))))))))))))))))::ks) .normal (JF a5 a6 b e a7 a8 x y z a9 b0 a1):=by
 unfold K6 at h
 by_cases g:b.2.2.2.1=0
 ·rw [if_pos g] at h
  obtain ⟨f,p,h⟩:=bind_some h
  obtain ⟨k,u,h⟩:=bind_some h
  by_cases i:k=true
  ·rw [if_pos i] at h
   by_cases m:b.2.1=e.2.1
   ·rw [if_pos m] at h
    by_cases w:(eqRes .neq (b.2.2.1 == e.2.2.1))=true
    ·rw [if_pos w] at h
     cases h
     exact pkk_sound TTok mix hF 1 (hs:=[.t false,.c,.r ((eL Gc) f),.c,.c,.r (eB k),.c,.t false,.c,.c,.t false,.c,.c,.t true,.c,.c,.c,.c,.c,.c,.c,.c,.c,.c,.c,.c,.c,.c,.c,.c]) (ts:=[]) (s:=[0,1,2,3,4,5,6,7]) (l:=[1,2,9,11,12,13,87,88,89,223]) (by kernel_rfl) (by kernel_rfl) (.cons (nf g) (.cons (Sn n b.1 _ p) (.cons (Gr n f e.1 _ u) (.cons (bnf i) (.cons (nf m) (.cons w .nil)))))) q
    ·rw [if_neg w] at h
     obtain ⟨a2,b1,h⟩:=bind_some h
     obtain ⟨a3,b2,h⟩:=bind_some h
     by_cases a0:a2=a3
     ·rw [if_pos a0] at h
      obtain ⟨a,b3,h⟩:=bind_some h
      by_cases a4:a.1=a1
      ·rw [if_pos a4] at h
       obtain ⟨j,b4,h⟩:=bind_some h
       cases h
       exact pkk_sound TTok mix hF 1 (hs:=[.t false,.c,.r ((eL Gc) f),.c,.c,.r (eB k),.c,.t false,.c,.c,.t false,.c,.c,.t false,.c,.r ((eI .u32) a2),.c,.c,.r ((eI .u32) a3),.c,.t false,.c,.h [6,0,1,2,3] [] [.box [.ref 1 0,di a.2.1.fat,di a.2.1.fsize,.d (.v (.int .u32 a.2.1.fseq))],.box [.srf 5,.srf 6,.srf 7,di a.2.2.ffuse],.none,.none,.none,.row 5 1 (a.2.2.fsafe.map (eI .u8)),.row 5 1 (a.2.2.fnow.map (eI .u8)),.row 94 2 (a.2.2.fwait.map Ge)] (.d (.v (.int .u32 a.1))),.c,.c,.c,.c,.c,.c,.t false,.c,.h [6,0,148,149,150] [] [.box [.ref 1 0,di j.2.1.fat,di j.2.1.fsize,.d (.v (.int .u32 j.2.1.fseq))],.box [.srf 5,.srf 6,.srf 7,di j.2.2.ffuse],.none,.none,.none,.row 5 1 (j.2.2.fsafe.map (eI .u8)),.row 5 1 (j.2.2.fnow.map (eI .u8)),.row 94 2 (j.2.2.fwait.map Ge)] (di j.1),.c,.c,.c]) (ts:=[]) (s:=[0,193,194,195,4,5,6,7]) (l:=[1,2,9,11,12,13,87,88,89,223]) (by kernel_rfl) (by kernel_rfl) (.cons (nf g) (.cons (Sn n b.1 _ p) (.cons (Gr n f e.1 _ u) (.cons (bnf i) (.cons (nf m) (.cons (vf w) (.cons (ZE n b.1 _ b1) (.cons (KU n e.1 _ b2) (.cons (nf a0) (.cons (Y7 n (Gp.mk () x y z) b.2.2.2.2 _ b3) (.cons (nf a4) (.cons (YS n a.2.1 a.2.2 _ b4) .nil)))))))))))) q
      ·rw [if_neg a4] at h
       cases h
       exact pkk_sound TTok mix hF 1 (hs:=[.t false,.c,.r ((eL Gc) f),.c,.c,.r (eB k),.c,.t false,.c,.c,.t false,.c,.c,.t false,.c,.r ((eI .u32) a2),.c,.c,.r ((eI .u32) a3),.c,.t false,.c,.h [6,0,1,2,3] [] [.box [.ref 1 0,di a.2.1.fat,di a.2.1.fsize,.d (.v (.int .u32 a.2.1.fseq))],.box [.srf 5,.srf 6,.srf 7,di a.2.2.ffuse],.none,.none,.none,.row 5 1 (a.2.2.fsafe.map (eI .u8)),.row 5 1 (a.2.2.fnow.map (eI .u8)),.row 94 2 (a.2.2.fwait.map Ge)] (.d (.v (.int .u32 a.1))),.c,.c,.c,.c,.c,.c,.t true,.c,.c,.c,.c]) (ts:=[]) (s:=[0,148,149,150,4,5,6,7]) (l:=[1,2,9,11,12,13,87,88,89,223]) (by kernel_rfl) (by kernel_rfl) (.cons (nf g) (.cons (Sn n b.1 _ p) (.cons (Gr n f e.1 _ u) (.cons (bnf i) (.cons (nf m) (.cons (vf w) (.cons (ZE n b.1 _ b1) (.cons (KU n e.1 _ b2) (.cons (nf a0) (.cons (Y7 n (Gp.mk () x y z) b.2.2.2.2 _ b3) (.cons (nt a4) .nil))))))))))) q
     ·rw [if_neg a0] at h
      cases h
      exact pkk_sound TTok mix hF 1 (hs:=[.t false,.c,.r ((eL Gc) f),.c,.c,.r (eB k),.c,.t false,.c,.c,.t false,.c,.c,.t false,.c,.r ((eI .u32) a2),.c,.c,.r ((eI .u32) a3),.c,.t true,.c,.c,.c,.c,.c,.c,.c,.c,.c,.c,.c]) (ts:=[]) (s:=[0,1,2,3,4,5,6,7]) (l:=[1,2,9,11,12,13,87,88,89,223]) (by kernel_rfl) (by kernel_rfl) (.cons (nf g) (.cons (Sn n b.1 _ p) (.cons (Gr n f e.1 _ u) (.cons (bnf i) (.cons (nf m) (.cons (vf w) (.cons (ZE n b.1 _ b1) (.cons (KU n e.1 _ b2) (.cons (nt a0) .nil))))))))) q
   ·rw [if_neg m] at h
    cases h
    exact pkk_sound TTok mix hF 1 (hs:=[.t false,.c,.r ((eL Gc) f),.c,.c,.r (eB k),.c,.t false,.c,.c,.t true,.c,.c,.c,.c,.c,.c,.c,.c,.c,.c,.c,.c,.c,.c,.c,.c,.c,.c,.c]) (ts:=[]) (s:=[0,1,2,3,4,5,6,7]) (l:=[1,2,9,11,12,13,87,88,89,223]) (by kernel_rfl) (by kernel_rfl) (.cons (nf g) (.cons (Sn n b.1 _ p) (.cons (Gr n f e.1 _ u) (.cons (bnf i) (.cons (nt m) .nil))))) q
  ·rw [if_neg i] at h
   cases h
   exact pkk_sound TTok mix hF 1 (hs:=[.t false,.c,.r ((eL Gc) f),.c,.c,.r (eB k),.c,.t true,.c,.c,.c,.c,.c,.c,.c,.c,.c,.c,.c,.c,.c,.c,.c,.c,.c,.c,.c,.c,.c,.c]) (ts:=[]) (s:=[0,1,2,3,4,5,6,7]) (l:=[1,2,9,11,12,13,87,88,89,223]) (by kernel_rfl) (by kernel_rfl) (.cons (nf g) (.cons (Sn n b.1 _ p) (.cons (Gr n f e.1 _ u) (.cons (bnt (vf i)) .nil)))) q
 ·rw [if_neg g] at h
  cases h
  exact pkk_sound TTok mix hF 1 (hs:=[.t true,.c,.c,.c,.c,.c,.c,.c,.c,.c,.c,.c,.c,.c,.c,.c,.c,.c,.c,.c,.c,.c,.c,.c,.c,.c,.c,.c]) (ts:=[]) (s:=[0,1,2,3,4,5,6,7]) (l:=[1,2,9,11,12,13,87,88,89,223]) (by kernel_rfl) (by kernel_rfl) (.cons (nt g) .nil) q
inductive Zx where
 | x0 (a:Bool) (b c:(List Int)) (d:(List Gi)) (e:(List Gd))
def JH:Zx→Ex
 | .x0 _ _ _ _ _=>.normal
def JI (b c u w:Int) (a:(List Gk)) (e f:Int) (x y:(List Int)) (z:(List Gi)) (g h i:Int) (a0:(List Gd)) (j k l m n o:Int):Zx→PS
 | .x0 p q r s t=>⟨(dd::di b::di c::dd::dd::dd::dd::dd::dd::.ref 0 0::dd::.ref 4 0::.ref 6 0::.ref 7 0::(dds 73 (.d (.sl (a.map Gn))::di (a.length:Int)::di e::(dds 72 (.d (.v (.bool p))::(dds 83 [])))))),[.box [.srf 1,.srf 2,.srf 3,di f],.row 5 1 (q.map (eI .u8)),.row 5 1 (r.map (eI .u8)),.row 94 2 (s.map Ge),.box [di g,di h,di i,.srf 5],.cu (rowF 57 2 (t.map Gc)) [],.box [.ref 0 0,di j,di k,.d (.v (.int .u32 l))],.box [.ref 4 0,di m,di n,.d (.v (.int .u32 o))]]⟩
def JJ (b c e f:Int) (a:(List Gk)) (g h:Int) (i j:(List Int)) (k:(List Gi)) (l m n:Int) (o:(List Gd)) (p q r s t u:Int)  : PS:=⟨(dd::di b::di c::dd::dd::dd::dd::dd::dd::.ref 0 0::dd::.ref 4 0::.ref 6 0::.ref 7 0::dd::dd::dd::dd::dd::dd::dd::di e::di f::(dds 64 (.d (.sl (a.map Gn))::di (a.length:Int)::di g::(dds 156 [])))),[.box [.srf 1,.srf 2,.srf 3,di h],.row 5 1 (i.map (eI .u8)),.row 5 1 (j.map (eI .u8)),.row 94 2 (k.map Ge),.box [di l,di m,di n,.srf 5],.cu (rowF 57 2 (o.map Gc)) [],.box [.ref 0 0,di p,di q,.d (.v (.int .u32 r))],.box [.ref 4 0,di s,di t,.d (.v (.int .u32 u))]]⟩
def Ya (n:Nat) (g h e f:Int) (i:(List Gk)) (j k:Int) (a b:(List Int)) (c:(List Gi)) (l m o:Int) (d:(List Gd)) (p q r s t u:Int):Option Zx :=
 if e=f then
  some (.x0 false a b c d)
 else
  some (.x0 true a b c d)
theorem JK {Fi:Ex→PS→Prop} (hF:KC 246 Fi) (ks:List Fr) (n:Nat) (g i a b:Int) (j:(List Gk)) (k m:Int) (p r:(List Int)) (u:(List Gi)) (w z a0:Int) (a1:(List Gd)) (a2 a3 a4 a5 a6 a7:Int)  (o:Zx) (h:Ya n g i a b j k m p r u w z a0 a1 a2 a3 a4 a5 a6 a7=some o) (q:RunE Try.prog 246 Fi ks (JH o) (JI g i a b j k m p r u w z a0 a1 a2 a3 a4 a5 a6 a7 o)):RunE Try.prog 246 Fi (.s (cL (cL (cR (cR (cR (cB (cL (cR (cR (cP (cB (cR (cL (cR (cR (cR (cR (cR (cR (cR (cR (cR (cR (bodyOf Try.f3))))))))))))))))))))))))::ks) .normal (JJ g i a b j k m p r u w z a0 a1 a2 a3 a4 a5 a6 a7):=by
 unfold Ya at h
 by_cases f:a=b
 ·rw [if_pos f] at h
  cases h
  exact pkk_sound TTok mix hF 1 (hs:=[.t false,.c,.e 33 [] (.d (.v (.bool true))) [],.c,.c,.e 43 [] (.d (.v (.bool true))) [],.c]) (ts:=[]) (s:=[0,1,2,3,4,5,6,7]) (l:=[1,2,9,11,12,13,87,88,89,162]) (by kernel_rfl) (by kernel_rfl) (.cons (nf f) (.cons (xnilP (P:=Try.prog) (T:=TT) (op:=.neq) (t:=31) (e:=75) (ty':=31) (x:=(.tmp 157)) (y:=(.const (.pointer none))) (l:=6) (off:=0) rfl (by kernel_rfl)) (.cons (xnilP (P:=Try.prog) (T:=TT) (op:=.neq) (t:=34) (e:=62) (ty':=34) (x:=(.tmp 159)) (y:=(.const (.pointer none))) (l:=7) (off:=0) rfl (by kernel_rfl)) .nil))) q
 ·rw [if_neg f] at h
  cases h
  exact pkk_sound TTok mix hF 1 (hs:=[.t true,.c,.c,.c,.c]) (ts:=[]) (s:=[0,1,2,3,4,5,6,7]) (l:=[1,2,9,11,12,13,87,88,89,162]) (by kernel_rfl) (by kernel_rfl) (.cons (nt f) .nil) q
inductive Zy where
 | x0 (a:Bool) (b c:(List Int)) (d:(List Gi)) (e:(List Gd))
 | x1 (f:Bool) (g:Int) (h i:(List Int)) (j:(List Gi)) (k:(List Gd)) (l m n:Int)
def JL:Zy→Ex
 | .x0 _ _ _ _ _=>.normal
 | .x1 _ _ _ _ _ _ _ _ _=>.normal
def JM (c e:Int) (j:((List Gh)×Int×Bool×Int×Gg)) (a:((List Gd)×Int×Bool×Gf)) (b:(List Gk)) (f k l m g h i:Int):Zy→PS
 | .x0 n o p q r=>⟨(dd::di c::di e::dd::dd::dd::dd::dd::dd::.ref 0 0::dd::.ref 4 0::.ref 6 0::.ref 7 0::(dds 73 (.d (.sl (b.map Gn))::di (b.length:Int)::di f::(dds 133 (.d (.v (.bool n))::(dds 22 [])))))),[.box [.srf 1,.srf 2,.srf 3,di j.2.2.2.2.ffuse],.row 5 1 (o.map (eI .u8)),.row 5 1 (p.map (eI .u8)),.row 94 2 (q.map Ge),.box [di a.2.2.2.fSectors,di a.2.2.2.fMark,di a.2.2.2.fFuse,.srf 5],.cu (rowF 57 2 (r.map Gc)) [],.box [.ref 0 0,di k,di l,.d (.v (.int .u32 m))],.box [.ref 4 0,di g,di h,.d (.v (.int .u32 i))]]⟩
 | .x1 s t u w x y z a0 a1=>⟨(dd::di c::di e::dd::dd::dd::dd::dd::dd::.ref 0 0::dd::.ref 4 0::.ref 6 0::.ref 7 0::(dds 73 (.d (.sl (b.map Gn))::di (b.length:Int)::di f::(dds 133 (.d (.v (.bool s))::(dds 22 [])))))),[.box [.srf 1,.srf 2,.srf 3,di t],.row 5 1 (u.map (eI .u8)),.row 5 1 (w.map (eI .u8)),.row 94 2 (x.map Ge),.box [di a.2.2.2.fSectors,di a.2.2.2.fMark,di a.2.2.2.fFuse,.srf 5],.cu (rowF 57 2 (y.map Gc)) [],.box [.ref 0 0,di z,di a0,.d (.v (.int .u32 a1))],.box [.ref 4 0,di g,di h,.d (.v (.int .u32 i))]]⟩
def JN (e f:Int) (a:((List Gh)×Int×Bool×Int×Gg)) (b:((List Gd)×Int×Bool×Gf)) (c:(List Gk)) (g h i j k l m:Int)  : PS:=⟨(dd::di e::di f::dd::dd::dd::dd::dd::dd::.ref 0 0::dd::.ref 4 0::.ref 6 0::.ref 7 0::dd::dd::dd::dd::dd::dd::dd::di a.2.2.2.1::dd::.d (.sl (a.1.map Gl))::.d (.v (.int .u32 a.2.1))::.d (.v (.bool a.2.2.1))::.d (.sl (b.1.map Gc))::.d (.v (.int .u32 b.2.1))::.d (.v (.bool b.2.2.1))::(dds 58 (.d (.sl (c.map Gn))::di (c.length:Int)::di g::(dds 156 [])))),[.box [.srf 1,.srf 2,.srf 3,di a.2.2.2.2.ffuse],.row 5 1 (a.2.2.2.2.fsafe.map (eI .u8)),.row 5 1 (a.2.2.2.2.fnow.map (eI .u8)),.row 94 2 (a.2.2.2.2.fwait.map Ge),.box [di b.2.2.2.fSectors,di b.2.2.2.fMark,di b.2.2.2.fFuse,.srf 5],.cu (rowF 57 2 (b.2.2.2.fAll.map Gc)) [],.box [.ref 0 0,di h,di i,.d (.v (.int .u32 j))],.box [.ref 4 0,di k,di l,.d (.v (.int .u32 m))]]⟩
def K7 (n:Nat) (o e:Int) (a:((List Gh)×Int×Bool×Int×Gg)) (b:((List Gd)×Int×Bool×Gf)) (p:(List Gk)) (q f g h r s i:Int):Option Zy :=
 if a.2.2.2.1=0 then
  (YI n a.1).bind fun (j:((List Gd))) =>
  (G5 n j b.1).bind fun (k:(Bool)) =>
  if k=true then
   if a.2.1=b.2.1 then
    if (eqRes .neq (a.2.2.1 == b.2.2.1))=true then
     some (.x0 true a.2.2.2.2.fsafe a.2.2.2.2.fnow a.2.2.2.2.fwait b.2.2.2.fAll)
    else
     (YO n a.1).bind fun (l:(Int)) =>
     (Yq n b.1).bind fun (m:(Int)) =>
     if l=m then
      (Yd n (Gp.mk () f g h) a.2.2.2.2).bind fun (c:(Int×Gp×Gg)) =>
      if c.1=i then
       (KL n c.2.1 c.2.2).bind fun (d:(Int×Gp×Gg)) =>
       some (.x1 (d.1 != (wi .i64 (e-2))) d.2.2.ffuse d.2.2.fsafe d.2.2.fnow d.2.2.fwait b.2.2.2.fAll d.2.1.fat d.2.1.fsize d.2.1.fseq)
      else
       some (.x1 true c.2.2.ffuse c.2.2.fsafe c.2.2.fnow c.2.2.fwait b.2.2.2.fAll c.2.1.fat c.2.1.fsize c.2.1.fseq)
     else
      some (.x0 true a.2.2.2.2.fsafe a.2.2.2.2.fnow a.2.2.2.2.fwait b.2.2.2.fAll)
   else
    some (.x0 true a.2.2.2.2.fsafe a.2.2.2.2.fnow a.2.2.2.2.fwait b.2.2.2.fAll)
  else
   some (.x0 true a.2.2.2.2.fsafe a.2.2.2.2.fnow a.2.2.2.2.fwait b.2.2.2.fAll)
 else
  some (.x0 true a.2.2.2.2.fsafe a.2.2.2.2.fnow a.2.2.2.2.fwait b.2.2.2.fAll)
theorem JO {Fi:Ex→PS→Prop} (hF:KC 246 Fi) (ks:List Fr) (n:Nat) (a5 a6:Int) (b:((List Gh)×Int×Bool×Int×Gg)) (e:((List Gd)×Int×Bool×Gf)) (a7:(List Gk)) (a8 x y z a9 b0 a1:Int)  (o:Zy) (h:K7 n a5 a6 b e a7 a8 x y z a9 b0 a1=some o) (q:RunE Try.prog 246 Fi ks (JL o) (JM a5 a6 b e a7 a8 x y z a9 b0 a1 o)):RunE Try.prog 246 Fi (.s (cL (cL (cR (cR (cR (cR (cR (cR (cR (cB (cL (cR (cR (cP (cB (cR (cL (cR (cR (cR (cR (cR (cR (cR (cR (cR (cR (bodyOf Try.f3))))))))))))))))))))))))))))::ks) .normal (JN a5 a6 b e a7 a8 x y z a9 b0 a1):=by
 unfold K7 at h
 by_cases g:b.2.2.2.1=0
 ·rw [if_pos g] at h
  obtain ⟨f,p,h⟩:=bind_some h
  obtain ⟨k,u,h⟩:=bind_some h
  by_cases i:k=true
  ·rw [if_pos i] at h
   by_cases m:b.2.1=e.2.1
   ·rw [if_pos m] at h
    by_cases w:(eqRes .neq (b.2.2.1 == e.2.2.1))=true
    ·rw [if_pos w] at h
     cases h
     exact pkk_sound TTok mix hF 1 (hs:=[.t false,.c,.r ((eL Gc) f),.c,.c,.r (eB k),.c,.t false,.c,.c,.t false,.c,.c,.t true,.c,.c,.c,.c,.c,.c,.c,.c,.c,.c,.c,.c,.c,.c,.c,.c]) (ts:=[]) (s:=[0,1,2,3,4,5,6,7]) (l:=[1,2,9,11,12,13,87,88,89,223]) (by kernel_rfl) (by kernel_rfl) (.cons (nf g) (.cons (Sn n b.1 _ p) (.cons (Gr n f e.1 _ u) (.cons (bnf i) (.cons (nf m) (.cons w .nil)))))) q
    ·rw [if_neg w] at h
     obtain ⟨a2,b1,h⟩:=bind_some h
     obtain ⟨a3,b2,h⟩:=bind_some h
     by_cases a0:a2=a3
     ·rw [if_pos a0] at h
      obtain ⟨a,b3,h⟩:=bind_some h
      by_cases a4:a.1=a1
      ·rw [if_pos a4] at h
       obtain ⟨j,b4,h⟩:=bind_some h
       cases h
       exact pkk_sound TTok mix hF 1 (hs:=[.t false,.c,.r ((eL Gc) f),.c,.c,.r (eB k),.c,.t false,.c,.c,.t false,.c,.c,.t false,.c,.r ((eI .u32) a2),.c,.c,.r ((eI .u32) a3),.c,.t false,.c,.h [6,0,1,2,3] [] [.box [.ref 1 0,di a.2.1.fat,di a.2.1.fsize,.d (.v (.int .u32 a.2.1.fseq))],.box [.srf 5,.srf 6,.srf 7,di a.2.2.ffuse],.none,.none,.none,.row 5 1 (a.2.2.fsafe.map (eI .u8)),.row 5 1 (a.2.2.fnow.map (eI .u8)),.row 94 2 (a.2.2.fwait.map Ge)] (.d (.v (.int .u32 a.1))),.c,.c,.c,.c,.c,.c,.t false,.c,.h [6,0,148,149,150] [] [.box [.ref 1 0,di j.2.1.fat,di j.2.1.fsize,.d (.v (.int .u32 j.2.1.fseq))],.box [.srf 5,.srf 6,.srf 7,di j.2.2.ffuse],.none,.none,.none,.row 5 1 (j.2.2.fsafe.map (eI .u8)),.row 5 1 (j.2.2.fnow.map (eI .u8)),.row 94 2 (j.2.2.fwait.map Ge)] (di j.1),.c,.c,.c]) (ts:=[]) (s:=[0,193,194,195,4,5,6,7]) (l:=[1,2,9,11,12,13,87,88,89,223]) (by kernel_rfl) (by kernel_rfl) (.cons (nf g) (.cons (Sn n b.1 _ p) (.cons (Gr n f e.1 _ u) (.cons (bnf i) (.cons (nf m) (.cons (vf w) (.cons (ZE n b.1 _ b1) (.cons (KU n e.1 _ b2) (.cons (nf a0) (.cons (Y7 n (Gp.mk () x y z) b.2.2.2.2 _ b3) (.cons (nf a4) (.cons (YS n a.2.1 a.2.2 _ b4) .nil)))))))))))) q
      ·rw [if_neg a4] at h
       cases h
       exact pkk_sound TTok mix hF 1 (hs:=[.t false,.c,.r ((eL Gc) f),.c,.c,.r (eB k),.c,.t false,.c,.c,.t false,.c,.c,.t false,.c,.r ((eI .u32) a2),.c,.c,.r ((eI .u32) a3),.c,.t false,.c,.h [6,0,1,2,3] [] [.box [.ref 1 0,di a.2.1.fat,di a.2.1.fsize,.d (.v (.int .u32 a.2.1.fseq))],.box [.srf 5,.srf 6,.srf 7,di a.2.2.ffuse],.none,.none,.none,.row 5 1 (a.2.2.fsafe.map (eI .u8)),.row 5 1 (a.2.2.fnow.map (eI .u8)),.row 94 2 (a.2.2.fwait.map Ge)] (.d (.v (.int .u32 a.1))),.c,.c,.c,.c,.c,.c,.t true,.c,.c,.c,.c]) (ts:=[]) (s:=[0,148,149,150,4,5,6,7]) (l:=[1,2,9,11,12,13,87,88,89,223]) (by kernel_rfl) (by kernel_rfl) (.cons (nf g) (.cons (Sn n b.1 _ p) (.cons (Gr n f e.1 _ u) (.cons (bnf i) (.cons (nf m) (.cons (vf w) (.cons (ZE n b.1 _ b1) (.cons (KU n e.1 _ b2) (.cons (nf a0) (.cons (Y7 n (Gp.mk () x y z) b.2.2.2.2 _ b3) (.cons (nt a4) .nil))))))))))) q
     ·rw [if_neg a0] at h
      cases h
      exact pkk_sound TTok mix hF 1 (hs:=[.t false,.c,.r ((eL Gc) f),.c,.c,.r (eB k),.c,.t false,.c,.c,.t false,.c,.c,.t false,.c,.r ((eI .u32) a2),.c,.c,.r ((eI .u32) a3),.c,.t true,.c,.c,.c,.c,.c,.c,.c,.c,.c,.c,.c]) (ts:=[]) (s:=[0,1,2,3,4,5,6,7]) (l:=[1,2,9,11,12,13,87,88,89,223]) (by kernel_rfl) (by kernel_rfl) (.cons (nf g) (.cons (Sn n b.1 _ p) (.cons (Gr n f e.1 _ u) (.cons (bnf i) (.cons (nf m) (.cons (vf w) (.cons (ZE n b.1 _ b1) (.cons (KU n e.1 _ b2) (.cons (nt a0) .nil))))))))) q
   ·rw [if_neg m] at h
    cases h
    exact pkk_sound TTok mix hF 1 (hs:=[.t false,.c,.r ((eL Gc) f),.c,.c,.r (eB k),.c,.t false,.c,.c,.t true,.c,.c,.c,.c,.c,.c,.c,.c,.c,.c,.c,.c,.c,.c,.c,.c,.c,.c,.c]) (ts:=[]) (s:=[0,1,2,3,4,5,6,7]) (l:=[1,2,9,11,12,13,87,88,89,223]) (by kernel_rfl) (by kernel_rfl) (.cons (nf g) (.cons (Sn n b.1 _ p) (.cons (Gr n f e.1 _ u) (.cons (bnf i) (.cons (nt m) .nil))))) q
  ·rw [if_neg i] at h
   cases h
   exact pkk_sound TTok mix hF 1 (hs:=[.t false,.c,.r ((eL Gc) f),.c,.c,.r (eB k),.c,.t true,.c,.c,.c,.c,.c,.c,.c,.c,.c,.c,.c,.c,.c,.c,.c,.c,.c,.c,.c,.c,.c,.c]) (ts:=[]) (s:=[0,1,2,3,4,5,6,7]) (l:=[1,2,9,11,12,13,87,88,89,223]) (by kernel_rfl) (by kernel_rfl) (.cons (nf g) (.cons (Sn n b.1 _ p) (.cons (Gr n f e.1 _ u) (.cons (bnt (vf i)) .nil)))) q
 ·rw [if_neg g] at h
  cases h
  exact pkk_sound TTok mix hF 1 (hs:=[.t true,.c,.c,.c,.c,.c,.c,.c,.c,.c,.c,.c,.c,.c,.c,.c,.c,.c,.c,.c,.c,.c,.c,.c,.c,.c,.c,.c]) (ts:=[]) (s:=[0,1,2,3,4,5,6,7]) (l:=[1,2,9,11,12,13,87,88,89,223]) (by kernel_rfl) (by kernel_rfl) (.cons (nt g) .nil) q
inductive Zz where
 | x0 (a:Bool)
 | x1 (b:Int) (c d:(List Int)) (e:(List Gi)) (f g h:Int) (i:(List Gd)) (j k l m n o:Int)
 | x2 (p:Int) (q r:(List Int)) (s:(List Gi)) (t u v:Int) (w:(List Gd))
 | x3 (x:Int) (y z:(List Int)) (a0:(List Gi)) (a1 a2 a3:Int) (a4:(List Gd)) (a5 a6 a7:Int)
def JP:Zz→Ex
 | .x0 _=>.ret
 | .x1 _ _ _ _ _ _ _ _ _ _ _ _ _ _=>.normal
 | .x2 _ _ _ _ _ _ _ _=>.normal
 | .x3 _ _ _ _ _ _ _ _ _ _ _=>.normal
def JQ (b c:Int) (a:(List Gk)) (e c0:Int) (c1 c2:(List Int)) (c3:(List Gi)) (c4 c5 c6:Int) (c7:(List Gd)) (i j k f g h:Int):Zz→PS
 | .x0 l=>⟨(dds 8 (.d (.v (.bool l))::(dds 237 []))),[]⟩
 | .x1 m n o p q r s t u w x y z a0=>⟨(dd::di b::di c::dd::dd::dd::dd::dd::dd::.ref 0 0::dd::.ref 4 0::.ref 6 0::.ref 7 0::(dds 73 (.d (.sl (a.map Gn))::di (a.length:Int)::di e::(dds 156 [])))),[.box [.srf 1,.srf 2,.srf 3,di m],.row 5 1 (n.map (eI .u8)),.row 5 1 (o.map (eI .u8)),.row 94 2 (p.map Ge),.box [di q,di r,di s,.srf 5],.cu (rowF 57 2 (t.map Gc)) [],.box [.ref 0 0,di u,di w,.d (.v (.int .u32 x))],.box [.ref 4 0,di y,di z,.d (.v (.int .u32 a0))]]⟩
 | .x2 a1 a2 a3 a4 a5 a6 a7 a8=>⟨(dd::di b::di c::dd::dd::dd::dd::dd::dd::.ref 0 0::dd::.ref 4 0::.ref 6 0::.ref 7 0::(dds 73 (.d (.sl (a.map Gn))::di (a.length:Int)::di e::(dds 156 [])))),[.box [.srf 1,.srf 2,.srf 3,di a1],.row 5 1 (a2.map (eI .u8)),.row 5 1 (a3.map (eI .u8)),.row 94 2 (a4.map Ge),.box [di a5,di a6,di a7,.srf 5],.cu (rowF 57 2 (a8.map Gc)) [],.box [.ref 0 0,di i,di j,.d (.v (.int .u32 k))],.box [.ref 4 0,di f,di g,.d (.v (.int .u32 h))]]⟩
 | .x3 a9 b0 b1 b2 b3 b4 b5 b6 b7 b8 b9=>⟨(dd::di b::di c::dd::dd::dd::dd::dd::dd::.ref 0 0::dd::.ref 4 0::.ref 6 0::.ref 7 0::(dds 73 (.d (.sl (a.map Gn))::di (a.length:Int)::di e::(dds 156 [])))),[.box [.srf 1,.srf 2,.srf 3,di a9],.row 5 1 (b0.map (eI .u8)),.row 5 1 (b1.map (eI .u8)),.row 94 2 (b2.map Ge),.box [di b3,di b4,di b5,.srf 5],.cu (rowF 57 2 (b6.map Gc)) [],.box [.ref 0 0,di b7,di b8,.d (.v (.int .u32 b9))],.box [.ref 4 0,di f,di g,.d (.v (.int .u32 h))]]⟩
def JR (b c:Int) (a:(List Gk)) (e f:Int) (g h:(List Int)) (i:(List Gi)) (j k l:Int) (m:(List Gd)) (n o p q r s:Int)  : PS:=⟨(dd::di b::di c::dd::dd::dd::dd::dd::dd::.ref 0 0::dd::.ref 4 0::.ref 6 0::.ref 7 0::(dds 73 (.d (.sl (a.map Gn))::di (a.length:Int)::di e::(dds 156 [])))),[.box [.srf 1,.srf 2,.srf 3,di f],.row 5 1 (g.map (eI .u8)),.row 5 1 (h.map (eI .u8)),.row 94 2 (i.map Ge),.box [di j,di k,di l,.srf 5],.cu (rowF 57 2 (m.map Gc)) [],.box [.ref 0 0,di n,di o,.d (.v (.int .u32 p))],.box [.ref 4 0,di q,di r,.d (.v (.int .u32 s))]]⟩
def S6 (n:Nat) (a b:Int) (e:(List Gk)) (f b9:Int) (c0 c1:(List Int)) (c2:(List Gi)) (c3 c4 c5:Int) (c6:(List Gd)) (s t u v w x:Int):Option Zz :=
 (getI e f).bind fun (c7:Gk) =>
 (S5 n a b e f c7 b9 c0 c1 c2 c3 c4 c5 c6 s t u v w x).bind fun c8=>match c8 with
 | .x0 c9 d0 a1 d1 d2 d3 a2 a3 a4 d4 y z a0 p q r =>
  (Z9 n a b c9 d0 e f a1 d1 d2 d3 a2 a3 a4 d4 y z a0 p q r).bind fun d5=>match d5 with
  | .x0 d6 d7 d8 d9 e0 =>
    if d6=true then
     some (.x0 false)
    else
     (Ss n (Gg.mk d7 d8 d9 a1) a b).bind fun (a5:((List Gh)×Int×Bool×Int×Gg)) =>
     (KX n (Gf.mk a2 a3 a4 e0) a b).bind fun (c:((List Gd)×Int×Bool×Gf)) =>
     (K6 n a b a5 c e f y z a0 p q r).bind fun e1=>match e1 with
     | .x0 e2 e3 e4 e5 a6 =>
      if e2=true then
       some (.x0 false)
      else
       (Kx n (Gg.mk e3 e4 e5 a5.2.2.2.2.ffuse)).bind fun (a7:(Int×Gg)) =>
       if a7.1=(wi .i64 ((a6.length:Int)-c.2.2.2.fMark)) then
        (S8 n a7.2).bind fun (g:((List Int)×Gg)) =>
        (Sm n (Gf.mk c.2.2.2.fSectors c.2.2.2.fMark c.2.2.2.fFuse a6)).bind fun (h:(ByteArray×Gf)) =>
        if (!((b2s g.1).toList == h.1.toList))=true then
         some (.x0 false)
        else
         some (.x1 g.2.ffuse g.2.fsafe g.2.fnow g.2.fwait h.2.fSectors h.2.fMark h.2.fFuse h.2.fAll y z a0 p q r)
       else
        some (.x0 false)
     | .x1 e6 e7 e8 e9 f0 a8 f1 f2 f3 =>
      if e6=true then
       some (.x0 false)
      else
       (Kx n (Gg.mk e8 e9 f0 e7)).bind fun (a9:(Int×Gg)) =>
       if a9.1=(wi .i64 ((a8.length:Int)-c.2.2.2.fMark)) then
        (S8 n a9.2).bind fun (i:((List Int)×Gg)) =>
        (Sm n (Gf.mk c.2.2.2.fSectors c.2.2.2.fMark c.2.2.2.fFuse a8)).bind fun (j:(ByteArray×Gf)) =>
        if (!((b2s i.1).toList == j.1.toList))=true then
         some (.x0 false)
        else
         some (.x1 i.2.ffuse i.2.fsafe i.2.fnow i.2.fwait j.2.fSectors j.2.fMark j.2.fFuse j.2.fAll f1 f2 f3 p q r)
       else
        some (.x0 false)
 | .x1 f4 f5 i5 i6 i7 i8 i9 j0 j1 j2 =>
  if f4=f5 then
   some (.x0 true)
  else
   some (.x0 false)
 | .x2 f6 f7 j3 j4 j5 j6 j7 j8 j9 k0 k1 k2 k3 =>
  if f6=f7 then
   some (.x0 false)
  else
   some (.x0 false)
 | .x3 f8 f9 k4 k5 k6 k7 k8 k9 l0 l1 l2 l3 l4 =>
  if f8=f9 then
   some (.x0 false)
  else
   some (.x0 false)
 | .x4 g0 g1 b0 g2 g3 g4 b1 b2 b3 g5 =>
  (Ya n a b g0 g1 e f b0 g2 g3 g4 b1 b2 b3 g5 s t u v w x).bind fun g6=>match g6 with
  | .x0 g7 g8 g9 h0 h1 =>
    if g7=true then
     some (.x0 false)
    else
     (Ss n (Gg.mk g8 g9 h0 b0) a b).bind fun (b4:((List Gh)×Int×Bool×Int×Gg)) =>
     (KX n (Gf.mk b1 b2 b3 h1) a b).bind fun (d:((List Gd)×Int×Bool×Gf)) =>
     (K7 n a b b4 d e f s t u v w x).bind fun h2=>match h2 with
     | .x0 h3 h4 h5 h6 b5 =>
      if h3=true then
       some (.x0 false)
      else
       (Kx n (Gg.mk h4 h5 h6 b4.2.2.2.2.ffuse)).bind fun (b6:(Int×Gg)) =>
       if b6.1=(wi .i64 ((b5.length:Int)-d.2.2.2.fMark)) then
        (S8 n b6.2).bind fun (k:((List Int)×Gg)) =>
        (Sm n (Gf.mk d.2.2.2.fSectors d.2.2.2.fMark d.2.2.2.fFuse b5)).bind fun (l:(ByteArray×Gf)) =>
        if (!((b2s k.1).toList == l.1.toList))=true then
         some (.x0 false)
        else
         some (.x2 k.2.ffuse k.2.fsafe k.2.fnow k.2.fwait l.2.fSectors l.2.fMark l.2.fFuse l.2.fAll)
       else
        some (.x0 false)
     | .x1 h7 h8 h9 i0 i1 b7 i2 i3 i4 =>
      if h7=true then
       some (.x0 false)
      else
       (Kx n (Gg.mk h9 i0 i1 h8)).bind fun (b8:(Int×Gg)) =>
       if b8.1=(wi .i64 ((b7.length:Int)-d.2.2.2.fMark)) then
        (S8 n b8.2).bind fun (m:((List Int)×Gg)) =>
        (Sm n (Gf.mk d.2.2.2.fSectors d.2.2.2.fMark d.2.2.2.fFuse b7)).bind fun (o:(ByteArray×Gf)) =>
        if (!((b2s m.1).toList == o.1.toList))=true then
         some (.x0 false)
        else
         some (.x3 m.2.ffuse m.2.fsafe m.2.fnow m.2.fwait o.2.fSectors o.2.fMark o.2.fFuse o.2.fAll i2 i3 i4)
       else
        some (.x0 false)
theorem JS {Fi:Ex→PS→Prop} (hF:KC 246 Fi) (ks:List Fr) (n:Nat) (z a0:Int) (b1:(List Gk)) (b2 c7:Int) (c8 c9:(List Int)) (d0:(List Gi)) (d1 d2 d3:Int) (d4:(List Gd)) (b3 b4 b5 b6 b7 b8:Int)  (o:Zz) (h:S6 n z a0 b1 b2 c7 c8 c9 d0 d1 d2 d3 d4 b3 b4 b5 b6 b7 b8=some o) (q:RunE Try.prog 246 Fi ks (JP o) (JQ z a0 b1 b2 c7 c8 c9 d0 d1 d2 d3 d4 b3 b4 b5 b6 b7 b8 o)):RunE Try.prog 246 Fi (.s (cL (cR (cR (cP (cB (cR (cL (cR (cR (cR (cR (cR (cR (cR (cR (cR (cR (bodyOf Try.f3))))))))))))))))))::ks) .normal (JR z a0 b1 b2 c7 c8 c9 d0 d1 d2 d3 d4 b3 b4 b5 b6 b7 b8):=by
 unfold S6 at h
 obtain ⟨g3,i6,h⟩:=bind_some h
 obtain ⟨i7,i8,h⟩:=bind_some h
 refine pkk_sound TTok mix hF 8 (hs:=[.y (Gn g3),.c,.c]) (ts:=[]) (s:=[0,1,2,3,4,5,6,7,18]) (l:=[1,2,9,11,12,13,20,21,22,87,88,89,94]) (by kernel_rfl) (by kernel_rfl) (.cons (getI_ob (f:=Gn) i6) (.cons (show 0+5≤5 by decide) .nil)) (Jy hF (.s (cR (cR (cR (cB (cL (cR (cR (cP (cB (cR (cL (cR (cR (cR (cR (cR (cR (cR (cR (cR (cR (bodyOf Try.f3))))))))))))))))))))))::.b 1::ks) n z a0 b1 b2 g3 c7 c8 c9 d0 d1 d2 d3 d4 b3 b4 b5 b6 b7 b8 _ i8 ?_)
 cases i7 with
 | x0 i9 j0 g4 j1 j2 j3 g5 g6 g7 j4 g8 g9 h0 h1 h2 h3 =>
  try dsimp only at h
  obtain ⟨j5,j6,h⟩:=bind_some h
  refine pkk_sound TTok mix hF 2 (hs:=[]) (ts:=[]) (s:=[0,1,2,3,4,5,6,7]) (l:=[1,2,9,11,12,13,21,22,87,88,89]) (by kernel_rfl) (by kernel_rfl) .nil (JC hF (.s (cR (cL (cR (cR (cR (cB (cL (cR (cR (cP (cB (cR (cL (cR (cR (cR (cR (cR (cR (cR (cR (cR (cR (bodyOf Try.f3))))))))))))))))))))))))::.s (cR (cR (cR (cR (cB (cL (cR (cR (cP (cB (cR (cL (cR (cR (cR (cR (cR (cR (cR (cR (cR (cR (bodyOf Try.f3)))))))))))))))))))))))::.b 1::ks) n z a0 i9 j0 b1 b2 g4 j1 j2 j3 g5 g6 g7 j4 g8 g9 h0 h1 h2 h3 _ j6 ?_)
  cases j5 with
  | x0 j7 j8 j9 k0 k1 =>
   try dsimp only at h
   by_cases d5:j7=true
   ·rw [if_pos d5] at h
    cases h
    exact pkk_sound TTok mix hF 6 (hs:=[.t true]) (ts:=[]) (s:=[]) (l:=[8]) (by kernel_rfl) (by kernel_rfl) (.cons d5 .nil) q
   ·rw [if_neg d5] at h
    obtain ⟨a1,k2,h⟩:=bind_some h
    obtain ⟨a,k3,h⟩:=bind_some h
    obtain ⟨k4,k5,h⟩:=bind_some h
    refine pkk_sound TTok mix hF 13 (hs:=[.t false,.e 13 [] (.d (.v (.bool false))) [],.c,.h [0,1,2,3] [] [.box [.srf 4,.srf 5,.srf 6,di a1.2.2.2.2.ffuse],.none,.none,.none,.row 5 1 (a1.2.2.2.2.fsafe.map (eI .u8)),.row 5 1 (a1.2.2.2.2.fnow.map (eI .u8)),.row 94 2 (a1.2.2.2.2.fwait.map Ge)] (.tup [.d (.sl (a1.1.map Gl)),.d (.v (.int .u32 a1.2.1)),.d (.v (.bool a1.2.2.1)),di a1.2.2.2.1]),.h [4,5] [] [.box [di a.2.2.2.fSectors,di a.2.2.2.fMark,di a.2.2.2.fFuse,.srf 2],.none,.cu (rowF 57 2 (a.2.2.2.fAll.map Gc)) []] (.tup [.d (.sl (a.1.map Gc)),.d (.v (.int .u32 a.2.1)),.d (.v (.bool a.2.2.1))])]) (ts:=[]) (s:=[0,33,34,35,4,98,6,7]) (l:=[1,2,9,11,12,13,21,23,24,25,26,27,28,87,88,89]) (by kernel_rfl) (by kernel_rfl) (.cons (vf d5) (.cons (xnilP (P:=Try.prog) (T:=TT) (op:=.eql) (t:=31) (e:=75) (ty':=31) (x:=(.tmp 163)) (y:=(.const (.pointer none))) (l:=6) (off:=0) rfl (by kernel_rfl)) (.cons (Yb n (Gg.mk j8 j9 k0 g4) z a0 _ k2) (.cons (XG n (Gf.mk g5 g6 g7 k1) z a0 _ k3) .nil)))) (JG hF (.s (cR (cL (cR (cR (cR (cR (cR (cR (cR (cB (cL (cR (cR (cP (cB (cR (cL (cR (cR (cR (cR (cR (cR (cR (cR (cR (cR (bodyOf Try.f3))))))))))))))))))))))))))))::.s (cR (cR (cR (cR (cR (cR (cR (cR (cB (cL (cR (cR (cP (cB (cR (cL (cR (cR (cR (cR (cR (cR (cR (cR (cR (cR (bodyOf Try.f3)))))))))))))))))))))))))))::.b 1::ks) n z a0 a1 a b1 b2 g8 g9 h0 h1 h2 h3 _ k5 ?_)
    cases k4 with
    | x0 k6 e4 e5 e6 a7 =>
     try dsimp only at h
     by_cases b9:k6=true
     ·rw [if_pos b9] at h
      cases h
      exact pkk_sound TTok mix hF 6 (hs:=[.t true]) (ts:=[]) (s:=[]) (l:=[8]) (by kernel_rfl) (by kernel_rfl) (.cons b9 .nil) q
     ·rw [if_neg b9] at h
      obtain ⟨i,e7,h⟩:=bind_some h
      by_cases c3:i.1=(wi .i64 ((a7.length:Int)-a.2.2.2.fMark))
      ·rw [if_pos c3] at h
       obtain ⟨p,h4,h⟩:=bind_some h
       obtain ⟨a3,h5,h⟩:=bind_some h
       by_cases d6:(!((b2s p.1).toList == a3.1.toList))=true
       ·rw [if_pos d6] at h
        cases h
        exact pkk_sound TTok mix hF 9 (hs:=[.t false,.h [0,1,2,3] [] [.box [.srf 4,.srf 5,.srf 6,di i.2.ffuse],.none,.none,.none,.row 5 1 (i.2.fsafe.map (eI .u8)),.row 5 1 (i.2.fnow.map (eI .u8)),.row 94 2 (i.2.fwait.map Ge)] (di i.1),.c,.e 38 [5] (di (a7.length:Int)) [],.c,.t false,.c,.h [0,13,14,15] [] [.box [.srf 4,.srf 5,.srf 6,di p.2.ffuse],.none,.none,.none,.row 5 1 (p.2.fsafe.map (eI .u8)),.row 5 1 (p.2.fnow.map (eI .u8)),.row 94 2 (p.2.fwait.map Ge)] (.d (.sl (p.1.map (eI .u8)))),.c,.e 88 [] (.d (.v (.string (b2s p.1)))) [],.c,.c,.h [4,5] [] [.box [di a3.2.fSectors,di a3.2.fMark,di a3.2.fFuse,.srf 2],.none,.cu (rowF 57 2 (a3.2.fAll.map Gc)) []] (.d (.v (.string a3.1))),.c,.t true]) (ts:=[]) (s:=[]) (l:=[8]) (by kernel_rfl) (by kernel_rfl) (.cons (vf b9) (.cons (GW n (Gg.mk e4 e5 e6 a1.2.2.2.2.ffuse) _ e7) (.cons (lmap' (flen (P:=Try.prog) (T:=TT) (t:=47) (l:=5) (e:=57) (s:=2) (xs:=(a7.map Gc)) (x:=(.tmp 229)) (by kernel_rfl))) (.cons (nf c3) (.cons (Kq n i.2 _ h4) (.cons (xb2sD (L:=p.1) (P:=Try.prog) (T:=TT) (src:=42) (dst:=9) (e:=5) (s:=1) (x:=(.tmp 239)) (by kernel_rfl) (by kernel_rfl) (by kernel_rfl)) (.cons (SG n (Gf.mk a.2.2.2.fSectors a.2.2.2.fMark a.2.2.2.fFuse a7) _ h5) (.cons d6 .nil)))))))) q
       ·rw [if_neg d6] at h
        cases h
        exact pkk_sound TTok mix hF 7 (hs:=[.t false,.h [0,1,2,3] [] [.box [.srf 4,.srf 5,.srf 6,di i.2.ffuse],.none,.none,.none,.row 5 1 (i.2.fsafe.map (eI .u8)),.row 5 1 (i.2.fnow.map (eI .u8)),.row 94 2 (i.2.fwait.map Ge)] (di i.1),.c,.e 38 [5] (di (a7.length:Int)) [],.c,.t false,.c,.h [0,13,14,15] [] [.box [.srf 4,.srf 5,.srf 6,di p.2.ffuse],.none,.none,.none,.row 5 1 (p.2.fsafe.map (eI .u8)),.row 5 1 (p.2.fnow.map (eI .u8)),.row 94 2 (p.2.fwait.map Ge)] (.d (.sl (p.1.map (eI .u8)))),.c,.e 88 [] (.d (.v (.string (b2s p.1)))) [],.c,.c,.h [4,5] [] [.box [di a3.2.fSectors,di a3.2.fMark,di a3.2.fFuse,.srf 2],.none,.cu (rowF 57 2 (a3.2.fAll.map Gc)) []] (.d (.v (.string a3.1))),.c,.t false]) (ts:=[]) (s:=[0,83,84,85,4,98,6,7]) (l:=[1,2,9,11,12,13,87,88,89]) (by kernel_rfl) (by kernel_rfl) (.cons (vf b9) (.cons (GW n (Gg.mk e4 e5 e6 a1.2.2.2.2.ffuse) _ e7) (.cons (lmap' (flen (P:=Try.prog) (T:=TT) (t:=47) (l:=5) (e:=57) (s:=2) (xs:=(a7.map Gc)) (x:=(.tmp 229)) (by kernel_rfl))) (.cons (nf c3) (.cons (Kq n i.2 _ h4) (.cons (xb2sD (L:=p.1) (P:=Try.prog) (T:=TT) (src:=42) (dst:=9) (e:=5) (s:=1) (x:=(.tmp 239)) (by kernel_rfl) (by kernel_rfl) (by kernel_rfl)) (.cons (SG n (Gf.mk a.2.2.2.fSectors a.2.2.2.fMark a.2.2.2.fFuse a7) _ h5) (.cons (vf d6) .nil)))))))) q
      ·rw [if_neg c3] at h
       cases h
       exact pkk_sound TTok mix hF 9 (hs:=[.t false,.h [0,1,2,3] [] [.box [.srf 4,.srf 5,.srf 6,di i.2.ffuse],.none,.none,.none,.row 5 1 (i.2.fsafe.map (eI .u8)),.row 5 1 (i.2.fnow.map (eI .u8)),.row 94 2 (i.2.fwait.map Ge)] (di i.1),.c,.e 38 [5] (di (a7.length:Int)) [],.c,.t true,.c,.c,.c,.c,.c,.c]) (ts:=[]) (s:=[]) (l:=[8]) (by kernel_rfl) (by kernel_rfl) (.cons (vf b9) (.cons (GW n (Gg.mk e4 e5 e6 a1.2.2.2.2.ffuse) _ e7) (.cons (lmap' (flen (P:=Try.prog) (T:=TT) (t:=47) (l:=5) (e:=57) (s:=2) (xs:=(a7.map Gc)) (x:=(.tmp 229)) (by kernel_rfl))) (.cons (nt c3) .nil)))) q
    | x1 k7 e8 e9 f0 f1 a8 n3 n4 n5 =>
     try dsimp only at h
     by_cases c0:k7=true
     ·rw [if_pos c0] at h
      cases h
      exact pkk_sound TTok mix hF 6 (hs:=[.t true]) (ts:=[]) (s:=[]) (l:=[8]) (by kernel_rfl) (by kernel_rfl) (.cons c0 .nil) q
     ·rw [if_neg c0] at h
      obtain ⟨j,f2,h⟩:=bind_some h
      by_cases c4:j.1=(wi .i64 ((a8.length:Int)-a.2.2.2.fMark))
      ·rw [if_pos c4] at h
       obtain ⟨r,h6,h⟩:=bind_some h
       obtain ⟨a4,h7,h⟩:=bind_some h
       by_cases d7:(!((b2s r.1).toList == a4.1.toList))=true
       ·rw [if_pos d7] at h
        cases h
        exact pkk_sound TTok mix hF 9 (hs:=[.t false,.h [0,1,2,3] [] [.box [.srf 4,.srf 5,.srf 6,di j.2.ffuse],.none,.none,.none,.row 5 1 (j.2.fsafe.map (eI .u8)),.row 5 1 (j.2.fnow.map (eI .u8)),.row 94 2 (j.2.fwait.map Ge)] (di j.1),.c,.e 38 [5] (di (a8.length:Int)) [],.c,.t false,.c,.h [0,13,14,15] [] [.box [.srf 4,.srf 5,.srf 6,di r.2.ffuse],.none,.none,.none,.row 5 1 (r.2.fsafe.map (eI .u8)),.row 5 1 (r.2.fnow.map (eI .u8)),.row 94 2 (r.2.fwait.map Ge)] (.d (.sl (r.1.map (eI .u8)))),.c,.e 88 [] (.d (.v (.string (b2s r.1)))) [],.c,.c,.h [4,5] [] [.box [di a4.2.fSectors,di a4.2.fMark,di a4.2.fFuse,.srf 2],.none,.cu (rowF 57 2 (a4.2.fAll.map Gc)) []] (.d (.v (.string a4.1))),.c,.t true]) (ts:=[]) (s:=[]) (l:=[8]) (by kernel_rfl) (by kernel_rfl) (.cons (vf c0) (.cons (GW n (Gg.mk e9 f0 f1 e8) _ f2) (.cons (lmap' (flen (P:=Try.prog) (T:=TT) (t:=47) (l:=5) (e:=57) (s:=2) (xs:=(a8.map Gc)) (x:=(.tmp 229)) (by kernel_rfl))) (.cons (nf c4) (.cons (Kq n j.2 _ h6) (.cons (xb2sD (L:=r.1) (P:=Try.prog) (T:=TT) (src:=42) (dst:=9) (e:=5) (s:=1) (x:=(.tmp 239)) (by kernel_rfl) (by kernel_rfl) (by kernel_rfl)) (.cons (SG n (Gf.mk a.2.2.2.fSectors a.2.2.2.fMark a.2.2.2.fFuse a8) _ h7) (.cons d7 .nil)))))))) q
       ·rw [if_neg d7] at h
        cases h
        exact pkk_sound TTok mix hF 7 (hs:=[.t false,.h [0,1,2,3] [] [.box [.srf 4,.srf 5,.srf 6,di j.2.ffuse],.none,.none,.none,.row 5 1 (j.2.fsafe.map (eI .u8)),.row 5 1 (j.2.fnow.map (eI .u8)),.row 94 2 (j.2.fwait.map Ge)] (di j.1),.c,.e 38 [5] (di (a8.length:Int)) [],.c,.t false,.c,.h [0,13,14,15] [] [.box [.srf 4,.srf 5,.srf 6,di r.2.ffuse],.none,.none,.none,.row 5 1 (r.2.fsafe.map (eI .u8)),.row 5 1 (r.2.fnow.map (eI .u8)),.row 94 2 (r.2.fwait.map Ge)] (.d (.sl (r.1.map (eI .u8)))),.c,.e 88 [] (.d (.v (.string (b2s r.1)))) [],.c,.c,.h [4,5] [] [.box [di a4.2.fSectors,di a4.2.fMark,di a4.2.fFuse,.srf 2],.none,.cu (rowF 57 2 (a4.2.fAll.map Gc)) []] (.d (.v (.string a4.1))),.c,.t false]) (ts:=[]) (s:=[0,83,84,85,4,98,6,7]) (l:=[1,2,9,11,12,13,87,88,89]) (by kernel_rfl) (by kernel_rfl) (.cons (vf c0) (.cons (GW n (Gg.mk e9 f0 f1 e8) _ f2) (.cons (lmap' (flen (P:=Try.prog) (T:=TT) (t:=47) (l:=5) (e:=57) (s:=2) (xs:=(a8.map Gc)) (x:=(.tmp 229)) (by kernel_rfl))) (.cons (nf c4) (.cons (Kq n j.2 _ h6) (.cons (xb2sD (L:=r.1) (P:=Try.prog) (T:=TT) (src:=42) (dst:=9) (e:=5) (s:=1) (x:=(.tmp 239)) (by kernel_rfl) (by kernel_rfl) (by kernel_rfl)) (.cons (SG n (Gf.mk a.2.2.2.fSectors a.2.2.2.fMark a.2.2.2.fFuse a8) _ h7) (.cons (vf d7) .nil)))))))) q
      ·rw [if_neg c4] at h
       cases h
       exact pkk_sound TTok mix hF 9 (hs:=[.t false,.h [0,1,2,3] [] [.box [.srf 4,.srf 5,.srf 6,di j.2.ffuse],.none,.none,.none,.row 5 1 (j.2.fsafe.map (eI .u8)),.row 5 1 (j.2.fnow.map (eI .u8)),.row 94 2 (j.2.fwait.map Ge)] (di j.1),.c,.e 38 [5] (di (a8.length:Int)) [],.c,.t true,.c,.c,.c,.c,.c,.c]) (ts:=[]) (s:=[]) (l:=[8]) (by kernel_rfl) (by kernel_rfl) (.cons (vf c0) (.cons (GW n (Gg.mk e9 f0 f1 e8) _ f2) (.cons (lmap' (flen (P:=Try.prog) (T:=TT) (t:=47) (l:=5) (e:=57) (s:=2) (xs:=(a8.map Gc)) (x:=(.tmp 229)) (by kernel_rfl))) (.cons (nt c4) .nil)))) q
 | x1 k8 k9 n6 n7 n8 n9 o0 o1 o2 o3 =>
  try dsimp only at h
  by_cases d8:k8=k9
  ·rw [if_pos d8] at h
   cases h
   exact pkk_sound TTok mix hF 14 (hs:=[.t false,.c,.e 31 [] (.d (.v (.bool false))) [],.c,.c,.e 41 [] (.d (.v (.bool false))) [],.c,.c,.e 61 [] (.d (.v (.bool true))) [],.c]) (ts:=[]) (s:=[]) (l:=[8]) (by kernel_rfl) (by kernel_rfl) (.cons (nf d8) (.cons (xnilN (P:=Try.prog) (T:=TT) (op:=.neq) (t:=31) (e:=75) (ty':=31) (x:=(.tmp 157)) (y:=(.const (.pointer none))) rfl (by kernel_rfl)) (.cons (xnilN (P:=Try.prog) (T:=TT) (op:=.neq) (t:=34) (e:=62) (ty':=34) (x:=(.tmp 159)) (y:=(.const (.pointer none))) rfl (by kernel_rfl)) (.cons (xnilN (P:=Try.prog) (T:=TT) (op:=.eql) (t:=31) (e:=75) (ty':=31) (x:=(.tmp 163)) (y:=(.const (.pointer none))) rfl (by kernel_rfl)) .nil)))) q
  ·rw [if_neg d8] at h
   cases h
   exact pkk_sound TTok mix hF 9 (hs:=[.t true,.c,.c,.c,.c,.c]) (ts:=[]) (s:=[]) (l:=[8]) (by kernel_rfl) (by kernel_rfl) (.cons (nt d8) .nil) q
 | x2 l0 l1 o4 o5 o6 o7 o8 o9 p0 p1 p2 p3 p4 =>
  try dsimp only at h
  by_cases d9:l0=l1
  ·rw [if_pos d9] at h
   cases h
   exact pkk_sound TTok mix hF 9 (hs:=[.t false,.c,.e 32 [] (.d (.v (.bool false))) [],.c,.c,.e 42 [] (.d (.v (.bool true))) [],.c,.c]) (ts:=[]) (s:=[]) (l:=[8]) (by kernel_rfl) (by kernel_rfl) (.cons (nf d9) (.cons (xnilN (P:=Try.prog) (T:=TT) (op:=.neq) (t:=31) (e:=75) (ty':=31) (x:=(.tmp 157)) (y:=(.const (.pointer none))) rfl (by kernel_rfl)) (.cons (xnilP (P:=Try.prog) (T:=TT) (op:=.neq) (t:=34) (e:=62) (ty':=34) (x:=(.tmp 159)) (y:=(.const (.pointer none))) (l:=6) (off:=0) rfl (by kernel_rfl)) .nil))) q
  ·rw [if_neg d9] at h
   cases h
   exact pkk_sound TTok mix hF 9 (hs:=[.t true,.c,.c,.c,.c,.c]) (ts:=[]) (s:=[]) (l:=[8]) (by kernel_rfl) (by kernel_rfl) (.cons (nt d9) .nil) q
 | x3 l2 l3 p5 p6 p7 p8 p9 q0 q1 q2 q3 q4 q5 =>
  try dsimp only at h
  by_cases e0:l2=l3
  ·rw [if_pos e0] at h
   cases h
   exact pkk_sound TTok mix hF 9 (hs:=[.t false,.c,.e 32 [] (.d (.v (.bool true))) [],.c,.c,.e 42 [] (.d (.v (.bool false))) [],.c,.c]) (ts:=[]) (s:=[]) (l:=[8]) (by kernel_rfl) (by kernel_rfl) (.cons (nf e0) (.cons (xnilP (P:=Try.prog) (T:=TT) (op:=.neq) (t:=31) (e:=75) (ty':=31) (x:=(.tmp 157)) (y:=(.const (.pointer none))) (l:=6) (off:=0) rfl (by kernel_rfl)) (.cons (xnilN (P:=Try.prog) (T:=TT) (op:=.neq) (t:=34) (e:=62) (ty':=34) (x:=(.tmp 159)) (y:=(.const (.pointer none))) rfl (by kernel_rfl)) .nil))) q
  ·rw [if_neg e0] at h
   cases h
   exact pkk_sound TTok mix hF 9 (hs:=[.t true,.c,.c,.c,.c,.c]) (ts:=[]) (s:=[]) (l:=[8]) (by kernel_rfl) (by kernel_rfl) (.cons (nt e0) .nil) q
 | x4 l4 l5 h8 l6 l7 l8 h9 i0 i1 l9 =>
  try dsimp only at h
  obtain ⟨m0,m1,h⟩:=bind_some h
  refine pkk_sound TTok mix hF 2 (hs:=[]) (ts:=[]) (s:=[0,1,2,3,4,5,6,7]) (l:=[1,2,9,11,12,13,21,22,87,88,89]) (by kernel_rfl) (by kernel_rfl) .nil (JK hF (.s (cR (cL (cR (cR (cR (cB (cL (cR (cR (cP (cB (cR (cL (cR (cR (cR (cR (cR (cR (cR (cR (cR (cR (bodyOf Try.f3))))))))))))))))))))))))::.s (cR (cR (cR (cR (cB (cL (cR (cR (cP (cB (cR (cL (cR (cR (cR (cR (cR (cR (cR (cR (cR (cR (bodyOf Try.f3)))))))))))))))))))))))::.b 1::ks) n z a0 l4 l5 b1 b2 h8 l6 l7 l8 h9 i0 i1 l9 b3 b4 b5 b6 b7 b8 _ m1 ?_)
  cases m0 with
  | x0 m2 m3 m4 m5 m6 =>
   try dsimp only at h
   by_cases e1:m2=true
   ·rw [if_pos e1] at h
    cases h
    exact pkk_sound TTok mix hF 6 (hs:=[.t true]) (ts:=[]) (s:=[]) (l:=[8]) (by kernel_rfl) (by kernel_rfl) (.cons e1 .nil) q
   ·rw [if_neg e1] at h
    obtain ⟨a2,m7,h⟩:=bind_some h
    obtain ⟨g,m8,h⟩:=bind_some h
    obtain ⟨m9,n0,h⟩:=bind_some h
    refine pkk_sound TTok mix hF 13 (hs:=[.t false,.e 13 [] (.d (.v (.bool false))) [],.c,.h [0,1,2,3] [] [.box [.srf 4,.srf 5,.srf 6,di a2.2.2.2.2.ffuse],.none,.none,.none,.row 5 1 (a2.2.2.2.2.fsafe.map (eI .u8)),.row 5 1 (a2.2.2.2.2.fnow.map (eI .u8)),.row 94 2 (a2.2.2.2.2.fwait.map Ge)] (.tup [.d (.sl (a2.1.map Gl)),.d (.v (.int .u32 a2.2.1)),.d (.v (.bool a2.2.2.1)),di a2.2.2.2.1]),.h [4,5] [] [.box [di g.2.2.2.fSectors,di g.2.2.2.fMark,di g.2.2.2.fFuse,.srf 2],.none,.cu (rowF 57 2 (g.2.2.2.fAll.map Gc)) []] (.tup [.d (.sl (g.1.map Gc)),.d (.v (.int .u32 g.2.1)),.d (.v (.bool g.2.2.1))])]) (ts:=[]) (s:=[0,33,34,35,4,98,6,7]) (l:=[1,2,9,11,12,13,21,23,24,25,26,27,28,87,88,89]) (by kernel_rfl) (by kernel_rfl) (.cons (vf e1) (.cons (xnilP (P:=Try.prog) (T:=TT) (op:=.eql) (t:=31) (e:=75) (ty':=31) (x:=(.tmp 163)) (y:=(.const (.pointer none))) (l:=6) (off:=0) rfl (by kernel_rfl)) (.cons (Yb n (Gg.mk m3 m4 m5 h8) z a0 _ m7) (.cons (XG n (Gf.mk h9 i0 i1 m6) z a0 _ m8) .nil)))) (JO hF (.s (cR (cL (cR (cR (cR (cR (cR (cR (cR (cB (cL (cR (cR (cP (cB (cR (cL (cR (cR (cR (cR (cR (cR (cR (cR (cR (cR (bodyOf Try.f3))))))))))))))))))))))))))))::.s (cR (cR (cR (cR (cR (cR (cR (cR (cB (cL (cR (cR (cP (cB (cR (cL (cR (cR (cR (cR (cR (cR (cR (cR (cR (cR (bodyOf Try.f3)))))))))))))))))))))))))))::.b 1::ks) n z a0 a2 g b1 b2 b3 b4 b5 b6 b7 b8 _ n0 ?_)
    cases m9 with
    | x0 n1 f4 f5 f6 a9 =>
     try dsimp only at h
     by_cases c1:n1=true
     ·rw [if_pos c1] at h
      cases h
      exact pkk_sound TTok mix hF 6 (hs:=[.t true]) (ts:=[]) (s:=[]) (l:=[8]) (by kernel_rfl) (by kernel_rfl) (.cons c1 .nil) q
     ·rw [if_neg c1] at h
      obtain ⟨k,f7,h⟩:=bind_some h
      by_cases c5:k.1=(wi .i64 ((a9.length:Int)-g.2.2.2.fMark))
      ·rw [if_pos c5] at h
       obtain ⟨u,i2,h⟩:=bind_some h
       obtain ⟨a5,i3,h⟩:=bind_some h
       by_cases e2:(!((b2s u.1).toList == a5.1.toList))=true
       ·rw [if_pos e2] at h
        cases h
        exact pkk_sound TTok mix hF 9 (hs:=[.t false,.h [0,1,2,3] [] [.box [.srf 4,.srf 5,.srf 6,di k.2.ffuse],.none,.none,.none,.row 5 1 (k.2.fsafe.map (eI .u8)),.row 5 1 (k.2.fnow.map (eI .u8)),.row 94 2 (k.2.fwait.map Ge)] (di k.1),.c,.e 38 [5] (di (a9.length:Int)) [],.c,.t false,.c,.h [0,13,14,15] [] [.box [.srf 4,.srf 5,.srf 6,di u.2.ffuse],.none,.none,.none,.row 5 1 (u.2.fsafe.map (eI .u8)),.row 5 1 (u.2.fnow.map (eI .u8)),.row 94 2 (u.2.fwait.map Ge)] (.d (.sl (u.1.map (eI .u8)))),.c,.e 88 [] (.d (.v (.string (b2s u.1)))) [],.c,.c,.h [4,5] [] [.box [di a5.2.fSectors,di a5.2.fMark,di a5.2.fFuse,.srf 2],.none,.cu (rowF 57 2 (a5.2.fAll.map Gc)) []] (.d (.v (.string a5.1))),.c,.t true]) (ts:=[]) (s:=[]) (l:=[8]) (by kernel_rfl) (by kernel_rfl) (.cons (vf c1) (.cons (GW n (Gg.mk f4 f5 f6 a2.2.2.2.2.ffuse) _ f7) (.cons (lmap' (flen (P:=Try.prog) (T:=TT) (t:=47) (l:=5) (e:=57) (s:=2) (xs:=(a9.map Gc)) (x:=(.tmp 229)) (by kernel_rfl))) (.cons (nf c5) (.cons (Kq n k.2 _ i2) (.cons (xb2sD (L:=u.1) (P:=Try.prog) (T:=TT) (src:=42) (dst:=9) (e:=5) (s:=1) (x:=(.tmp 239)) (by kernel_rfl) (by kernel_rfl) (by kernel_rfl)) (.cons (SG n (Gf.mk g.2.2.2.fSectors g.2.2.2.fMark g.2.2.2.fFuse a9) _ i3) (.cons e2 .nil)))))))) q
       ·rw [if_neg e2] at h
        cases h
        exact pkk_sound TTok mix hF 7 (hs:=[.t false,.h [0,1,2,3] [] [.box [.srf 4,.srf 5,.srf 6,di k.2.ffuse],.none,.none,.none,.row 5 1 (k.2.fsafe.map (eI .u8)),.row 5 1 (k.2.fnow.map (eI .u8)),.row 94 2 (k.2.fwait.map Ge)] (di k.1),.c,.e 38 [5] (di (a9.length:Int)) [],.c,.t false,.c,.h [0,13,14,15] [] [.box [.srf 4,.srf 5,.srf 6,di u.2.ffuse],.none,.none,.none,.row 5 1 (u.2.fsafe.map (eI .u8)),.row 5 1 (u.2.fnow.map (eI .u8)),.row 94 2 (u.2.fwait.map Ge)] (.d (.sl (u.1.map (eI .u8)))),.c,.e 88 [] (.d (.v (.string (b2s u.1)))) [],.c,.c,.h [4,5] [] [.box [di a5.2.fSectors,di a5.2.fMark,di a5.2.fFuse,.srf 2],.none,.cu (rowF 57 2 (a5.2.fAll.map Gc)) []] (.d (.v (.string a5.1))),.c,.t false]) (ts:=[]) (s:=[0,83,84,85,4,98,6,7]) (l:=[1,2,9,11,12,13,87,88,89]) (by kernel_rfl) (by kernel_rfl) (.cons (vf c1) (.cons (GW n (Gg.mk f4 f5 f6 a2.2.2.2.2.ffuse) _ f7) (.cons (lmap' (flen (P:=Try.prog) (T:=TT) (t:=47) (l:=5) (e:=57) (s:=2) (xs:=(a9.map Gc)) (x:=(.tmp 229)) (by kernel_rfl))) (.cons (nf c5) (.cons (Kq n k.2 _ i2) (.cons (xb2sD (L:=u.1) (P:=Try.prog) (T:=TT) (src:=42) (dst:=9) (e:=5) (s:=1) (x:=(.tmp 239)) (by kernel_rfl) (by kernel_rfl) (by kernel_rfl)) (.cons (SG n (Gf.mk g.2.2.2.fSectors g.2.2.2.fMark g.2.2.2.fFuse a9) _ i3) (.cons (vf e2) .nil)))))))) q
      ·rw [if_neg c5] at h
       cases h
       exact pkk_sound TTok mix hF 9 (hs:=[.t false,.h [0,1,2,3] [] [.box [.srf 4,.srf 5,.srf 6,di k.2.ffuse],.none,.none,.none,.row 5 1 (k.2.fsafe.map (eI .u8)),.row 5 1 (k.2.fnow.map (eI .u8)),.row 94 2 (k.2.fwait.map Ge)] (di k.1),.c,.e 38 [5] (di (a9.length:Int)) [],.c,.t true,.c,.c,.c,.c,.c,.c]) (ts:=[]) (s:=[]) (l:=[8]) (by kernel_rfl) (by kernel_rfl) (.cons (vf c1) (.cons (GW n (Gg.mk f4 f5 f6 a2.2.2.2.2.ffuse) _ f7) (.cons (lmap' (flen (P:=Try.prog) (T:=TT) (t:=47) (l:=5) (e:=57) (s:=2) (xs:=(a9.map Gc)) (x:=(.tmp 229)) (by kernel_rfl))) (.cons (nt c5) .nil)))) q
    | x1 n2 f8 f9 g0 g1 b0 q6 q7 q8 =>
     try dsimp only at h
     by_cases c2:n2=true
     ·rw [if_pos c2] at h
      cases h
      exact pkk_sound TTok mix hF 6 (hs:=[.t true]) (ts:=[]) (s:=[]) (l:=[8]) (by kernel_rfl) (by kernel_rfl) (.cons c2 .nil) q
     ·rw [if_neg c2] at h
      obtain ⟨m,g2,h⟩:=bind_some h
      by_cases c6:m.1=(wi .i64 ((b0.length:Int)-g.2.2.2.fMark))
      ·rw [if_pos c6] at h
       obtain ⟨w,i4,h⟩:=bind_some h
       obtain ⟨a6,i5,h⟩:=bind_some h
       by_cases e3:(!((b2s w.1).toList == a6.1.toList))=true
       ·rw [if_pos e3] at h
        cases h
        exact pkk_sound TTok mix hF 9 (hs:=[.t false,.h [0,1,2,3] [] [.box [.srf 4,.srf 5,.srf 6,di m.2.ffuse],.none,.none,.none,.row 5 1 (m.2.fsafe.map (eI .u8)),.row 5 1 (m.2.fnow.map (eI .u8)),.row 94 2 (m.2.fwait.map Ge)] (di m.1),.c,.e 38 [5] (di (b0.length:Int)) [],.c,.t false,.c,.h [0,13,14,15] [] [.box [.srf 4,.srf 5,.srf 6,di w.2.ffuse],.none,.none,.none,.row 5 1 (w.2.fsafe.map (eI .u8)),.row 5 1 (w.2.fnow.map (eI .u8)),.row 94 2 (w.2.fwait.map Ge)] (.d (.sl (w.1.map (eI .u8)))),.c,.e 88 [] (.d (.v (.string (b2s w.1)))) [],.c,.c,.h [4,5] [] [.box [di a6.2.fSectors,di a6.2.fMark,di a6.2.fFuse,.srf 2],.none,.cu (rowF 57 2 (a6.2.fAll.map Gc)) []] (.d (.v (.string a6.1))),.c,.t true]) (ts:=[]) (s:=[]) (l:=[8]) (by kernel_rfl) (by kernel_rfl) (.cons (vf c2) (.cons (GW n (Gg.mk f9 g0 g1 f8) _ g2) (.cons (lmap' (flen (P:=Try.prog) (T:=TT) (t:=47) (l:=5) (e:=57) (s:=2) (xs:=(b0.map Gc)) (x:=(.tmp 229)) (by kernel_rfl))) (.cons (nf c6) (.cons (Kq n m.2 _ i4) (.cons (xb2sD (L:=w.1) (P:=Try.prog) (T:=TT) (src:=42) (dst:=9) (e:=5) (s:=1) (x:=(.tmp 239)) (by kernel_rfl) (by kernel_rfl) (by kernel_rfl)) (.cons (SG n (Gf.mk g.2.2.2.fSectors g.2.2.2.fMark g.2.2.2.fFuse b0) _ i5) (.cons e3 .nil)))))))) q
       ·rw [if_neg e3] at h
        cases h
        exact pkk_sound TTok mix hF 7 (hs:=[.t false,.h [0,1,2,3] [] [.box [.srf 4,.srf 5,.srf 6,di m.2.ffuse],.none,.none,.none,.row 5 1 (m.2.fsafe.map (eI .u8)),.row 5 1 (m.2.fnow.map (eI .u8)),.row 94 2 (m.2.fwait.map Ge)] (di m.1),.c,.e 38 [5] (di (b0.length:Int)) [],.c,.t false,.c,.h [0,13,14,15] [] [.box [.srf 4,.srf 5,.srf 6,di w.2.ffuse],.none,.none,.none,.row 5 1 (w.2.fsafe.map (eI .u8)),.row 5 1 (w.2.fnow.map (eI .u8)),.row 94 2 (w.2.fwait.map Ge)] (.d (.sl (w.1.map (eI .u8)))),.c,.e 88 [] (.d (.v (.string (b2s w.1)))) [],.c,.c,.h [4,5] [] [.box [di a6.2.fSectors,di a6.2.fMark,di a6.2.fFuse,.srf 2],.none,.cu (rowF 57 2 (a6.2.fAll.map Gc)) []] (.d (.v (.string a6.1))),.c,.t false]) (ts:=[]) (s:=[0,83,84,85,4,98,6,7]) (l:=[1,2,9,11,12,13,87,88,89]) (by kernel_rfl) (by kernel_rfl) (.cons (vf c2) (.cons (GW n (Gg.mk f9 g0 g1 f8) _ g2) (.cons (lmap' (flen (P:=Try.prog) (T:=TT) (t:=47) (l:=5) (e:=57) (s:=2) (xs:=(b0.map Gc)) (x:=(.tmp 229)) (by kernel_rfl))) (.cons (nf c6) (.cons (Kq n m.2 _ i4) (.cons (xb2sD (L:=w.1) (P:=Try.prog) (T:=TT) (src:=42) (dst:=9) (e:=5) (s:=1) (x:=(.tmp 239)) (by kernel_rfl) (by kernel_rfl) (by kernel_rfl)) (.cons (SG n (Gf.mk g.2.2.2.fSectors g.2.2.2.fMark g.2.2.2.fFuse b0) _ i5) (.cons (vf e3) .nil)))))))) q
      ·rw [if_neg c6] at h
       cases h
       exact pkk_sound TTok mix hF 9 (hs:=[.t false,.h [0,1,2,3] [] [.box [.srf 4,.srf 5,.srf 6,di m.2.ffuse],.none,.none,.none,.row 5 1 (m.2.fsafe.map (eI .u8)),.row 5 1 (m.2.fnow.map (eI .u8)),.row 94 2 (m.2.fwait.map Ge)] (di m.1),.c,.e 38 [5] (di (b0.length:Int)) [],.c,.t true,.c,.c,.c,.c,.c,.c]) (ts:=[]) (s:=[]) (l:=[8]) (by kernel_rfl) (by kernel_rfl) (.cons (vf c2) (.cons (GW n (Gg.mk f9 g0 g1 f8) _ g2) (.cons (lmap' (flen (P:=Try.prog) (T:=TT) (t:=47) (l:=5) (e:=57) (s:=2) (xs:=(b0.map Gc)) (x:=(.tmp 229)) (by kernel_rfl))) (.cons (nt c6) .nil)))) q
inductive ZA where
 | x0 (a:Bool)
 | x1 
def JT:ZA→Ex
 | .x0 _=>.ret
 | .x1  => .exit 0
def JU (b c:Int) (e:(List Gk)):ZA→PS
 | .x0 a=>⟨(dds 8 (.d (.v (.bool a))::(dds 237 []))),[]⟩
 | .x1  => ⟨(dds 246 []),[]⟩
def JV (b c:Int) (a:(List Gk)) (e f:Int) (g h:(List Int)) (i:(List Gi)) (j k l:Int) (m:(List Gd)) (n o p q r s:Int):PS:=⟨(dd::di b::di c::dd::dd::dd::dd::dd::dd::.ref 0 0::dd::.ref 4 0::.ref 6 0::.ref 7 0::(dds 73 (.d (.sl (a.map Gn))::di (a.length:Int)::di e::(dds 156 [])))),[.box [.srf 1,.srf 2,.srf 3,di f],.row 5 1 (g.map (eI .u8)),.row 5 1 (h.map (eI .u8)),.row 94 2 (i.map Ge),.box [di j,di k,di l,.srf 5],.cu (rowF 57 2 (m.map Gc)) [],.box [.ref 0 0,di n,di o,.d (.v (.int .u32 p))],.box [.ref 4 0,di q,di r,.d (.v (.int .u32 s))]]⟩
def GI (n:Nat) (c d:Int) (a:(List Gk)):Nat→Int→Int→(List Int)→(List Int)→(List Gi)→Int→Int→Int→(List Gd)→Int→Int→Int→Int→Int→Int→Option ZA
 | 0,_,_,_,_,_,_,_,_,_,_,_,_,_,_,_=>none
 | k+1,b,l,m,o,p,q,r,s,t,h,i,j,e,f,g =>
  if b<(a.length:Int) then
   (S6 n c d a b l m o p q r s t h i j e f g).bind fun u=>match u with
   | .x0 v =>
    some (.x0 v)
   | .x1 w x y z a0 a1 a2 a3 a4 a5 a6 a7 a8 a9 =>
    GI n c d a k (wi .i64 (b+1)) w x y z a0 a1 a2 a3 a4 a5 a6 a7 a8 a9
   | .x2 b0 b1 b2 b3 b4 b5 b6 b7 =>
    GI n c d a k (wi .i64 (b+1)) b0 b1 b2 b3 b4 b5 b6 b7 h i j e f g
   | .x3 b8 b9 c0 c1 c2 c3 c4 c5 c6 c7 c8 =>
    GI n c d a k (wi .i64 (b+1)) b8 b9 c0 c1 c2 c3 c4 c5 c6 c7 c8 e f g
  else
   some (.x1 )
theorem Zr {Fi:Ex→PS→Prop} (hF:KC 246 Fi) (ks:List Fr) (n:Nat) (c d:Int) (b:(List Gk))  : ∀ (k:Nat) (a p:Int) (r u:(List Int)) (v:(List Gi)) (w x y:Int) (z:(List Gd)) (i j m e f g:Int) (o:ZA),GI n c d b k a p r u v w x y z i j m e f g=some o→RunE Try.prog 246 Fi ks (JT o) (JU c d b o)→RunE Try.prog 246 Fi (.l k (cP (cB (cR (cL (cR (cR (cR (cR (cR (cR (cR (cR (cR (cR (bodyOf Try.f3)))))))))))))))::ks) .normal (JV c d b a p r u v w x y z i j m e f g)
 | 0,a,p,r,u,v,w,x,y,z,i,j,m,e,f,g,o,h,q=>by rw [GI] at h; cases h
 | k+1,a,p,r,u,v,w,x,y,z,i,j,m,e,f,g,o,h,q=>by
  rw [GI] at h
  by_cases a0:a<(b.length:Int)
  ·rw [if_pos a0] at h
   obtain ⟨a1,a2,h⟩:=bind_some h
   refine pkk_sound TTok mix hF 7 (hs:=[.t true]) (ts:=[]) (s:=[0,1,2,3,4,5,6,7]) (l:=[1,2,9,11,12,13,87,88,89]) (by kernel_rfl) (by kernel_rfl) (.cons (dt a0) .nil) (JS hF (.s (cR (cR (cR (cP (cB (cR (cL (cR (cR (cR (cR (cR (cR (cR (cR (cR (cR (bodyOf Try.f3))))))))))))))))))::.l k (cP (cB (cR (cL (cR (cR (cR (cR (cR (cR (cR (cR (cR (cR (bodyOf Try.f3)))))))))))))))::ks) n c d b a p r u v w x y z i j m e f g _ a2 ?_)
   cases a1 with
   | x0 d6 =>
    try dsimp only at h
    cases h
    exact pkk_sound TTok mix hF 2 (hs:=[]) (ts:=[]) (s:=[]) (l:=[8]) (by kernel_rfl) (by kernel_rfl) .nil q
   | x1 a3 a4 a5 a6 a7 a8 a9 b0 b1 b2 b3 b4 b5 b6 =>
    try dsimp only at h
    exact pkk_sound TTok mix hF 1 (hs:=[]) (ts:=[]) (s:=[0,1,2,3,4,5,6,7]) (l:=[1,2,9,11,12,13,87,88,89]) (by kernel_rfl) (by kernel_rfl) .nil (Zr hF ks n c d b k (wi .i64 (a+1)) a3 a4 a5 a6 a7 a8 a9 b0 b1 b2 b3 b4 b5 b6 _ h q)
   | x2 b7 b8 b9 c0 c1 c2 c3 c4 =>
    try dsimp only at h
    exact pkk_sound TTok mix hF 1 (hs:=[]) (ts:=[]) (s:=[0,1,2,3,4,5,6,7]) (l:=[1,2,9,11,12,13,87,88,89]) (by kernel_rfl) (by kernel_rfl) .nil (Zr hF ks n c d b k (wi .i64 (a+1)) b7 b8 b9 c0 c1 c2 c3 c4 i j m e f g _ h q)
   | x3 c5 c6 c7 c8 c9 d0 d1 d2 d3 d4 d5 =>
    try dsimp only at h
    exact pkk_sound TTok mix hF 1 (hs:=[]) (ts:=[]) (s:=[0,1,2,3,4,5,6,7]) (l:=[1,2,9,11,12,13,87,88,89]) (by kernel_rfl) (by kernel_rfl) .nil (Zr hF ks n c d b k (wi .i64 (a+1)) c5 c6 c7 c8 c9 d0 d1 d2 d3 d4 d5 e f g _ h q)
  ·rw [if_neg a0] at h
   cases h
   exact pkk_sound TTok mix hF 8 (hs:=[.t false]) (ts:=[]) (s:=[]) (l:=[]) (by kernel_rfl) (by kernel_rfl) (.cons (df a0) .nil) q
/- ringhall/ringlaw3.JournalPlays -/
def Z4 (n:Nat) (l a b:Int) (h:(List Gk)):Option (Bool) :=
 (XK n h).bind fun (o:(Bool)) =>
 if o=true then
  (Js n (wi .i64 (16+(wi .i64 (remI (wi .u64 l) 40))))).bind fun (p:(Option Gg)×Int)=>match p with
  | (none,i) =>
   if i=0 then
    some false
   else
    some false
  | (some q,i) =>
   if i=0 then
    (XC n (wi .i64 (16+(wi .i64 (remI (wi .u64 l) 40))))).bind fun (m:(Gf)) =>
    (Yn n q a b).bind fun (r:(Option Gp)×Int×Gg)=>match r with
    | (none,c,e) =>
     (KY n m a b).bind fun (s:(Option Gt)×Int×Gf)=>match s with
     | (none,j,t) =>
      if c=j then
       (Ss n e a b).bind fun (u:((List Gh)×Int×Bool×Int×Gg)) =>
       some (u.2.2.2.1 == 1)
      else
       some false
     | (some a4,j,t) =>
      if c=j then
       some false
      else
       some false
    | (some f,c,e) =>
     (KY n m a b).bind fun (v:(Option Gt)×Int×Gf)=>match v with
     | (none,k,d) =>
      if c=k then
       some false
      else
       some false
     | (some g,k,d) =>
      (Yl n a b h c k e d f g).bind fun w=>match w with
      | .x0 x y z a0 a1 =>
        if x=true then
         some false
        else
         (GI n a b h n 0 e.ffuse y z a0 d.fSectors d.fMark d.fFuse a1 f.fat f.fsize f.fseq g.fAt g.fSize g.fSeq).bind fun a2=>match a2 with
         | .x0 a3 =>
          some a3
         | .x1  =>
          some true
   else
    some false
 else
  some true
theorem MY (n:Nat) (j k m:Int) (o:(List Gk)) (r:Bool) (h:Z4 n j k m o=some r):Ret Try.prog 3 [(eI .i64) j,(eI .i64) k,(eI .i64) m,(eL Gn) o] (eB r):=by
 refine ret_run (n:=246) (fn:=Try.f3) (c:=bodyOf Try.f3) (by kernel_rfl) (by kernel_rfl) (by kernel_rfl) (by kernel_rfl) ?_
 have hF:KC 246 (FinR Try.prog Try.f3 (eB r)):=FinR.kc' (by kernel_rfl)
 unfold Z4 at h
 obtain ⟨a2,a4,h⟩:=bind_some h
 by_cases w:a2=true
 ·rw [if_pos w] at h
  obtain ⟨c0,z,h⟩:=bind_some h
  match c0,z,h with
  | (none,a0),z,h =>
   try dsimp only at h
   by_cases b5:a0=0
   ·rw [if_pos b5] at h
    obtain rfl:=Option.some.inj h
    exact pend_sound TTok mix 19 (hs:=[.r (eB a2),.t false,.h [] [] [] (.tup [.d (.v (.pointer none)),di a0]),.t false,.c,.e 105 [] (.d (.v (.bool true))) [],.c]) (by kernel_rfl) (by kernel_rfl) (by kernel_rfl) (.cons (show (40:Int)≠0 by decide) (.cons (Kg n o _ a4) (.cons (bnf w) (.cons (K0 n (wi .i64 (16+(wi .i64 (remI (wi .u64 j) 40)))) _ z) (.cons (nf b5) (.cons (xnilN (P:=Try.prog) (T:=TT) (op:=.eql) (t:=25) (e:=73) (ty':=25) (x:=(.tmp 45)) (y:=(.const (.pointer none))) rfl (by kernel_rfl)) .nil))))))
   ·rw [if_neg b5] at h
    obtain rfl:=Option.some.inj h
    exact pend_sound TTok mix 19 (hs:=[.r (eB a2),.t false,.h [] [] [] (.tup [.d (.v (.pointer none)),di a0]),.t true,.c,.c]) (by kernel_rfl) (by kernel_rfl) (by kernel_rfl) (.cons (show (40:Int)≠0 by decide) (.cons (Kg n o _ a4) (.cons (bnf w) (.cons (K0 n (wi .i64 (16+(wi .i64 (remI (wi .u64 j) 40)))) _ z) (.cons (nt b5) .nil)))))
  | (some a,a0),z,h =>
   try dsimp only at h
   by_cases a5:a0=0
   ·rw [if_pos a5] at h
    obtain ⟨g,a8,h⟩:=bind_some h
    obtain ⟨c1,a6,h⟩:=bind_some h
    match c1,a6,h with
    | (none,a3,i),a6,h =>
     try dsimp only at h
     obtain ⟨c2,a9,h⟩:=bind_some h
     match c2,a9,h with
     | (none,b0,p),a9,h =>
      try dsimp only at h
      by_cases b6:a3=b0
      ·rw [if_pos b6] at h
       obtain ⟨a7,c3,h⟩:=bind_some h
       obtain rfl:=Option.some.inj h
       exact pend_sound TTok mix 37 (hs:=[.r (eB a2),.t false,.h [] [] [.box [.srf 1,.srf 2,.srf 3,di a.ffuse],.row 5 1 (a.fsafe.map (eI .u8)),.row 5 1 (a.fnow.map (eI .u8)),.row 94 2 (a.fwait.map Ge)] (.tup [.ref 0 0,di a0]),.t false,.c,.e 105 [] (.d (.v (.bool false))) [],.c,.h [] [] [.box [di g.fSectors,di g.fMark,di g.fFuse,.srf 1],.cu (rowF 57 2 (g.fAll.map Gc)) []] (.ref 0 0),.h [55,56,57,58] [] [.box [.srf 4,.srf 5,.srf 6,di i.ffuse],.none,.none,.none,.row 5 1 (i.fsafe.map (eI .u8)),.row 5 1 (i.fnow.map (eI .u8)),.row 94 2 (i.fwait.map Ge)] (.tup [.d (.v (.pointer none)),di a3]),.h [120,121] [] [.box [di p.fSectors,di p.fMark,di p.fFuse,.srf 2],.none,.cu (rowF 57 2 (p.fAll.map Gc)) []] (.tup [.d (.v (.pointer none)),di b0]),.t false,.c,.e 245 [] (.d (.v (.bool false))) [],.c,.c,.e 255 [] (.d (.v (.bool false))) [],.c,.c,.e 275 [] (.d (.v (.bool true))) [],.c,.h [55,145,146,147] [] [.box [.srf 4,.srf 5,.srf 6,di a7.2.2.2.2.ffuse],.none,.none,.none,.row 5 1 (a7.2.2.2.2.fsafe.map (eI .u8)),.row 5 1 (a7.2.2.2.2.fnow.map (eI .u8)),.row 94 2 (a7.2.2.2.2.fwait.map Ge)] (.tup [.d (.sl (a7.1.map Gl)),.d (.v (.int .u32 a7.2.1)),.d (.v (.bool a7.2.2.1)),di a7.2.2.2.1])]) (by kernel_rfl) (by kernel_rfl) (by kernel_rfl) (.cons (show (40:Int)≠0 by decide) (.cons (Kg n o _ a4) (.cons (bnf w) (.cons (K0 n (wi .i64 (16+(wi .i64 (remI (wi .u64 j) 40)))) _ z) (.cons (nf a5) (.cons (xnilP (P:=Try.prog) (T:=TT) (op:=.eql) (t:=25) (e:=73) (ty':=25) (x:=(.tmp 45)) (y:=(.const (.pointer none))) (l:=55) (off:=0) rfl (by kernel_rfl)) (.cons (KE n (wi .i64 (16+(wi .i64 (remI (wi .u64 j) 40)))) _ a8) (.cons (SK n a k m _ a6) (.cons (St n g k m _ a9) (.cons (nf b6) (.cons (xnilN (P:=Try.prog) (T:=TT) (op:=.neq) (t:=31) (e:=75) (ty':=31) (x:=(.tmp 68)) (y:=(.const (.pointer none))) rfl (by kernel_rfl)) (.cons (xnilN (P:=Try.prog) (T:=TT) (op:=.neq) (t:=34) (e:=62) (ty':=34) (x:=(.tmp 70)) (y:=(.const (.pointer none))) rfl (by kernel_rfl)) (.cons (xnilN (P:=Try.prog) (T:=TT) (op:=.eql) (t:=31) (e:=75) (ty':=31) (x:=(.tmp 74)) (y:=(.const (.pointer none))) rfl (by kernel_rfl)) (.cons (Yb n i k m _ c3) .nil))))))))))))))
      ·rw [if_neg b6] at h
       obtain rfl:=Option.some.inj h
       exact pend_sound TTok mix 30 (hs:=[.r (eB a2),.t false,.h [] [] [.box [.srf 1,.srf 2,.srf 3,di a.ffuse],.row 5 1 (a.fsafe.map (eI .u8)),.row 5 1 (a.fnow.map (eI .u8)),.row 94 2 (a.fwait.map Ge)] (.tup [.ref 0 0,di a0]),.t false,.c,.e 105 [] (.d (.v (.bool false))) [],.c,.h [] [] [.box [di g.fSectors,di g.fMark,di g.fFuse,.srf 1],.cu (rowF 57 2 (g.fAll.map Gc)) []] (.ref 0 0),.h [55,56,57,58] [] [.box [.srf 4,.srf 5,.srf 6,di i.ffuse],.none,.none,.none,.row 5 1 (i.fsafe.map (eI .u8)),.row 5 1 (i.fnow.map (eI .u8)),.row 94 2 (i.fwait.map Ge)] (.tup [.d (.v (.pointer none)),di a3]),.h [120,121] [] [.box [di p.fSectors,di p.fMark,di p.fFuse,.srf 2],.none,.cu (rowF 57 2 (p.fAll.map Gc)) []] (.tup [.d (.v (.pointer none)),di b0]),.t true,.c,.c,.c,.c,.c]) (by kernel_rfl) (by kernel_rfl) (by kernel_rfl) (.cons (show (40:Int)≠0 by decide) (.cons (Kg n o _ a4) (.cons (bnf w) (.cons (K0 n (wi .i64 (16+(wi .i64 (remI (wi .u64 j) 40)))) _ z) (.cons (nf a5) (.cons (xnilP (P:=Try.prog) (T:=TT) (op:=.eql) (t:=25) (e:=73) (ty':=25) (x:=(.tmp 45)) (y:=(.const (.pointer none))) (l:=55) (off:=0) rfl (by kernel_rfl)) (.cons (KE n (wi .i64 (16+(wi .i64 (remI (wi .u64 j) 40)))) _ a8) (.cons (SK n a k m _ a6) (.cons (St n g k m _ a9) (.cons (nt b6) .nil))))))))))
     | (some b2,b0,p),a9,h =>
      try dsimp only at h
      by_cases b7:a3=b0
      ·rw [if_pos b7] at h
       obtain rfl:=Option.some.inj h
       exact pend_sound TTok mix 30 (hs:=[.r (eB a2),.t false,.h [] [] [.box [.srf 1,.srf 2,.srf 3,di a.ffuse],.row 5 1 (a.fsafe.map (eI .u8)),.row 5 1 (a.fnow.map (eI .u8)),.row 94 2 (a.fwait.map Ge)] (.tup [.ref 0 0,di a0]),.t false,.c,.e 105 [] (.d (.v (.bool false))) [],.c,.h [] [] [.box [di g.fSectors,di g.fMark,di g.fFuse,.srf 1],.cu (rowF 57 2 (g.fAll.map Gc)) []] (.ref 0 0),.h [55,56,57,58] [] [.box [.srf 4,.srf 5,.srf 6,di i.ffuse],.none,.none,.none,.row 5 1 (i.fsafe.map (eI .u8)),.row 5 1 (i.fnow.map (eI .u8)),.row 94 2 (i.fwait.map Ge)] (.tup [.d (.v (.pointer none)),di a3]),.h [120,121] [] [.box [di p.fSectors,di p.fMark,di p.fFuse,.srf 2],.none,.cu (rowF 57 2 (p.fAll.map Gc)) [],.box [.ref 0 0,di b2.fAt,di b2.fSize,.d (.v (.int .u32 b2.fSeq))]] (.tup [.ref 3 0,di b0]),.t false,.c,.e 245 [] (.d (.v (.bool false))) [],.c,.c,.e 255 [] (.d (.v (.bool true))) [],.c,.c]) (by kernel_rfl) (by kernel_rfl) (by kernel_rfl) (.cons (show (40:Int)≠0 by decide) (.cons (Kg n o _ a4) (.cons (bnf w) (.cons (K0 n (wi .i64 (16+(wi .i64 (remI (wi .u64 j) 40)))) _ z) (.cons (nf a5) (.cons (xnilP (P:=Try.prog) (T:=TT) (op:=.eql) (t:=25) (e:=73) (ty':=25) (x:=(.tmp 45)) (y:=(.const (.pointer none))) (l:=55) (off:=0) rfl (by kernel_rfl)) (.cons (KE n (wi .i64 (16+(wi .i64 (remI (wi .u64 j) 40)))) _ a8) (.cons (SK n a k m _ a6) (.cons (St n g k m _ a9) (.cons (nf b7) (.cons (xnilN (P:=Try.prog) (T:=TT) (op:=.neq) (t:=31) (e:=75) (ty':=31) (x:=(.tmp 68)) (y:=(.const (.pointer none))) rfl (by kernel_rfl)) (.cons (xnilP (P:=Try.prog) (T:=TT) (op:=.neq) (t:=34) (e:=62) (ty':=34) (x:=(.tmp 70)) (y:=(.const (.pointer none))) (l:=191) (off:=0) rfl (by kernel_rfl)) .nil))))))))))))
      ·rw [if_neg b7] at h
       obtain rfl:=Option.some.inj h
       exact pend_sound TTok mix 30 (hs:=[.r (eB a2),.t false,.h [] [] [.box [.srf 1,.srf 2,.srf 3,di a.ffuse],.row 5 1 (a.fsafe.map (eI .u8)),.row 5 1 (a.fnow.map (eI .u8)),.row 94 2 (a.fwait.map Ge)] (.tup [.ref 0 0,di a0]),.t false,.c,.e 105 [] (.d (.v (.bool false))) [],.c,.h [] [] [.box [di g.fSectors,di g.fMark,di g.fFuse,.srf 1],.cu (rowF 57 2 (g.fAll.map Gc)) []] (.ref 0 0),.h [55,56,57,58] [] [.box [.srf 4,.srf 5,.srf 6,di i.ffuse],.none,.none,.none,.row 5 1 (i.fsafe.map (eI .u8)),.row 5 1 (i.fnow.map (eI .u8)),.row 94 2 (i.fwait.map Ge)] (.tup [.d (.v (.pointer none)),di a3]),.h [120,121] [] [.box [di p.fSectors,di p.fMark,di p.fFuse,.srf 2],.none,.cu (rowF 57 2 (p.fAll.map Gc)) [],.box [.ref 0 0,di b2.fAt,di b2.fSize,.d (.v (.int .u32 b2.fSeq))]] (.tup [.ref 3 0,di b0]),.t true,.c,.c,.c,.c,.c]) (by kernel_rfl) (by kernel_rfl) (by kernel_rfl) (.cons (show (40:Int)≠0 by decide) (.cons (Kg n o _ a4) (.cons (bnf w) (.cons (K0 n (wi .i64 (16+(wi .i64 (remI (wi .u64 j) 40)))) _ z) (.cons (nf a5) (.cons (xnilP (P:=Try.prog) (T:=TT) (op:=.eql) (t:=25) (e:=73) (ty':=25) (x:=(.tmp 45)) (y:=(.const (.pointer none))) (l:=55) (off:=0) rfl (by kernel_rfl)) (.cons (KE n (wi .i64 (16+(wi .i64 (remI (wi .u64 j) 40)))) _ a8) (.cons (SK n a k m _ a6) (.cons (St n g k m _ a9) (.cons (nt b7) .nil))))))))))
    | (some a1,a3,i),a6,h =>
     try dsimp only at h
     obtain ⟨c4,b3,h⟩:=bind_some h
     match c4,b3,h with
     | (none,b4,q),b3,h =>
      try dsimp only at h
      by_cases b8:a3=b4
      ·rw [if_pos b8] at h
       obtain rfl:=Option.some.inj h
       exact pend_sound TTok mix 30 (hs:=[.r (eB a2),.t false,.h [] [] [.box [.srf 1,.srf 2,.srf 3,di a.ffuse],.row 5 1 (a.fsafe.map (eI .u8)),.row 5 1 (a.fnow.map (eI .u8)),.row 94 2 (a.fwait.map Ge)] (.tup [.ref 0 0,di a0]),.t false,.c,.e 105 [] (.d (.v (.bool false))) [],.c,.h [] [] [.box [di g.fSectors,di g.fMark,di g.fFuse,.srf 1],.cu (rowF 57 2 (g.fAll.map Gc)) []] (.ref 0 0),.h [55,56,57,58] [] [.box [.srf 4,.srf 5,.srf 6,di i.ffuse],.none,.none,.none,.row 5 1 (i.fsafe.map (eI .u8)),.row 5 1 (i.fnow.map (eI .u8)),.row 94 2 (i.fwait.map Ge),.box [.ref 0 0,di a1.fat,di a1.fsize,.d (.v (.int .u32 a1.fseq))]] (.tup [.ref 7 0,di a3]),.h [120,121] [] [.box [di q.fSectors,di q.fMark,di q.fFuse,.srf 2],.none,.cu (rowF 57 2 (q.fAll.map Gc)) []] (.tup [.d (.v (.pointer none)),di b4]),.t false,.c,.e 245 [] (.d (.v (.bool true))) [],.c,.c,.e 255 [] (.d (.v (.bool false))) [],.c,.c]) (by kernel_rfl) (by kernel_rfl) (by kernel_rfl) (.cons (show (40:Int)≠0 by decide) (.cons (Kg n o _ a4) (.cons (bnf w) (.cons (K0 n (wi .i64 (16+(wi .i64 (remI (wi .u64 j) 40)))) _ z) (.cons (nf a5) (.cons (xnilP (P:=Try.prog) (T:=TT) (op:=.eql) (t:=25) (e:=73) (ty':=25) (x:=(.tmp 45)) (y:=(.const (.pointer none))) (l:=55) (off:=0) rfl (by kernel_rfl)) (.cons (KE n (wi .i64 (16+(wi .i64 (remI (wi .u64 j) 40)))) _ a8) (.cons (SK n a k m _ a6) (.cons (St n g k m _ b3) (.cons (nf b8) (.cons (xnilP (P:=Try.prog) (T:=TT) (op:=.neq) (t:=31) (e:=75) (ty':=31) (x:=(.tmp 68)) (y:=(.const (.pointer none))) (l:=148) (off:=0) rfl (by kernel_rfl)) (.cons (xnilN (P:=Try.prog) (T:=TT) (op:=.neq) (t:=34) (e:=62) (ty':=34) (x:=(.tmp 70)) (y:=(.const (.pointer none))) rfl (by kernel_rfl)) .nil))))))))))))
      ·rw [if_neg b8] at h
       obtain rfl:=Option.some.inj h
       exact pend_sound TTok mix 30 (hs:=[.r (eB a2),.t false,.h [] [] [.box [.srf 1,.srf 2,.srf 3,di a.ffuse],.row 5 1 (a.fsafe.map (eI .u8)),.row 5 1 (a.fnow.map (eI .u8)),.row 94 2 (a.fwait.map Ge)] (.tup [.ref 0 0,di a0]),.t false,.c,.e 105 [] (.d (.v (.bool false))) [],.c,.h [] [] [.box [di g.fSectors,di g.fMark,di g.fFuse,.srf 1],.cu (rowF 57 2 (g.fAll.map Gc)) []] (.ref 0 0),.h [55,56,57,58] [] [.box [.srf 4,.srf 5,.srf 6,di i.ffuse],.none,.none,.none,.row 5 1 (i.fsafe.map (eI .u8)),.row 5 1 (i.fnow.map (eI .u8)),.row 94 2 (i.fwait.map Ge),.box [.ref 0 0,di a1.fat,di a1.fsize,.d (.v (.int .u32 a1.fseq))]] (.tup [.ref 7 0,di a3]),.h [120,121] [] [.box [di q.fSectors,di q.fMark,di q.fFuse,.srf 2],.none,.cu (rowF 57 2 (q.fAll.map Gc)) []] (.tup [.d (.v (.pointer none)),di b4]),.t true,.c,.c,.c,.c,.c]) (by kernel_rfl) (by kernel_rfl) (by kernel_rfl) (.cons (show (40:Int)≠0 by decide) (.cons (Kg n o _ a4) (.cons (bnf w) (.cons (K0 n (wi .i64 (16+(wi .i64 (remI (wi .u64 j) 40)))) _ z) (.cons (nf a5) (.cons (xnilP (P:=Try.prog) (T:=TT) (op:=.eql) (t:=25) (e:=73) (ty':=25) (x:=(.tmp 45)) (y:=(.const (.pointer none))) (l:=55) (off:=0) rfl (by kernel_rfl)) (.cons (KE n (wi .i64 (16+(wi .i64 (remI (wi .u64 j) 40)))) _ a8) (.cons (SK n a k m _ a6) (.cons (St n g k m _ b3) (.cons (nt b8) .nil))))))))))
     | (some b1,b4,q),b3,h =>
      try dsimp only at h
      obtain ⟨c5,c6,h⟩:=bind_some h
      refine pkk_sound TTok mix hF 24 (hs:=[.r (eB a2),.t false,.h [] [] [.box [.srf 1,.srf 2,.srf 3,di a.ffuse],.row 5 1 (a.fsafe.map (eI .u8)),.row 5 1 (a.fnow.map (eI .u8)),.row 94 2 (a.fwait.map Ge)] (.tup [.ref 0 0,di a0]),.t false,.c,.e 105 [] (.d (.v (.bool false))) [],.c,.h [] [] [.box [di g.fSectors,di g.fMark,di g.fFuse,.srf 1],.cu (rowF 57 2 (g.fAll.map Gc)) []] (.ref 0 0),.h [55,56,57,58] [] [.box [.srf 4,.srf 5,.srf 6,di i.ffuse],.none,.none,.none,.row 5 1 (i.fsafe.map (eI .u8)),.row 5 1 (i.fnow.map (eI .u8)),.row 94 2 (i.fwait.map Ge),.box [.ref 0 0,di a1.fat,di a1.fsize,.d (.v (.int .u32 a1.fseq))]] (.tup [.ref 7 0,di a3]),.h [120,121] [] [.box [di q.fSectors,di q.fMark,di q.fFuse,.srf 2],.none,.cu (rowF 57 2 (q.fAll.map Gc)) [],.box [.ref 0 0,di b1.fAt,di b1.fSize,.d (.v (.int .u32 b1.fSeq))]] (.tup [.ref 3 0,di b4])]) (ts:=[]) (s:=[55,145,146,147,120,190,148,191]) (l:=[1,2,3,9,10,11,12,13,14]) (by kernel_rfl) (by kernel_rfl) (.cons (show (40:Int)≠0 by decide) (.cons (Kg n o _ a4) (.cons (bnf w) (.cons (K0 n (wi .i64 (16+(wi .i64 (remI (wi .u64 j) 40)))) _ z) (.cons (nf a5) (.cons (xnilP (P:=Try.prog) (T:=TT) (op:=.eql) (t:=25) (e:=73) (ty':=25) (x:=(.tmp 45)) (y:=(.const (.pointer none))) (l:=55) (off:=0) rfl (by kernel_rfl)) (.cons (KE n (wi .i64 (16+(wi .i64 (remI (wi .u64 j) 40)))) _ a8) (.cons (SK n a k m _ a6) (.cons (St n g k m _ b3) .nil))))))))) (Mz hF (.s (cR (cL (cR (cR (cR (cR (cR (cR (cR (cR (bodyOf Try.f3)))))))))))::.s (cR (cR (cR (cR (cR (cR (cR (cR (cR (bodyOf Try.f3))))))))))::[]) n k m o a3 b4 i q a1 b1 _ c6 ?_)
      cases c5 with
      | x0 c7 c8 c9 d0 d1 =>
       try dsimp only at h
       by_cases b9:c7=true
       ·rw [if_pos b9] at h
        obtain rfl:=Option.some.inj h
        exact pend_sound TTok mix 5 (hs:=[.t true]) (by kernel_rfl) (by kernel_rfl) (by kernel_rfl) (.cons b9 .nil)
       ·rw [if_neg b9] at h
        obtain ⟨d2,d3,h⟩:=bind_some h
        refine pkk_sound TTok mix hF 12 (hs:=[.t false,.e 13 [] (.d (.v (.bool false))) [],.c,.u (di (o.length:Int)),.n n]) (ts:=[]) (s:=[0,1,2,3,4,5,6,7]) (l:=[1,2,9,11,12,13,87,88,89]) (by kernel_rfl) (by kernel_rfl) (.cons (vf b9) (.cons (xnilP (P:=Try.prog) (T:=TT) (op:=.eql) (t:=31) (e:=75) (ty':=31) (x:=(.tmp 74)) (y:=(.const (.pointer none))) (l:=6) (off:=0) rfl (by kernel_rfl)) (.cons (len_ob (f:=Gn) (l:=o)) .nil))) (Zr hF (.b 0::.s (cR (cR (cR (cR (cR (cR (cR (cR (cR (cR (cR (bodyOf Try.f3))))))))))))::[]) n k m o n 0 i.ffuse c8 c9 d0 q.fSectors q.fMark q.fFuse d1 a1.fat a1.fsize a1.fseq b1.fAt b1.fSize b1.fSeq _ d3 ?_)
        cases d2 with
        | x0 d4 =>
         try dsimp only at h
         obtain rfl:=Option.some.inj h
         exact pend_sound TTok mix 2 (hs:=[]) (by kernel_rfl) (by kernel_rfl) (by kernel_rfl) .nil
        | x1  =>
         try dsimp only at h
         obtain rfl:=Option.some.inj h
         exact pend_sound TTok mix 4 (hs:=[]) (by kernel_rfl) (by kernel_rfl) (by kernel_rfl) .nil
   ·rw [if_neg a5] at h
    obtain rfl:=Option.some.inj h
    exact pend_sound TTok mix 19 (hs:=[.r (eB a2),.t false,.h [] [] [.box [.srf 1,.srf 2,.srf 3,di a.ffuse],.row 5 1 (a.fsafe.map (eI .u8)),.row 5 1 (a.fnow.map (eI .u8)),.row 94 2 (a.fwait.map Ge)] (.tup [.ref 0 0,di a0]),.t true,.c,.c]) (by kernel_rfl) (by kernel_rfl) (by kernel_rfl) (.cons (show (40:Int)≠0 by decide) (.cons (Kg n o _ a4) (.cons (bnf w) (.cons (K0 n (wi .i64 (16+(wi .i64 (remI (wi .u64 j) 40)))) _ z) (.cons (nt a5) .nil)))))
 ·rw [if_neg w] at h
  obtain rfl:=Option.some.inj h
  exact pend_sound TTok mix 12 (hs:=[.r (eB a2),.t true]) (by kernel_rfl) (by kernel_rfl) (by kernel_rfl) (.cons (show (40:Int)≠0 by decide) (.cons (Kg n o _ a4) (.cons (bnt (vf w)) .nil)))
def Je (x:Gh):Prop:=(fun a=>(Lit.int .i64 a).wf=true) x.fSector∧(okL 1 (fun a=>(Lit.int .u8 a).wf=true)) x.fData∧True
theorem Gcc:Br (.pair (.int .i64) (.pair (.slice 1 (.int .u8)) .unit)) (fun x:Gh=>[.v (.int .i64 x.fSector),.sl (x.fData.map (eI .u8))]) Je:=br_map (br_pair (br_int .i64) (br_pair (br_slice (f:=(eI .u8)) (ok:=(fun a=>(Lit.int .u8 a).wf=true)) (br_int .u8) (fun _=>rfl) (by decide)) br_unit)) (fun p=>Gh.mk p.1 p.2.1) (fun p h=>⟨rfl,h⟩)
def UG (x:Gk):Prop:=(fun a=>(Lit.int .i64 a).wf=true) x.fKind∧(fun a=>(Lit.int .i64 a).wf=true) x.fN∧(okL 32 Je) x.fWrites∧(okL 1 (fun _=>True)) x.fKept∧(okL 1 (fun a=>(Lit.int .u8 a).wf=true)) x.fRaw∧True
theorem Gcd:Br (.pair (.int .i64) (.pair (.int .i64) (.pair (.slice 32 (.pair (.int .i64) (.pair (.slice 1 (.int .u8)) .unit))) (.pair (.slice 1 .bool) (.pair (.slice 1 (.int .u8)) .unit))))) (fun x:Gk=>[.v (.int .i64 x.fKind),.v (.int .i64 x.fN),.sl (x.fWrites.map Gl),.sl (x.fKept.map eB),.sl (x.fRaw.map (eI .u8))]) UG:=br_map (br_pair (br_int .i64) (br_pair (br_int .i64) (br_pair (br_slice (f:=Gl) (ok:=Je) Gcc (fun _=>rfl) (by decide)) (br_pair (br_slice (f:=eB) (ok:=(fun _=>True)) br_bool (fun _=>rfl) (by decide)) (br_pair (br_slice (f:=(eI .u8)) (ok:=(fun a=>(Lit.int .u8 a).wf=true)) (br_int .u8) (fun _=>rfl) (by decide)) br_unit))))) (fun p=>Gk.mk p.1 p.2.1 p.2.2.1 p.2.2.2.1 p.2.2.2.2.1) (fun p h=>⟨rfl,h⟩)
theorem JournalPlays_walk (H:∀ (a0:Int) (a1:Int) (a2:Int) (a3:(List Gk)),(fun a=>(Lit.int .i64 a).wf=true) a0→(fun a=>(Lit.int .i64 a).wf=true) a1→(fun a=>(Lit.int .i64 a).wf=true) a2→(okL 88 UG) a3→∃ n,Z4 n a0 a1 a2 a3=some true) (w:World) (v0 v1 v2 v3:Value) (b:rep.Arg w (.int .i64) v0) (c:rep.Arg w (.int .i64) v1) (d:rep.Arg w (.int .i64) v2) (e:rep.Arg w (.slice 88 (.pair (.int .i64) (.pair (.int .i64) (.pair (.slice 32 (.pair (.int .i64) (.pair (.slice 1 (.int .u8)) .unit))) (.pair (.slice 1 .bool) (.pair (.slice 1 (.int .u8)) .unit)))))) v3):Calls Try.prog 3 #[v0,v1,v2,v3] w (help.Ret (.bool true) w):=by
 obtain ⟨a0,o0,r0⟩:=arg_one (br_int .i64) (by rfl) b
 obtain ⟨a1,o1,r1⟩:=arg_one (br_int .i64) (by rfl) c
 obtain ⟨a2,o2,r2⟩:=arg_one (br_int .i64) (by rfl) d
 obtain ⟨a3,o3,r3⟩:=arg_one (br_slice (f:=Gn) (ok:=UG) Gcd (fun _=>rfl) (by decide)) (by rfl) e
 obtain ⟨n,hn⟩:=H a0 a1 a2 a3 o0 o1 o2 o3
 exact walk_of (MY n a0 a1 a2 a3 true hn) (RT_cons r0 (RT_cons r1 (RT_cons r2 (RT_cons r3 RT_nil))))
/- FRAME JournalPlays; ringhall/ringlaw3.JournalPlays; (.int .i64) | (.int .i64) | (.int .i64) | (.slice 88 (.pair (.int .i64) (.pair (.int .i64) (.pair (.slice 32 (.pair (.int .i64) (.pair (.slice 1 (.int .u8)) .unit))) (.pair (.slice 1 .bool) (.pair (.slice 1 (.int .u8)) .unit)))))); .int .i64 0 | .int .i64 0 | .int .i64 0 | .slice none 0 0 -/
end Go.Proofs.Ytgdhhaddfllkaaa.pv
