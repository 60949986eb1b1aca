/- What the functions compute (part 3): written by gen.py. -/
import Derived.Test.YtofjjaagjkbeaaaGreatGuBufferPlaysP2
set_option maxRecDepth 100000
set_option linter.all false
namespace Go.Proofs.YtofjjaagjkbeaaaGreat.pv
open Go.RowKit
theorem VO (n:Nat) (a:Gb) (b:Int) (r:ByteArray×Gb) (h:Ze n a b=some r):RetH Tryz.prog 37 [.ref 0 0,.d ((eI .i64) b)] [.box [di a.fSectors,di a.fMark,di a.fFuse,.srf 1],.cu (rowF 86 2 (a.fAll.map Gc)) []] (.d (eS r.1)) [.box [di r.2.fSectors,di r.2.fMark,di r.2.fFuse,.srf 2],.none,.cu (rowF 86 2 (r.2.fAll.map Gc)) []]:=by
 refine retH_run (n:=16) (fn:=Tryz.f37) (c:=bodyOf Tryz.f37) (by kernel_rfl) (by kernel_rfl) (by kernel_rfl) (by kernel_rfl) ?_
 have hF:KC 16 (FinH Tryz.prog Tryz.f37 [.box [di a.fSectors,di a.fMark,di a.fFuse,.srf 1],.cu (rowF 86 2 (a.fAll.map Gc)) []] (.d (eS r.1)) [.box [di r.2.fSectors,di r.2.fMark,di r.2.fFuse,.srf 2],.none,.cu (rowF 86 2 (r.2.fAll.map Gc)) []]):=FinH.kc' (by kernel_rfl)
 unfold Ze at h
 by_cases k:0≤a.fMark∧a.fMark≤(a.fAll.length:Int)
 ·rw [if_pos k] at h
  by_cases m:0≤a.fMark.toNat∧a.fMark.toNat≤a.fAll.length
  ·rw [if_pos m] at h
   obtain ⟨o,p,h⟩:=bind_some h
   obtain rfl:=Option.some.inj h
   exact pendH_sound TTok mix 6 (hs:=[.c,.c,.e 49 [1] (.ssl 1 0 a.fMark.toNat 2) [],.e 59 [1] (.d (.v (.string o))) [],.dl 1,.sx [1] (fmvS 1 86 2 (a.fAll.map Gc))]) [0,1,69] (by kernel_rfl) (by kernel_rfl) (by kernel_rfl) (.cons (fsl01 (P:=Tryz.prog) (T:=TT) (t:=49) (e:=86) (s:=2) (l:=1) (xs:=(a.fAll.map Gc)) (x:=(.tmp 8)) (hi:=(.tmp 12)) (ka:=.i64) (i:=a.fMark) (by kernel_rfl) (by rw [List.length_map]; exact k)) (.cons (pcall (P:=Tryz.prog) (T:=TT) (f:=.func 44) (args:=#[(.tmp 13),(.tmp 14)]) (tys:=#[49,3]) (g:=44) (l:=1) (e:=86) (s:=2) (i:=0) (j:=a.fMark.toNat) (xs:=(a.fAll.map Gc)) (ys:=(((a.fAll.take a.fMark.toNat).drop 0).map Gc)) (ps:=[.v (.int .i64 b)]) (by simp only [List.map_drop,List.map_take]) (by rw [List.length_map]; exact m) (Vn n ((a.fAll.take a.fMark.toNat).drop 0) b _ p) (by rfl)) (.cons (fmv (l:=1) (e:=86) (s:=2) (xs:=(a.fAll.map Gc))) .nil)))
  ·rw [if_neg m] at h; cases h
 ·rw [if_neg k] at h; cases h
inductive KT where
 | x0 (a:ByteArray) (b c d:Int) (e:(List Gi))
def UI:KT→Ex
 | .x0 _ _ _ _ _=>.exit 0
def UJ (g:Gb):KT→PS
 | .x0 a b c e f=>⟨(dd::dd::dd::.d (.v (.string a))::(dds 15 [])),[.gh 0 (.ref 2 0),.gh 1 (.srf 4),.box [di b,di c,di e,.srf 3],.cu (rowF 86 2 (f.map Gc)) [],.none]⟩
def UK (a:Gb) (b:ByteArray) (c e f g:Int) (h:(List Gi)):PS:=⟨(.ref 2 0::dd::dd::.d (.v (.string b))::dd::dd::dd::dd::di a.fSectors::di c::(dds 9 [])),[.gh 0 (.ref 2 0),.gh 1 (.srf 4),.box [di e,di f,di g,.srf 3],.cu (rowF 86 2 (h.map Gc)) [],.none]⟩
def Sb (n:Nat) (c:Gb):Nat→ByteArray→Int→Int→Int→Int→(List Gi)→Option KT
 | 0,_,_,_,_,_,_=>none
 | k+1,d,b,e,f,g,h =>
  if b<c.fSectors then
   (Ze n (Gb.mk e f g h) b).bind fun (a:(ByteArray×Gb)) =>
   (catS d a.1).bind fun (i:ByteArray) =>
   Sb n c k i (wi .i64 (b+1)) a.2.fSectors a.2.fMark a.2.fFuse a.2.fAll
  else
   some (.x0 d e f g h)
theorem YG {Fi:Ex→PS→Prop} (hF:KC 19 Fi) (ks:List Fr) (n:Nat) (c:Gb)  : ∀ (k:Nat) (f:ByteArray) (b g i j:Int) (m:(List Gi)) (o:KT),Sb n c k f b g i j m=some o→RunE Tryz.prog 19 Fi ks (UI o) (UJ c o)→RunE Tryz.prog 19 Fi (.l k (cP (cB (cR (cL (cR (cR (bodyOf Tryz.f22)))))))::ks) .normal (UK c f b g i j m)
 | 0,f,b,g,i,j,m,o,h,q=>by rw [Sb] at h; cases h
 | k+1,f,b,g,i,j,m,o,h,q=>by
  rw [Sb] at h
  by_cases u:b<c.fSectors
  ·rw [if_pos u] at h
   obtain ⟨a,z,h⟩:=bind_some h
   obtain ⟨w,a0,h⟩:=bind_some h
   exact pkk_sound TTok mix hF 13 (hs:=[.t true,.h [2,3] [] [.box [di a.2.fSectors,di a.2.fMark,di a.2.fFuse,.srf 2],.none,.cu (rowF 86 2 (a.2.fAll.map Gc)) []] (.d (.v (.string a.1))),.e 40 [] (.d (.v (.string w))) []]) (ts:=[]) (s:=[0,1,2,35,4]) (l:=[0,3,8,9]) (by kernel_rfl) (by kernel_rfl) (.cons (dt u) (.cons (VO n (Gb.mk g i j m) b _ z) (.cons (xcatS (P:=Tryz.prog) (T:=TT) (t:=9) (ty':=9) (x:=(.tmp 12)) (y:=(.tmp 15)) (p:=f) (q:=a.1) (r:=w) a0) .nil))) (YG hF ks n c k w (wi .i64 (b+1)) a.2.fSectors a.2.fMark a.2.fFuse a.2.fAll _ h q)
  ·rw [if_neg u] at h
   cases h
   exact pkk_sound TTok mix hF 8 (hs:=[.t false]) (ts:=[]) (s:=[0,1,2,3,4]) (l:=[3]) (by kernel_rfl) (by kernel_rfl) (.cons (df u) .nil) q
/- (*ringhall/ringref3.Disk).Image -/
def Kl (n:Nat) (a:Gb):Option (ByteArray×Gb) :=
 (Sb n a n (ByteArray.mk #[]) 0 a.fSectors a.fMark a.fFuse a.fAll).bind fun b=>match b with
 | .x0 c d e f g =>
  some (c,(Gb.mk d e f g))
theorem VI (n:Nat) (a:Gb) (r:ByteArray×Gb) (h:Kl n a=some r):RetH Tryz.prog 22 [.ref 0 0] [.box [di a.fSectors,di a.fMark,di a.fFuse,.srf 1],.cu (rowF 86 2 (a.fAll.map Gc)) []] (.d (eS r.1)) [.box [di r.2.fSectors,di r.2.fMark,di r.2.fFuse,.srf 2],.none,.cu (rowF 86 2 (r.2.fAll.map Gc)) []]:=by
 refine retH_run (n:=19) (fn:=Tryz.f22) (c:=bodyOf Tryz.f22) (by kernel_rfl) (by kernel_rfl) (by kernel_rfl) (by kernel_rfl) ?_
 have hF:KC 19 (FinH Tryz.prog Tryz.f22 [.box [di a.fSectors,di a.fMark,di a.fFuse,.srf 1],.cu (rowF 86 2 (a.fAll.map Gc)) []] (.d (eS r.1)) [.box [di r.2.fSectors,di r.2.fMark,di r.2.fFuse,.srf 2],.none,.cu (rowF 86 2 (r.2.fAll.map Gc)) []]):=FinH.kc' (by kernel_rfl)
 unfold Kl at h
 obtain ⟨f,g,h⟩:=bind_some h
 refine pkk_sound TTok mix hF 10 (hs:=[.c,.dl 1,.sx [1] (fmvS 1 86 2 (a.fAll.map Gc)),.n n]) (ts:=[]) (s:=[2,3,0,39,1]) (l:=[0,3,8,9]) (by kernel_rfl) (by kernel_rfl) (.cons (fmv (l:=1) (e:=86) (s:=2) (xs:=(a.fAll.map Gc))) .nil) (YG hF (.b 0::.s (cR (cR (cR (bodyOf Tryz.f22))))::[]) n a n (ByteArray.mk #[]) 0 a.fSectors a.fMark a.fFuse a.fAll _ g ?_)
 cases f with
 | x0 i j k m o =>
  try dsimp only at h
  obtain rfl:=Option.some.inj h
  exact pendH_sound TTok mix 4 (hs:=[]) [2,4,3] (by kernel_rfl) (by kernel_rfl) (by kernel_rfl) .nil
inductive K8 where
 | x0 (a:Bool)
 | x1 (b:Int) (c d:(List Int)) (e:(List Gk)) (f:Int) (g:(List Gd)) (h i j k l:Int) (m:(List Gi)) (n:(List (Int×ByteArray))) (o:(List (Int×Int))) (p:(List (Int×Bool)))
def U8:K8→Ex
 | .x0 _=>.ret
 | .x1 _ _ _ _ _ _ _ _ _ _ _ _ _ _ _=>.normal
def U9 (a:(List Gm)) (b:Int) (t:Gm) (u:Int) (w y:(List Int)) (z:(List Gk)) (a0:Int) (a1:(List Gd)) (a2 a3 a4 a5 a6:Int) (a7:(List Gi)) (a8:(List (Int×ByteArray))) (a9:(List (Int×Int))) (b0:(List (Int×Bool))):K8→PS
 | .x0 c=>⟨(dd::dd::dd::dd::.d (.v (.bool c))::(dds 148 [])),[]⟩
 | .x1 e f g h i j k l m n o p q r s=>⟨(dd::dd::dd::dd::dd::.ref 0 0::dd::.ref 4 0::.ref 6 0::(dds 46 (.d (.sl (a.map Gw))::di (a.length:Int)::di b::(dds 95 [])))),[.box [.srf 1,.srf 2,.srf 3,di e],.row 5 1 (f.map (eI .u8)),.row 5 1 (g.map (eI .u8)),.row 84 2 (h.map Ge),.box [.ref 0 0,di i,.srf 5],.row 69 3 (j.map Ga),.box [.ref 7 0,di k,di l,.srf 9,.srf 10,.srf 11],.box [di m,di n,di o,.srf 8],.cu (rowF 86 2 (p.map Gc)) [],.cu (mapC (fun x:Int=>Value.int .i64 x) Value.string q) [],.cu (mapC (fun x:Int=>Value.int .i64 x) (fun x:Int=>Value.int .i64 x) r) [],.cu (mapC (fun x:Int=>Value.int .i64 x) Value.bool s) []]⟩
def Va (b:(List Gm)) (c:Int) (a:Gm) (e:Int) (f g:(List Int)) (h:(List Gk)) (i:Int) (j:(List Gd)) (k l m n o:Int) (p:(List Gi)) (q:(List (Int×ByteArray))) (r:(List (Int×Int))) (s:(List (Int×Bool)))  : PS:=⟨(dd::dd::dd::dd::dd::.ref 0 0::dd::.ref 4 0::.ref 6 0::dd::.ref 12 0::(dds 44 (.d (.sl (b.map Gw))::di (b.length:Int)::di c::dd::dd::dd::dd::di a.fKind::(dds 23 (.d (.v (.bool (a.fKind == 0)))::(dds 66 [])))))),[.box [.srf 1,.srf 2,.srf 3,di e],.row 5 1 (f.map (eI .u8)),.row 5 1 (g.map (eI .u8)),.row 84 2 (h.map Ge),.box [.ref 0 0,di i,.srf 5],.row 69 3 (j.map Ga),.box [.ref 7 0,di k,di l,.srf 9,.srf 10,.srf 11],.box [di m,di n,di o,.srf 8],.cu (rowF 86 2 (p.map Gc)) [],.cu (mapC (fun x:Int=>Value.int .i64 x) Value.string q) [],.cu (mapC (fun x:Int=>Value.int .i64 x) (fun x:Int=>Value.int .i64 x) r) [],.cu (mapC (fun x:Int=>Value.int .i64 x) Value.bool s) [],.box [di a.fKind,di a.fN,.d (.sl (a.fData.map (eI .u8))),.d (.sl (a.fKept.map eB))]]⟩
def S7 (n:Nat) (x:(List Gm)) (y:Int) (d:Gm) (h:Int) (i j:(List Int)) (k:(List Gk)) (l:Int) (m:(List Gd)) (o p q r s:Int) (t:(List Gi)) (u:(List (Int×ByteArray))) (v:(List (Int×Int))) (w:(List (Int×Bool))):Option K8 :=
 if d.fKind=0 then
  (KP n (Gh.mk () l m) (Gf.mk i j k h) d.fN d.fData).bind fun (f:(Int×Gh×Gf)) =>
  (Ku n (Gg.mk () o p u v w) (Gb.mk q r s t) d.fN (b2s d.fData)).bind fun (b:(Int×Gg×Gb)) =>
  if f.1=b.1 then
   some (.x1 f.2.2.ffuse f.2.2.fsafe f.2.2.fnow f.2.2.fwait f.2.1.fslots f.2.1.fl b.2.1.fSlots b.2.1.fnow b.2.2.fSectors b.2.2.fMark b.2.2.fFuse b.2.2.fAll b.2.1.fdata b.2.1.fused b.2.1.fdirty)
  else
   some (.x0 false)
 else
  if d.fKind=1 then
   (KD n (Gh.mk () l m) (Gf.mk i j k h)).bind fun (g:(Gh×Gf)) =>
   (Kk n (Gg.mk () o p u v w) (Gb.mk q r s t)).bind fun (c:(Gg×Gb)) =>
   some (.x1 g.2.ffuse g.2.fsafe g.2.fnow g.2.fwait g.1.fslots g.1.fl c.1.fSlots c.1.fnow c.2.fSectors c.2.fMark c.2.fFuse c.2.fAll c.1.fdata c.1.fused c.1.fdirty)
  else
   (KS n (Gh.mk () l m) (Gf.mk i j k h) d.fN).bind fun (e:((List Int)×Int×Gh×Gf)) =>
   (Kw n (Gg.mk () o p u v w) (Gb.mk q r s t) d.fN).bind fun (a:(ByteArray×Int×Gg×Gb)) =>
   if e.2.1=a.2.1 then
    if (!((b2s e.1).toList == a.1.toList))=true then
     some (.x0 false)
    else
     some (.x1 e.2.2.2.ffuse e.2.2.2.fsafe e.2.2.2.fnow e.2.2.2.fwait e.2.2.1.fslots e.2.2.1.fl a.2.2.1.fSlots a.2.2.1.fnow a.2.2.2.fSectors a.2.2.2.fMark a.2.2.2.fFuse a.2.2.2.fAll a.2.2.1.fdata a.2.2.1.fused a.2.2.1.fdirty)
   else
    some (.x0 false)
theorem Vb {Fi:Ex→PS→Prop} (hF:KC 153 Fi) (ks:List Fr) (n:Nat) (b3:(List Gm)) (b4:Int) (f:Gm) (j:Int) (k m:(List Int)) (p:(List Gk)) (r:Int) (u:(List Gd)) (w y z a0 a1:Int) (a2:(List Gi)) (a3:(List (Int×ByteArray))) (a4:(List (Int×Int))) (a5:(List (Int×Bool)))  (o:K8) (h:S7 n b3 b4 f j k m p r u w y z a0 a1 a2 a3 a4 a5=some o) (q:RunE Tryz.prog 153 Fi ks (U8 o) (U9 b3 b4 f j k m p r u w y z a0 a1 a2 a3 a4 a5 o)):RunE Tryz.prog 153 Fi (.s (cR (cB (cR (cL (cR (cB (cL (cR (cR (cP (cB (cR (cL (cR (cR (cR (cR (cR (cR (cR (cR (bodyOf Tryz.f3))))))))))))))))))))))::ks) .normal (Va b3 b4 f j k m p r u w y z a0 a1 a2 a3 a4 a5):=by
 unfold S7 at h
 by_cases a7:f.fKind=0
 ·rw [if_pos a7] at h
  obtain ⟨i,b7,h⟩:=bind_some h
  obtain ⟨g,b8,h⟩:=bind_some h
  by_cases b1:i.1=g.1
  ·rw [if_pos b1] at h
   cases h
   exact pkk_sound TTok mix hF 5 (hs:=[.t true,.c,.c,.h [4,5,0,1,2,3] [] [.box [.ref 2 0,di i.2.1.fslots,.srf 6],.none,.box [.srf 7,.srf 8,.srf 9,di i.2.2.ffuse],.none,.none,.none,.row 69 3 (i.2.1.fl.map Ga),.row 5 1 (i.2.2.fsafe.map (eI .u8)),.row 5 1 (i.2.2.fnow.map (eI .u8)),.row 84 2 (i.2.2.fwait.map Ge)] (di i.1),.c,.c,.e 68 [] (.d (.v (.string (b2s f.fData)))) [],.h [6,9,10,11,7,8] [] [.box [.ref 4 0,di g.2.1.fSlots,di g.2.1.fnow,.srf 1,.srf 2,.srf 3],.cu (mapC (fun x:Int=>Value.int .i64 x) Value.string g.2.1.fdata) [],.cu (mapC (fun x:Int=>Value.int .i64 x) (fun x:Int=>Value.int .i64 x) g.2.1.fused) [],.cu (mapC (fun x:Int=>Value.int .i64 x) Value.bool g.2.1.fdirty) [],.box [di g.2.2.fSectors,di g.2.2.fMark,di g.2.2.fFuse,.srf 6],.none,.cu (rowF 86 2 (g.2.2.fAll.map Gc)) []] (di g.1),.t false]) (ts:=[]) (s:=[0,39,40,41,4,38,6,7,73,9,10,11]) (l:=[5,7,8,55,56,57]) (by kernel_rfl) (by kernel_rfl) (.cons (bt a7) (.cons (Um n (Gh.mk () r u) (Gf.mk k m p j) f.fN f.fData _ b7) (.cons (xb2sD (L:=f.fData) (P:=Tryz.prog) (T:=TT) (src:=35) (dst:=9) (e:=5) (s:=1) (x:=(.tmp 98)) (by kernel_rfl) (by kernel_rfl) (by kernel_rfl)) (.cons (Xd n (Gg.mk () w y a3 a4 a5) (Gb.mk z a0 a1 a2) f.fN (b2s f.fData) _ b8) (.cons (nf b1) .nil))))) q
  ·rw [if_neg b1] at h
   cases h
   exact pkk_sound TTok mix hF 7 (hs:=[.t true,.c,.c,.h [4,5,0,1,2,3] [] [.box [.ref 2 0,di i.2.1.fslots,.srf 6],.none,.box [.srf 7,.srf 8,.srf 9,di i.2.2.ffuse],.none,.none,.none,.row 69 3 (i.2.1.fl.map Ga),.row 5 1 (i.2.2.fsafe.map (eI .u8)),.row 5 1 (i.2.2.fnow.map (eI .u8)),.row 84 2 (i.2.2.fwait.map Ge)] (di i.1),.c,.c,.e 68 [] (.d (.v (.string (b2s f.fData)))) [],.h [6,9,10,11,7,8] [] [.box [.ref 4 0,di g.2.1.fSlots,di g.2.1.fnow,.srf 1,.srf 2,.srf 3],.cu (mapC (fun x:Int=>Value.int .i64 x) Value.string g.2.1.fdata) [],.cu (mapC (fun x:Int=>Value.int .i64 x) (fun x:Int=>Value.int .i64 x) g.2.1.fused) [],.cu (mapC (fun x:Int=>Value.int .i64 x) Value.bool g.2.1.fdirty) [],.box [di g.2.2.fSectors,di g.2.2.fMark,di g.2.2.fFuse,.srf 6],.none,.cu (rowF 86 2 (g.2.2.fAll.map Gc)) []] (di g.1),.t true]) (ts:=[]) (s:=[]) (l:=[4]) (by kernel_rfl) (by kernel_rfl) (.cons (bt a7) (.cons (Um n (Gh.mk () r u) (Gf.mk k m p j) f.fN f.fData _ b7) (.cons (xb2sD (L:=f.fData) (P:=Tryz.prog) (T:=TT) (src:=35) (dst:=9) (e:=5) (s:=1) (x:=(.tmp 98)) (by kernel_rfl) (by kernel_rfl) (by kernel_rfl)) (.cons (Xd n (Gg.mk () w y a3 a4 a5) (Gb.mk z a0 a1 a2) f.fN (b2s f.fData) _ b8) (.cons (nt b1) .nil))))) q
 ·rw [if_neg a7] at h
  by_cases a8:f.fKind=1
  ·rw [if_pos a8] at h
   obtain ⟨a9,b9,h⟩:=bind_some h
   obtain ⟨a6,c0,h⟩:=bind_some h
   cases h
   exact pkk_sound TTok mix hF 7 (hs:=[.t false,.t true,.h [4,5,0,1,2,3] [] [.box [.ref 2 0,di a9.1.fslots,.srf 6],.none,.box [.srf 7,.srf 8,.srf 9,di a9.2.ffuse],.none,.none,.none,.row 69 3 (a9.1.fl.map Ga),.row 5 1 (a9.2.fsafe.map (eI .u8)),.row 5 1 (a9.2.fnow.map (eI .u8)),.row 84 2 (a9.2.fwait.map Ge)] (.tup []),.h [6,9,10,11,7,8] [] [.box [.ref 4 0,di a6.1.fSlots,di a6.1.fnow,.srf 1,.srf 2,.srf 3],.cu (mapC (fun x:Int=>Value.int .i64 x) Value.string a6.1.fdata) [],.cu (mapC (fun x:Int=>Value.int .i64 x) (fun x:Int=>Value.int .i64 x) a6.1.fused) [],.cu (mapC (fun x:Int=>Value.int .i64 x) Value.bool a6.1.fdirty) [],.box [di a6.2.fSectors,di a6.2.fMark,di a6.2.fFuse,.srf 6],.none,.cu (rowF 86 2 (a6.2.fAll.map Gc)) []] (.tup [])]) (ts:=[]) (s:=[0,29,30,31,4,28,6,7,38,9,10,11]) (l:=[5,7,8,55,56,57]) (by kernel_rfl) (by kernel_rfl) (.cons (bf a7) (.cons (bt a8) (.cons (VT n (Gh.mk () r u) (Gf.mk k m p j) _ b9) (.cons (VH n (Gg.mk () w y a3 a4 a5) (Gb.mk z a0 a1 a2) _ c0) .nil)))) q
  ·rw [if_neg a8] at h
   obtain ⟨b,b5,h⟩:=bind_some h
   obtain ⟨a,b6,h⟩:=bind_some h
   by_cases b0:b.2.1=a.2.1
   ·rw [if_pos b0] at h
    by_cases b2:(!((b2s b.1).toList == a.1.toList))=true
    ·rw [if_pos b2] at h
     cases h
     exact pkk_sound TTok mix hF 14 (hs:=[.t false,.t false,.c,.h [4,5,0,1,2,3] [] [.box [.ref 2 0,di b.2.2.1.fslots,.srf 6],.none,.box [.srf 7,.srf 8,.srf 9,di b.2.2.2.ffuse],.none,.none,.none,.row 69 3 (b.2.2.1.fl.map Ga),.row 5 1 (b.2.2.2.fsafe.map (eI .u8)),.row 5 1 (b.2.2.2.fnow.map (eI .u8)),.row 84 2 (b.2.2.2.fwait.map Ge)] (.tup [.d (.sl (b.1.map (eI .u8))),di b.2.1]),.c,.h [6,9,10,11,7,8] [] [.box [.ref 4 0,di a.2.2.1.fSlots,di a.2.2.1.fnow,.srf 1,.srf 2,.srf 3],.cu (mapC (fun x:Int=>Value.int .i64 x) Value.string a.2.2.1.fdata) [],.cu (mapC (fun x:Int=>Value.int .i64 x) (fun x:Int=>Value.int .i64 x) a.2.2.1.fused) [],.cu (mapC (fun x:Int=>Value.int .i64 x) Value.bool a.2.2.1.fdirty) [],.box [di a.2.2.2.fSectors,di a.2.2.2.fMark,di a.2.2.2.fFuse,.srf 6],.none,.cu (rowF 86 2 (a.2.2.2.fAll.map Gc)) []] (.tup [.d (.v (.string a.1)),di a.2.1]),.t false,.c,.e 138 [] (.d (.v (.string (b2s b.1)))) [],.c,.c,.t true]) (ts:=[]) (s:=[]) (l:=[4]) (by kernel_rfl) (by kernel_rfl) (.cons (bf a7) (.cons (bf a8) (.cons (Yu n (Gh.mk () r u) (Gf.mk k m p j) f.fN _ b5) (.cons (Z6 n (Gg.mk () w y a3 a4 a5) (Gb.mk z a0 a1 a2) f.fN _ b6) (.cons (nf b0) (.cons (xb2sD (L:=b.1) (P:=Tryz.prog) (T:=TT) (src:=35) (dst:=9) (e:=5) (s:=1) (x:=(.tmp 81)) (by kernel_rfl) (by kernel_rfl) (by kernel_rfl)) (.cons b2 .nil))))))) q
    ·rw [if_neg b2] at h
     cases h
     exact pkk_sound TTok mix hF 12 (hs:=[.t false,.t false,.c,.h [4,5,0,1,2,3] [] [.box [.ref 2 0,di b.2.2.1.fslots,.srf 6],.none,.box [.srf 7,.srf 8,.srf 9,di b.2.2.2.ffuse],.none,.none,.none,.row 69 3 (b.2.2.1.fl.map Ga),.row 5 1 (b.2.2.2.fsafe.map (eI .u8)),.row 5 1 (b.2.2.2.fnow.map (eI .u8)),.row 84 2 (b.2.2.2.fwait.map Ge)] (.tup [.d (.sl (b.1.map (eI .u8))),di b.2.1]),.c,.h [6,9,10,11,7,8] [] [.box [.ref 4 0,di a.2.2.1.fSlots,di a.2.2.1.fnow,.srf 1,.srf 2,.srf 3],.cu (mapC (fun x:Int=>Value.int .i64 x) Value.string a.2.2.1.fdata) [],.cu (mapC (fun x:Int=>Value.int .i64 x) (fun x:Int=>Value.int .i64 x) a.2.2.1.fused) [],.cu (mapC (fun x:Int=>Value.int .i64 x) Value.bool a.2.2.1.fdirty) [],.box [di a.2.2.2.fSectors,di a.2.2.2.fMark,di a.2.2.2.fFuse,.srf 6],.none,.cu (rowF 86 2 (a.2.2.2.fAll.map Gc)) []] (.tup [.d (.v (.string a.1)),di a.2.1]),.t false,.c,.e 138 [] (.d (.v (.string (b2s b.1)))) [],.c,.c,.t false]) (ts:=[]) (s:=[0,39,40,41,4,38,6,7,83,9,10,11]) (l:=[5,7,8,55,56,57]) (by kernel_rfl) (by kernel_rfl) (.cons (bf a7) (.cons (bf a8) (.cons (Yu n (Gh.mk () r u) (Gf.mk k m p j) f.fN _ b5) (.cons (Z6 n (Gg.mk () w y a3 a4 a5) (Gb.mk z a0 a1 a2) f.fN _ b6) (.cons (nf b0) (.cons (xb2sD (L:=b.1) (P:=Tryz.prog) (T:=TT) (src:=35) (dst:=9) (e:=5) (s:=1) (x:=(.tmp 81)) (by kernel_rfl) (by kernel_rfl) (by kernel_rfl)) (.cons (vf b2) .nil))))))) q
   ·rw [if_neg b0] at h
    cases h
    exact pkk_sound TTok mix hF 14 (hs:=[.t false,.t false,.c,.h [4,5,0,1,2,3] [] [.box [.ref 2 0,di b.2.2.1.fslots,.srf 6],.none,.box [.srf 7,.srf 8,.srf 9,di b.2.2.2.ffuse],.none,.none,.none,.row 69 3 (b.2.2.1.fl.map Ga),.row 5 1 (b.2.2.2.fsafe.map (eI .u8)),.row 5 1 (b.2.2.2.fnow.map (eI .u8)),.row 84 2 (b.2.2.2.fwait.map Ge)] (.tup [.d (.sl (b.1.map (eI .u8))),di b.2.1]),.c,.h [6,9,10,11,7,8] [] [.box [.ref 4 0,di a.2.2.1.fSlots,di a.2.2.1.fnow,.srf 1,.srf 2,.srf 3],.cu (mapC (fun x:Int=>Value.int .i64 x) Value.string a.2.2.1.fdata) [],.cu (mapC (fun x:Int=>Value.int .i64 x) (fun x:Int=>Value.int .i64 x) a.2.2.1.fused) [],.cu (mapC (fun x:Int=>Value.int .i64 x) Value.bool a.2.2.1.fdirty) [],.box [di a.2.2.2.fSectors,di a.2.2.2.fMark,di a.2.2.2.fFuse,.srf 6],.none,.cu (rowF 86 2 (a.2.2.2.fAll.map Gc)) []] (.tup [.d (.v (.string a.1)),di a.2.1]),.t true,.c,.c,.c,.c]) (ts:=[]) (s:=[]) (l:=[4]) (by kernel_rfl) (by kernel_rfl) (.cons (bf a7) (.cons (bf a8) (.cons (Yu n (Gh.mk () r u) (Gf.mk k m p j) f.fN _ b5) (.cons (Z6 n (Gg.mk () w y a3 a4 a5) (Gb.mk z a0 a1 a2) f.fN _ b6) (.cons (nt b0) .nil))))) q
inductive K9 where
 | x0 (a:Bool) (b:Int) (c d:(List Int)) (e:(List Gk)) (f:Int) (g:(List Gd)) (h i j k l:Int) (m:(List Gi)) (n:(List (Int×ByteArray))) (o:(List (Int×Int))) (p:(List (Int×Bool)))
def Vc:K9→Ex
 | .x0 _ _ _ _ _ _ _ _ _ _ _ _ _ _ _ _=>.normal
def Vd (a:(List Gm)) (b t:Int) (u w:(List Int)) (y:(List Gk)) (z:Int) (a0:(List Gd)) (a1 a2 a3 a4 a5:Int) (a6:(List Gi)) (a7:(List (Int×ByteArray))) (a8:(List (Int×Int))) (a9:(List (Int×Bool))):K9→PS
 | .x0 c e f g h i j k l m n o p q r s=>⟨(dd::dd::dd::dd::dd::.ref 0 0::dd::.ref 4 0::.ref 6 0::(dds 46 (.d (.sl (a.map Gw))::di (a.length:Int)::di b::(dds 84 (.d (.v (.bool c))::(dds 10 [])))))),[.box [.srf 1,.srf 2,.srf 3,di e],.row 5 1 (f.map (eI .u8)),.row 5 1 (g.map (eI .u8)),.row 84 2 (h.map Ge),.box [.ref 0 0,di i,.srf 5],.row 69 3 (j.map Ga),.box [.ref 7 0,di k,di l,.srf 9,.srf 10,.srf 11],.box [di m,di n,di o,.srf 8],.cu (rowF 86 2 (p.map Gc)) [],.cu (mapC (fun x:Int=>Value.int .i64 x) Value.string q) [],.cu (mapC (fun x:Int=>Value.int .i64 x) (fun x:Int=>Value.int .i64 x) r) [],.cu (mapC (fun x:Int=>Value.int .i64 x) Value.bool s) []]⟩
def Ve (a:(List Gm)) (b c:Int) (e f:(List Int)) (g:(List Gk)) (h:Int) (i:(List Gd)) (j k l m n:Int) (o:(List Gi)) (p:(List (Int×ByteArray))) (q:(List (Int×Int))) (r:(List (Int×Bool)))  : PS:=⟨(dd::dd::dd::dd::dd::.ref 0 0::dd::.ref 4 0::.ref 6 0::(dds 46 (.d (.sl (a.map Gw))::di (a.length:Int)::di b::(dds 95 [])))),[.box [.srf 1,.srf 2,.srf 3,di c],.row 5 1 (e.map (eI .u8)),.row 5 1 (f.map (eI .u8)),.row 84 2 (g.map Ge),.box [.ref 0 0,di h,.srf 5],.row 69 3 (i.map Ga),.box [.ref 7 0,di j,di k,.srf 9,.srf 10,.srf 11],.box [di l,di m,di n,.srf 8],.cu (rowF 86 2 (o.map Gc)) [],.cu (mapC (fun x:Int=>Value.int .i64 x) Value.string p) [],.cu (mapC (fun x:Int=>Value.int .i64 x) (fun x:Int=>Value.int .i64 x) q) [],.cu (mapC (fun x:Int=>Value.int .i64 x) Value.bool r) []]⟩
def S8 (n:Nat) (x:(List Gm)) (y f:Int) (g h:(List Int)) (i:(List Gk)) (j:Int) (k:(List Gd)) (l m o p q:Int) (r:(List Gi)) (s:(List (Int×ByteArray))) (t:(List (Int×Int))) (u:(List (Int×Bool))):Option K9 :=
 (KE n (Gh.mk () j k) (Gf.mk g h i f)).bind fun (d:((List Int)×Gh×Gf)) =>
 (Sr n (Gg.mk () l m s t u) (Gb.mk o p q r)).bind fun (b:((List Int)×Gg×Gb)) =>
 (SY n d.1 b.1).bind fun (v:(Bool)) =>
 if v=true then
  (Kv n d.2.1 d.2.2).bind fun (c:((List Int)×Gh×Gf)) =>
  (Ke n b.2.1 b.2.2).bind fun (a:((List Int)×Gg×Gb)) =>
  (SY n c.1 a.1).bind fun (w:(Bool)) =>
  if w=true then
   (ZY n c.2.2).bind fun (e:(Int×Gf)) =>
   some (.x0 (e.1 != (wi .i64 ((a.2.2.fAll.length:Int)-a.2.2.fMark))) e.2.ffuse e.2.fsafe e.2.fnow e.2.fwait c.2.1.fslots c.2.1.fl a.2.1.fSlots a.2.1.fnow a.2.2.fSectors a.2.2.fMark a.2.2.fFuse a.2.2.fAll a.2.1.fdata a.2.1.fused a.2.1.fdirty)
  else
   some (.x0 true c.2.2.ffuse c.2.2.fsafe c.2.2.fnow c.2.2.fwait c.2.1.fslots c.2.1.fl a.2.1.fSlots a.2.1.fnow a.2.2.fSectors a.2.2.fMark a.2.2.fFuse a.2.2.fAll a.2.1.fdata a.2.1.fused a.2.1.fdirty)
 else
  some (.x0 true d.2.2.ffuse d.2.2.fsafe d.2.2.fnow d.2.2.fwait d.2.1.fslots d.2.1.fl b.2.1.fSlots b.2.1.fnow b.2.2.fSectors b.2.2.fMark b.2.2.fFuse b.2.2.fAll b.2.1.fdata b.2.1.fused b.2.1.fdirty)
theorem Vf {Fi:Ex→PS→Prop} (hF:KC 153 Fi) (ks:List Fr) (n:Nat) (b0:(List Gm)) (b1 i:Int) (j k:(List Int)) (m:(List Gk)) (p:Int) (u:(List Gd)) (w y z a0 a1:Int) (a2:(List Gi)) (a3:(List (Int×ByteArray))) (a4:(List (Int×Int))) (a5:(List (Int×Bool)))  (o:K9) (h:S8 n b0 b1 i j k m p u w y z a0 a1 a2 a3 a4 a5=some o) (q:RunE Tryz.prog 153 Fi ks (Vc o) (Vd b0 b1 i j k m p u w y z a0 a1 a2 a3 a4 a5 o)):RunE Tryz.prog 153 Fi (.s (cL (cR (cR (cB (cL (cR (cR (cP (cB (cR (cL (cR (cR (cR (cR (cR (cR (cR (cR (bodyOf Tryz.f3))))))))))))))))))))::ks) .normal (Ve b0 b1 i j k m p u w y z a0 a1 a2 a3 a4 a5):=by
 unfold S8 at h
 obtain ⟨b,b2,h⟩:=bind_some h
 obtain ⟨a,b3,h⟩:=bind_some h
 obtain ⟨a8,b4,h⟩:=bind_some h
 by_cases a6:a8=true
 ·rw [if_pos a6] at h
  obtain ⟨g,b6,h⟩:=bind_some h
  obtain ⟨f,b7,h⟩:=bind_some h
  obtain ⟨b5,b8,h⟩:=bind_some h
  by_cases a9:b5=true
  ·rw [if_pos a9] at h
   obtain ⟨a7,b9,h⟩:=bind_some h
   cases h
   exact pkk_sound TTok mix hF 1 (hs:=[.h [4,5,0,1,2,3] [] [.box [.ref 2 0,di b.2.1.fslots,.srf 6],.none,.box [.srf 7,.srf 8,.srf 9,di b.2.2.ffuse],.none,.none,.none,.row 69 3 (b.2.1.fl.map Ga),.row 5 1 (b.2.2.fsafe.map (eI .u8)),.row 5 1 (b.2.2.fnow.map (eI .u8)),.row 84 2 (b.2.2.fwait.map Ge)] (.d (.sl (b.1.map (eI .i64)))),.h [6,9,10,11,7,8] [] [.box [.ref 4 0,di a.2.1.fSlots,di a.2.1.fnow,.srf 1,.srf 2,.srf 3],.cu (mapC (fun x:Int=>Value.int .i64 x) Value.string a.2.1.fdata) [],.cu (mapC (fun x:Int=>Value.int .i64 x) (fun x:Int=>Value.int .i64 x) a.2.1.fused) [],.cu (mapC (fun x:Int=>Value.int .i64 x) Value.bool a.2.1.fdirty) [],.box [di a.2.2.fSectors,di a.2.2.fMark,di a.2.2.fFuse,.srf 6],.none,.cu (rowF 86 2 (a.2.2.fAll.map Gc)) []] (.d (.sl (a.1.map (eI .i64)))),.r (eB a8),.t false,.c,.h [4,17,0,18,19,20] [] [.box [.ref 2 0,di g.2.1.fslots,.srf 6],.none,.box [.srf 7,.srf 8,.srf 9,di g.2.2.ffuse],.none,.none,.none,.row 69 3 (g.2.1.fl.map Ga),.row 5 1 (g.2.2.fsafe.map (eI .u8)),.row 5 1 (g.2.2.fnow.map (eI .u8)),.row 84 2 (g.2.2.fwait.map Ge)] (.d (.sl (g.1.map (eI .i64)))),.c,.c,.h [6,9,10,11,7,27] [] [.box [.ref 4 0,di f.2.1.fSlots,di f.2.1.fnow,.srf 1,.srf 2,.srf 3],.cu (mapC (fun x:Int=>Value.int .i64 x) Value.string f.2.1.fdata) [],.cu (mapC (fun x:Int=>Value.int .i64 x) (fun x:Int=>Value.int .i64 x) f.2.1.fused) [],.cu (mapC (fun x:Int=>Value.int .i64 x) Value.bool f.2.1.fdirty) [],.box [di f.2.2.fSectors,di f.2.2.fMark,di f.2.2.fFuse,.srf 6],.none,.cu (rowF 86 2 (f.2.2.fAll.map Gc)) []] (.d (.sl (f.1.map (eI .i64)))),.c,.r (eB b5),.c,.t false,.c,.h [0,53,54,55] [] [.box [.srf 4,.srf 5,.srf 6,di a7.2.ffuse],.none,.none,.none,.row 5 1 (a7.2.fsafe.map (eI .u8)),.row 5 1 (a7.2.fnow.map (eI .u8)),.row 84 2 (a7.2.fwait.map Ge)] (di a7.1),.c,.c,.c,.c,.c,.c,.c,.c,.c,.c,.e 132 [62] (di (f.2.2.fAll.length:Int)) [],.c,.c,.c,.c,.c,.c,.c,.c,.c,.c,.c]) (ts:=[]) (s:=[0,92,93,94,4,52,6,7,62,9,10,11]) (l:=[5,7,8,55,56,57,142]) (by kernel_rfl) (by kernel_rfl) (.cons (Ys n (Gh.mk () p u) (Gf.mk j k m i) _ b2) (.cons (Kq n (Gg.mk () w y a3 a4 a5) (Gb.mk z a0 a1 a2) _ b3) (.cons (Kz n b.1 a.1 _ b4) (.cons (bnf a6) (.cons (Z4 n b.2.1 b.2.2 _ b6) (.cons (ZS n a.2.1 a.2.2 _ b7) (.cons (Kz n g.1 f.1 _ b8) (.cons (bnf a9) (.cons (VU n g.2.2 _ b9) (.cons (lmap' (flen (P:=Tryz.prog) (T:=TT) (t:=49) (l:=62) (e:=86) (s:=2) (xs:=(f.2.2.fAll.map Gc)) (x:=(.tmp 131)) (by kernel_rfl))) .nil)))))))))) q
  ·rw [if_neg a9] at h
   cases h
   exact pkk_sound TTok mix hF 1 (hs:=[.h [4,5,0,1,2,3] [] [.box [.ref 2 0,di b.2.1.fslots,.srf 6],.none,.box [.srf 7,.srf 8,.srf 9,di b.2.2.ffuse],.none,.none,.none,.row 69 3 (b.2.1.fl.map Ga),.row 5 1 (b.2.2.fsafe.map (eI .u8)),.row 5 1 (b.2.2.fnow.map (eI .u8)),.row 84 2 (b.2.2.fwait.map Ge)] (.d (.sl (b.1.map (eI .i64)))),.h [6,9,10,11,7,8] [] [.box [.ref 4 0,di a.2.1.fSlots,di a.2.1.fnow,.srf 1,.srf 2,.srf 3],.cu (mapC (fun x:Int=>Value.int .i64 x) Value.string a.2.1.fdata) [],.cu (mapC (fun x:Int=>Value.int .i64 x) (fun x:Int=>Value.int .i64 x) a.2.1.fused) [],.cu (mapC (fun x:Int=>Value.int .i64 x) Value.bool a.2.1.fdirty) [],.box [di a.2.2.fSectors,di a.2.2.fMark,di a.2.2.fFuse,.srf 6],.none,.cu (rowF 86 2 (a.2.2.fAll.map Gc)) []] (.d (.sl (a.1.map (eI .i64)))),.r (eB a8),.t false,.c,.h [4,17,0,18,19,20] [] [.box [.ref 2 0,di g.2.1.fslots,.srf 6],.none,.box [.srf 7,.srf 8,.srf 9,di g.2.2.ffuse],.none,.none,.none,.row 69 3 (g.2.1.fl.map Ga),.row 5 1 (g.2.2.fsafe.map (eI .u8)),.row 5 1 (g.2.2.fnow.map (eI .u8)),.row 84 2 (g.2.2.fwait.map Ge)] (.d (.sl (g.1.map (eI .i64)))),.c,.c,.h [6,9,10,11,7,27] [] [.box [.ref 4 0,di f.2.1.fSlots,di f.2.1.fnow,.srf 1,.srf 2,.srf 3],.cu (mapC (fun x:Int=>Value.int .i64 x) Value.string f.2.1.fdata) [],.cu (mapC (fun x:Int=>Value.int .i64 x) (fun x:Int=>Value.int .i64 x) f.2.1.fused) [],.cu (mapC (fun x:Int=>Value.int .i64 x) Value.bool f.2.1.fdirty) [],.box [di f.2.2.fSectors,di f.2.2.fMark,di f.2.2.fFuse,.srf 6],.none,.cu (rowF 86 2 (f.2.2.fAll.map Gc)) []] (.d (.sl (f.1.map (eI .i64)))),.c,.r (eB b5),.c,.t true,.c,.c,.c,.c,.c,.c,.c,.c,.c,.c,.c,.c,.c,.c,.c,.c,.c,.c]) (ts:=[]) (s:=[0,53,54,55,4,52,6,7,62,9,10,11]) (l:=[5,7,8,55,56,57,142]) (by kernel_rfl) (by kernel_rfl) (.cons (Ys n (Gh.mk () p u) (Gf.mk j k m i) _ b2) (.cons (Kq n (Gg.mk () w y a3 a4 a5) (Gb.mk z a0 a1 a2) _ b3) (.cons (Kz n b.1 a.1 _ b4) (.cons (bnf a6) (.cons (Z4 n b.2.1 b.2.2 _ b6) (.cons (ZS n a.2.1 a.2.2 _ b7) (.cons (Kz n g.1 f.1 _ b8) (.cons (bnt (vf a9)) .nil)))))))) q
 ·rw [if_neg a6] at h
  cases h
  exact pkk_sound TTok mix hF 1 (hs:=[.h [4,5,0,1,2,3] [] [.box [.ref 2 0,di b.2.1.fslots,.srf 6],.none,.box [.srf 7,.srf 8,.srf 9,di b.2.2.ffuse],.none,.none,.none,.row 69 3 (b.2.1.fl.map Ga),.row 5 1 (b.2.2.fsafe.map (eI .u8)),.row 5 1 (b.2.2.fnow.map (eI .u8)),.row 84 2 (b.2.2.fwait.map Ge)] (.d (.sl (b.1.map (eI .i64)))),.h [6,9,10,11,7,8] [] [.box [.ref 4 0,di a.2.1.fSlots,di a.2.1.fnow,.srf 1,.srf 2,.srf 3],.cu (mapC (fun x:Int=>Value.int .i64 x) Value.string a.2.1.fdata) [],.cu (mapC (fun x:Int=>Value.int .i64 x) (fun x:Int=>Value.int .i64 x) a.2.1.fused) [],.cu (mapC (fun x:Int=>Value.int .i64 x) Value.bool a.2.1.fdirty) [],.box [di a.2.2.fSectors,di a.2.2.fMark,di a.2.2.fFuse,.srf 6],.none,.cu (rowF 86 2 (a.2.2.fAll.map Gc)) []] (.d (.sl (a.1.map (eI .i64)))),.r (eB a8),.t true,.c,.c,.c,.c,.c,.c,.c,.c,.c,.c,.c,.c,.c,.c,.c,.c,.c,.c,.c,.c,.c,.c,.c,.c]) (ts:=[]) (s:=[0,18,19,20,4,17,6,7,27,9,10,11]) (l:=[5,7,8,55,56,57,142]) (by kernel_rfl) (by kernel_rfl) (.cons (Ys n (Gh.mk () p u) (Gf.mk j k m i) _ b2) (.cons (Kq n (Gg.mk () w y a3 a4 a5) (Gb.mk z a0 a1 a2) _ b3) (.cons (Kz n b.1 a.1 _ b4) (.cons (bnt (vf a6)) .nil)))) q
inductive Za where
 | x0 (a:Bool)
 | x1 (b:Int) (c d:(List Int)) (e:(List Gk)) (f g h i j:Int) (k:(List Gi)) (l:(List (Int×ByteArray))) (m:(List (Int×Int))) (n:(List (Int×Bool)))
def Vg:Za→Ex
 | .x0 _=>.ret
 | .x1 _ _ _ _ _ _ _ _ _ _ _ _ _=>.exit 0
def Vh (p:(List Gm)):Za→PS
 | .x0 a=>⟨(dd::dd::dd::dd::.d (.v (.bool a))::(dds 148 [])),[]⟩
 | .x1 b c e f g h i j k l m n o=>⟨(dd::dd::dd::dd::dd::.ref 0 0::dd::dd::.ref 4 0::(dds 144 [])),[.box [.srf 1,.srf 2,.srf 3,di b],.row 5 1 (c.map (eI .u8)),.row 5 1 (e.map (eI .u8)),.row 84 2 (f.map Ge),.box [.ref 5 0,di g,di h,.srf 7,.srf 8,.srf 9],.box [di i,di j,di k,.srf 6],.cu (rowF 86 2 (l.map Gc)) [],.cu (mapC (fun x:Int=>Value.int .i64 x) Value.string m) [],.cu (mapC (fun x:Int=>Value.int .i64 x) (fun x:Int=>Value.int .i64 x) n) [],.cu (mapC (fun x:Int=>Value.int .i64 x) Value.bool o) []]⟩
def Vi (a:(List Gm)) (b c:Int) (e f:(List Int)) (g:(List Gk)) (h:Int) (i:(List Gd)) (j k l m n:Int) (o:(List Gi)) (p:(List (Int×ByteArray))) (q:(List (Int×Int))) (r:(List (Int×Bool))):PS:=⟨(dd::dd::dd::dd::dd::.ref 0 0::dd::.ref 4 0::.ref 6 0::(dds 46 (.d (.sl (a.map Gw))::di (a.length:Int)::di b::(dds 95 [])))),[.box [.srf 1,.srf 2,.srf 3,di c],.row 5 1 (e.map (eI .u8)),.row 5 1 (f.map (eI .u8)),.row 84 2 (g.map Ge),.box [.ref 0 0,di h,.srf 5],.row 69 3 (i.map Ga),.box [.ref 7 0,di j,di k,.srf 9,.srf 10,.srf 11],.box [di l,di m,di n,.srf 8],.cu (rowF 86 2 (o.map Gc)) [],.cu (mapC (fun x:Int=>Value.int .i64 x) Value.string p) [],.cu (mapC (fun x:Int=>Value.int .i64 x) (fun x:Int=>Value.int .i64 x) q) [],.cu (mapC (fun x:Int=>Value.int .i64 x) Value.bool r) []]⟩
def GZ (n:Nat) (a:(List Gm)):Nat→Int→Int→(List Int)→(List Int)→(List Gk)→Int→(List Gd)→Int→Int→Int→Int→Int→(List Gi)→(List (Int×ByteArray))→(List (Int×Int))→(List (Int×Bool))→Option Za
 | 0,_,_,_,_,_,_,_,_,_,_,_,_,_,_,_,_=>none
 | k+1,b,c,d,e,f,r,s,g,h,i,j,l,m,o,p,q =>
  if b<(a.length:Int) then
   (getI a b).bind fun (t:Gm) =>
   (S7 n a b t c d e f r s g h i j l m o p q).bind fun u=>match u with
   | .x0 v =>
    some (.x0 v)
   | .x1 w x y z a0 a1 a2 a3 a4 a5 a6 a7 a8 a9 b0 =>
    (S8 n a b w x y z a0 a1 a2 a3 a4 a5 a6 a7 a8 a9 b0).bind fun b1=>match b1 with
    | .x0 b2 b3 b4 b5 b6 b7 b8 b9 c0 c1 c2 c3 c4 c5 c6 c7 =>
     if b2=true then
      some (.x0 false)
     else
      GZ n a k (wi .i64 (b+1)) b3 b4 b5 b6 b7 b8 b9 c0 c1 c2 c3 c4 c5 c6 c7
  else
   some (.x1 c d e f g h i j l m o p q)
theorem YT {Fi:Ex→PS→Prop} (hF:KC 153 Fi) (ks:List Fr) (n:Nat) (d:(List Gm))  : ∀ (k:Nat) (a e:Int) (g i:(List Int)) (j:(List Gk)) (m:Int) (p:(List Gd)) (r u v w x:Int) (z:(List Gi)) (a0:(List (Int×ByteArray))) (a1:(List (Int×Int))) (a2:(List (Int×Bool))) (o:Za),GZ n d k a e g i j m p r u v w x z a0 a1 a2=some o→RunE Tryz.prog 153 Fi ks (Vg o) (Vh d o)→RunE Tryz.prog 153 Fi (.l k (cP (cB (cR (cL (cR (cR (cR (cR (cR (cR (cR (cR (bodyOf Tryz.f3)))))))))))))::ks) .normal (Vi d a e g i j m p r u v w x z a0 a1 a2)
 | 0,a,e,g,i,j,m,p,r,u,v,w,x,z,a0,a1,a2,o,h,q=>by rw [GZ] at h; cases h
 | k+1,a,e,g,i,j,m,p,r,u,v,w,x,z,a0,a1,a2,o,h,q=>by
  rw [GZ] at h
  by_cases a3:a<(d.length:Int)
  ·rw [if_pos a3] at h
   obtain ⟨a5,a6,h⟩:=bind_some h
   obtain ⟨a7,a8,h⟩:=bind_some h
   refine pkk_sound TTok mix hF 16 (hs:=[.t true,.y (Gw a5),.c,.c]) (ts:=[]) (s:=[0,1,2,3,4,5,6,7,8,9,10,11,27]) (l:=[5,7,8,10,55,56,57,62,86]) (by kernel_rfl) (by kernel_rfl) (.cons (dt a3) (.cons (getI_ob (f:=Gw) a6) (.cons (show 0+4≤4 by decide) .nil))) (Vb hF (.b 2::.s (cR (cR (cB (cL (cR (cR (cP (cB (cR (cL (cR (cR (cR (cR (cR (cR (cR (cR (bodyOf Tryz.f3)))))))))))))))))))::.b 1::.s (cR (cR (cR (cP (cB (cR (cL (cR (cR (cR (cR (cR (cR (cR (cR (bodyOf Tryz.f3))))))))))))))))::.l k (cP (cB (cR (cL (cR (cR (cR (cR (cR (cR (cR (cR (bodyOf Tryz.f3)))))))))))))::ks) n d a a5 e g i j m p r u v w x z a0 a1 a2 _ a8 ?_)
   cases a7 with
   | x0 e2 =>
    try dsimp only at h
    cases h
    exact pkk_sound TTok mix hF 5 (hs:=[]) (ts:=[]) (s:=[]) (l:=[4]) (by kernel_rfl) (by kernel_rfl) .nil q
   | x1 a9 b0 b1 b2 b3 b4 b5 b6 b7 b8 b9 c0 c1 c2 c3 =>
    try dsimp only at h
    obtain ⟨c4,c5,h⟩:=bind_some h
    refine pkk_sound TTok mix hF 2 (hs:=[]) (ts:=[]) (s:=[0,1,2,3,4,5,6,7,8,9,10,11]) (l:=[5,7,8,55,56,57]) (by kernel_rfl) (by kernel_rfl) .nil (Vf hF (.s (cR (cR (cR (cB (cL (cR (cR (cP (cB (cR (cL (cR (cR (cR (cR (cR (cR (cR (cR (bodyOf Tryz.f3))))))))))))))))))))::.b 1::.s (cR (cR (cR (cP (cB (cR (cL (cR (cR (cR (cR (cR (cR (cR (cR (bodyOf Tryz.f3))))))))))))))))::.l k (cP (cB (cR (cL (cR (cR (cR (cR (cR (cR (cR (cR (bodyOf Tryz.f3)))))))))))))::ks) n d a a9 b0 b1 b2 b3 b4 b5 b6 b7 b8 b9 c0 c1 c2 c3 _ c5 ?_)
    cases c4 with
    | x0 c6 c7 c8 c9 d0 d1 d2 d3 d4 d5 d6 d7 d8 d9 e0 e1 =>
     try dsimp only at h
     by_cases a4:c6=true
     ·rw [if_pos a4] at h
      cases h
      exact pkk_sound TTok mix hF 7 (hs:=[.t true]) (ts:=[]) (s:=[]) (l:=[4]) (by kernel_rfl) (by kernel_rfl) (.cons a4 .nil) q
     ·rw [if_neg a4] at h
      exact pkk_sound TTok mix hF 4 (hs:=[.t false]) (ts:=[]) (s:=[0,1,2,3,4,5,6,7,8,9,10,11]) (l:=[5,7,8,55,56,57]) (by kernel_rfl) (by kernel_rfl) (.cons (vf a4) .nil) (YT hF ks n d k (wi .i64 (a+1)) c7 c8 c9 d0 d1 d2 d3 d4 d5 d6 d7 d8 d9 e0 e1 _ h q)
  ·rw [if_neg a3] at h
   cases h
   exact pkk_sound TTok mix hF 8 (hs:=[.t false]) (ts:=[]) (s:=[0,1,2,3,6,7,8,9,10,11]) (l:=[5,8]) (by kernel_rfl) (by kernel_rfl) (.cons (df a3) .nil) q
/- ringhall/ringlaw3.BufferPlays -/
def Zf (n:Nat) (c:Int) (f:(List Gm)):Option (Bool) :=
 (Ut n 16).bind fun (h:(Option Gf)×Int)=>match h with
 | (none,e) =>
  if e=0 then
   some false
  else
   some false
 | (some i,e) =>
  if e=0 then
   (XQ n i c).bind fun (j:(Option Gh)×Int×Gf)=>match j with
   | (none,b,d) =>
    if c<1 then
     if b=1 then
      some true
     else
      some false
    else
     if c > 32 then
      if b=1 then
       some true
      else
       some false
     else
      if b=0 then
       some false
      else
       some false
   | (some g,b,d) =>
    if c<1 then
     if b=1 then
      some false
     else
      some false
    else
     if c > 32 then
      if b=1 then
       some false
      else
       some false
     else
      if b=0 then
       (Z8 n f).bind fun (k:(Bool)) =>
       if k=true then
        (Z2 n 16).bind fun (l:(Gb)) =>
        (ZU n l c).bind fun (a:(Gg×Gb)) =>
        (GZ n f n 0 d.ffuse d.fsafe d.fnow d.fwait g.fslots g.fl a.1.fSlots a.1.fnow a.2.fSectors a.2.fMark a.2.fFuse a.2.fAll a.1.fdata a.1.fused a.1.fdirty).bind fun m=>match m with
        | .x0 o =>
         some o
        | .x1 p q r s z a0 t u v w a1 a2 a3 =>
         (Zc n (Gf.mk q r s p)).bind fun (x:((List Int)×Gf)) =>
         (Kl n (Gb.mk t u v w)).bind fun (y:(ByteArray×Gb)) =>
         some ((b2s x.1).toList == y.1.toList)
       else
        some true
      else
       some false
  else
   some false
theorem VP (n:Nat) (i:Int) (a1:(List Gm)) (r:Bool) (h:Zf n i a1=some r):Ret Tryz.prog 3 [(eI .i64) i,(eL Gw) a1] (eB r):=by
 refine ret_run (n:=153) (fn:=Tryz.f3) (c:=bodyOf Tryz.f3) (by kernel_rfl) (by kernel_rfl) (by kernel_rfl) (by kernel_rfl) ?_
 have hF:KC 153 (FinR Tryz.prog Tryz.f3 (eB r)):=FinR.kc' (by kernel_rfl)
 unfold Zf at h
 obtain ⟨b7,k,h⟩:=bind_some h
 match b7,k,h with
 | (none,m),k,h =>
  try dsimp only at h
  by_cases a8:m=0
  ·rw [if_pos a8] at h
   obtain rfl:=Option.some.inj h
   exact pend_sound TTok mix 12 (hs:=[.h [] [] [] (.tup [.d (.v (.pointer none)),di m]),.t false,.c,.e 55 [] (.d (.v (.bool true))) [],.c]) (by kernel_rfl) (by kernel_rfl) (by kernel_rfl) (.cons (GV n 16 _ k) (.cons (nf a8) (.cons (xnilN (P:=Tryz.prog) (T:=TT) (op:=.eql) (t:=23) (e:=62) (ty':=23) (x:=(.tmp 22)) (y:=(.const (.pointer none))) rfl (by kernel_rfl)) .nil)))
  ·rw [if_neg a8] at h
   obtain rfl:=Option.some.inj h
   exact pend_sound TTok mix 12 (hs:=[.h [] [] [] (.tup [.d (.v (.pointer none)),di m]),.t true,.c,.c]) (by kernel_rfl) (by kernel_rfl) (by kernel_rfl) (.cons (GV n 16 _ k) (.cons (nt a8) .nil))
 | (some a,m),k,h =>
  try dsimp only at h
  by_cases p:m=0
  ·rw [if_pos p] at h
   obtain ⟨b8,q,h⟩:=bind_some h
   match b8,q,h with
   | (none,j,g),q,h =>
    try dsimp only at h
    by_cases a0:i<1
    ·rw [if_pos a0] at h
     by_cases a9:j=1
     ·rw [if_pos a9] at h
      obtain rfl:=Option.some.inj h
      exact pend_sound TTok mix 19 (hs:=[.h [] [] [.box [.srf 1,.srf 2,.srf 3,di a.ffuse],.row 5 1 (a.fsafe.map (eI .u8)),.row 5 1 (a.fnow.map (eI .u8)),.row 84 2 (a.fwait.map Ge)] (.tup [.ref 0 0,di m]),.t false,.c,.e 55 [] (.d (.v (.bool false))) [],.c,.h [5,6,7,8] [] [.box [.srf 4,.srf 5,.srf 6,di g.ffuse],.none,.none,.none,.row 5 1 (g.fsafe.map (eI .u8)),.row 5 1 (g.fnow.map (eI .u8)),.row 84 2 (g.fwait.map Ge)] (.tup [.d (.v (.pointer none)),di j]),.t true,.c,.c,.t true,.c,.e 155 [] (.d (.v (.bool true))) []]) (by kernel_rfl) (by kernel_rfl) (by kernel_rfl) (.cons (GV n 16 _ k) (.cons (nf p) (.cons (xnilP (P:=Tryz.prog) (T:=TT) (op:=.eql) (t:=23) (e:=62) (ty':=23) (x:=(.tmp 22)) (y:=(.const (.pointer none))) (l:=5) (off:=0) rfl (by kernel_rfl)) (.cons (G2 n a i _ q) (.cons (dt a0) (.cons (bt a9) (.cons (xnilN (P:=Tryz.prog) (T:=TT) (op:=.eql) (t:=27) (e:=65) (ty':=27) (x:=(.tmp 40)) (y:=(.const (.pointer none))) rfl (by kernel_rfl)) .nil)))))))
     ·rw [if_neg a9] at h
      obtain rfl:=Option.some.inj h
      exact pend_sound TTok mix 19 (hs:=[.h [] [] [.box [.srf 1,.srf 2,.srf 3,di a.ffuse],.row 5 1 (a.fsafe.map (eI .u8)),.row 5 1 (a.fnow.map (eI .u8)),.row 84 2 (a.fwait.map Ge)] (.tup [.ref 0 0,di m]),.t false,.c,.e 55 [] (.d (.v (.bool false))) [],.c,.h [5,6,7,8] [] [.box [.srf 4,.srf 5,.srf 6,di g.ffuse],.none,.none,.none,.row 5 1 (g.fsafe.map (eI .u8)),.row 5 1 (g.fnow.map (eI .u8)),.row 84 2 (g.fwait.map Ge)] (.tup [.d (.v (.pointer none)),di j]),.t true,.c,.c,.t false,.c]) (by kernel_rfl) (by kernel_rfl) (by kernel_rfl) (.cons (GV n 16 _ k) (.cons (nf p) (.cons (xnilP (P:=Tryz.prog) (T:=TT) (op:=.eql) (t:=23) (e:=62) (ty':=23) (x:=(.tmp 22)) (y:=(.const (.pointer none))) (l:=5) (off:=0) rfl (by kernel_rfl)) (.cons (G2 n a i _ q) (.cons (dt a0) (.cons (bf a9) .nil))))))
    ·rw [if_neg a0] at h
     by_cases a4:i > 32
     ·rw [if_pos a4] at h
      by_cases b0:j=1
      ·rw [if_pos b0] at h
       obtain rfl:=Option.some.inj h
       exact pend_sound TTok mix 19 (hs:=[.h [] [] [.box [.srf 1,.srf 2,.srf 3,di a.ffuse],.row 5 1 (a.fsafe.map (eI .u8)),.row 5 1 (a.fnow.map (eI .u8)),.row 84 2 (a.fwait.map Ge)] (.tup [.ref 0 0,di m]),.t false,.c,.e 55 [] (.d (.v (.bool false))) [],.c,.h [5,6,7,8] [] [.box [.srf 4,.srf 5,.srf 6,di g.ffuse],.none,.none,.none,.row 5 1 (g.fsafe.map (eI .u8)),.row 5 1 (g.fnow.map (eI .u8)),.row 84 2 (g.fwait.map Ge)] (.tup [.d (.v (.pointer none)),di j]),.t false,.c,.t true,.t true,.c,.e 155 [] (.d (.v (.bool true))) []]) (by kernel_rfl) (by kernel_rfl) (by kernel_rfl) (.cons (GV n 16 _ k) (.cons (nf p) (.cons (xnilP (P:=Tryz.prog) (T:=TT) (op:=.eql) (t:=23) (e:=62) (ty':=23) (x:=(.tmp 22)) (y:=(.const (.pointer none))) (l:=5) (off:=0) rfl (by kernel_rfl)) (.cons (G2 n a i _ q) (.cons (df a0) (.cons (dt a4) (.cons (bt b0) (.cons (xnilN (P:=Tryz.prog) (T:=TT) (op:=.eql) (t:=27) (e:=65) (ty':=27) (x:=(.tmp 40)) (y:=(.const (.pointer none))) rfl (by kernel_rfl)) .nil))))))))
      ·rw [if_neg b0] at h
       obtain rfl:=Option.some.inj h
       exact pend_sound TTok mix 19 (hs:=[.h [] [] [.box [.srf 1,.srf 2,.srf 3,di a.ffuse],.row 5 1 (a.fsafe.map (eI .u8)),.row 5 1 (a.fnow.map (eI .u8)),.row 84 2 (a.fwait.map Ge)] (.tup [.ref 0 0,di m]),.t false,.c,.e 55 [] (.d (.v (.bool false))) [],.c,.h [5,6,7,8] [] [.box [.srf 4,.srf 5,.srf 6,di g.ffuse],.none,.none,.none,.row 5 1 (g.fsafe.map (eI .u8)),.row 5 1 (g.fnow.map (eI .u8)),.row 84 2 (g.fwait.map Ge)] (.tup [.d (.v (.pointer none)),di j]),.t false,.c,.t true,.t false,.c]) (by kernel_rfl) (by kernel_rfl) (by kernel_rfl) (.cons (GV n 16 _ k) (.cons (nf p) (.cons (xnilP (P:=Tryz.prog) (T:=TT) (op:=.eql) (t:=23) (e:=62) (ty':=23) (x:=(.tmp 22)) (y:=(.const (.pointer none))) (l:=5) (off:=0) rfl (by kernel_rfl)) (.cons (G2 n a i _ q) (.cons (df a0) (.cons (dt a4) (.cons (bf b0) .nil)))))))
     ·rw [if_neg a4] at h
      by_cases b1:j=0
      ·rw [if_pos b1] at h
       obtain rfl:=Option.some.inj h
       exact pend_sound TTok mix 24 (hs:=[.h [] [] [.box [.srf 1,.srf 2,.srf 3,di a.ffuse],.row 5 1 (a.fsafe.map (eI .u8)),.row 5 1 (a.fnow.map (eI .u8)),.row 84 2 (a.fwait.map Ge)] (.tup [.ref 0 0,di m]),.t false,.c,.e 55 [] (.d (.v (.bool false))) [],.c,.h [5,6,7,8] [] [.box [.srf 4,.srf 5,.srf 6,di g.ffuse],.none,.none,.none,.row 5 1 (g.fsafe.map (eI .u8)),.row 5 1 (g.fnow.map (eI .u8)),.row 84 2 (g.fwait.map Ge)] (.tup [.d (.v (.pointer none)),di j]),.t false,.c,.t false,.t false,.c,.e 155 [] (.d (.v (.bool true))) [],.c]) (by kernel_rfl) (by kernel_rfl) (by kernel_rfl) (.cons (GV n 16 _ k) (.cons (nf p) (.cons (xnilP (P:=Tryz.prog) (T:=TT) (op:=.eql) (t:=23) (e:=62) (ty':=23) (x:=(.tmp 22)) (y:=(.const (.pointer none))) (l:=5) (off:=0) rfl (by kernel_rfl)) (.cons (G2 n a i _ q) (.cons (df a0) (.cons (df a4) (.cons (nf b1) (.cons (xnilN (P:=Tryz.prog) (T:=TT) (op:=.eql) (t:=27) (e:=65) (ty':=27) (x:=(.tmp 46)) (y:=(.const (.pointer none))) rfl (by kernel_rfl)) .nil))))))))
      ·rw [if_neg b1] at h
       obtain rfl:=Option.some.inj h
       exact pend_sound TTok mix 24 (hs:=[.h [] [] [.box [.srf 1,.srf 2,.srf 3,di a.ffuse],.row 5 1 (a.fsafe.map (eI .u8)),.row 5 1 (a.fnow.map (eI .u8)),.row 84 2 (a.fwait.map Ge)] (.tup [.ref 0 0,di m]),.t false,.c,.e 55 [] (.d (.v (.bool false))) [],.c,.h [5,6,7,8] [] [.box [.srf 4,.srf 5,.srf 6,di g.ffuse],.none,.none,.none,.row 5 1 (g.fsafe.map (eI .u8)),.row 5 1 (g.fnow.map (eI .u8)),.row 84 2 (g.fwait.map Ge)] (.tup [.d (.v (.pointer none)),di j]),.t false,.c,.t false,.t true,.c,.c]) (by kernel_rfl) (by kernel_rfl) (by kernel_rfl) (.cons (GV n 16 _ k) (.cons (nf p) (.cons (xnilP (P:=Tryz.prog) (T:=TT) (op:=.eql) (t:=23) (e:=62) (ty':=23) (x:=(.tmp 22)) (y:=(.const (.pointer none))) (l:=5) (off:=0) rfl (by kernel_rfl)) (.cons (G2 n a i _ q) (.cons (df a0) (.cons (df a4) (.cons (nt b1) .nil)))))))
   | (some w,j,g),q,h =>
    try dsimp only at h
    by_cases z:i<1
    ·rw [if_pos z] at h
     by_cases b2:j=1
     ·rw [if_pos b2] at h
      obtain rfl:=Option.some.inj h
      exact pend_sound TTok mix 19 (hs:=[.h [] [] [.box [.srf 1,.srf 2,.srf 3,di a.ffuse],.row 5 1 (a.fsafe.map (eI .u8)),.row 5 1 (a.fnow.map (eI .u8)),.row 84 2 (a.fwait.map Ge)] (.tup [.ref 0 0,di m]),.t false,.c,.e 55 [] (.d (.v (.bool false))) [],.c,.h [5,6,7,8] [] [.box [.srf 4,.srf 5,.srf 6,di g.ffuse],.none,.none,.none,.row 5 1 (g.fsafe.map (eI .u8)),.row 5 1 (g.fnow.map (eI .u8)),.row 84 2 (g.fwait.map Ge),.box [.ref 0 0,di w.fslots,.srf 8],.row 69 3 (w.fl.map Ga)] (.tup [.ref 7 0,di j]),.t true,.c,.c,.t true,.c,.e 155 [] (.d (.v (.bool false))) []]) (by kernel_rfl) (by kernel_rfl) (by kernel_rfl) (.cons (GV n 16 _ k) (.cons (nf p) (.cons (xnilP (P:=Tryz.prog) (T:=TT) (op:=.eql) (t:=23) (e:=62) (ty':=23) (x:=(.tmp 22)) (y:=(.const (.pointer none))) (l:=5) (off:=0) rfl (by kernel_rfl)) (.cons (G2 n a i _ q) (.cons (dt z) (.cons (bt b2) (.cons (xnilP (P:=Tryz.prog) (T:=TT) (op:=.eql) (t:=27) (e:=65) (ty':=27) (x:=(.tmp 40)) (y:=(.const (.pointer none))) (l:=78) (off:=0) rfl (by kernel_rfl)) .nil)))))))
     ·rw [if_neg b2] at h
      obtain rfl:=Option.some.inj h
      exact pend_sound TTok mix 19 (hs:=[.h [] [] [.box [.srf 1,.srf 2,.srf 3,di a.ffuse],.row 5 1 (a.fsafe.map (eI .u8)),.row 5 1 (a.fnow.map (eI .u8)),.row 84 2 (a.fwait.map Ge)] (.tup [.ref 0 0,di m]),.t false,.c,.e 55 [] (.d (.v (.bool false))) [],.c,.h [5,6,7,8] [] [.box [.srf 4,.srf 5,.srf 6,di g.ffuse],.none,.none,.none,.row 5 1 (g.fsafe.map (eI .u8)),.row 5 1 (g.fnow.map (eI .u8)),.row 84 2 (g.fwait.map Ge),.box [.ref 0 0,di w.fslots,.srf 8],.row 69 3 (w.fl.map Ga)] (.tup [.ref 7 0,di j]),.t true,.c,.c,.t false,.c]) (by kernel_rfl) (by kernel_rfl) (by kernel_rfl) (.cons (GV n 16 _ k) (.cons (nf p) (.cons (xnilP (P:=Tryz.prog) (T:=TT) (op:=.eql) (t:=23) (e:=62) (ty':=23) (x:=(.tmp 22)) (y:=(.const (.pointer none))) (l:=5) (off:=0) rfl (by kernel_rfl)) (.cons (G2 n a i _ q) (.cons (dt z) (.cons (bf b2) .nil))))))
    ·rw [if_neg z] at h
     by_cases a2:i > 32
     ·rw [if_pos a2] at h
      by_cases b3:j=1
      ·rw [if_pos b3] at h
       obtain rfl:=Option.some.inj h
       exact pend_sound TTok mix 19 (hs:=[.h [] [] [.box [.srf 1,.srf 2,.srf 3,di a.ffuse],.row 5 1 (a.fsafe.map (eI .u8)),.row 5 1 (a.fnow.map (eI .u8)),.row 84 2 (a.fwait.map Ge)] (.tup [.ref 0 0,di m]),.t false,.c,.e 55 [] (.d (.v (.bool false))) [],.c,.h [5,6,7,8] [] [.box [.srf 4,.srf 5,.srf 6,di g.ffuse],.none,.none,.none,.row 5 1 (g.fsafe.map (eI .u8)),.row 5 1 (g.fnow.map (eI .u8)),.row 84 2 (g.fwait.map Ge),.box [.ref 0 0,di w.fslots,.srf 8],.row 69 3 (w.fl.map Ga)] (.tup [.ref 7 0,di j]),.t false,.c,.t true,.t true,.c,.e 155 [] (.d (.v (.bool false))) []]) (by kernel_rfl) (by kernel_rfl) (by kernel_rfl) (.cons (GV n 16 _ k) (.cons (nf p) (.cons (xnilP (P:=Tryz.prog) (T:=TT) (op:=.eql) (t:=23) (e:=62) (ty':=23) (x:=(.tmp 22)) (y:=(.const (.pointer none))) (l:=5) (off:=0) rfl (by kernel_rfl)) (.cons (G2 n a i _ q) (.cons (df z) (.cons (dt a2) (.cons (bt b3) (.cons (xnilP (P:=Tryz.prog) (T:=TT) (op:=.eql) (t:=27) (e:=65) (ty':=27) (x:=(.tmp 40)) (y:=(.const (.pointer none))) (l:=78) (off:=0) rfl (by kernel_rfl)) .nil))))))))
      ·rw [if_neg b3] at h
       obtain rfl:=Option.some.inj h
       exact pend_sound TTok mix 19 (hs:=[.h [] [] [.box [.srf 1,.srf 2,.srf 3,di a.ffuse],.row 5 1 (a.fsafe.map (eI .u8)),.row 5 1 (a.fnow.map (eI .u8)),.row 84 2 (a.fwait.map Ge)] (.tup [.ref 0 0,di m]),.t false,.c,.e 55 [] (.d (.v (.bool false))) [],.c,.h [5,6,7,8] [] [.box [.srf 4,.srf 5,.srf 6,di g.ffuse],.none,.none,.none,.row 5 1 (g.fsafe.map (eI .u8)),.row 5 1 (g.fnow.map (eI .u8)),.row 84 2 (g.fwait.map Ge),.box [.ref 0 0,di w.fslots,.srf 8],.row 69 3 (w.fl.map Ga)] (.tup [.ref 7 0,di j]),.t false,.c,.t true,.t false,.c]) (by kernel_rfl) (by kernel_rfl) (by kernel_rfl) (.cons (GV n 16 _ k) (.cons (nf p) (.cons (xnilP (P:=Tryz.prog) (T:=TT) (op:=.eql) (t:=23) (e:=62) (ty':=23) (x:=(.tmp 22)) (y:=(.const (.pointer none))) (l:=5) (off:=0) rfl (by kernel_rfl)) (.cons (G2 n a i _ q) (.cons (df z) (.cons (dt a2) (.cons (bf b3) .nil)))))))
     ·rw [if_neg a2] at h
      by_cases a5:j=0
      ·rw [if_pos a5] at h
       obtain ⟨b5,b6,h⟩:=bind_some h
       by_cases b4:b5=true
       ·rw [if_pos b4] at h
        obtain ⟨a6,b9,h⟩:=bind_some h
        obtain ⟨o,c0,h⟩:=bind_some h
        obtain ⟨c1,c2,h⟩:=bind_some h
        refine pkk_sound TTok mix hF 33 (hs:=[.h [] [] [.box [.srf 1,.srf 2,.srf 3,di a.ffuse],.row 5 1 (a.fsafe.map (eI .u8)),.row 5 1 (a.fnow.map (eI .u8)),.row 84 2 (a.fwait.map Ge)] (.tup [.ref 0 0,di m]),.t false,.c,.e 55 [] (.d (.v (.bool false))) [],.c,.h [5,6,7,8] [] [.box [.srf 4,.srf 5,.srf 6,di g.ffuse],.none,.none,.none,.row 5 1 (g.fsafe.map (eI .u8)),.row 5 1 (g.fnow.map (eI .u8)),.row 84 2 (g.fwait.map Ge),.box [.ref 0 0,di w.fslots,.srf 8],.row 69 3 (w.fl.map Ga)] (.tup [.ref 7 0,di j]),.t false,.c,.t false,.t false,.c,.e 155 [] (.d (.v (.bool false))) [],.c,.r (eB b5),.t false,.h [] [] [.box [di a6.fSectors,di a6.fMark,di a6.fFuse,.srf 1],.cu (rowF 86 2 (a6.fAll.map Gc)) []] (.ref 0 0),.h [180,181] [] [.box [di o.2.fSectors,di o.2.fMark,di o.2.fFuse,.srf 6],.none,.box [.ref 0 0,di o.1.fSlots,di o.1.fnow,.srf 3,.srf 4,.srf 5],.cu (mapC (fun x:Int=>Value.int .i64 x) Value.string o.1.fdata) [],.cu (mapC (fun x:Int=>Value.int .i64 x) (fun x:Int=>Value.int .i64 x) o.1.fused) [],.cu (mapC (fun x:Int=>Value.int .i64 x) Value.bool o.1.fdirty) [],.cu (rowF 86 2 (o.2.fAll.map Gc)) []] (.ref 2 0),.u (di (a1.length:Int)),.n n]) (ts:=[]) (s:=[5,75,76,77,78,79,190,180,194,191,192,193]) (l:=[5,7,8,55,56,57]) (by kernel_rfl) (by kernel_rfl) (.cons (GV n 16 _ k) (.cons (nf p) (.cons (xnilP (P:=Tryz.prog) (T:=TT) (op:=.eql) (t:=23) (e:=62) (ty':=23) (x:=(.tmp 22)) (y:=(.const (.pointer none))) (l:=5) (off:=0) rfl (by kernel_rfl)) (.cons (G2 n a i _ q) (.cons (df z) (.cons (df a2) (.cons (nf a5) (.cons (xnilP (P:=Tryz.prog) (T:=TT) (op:=.eql) (t:=27) (e:=65) (ty':=27) (x:=(.tmp 46)) (y:=(.const (.pointer none))) (l:=78) (off:=0) rfl (by kernel_rfl)) (.cons (UL n a1 _ b6) (.cons (bnf b4) (.cons (VV n 16 _ b9) (.cons (VR n a6 i _ c0) (.cons (len_ob (f:=Gw) (l:=a1)) .nil))))))))))))) (YT hF (.b 0::.s (cR (cR (cR (cR (cR (cR (cR (cR (cR (bodyOf Tryz.f3))))))))))::[]) n a1 n 0 g.ffuse g.fsafe g.fnow g.fwait w.fslots w.fl o.1.fSlots o.1.fnow o.2.fSectors o.2.fMark o.2.fFuse o.2.fAll o.1.fdata o.1.fused o.1.fdirty _ c2 ?_)
        cases c1 with
        | x0 d3 =>
         try dsimp only at h
         obtain rfl:=Option.some.inj h
         exact pend_sound TTok mix 2 (hs:=[]) (by kernel_rfl) (by kernel_rfl) (by kernel_rfl) .nil
        | x1 c3 c4 c5 c6 d4 d5 c7 c8 c9 d0 d6 d7 d8 =>
         try dsimp only at h
         obtain ⟨a3,d1,h⟩:=bind_some h
         obtain ⟨a7,d2,h⟩:=bind_some h
         obtain rfl:=Option.some.inj h
         exact pend_sound TTok mix 4 (hs:=[.h [0,1,2,3] [] [.box [.srf 4,.srf 5,.srf 6,di a3.2.ffuse],.none,.none,.none,.row 5 1 (a3.2.fsafe.map (eI .u8)),.row 5 1 (a3.2.fnow.map (eI .u8)),.row 84 2 (a3.2.fwait.map Ge)] (.d (.sl (a3.1.map (eI .u8)))),.e 20 [] (.d (.v (.string (b2s a3.1)))) [],.c,.h [5,6] [] [.box [di a7.2.fSectors,di a7.2.fMark,di a7.2.fFuse,.srf 2],.none,.cu (rowF 86 2 (a7.2.fAll.map Gc)) []] (.d (.v (.string a7.1)))]) (by kernel_rfl) (by kernel_rfl) (by kernel_rfl) (.cons (V0 n (Gf.mk c4 c5 c6 c3) _ d1) (.cons (xb2sD (L:=a3.1) (P:=Tryz.prog) (T:=TT) (src:=35) (dst:=9) (e:=5) (s:=1) (x:=(.tmp 145)) (by kernel_rfl) (by kernel_rfl) (by kernel_rfl)) (.cons (VI n (Gb.mk c7 c8 c9 d0) _ d2) .nil)))
       ·rw [if_neg b4] at h
        obtain rfl:=Option.some.inj h
        exact pend_sound TTok mix 29 (hs:=[.h [] [] [.box [.srf 1,.srf 2,.srf 3,di a.ffuse],.row 5 1 (a.fsafe.map (eI .u8)),.row 5 1 (a.fnow.map (eI .u8)),.row 84 2 (a.fwait.map Ge)] (.tup [.ref 0 0,di m]),.t false,.c,.e 55 [] (.d (.v (.bool false))) [],.c,.h [5,6,7,8] [] [.box [.srf 4,.srf 5,.srf 6,di g.ffuse],.none,.none,.none,.row 5 1 (g.fsafe.map (eI .u8)),.row 5 1 (g.fnow.map (eI .u8)),.row 84 2 (g.fwait.map Ge),.box [.ref 0 0,di w.fslots,.srf 8],.row 69 3 (w.fl.map Ga)] (.tup [.ref 7 0,di j]),.t false,.c,.t false,.t false,.c,.e 155 [] (.d (.v (.bool false))) [],.c,.r (eB b5),.t true]) (by kernel_rfl) (by kernel_rfl) (by kernel_rfl) (.cons (GV n 16 _ k) (.cons (nf p) (.cons (xnilP (P:=Tryz.prog) (T:=TT) (op:=.eql) (t:=23) (e:=62) (ty':=23) (x:=(.tmp 22)) (y:=(.const (.pointer none))) (l:=5) (off:=0) rfl (by kernel_rfl)) (.cons (G2 n a i _ q) (.cons (df z) (.cons (df a2) (.cons (nf a5) (.cons (xnilP (P:=Tryz.prog) (T:=TT) (op:=.eql) (t:=27) (e:=65) (ty':=27) (x:=(.tmp 46)) (y:=(.const (.pointer none))) (l:=78) (off:=0) rfl (by kernel_rfl)) (.cons (UL n a1 _ b6) (.cons (bnt (vf b4)) .nil))))))))))
      ·rw [if_neg a5] at h
       obtain rfl:=Option.some.inj h
       exact pend_sound TTok mix 24 (hs:=[.h [] [] [.box [.srf 1,.srf 2,.srf 3,di a.ffuse],.row 5 1 (a.fsafe.map (eI .u8)),.row 5 1 (a.fnow.map (eI .u8)),.row 84 2 (a.fwait.map Ge)] (.tup [.ref 0 0,di m]),.t false,.c,.e 55 [] (.d (.v (.bool false))) [],.c,.h [5,6,7,8] [] [.box [.srf 4,.srf 5,.srf 6,di g.ffuse],.none,.none,.none,.row 5 1 (g.fsafe.map (eI .u8)),.row 5 1 (g.fnow.map (eI .u8)),.row 84 2 (g.fwait.map Ge),.box [.ref 0 0,di w.fslots,.srf 8],.row 69 3 (w.fl.map Ga)] (.tup [.ref 7 0,di j]),.t false,.c,.t false,.t true,.c,.c]) (by kernel_rfl) (by kernel_rfl) (by kernel_rfl) (.cons (GV n 16 _ k) (.cons (nf p) (.cons (xnilP (P:=Tryz.prog) (T:=TT) (op:=.eql) (t:=23) (e:=62) (ty':=23) (x:=(.tmp 22)) (y:=(.const (.pointer none))) (l:=5) (off:=0) rfl (by kernel_rfl)) (.cons (G2 n a i _ q) (.cons (df z) (.cons (df a2) (.cons (nt a5) .nil)))))))
  ·rw [if_neg p] at h
   obtain rfl:=Option.some.inj h
   exact pend_sound TTok mix 12 (hs:=[.h [] [] [.box [.srf 1,.srf 2,.srf 3,di a.ffuse],.row 5 1 (a.fsafe.map (eI .u8)),.row 5 1 (a.fnow.map (eI .u8)),.row 84 2 (a.fwait.map Ge)] (.tup [.ref 0 0,di m]),.t true,.c,.c]) (by kernel_rfl) (by kernel_rfl) (by kernel_rfl) (.cons (GV n 16 _ k) (.cons (nt p) .nil))
def Y9 (x:Gm):Prop:=(fun a=>(Lit.int .i64 a).wf=true) x.fKind∧(fun a=>(Lit.int .i64 a).wf=true) x.fN∧(okL 1 (fun a=>(Lit.int .u8 a).wf=true)) x.fData∧(okL 1 (fun _=>True)) x.fKept∧True
theorem Ja:Br (.pair (.int .i64) (.pair (.int .i64) (.pair (.slice 1 (.int .u8)) (.pair (.slice 1 .bool) .unit)))) (fun x:Gm=>[.v (.int .i64 x.fKind),.v (.int .i64 x.fN),.sl (x.fData.map (eI .u8)),.sl (x.fKept.map eB)]) Y9:=br_map (br_pair (br_int .i64) (br_pair (br_int .i64) (br_pair (br_slice (f:=(eI .u8)) (ok:=(fun a=>(Lit.int .u8 a).wf=true)) (br_int .u8) (fun _=>rfl) (by decide)) (br_pair (br_slice (f:=eB) (ok:=(fun _=>True)) br_bool (fun _=>rfl) (by decide)) br_unit)))) (fun p=>Gm.mk p.1 p.2.1 p.2.2.1 p.2.2.2.1) (fun p h=>⟨rfl,h⟩)
theorem BufferPlays_walk (H:∀ (a0:Int) (a1:(List Gm)),(fun a=>(Lit.int .i64 a).wf=true) a0→(okL 64 Y9) a1→∃ n,Zf n a0 a1=some true) (w:World) (v0 v1:Value) (b:rep.Arg w (.int .i64) v0) (c:rep.Arg w (.slice 64 (.pair (.int .i64) (.pair (.int .i64) (.pair (.slice 1 (.int .u8)) (.pair (.slice 1 .bool) .unit))))) v1):Calls Tryz.prog 3 #[v0,v1] w (help.Ret (.bool true) w):=by
 obtain ⟨a0,o0,r0⟩:=arg_one (br_int .i64) (by rfl) b
 obtain ⟨a1,o1,r1⟩:=arg_one (br_slice (f:=Gw) (ok:=Y9) Ja (fun _=>rfl) (by decide)) (by rfl) c
 obtain ⟨n,hn⟩:=H a0 a1 o0 o1
 exact walk_of (VP n a0 a1 true hn) (RT_cons r0 (RT_cons r1 RT_nil))
/- FRAME BufferPlays; ringhall/ringlaw3.BufferPlays; (.int .i64) | (.slice 64 (.pair (.int .i64) (.pair (.int .i64) (.pair (.slice 1 (.int .u8)) (.pair (.slice 1 .bool) .unit))))); .int .i64 0 | .slice none 0 0 -/
end Go.Proofs.YtofjjaagjkbeaaaGreat.pv
